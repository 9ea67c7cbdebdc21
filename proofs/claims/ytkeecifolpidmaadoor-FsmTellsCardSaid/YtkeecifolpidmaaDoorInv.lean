/- A region that draws its order, by an invariant; what a slot of fsm.make_ may hold, and that it is kept while only the table turns. -/
import Derived.Test.YtkeecifolpidmaaDoorEarly
import Derived.Test.YtkeecifolpidmaaDoorRow
namespace Go.Proofs.YtkeecifolpidmaaDoor
open Go.RowKit

/-! ### A region that draws its order, by an invariant: each operation that may come up, from each state that may be -/
section
variable {P : Program} {ops : Array Oper} {Q : Exit → Act → World → Prop}

theorem count_set_true : ∀ (l : List Bool) (i : Nat), l.getD i true = false → (l.set i true).count false + 1 = l.count false
  | [], i, h => by simp at h
  | b :: l, 0, h => by
    simp at h; subst h; simp
  | b :: l, i + 1, h => by
    have := count_set_true l i (by simpa using h)
    simp only [List.set_cons_succ, List.count_cons]
    omega

theorem count_pos_of : ∀ (l : List Bool) (i : Nat), l.getD i true = false → 0 < l.count false := fun l i h => by
  have := count_set_true l i h
  omega

theorem wpAny_inv (I : Array Bool → Act → World → Prop)
    (step : ∀ listed a w i o, I listed a w → ops[i]? = some o → listed.getD i true = false → (∀ e ∈ o.after, Region.binds .any e = true → listed.getD e.on false = true) →
      wpOp P ops Q i (I (listed.setIfInBounds i true)) a w)
    (done : ∀ listed a w, I listed a w → Region.ready .any ops listed = [] → Q .normal a w) :
    ∀ (fuel : Nat) (listed : Array Bool) (a : Act) (w : World), I listed a w → listed.toList.count false ≤ fuel → wpAny P .any ops Q fuel listed a w
  | 0, listed, a, w, h, hc => by
    have hr : Region.ready .any ops listed = [] := by
      rw [List.eq_nil_iff_forall_not_mem]
      intro i hi
      have h1 := (mem_ready.1 hi).1
      have := count_pos_of listed.toList i (by simpa using h1)
      omega
    exact ⟨hr, done _ _ _ h hr⟩
  | fuel + 1, listed, a, w, h, hc => by
    refine ⟨fun hr => done _ _ _ h hr, fun i hi => ?_⟩
    obtain ⟨h1, o, ho, he⟩ := mem_ready.1 hi
    refine wpOp_mono (fun a' w' h' => ?_) (step listed a w i o h ho h1 he)
    refine wpAny_inv I step done fuel _ a' w' h' ?_
    have := count_set_true listed.toList i (by simpa using h1)
    simp only [Array.toList_setIfInBounds]
    omega

/-- Every edge leads to an operation ahead. -/
def acyc (ops : Array Oper) : Bool := (List.range ops.size).all fun i => ((ops[i]?).map fun o => o.after.all fun e => decide (e.on < i)).getD true

theorem acyc_all (ha : acyc ops = true) {listed : Array Bool} (hs : listed.size = ops.size) (hr : Region.ready .any ops listed = []) : ∀ i, i < ops.size → listed.getD i false = true := by
  intro i
  induction i using Nat.strongRecOn with
  | ind i ih =>
    intro hi
    cases hb : listed.getD i false with
    | true => rfl
    | false =>
      exfalso
      have hm : i ∈ Region.ready .any ops listed := by
        refine mem_ready.2 ⟨?_, ops[i], Array.getElem?_eq_getElem hi, fun e he _ => ?_⟩
        · simpa [Array.getD_eq_getD_getElem?, Array.getElem?_eq_getElem (hs ▸ hi : i < listed.size)] using hb
        · have h1 := List.all_eq_true.1 ha i (List.mem_range.2 hi)
          simp only [Array.getElem?_eq_getElem hi, Option.map_some, Option.getD_some] at h1
          have h2 := Array.all_eq_true'.1 h1 e he
          have h3 : e.on < i := by simpa using h2
          exact ih e.on h3 (by omega)
      rw [hr] at hm
      cases hm
end

/-! ### What a slot may hold -/

/-- Nothing but block T has turned of what was there. -/
structure Keeps (T : Nat) (w w' : World) : Prop where
  os : w'.os = w.os
  tape : w'.tape = w.tape
  output : w'.output = w.output
  size : w.heap.size ≤ w'.heap.size
  block : ∀ k, k < w.heap.size → k ≠ T → w'.heap[k]? = w.heap[k]?

theorem Keeps.refl (T : Nat) (w : World) : Keeps T w w := ⟨rfl, rfl, rfl, Nat.le_refl _, fun _ _ _ => rfl⟩
theorem Keeps.trans {T : Nat} {a b c : World} (h : Keeps T a b) (k : Keeps T b c) : Keeps T a c :=
  ⟨k.os.trans h.os, k.tape.trans h.tape, k.output.trans h.output, Nat.le_trans h.size k.size, fun i hi ht => (k.block i (Nat.lt_of_lt_of_le hi h.size) ht).trans (h.block i hi ht)⟩
theorem Keeps.of_below {T : Nat} {w w' : World} (h : Below w.heap.size w w') : Keeps T w w' := ⟨h.os, h.tape, h.output, h.size, fun k hk _ => h.block k hk⟩
theorem Keeps.below {T : Nat} {w w' : World} (h : Keeps T w w') (ht : w.heap.size ≤ T) : Below w.heap.size w w' :=
  ⟨h.os, h.tape, h.output, h.size, fun k hk => h.block k hk (by omega)⟩
theorem Keeps.drew {T : Nat} {a w : World} (h : Keeps T a w) : Keeps T a { w with drawn := w.drawn + 1 } := ⟨h.os, h.tape, h.output, h.size, h.block⟩
theorem Keeps.alloc {T : Nat} (w : World) (o : Obj) : Keeps T w (w.alloc o) := .of_below ((Below.refl _ _).alloc (Nat.le_refl _) o)
theorem Keeps.cell {T : Nat} {w w' : World} (h : Keeps T w w') {g o : Nat} {u : Value} (hg : g ≠ T) (hc : w.cell? ⟨g, o, none⟩ = some u) : w'.cell? ⟨g, o, none⟩ = some u := by
  have hlt := World.block_lt_of_cell? w ⟨g, o, none⟩ hc
  rw [World.cell?_of_block (w := w) (h.block g hlt hg)]
  exact hc

inductive AV where
  | cell (s t : Int) (b : Bool)
  | u16s (l : List Int)
  | cells (n : Nat) (cs : List Value)
  | two (x1 x2 : List Value)
  | tbl
  | pcell (s t : Int) (b : Bool)
  | any

def Holds (T : Nat) (w : World) : AV → Value → Prop
  | .cell s t b, v => v = .agg #[.int .u16 s, .int .u8 t, .bool b]
  | .u16s l, v => ∃ g, v = .slice (some ⟨g, 0, none⟩) l.length l.length ∧ g ≠ T ∧ ∀ k (h : k < l.length), w.cell? ⟨g, k, none⟩ = some (.int .u16 l[k])
  | .cells n cs, v => ∃ g cap, v = .slice (some ⟨g, 0, none⟩) n cap ∧ g ≠ T ∧ ∀ j u, cs[j]? = some u → w.cell? ⟨g, j, none⟩ = some u
  | .two x1 x2, v => ∃ g g1 g2 c1 c2, v = .slice (some ⟨g, 0, none⟩) 2 2 ∧ g ≠ T ∧ g1 ≠ T ∧ g2 ≠ T ∧
      w.cell? ⟨g, 0, none⟩ = some (.slice (some ⟨g1, 0, none⟩) 4 c1) ∧ w.cell? ⟨g, 1, none⟩ = some (.slice (some ⟨g2, 0, none⟩) 4 c2) ∧
      (∀ j u, x1[j]? = some u → w.cell? ⟨g1, j, none⟩ = some u) ∧ (∀ j u, x2[j]? = some u → w.cell? ⟨g2, j, none⟩ = some u)
  | .tbl, v => v = .pointer (some ⟨T, 0, none⟩)
  | .pcell s t b, v => ∃ g, v = .pointer (some ⟨g, 0, none⟩) ∧ g ≠ T ∧ w.cell? ⟨g, 0, none⟩ = some (.int .u16 s) ∧ w.cell? ⟨g, 1, none⟩ = some (.int .u8 t) ∧ w.cell? ⟨g, 2, none⟩ = some (.bool b)
  | .any, _ => True

theorem Holds.keep {T : Nat} {w w' : World} {av : AV} {v : Value} (h : Holds T w av v) (k : Keeps T w w') : Holds T w' av v := by
  cases av with
  | cell s t b => exact h
  | u16s l => obtain ⟨g, hv, hg, hc⟩ := h; exact ⟨g, hv, hg, fun i hi => k.cell hg (hc i hi)⟩
  | cells n cs => obtain ⟨g, cap, hv, hg, hc⟩ := h; exact ⟨g, cap, hv, hg, fun j u hj => k.cell hg (hc j u hj)⟩
  | two x1 x2 =>
    obtain ⟨g, g1, g2, c1, c2, hv, hg, hg1, hg2, a0, a1, b1, b2⟩ := h
    exact ⟨g, g1, g2, c1, c2, hv, hg, hg1, hg2, k.cell hg a0, k.cell hg a1, fun j u hj => k.cell hg1 (b1 j u hj), fun j u hj => k.cell hg2 (b2 j u hj)⟩
  | tbl => exact h
  | pcell s t b => obtain ⟨g, hv, hg, h0, h1, h2⟩ := h; exact ⟨g, hv, hg, k.cell hg h0, k.cell hg h1, k.cell hg h2⟩
  | any => trivial

end Go.Proofs.YtkeecifolpidmaaDoor
