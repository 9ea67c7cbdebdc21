/- One operation of fsm.make_, from what its operands hold: what it leaves (a verified abstract run of the kinds of operation that make_ has). -/
import Derived.Test.YtkeecifolpidmaaDoorInv
namespace Go.Proofs.YtkeecifolpidmaaDoor
open Go.RowKit

abbrev Env := List (Tmp × AV)
def look (G : Env) (t : Tmp) : Option AV := (G.find? fun p => p.1 == t).map (·.2)

inductive Eff where
  | val (av : AV)
  | row (ev : Nat) (cs : List Value)

/-- The value of a part that is a cell. -/
def cellPart (G : Env) (p : Nat × Operand) : Option (Nat × Value) :=
  match p.2 with
  | .tmp t => match look G t with | some (.cell s n b) => some (p.1, .agg #[.int .u16 s, .int .u8 n, .bool b]) | _ => none
  | _ => none
def constPart (p : Nat × Operand) : Option (Nat × Value) := match p.2 with | .const v => some (p.1, v) | _ => none
def asU16 : Value → Option Int | .int .u16 n => some n | _ => none

def zeros40 (n : Nat) : Array Value := (Array.range (n * 3)).map (#[Value.int .u16 0, .int .u8 0, .bool false][· % (#[Value.int .u16 0, .int .u8 0, .bool false] : Array Value).size]!)
def zeros24 (n : Nat) : Array Value := (Array.range (n * 1)).map (#[Value.int .u16 0][· % (#[Value.int .u16 0] : Array Value).size]!)

def inferBuild (G : Env) (ty n : Nat) (parts : List (Nat × Operand)) : Option Eff :=
  if 0 < n ∧ n ≤ 10 then
    if ty = 34 then do
      let ps ← parts.mapM constPart
      let cells ← Instr.fill (fun i => some (i * 1, 1)) (zeros24 n) ps
      let l ← cells.toList.mapM asU16
      if l.length = n then some (.val (.u16s l)) else none
    else if ty = 54 then do
      let ps ← parts.mapM (cellPart G)
      let cells ← Instr.fill (fun i => some (i * 3, 3)) (zeros40 n) ps
      if cells.size = n * 3 then some (.val (.cells n cells.toList)) else none
    else if ty = 57 ∧ n = 2 then
      match parts with
      | [(0, .tmp t1), (1, .tmp t2)] => match look G t1, look G t2 with
        | some (.cells 4 x1), some (.cells 4 x2) => if x1.length = 12 ∧ x2.length = 12 then some (.val (.two x1 x2)) else none
        | _, _ => none
      | _ => none
    else none
  else none

def inferCall (G : Env) (f : Nat) (args : List Operand) : Option Eff :=
  if f = 22 then
    match args with
    | [.const (.int .u8 st), .const (.slice none 0 0)] => some (.val (.cell 0 st true))
    | [.const (.int .u8 st), .tmp t] => match look G t with
      | some (.u16s l) => if l.length ≤ 1000 then some (.val (.cell (orAll l) st true)) else none
      | _ => none
    | _ => none
  else if f = 24 then
    match args with
    | [.const (.int .u16 a)] => some (.val (.cells 4 (cl (orAll [a]) 2 true ++ cl (orAll [a]) 3 true ++ cl (orAll [a]) 4 true ++ cl (orAll [a]) 5 true)))
    | _ => none
  else if f = 23 then
    match args with
    | [.tmp t] => match look G t with
      | some (.two x1 x2) => if x1.length = 12 ∧ x2.length = 12 ∧ x1.all (·.oneCell') = true ∧ x2.all (·.oneCell') = true then some (.val (.cells 10 (nv ++ nv ++ x1 ++ x2))) else none
      | _ => none
    | _ => none
  else if f = 21 then
    match args with
    | [.tmp t1, .const (.int .i64 (.ofNat ev)), .tmp t2] => match look G t1, look G t2 with
      | some .tbl, some (.cells n cs) => if ev < 16 ∧ n ≤ 10 ∧ cs.length = n * 3 ∧ cs.all (·.oneCell') = true then some (.row ev cs) else none
      | _, _ => none
    | _ => none
  else none

def inferOp (G : Env) (o : Oper) : Option Eff :=
  match o.op with
  | .move x | .assign x => match x with | .tmp t => (look G t).map .val | .const _ => some (.val .any) | _ => none
  | .load ty x =>
    if ty = 40 then match x with
      | .global g => if g = 1 then some (.val (.cell 0 0 false)) else none
      | .tmp t => match look G t with | some (.pcell s n b) => some (.val (.cell s n b)) | _ => none
      | _ => none
    else none
  | .call c => match c.callee with | .value (.func f) => inferCall G f c.args.toList | _ => none
  | .buildSlice ty n parts => inferBuild G ty n parts.toList
  | _ => none

/-- What is given of the program's variable, and of the table's block. -/
structure Ground (T : Nat) (w : World) : Prop where
  n0 : w.cell? ⟨1, 0, none⟩ = some (.int .u16 0)
  n1 : w.cell? ⟨1, 1, none⟩ = some (.int .u8 0)
  n2 : w.cell? ⟨1, 2, none⟩ = some (.bool false)
  nT : T ≠ 1
  lt : T < w.heap.size

theorem Ground.keep {T : Nat} {w w' : World} (h : Ground T w) (k : Keeps T w w') : Ground T w' :=
  ⟨k.cell (Ne.symm h.nT) h.n0, k.cell (Ne.symm h.nT) h.n1, k.cell (Ne.symm h.nT) h.n2, h.nT, Nat.lt_of_lt_of_le h.lt k.size⟩

theorem run_load40 (w : World) (g : Nat) (s t : Int) (b : Bool) (h0 : w.cell? ⟨g, 0, none⟩ = some (.int .u16 s)) (h1 : w.cell? ⟨g, 1, none⟩ = some (.int .u8 t)) (h2 : w.cell? ⟨g, 2, none⟩ = some (.bool b)) :
    (loadVar 40 ⟨g, 0, none⟩).run Tryd.prog w = .ok (.agg #[.int .u16 s, .int .u8 t, .bool b]) w := by
  have hl := run_loadCells_list (P := Tryd.prog) w ⟨g, 0, none⟩ [.int .u16 s, .int .u8 t, .bool b] (fun j v hj => by
    match j with
    | 0 => simp at hj; subst hj; exact h0
    | 1 => simp at hj; subst hj; exact h1
    | 2 => simp at hj; subst hj; exact h2
    | j + 3 => simp at hj)
  have hag : (isAgg 40).run Tryd.prog w = .ok true w := by simp [isAgg, run_underlying Tryd.underlying40]
  simp only [List.length_cons, List.length_nil, Nat.zero_add, Nat.reduceAdd] at hl
  simp [loadVar, hag, hl]

theorem run_callFunc {P : Program} {f : FuncId} {fn : Func} (hf : P.funcs[f]? = some fn) (hname : (fn.name == "runtime.NumGoroutine") = false) (hb : fn.body.isNone = false) (args : Array Value) (w : World) :
    (callFunc f args).run P w = .ok (.enter f args) w := by
  unfold callFunc
  simp only [Sem.run_bind, run_program, Result.andThen_ok, hf, hname, hb]
  rfl

theorem run_enter {P : Program} {f : FuncId} {fn : Func} (hf : P.funcs[f]? = some fn) (hname : (fn.name == "runtime.NumGoroutine") = false) (hb : fn.body.isNone = false) (ρ : Operand → Value) (hρ : ρ (.func f) = .func (.func f) #[] #[])
    (o : Oper) (args : Array Operand) (tys : Array TypeId) (ho : o.op = .call { callee := .value (.func f), args := args, argTypes := tys }) (w : World) :
    (execOp ρ o).run P w = .ok (.enter f (args.map ρ)) w := by
  have h := run_callFunc hf hname hb (args.map ρ) w
  simp [execOp, ho, resolve, hρ, Deferred.ofValue, invoke, h]

theorem wp_enter {P : Program} {f : FuncId} {fn : Func} (hf : P.funcs[f]? = some fn) (hname : (fn.name == "runtime.NumGoroutine") = false) (hb : fn.body.isNone = false)
    {o : Oper} {args : Array Operand} {tys : Array TypeId} (ho : o.op = .call { callee := .value (.func f), args := args, argTypes := tys })
    {a : Act} {w : World} {K : Act → World → Prop} {Q : Exit → Act → World → Prop} {R : Ending → World → Prop} (hc : Calls P f (args.map a.eval) w R)
    (hR : ∀ e w', R e w' → ∃ v, e = .returned v ∧ K (a.put o.dst v) w') : o.wp P a w K Q := by
  unfold Oper.wp
  rw [run_enter hf hname hb a.eval rfl o args tys ho w]
  refine Calls.mono hc fun e w' h => ?_
  obtain ⟨v, rfl, hK⟩ := hR e w' h
  exact hK

theorem run_buildSlice {P : Program} {t elem : TypeId} {i : TypeInfo} {z : Value} {size n : Nat} (hu : P.underlying t = some (.slice elem)) (hi : P.info? elem = some i) (hz : i.zero = some z) (hs : i.size = size)
    (h0 : n * size ≠ 0) (hle : n * size ≤ 2 ^ 24) (ps : Array (Nat × Value)) (cells : Array Value)
    (hf : Instr.fill (fun j => some (j * size, size)) ((Array.range (n * size)).map (z.cells[· % z.cells.size]!)) ps.toList = some cells) (w : World) :
    (Instr.buildSlice t n ps).run P w = .ok (.slice (some ⟨w.heap.size, 0, none⟩) n n) (w.alloc (.cells cells elem)) := by
  have hle' : ¬ 16777216 < n * size := by simpa using hle
  simp [Instr.buildSlice, run_underlying hu, sizeOf, typeInfo, zeroValue, hi, hz, hs, h0, hle', hf, newRow]

theorem info24 : (Tryd.prog.info? 24).map (fun i => (i.zero, i.size, i.bytes)) = some (some (.int .u16 0), 1, 2) := by kernel_rfl
theorem info54 : (Tryd.prog.info? 54).map (fun i => (i.zero, i.size, i.bytes)) = some (some (.slice none 0 0), 1, 24) := by kernel_rfl

/-- What is known of the slots that an operation reads. -/
def Given (T : Nat) (G : Env) (a : Act) (w : World) (o : Oper) : Prop :=
  ∀ t, .tmp t ∈ o.op.operands → ∀ av, look G t = some av → Holds T w av (a.tmps.getD t undef)

/-- What is left to be shown behind an operation. -/
def Onward (T : Nat) (w : World) (tab : List Value) (a : Act) (d : Option Tmp) (K : Act → World → Prop) : Eff → Prop
  | .val av => ∀ v w', Keeps T w w' → w'.heap[T]? = w.heap[T]? → Holds T w' av v → K (a.put d v) w'
  | .row ev cs => ∀ v w', Keeps T w w' → w'.heap[T]? = some (.cells (tab.take (ev * 30) ++ cs ++ tab.drop (ev * 30 + cs.length)).toArray 51 (0, 0)) → K (a.put d v) w'

theorem Onward.same {T : Nat} {w w' : World} {tab : List Value} {a : Act} {d : Option Tmp} {K : Act → World → Prop} {av : AV} (h : Onward T w tab a d K (.val av)) {v : Value} (hb : Below w.heap.size w w') (hT : T < w.heap.size) (hv : Holds T w' av v) : K (a.put d v) w' :=
  h v w' (.of_below hb) (hb.block T hT) hv

theorem wp_value {P : Program} {o : Oper} {a : Act} {w w' : World} {v : Value} {K : Act → World → Prop} {Q : Exit → Act → World → Prop} (h : (execOp a.eval o).run P w = .ok (.value v) w') (hK : K (a.put o.dst v) w') : o.wp P a w K Q := by
  unfold Oper.wp
  rw [h]
  exact hK

theorem mapM_spec {α β : Type} (f : α → Option β) (g : α → β) : ∀ (l : List α) (r : List β), (∀ x ∈ l, ∀ y, f x = some y → g x = y) → l.mapM f = some r → l.map g = r
  | [], r, _, h => by simp at h; simp [h]
  | x :: l, r, hx, h => by
    simp only [List.mapM_cons, Option.bind_eq_bind, Option.bind_eq_some_iff] at h
    obtain ⟨y, hy, ys, hys, hr⟩ := h
    have e1 := hx x (by simp) y hy
    have e2 := mapM_spec f g l ys (fun z hz => hx z (by simp [hz])) hys
    simp at hr
    rw [List.map_cons, e1, e2, hr]

theorem mapM_u16 : ∀ (l : List Value) (r : List Int), l.mapM asU16 = some r → l = r.map (Value.int .u16)
  | [], r, h => by simp at h; simp [h]
  | x :: l, r, h => by
    simp only [List.mapM_cons, Option.bind_eq_bind, Option.bind_eq_some_iff] at h
    obtain ⟨y, hy, ys, hys, hr⟩ := h
    simp at hr
    subst hr
    have := mapM_u16 l ys hys
    rw [List.map_cons, ← this]
    congr 1
    unfold asU16 at hy
    split at hy
    · simp at hy; rw [hy]
    · cases hy

theorem cell_new_row {w : World} {cs : Array Value} {e : TypeId} {j : Nat} {u : Value} (h : cs.toList[j]? = some u) : (w.alloc (.cells cs e)).cell? ⟨w.heap.size, j, none⟩ = some u := by
  have : (w.alloc (.cells cs e)).heap[w.heap.size]? = some (.cells cs e) := heap_alloc_new _ _
  simp only [World.cell?, this]
  simpa using h

theorem fill_two (g1 c1 g2 c2 : Nat) : Instr.fill (fun j => some (j * 1, 1)) ((Array.range (2 * 1)).map ((Value.slice none 0 0).cells[· % (Value.slice none 0 0).cells.size]!))
    [(0, .slice (some ⟨g1, 0, none⟩) 4 c1), (1, .slice (some ⟨g2, 0, none⟩) 4 c2)] = some #[.slice (some ⟨g1, 0, none⟩) 4 c1, .slice (some ⟨g2, 0, none⟩) 4 c2] := by kernel_rfl

set_option maxHeartbeats 400000 in
theorem build_ok {T : Nat} {G : Env} {o : Oper} {a : Act} {w : World} {tab : List Value} {K : Act → World → Prop} {Q : Exit → Act → World → Prop} {eff : Eff} {ty n : Nat} {parts : Array (Nat × Operand)} (ho : o.op = .buildSlice ty n parts)
    (hi : inferBuild G ty n parts.toList = some eff) (hg : Given T G a w o) (gr : Ground T w) (h : Onward T w tab a o.dst K eff) : o.wp Tryd.prog a w K Q := by
  have hex : (execOp a.eval o).run Tryd.prog w = ((Instr.buildSlice ty n (parts.map fun p => (p.1, a.eval p.2))).run Tryd.prog w).andThen fun v w' => .ok (.value v) w' := by
    simp [execOp, ho]
  have hop : ∀ p ∈ parts.toList, p.2 ∈ o.op.operands := fun p hp => by
    simp only [ho, Op.operands]
    simp
    exact ⟨p.1, by simpa using hp⟩
  unfold inferBuild at hi
  split at hi
  case isFalse => cases hi
  case isTrue hn =>
  split at hi
  case isTrue h34 =>
    subst h34
    simp only [Option.bind_eq_bind, Option.bind_eq_some_iff] at hi
    obtain ⟨ps, hps, cells, hf, l, hl, hif⟩ := hi
    split at hif
    case isFalse => cases hif
    case isTrue hln =>
    cases hif
    obtain ⟨i0, hinf, hz0, hz1, hz2⟩ := info_parts info24
    have hmap := mapM_spec constPart (fun p => (p.1, a.eval p.2)) parts.toList ps (fun p _ y hy => by
      unfold constPart at hy
      split at hy
      · rename_i v hv; cases hy; rw [hv]; rfl
      · cases hy) hps
    have hrun := run_buildSlice (P := Tryd.prog) (t := 34) (n := n) Tryd.underlying34 hinf hz0 hz1 (by omega) (by omega) (parts.map fun p => (p.1, a.eval p.2)) cells (by
      rw [Array.toList_map, hmap]; exact hf) w
    rw [hrun] at hex
    refine wp_value hex (h.same ((Below.refl _ _).alloc (Nat.le_refl _) _) gr.lt ?_)
    have hcl := mapM_u16 _ _ hl
    subst hln
    refine ⟨w.heap.size, rfl, by have := gr.lt; omega, fun k hk => cell_new_row ?_⟩
    rw [hcl]
    simp [hk]
  case isFalse =>
  split at hi
  case isTrue h54 =>
    subst h54
    simp only [Option.bind_eq_bind, Option.bind_eq_some_iff] at hi
    obtain ⟨ps, hps, cells, hf, hif⟩ := hi
    split at hif
    case isFalse => cases hif
    case isTrue hln =>
    cases hif
    obtain ⟨i0, hinf, hz0, hz1, hz2⟩ := info_parts info40
    have hmap := mapM_spec (cellPart G) (fun p => (p.1, a.eval p.2)) parts.toList ps (fun p hp y hy => by
      unfold cellPart at hy
      split at hy
      · rename_i t ht
        split at hy
        · rename_i s n b hlk
          cases hy
          have := hg t (ht ▸ hop p hp) _ hlk
          rw [ht]
          show (p.1, a.tmps.getD t undef) = _
          rw [this]
        · cases hy
      · cases hy) hps
    have hrun := run_buildSlice (P := Tryd.prog) (t := 54) (n := n) Tryd.underlying54 hinf hz0 hz1 (by omega) (by omega) (parts.map fun p => (p.1, a.eval p.2)) cells (by
      rw [Array.toList_map, hmap]; exact hf) w
    rw [hrun] at hex
    refine wp_value hex (h.same ((Below.refl _ _).alloc (Nat.le_refl _) _) gr.lt ?_)
    exact ⟨w.heap.size, n, rfl, by have := gr.lt; omega, fun j u hj => cell_new_row hj⟩
  case isFalse =>
  split at hi
  case isFalse => cases hi
  case isTrue h57 =>
    obtain ⟨rfl, rfl⟩ := h57
    split at hi
    case h_2 => cases hi
    case h_1 t1 t2 hparts =>
    split at hi
    case h_2 => cases hi
    case h_1 x1 x2 l1 l2 =>
    split at hi
    case isFalse => cases hi
    case isTrue hlen =>
    cases hi
    obtain ⟨i0, hinf, hz0, hz1, hz2⟩ := info_parts info54
    obtain ⟨g1, c1, hv1, hg1, hc1⟩ := hg t1 (hop (0, .tmp t1) (by simp [hparts])) _ l1
    obtain ⟨g2, c2, hv2, hg2, hc2⟩ := hg t2 (hop (1, .tmp t2) (by simp [hparts])) _ l2
    have hrun := run_buildSlice (P := Tryd.prog) (t := 57) (n := 2) Tryd.underlying57 hinf hz0 hz1 (by omega) (by omega) (parts.map fun p => (p.1, a.eval p.2)) #[.slice (some ⟨g1, 0, none⟩) 4 c1, .slice (some ⟨g2, 0, none⟩) 4 c2] (by
      rw [Array.toList_map, hparts]
      simp only [List.map_cons, List.map_nil, Act.eval, hv1, hv2]
      exact fill_two g1 c1 g2 c2) w
    rw [hrun] at hex
    have hb : Below w.heap.size w (w.alloc (.cells #[.slice (some ⟨g1, 0, none⟩) 4 c1, .slice (some ⟨g2, 0, none⟩) 4 c2] 54)) := (Below.refl _ _).alloc (Nat.le_refl _) _
    refine wp_value hex (h.same hb gr.lt ?_)
    have hk : Keeps T w _ := .of_below hb
    exact ⟨w.heap.size, g1, g2, c1, c2, rfl, by have := gr.lt; omega, hg1, hg2, cell_new_row rfl, cell_new_row rfl, fun j u hj => hk.cell hg1 (hc1 j u hj), fun j u hj => hk.cell hg2 (hc2 j u hj)⟩

theorem holds_owns {T n : Nat} {w w' : World} {v : Value} {cs : List Value} (h : w'.ownsRow w.heap.size 40 3 v n cs) (hn : n ≠ 0) (hT : T < w.heap.size) : Holds T w' (.cells n cs) v := by
  obtain ⟨hl, ⟨rfl, h0⟩ | ⟨g, cap, cur, rfl, hg, hh, _, _, _, hc⟩⟩ := h
  · exact absurd h0 hn
  · refine ⟨g, cap, rfl, by omega, fun j u hj => ?_⟩
    simp only [World.cell?, hh]
    subst hc
    rw [List.getElem?_take] at hj
    split at hj
    · simpa using hj
    · cases hj

theorem cell_lt {w : World} {g o : Nat} {u : Value} (h : w.cell? ⟨g, o, none⟩ = some u) : g < w.heap.size := World.block_lt_of_cell? w ⟨g, o, none⟩ h

theorem keeps_setRow {T : Nat} {w : World} (cs : Array Value) : Keeps T w (w.setRow T cs) :=
  ⟨rfl, rfl, rfl, by simp [World.setRow], fun k _ hk => setRow_other w T k cs (by omega)⟩

set_option maxHeartbeats 400000 in
theorem call_ok {T : Nat} {G : Env} {o : Oper} {a : Act} {w : World} {tab : List Value} {K : Act → World → Prop} {Q : Exit → Act → World → Prop} {eff : Eff} {f : Nat} {args : Array Operand} {tys : Array TypeId}
    (ho : o.op = .call { callee := .value (.func f), args := args, argTypes := tys })
    (hi : inferCall G f args.toList = some eff) (hg : Given T G a w o) (gr : Ground T w) (htab : w.heap[T]? = some (.cells tab.toArray 51 (0, 0))) (hlen : tab.length = 480) (h : Onward T w tab a o.dst K eff) : o.wp Tryd.prog a w K Q := by
  have hop : ∀ t, .tmp t ∈ args.toList → Operand.tmp t ∈ o.op.operands := fun t ht => by
    simp only [ho, Op.operands, Call.operands]
    simp
    exact by simpa using ht
  unfold inferCall at hi
  split at hi
  case isTrue hf =>
    subst hf
    split at hi
    case h_3 => cases hi
    case h_1 st hargs =>
      cases hi
      have hA : args.map a.eval = #[.int .u8 st, .slice none 0 0] := by
        rw [← Array.toList_inj, Array.toList_map, hargs]; rfl
      refine wp_enter (R := ToPost st 0 w) Tryd.func22 (by kernel_rfl) (by kernel_rfl) ho (by rw [hA]; exact to_nil st w) ?_
      rintro e w' ⟨rfl, hb⟩
      exact ⟨_, rfl, h.same hb gr.lt rfl⟩
    case h_2 st t hargs =>
      split at hi
      case h_2 => cases hi
      case h_1 l hl =>
      split at hi
      case isFalse => cases hi
      case isTrue hll =>
      cases hi
      obtain ⟨g, hv, hgT, hc⟩ := hg t (hop t (by simp [hargs])) _ hl
      have hA : args.map a.eval = #[.int .u8 st, .slice (some ⟨g, 0, none⟩) l.length l.length] := by
        rw [← Array.toList_inj, Array.toList_map, hargs]
        simp only [List.map_cons, List.map_nil, Act.eval, hv]
      refine wp_enter (R := ToPost st (orAll l) w) Tryd.func22 (by kernel_rfl) (by kernel_rfl) ho (by rw [hA]; exact to_any st g l w hll hc) ?_
      rintro e w' ⟨rfl, hb⟩
      exact ⟨_, rfl, h.same hb gr.lt rfl⟩
  case isFalse =>
  split at hi
  case isTrue hf =>
    subst hf
    split at hi
    case h_2 => cases hi
    case h_1 x hargs =>
      cases hi
      have hA : args.map a.eval = #[.int .u16 x] := by
        rw [← Array.toList_inj, Array.toList_map, hargs]; rfl
      refine wp_enter (R := SlicePost 4 _ w) Tryd.func24 (by kernel_rfl) (by kernel_rfl) ho (by rw [hA]; exact same_any x w) ?_
      rintro e w' ⟨v, rfl, hown, hb⟩
      exact ⟨_, rfl, h.same hb gr.lt (holds_owns hown (by decide) gr.lt)⟩
  case isFalse =>
  split at hi
  case isTrue hf =>
    subst hf
    split at hi
    case h_2 => cases hi
    case h_1 t hargs =>
      split at hi
      case h_2 => cases hi
      case h_1 x1 x2 hl =>
      split at hi
      case isFalse => cases hi
      case isTrue hh =>
      cases hi
      obtain ⟨l1, l2, o1, o2⟩ := hh
      obtain ⟨g, g1, g2, c1, c2, hv, hgT, hg1, hg2, s0, s1, b1, b2⟩ := hg t (hop t (by simp [hargs])) _ hl
      have hA : args.map a.eval = #[.slice (some ⟨g, 0, none⟩) 2 2] := by
        rw [← Array.toList_inj, Array.toList_map, hargs]
        simp only [List.map_cons, List.map_nil, Act.eval, hv]
      refine wp_enter (R := SlicePost 10 (nv ++ nv ++ x1 ++ x2) w) Tryd.func23 (by kernel_rfl) (by kernel_rfl) ho
        (by rw [hA]; exact early_any g g1 g2 c1 c2 x1 x2 w l1 l2 gr.n0 gr.n1 gr.n2 s0 s1 b1 b2 (List.all_eq_true.1 o1) (List.all_eq_true.1 o2)) ?_
      rintro e w' ⟨v, rfl, hown, hb⟩
      exact ⟨_, rfl, h.same hb gr.lt (holds_owns hown (by decide) gr.lt)⟩
  case isFalse =>
  split at hi
  case isFalse => cases hi
  case isTrue hf =>
    subst hf
    split at hi
    case h_2 => cases hi
    case h_1 t1 ev t2 hargs =>
      split at hi
      case h_2 => cases hi
      case h_1 n cs hl1 hl2 =>
      split at hi
      case isFalse => cases hi
      case isTrue hh =>
      cases hi
      obtain ⟨hev, hn, hcl, hone⟩ := hh
      have hv1 : a.tmps.getD t1 undef = .pointer (some ⟨T, 0, none⟩) := hg t1 (hop t1 (by simp [hargs])) _ hl1
      obtain ⟨g, cap, hv2, hgT, hc⟩ := hg t2 (hop t2 (by simp [hargs])) _ hl2
      have hA : args.map a.eval = #[.pointer (some ⟨T, 0, none⟩), .int .i64 ev, .slice (some ⟨g, 0, none⟩) n cap] := by
        rw [← Array.toList_inj, Array.toList_map, hargs]
        simp only [List.map_cons, List.map_nil, Act.eval, hv1, hv2]
        rfl
      refine wp_enter Tryd.func21 (by kernel_rfl) (by kernel_rfl) ho (by rw [hA]; exact row_any T g ev n cap tab.toArray cs w hev hn hcl (by simpa using hlen) htab hc (List.all_eq_true.1 hone)) ?_
      rintro e w' ⟨rfl, rfl⟩
      refine ⟨_, rfl, h _ _ (keeps_setRow _) ?_⟩
      simpa using setRow_heap w T tab.toArray _ 51 _ htab

theorem op_ok {T : Nat} {G : Env} {o : Oper} {a : Act} {w : World} {tab : List Value} {K : Act → World → Prop} {Q : Exit → Act → World → Prop} {eff : Eff}
    (hi : inferOp G o = some eff) (hg : Given T G a w o) (gr : Ground T w) (htab : w.heap[T]? = some (.cells tab.toArray 51 (0, 0))) (hlen : tab.length = 480) (h : Onward T w tab a o.dst K eff) : o.wp Tryd.prog a w K Q := by
  unfold inferOp at hi
  split at hi
  case h_1 x ho =>
    have hex : (execOp a.eval o).run Tryd.prog w = .ok (.value (a.eval x)) w := by simp [execOp, ho]
    split at hi
    case h_1 t =>
      rw [Option.map_eq_some_iff] at hi
      obtain ⟨av, hl, rfl⟩ := hi
      exact wp_value hex (h.same (Below.refl _ _) gr.lt (hg t (by simp [ho, Op.operands]) _ hl))
    case h_2 => cases hi; exact wp_value hex (h.same (Below.refl _ _) gr.lt trivial)
    case h_3 => cases hi
  case h_2 x ho =>
    have hex : (execOp a.eval o).run Tryd.prog w = .ok (.value (a.eval x)) w := by simp [execOp, ho]
    split at hi
    case h_1 t =>
      rw [Option.map_eq_some_iff] at hi
      obtain ⟨av, hl, rfl⟩ := hi
      exact wp_value hex (h.same (Below.refl _ _) gr.lt (hg t (by simp [ho, Op.operands]) _ hl))
    case h_2 => cases hi; exact wp_value hex (h.same (Below.refl _ _) gr.lt trivial)
    case h_3 => cases hi
  case h_3 ty x ho =>
    split at hi
    case isFalse => cases hi
    case isTrue hty =>
    subst hty
    split at hi
    case h_1 g =>
      split at hi
      case isFalse => cases hi
      case isTrue hg1 =>
      cases hi
      subst hg1
      refine wp_value (v := .agg #[.int .u16 0, .int .u8 0, .bool false]) (w' := w) ?_ (h.same (Below.refl _ _) gr.lt rfl)
      have := run_load40 w 1 0 0 false gr.n0 gr.n1 gr.n2
      simp [execOp, ho, Instr.loadAt, Act.eval, Instr.sureAddr, this]
    case h_2 t =>
      split at hi
      case h_2 => cases hi
      case h_1 s n b hl =>
      cases hi
      obtain ⟨g, hv, hgT, h0, h1, h2⟩ := hg t (by simp [ho, Op.operands]) _ hl
      refine wp_value (v := .agg #[.int .u16 s, .int .u8 n, .bool b]) (w' := w) ?_ (h.same (Below.refl _ _) gr.lt rfl)
      have := run_load40 w g s n b h0 h1 h2
      simp only [execOp, ho, Instr.loadAt, Act.eval, hv]
      simp [Instr.sureAddr, this]
    case h_3 => cases hi
  case h_4 c ho =>
    obtain ⟨callee, args, tys⟩ := c
    dsimp only at hi
    split at hi
    case h_1 f => exact call_ok ho hi hg gr htab hlen h
    case h_2 => cases hi
  case h_5 ty n parts ho => exact build_ok ho hi hg gr h
  case h_6 => cases hi
end Go.Proofs.YtkeecifolpidmaaDoor
