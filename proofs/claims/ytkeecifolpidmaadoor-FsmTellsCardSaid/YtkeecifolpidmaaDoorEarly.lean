/- The contract of fsm.early (function 23): two cells of what cannot be, and behind them the cells of two slices of four. -/
import Derived.Test.YtkeecifolpidmaaDoorSame
namespace Go.Proofs.YtkeecifolpidmaaDoor
open Go.RowKit

/-- What fsm.never reads as. -/
def nv : List Value := cl 0 0 false

/-- What early has put together behind k slices. -/
def erl (x1 x2 : List Value) : Nat → List Value
  | 0 => nv ++ nv
  | 1 => nv ++ nv ++ x1
  | _ => nv ++ nv ++ x1 ++ x2

theorem info40 : (Tryd.prog.info? 40).map (fun i => (i.zero, i.size, i.bytes)) = some (some (.agg #[.int .u16 0, .int .u8 0, .bool false]), 3, 6) := by kernel_rfl

theorem own_base {w : World} {base : Nat} {e : TypeId} {size : Nat} {v : Value} {n : Nat} {xs : List Value} (h : w.ownsRow base e size v n xs) : ∀ k, v.ownBlock = some k → base ≤ k := by
  intro k hk
  obtain ⟨_, ⟨rfl, _⟩ | ⟨g, cap, cur, rfl, hg, _⟩⟩ := h
  · cases hk
  · simp [Value.ownBlock] at hk; omega

set_option maxHeartbeats 400000 in
theorem early_any (g g1 g2 c1 c2 : Nat) (x1 x2 : List Value) (w : World) (l1 : x1.length = 12) (l2 : x2.length = 12)
    (n0 : w.cell? ⟨1, 0, none⟩ = some (.int .u16 0)) (n1 : w.cell? ⟨1, 1, none⟩ = some (.int .u8 0)) (n2 : w.cell? ⟨1, 2, none⟩ = some (.bool false))
    (s0 : w.cell? ⟨g, 0, none⟩ = some (.slice (some ⟨g1, 0, none⟩) 4 c1)) (s1 : w.cell? ⟨g, 1, none⟩ = some (.slice (some ⟨g2, 0, none⟩) 4 c2))
    (h1 : ∀ j u, x1[j]? = some u → w.cell? ⟨g1, j, none⟩ = some u) (h2 : ∀ j u, x2[j]? = some u → w.cell? ⟨g2, j, none⟩ = some u)
    (o1 : ∀ u ∈ x1, u.oneCell' = true) (o2 : ∀ u ∈ x2, u.oneCell' = true) :
    Calls Tryd.prog 23 #[.slice (some ⟨g, 0, none⟩) 2 2] w (SlicePost 10 (nv ++ nv ++ x1 ++ x2) w) := by
  obtain ⟨i0, hi, hz0, hz1, hz2⟩ := info_parts info40
  have gs := World.block_lt_of_cell? w ⟨g, 0, none⟩ s0
  have gs1 : g1 < w.heap.size := World.block_lt_of_cell? w ⟨g1, 0, none⟩ (h1 0 _ (List.getElem?_eq_getElem (by omega)))
  have gs2 : g2 < w.heap.size := World.block_lt_of_cell? w ⟨g2, 0, none⟩ (h2 0 _ (List.getElem?_eq_getElem (by omega)))
  have L1 := Lib.hid l1
  have L2 := Lib.hid l2
  have H1 := Lib.hid h1
  have H2 := Lib.hid h2
  have O1 := Lib.hid o1
  have O2 := Lib.hid o2
  clear l1 l2 h1 h2 o1 o2
  go_enter Tryd.func23, Tryd.ntmps23
  go_wp2
  clear n0 n1 n2
  go_loopw [3, 11] (fun v i wr => ∃ k : Nat, k ≤ 2 ∧ i = .int .i64 k ∧ wr.ownsRow w.heap.size 40 3 v (2 + 4 * k) (erl x1 x2 k) ∧ Below w.heap.size w wr) (fun _ i _ => 2 - (intOf i).toNat)
  case atStart =>
    exact ⟨0, by omega, rfl, ⟨rfl, Or.inr ⟨w.heap.size, 2, _, rfl, Nat.le_refl _, heap_alloc_new _ _, by omega, by unfold maxLen; omega, rfl, rfl⟩⟩, (Below.refl _ _).alloc (Nat.le_refl _) _⟩
  case round =>
    obtain ⟨k, hk, rfl, hown, hb⟩ := hrel
    have hws := hb.size
    have t0 : wr.cell? ⟨g, 0, none⟩ = some (.slice (some ⟨g1, 0, none⟩) 4 c1) := by rw [hb.cell gs]; exact s0
    have t1 : wr.cell? ⟨g, 1, none⟩ = some (.slice (some ⟨g2, 0, none⟩) 4 c2) := by rw [hb.cell gs]; exact s1
    have u1 : ∀ j u, x1[j]? = some u → wr.cell? ((⟨g1, 0, none⟩ : Addr).add j) = some u := fun j u h => by
      rw [show (⟨g1, 0, none⟩ : Addr).add j = ⟨g1, j, none⟩ from by unfold Addr.add; split <;> simp_all, hb.cell gs1]; exact H1.out j u h
    have u2 : ∀ j u, x2[j]? = some u → wr.cell? ((⟨g2, 0, none⟩ : Addr).add j) = some u := fun j u h => by
      rw [show (⟨g2, 0, none⟩ : Addr).add j = ⟨g2, j, none⟩ from by unfold Addr.add; split <;> simp_all, hb.cell gs2]; exact H2.out j u h
    have U1 := Lib.hid u1
    have U2 := Lib.hid u2
    have HB := Lib.hid hb
    clear hb u1 u2 s0 s1
    obtain rfl | rfl | rfl : k = 0 ∨ k = 1 ∨ k = 2 := by omega
    · have OWN := Lib.hid hown
      have OB := Lib.hid (own_base hown)
      clear hown
      go_wp2_with (at_builtin; refine wpList_append_own _ rfl _ _ 54 rfl w.heap.size 40 i0 (.agg #[.int .u16 0, .int .u8 0, .bool false]) 3 6 Tryd.underlying54 hi hz0 hz1 hz2 rfl (by decide) _ _ _ rfl OWN.out ⟨g1, 0, none⟩ 4 c1 x1 rfl L1.out U1.out O1.out (by unfold maxLen; omega) (by omega) hws ?_; intro v' w1 hown1 hgrow1 _; clear OWN)
      exact ⟨⟨1, by omega, rfl, hown1, HB.out.grown hgrow1 hws OB.out⟩, by simp [intOf]⟩
    · have OWN := Lib.hid hown
      have OB := Lib.hid (own_base hown)
      clear hown
      go_wp2_with (at_builtin; refine wpList_append_own _ rfl _ _ 54 rfl w.heap.size 40 i0 (.agg #[.int .u16 0, .int .u8 0, .bool false]) 3 6 Tryd.underlying54 hi hz0 hz1 hz2 rfl (by decide) _ _ _ rfl OWN.out ⟨g2, 0, none⟩ 4 c2 x2 rfl L2.out U2.out O2.out (by unfold maxLen; omega) (by omega) hws ?_; intro v' w1 hown1 hgrow1 _; clear OWN)
      exact ⟨⟨2, by omega, rfl, hown1, HB.out.grown hgrow1 hws OB.out⟩, by simp [intOf]⟩
    · have OWN := Lib.hid hown
      clear hown t0 t1 gs
      go_wp2
      go_ret
      exact ⟨_, rfl, OWN.out, HB.out⟩
end Go.Proofs.YtkeecifolpidmaaDoor
