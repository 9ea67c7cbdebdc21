/- The contract of fsm.same (function 24): a new slice of four cells, Closed to Stopping, behind one action. -/
import Derived.Test.YtkeecifolpidmaaDoorTo
namespace Go.Proofs.YtkeecifolpidmaaDoor
open Go.RowKit

/-- One cell of the table, as it lies: its actions, its next state, whether it is. -/
def cl (s t : Int) (b : Bool) : List Value := [.int .u16 s, .int .u8 t, .bool b]

theorem to_one (st a : Int) (w : World) :
    Calls Tryd.prog 22 #[.int .u8 st, .slice (some ⟨w.heap.size, 0, none⟩) 1 1] (w.alloc (.cells #[.int .u16 a] 24)) (ToPost st (orAll [a]) (w.alloc (.cells #[.int .u16 a] 24))) :=
  to_any st w.heap.size [a] _ (by simp) (fun k h => by
    obtain rfl : k = 0 := by simpa using h
    simp [World.cell?_alloc_new])

theorem to_one_below {w w1 : World} {o : Obj} (h : Below (w.alloc o).heap.size (w.alloc o) w1) : Below w.heap.size w w1 :=
  ((Below.refl _ _).alloc (Nat.le_refl _) o).trans (h.mono (by simp))

/-- A slice of n cells of the table in a new block; nothing that was there has turned. -/
def SlicePost (n : Nat) (cs : List Value) (w : World) (e : Ending) (w' : World) : Prop :=
  ∃ v, e = .returned v ∧ w'.ownsRow w.heap.size 40 3 v n cs ∧ Below w.heap.size w w'

theorem heap_alloc_new (w : World) (o : Obj) : (w.alloc o).heap[w.heap.size]? = some o := by
  show (w.heap.push o)[w.heap.size]? = some o
  simp

set_option maxHeartbeats 400000 in
theorem same_any (a : Int) (w : World) :
    Calls Tryd.prog 24 #[.int .u16 a] w (SlicePost 4 (cl (orAll [a]) 2 true ++ cl (orAll [a]) 3 true ++ cl (orAll [a]) 4 true ++ cl (orAll [a]) 5 true) w) := by
  obtain ⟨x, hx⟩ : ∃ x, x = orAll [a] := ⟨_, rfl⟩
  rw [← hx]
  have HX := Lib.hid hx
  clear hx
  go_enter Tryd.func24, Tryd.ntmps24
  go_wp2_with fail
  refine (to_one 2 a w).mono ?_
  rintro e w1 ⟨rfl, h1⟩
  have b1 := Lib.hid (to_one_below h1)
  clear h1
  rw [← HX.out]
  go_wp2_with fail
  refine (to_one 3 a w1).mono ?_
  rintro e w2 ⟨rfl, h2⟩
  have b2 := Lib.hid (b1.out.trans ((to_one_below h2).mono b1.out.size))
  clear h2 b1
  rw [← HX.out]
  go_wp2_with fail
  refine (to_one 4 a w2).mono ?_
  rintro e w3 ⟨rfl, h3⟩
  have b3 := Lib.hid (b2.out.trans ((to_one_below h3).mono b2.out.size))
  clear h3 b2
  rw [← HX.out]
  go_wp2_with fail
  refine (to_one 5 a w3).mono ?_
  rintro e w4 ⟨rfl, h4⟩
  have b4 := Lib.hid (b3.out.trans ((to_one_below h4).mono b3.out.size))
  clear h4 b3
  rw [← HX.out]
  go_wp2
  go_ret
  exact ⟨_, rfl, ⟨rfl, Or.inr ⟨w4.heap.size, 4, _, rfl, b4.out.size, heap_alloc_new _ _, by omega, by unfold maxLen; omega, rfl, rfl⟩⟩, b4.out.alloc b4.out.size _⟩
end Go.Proofs.YtkeecifolpidmaaDoor
