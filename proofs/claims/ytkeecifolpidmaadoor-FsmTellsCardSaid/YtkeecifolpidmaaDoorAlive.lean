/- The contracts of has, fsm.Timed, fsm.State, and alive (function 7): the chapter-12 examples hold, so that it gives true. -/
import Derived.Test.YtkeecifolpidmaaDoorNext
namespace Go.Proofs.YtkeecifolpidmaaDoor
open Go.RowKit

theorem NeverAt.below {w w' : World} (h : NeverAt w) (hb : Below w.heap.size w w') : NeverAt w' := by
  obtain ⟨h0, h1, h2⟩ := h
  have hl := cell_lt h0
  exact ⟨by rw [hb.cell hl]; exact h0, by rw [hb.cell hl]; exact h1, by rw [hb.cell hl]; exact h2⟩

/-- Is an action among bits? -/
def hasB (a b : Int) : Bool := bits BinOp.and IntKind.u16 a b != 0
/-- Does the timer run? -/
def timedB (s : Int) : Bool := decide (4 ≤ s) && decide (s ≤ 8)

theorem has_any (a b : Int) (w : World) : Calls Tryd.prog 9 #[.int .u16 a, .int .u16 b] w (fun r w' => r = .returned (.bool (hasB a b)) ∧ w = w') := by
  go_enter Tryd.func9, Tryd.ntmps9
  go_wp2
  go_ret
  exact ⟨rfl, rfl⟩

theorem timed_any (s : Int) (w : World) : Calls Tryd.prog 10 #[.int .u8 s] w (fun r w' => r = .returned (.bool (timedB s)) ∧ w = w') := by
  by_cases h1 : 4 ≤ s
  · by_cases h2 : s ≤ 8
    · have e : timedB s = true := by simp [timedB, h1, h2]
      rw [e]
      clear e
      go_enter Tryd.func10, Tryd.ntmps10
      go_wp2
      go_ret
      exact ⟨rfl, rfl⟩
    · have e : timedB s = false := by simp [timedB, h2]
      rw [e]
      clear e
      have h3 : 8 < s := by omega
      go_enter Tryd.func10, Tryd.ntmps10
      go_wp2
      go_ret
      exact ⟨rfl, rfl⟩
  · have e : timedB s = false := by simp [timedB, h1]
    rw [e]
    clear e
    have h3 : s < 4 := by omega
    go_enter Tryd.func10, Tryd.ntmps10
    go_wp2
    go_ret
    exact ⟨rfl, rfl⟩

/-- The states' names, as bytes. -/
def nameL : List (List UInt8) := [[73, 110, 105, 116, 105, 97, 108], [83, 116, 97, 114, 116, 105, 110, 103], [67, 108, 111, 115, 101, 100], [83, 116, 111, 112, 112, 101, 100], [67, 108, 111, 115, 105, 110, 103],
  [83, 116, 111, 112, 112, 105, 110, 103], [82, 101, 113, 83, 101, 110, 116], [65, 99, 107, 82, 99, 118, 100], [65, 99, 107, 83, 101, 110, 116], [79, 112, 101, 110, 101, 100]]
def nameOf (k : Nat) : ByteArray := ⟨(nameL.getD k []).toArray⟩
/-- What is read of fsm.names. -/
def NamesAt (w : World) : Prop := ∀ k, k < 10 → w.cell? ⟨0, k, none⟩ = some (.string (nameOf k))

theorem NamesAt.below {w w' : World} (h : NamesAt w) (hb : Below w.heap.size w w') : NamesAt w' := fun k hk => by
  rw [hb.cell (cell_lt (h k hk))]; exact h k hk

theorem state_in (s : Nat) (v : ByteArray) (w : World) (hs : s < 10) (hc : w.cell? ⟨0, s, none⟩ = some (.string v)) : Calls Tryd.prog 12 #[.int .u8 s] w (fun r w' => r = .returned (.tuple #[.string v, .bool true]) ∧ w = w') := by
  have h1 : (s : Int) < 10 := by omega
  go_enter Tryd.func12, Tryd.ntmps12
  go_wp2
  go_ret2
  exact ⟨rfl, rfl⟩

theorem state_out (s : Nat) (w : World) (hs : 10 ≤ s) : Calls Tryd.prog 12 #[.int .u8 s] w (fun r w' => r = .returned (.tuple #[.string ⟨#[]⟩, .bool false]) ∧ w = w') := by
  have h1 : 10 ≤ (s : Int) := by omega
  go_enter Tryd.func12, Tryd.ntmps12
  go_wp2
  go_ret2
  exact ⟨rfl, rfl⟩

/-- fsm.Next at numbers that are written out. -/
theorem next_lit (s e : Nat) (si ei x n r : Int) (hs : (s : Int) = si) (he : (e : Int) = ei) (hx : nxt s e = (x, n, r)) (w : World) (hn : NeverAt w) :
    Calls Tryd.prog 8 #[.int .u8 si, .int .u8 ei] w (fun q w' => q = .returned (.tuple #[.int .u16 x, .int .u8 n, .int .i64 r]) ∧ Below w.heap.size w w') := by
  subst hs; subst he
  have h := next_any s e w hn
  unfold NextPost nS nT nE at h
  rw [hx] at h
  exact h

set_option maxHeartbeats 400000 in
theorem alive_any (w : World) (hn : NeverAt w) (hm : NamesAt w) : Calls Tryd.prog 7 #[] w (fun r w' => r = .returned (.bool true) ∧ Below w.heap.size w w') := by
  have HN := Lib.hid hn
  have HM := Lib.hid hm
  clear hn hm
  go_enter Tryd.func7, Tryd.ntmps7
  go_wp2_with fail
  refine (next_lit 0 2 0 2 4 1 0 rfl rfl (by kernel_rfl) w HN.out).mono ?_
  rintro q w1 ⟨rfl, b1⟩
  have B1 := Lib.hid b1
  clear b1
  go_wp2_with fail
  refine (next_lit 8 8 8 8 17 9 0 rfl rfl (by kernel_rfl) w1 (HN.out.below B1.out)).mono ?_
  rintro q w2 ⟨rfl, b2⟩
  have B2 := Lib.hid (B1.out.trans (b2.mono B1.out.size))
  clear b2 B1
  go_wp2_with fail
  refine (next_lit 9 4 9 4 0 0 120 rfl rfl (by kernel_rfl) w2 (HN.out.below B2.out)).mono ?_
  rintro q w3 ⟨rfl, b3⟩
  have B3 := Lib.hid (B2.out.trans (b3.mono B2.out.size))
  clear b3 B2
  go_wp2_with fail
  refine (next_lit 10 0 10 0 0 0 2 rfl rfl (by kernel_rfl) w3 (HN.out.below B3.out)).mono ?_
  rintro q w4 ⟨rfl, b4⟩
  have B4 := Lib.hid (B3.out.trans (b4.mono B3.out.size))
  clear b4 B3
  go_wp2_with fail
  refine (state_in 7 ⟨#[65, 99, 107, 82, 99, 118, 100]⟩ w4 (by omega) ((HM.out.below B4.out) 7 (by omega))).mono ?_
  rintro q w5 ⟨rfl, rfl⟩
  go_wp2
  go_ret
  exact ⟨rfl, B4.out⟩
end Go.Proofs.YtkeecifolpidmaaDoor
