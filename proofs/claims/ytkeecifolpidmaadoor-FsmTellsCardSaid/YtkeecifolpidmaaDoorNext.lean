/- The contract of fsm.Next (function 8), for every state and event: what the table says, ErrArg beyond it, ErrNever where it has nothing. -/
import Derived.Test.YtkeecifolpidmaaDoorMake
import Derived.Deep.QuietTactic
import Derived.BigQuiet
namespace Go.Proofs.YtkeecifolpidmaaDoor
open Go.RowKit

/-- What the table has of an event and a state. -/
def cellAt (e s : Nat) : Int × Int × Bool := (fsmT.getD e []).getD s (0, 0, false)

def atB (e s : Nat) : Bool :=
  (match tabFin[e * 30 + s * 3]? with | some v => eqv v (.int .u16 (cellAt e s).1) | none => false) &&
  (match tabFin[e * 30 + s * 3 + 1]? with | some v => eqv v (.int .u8 (cellAt e s).2.1) | none => false) &&
  (match tabFin[e * 30 + s * 3 + 2]? with | some v => eqv v (.bool (cellAt e s).2.2) | none => false)

theorem atB_all : ((List.range 16).all fun e => (List.range 10).all fun s => atB e s) = true := by kernel_rfl

theorem tab_at {e s : Nat} (he : e < 16) (hs : s < 10) : tabFin[e * 30 + s * 3]? = some (.int .u16 (cellAt e s).1) ∧ tabFin[e * 30 + s * 3 + 1]? = some (.int .u8 (cellAt e s).2.1) ∧ tabFin[e * 30 + s * 3 + 2]? = some (.bool (cellAt e s).2.2) := by
  have h := List.all_eq_true.1 (List.all_eq_true.1 atB_all e (List.mem_range.2 he)) s (List.mem_range.2 hs)
  unfold atB at h
  simp only [Bool.and_eq_true] at h
  obtain ⟨⟨h0, h1⟩, h2⟩ := h
  refine ⟨?_, ?_, ?_⟩
  · split at h0
    · rename_i v hv; rw [hv, eqv_sound h0]
    · cases h0
  · split at h1
    · rename_i v hv; rw [hv, eqv_sound h1]
    · cases h1
  · split at h2
    · rename_i v hv; rw [hv, eqv_sound h2]
    · cases h2

/-- What fsm.Next gives: the actions, the next state, the error. -/
def nxt (s e : Nat) : Int × Int × Int :=
  if 10 ≤ s ∨ 16 ≤ e then (0, 0, 2) else if (cellAt e s).2.2 = true then ((cellAt e s).1, (cellAt e s).2.1, 0) else (0, 0, 120)
def nS (s e : Nat) : Int := (nxt s e).1
def nT (s e : Nat) : Int := (nxt s e).2.1
def nE (s e : Nat) : Int := (nxt s e).2.2

def NextPost (s e : Nat) (w : World) (r : Ending) (w' : World) : Prop :=
  r = .returned (.tuple #[.int .u16 (nS s e), .int .u8 (nT s e), .int .i64 (nE s e)]) ∧ Below w.heap.size w w'

theorem next_arg (s e : Nat) (w : World) (h : 10 ≤ s ∨ 16 ≤ e) : Calls Tryd.prog 8 #[.int .u8 s, .int .u8 e] w (NextPost s e w) := by
  have hS : nS s e = 0 := by unfold nS nxt; rw [if_pos h]
  have hT : nT s e = 0 := by unfold nT nxt; rw [if_pos h]
  have hE : nE s e = 2 := by unfold nE nxt; rw [if_pos h]
  unfold NextPost
  rw [hS, hT, hE]
  clear hS hT hE
  by_cases h1 : 10 ≤ s
  · have h2 : ¬ s < 10 := by omega
    clear h
    go_enter Tryd.func8, Tryd.ntmps8
    go_wp2
    go_ret3
    exact ⟨rfl, Below.refl _ _⟩
  · have h2 : 16 ≤ e := by omega
    clear h
    go_enter Tryd.func8, Tryd.ntmps8
    go_wp2
    go_ret3
    exact ⟨rfl, Below.refl _ _⟩

def MakeAt (o : Nat) (x n : Int) (b : Bool) (w : World) (r : Ending) (w' : World) : Prop :=
  ∃ T, r = .returned (.pointer (some ⟨T, 0, none⟩)) ∧ w'.cell? ⟨T, o, none⟩ = some (.int .u16 x) ∧ w'.cell? ⟨T, o + 1, none⟩ = some (.int .u8 n) ∧ w'.cell? ⟨T, o + 2, none⟩ = some (.bool b) ∧ Below w.heap.size w w'

theorem make_at (s e : Nat) (w : World) (hn : NeverAt w) (hs : s < 10) (he : e < 16) : Calls Tryd.prog 17 #[] w (MakeAt (e * 30 + s * 3) (cellAt e s).1 (cellAt e s).2.1 (cellAt e s).2.2 w) := by
  refine (make_any w hn).mono ?_
  rintro r w' ⟨T, hr, _, hh, hb⟩
  obtain ⟨h0, h1, h2⟩ := tab_at he hs
  refine ⟨T, hr, ?_, ?_, ?_, hb⟩ <;> (simp only [World.cell?, hh]; simpa)

set_option maxHeartbeats 400000 in
theorem next_yes (s e : Nat) (x n : Int) (w : World) (hs : s < 10) (he : e < 16) (hm : Calls Tryd.prog 17 #[] w (MakeAt (e * 30 + s * 3) x n true w)) :
    Calls Tryd.prog 8 #[.int .u8 s, .int .u8 e] w (fun r w' => r = .returned (.tuple #[.int .u16 x, .int .u8 n, .int .i64 0]) ∧ Below w.heap.size w w') := by
  have hs1 : (s : Int) < 10 := by omega
  have he1 : (e : Int) < 16 := by omega
  have HM := Lib.hid hm
  clear hm
  go_enter Tryd.func8, Tryd.ntmps8
  go_wp2_with (go_at_call 17; refine HM.out.mono ?_; rintro e1 w1 ⟨T, rfl, c0, c1, c2, hb⟩)
  go_quiet (fail)
  go_wp2
  go_ret3
  exact ⟨rfl, below_drewN (hb.alloc hb.size _) nq⟩

set_option maxHeartbeats 400000 in
theorem next_no (s e : Nat) (x n : Int) (w : World) (hs : s < 10) (he : e < 16) (hm : Calls Tryd.prog 17 #[] w (MakeAt (e * 30 + s * 3) x n false w)) :
    Calls Tryd.prog 8 #[.int .u8 s, .int .u8 e] w (fun r w' => r = .returned (.tuple #[.int .u16 0, .int .u8 0, .int .i64 120]) ∧ Below w.heap.size w w') := by
  have hs1 : (s : Int) < 10 := by omega
  have he1 : (e : Int) < 16 := by omega
  have HM := Lib.hid hm
  clear hm
  go_enter Tryd.func8, Tryd.ntmps8
  go_wp2_with (go_at_call 17; refine HM.out.mono ?_; rintro e1 w1 ⟨T, rfl, c0, c1, c2, hb⟩)
  go_ret3
  exact ⟨rfl, hb.alloc hb.size _⟩

/-- fsm.Next, whatever the state and the event. -/
theorem next_any (s e : Nat) (w : World) (hn : NeverAt w) : Calls Tryd.prog 8 #[.int .u8 s, .int .u8 e] w (NextPost s e w) := by
  by_cases h : 10 ≤ s ∨ 16 ≤ e
  · exact next_arg s e w h
  · have hs : s < 10 := by omega
    have he : e < 16 := by omega
    have hm := make_at s e w hn hs he
    unfold NextPost nS nT nE nxt
    rw [if_neg h]
    cases hb : (cellAt e s).2.2 with
    | true =>
      rw [hb] at hm
      rw [if_pos rfl]
      exact next_yes s e _ _ w hs he hm
    | false =>
      rw [hb] at hm
      rw [if_neg (by simp)]
      exact next_no s e _ _ w hs he hm
end Go.Proofs.YtkeecifolpidmaaDoor
