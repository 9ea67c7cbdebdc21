/- The plain law of FsmBoth: what is so in each state is so behind each step of the table. -/
import Derived.Test.YtkeecifolpidmaaDoorAlive
namespace Go.Proofs.YtkeecifolpidmaaDoor
open Go.RowKit

/-- All states, all events. -/
def everyCell (f : Nat → Nat → Bool) : Bool := (List.range 10).all fun s => (List.range 16).all fun e => f s e
theorem everyCell_at {f : Nat → Nat → Bool} (h : everyCell f = true) {s e : Nat} (hs : s < 10) (he : e < 16) : f s e = true :=
  List.all_eq_true.1 (List.all_eq_true.1 h s (List.mem_range.2 hs)) e (List.mem_range.2 he)

theorem next_known {s e : Nat} (hs : s < 10) (he : e < 16) : (nE s e = 0 ∧ ∃ n : Nat, n < 10 ∧ nT s e = n) ∨ (nE s e = 120 ∧ nS s e = 0 ∧ nT s e = 0) := by
  have h := everyCell_at (f := fun s e => (nE s e == 0 && decide (0 ≤ nT s e) && decide (nT s e < 10)) || (nE s e == 120 && nS s e == 0 && nT s e == 0)) (by kernel_rfl) hs he
  simp only [Bool.or_eq_true, Bool.and_eq_true, beq_iff_eq, decide_eq_true_eq] at h
  rcases h with ⟨⟨h1, h2⟩, h3⟩ | ⟨⟨h1, h2⟩, h3⟩
  · exact Or.inl ⟨h1, (nT s e).toNat, by omega, by omega⟩
  · exact Or.inr ⟨h1, h2, h3⟩

/-- fsm.Next at a state and at the rest of a byte by 16. -/
theorem next_mod {s m : Nat} {x n r : Int} (hx : nS s (m % 16) = x) (hn : nT s (m % 16) = n) (hr : nE s (m % 16) = r) (w : World) (hw : NeverAt w) :
    Calls Tryd.prog 8 #[.int .u8 s, .int .u8 (↑m % 16)] w (fun q w' => q = .returned (.tuple #[.int .u16 x, .int .u8 n, .int .i64 r]) ∧ Below w.heap.size w w') := by
  have h := next_any s (m % 16) w hw
  unfold NextPost at h
  rw [hx, hn, hr] at h
  have e : ((m % 16 : Nat) : Int) = (m : Int) % 16 := by omega
  rw [e] at h
  exact h

/-! ### FsmBoth: an acknowledgement that was sent, one that came -/
def snt (e6 e7 sca tld sent : Bool) : Bool := if tld && !sca then false else if sca then true else if e6 || e7 then false else sent
def cam (e8 scr came : Bool) : Bool := if scr then false else if e8 then true else came
/-- What is so in each state. -/
def inv (s : Nat) (sent came : Bool) : Bool := (s != 9 || (sent && came)) && (s != 8 || sent) && (s != 7 || came)

def tup (s e : Nat) : Bool × Bool × Bool × Bool × Bool × Bool × Bool :=
  ((e : Int) == 8, hasB (nS s e) 64, (e : Int) == 6, (e : Int) == 7, hasB (nS s e) 128, hasB (nS s e) 2, nT s e == 9)
def tups9 : List (Bool × Bool × Bool × Bool × Bool × Bool × Bool) := [
  (false, false, false, false, false, false, true),
  (false, false, true, false, true, false, true),
  (true, false, false, false, false, false, true)]
def tups : List (Bool × Bool × Bool × Bool × Bool × Bool × Bool) := [
  (false, false, false, false, false, false, false),
  (false, false, false, false, false, true, false),
  (false, false, false, true, false, false, false),
  (false, false, true, false, false, false, false),
  (false, false, true, false, true, false, false),
  (false, true, false, false, false, false, false),
  (false, true, false, false, false, true, false),
  (false, true, false, true, false, false, false),
  (false, true, false, true, false, true, false),
  (false, true, true, false, true, false, false),
  (false, true, true, false, true, true, false),
  (true, false, false, false, false, false, false),
  (true, true, false, false, false, false, false),
  (true, true, false, false, false, true, false)]

theorem tup_known {s e : Nat} (hs : s < 10) (he : e < 16) (hr : nE s e = 0) : tup s e ∈ tups9 ∨ tup s e ∈ tups := by
  have h := everyCell_at (f := fun s e => nE s e != 0 || tups9.contains (tup s e) || tups.contains (tup s e)) (by kernel_rfl) hs he
  simp only [Bool.or_eq_true, hr, List.contains_iff_mem] at h
  simpa using h

def bools : List Bool := [false, true]
theorem mem_bools (b : Bool) : b ∈ bools := by cases b <;> simp [bools]

theorem inv_step {s e n : Nat} {sent came : Bool} (hs : s < 10) (he : e < 16) (hr : nE s e = 0) (hn : nT s e = n) (hi : inv s sent came = true) :
    inv n (snt ((e : Int) == 6) ((e : Int) == 7) (hasB (nS s e) 128) (hasB (nS s e) 2) sent) (cam ((e : Int) == 8) (hasB (nS s e) 64) came) = true := by
  have h := everyCell_at (f := fun s e => bools.all fun sent => bools.all fun came => nE s e != 0 || !inv s sent came ||
    inv (nT s e).toNat (snt ((e : Int) == 6) ((e : Int) == 7) (hasB (nS s e) 128) (hasB (nS s e) 2) sent) (cam ((e : Int) == 8) (hasB (nS s e) 64) came)) (by kernel_rfl) hs he
  have h1 := List.all_eq_true.1 (List.all_eq_true.1 h sent (mem_bools _)) came (mem_bools _)
  rw [hr, hi, hn] at h1
  simpa using h1

theorem inv9 {sent came : Bool} (h : inv 9 sent came = true) : sent = true ∧ came = true := by
  cases sent <;> cases came <;> simp [inv] at h ⊢
end Go.Proofs.YtkeecifolpidmaaDoor
