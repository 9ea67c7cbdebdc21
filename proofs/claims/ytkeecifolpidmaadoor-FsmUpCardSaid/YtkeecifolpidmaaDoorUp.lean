/- FsmUp (function 4), walked: for every slice of events it gives true, and nothing that was there has turned. -/
import Derived.Test.YtkeecifolpidmaaDoorBothPlain
import Derived.Test.YtkeecifolpidmaaDoorFrame
namespace Go.Proofs.YtkeecifolpidmaaDoor
open Go.RowKit

/-! ### FsmUp: tlu just where Opened is come to, tld just where it is left -/
def utup (s e : Nat) : Bool × Bool × Bool × Bool × Bool × Bool × Bool × Bool :=
  (hasB (nS s e) 1, nT s e == 9, (s : Int) == 9, hasB (nS s e) 2, hasB (nS s e) 4, nT s e == 1, hasB (nS s e) 8, timedB (nT s e))
def utups : List (Bool × Bool × Bool × Bool × Bool × Bool × Bool × Bool) := [
  (false, false, false, false, false, false, false, false),
  (false, false, false, false, false, false, false, true),
  (false, false, false, false, false, false, true, false),
  (false, false, false, false, false, true, false, false),
  (false, false, false, false, true, true, false, false),
  (false, false, true, true, false, false, false, true),
  (false, false, true, true, false, true, false, false),
  (false, true, true, false, false, false, false, false),
  (true, true, false, false, false, false, false, false)]

theorem utup_known {s e : Nat} (hs : s < 10) (he : e < 16) (hr : nE s e = 0) : utup s e ∈ utups := by
  have h := everyCell_at (f := fun s e => nE s e != 0 || utups.contains (utup s e)) (by kernel_rfl) hs he
  simp only [Bool.or_eq_true, hr, List.contains_iff_mem] at h
  simpa using h

theorem neq_of {x y : Int} {b : Bool} (h : (x == y) = b) : (x != y) = !b := by rw [← h]; rfl

set_option maxHeartbeats 4000000 in
theorem up_some (b off len cap : Nat) (E : Nat → Nat) (w : World) (hn : NeverAt w) (hm : NamesAt w) (hlen : len ≤ 2000)
    (hc : ∀ k, k < len → w.cell? ⟨b, off + k, none⟩ = some (.int .u8 (E k))) :
    Calls Tryd.prog 4 #[.slice (some ⟨b, off, none⟩) len cap] w (LawPost w) := by
  have HN := Lib.hid hn
  have HM := Lib.hid hm
  have HC := Lib.hid hc
  clear hn hm hc
  go_enter Tryd.func4, Tryd.ntmps4
  go_wp2_with fail
  go_loopw [3, 4] (fun s4 i wr => ∃ (k s : Nat), k ≤ len ∧ s < 10 ∧ s4 = .int .u8 s ∧ i = .int .i64 k ∧ Below w.heap.size w wr) (fun _ i _ => len - (intOf i).toNat)
  case atStart => exact ⟨0, 0, Nat.zero_le _, by omega, rfl, rfl, Below.refl _ _⟩
  case round =>
    obtain ⟨k, s, hk, hs, rfl, rfl, hb⟩ := hrel
    have HB := Lib.hid hb
    by_cases hlt : k < len
    · have hcell : wr.cell? ⟨b, off + k, none⟩ = some (.int .u8 (E k)) := by
        rw [hb.cell (cell_lt (HC.out k hlt))]; exact HC.out k hlt
      have he : E k % 16 < 16 := Nat.mod_lt _ (by omega)
      have HNr := Lib.hid (HN.out.below hb)
      clear hb
      rcases next_known hs he with ⟨hr, n, hn10, hn⟩ | ⟨hr, hx, hn⟩
      · have ht := utup_known hs he hr
        obtain ⟨x, hx⟩ : ∃ x, nS s (E k % 16) = x := ⟨_, rfl⟩
        have HCa := Lib.hid (next_mod hx hn hr wr HNr.out)
        unfold utup at ht
        rw [hx, hn] at ht
        clear hr hn hx he
        have hni : (n : Int) < 10 := by omega
        simp only [utups, List.mem_cons, List.not_mem_nil, or_false, Prod.mk.injEq] at ht
        rcases ht with ht | ht | ht | ht | ht | ht | ht | ht | ht
        all_goals
          obtain ⟨h1, h9, hs9, h2, h4, hn1, h8, htm⟩ := ht
          have h9' := neq_of h9
          have hs9' := neq_of hs9
          have hn1' := neq_of hn1
          go_wp2_with (first | (go_at_call 8; refine HCa.out.mono ?_; rintro q w1 ⟨rfl, hb1⟩) | (go_at_call 9; refine (has_any _ _ _).mono ?_; rintro q w2 ⟨rfl, rfl⟩) | (go_at_call 10; refine (timed_any _ _).mono ?_; rintro q w2 ⟨rfl, rfl⟩))
          exact ⟨⟨k + 1, n, by omega, hn10, rfl, by go_num, HB.out.trans (hb1.mono HB.out.size)⟩, by simp [intOf]; omega⟩
      · have HCa := Lib.hid (next_mod hx hn hr wr HNr.out)
        clear hr hn hx he
        go_wp2_with (first | (go_at_call 8; refine HCa.out.mono ?_; rintro q w1 ⟨rfl, hb1⟩) | (go_at_call 9; refine (has_any _ _ _).mono ?_; rintro q w2 ⟨rfl, rfl⟩) | (go_at_call 10; refine (timed_any _ _).mono ?_; rintro q w2 ⟨rfl, rfl⟩))
        exact ⟨⟨k + 1, s, by omega, hs, rfl, by go_num, HB.out.trans (hb1.mono HB.out.size)⟩, by simp [intOf]; omega⟩
    · obtain rfl : k = len := by omega
      clear hb
      go_wp2_with fail
      refine (alive_any wr (HN.out.below HB.out) (HM.out.below HB.out)).mono ?_
      rintro q w1 ⟨rfl, hb1⟩
      go_wp2
      go_ret
      exact ⟨rfl, HB.out.trans (hb1.mono HB.out.size)⟩

theorem up_zero (a : Option Addr) (cap : Nat) (w : World) (hn : NeverAt w) (hm : NamesAt w) : Calls Tryd.prog 4 #[.slice a 0 cap] w (LawPost w) := by
  have HN := Lib.hid hn
  have HM := Lib.hid hm
  clear hn hm
  go_enter Tryd.func4, Tryd.ntmps4
  go_wp2_with fail
  go_loopw [4] (fun i wr => i = .int .i64 0 ∧ wr = w) (fun _ _ => 0)
  case atStart => exact ⟨rfl, rfl⟩
  case round =>
    obtain ⟨rfl, rfl⟩ := hrel
    go_wp2_with fail
    refine (alive_any wr HN.out HM.out).mono ?_
    rintro q w1 ⟨rfl, hb1⟩
    go_wp2
    go_ret
    exact ⟨rfl, hb1⟩

theorem up_long (a : Option Addr) (len cap : Nat) (w : World) (hn : NeverAt w) (hm : NamesAt w) (hlen : 2000 < len) : Calls Tryd.prog 4 #[.slice a len cap] w (LawPost w) := by
  have HN := Lib.hid hn
  have HM := Lib.hid hm
  have hl : (2000 : Int) < len := by omega
  clear hn hm
  go_enter Tryd.func4, Tryd.ntmps4
  go_wp2_with fail
  refine (alive_any w HN.out HM.out).mono ?_
  rintro q w1 ⟨rfl, hb1⟩
  go_wp2
  go_ret
  exact ⟨rfl, hb1⟩

theorem up_walk (a : Option Addr) (len cap : Nat) (w : World) (hn : NeverAt w) (hm : NamesAt w) (h : IsBytes w a len) : Calls Tryd.prog 4 #[.slice a len cap] w (LawPost w) := by
  by_cases hlen : 2000 < len
  · exact up_long a len cap w hn hm hlen
  · rcases h with rfl | ⟨b, off, E, rfl, hc⟩
    · exact up_zero a cap w hn hm
    · exact up_some b off len cap E w hn hm (by omega) hc
end Go.Proofs.YtkeecifolpidmaaDoor
