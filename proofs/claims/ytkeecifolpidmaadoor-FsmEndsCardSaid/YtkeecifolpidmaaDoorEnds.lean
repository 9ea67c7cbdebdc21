/- FsmEnds (function 5), walked: for every slice of events and every number of timeouts it gives true, and nothing that was there has turned. -/
import Derived.Test.YtkeecifolpidmaaDoorBothPlain
import Derived.Test.YtkeecifolpidmaaDoorFrame
namespace Go.Proofs.YtkeecifolpidmaaDoor
open Go.RowKit

/-! ### FsmEnds: closing, and as many timeouts as are wanted, come to Closed -/
theorem close_known {s : Nat} (hs : s < 10) : nE s 3 = 0 ∧ (nT s 3 = 0 ∨ nT s 3 = 2 ∨ nT s 3 = 4) := by
  have h := everyCell_at (f := fun s _ => nE s 3 == 0 && (nT s 3 == 0 || nT s 3 == 2 || nT s 3 == 4)) (by kernel_rfl) hs (show 0 < 16 by omega)
  simp only [Bool.and_eq_true, Bool.or_eq_true, beq_iff_eq] at h
  exact ⟨h.1, by rcases h.2 with (h | h) | h <;> simp [h]⟩

/-- fsm.Next at a state and an event that is written out. -/
theorem next_ev {s : Nat} (e : Nat) (ei : Int) {x n r : Int} (he : (e : Int) = ei) (hx : nS s e = x) (hn : nT s e = n) (hr : nE s e = r) (w : World) (hw : NeverAt w) :
    Calls Tryd.prog 8 #[.int .u8 s, .int .u8 ei] w (fun q w' => q = .returned (.tuple #[.int .u16 x, .int .u8 n, .int .i64 r]) ∧ Below w.heap.size w w') := by
  subst he
  have h := next_any s e w hw
  unfold NextPost at h
  rw [hx, hn, hr] at h
  exact h

theorem timed_lit {s : Int} {v : Bool} (h : timedB s = v) (w : World) : Calls Tryd.prog 10 #[.int .u8 s] w (fun r w' => r = .returned (.bool v) ∧ w = w') := by
  subst h; exact timed_any s w
theorem has_lit {x y : Int} {v : Bool} (h : hasB x y = v) (w : World) : Calls Tryd.prog 9 #[.int .u16 x, .int .u16 y] w (fun r w' => r = .returned (.bool v) ∧ w = w') := by
  subst h; exact has_any x y w

set_option maxRecDepth 100000 in
set_option maxHeartbeats 1000000 in
theorem ends_some (a : Option Addr) (len cap N : Nat) (E : Nat → Nat) (w : World) (hn : NeverAt w) (hm : NamesAt w) (hlen : len ≤ 2000) (hN : N < 256)
    (hc : ∀ k, k < len → ∃ b off, a = some ⟨b, off, none⟩ ∧ w.cell? ⟨b, off + k, none⟩ = some (.int .u8 (E k))) :
    Calls Tryd.prog 5 #[.slice a len cap, .int .u8 N] w (LawPost w) := by
  have HN := Lib.hid hn
  have HM := Lib.hid hm
  have HC := Lib.hid hc
  clear hn hm hc
  go_enter Tryd.func5, Tryd.ntmps5
  go_wp2_with fail
  go_loopw [5, 6] (fun s5 i wr => ∃ (k s : Nat), k ≤ len ∧ s < 10 ∧ s5 = .int .u8 s ∧ i = .int .i64 k ∧ Below w.heap.size w wr) (fun _ i _ => len - (intOf i).toNat)
  case atStart => exact ⟨0, 0, Nat.zero_le _, by omega, rfl, rfl, Below.refl _ _⟩
  case round =>
    obtain ⟨k, s, hk, hs, rfl, rfl, hb⟩ := hrel
    have HB := Lib.hid hb
    by_cases hlt : k < len
    · obtain ⟨b, off, rfl, hcw⟩ := HC.out k hlt
      have hcell : wr.cell? ⟨b, off + k, none⟩ = some (.int .u8 (E k)) := by
        rw [hb.cell (cell_lt hcw)]; exact hcw
      clear hcw
      have he : E k % 16 < 16 := Nat.mod_lt _ (by omega)
      have HNr := Lib.hid (HN.out.below hb)
      clear hb
      rcases next_known hs he with ⟨hr, n, hn10, hn⟩ | ⟨hr, hx, hn⟩
      · have HCa := Lib.hid (next_mod rfl hn hr wr HNr.out)
        clear hr hn he
        go_wp2_with (first | (go_at_call 8; refine HCa.out.mono ?_; rintro q w1 ⟨rfl, hb1⟩))
        exact ⟨⟨k + 1, n, by omega, hn10, rfl, by go_num, HB.out.trans (hb1.mono HB.out.size)⟩, by simp [intOf]; omega⟩
      · have HCa := Lib.hid (next_mod hx hn hr wr HNr.out)
        clear hr hn hx he
        go_wp2_with (first | (go_at_call 8; refine HCa.out.mono ?_; rintro q w1 ⟨rfl, hb1⟩))
        exact ⟨⟨k + 1, s, by omega, hs, rfl, by go_num, HB.out.trans (hb1.mono HB.out.size)⟩, by simp [intOf]; omega⟩
    · obtain rfl : k = len := by omega
      clear hb
      have HNr := Lib.hid (HN.out.below HB.out)
      obtain ⟨hr, hT⟩ := close_known hs
      rcases hT with hT | hT | hT
      · have HCa := Lib.hid (next_ev (s := s) 3 3 rfl rfl hT hr wr HNr.out)
        clear hT hr
        go_wp2_with fail
        refine HCa.out.mono ?_
        rintro q w1 ⟨rfl, hb1⟩
        have HB1 := Lib.hid (HB.out.trans (hb1.mono HB.out.size))
        clear hb1
        go_wp2_with fail
        refine (next_lit 0 0 0 0 0 2 0 rfl rfl (by kernel_rfl) w1 (HN.out.below HB1.out)).mono ?_
        rintro q w2 ⟨rfl, hb2⟩
        have HB2 := Lib.hid (HB1.out.trans (hb2.mono HB1.out.size))
        clear hb2
        go_wp2_with fail
        refine (alive_any w2 (HN.out.below HB2.out) (HM.out.below HB2.out)).mono ?_
        rintro q w3 ⟨rfl, hb3⟩
        go_wp2
        go_ret
        exact ⟨rfl, HB2.out.trans (hb3.mono HB2.out.size)⟩
      · have HCa := Lib.hid (next_ev (s := s) 3 3 rfl rfl hT hr wr HNr.out)
        clear hT hr
        go_wp2_with fail
        refine HCa.out.mono ?_
        rintro q w1 ⟨rfl, hb1⟩
        have HB1 := Lib.hid (HB.out.trans (hb1.mono HB.out.size))
        clear hb1
        go_wp2_with fail
        go_loopw [16] (fun i wx => ∃ j : Nat, j ≤ N ∧ i = .int .i64 j ∧ Below w.heap.size w wx) (fun i _ => N - (intOf i).toNat)
        case atStart => exact ⟨0, Nat.zero_le _, rfl, HB1.out⟩
        case round =>
          obtain ⟨j, hj, rfl, hb2⟩ := hrel
          have HB2 := Lib.hid hb2
          clear hb2
          by_cases hjl : j < N
          · go_wp2_with fail
            refine (timed_lit (show timedB 2 = false by kernel_rfl) _).mono ?_
            rintro q w2 ⟨rfl, rfl⟩
            go_wp2_with fail
            refine (timed_lit (show timedB 2 = false by kernel_rfl) _).mono ?_
            rintro q w2 ⟨rfl, rfl⟩
            go_wp2_with fail
            refine (next_lit 2 2 2 2 80 6 0 rfl rfl (by kernel_rfl) _ (HN.out.below HB2.out)).mono ?_
            rintro q w3 ⟨rfl, hb3⟩
            have HB3 := Lib.hid (HB2.out.trans (hb3.mono HB2.out.size))
            clear hb3
            go_wp2_with fail
            refine (has_lit (show hasB 80 64 = true by kernel_rfl) w3).mono ?_
            rintro q w4 ⟨rfl, rfl⟩
            go_wp2_with fail
            refine (alive_any w3 (HN.out.below HB3.out) (HM.out.below HB3.out)).mono ?_
            rintro q w4 ⟨rfl, hb4⟩
            go_wp2
            go_ret
            exact ⟨rfl, HB3.out.trans (hb4.mono HB3.out.size)⟩
          · go_wp2_with fail
            refine (timed_lit (show timedB 2 = false by kernel_rfl) _).mono ?_
            rintro q w2 ⟨rfl, rfl⟩
            go_wp2_with fail
            refine (next_lit 2 2 2 2 80 6 0 rfl rfl (by kernel_rfl) _ (HN.out.below HB2.out)).mono ?_
            rintro q w3 ⟨rfl, hb3⟩
            have HB3 := Lib.hid (HB2.out.trans (hb3.mono HB2.out.size))
            clear hb3
            go_wp2_with fail
            refine (has_lit (show hasB 80 64 = true by kernel_rfl) w3).mono ?_
            rintro q w4 ⟨rfl, rfl⟩
            go_wp2_with fail
            refine (alive_any w3 (HN.out.below HB3.out) (HM.out.below HB3.out)).mono ?_
            rintro q w4 ⟨rfl, hb4⟩
            go_wp2
            go_ret
            exact ⟨rfl, HB3.out.trans (hb4.mono HB3.out.size)⟩
      · have HCa := Lib.hid (next_ev (s := s) 3 3 rfl rfl hT hr wr HNr.out)
        clear hT hr
        go_wp2_with fail
        refine HCa.out.mono ?_
        rintro q w1 ⟨rfl, hb1⟩
        have HB1 := Lib.hid (HB.out.trans (hb1.mono HB.out.size))
        clear hb1
        go_wp2_with fail
        go_loopw [16] (fun i wx => ∃ j : Nat, j ≤ N ∧ i = .int .i64 j ∧ Below w.heap.size w wx) (fun i _ => N - (intOf i).toNat)
        case atStart => exact ⟨0, Nat.zero_le _, rfl, HB1.out⟩
        case round =>
          obtain ⟨j, hj, rfl, hb2⟩ := hrel
          have HB2 := Lib.hid hb2
          clear hb2
          by_cases hjl : j < N
          · go_wp2_with fail
            refine (timed_lit (show timedB 4 = true by kernel_rfl) _).mono ?_
            rintro q w2 ⟨rfl, rfl⟩
            go_wp2_with fail
            refine (next_lit 4 4 4 4 512 4 0 rfl rfl (by kernel_rfl) _ (HN.out.below HB2.out)).mono ?_
            rintro q w3 ⟨rfl, hb3⟩
            have HB3 := Lib.hid (HB2.out.trans (hb3.mono HB2.out.size))
            clear hb3
            go_wp2_with fail
            refine (has_lit (show hasB 512 512 = true by kernel_rfl) w3).mono ?_
            rintro q w4 ⟨rfl, rfl⟩
            go_wp2
            exact ⟨⟨j + 1, by omega, by go_num, HB3.out⟩, by simp [intOf]; omega⟩
          · go_wp2_with fail
            refine (timed_lit (show timedB 4 = true by kernel_rfl) _).mono ?_
            rintro q w2 ⟨rfl, rfl⟩
            go_wp2_with fail
            refine (next_lit 4 5 4 5 8 2 0 rfl rfl (by kernel_rfl) _ (HN.out.below HB2.out)).mono ?_
            rintro q w5 ⟨rfl, hb5⟩
            have HB5 := Lib.hid (HB2.out.trans (hb5.mono HB2.out.size))
            clear hb5 HB2
            have HB2 := Lib.hid HB5.out
            clear HB5
            go_wp2_with fail
            refine (has_lit (show hasB 8 8 = true by kernel_rfl) _).mono ?_
            rintro q w6 ⟨rfl, rfl⟩
            go_wp2_with fail
            refine (next_lit 2 2 2 2 80 6 0 rfl rfl (by kernel_rfl) _ (HN.out.below HB2.out)).mono ?_
            rintro q w3 ⟨rfl, hb3⟩
            have HB3 := Lib.hid (HB2.out.trans (hb3.mono HB2.out.size))
            clear hb3
            go_wp2_with fail
            refine (has_lit (show hasB 80 64 = true by kernel_rfl) w3).mono ?_
            rintro q w4 ⟨rfl, rfl⟩
            go_wp2_with fail
            refine (alive_any w3 (HN.out.below HB3.out) (HM.out.below HB3.out)).mono ?_
            rintro q w4 ⟨rfl, hb4⟩
            go_wp2
            go_ret
            exact ⟨rfl, HB3.out.trans (hb4.mono HB3.out.size)⟩

theorem ends_long (a : Option Addr) (len cap N : Nat) (w : World) (hn : NeverAt w) (hm : NamesAt w) (hlen : 2000 < len) : Calls Tryd.prog 5 #[.slice a len cap, .int .u8 N] w (LawPost w) := by
  have HN := Lib.hid hn
  have HM := Lib.hid hm
  have hl : (2000 : Int) < len := by omega
  clear hn hm
  go_enter Tryd.func5, Tryd.ntmps5
  go_wp2_with fail
  refine (alive_any w HN.out HM.out).mono ?_
  rintro q w1 ⟨rfl, hb1⟩
  go_wp2
  go_ret
  exact ⟨rfl, hb1⟩

theorem ends_walk (a : Option Addr) (len cap N : Nat) (w : World) (hn : NeverAt w) (hm : NamesAt w) (hN : N < 256) (h : IsBytes w a len) : Calls Tryd.prog 5 #[.slice a len cap, .int .u8 N] w (LawPost w) := by
  by_cases hlen : 2000 < len
  · exact ends_long a len cap N w hn hm hlen
  · rcases h with rfl | ⟨b, off, E, rfl, hc⟩
    · exact ends_some a 0 cap N (fun _ => 0) w hn hm (by omega) hN (fun k hk => by omega)
    · exact ends_some _ len cap N E w hn hm (by omega) hN (fun k hk => ⟨b, off, rfl, hc k hk⟩)
end Go.Proofs.YtkeecifolpidmaaDoor
