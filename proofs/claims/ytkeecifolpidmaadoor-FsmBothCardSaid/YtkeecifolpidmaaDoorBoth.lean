/- FsmBoth (function 3), walked: for every slice of events it gives true, and nothing that was there has turned. -/
import Derived.Test.YtkeecifolpidmaaDoorBothPlain
import Derived.Test.YtkeecifolpidmaaDoorFrame
namespace Go.Proofs.YtkeecifolpidmaaDoor
open Go.RowKit


set_option maxHeartbeats 4000000 in
theorem both_some (b off len cap : Nat) (E : Nat → Nat) (w : World) (hn : NeverAt w) (hm : NamesAt w) (hlen : len ≤ 2000)
    (hc : ∀ k, k < len → w.cell? ⟨b, off + k, none⟩ = some (.int .u8 (E k))) :
    Calls Tryd.prog 3 #[.slice (some ⟨b, off, none⟩) len cap] w (LawPost w) := by
  have HN := Lib.hid hn
  have HM := Lib.hid hm
  have HC := Lib.hid hc
  clear hn hm hc
  go_enter Tryd.func3, Tryd.ntmps3
  go_wp2_with fail
  go_loopw [3, 4, 5, 6] (fun s4 b4 b5 i wr => ∃ (k s : Nat) (sent came : Bool), k ≤ len ∧ s < 10 ∧ s4 = .int .u8 s ∧ b4 = .bool sent ∧ b5 = .bool came ∧ i = .int .i64 k ∧ inv s sent came = true ∧ Below w.heap.size w wr) (fun _ _ _ i _ => len - (intOf i).toNat)
  case atStart => exact ⟨0, 0, false, false, Nat.zero_le _, by omega, rfl, rfl, rfl, rfl, rfl, Below.refl _ _⟩
  case round =>
    obtain ⟨k, s, sent, came, hk, hs, rfl, rfl, rfl, rfl, hi, hb⟩ := hrel
    have HB := Lib.hid hb
    by_cases hlt : k < len
    · have hcell : wr.cell? ⟨b, off + k, none⟩ = some (.int .u8 (E k)) := by
        rw [hb.cell (cell_lt (HC.out k hlt))]; exact HC.out k hlt
      have he : E k % 16 < 16 := Nat.mod_lt _ (by omega)
      have HNr := Lib.hid (HN.out.below hb)
      have hem : ((E k % 16 : Nat) : Int) = (E k : Int) % 16 := by omega
      clear hb
      rcases next_known hs he with ⟨hr, n, hn10, hn⟩ | ⟨hr, hx, hn⟩
      · have HI := Lib.hid (inv_step hs he hr hn hi)
        clear hi
        have ht := tup_known hs he hr
        obtain ⟨x, hx⟩ : ∃ x, nS s (E k % 16) = x := ⟨_, rfl⟩
        have HCa := Lib.hid (next_mod hx hn hr wr HNr.out)
        unfold tup at ht
        rw [hem, hx] at HI
        rw [hem, hx, hn] at ht
        clear hr hn hx hem he
        rcases ht with ht | ht
        · simp only [tups9, List.mem_cons, List.not_mem_nil, or_false, Prod.mk.injEq] at ht
          rcases ht with ht | ht | ht
          all_goals
            obtain ⟨h8, h64, h6, h7, h128, h2, h9⟩ := ht
            rw [h8, h64, h6, h7, h128, h2] at HI
            obtain rfl : n = 9 := by simp at h9; omega
          · obtain rfl : sent = true := (inv9 HI.out).1
            obtain rfl : came = true := (inv9 HI.out).2
            clear h9
            go_wp2_with (first | (go_at_call 8; refine HCa.out.mono ?_; rintro q w1 ⟨rfl, hb1⟩) | (go_at_call 9; refine (has_any _ _ _).mono ?_; rintro q w2 ⟨rfl, rfl⟩))
            exact ⟨⟨k + 1, 9, _, _, by omega, hn10, rfl, rfl, rfl, by go_num, HI.out, HB.out.trans (hb1.mono HB.out.size)⟩, by simp [intOf]; omega⟩
          · obtain rfl : came = true := (inv9 HI.out).2
            clear h9
            go_wp2_with (first | (go_at_call 8; refine HCa.out.mono ?_; rintro q w1 ⟨rfl, hb1⟩) | (go_at_call 9; refine (has_any _ _ _).mono ?_; rintro q w2 ⟨rfl, rfl⟩))
            exact ⟨⟨k + 1, 9, _, _, by omega, hn10, rfl, rfl, rfl, by go_num, HI.out, HB.out.trans (hb1.mono HB.out.size)⟩, by simp [intOf]; omega⟩
          · obtain rfl : sent = true := (inv9 HI.out).1
            clear h9
            go_wp2_with (first | (go_at_call 8; refine HCa.out.mono ?_; rintro q w1 ⟨rfl, hb1⟩) | (go_at_call 9; refine (has_any _ _ _).mono ?_; rintro q w2 ⟨rfl, rfl⟩))
            exact ⟨⟨k + 1, 9, _, _, by omega, hn10, rfl, rfl, rfl, by go_num, HI.out, HB.out.trans (hb1.mono HB.out.size)⟩, by simp [intOf]; omega⟩
        · simp only [tups, List.mem_cons, List.not_mem_nil, or_false, Prod.mk.injEq] at ht
          rcases ht with ht | ht | ht | ht | ht | ht | ht | ht | ht | ht | ht | ht | ht | ht
          all_goals
            obtain ⟨h8, h64, h6, h7, h128, h2, h9⟩ := ht
            rw [h8, h64, h6, h7, h128, h2] at HI
            go_wp2_with (first | (go_at_call 8; refine HCa.out.mono ?_; rintro q w1 ⟨rfl, hb1⟩) | (go_at_call 9; refine (has_any _ _ _).mono ?_; rintro q w2 ⟨rfl, rfl⟩))
            exact ⟨⟨k + 1, n, _, _, by omega, hn10, rfl, rfl, rfl, by go_num, HI.out, HB.out.trans (hb1.mono HB.out.size)⟩, by simp [intOf]; omega⟩
      · have HI := Lib.hid hi
        have HCa := Lib.hid (next_mod hx hn hr wr HNr.out)
        clear hr hn hx hem he hi
        go_wp2_with (first | (go_at_call 8; refine HCa.out.mono ?_; rintro q w1 ⟨rfl, hb1⟩) | (go_at_call 9; refine (has_any _ _ _).mono ?_; rintro q w2 ⟨rfl, rfl⟩))
        exact ⟨⟨k + 1, s, _, _, by omega, hs, rfl, rfl, rfl, by go_num, HI.out, HB.out.trans (hb1.mono HB.out.size)⟩, by simp [intOf]; omega⟩
    · obtain rfl : k = len := by omega
      clear hb
      go_wp2_with fail
      refine (alive_any wr (HN.out.below HB.out) (HM.out.below HB.out)).mono ?_
      rintro q w1 ⟨rfl, hb1⟩
      go_wp2
      go_ret
      exact ⟨rfl, HB.out.trans (hb1.mono HB.out.size)⟩

theorem both_zero (a : Option Addr) (cap : Nat) (w : World) (hn : NeverAt w) (hm : NamesAt w) : Calls Tryd.prog 3 #[.slice a 0 cap] w (LawPost w) := by
  have HN := Lib.hid hn
  have HM := Lib.hid hm
  clear hn hm
  go_enter Tryd.func3, Tryd.ntmps3
  go_wp2_with fail
  go_loopw [6] (fun i wr => i = .int .i64 0 ∧ wr = w) (fun _ _ => 0)
  case atStart => exact ⟨rfl, rfl⟩
  case round =>
    obtain ⟨rfl, rfl⟩ := hrel
    go_wp2_with fail
    refine (alive_any wr HN.out HM.out).mono ?_
    rintro q w1 ⟨rfl, hb1⟩
    go_wp2
    go_ret
    exact ⟨rfl, hb1⟩

theorem both_long (a : Option Addr) (len cap : Nat) (w : World) (hn : NeverAt w) (hm : NamesAt w) (hlen : 2000 < len) : Calls Tryd.prog 3 #[.slice a len cap] w (LawPost w) := by
  have HN := Lib.hid hn
  have HM := Lib.hid hm
  have hl : (2000 : Int) < len := by omega
  clear hn hm
  go_enter Tryd.func3, Tryd.ntmps3
  go_wp2_with fail
  refine (alive_any w HN.out HM.out).mono ?_
  rintro q w1 ⟨rfl, hb1⟩
  go_wp2
  go_ret
  exact ⟨rfl, hb1⟩
end Go.Proofs.YtkeecifolpidmaaDoor
