/- FsmTells (function 6), walked: for every state, event and bits it gives true, and nothing that was there has turned. -/
import Derived.Test.YtkeecifolpidmaaDoorActions
import Derived.Test.YtkeecifolpidmaaDoorRefNext
import Derived.Test.YtkeecifolpidmaaDoorFrame
import Derived.Deep.QuietTactic
import Derived.BigQuiet
namespace Go.Proofs.YtkeecifolpidmaaDoor
open Go.RowKit

def ActsAt (l : List Int) (w : World) (r : Ending) (w' : World) : Prop :=
  ∃ a cap, r = .returned (.slice a l.length cap) ∧ (∀ j (h : j < l.length), ∃ g, a = some ⟨g, 0, none⟩ ∧ w'.cell? ⟨g, j, none⟩ = some (.int .u16 l[j])) ∧ Below w.heap.size w w'

theorem acts_at {l : List Int} {w : World} {r : Ending} {w' : World} (h : ActsPost l w r w') : ActsAt l w r w' := by
  obtain ⟨v, rfl, ⟨hlen, hv⟩, hb⟩ := h
  rcases hv with ⟨rfl, h0⟩ | ⟨g, cap, cur, rfl, hg, hh, _, _, _, hc⟩
  · exact ⟨none, 0, by rw [h0], fun j hj => by omega, hb⟩
  · refine ⟨some ⟨g, 0, none⟩, cap, rfl, fun j hj => ⟨g, rfl, ?_⟩, hb⟩
    have h1 : (l.map (Value.int .u16))[j]? = some (.int .u16 l[j]) := by simp [hj]
    rw [← hc, List.getElem?_take] at h1
    split at h1
    · simp only [World.cell?, hh]
      simpa using h1
    · cases h1

set_option maxRecDepth 100000 in
set_option maxHeartbeats 1000000 in
theorem tells_core (s e N : Nat) (v : ByteArray) (b : Bool) (w : World) (hn : NeverAt w) (hm : NamesAt w) (hN : N < 65536)
    (hst : ∀ w, NamesAt w → Calls Tryd.prog 12 #[.int .u8 s] w (fun r w' => r = .returned (.tuple #[.string v, .bool b]) ∧ w = w')) (hrst : ∀ w, Calls Tryd.prog 13 #[.int .u8 s] w (StatePost v b w)) :
    Calls Tryd.prog 6 #[.int .u8 s, .int .u8 e, .int .u16 N] w (LawPost w) := by
  have HN := Lib.hid hn
  have HM := Lib.hid hm
  have HST := Lib.hid hst
  have HRST := Lib.hid hrst
  have hLle := actsL_le N 13
  obtain ⟨L, hL⟩ : ∃ L, actsL N 13 = L := ⟨_, rfl⟩
  rw [hL] at hLle
  have HL := Lib.hid hL
  clear hn hm hst hrst hL
  obtain ⟨x, hx⟩ : ∃ x, nS s e = x := ⟨_, rfl⟩
  obtain ⟨n, hn⟩ : ∃ n, nT s e = n := ⟨_, rfl⟩
  obtain ⟨r, hr⟩ : ∃ r, nE s e = r := ⟨_, rfl⟩
  have HC1 := Lib.hid (show ∀ w, NeverAt w → Calls Tryd.prog 8 #[.int .u8 s, .int .u8 e] w (fun q w' => q = .returned (.tuple #[.int .u16 x, .int .u8 n, .int .i64 r]) ∧ Below w.heap.size w w') from fun w h => by rw [← hx, ← hn, ← hr]; exact next_any s e w h)
  have HC2 := Lib.hid (show ∀ w, Calls Tryd.prog 11 #[.int .u8 s, .int .u8 e] w (fun q w' => q = .returned (.tuple #[.int .u16 x, .int .u8 n, .int .i64 r]) ∧ Below w.heap.size w w') from fun w => by rw [← hx, ← hn, ← hr]; exact rnext_any s e w)
  clear hx hn hr
  go_enter Tryd.func6, Tryd.ntmps6
  go_wp2_with fail
  refine (HC1.out w HN.out).mono ?_
  rintro q w1 ⟨rfl, hb⟩
  have B1 := Lib.hid hb
  clear hb
  go_wp2_with fail
  refine (HC2.out w1).mono ?_
  rintro q w2 ⟨rfl, hb⟩
  have B2 := Lib.hid (B1.out.trans (hb.mono B1.out.size))
  clear hb
  go_wp2_with fail
  refine (HST.out w2 (HM.out.below B2.out)).mono ?_
  rintro q w3 ⟨rfl, rfl⟩
  go_wp2_with fail
  refine (HRST.out w2).mono ?_
  rintro q w3 ⟨rfl, hb⟩
  have B3 := Lib.hid (B2.out.trans (hb.mono B2.out.size))
  clear hb
  go_wp2_with fail
  refine (actions_any N w3 hN).mono ?_
  rintro q w4 hq
  obtain ⟨a1, cap1, rfl, hc1, hb⟩ := acts_at hq
  rw [HL.out] at hc1 ⊢
  have B4 := Lib.hid (B3.out.trans (hb.mono B3.out.size))
  have K1 := Lib.hid hc1
  clear hb hq hc1
  go_wp2_with fail
  refine (ractions_any N w4).mono ?_
  rintro q w5 hq
  obtain ⟨a2, cap2, rfl, hc2, hb⟩ := acts_at hq
  rw [HL.out] at hc2 ⊢
  have B5 := Lib.hid (B4.out.trans (hb.mono B4.out.size))
  have B45 := Lib.hid hb
  have K2 := Lib.hid hc2
  clear hb hq hc2
  go_wp2_with fail
  refine (timed_any s w5).mono ?_
  rintro q w6 ⟨rfl, rfl⟩
  go_wp2_with fail
  refine (rtimed_any s w5).mono ?_
  rintro q w6 ⟨rfl, rfl⟩
  go_wp2_with fail
  go_loopw [19] (fun i wr => ∃ k : Nat, k ≤ L.length ∧ i = .int .i64 k ∧ Below w5.heap.size w5 wr) (fun i _ => L.length - (intOf i).toNat)
  case atStart => exact ⟨0, Nat.zero_le _, rfl, Below.refl _ _⟩
  case round =>
    obtain ⟨k, hk, rfl, hb⟩ := hrel
    by_cases hlt : k < L.length
    · obtain ⟨g1, rfl, c1⟩ := K1.out k hlt
      obtain ⟨g2, rfl, c2⟩ := K2.out k hlt
      have d1 : wr.cell? ⟨g1, k, none⟩ = some (.int .u16 L[k]) := by
        have h5 : w5.cell? ⟨g1, k, none⟩ = some (.int .u16 L[k]) := by rw [B45.out.cell (cell_lt c1)]; exact c1
        rw [hb.cell (cell_lt h5)]; exact h5
      have d2 : wr.cell? ⟨g2, k, none⟩ = some (.int .u16 L[k]) := by rw [hb.cell (cell_lt c2)]; exact c2
      obtain ⟨y, hy⟩ : ∃ y, L[k] = y := ⟨_, rfl⟩
      rw [hy] at d1 d2
      have HB := Lib.hid hb
      have hki : (k : Int) < L.length := by omega
      have hk0 : (0 : Int) ≤ k := by omega
      clear hb c1 c2 hy
      go_wp2_with fail
      go_quiet (fail)
      go_wp2_with fail
      exact ⟨⟨k + 1, by omega, by go_num, below_drewN HB.out nq⟩, by simp [intOf]; omega⟩
    · obtain rfl : k = L.length := by omega
      have HB := Lib.hid hb
      clear hb
      have B6 := Lib.hid (B5.out.trans (HB.out.mono B5.out.size))
      go_wp2_with fail
      refine (alive_any wr (HN.out.below B6.out) (HM.out.below B6.out)).mono ?_
      rintro q w6 ⟨rfl, hb6⟩
      go_wp2
      go_ret
      exact ⟨rfl, B6.out.trans (hb6.mono B6.out.size)⟩

theorem tells_walk (s e N : Nat) (w : World) (hn : NeverAt w) (hm : NamesAt w) (hs : s < 256) (hN : N < 65536) : Calls Tryd.prog 6 #[.int .u8 s, .int .u8 e, .int .u16 N] w (LawPost w) := by
  by_cases h : s < 10
  · exact tells_core s e N (nameOf s) true w hn hm hN (fun w hw => state_in s _ w h (hw s h)) (fun w => rstate_in s w h)
  · exact tells_core s e N ⟨#[]⟩ false w hn hm hN (fun w _ => state_out s w (by omega)) (fun w => rstate_out s w (by omega) hs)
end Go.Proofs.YtkeecifolpidmaaDoor
