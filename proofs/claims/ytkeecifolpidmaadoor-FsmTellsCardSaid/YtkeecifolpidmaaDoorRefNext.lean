/- The contract of the reference function Next (function 11), for every state and event: it gives what fsm.Next gives. -/
import Derived.Test.YtkeecifolpidmaaDoorParts
import Derived.Test.YtkeecifolpidmaaDoorBothPlain
import Derived.Deep.QuietTactic
import Derived.BigQuiet
namespace Go.Proofs.YtkeecifolpidmaaDoor
open Go.RowKit

theorem partsB_pos (s : ByteArray) (d : Nat) : 0 < (partsB s d).length := by
  unfold partsB pst
  rw [if_pos (by simp [sepAt])]
  simp

/-- A new slice of these texts. -/
def TextsPost (l : List ByteArray) (w : World) (r : Ending) (w' : World) : Prop :=
  ∃ g cap, r = .returned (.slice (some ⟨g, 0, none⟩) l.length cap) ∧ (∀ j (h : j < l.length), w'.cell? ⟨g, j, none⟩ = some (.string l[j])) ∧ Below w.heap.size w w'

theorem parts_at {s : ByteArray} {d : Nat} {di : Int} {l : List ByteArray} (hd : (d : Int) = di) (hl : partsB s d = l) (hs : s.size ≤ 1000) (w : World) : Calls Tryd.prog 18 #[.string s, .int .u8 di] w (TextsPost l w) := by
  subst hd; subst hl
  refine (parts_any s d w hs).mono ?_
  rintro r w' ⟨v, rfl, ⟨hlen, hv⟩, hb⟩
  have hp := partsB_pos s d
  rcases hv with ⟨_, h0⟩ | ⟨g, cap, cur, rfl, hg, hh, _, _, _, hc⟩
  · omega
  · refine ⟨g, cap, rfl, fun j hj => ?_, hb⟩
    have h1 : ((partsB s d).map Value.string)[j]? = some (.string (partsB s d)[j]) := by simp [hj]
    rw [← hc, List.getElem?_take] at h1
    split at h1
    · simp only [World.cell?, hh]
      simpa using h1
    · cases h1

theorem rnext_arg (s e : Nat) (w : World) (h : 10 ≤ s ∨ 16 ≤ e) : Calls Tryd.prog 11 #[.int .u8 s, .int .u8 e] w (fun r w' => r = .returned (.tuple #[.int .u16 0, .int .u8 0, .int .i64 2]) ∧ w = w') := by
  by_cases h1 : 10 ≤ s
  · have h2 : ¬ s < 10 := by omega
    clear h
    go_enter Tryd.func11, Tryd.ntmps11
    go_wp2_with fail
    go_ret3
    exact ⟨rfl, rfl⟩
  · have h2 : 16 ≤ e := by omega
    clear h
    go_enter Tryd.func11, Tryd.ntmps11
    go_wp2_with fail
    go_ret3
    exact ⟨rfl, rfl⟩

def ThreePost (x n r : Int) (w : World) (q : Ending) (w' : World) : Prop := q = .returned (.tuple #[.int .u16 x, .int .u8 n, .int .i64 r]) ∧ Below w.heap.size w w'

set_option maxHeartbeats 1000000 in
theorem rnext_no (s e : Nat) (cells : List ByteArray) (w : World) (hs : s < cells.length) (hs10 : s < 10) (he : e < 16) (hl : (lineB e).size ≤ 1000) (hcs : partsB (lineB e) 32 = cells) (hno : (cells[s].toList == [45]) = true) :
    Calls Tryd.prog 11 #[.int .u8 s, .int .u8 e] w (ThreePost 0 0 120 w) := by
  have hs1 : (s : Int) < 10 := by omega
  have he1 : (e : Int) < 16 := by omega
  obtain ⟨cell, hce⟩ : ∃ c, cells[s] = c := ⟨_, rfl⟩
  rw [hce] at hno
  have HCE := Lib.hid hce
  have HCS := Lib.hid hcs
  clear hce hcs
  go_enter Tryd.func11, Tryd.ntmps11
  go_wp2_with fail
  refine (lines_any w).mono ?_
  rintro q w1 ⟨g, rfl, hlc, hb1⟩
  have hc1 := hlc e he
  have HB1 := Lib.hid hb1
  clear hlc hb1
  go_wp2_with fail
  refine (parts_at (d := 32) rfl HCS.out hl w1).mono ?_
  rintro q w2 ⟨g2, cap2, rfl, hpc, hb2⟩
  have hc2 := hpc s hs
  rw [HCE.out] at hc2
  have HB2 := Lib.hid (HB1.out.trans (hb2.mono HB1.out.size))
  clear hpc hb2 hc1
  go_wp2_with fail
  go_ret3
  exact ⟨rfl, HB2.out⟩

set_option maxHeartbeats 1000000 in
theorem rnext_one (s e n : Nat) (cells : List ByteArray) (last : ByteArray) (w : World) (hs : s < cells.length) (hs10 : s < 10) (he : e < 16) (hl : (lineB e).size ≤ 1000) (hcs : partsB (lineB e) 32 = cells) (hno : (cells[s].toList == [45]) = false)
    (hch : partsB cells[s] 47 = [last]) (hcl : cells[s].size ≤ 1000) (hlast : 0 < last.size) (hn : (last[0]'hlast).toNat = n + 48) (hn10 : n < 10) :
    Calls Tryd.prog 11 #[.int .u8 s, .int .u8 e] w (ThreePost 0 n 0 w) := by
  have hs1 : (s : Int) < 10 := by omega
  have he1 : (e : Int) < 16 := by omega
  obtain ⟨cell, hce⟩ : ∃ c, cells[s] = c := ⟨_, rfl⟩
  rw [hce] at hno hch hcl
  have HCE := Lib.hid hce
  have HCS := Lib.hid hcs
  have HCH := Lib.hid hch
  clear hce hcs hch
  go_enter Tryd.func11, Tryd.ntmps11
  go_wp2_with fail
  refine (lines_any w).mono ?_
  rintro q w1 ⟨g, rfl, hlc, hb1⟩
  have hc1 := hlc e he
  have HB1 := Lib.hid hb1
  clear hlc hb1
  go_wp2_with fail
  refine (parts_at (d := 32) rfl HCS.out hl w1).mono ?_
  rintro q w2 ⟨g2, cap2, rfl, hpc, hb2⟩
  have hc2 := hpc s hs
  rw [HCE.out] at hc2
  have HB2 := Lib.hid (HB1.out.trans (hb2.mono HB1.out.size))
  clear hpc hb2 hc1
  go_wp2_with fail
  refine (parts_at (d := 47) rfl HCH.out hcl w2).mono ?_
  rintro q w3 ⟨g3, cap3, rfl, hhc, hb3⟩
  have hc3 := hhc 0 (by simp)
  simp only [List.getElem_cons_zero] at hc3
  have HB3 := Lib.hid (HB2.out.trans (hb3.mono HB2.out.size))
  clear hhc hb3 hc2
  have hl0 : (0 : Int) < last.size := by omega
  go_wp2_with fail
  go_quiet (fail)
  go_wp2_with fail
  go_ret3
  exact ⟨rfl, below_drewN HB3.out nq⟩

/-- The bits of the names, put together. -/
noncomputable def setOf (l : List ByteArray) : Int := l.foldl (fun a x => bits BinOp.or IntKind.u16 a (act x)) 0
theorem setOf_snoc (l : List ByteArray) (k : Nat) (h : k < l.length) : setOf (l.take (k + 1)) = bits BinOp.or IntKind.u16 (setOf (l.take k)) (act l[k]) := by
  unfold setOf
  rw [List.take_succ_eq_append_getElem h, List.foldl_append]
  simp

set_option maxHeartbeats 2000000 in
theorem rnext_two (s e n : Nat) (x : Int) (cells names : List ByteArray) (fst last : ByteArray) (w : World) (hs : s < cells.length) (hs10 : s < 10) (he : e < 16) (hl : (lineB e).size ≤ 1000) (hcs : partsB (lineB e) 32 = cells) (hno : (cells[s].toList == [45]) = false)
    (hch : partsB cells[s] 47 = [fst, last]) (hcl : cells[s].size ≤ 1000) (hfs : fst.size ≤ 1000) (hns : partsB fst 44 = names) (hnl : names.length ≤ 1000) (hx : setOf names = x) (hlast : 0 < last.size) (hn : (last[0]'hlast).toNat = n + 48) (hn10 : n < 10) :
    Calls Tryd.prog 11 #[.int .u8 s, .int .u8 e] w (ThreePost x n 0 w) := by
  have HNS := Lib.hid hns
  have HX := Lib.hid hx
  clear hns hx
  have hs1 : (s : Int) < 10 := by omega
  have he1 : (e : Int) < 16 := by omega
  obtain ⟨cell, hce⟩ : ∃ c, cells[s] = c := ⟨_, rfl⟩
  rw [hce] at hno hch hcl
  have HCE := Lib.hid hce
  have HCS := Lib.hid hcs
  have HCH := Lib.hid hch
  clear hce hcs hch
  go_enter Tryd.func11, Tryd.ntmps11
  go_wp2_with fail
  refine (lines_any w).mono ?_
  rintro q w1 ⟨g, rfl, hlc, hb1⟩
  have hc1 := hlc e he
  have HB1 := Lib.hid hb1
  clear hlc hb1
  go_wp2_with fail
  refine (parts_at (d := 32) rfl HCS.out hl w1).mono ?_
  rintro q w2 ⟨g2, cap2, rfl, hpc, hb2⟩
  have hc2 := hpc s hs
  rw [HCE.out] at hc2
  have HB2 := Lib.hid (HB1.out.trans (hb2.mono HB1.out.size))
  clear hpc hb2 hc1
  go_wp2_with fail
  refine (parts_at (d := 47) rfl HCH.out hcl w2).mono ?_
  rintro q w3 ⟨g3, cap3, rfl, hhc, hb3⟩
  have hc3 := hhc 0 (by simp)
  have hc4 := hhc 1 (by simp)
  simp only [List.getElem_cons_zero, List.getElem_cons_succ] at hc3 hc4
  have HB3 := Lib.hid (HB2.out.trans (hb3.mono HB2.out.size))
  clear hhc hb3 hc2
  have hl0 : (0 : Int) < last.size := by omega
  go_wp2_with fail
  refine (parts_at (d := 44) rfl HNS.out hfs w3).mono ?_
  rintro q w4 ⟨g4, cap4, rfl, hnc, hb4⟩
  have HB4 := Lib.hid (HB3.out.trans (hb4.mono HB3.out.size))
  have hc5 : w4.cell? ⟨g3, 1, none⟩ = some (.string last) := by rw [hb4.cell (cell_lt hc4)]; exact hc4
  have HNC := Lib.hid hnc
  clear hnc hb4 hc3 hc4
  go_wp2_with fail
  go_loopw [8, 11] (fun v i wr => ∃ k : Nat, k ≤ names.length ∧ i = .int .i64 k ∧ v = .int .u16 (setOf (names.take k)) ∧ Below w4.heap.size w4 wr) (fun _ i _ => names.length - (intOf i).toNat)
  case atStart => exact ⟨0, Nat.zero_le _, rfl, rfl, Below.refl _ _⟩
  case round =>
    obtain ⟨k, hk, rfl, rfl, hb⟩ := hrel
    have HB := Lib.hid hb
    clear hb
    by_cases hlt : k < names.length
    · have hcn := HNC.out k hlt
      have hcn2 : wr.cell? ⟨g4, k, none⟩ = some (.string names[k]) := by rw [HB.out.cell (cell_lt hcn)]; exact hcn
      obtain ⟨nm, hnm⟩ : ∃ nm, names[k] = nm := ⟨_, rfl⟩
      have HS := Lib.hid (setOf_snoc names k hlt)
      rw [hnm] at hcn2 HS
      clear hcn hnm hc5
      go_wp2_with (go_at_call 20; refine (action_any nm _).mono ?_; rintro q w5 ⟨rfl, hb5⟩)
      refine ⟨⟨k + 1, by omega, by go_num, ?_, HB.out.trans (hb5.mono HB.out.size)⟩, by simp [intOf]; omega⟩
      rw [HS.out]
    · obtain rfl : k = names.length := by omega
      have hc6 : wr.cell? ⟨g3, 1, none⟩ = some (.string last) := by rw [HB.out.cell (cell_lt hc5)]; exact hc5
      clear hc5
      go_wp2_with fail
      go_quiet (fail)
      go_wp2_with fail
      go_ret3
      refine ⟨?_, below_drewN (HB4.out.trans (HB.out.mono HB4.out.size)) nq⟩
      have e1 : setOf (names.take names.length) = x := by rw [List.take_length]; exact HX.out
      rw [← e1]
      rfl

def lastOk (last : ByteArray) (n : Int) : Bool := decide (0 < last.size) && (match last.data[0]? with | some c => (c.toNat : Int) == n + 48 | none => false)
/-- The reference's text of a state and an event says what the table says. -/
noncomputable def refOk (s e : Nat) : Bool :=
  decide ((lineB e).size ≤ 1000) && match (partsB (lineB e) 32)[s]? with
  | none => false
  | some cell =>
    if cell.toList == [45] then nE s e == 120 && nS s e == 0 && nT s e == 0
    else decide (cell.size ≤ 1000) && nE s e == 0 && decide (0 ≤ nT s e) && decide (nT s e < 10) && match partsB cell 47 with
      | [last] => lastOk last (nT s e) && nS s e == 0
      | [fst, last] => lastOk last (nT s e) && decide (fst.size ≤ 1000) && decide ((partsB fst 44).length ≤ 1000) && setOf (partsB fst 44) == nS s e
      | _ => false

theorem refOk_all : everyCell refOk = true := by kernel_rfl

theorem lastOk_at {last : ByteArray} {n : Nat} (h : lastOk last n = true) : ∃ h0 : 0 < last.size, (last[0]'h0).toNat = n + 48 := by
  unfold lastOk at h
  simp only [Bool.and_eq_true, decide_eq_true_eq] at h
  obtain ⟨h0, h1⟩ := h
  refine ⟨h0, ?_⟩
  rw [Array.getElem?_eq_getElem h0] at h1
  simp only [beq_iff_eq] at h1
  have h2 : (last.data[0]'h0).toNat = n + 48 := by omega
  exact h2

/-- The reference's Next, whatever the state and the event: what fsm.Next gives. -/
theorem rnext_any (s e : Nat) (w : World) : Calls Tryd.prog 11 #[.int .u8 s, .int .u8 e] w (NextPost s e w) := by
  by_cases h : 10 ≤ s ∨ 16 ≤ e
  · have hS : nS s e = 0 := by unfold nS nxt; rw [if_pos h]
    have hT : nT s e = 0 := by unfold nT nxt; rw [if_pos h]
    have hE : nE s e = 2 := by unfold nE nxt; rw [if_pos h]
    unfold NextPost
    rw [hS, hT, hE]
    refine (rnext_arg s e w h).mono ?_
    rintro r w' ⟨hr, rfl⟩
    exact ⟨hr, Below.refl _ _⟩
  · have hs : s < 10 := by omega
    have he : e < 16 := by omega
    have hok := everyCell_at refOk_all hs he
    unfold refOk at hok
    simp only [Bool.and_eq_true, decide_eq_true_eq] at hok
    obtain ⟨hl, hok⟩ := hok
    split at hok
    case h_1 => cases hok
    case h_2 cell hcell =>
    obtain ⟨hsl, hce⟩ := List.getElem?_eq_some_iff.1 hcell
    split at hok
    case isTrue hdash =>
      simp only [Bool.and_eq_true, beq_iff_eq] at hok
      obtain ⟨⟨hE, hS⟩, hT⟩ := hok
      unfold NextPost
      rw [hE, hS, hT]
      exact rnext_no s e _ w hsl hs he hl rfl (by rw [hce]; exact hdash)
    case isFalse hdash =>
      have hdash' : (cell.toList == [45]) = false := by simpa using hdash
      simp only [Bool.and_eq_true, decide_eq_true_eq, beq_iff_eq] at hok
      obtain ⟨⟨⟨⟨hcl, hE⟩, h0⟩, h10⟩, hok⟩ := hok
      obtain ⟨n, hn⟩ : ∃ n : Nat, nT s e = n := ⟨(nT s e).toNat, by omega⟩
      rw [hn] at hok h10
      have hn10 : n < 10 := by omega
      unfold NextPost
      rw [hE, hn]
      split at hok
      case h_1 last hp =>
        simp only [Bool.and_eq_true, beq_iff_eq] at hok
        obtain ⟨hlo, hS⟩ := hok
        obtain ⟨hl0, hl1⟩ := lastOk_at hlo
        rw [hS]
        exact rnext_one s e n _ last w hsl hs he hl rfl (by rw [hce]; exact hdash') (by rw [hce]; exact hp) (by rw [hce]; exact hcl) hl0 hl1 hn10
      case h_2 fst last hp =>
        simp only [Bool.and_eq_true, decide_eq_true_eq, beq_iff_eq] at hok
        obtain ⟨⟨⟨hlo, hfs⟩, hnl⟩, hS⟩ := hok
        obtain ⟨hl0, hl1⟩ := lastOk_at hlo
        exact rnext_two s e n _ _ _ fst last w hsl hs he hl rfl (by rw [hce]; exact hdash') (by rw [hce]; exact hp) (by rw [hce]; exact hcl) hfs rfl hnl hS hl0 hl1 hn10
      case h_3 => cases hok
end Go.Proofs.YtkeecifolpidmaaDoor
