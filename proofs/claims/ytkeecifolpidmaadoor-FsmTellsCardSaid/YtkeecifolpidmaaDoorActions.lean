/- fsm.Actions and the reference Actions (functions 14, 15): both give the bits of their argument below 13, one by one, in new memory. -/
import Derived.Test.YtkeecifolpidmaaDoorOp
namespace Go.Proofs.YtkeecifolpidmaaDoor
open Go.RowKit

/-- The bits of N below k, one by one. -/
def actsL (N : Nat) : Nat → List Int
  | 0 => []
  | k + 1 => if N.testBit k = true then actsL N k ++ [((2 ^ k : Nat) : Int)] else actsL N k
theorem actsL_le (N : Nat) : ∀ k, (actsL N k).length ≤ k
  | 0 => by simp [actsL]
  | k + 1 => by
    have := actsL_le N k
    unfold actsL
    split
    · simp; omega
    · omega

theorem wrap_u16 {m : Nat} (h : m < 65536) : IntKind.u16.wrap (m : Int) = m := by
  unfold IntKind.wrap
  simp [IntKind.signed, IntKind.bits]
  omega

theorem and_pow {N k : Nat} (hN : N < 65536) (hk : k < 13) : (bits BinOp.and IntKind.u16 (N : Int) ((2 ^ k : Nat) : Int) != 0) = N.testBit k := by
  have hp : 2 ^ k < 65536 := Nat.lt_of_lt_of_le (Nat.pow_lt_pow_right (by omega) hk) (by decide)
  have e1 : (BitVec.ofInt 16 (N : Int)).toNat = N := by
    rw [BitVec.ofInt_natCast, BitVec.toNat_ofNat]; exact Nat.mod_eq_of_lt hN
  have e2 : (BitVec.ofInt 16 ((2 ^ k : Nat) : Int)).toNat = 2 ^ k := by
    rw [BitVec.ofInt_natCast, BitVec.toNat_ofNat]; exact Nat.mod_eq_of_lt hp
  have e3 : bits BinOp.and IntKind.u16 (N : Int) ((2 ^ k : Nat) : Int) = IntKind.u16.wrap (((N &&& 2 ^ k : Nat)) : Int) := by
    show IntKind.u16.wrap (((BitVec.ofInt 16 (N : Int) &&& BitVec.ofInt 16 ((2 ^ k : Nat) : Int)).toNat : Nat) : Int) = _
    rw [BitVec.toNat_and, e1, e2]
  rw [e3]
  cases ht : N.testBit k with
  | false =>
    have e4 : N &&& 2 ^ k = 0 := by
      apply Nat.eq_of_testBit_eq
      intro i
      rw [Nat.testBit_and, Nat.testBit_two_pow, Nat.zero_testBit]
      by_cases h : k = i
      · subst h; simp [ht]
      · simp [h]
    rw [e4]
    decide
  | true =>
    have hp0 : 0 < 2 ^ k := Nat.two_pow_pos k
    have e4 : N &&& 2 ^ k = 2 ^ k := by
      apply Nat.eq_of_testBit_eq
      intro i
      rw [Nat.testBit_and, Nat.testBit_two_pow]
      by_cases h : k = i
      · subst h; simp [ht]
      · simp [h]
    rw [e4, wrap_u16 hp]
    exact bne_iff_ne.2 (by exact_mod_cast Nat.ne_of_gt hp0)

theorem shr_bit (N k : Nat) : (((N : Int) / 2 ^ k).tmod 2 == 1) = N.testBit k := by
  have e : (N : Int) / 2 ^ k = ((N / 2 ^ k : Nat) : Int) := by push_cast; rfl
  rw [e, Nat.testBit_eq_decide_div_mod_eq]
  have e2 : (((N / 2 ^ k : Nat) : Int)).tmod 2 = ((N / 2 ^ k % 2 : Nat) : Int) := by
    rw [Int.tmod_eq_emod_of_nonneg (Int.natCast_nonneg _)]; rfl
  rw [e2]
  by_cases h : N / 2 ^ k % 2 = 1
  · rw [h]; rfl
  · have h0 : N / 2 ^ k % 2 = 0 := by omega
    rw [h0]; rfl

theorem wrap_pow {k : Nat} (hk : k < 13) : IntKind.u16.wrap ((2 : Int) ^ k) = ((2 ^ k : Nat) : Int) := by
  have hp : 2 ^ k < 65536 := Nat.lt_of_lt_of_le (Nat.pow_lt_pow_right (by omega) hk) (by decide)
  rw [← wrap_u16 hp]
  push_cast
  rfl

def ActsPost (l : List Int) (w : World) (r : Ending) (w' : World) : Prop :=
  ∃ v, r = .returned v ∧ w'.ownsRow w.heap.size 24 1 v l.length (l.map (.int .u16)) ∧ Below w.heap.size w w'

set_option maxHeartbeats 1000000 in
theorem actions_any (N : Nat) (w : World) (hN : N < 65536) : Calls Tryd.prog 14 #[.int .u16 N] w (ActsPost (actsL N 13) w) := by
  obtain ⟨i0, hi, hz0, hz1, hz2⟩ := info_parts info24
  go_enter Tryd.func14, Tryd.ntmps14
  go_wp2_with fail
  go_loopw [2, 3] (fun v a wr => ∃ k : Nat, k ≤ 13 ∧ a = .int .u16 ((2 ^ k : Nat) : Int) ∧ wr.ownsRow w.heap.size 24 1 v (actsL N k).length ((actsL N k).map (.int .u16)) ∧ Below w.heap.size w wr) (fun _ a _ => 8192 - (intOf a).toNat)
  case atStart => exact ⟨0, by omega, rfl, ⟨rfl, Or.inl ⟨rfl, rfl⟩⟩, Below.refl _ _⟩
  case round =>
    obtain ⟨k, hk, rfl, hown, hb⟩ := hrel
    have hle := actsL_le N k
    have HST := Lib.hid (show actsL N (k + 1) = if N.testBit k = true then actsL N k ++ [((2 ^ k : Nat) : Int)] else actsL N k from rfl)
    have hp : 2 ^ k ≤ 8192 := Nat.pow_le_pow_right (by omega) hk
    have hp1 : 1 ≤ 2 ^ k := Nat.one_le_two_pow
    have hp2 : 2 ^ (k + 1) = 2 * 2 ^ k := by rw [Nat.pow_succ, Nat.mul_comm]
    have hand : k < 13 → (bits BinOp.and IntKind.u16 (N : Int) ((2 ^ k : Nat) : Int) != 0) = N.testBit k := fun h => and_pow hN h
    have hq : k < 13 → 2 ^ k ≤ 4096 := fun h => Nat.pow_le_pow_right (n := 2) (by omega) (show k ≤ 12 by omega)
    have hq2 : k = 13 → 2 ^ k = 8192 := fun h => by rw [h]
    obtain ⟨A, hA⟩ : ∃ A : Nat, 2 ^ k = A := ⟨_, rfl⟩
    obtain ⟨L, hL⟩ : ∃ L, actsL N k = L := ⟨_, rfl⟩
    rw [hA] at hp hp1 hp2 hand hq hq2 HST ⊢
    rw [hL] at hown hle HST
    have HA2 := Lib.hid hp2
    have HL := Lib.hid hL
    have OB := Lib.hid (own_base hown)
    have OWN := Lib.hid hown
    have HB := Lib.hid hb
    have hws := hb.size
    clear hown hb hA hL hp2
    by_cases hlt : k < 13
    · have hA1 := hq hlt
      have hd := hand hlt
      clear hand hq hq2
      cases ht : N.testBit k with
      | true =>
        rw [ht] at hd
        rw [if_pos ht] at HST
        clear ht
        go_wp2_with (at_builtin; refine wpList_append_own _ rfl _ _ 34 rfl w.heap.size 24 i0 (.int .u16 0) 1 2 Tryd.underlying34 hi hz0 hz1 hz2 rfl (by decide) _ _ _ rfl (OWN.out.alloc _) ⟨wr.heap.size, 0, none⟩ 1 1 [.int .u16 A] rfl rfl (cell_one_new _ _ _) (by simp [Value.oneCell']) (by unfold maxLen; omega) (by omega) (by simp; omega) ?_; intro v' w1 hown1 hgrow1 _; clear OWN)
        refine ⟨⟨k + 1, by omega, ?_, ?_, (HB.out.alloc hws _).grown hgrow1 (by simp; omega) OB.out⟩, ?_⟩
        · rw [HA2.out]; push_cast; rw [Int.mul_comm]
        · rw [HST.out]; simpa using hown1
        · simp [intOf]; omega
      | false =>
        rw [ht] at hd
        rw [if_neg (by simp [ht])] at HST
        clear ht
        go_wp2_with fail
        refine ⟨⟨k + 1, by omega, ?_, ?_, HB.out⟩, ?_⟩
        · rw [HA2.out]; push_cast; rw [Int.mul_comm]
        · rw [HST.out]; exact OWN.out
        · simp [intOf]; omega
    · obtain rfl : k = 13 := by omega
      have hA1 := hq2 rfl
      have hA2 : ¬ (A : Int) ≤ 4096 := by omega
      clear hand hq hq2 hA1
      go_wp2_with fail
      go_ret
      rw [← HL.out] at OWN
      exact ⟨_, rfl, OWN.out, HB.out⟩

set_option maxHeartbeats 1000000 in
theorem ractions_any (N : Nat) (w : World) : Calls Tryd.prog 15 #[.int .u16 N] w (ActsPost (actsL N 13) w) := by
  obtain ⟨i0, hi, hz0, hz1, hz2⟩ := info_parts info24
  go_enter Tryd.func15, Tryd.ntmps15
  go_wp2_with fail
  go_loopw [3, 4] (fun v i wr => ∃ k : Nat, k ≤ 13 ∧ i = .int .i64 k ∧ wr.ownsRow w.heap.size 24 1 v (actsL N k).length ((actsL N k).map (.int .u16)) ∧ Below w.heap.size w wr) (fun _ i _ => 13 - (intOf i).toNat)
  case atStart => exact ⟨0, by omega, rfl, ⟨rfl, Or.inl ⟨rfl, rfl⟩⟩, Below.refl _ _⟩
  case round =>
    obtain ⟨k, hk, rfl, hown, hb⟩ := hrel
    have hle := actsL_le N k
    have HST := Lib.hid (show actsL N (k + 1) = if N.testBit k = true then actsL N k ++ [((2 ^ k : Nat) : Int)] else actsL N k from rfl)
    obtain ⟨L, hL⟩ : ∃ L, actsL N k = L := ⟨_, rfl⟩
    rw [hL] at hown hle HST
    have HL := Lib.hid hL
    have OB := Lib.hid (own_base hown)
    have OWN := Lib.hid hown
    have HB := Lib.hid hb
    have hws := hb.size
    clear hown hb hL
    by_cases hlt : k < 13
    · have hd : (((N : Int) / 2 ^ k).tmod 2 == 1) = N.testBit k := shr_bit N k
      have HW := Lib.hid (wrap_pow hlt)
      cases ht : N.testBit k with
      | true =>
        rw [ht] at hd
        rw [if_pos ht] at HST
        clear ht
        go_wp2_with (at_builtin; refine wpList_append_own _ rfl _ _ 34 rfl w.heap.size 24 i0 (.int .u16 0) 1 2 Tryd.underlying34 hi hz0 hz1 hz2 rfl (by decide) _ _ _ rfl (OWN.out.alloc _) ⟨wr.heap.size, 0, none⟩ 1 1 [.int .u16 (IntKind.u16.wrap (2 ^ k))] rfl rfl (cell_one_new _ _ _) (by simp [Value.oneCell']) (by unfold maxLen; omega) (by omega) (by simp; omega) ?_; intro v' w1 hown1 hgrow1 _; clear OWN)
        refine ⟨⟨k + 1, by omega, by go_num, ?_, (HB.out.alloc hws _).grown hgrow1 (by simp; omega) OB.out⟩, ?_⟩
        · rw [HST.out, ← HW.out]; simpa using hown1
        · simp [intOf]; omega
      | false =>
        rw [ht] at hd
        rw [if_neg (by simp [ht])] at HST
        clear ht
        go_wp2_with fail
        refine ⟨⟨k + 1, by omega, by go_num, ?_, HB.out⟩, ?_⟩
        · rw [HST.out]; exact OWN.out
        · simp [intOf]; omega
    · obtain rfl : k = 13 := by omega
      go_wp2_with fail
      go_ret
      rw [← HL.out] at OWN
      exact ⟨_, rfl, OWN.out, HB.out⟩
end Go.Proofs.YtkeecifolpidmaaDoor
