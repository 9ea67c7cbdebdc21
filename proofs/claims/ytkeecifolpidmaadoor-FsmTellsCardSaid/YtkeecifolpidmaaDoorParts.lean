/- The contract of the reference function parts (function 18): the parts of a text between bytes, in new memory. -/
import Derived.Test.YtkeecifolpidmaaDoorAction
namespace Go.Proofs.YtkeecifolpidmaaDoor
open Go.RowKit

def sepAt (s : ByteArray) (d : Nat) (i : Nat) : Bool := i == s.size || (match s.data[i]? with | some c => c.toNat == d | none => false)
/-- What has been cut, and from where on, when i is come to. -/
def pst (s : ByteArray) (d : Nat) : Nat → List ByteArray × Nat
  | 0 => ([], 0)
  | i + 1 => if sepAt s d i = true then ((pst s d i).1 ++ [s.extract (pst s d i).2 i], i + 1) else pst s d i
/-- A text's parts between bytes. -/
def partsB (s : ByteArray) (d : Nat) : List ByteArray := (pst s d (s.size + 1)).1

theorem pst_le (s : ByteArray) (d : Nat) : ∀ i, (pst s d i).2 ≤ i ∧ (pst s d i).1.length ≤ i
  | 0 => by simp [pst]
  | i + 1 => by
    have := pst_le s d i
    unfold pst
    split
    · simp; omega
    · omega

theorem info9 : (Tryd.prog.info? 9).map (fun i => (i.zero, i.size, i.bytes)) = some (some (.string ⟨#[]⟩), 1, 16) := by kernel_rfl

def PartsPost (n : Nat) (l : List ByteArray) (w : World) (r : Ending) (w' : World) : Prop :=
  ∃ v, r = .returned v ∧ w'.ownsRow w.heap.size 9 1 v n (l.map .string) ∧ Below w.heap.size w w'

set_option maxHeartbeats 1000000 in
theorem parts_any (s : ByteArray) (d : Nat) (w : World) (hs : s.size ≤ 1000) : Calls Tryd.prog 18 #[.string s, .int .u8 d] w (PartsPost (partsB s d).length (partsB s d) w) := by
  obtain ⟨i0, hi, hz0, hz1, hz2⟩ := info_parts info9
  go_enter Tryd.func18, Tryd.ntmps18
  go_wp2_with fail
  go_loopw [5, 6, 7] (fun v f i wr => ∃ k : Nat, k ≤ s.size + 1 ∧ i = .int .i64 k ∧ f = .int .i64 (pst s d k).2 ∧ wr.ownsRow w.heap.size 9 1 v (pst s d k).1.length ((pst s d k).1.map .string) ∧ Below w.heap.size w wr) (fun _ _ i _ => s.size + 1 - (intOf i).toNat)
  case atStart => exact ⟨0, by omega, rfl, rfl, ⟨rfl, Or.inl ⟨rfl, rfl⟩⟩, Below.refl _ _⟩
  case round =>
    obtain ⟨k, hk, rfl, rfl, hown, hb⟩ := hrel
    have hle := pst_le s d k
    have HST := Lib.hid (show pst s d (k + 1) = if sepAt s d k = true then ((pst s d k).1 ++ [s.extract (pst s d k).2 k], k + 1) else pst s d k from rfl)
    obtain ⟨PF, hPF⟩ : ∃ PF, pst s d k = PF := ⟨_, rfl⟩
    rw [hPF] at hown hle HST ⊢
    have HPF := Lib.hid hPF
    clear hPF
    obtain ⟨L, F⟩ := PF
    dsimp only at hown hle HST ⊢
    obtain ⟨hF, hL⟩ := hle
    have OB := Lib.hid (own_base hown)
    have OWN := Lib.hid hown
    have HB := Lib.hid hb
    have hws := hb.size
    clear hown hb
    by_cases hlt : k < s.size
    · have hget : s.data[k]? = some s.data[k] := Array.getElem?_eq_getElem hlt
      have hk2 : ((k : Int) == s.size) = false := by simp; omega
      have hk3 : (k : Int) ≤ s.size := by omega
      cases hsep : sepAt s d k with
      | true =>
        rw [if_pos hsep] at HST
        have hd : (((s[k]'hlt).toNat : Int) == (d : Int)) = true := by
          unfold sepAt at hsep
          rw [hget] at hsep
          simp at hsep
          simp
          have h3 : s.data[k].toNat = d := by omega
          exact_mod_cast h3
        clear hsep hget
        go_wp2_with (at_builtin; refine wpList_append_own _ rfl _ _ 44 rfl w.heap.size 9 i0 (.string ⟨#[]⟩) 1 16 Tryd.underlying44 hi hz0 hz1 hz2 rfl (by decide) _ _ _ rfl (OWN.out.alloc _) ⟨wr.heap.size, 0, none⟩ 1 1 [.string (s.extract F k)] rfl rfl (cell_one_new _ _ _) (by simp [Value.oneCell']) (by unfold maxLen; omega) (by omega) (by simp; omega) ?_; intro v' w1 hown1 hgrow1 _; clear OWN)
        refine ⟨⟨k + 1, by omega, by go_num, ?_, ?_, ?_⟩, by simp [intOf]; omega⟩
        · rw [HST.out]; go_num
        · rw [HST.out]; simpa using hown1
        · exact (HB.out.alloc hws _).grown hgrow1 (by simp; omega) OB.out
      | false =>
        rw [if_neg (by simp [hsep])] at HST
        have hd : (((s[k]'hlt).toNat : Int) == (d : Int)) = false := by
          unfold sepAt at hsep
          rw [hget] at hsep
          simp at hsep
          simp
          have h3 : ¬ s.data[k].toNat = d := by omega
          exact_mod_cast h3
        clear hsep hget
        go_wp2_with fail
        refine ⟨⟨k + 1, by omega, by go_num, ?_, ?_, HB.out⟩, by simp [intOf]; omega⟩
        · rw [HST.out]
        · rw [HST.out]; exact OWN.out
    · by_cases hkeq : k = s.size
      · have hsep : sepAt s d k = true := by simp [sepAt, hkeq]
        rw [if_pos hsep] at HST
        have hk2 : ((k : Int) == s.size) = true := by simp [hkeq]
        have hk3 : (k : Int) ≤ s.size := by omega
        clear hsep hkeq
        go_wp2_with (at_builtin; refine wpList_append_own _ rfl _ _ 44 rfl w.heap.size 9 i0 (.string ⟨#[]⟩) 1 16 Tryd.underlying44 hi hz0 hz1 hz2 rfl (by decide) _ _ _ rfl (OWN.out.alloc _) ⟨wr.heap.size, 0, none⟩ 1 1 [.string (s.extract F k)] rfl rfl (cell_one_new _ _ _) (by simp [Value.oneCell']) (by unfold maxLen; omega) (by omega) (by simp; omega) ?_; intro v' w1 hown1 hgrow1 _; clear OWN)
        refine ⟨⟨k + 1, by omega, by go_num, ?_, ?_, ?_⟩, by simp [intOf]; omega⟩
        · rw [HST.out]; go_num
        · rw [HST.out]; simpa using hown1
        · exact (HB.out.alloc hws _).grown hgrow1 (by simp; omega) OB.out
      · obtain rfl : k = s.size + 1 := by omega
        clear hkeq
        go_wp2_with fail
        go_ret
        have e : partsB s d = L := by unfold partsB; rw [HPF.out]
        rw [e]
        exact ⟨_, rfl, OWN.out, HB.out⟩
end Go.Proofs.YtkeecifolpidmaaDoor
