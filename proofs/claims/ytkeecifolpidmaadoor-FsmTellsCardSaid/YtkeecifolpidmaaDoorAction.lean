/- The contract of the reference function action (function 20): the bit of a name, 0 if it is none. -/
import Derived.Test.YtkeecifolpidmaaDoorRefSmall
namespace Go.Proofs.YtkeecifolpidmaaDoor
open Go.RowKit

theorem acts_known : actV.length = 13 ∧ (List.range 13).map (fun k => Value.string (actB k)) = actV := ⟨by kernel_rfl, by kernel_rfl⟩
theorem act_cell {k : Nat} (hk : k < 13) : actV[k]? = some (.string (actB k)) := by
  rw [← acts_known.2]
  simp [hk]

/-- Is it the name of action k? -/
noncomputable def isAct (s : ByteArray) (k : Nat) : Bool := (actB k).toList == s.toList
/-- The bit of a name. -/
noncomputable def act (s : ByteArray) : Int := match (List.range 13).find? (isAct s) with | some k => IntKind.u16.wrap (2 ^ k) | none => 0

theorem find_range {p : Nat → Bool} : ∀ (n m k : Nat), k < n → p (m + k) = true → (∀ j, j < k → p (m + j) = false) → (List.range' m n).find? p = some (m + k)
  | 0, _, k, h, _, _ => by omega
  | n + 1, m, 0, _, hp, _ => by simp [List.range'_succ] at hp ⊢; simp [hp]
  | n + 1, m, k + 1, h, hp, hn => by
    rw [List.range'_succ, List.find?_cons, show p m = false from by simpa using hn 0 (by omega)]
    have := find_range (p := p) n (m + 1) k (by omega) (by rw [show m + 1 + k = m + (k + 1) from by omega]; exact hp) (fun j hj => by rw [show m + 1 + j = m + (j + 1) from by omega]; exact hn (j + 1) (by omega))
    rw [this]
    simp; omega

theorem act_yes {s : ByteArray} {k : Nat} (hk : k < 13) (h : isAct s k = true) (hn : ∀ j, j < k → isAct s j = false) : act s = IntKind.u16.wrap (2 ^ k) := by
  unfold act
  rw [List.range_eq_range', find_range 13 0 k hk (by simpa using h) (by simpa using hn)]
  simp
theorem act_no {s : ByteArray} (hn : ∀ j, j < 13 → isAct s j = false) : act s = 0 := by
  unfold act
  have : (List.range 13).find? (isAct s) = none := by
    rw [List.find?_eq_none]
    intro j hj
    rw [hn j (List.mem_range.1 hj)]
    simp
  rw [this]

def NumPost (n : Int) (w : World) (r : Ending) (w' : World) : Prop := r = .returned (.int .u16 n) ∧ Below w.heap.size w w'

set_option maxHeartbeats 1000000 in
theorem action_any (s : ByteArray) (w : World) : Calls Tryd.prog 20 #[.string s] w (NumPost (act s) w) := by
  go_enter Tryd.func20, Tryd.ntmps20
  go_wp2_with fail
  go_loopw [4] (fun i wr => ∃ k : Nat, k ≤ 13 ∧ i = .int .i64 k ∧ (∀ j, j < k → isAct s j = false) ∧ (∀ j, j < 13 → wr.cell? ⟨w.heap.size, j, none⟩ = some (.string (actB j))) ∧ Below w.heap.size w wr) (fun i _ => 13 - (intOf i).toNat)
  case atStart =>
    refine ⟨0, by omega, rfl, fun j hj => by omega, fun j hj => cell_new_row ?_, (Below.refl _ _).alloc (Nat.le_refl _) _⟩
    rw [← act_cell hj]
    congr 1
  case round =>
    obtain ⟨k, hk, rfl, hno, hcs, hb⟩ := hrel
    have HC := Lib.hid hcs
    have HB := Lib.hid hb
    have HNO := Lib.hid hno
    clear hcs hb hno
    by_cases hlt : k < 13
    · have hc := HC.out k hlt
      cases hk1 : isAct s k with
      | true =>
        have HK := Lib.hid hk1
        have hk2 : ((actB k).toList == s.toList) = true := hk1
        clear hk1
        go_wp2_with fail
        go_ret
        exact ⟨by rw [act_yes hlt HK.out HNO.out]; rfl, HB.out⟩
      | false =>
        have HK := Lib.hid hk1
        have hk2 : ((actB k).toList == s.toList) = false := hk1
        clear hk1
        go_wp2_with fail
        refine ⟨⟨k + 1, by omega, by go_num, fun j hj => ?_, HC.out, HB.out⟩, by simp [intOf]; omega⟩
        by_cases hjk : j = k
        · rw [hjk]; exact HK.out
        · exact HNO.out j (by omega)
    · obtain rfl : k = 13 := by omega
      go_wp2_with fail
      go_ret
      exact ⟨by rw [act_no HNO.out]; rfl, HB.out⟩
end Go.Proofs.YtkeecifolpidmaaDoor
