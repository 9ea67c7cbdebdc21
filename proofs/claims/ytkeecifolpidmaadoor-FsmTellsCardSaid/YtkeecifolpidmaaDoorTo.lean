/- The contract of fsm.to (function 22): it gives the cell of a state and of the bits of its actions put together; nothing that was there is turned. -/
import Derived.Test.YtkeecifolpidmaaDoorRows
import Derived.WalkKit
import Derived.WalkSpells
import Derived.WalkLawsBesides
import Derived.Lib.Hide
namespace Go.Proofs.YtkeecifolpidmaaDoor
open Go.RowKit

/-- The bits of a list, put together. -/
def orAll (l : List Int) : Int := l.foldl (fun a x => bits BinOp.or IntKind.u16 a x) 0

theorem orAll_snoc (l : List Int) (k : Nat) (h : k < l.length) : orAll (l.take (k + 1)) = bits BinOp.or IntKind.u16 (orAll (l.take k)) l[k] := by
  unfold orAll
  rw [List.take_succ_eq_append_getElem h, List.foldl_append]
  simp

/-- What fsm.to gives: the cell; nothing that was there has turned. -/
def ToPost (st x : Int) (w : World) (e : Ending) (w' : World) : Prop :=
  e = .returned (.agg #[.int .u16 x, .int .u8 st, .bool true]) ∧ Below w.heap.size w w'

set_option maxHeartbeats 400000 in
theorem to_any (st : Int) (g : Nat) (l : List Int) (w : World) (hl : l.length ≤ 1000) (hc : ∀ k (h : k < l.length), w.cell? ⟨g, k, none⟩ = some (.int .u16 l[k])) :
    Calls Tryd.prog 22 #[.int .u8 st, .slice (some ⟨g, 0, none⟩) l.length l.length] w (ToPost st (orAll l) w) := by
  go_enter Tryd.func22, Tryd.ntmps22
  go_wp2
  go_loopw [13] (fun i wr => ∃ k : Nat, k ≤ l.length ∧ i = .int .i64 k ∧ wr = (w.alloc (Obj.cells #[Value.int IntKind.u16 0, Value.int IntKind.u8 0, Value.bool false] 40)).alloc
  (Obj.cells #[Value.int IntKind.u16 (orAll (l.take k)), Value.int IntKind.u8 st, Value.bool true] 40)) (fun i _ => l.length - (intOf i).toNat)
  case atStart => exact ⟨0, Nat.zero_le _, rfl, rfl⟩
  case round =>
    obtain ⟨k, hk, rfl, rfl⟩ := hrel
    by_cases hlt : k < l.length
    · have hcell := hc k hlt
      have hgb : g < w.heap.size := World.block_lt_of_cell? w ⟨g, k, none⟩ hcell
      have HS := Lib.hid (orAll_snoc l k hlt)
      clear hc
      go_wp2
      go_roundw
      case rel => exact ⟨k + 1, by omega, by go_num, by rw [HS.out]⟩
      case measure => simp [intOf]; omega
    · obtain rfl : k = l.length := by omega
      clear hc
      go_wp2
      refine bodyPost_ret (v := .agg #[.int .u16 (orAll l), .int .u8 st, .bool true]) (by simp [results, Tryd.results22, go_sem]) rfl ⟨rfl, ?_⟩
      exact ((Below.refl _ _).alloc (Nat.le_refl _) _).alloc (by simp) _

set_option maxHeartbeats 400000 in
theorem to_nil (st : Int) (w : World) :
    Calls Tryd.prog 22 #[.int .u8 st, .slice none 0 0] w (ToPost st 0 w) := by
  go_enter Tryd.func22, Tryd.ntmps22
  go_wp2
  go_loopw [13] (fun i wr => i = .int .i64 0 ∧ wr = (w.alloc (Obj.cells #[Value.int IntKind.u16 0, Value.int IntKind.u8 0, Value.bool false] 40)).alloc
  (Obj.cells #[Value.int IntKind.u16 0, Value.int IntKind.u8 st, Value.bool true] 40)) (fun _ _ => 0)
  case atStart => exact ⟨rfl, rfl⟩
  case round =>
    obtain ⟨rfl, rfl⟩ := hrel
    go_wp2
    refine bodyPost_ret (v := .agg #[.int .u16 0, .int .u8 st, .bool true]) (by simp [results, Tryd.results22, go_sem]) rfl ⟨rfl, ?_⟩
    exact ((Below.refl _ _).alloc (Nat.le_refl _) _).alloc (by simp) _
end Go.Proofs.YtkeecifolpidmaaDoor
