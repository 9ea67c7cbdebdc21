/- The reference: Timed, State, and the lines of its table (functions 16, 13, 19). -/
import Derived.Test.YtkeecifolpidmaaDoorAlive
namespace Go.Proofs.YtkeecifolpidmaaDoor
open Go.RowKit

theorem rtimed_any (s : Int) (w : World) : Calls Tryd.prog 16 #[.int .u8 s] w (fun r w' => r = .returned (.bool (timedB s)) ∧ w = w') := by
  by_cases h1 : 4 ≤ s
  · by_cases h2 : s ≤ 8
    · have e : timedB s = true := by simp [timedB, h1, h2]
      rw [e]
      clear e
      go_enter Tryd.func16, Tryd.ntmps16
      go_wp2
      go_ret
      exact ⟨rfl, rfl⟩
    · have e : timedB s = false := by simp [timedB, h2]
      rw [e]
      clear e
      have h3 : 8 < s := by omega
      go_enter Tryd.func16, Tryd.ntmps16
      go_wp2
      go_ret
      exact ⟨rfl, rfl⟩
  · have e : timedB s = false := by simp [timedB, h1]
    rw [e]
    clear e
    have h3 : s < 4 := by omega
    go_enter Tryd.func16, Tryd.ntmps16
    go_wp2
    go_ret
    exact ⟨rfl, rfl⟩

def StatePost (v : ByteArray) (b : Bool) (w : World) (r : Ending) (w' : World) : Prop := r = .returned (.tuple #[.string v, .bool b]) ∧ Below w.heap.size w w'

theorem ten_cases {s : Nat} (h : s < 10) : s = 0 ∨ s = 1 ∨ s = 2 ∨ s = 3 ∨ s = 4 ∨ s = 5 ∨ s = 6 ∨ s = 7 ∨ s = 8 ∨ s = 9 := by omega

set_option maxHeartbeats 1000000 in
theorem rstate_in (s : Nat) (w : World) (hs : s < 10) : Calls Tryd.prog 13 #[.int .u8 s] w (StatePost (nameOf s) true w) := by
  rcases ten_cases hs with rfl | rfl | rfl | rfl | rfl | rfl | rfl | rfl | rfl | rfl
  all_goals
    clear hs
    go_enter Tryd.func13, Tryd.ntmps13
    go_wp2_with fail
    go_ret2
    exact ⟨rfl, (Below.refl _ _).alloc (Nat.le_refl _) _⟩

theorem rstate_out (s : Nat) (w : World) (hs : 10 ≤ s) (hb : s < 256) : Calls Tryd.prog 13 #[.int .u8 s] w (StatePost ⟨#[]⟩ false w) := by
  have h1 : 10 ≤ (s : Int) := by omega
  have h2 : (s : Int) < 256 := by omega
  go_enter Tryd.func13, Tryd.ntmps13
  go_wp2_with fail
  go_ret2
  exact ⟨rfl, (Below.refl _ _).alloc (Nat.le_refl _) _⟩

/-- The lines of the reference, off the function's own text. -/
noncomputable def constsOf (f : Func) : List Value :=
  match f.body with
  | some (.seq _ (.seq (.region _ ops _) _)) => (match (ops.getD 0 default).op with | .buildSlice _ _ parts => parts.toList.map fun p => (match p.2 with | .const v => v | _ => undef) | _ => [])
  | _ => []
noncomputable def lineV : List Value := constsOf Tryd.f19
noncomputable def actV : List Value := constsOf Tryd.f20
def bytesOf : Value → ByteArray | .string s => s | _ => ⟨#[]⟩
noncomputable def lineB (e : Nat) : ByteArray := bytesOf (lineV.getD e undef)
noncomputable def actB (k : Nat) : ByteArray := bytesOf (actV.getD k undef)

def LinesPost (w : World) (r : Ending) (w' : World) : Prop :=
  ∃ g, r = .returned (.slice (some ⟨g, 0, none⟩) 16 16) ∧ (∀ e, e < 16 → w'.cell? ⟨g, e, none⟩ = some (.string (lineB e))) ∧ Below w.heap.size w w'

theorem lines_known : lineV.length = 16 ∧ (List.range 16).map (fun e => Value.string (lineB e)) = lineV := ⟨by kernel_rfl, by kernel_rfl⟩

theorem lines_any (w : World) : Calls Tryd.prog 19 #[] w (LinesPost w) := by
  go_enter Tryd.func19, Tryd.ntmps19
  go_wp2_with fail
  go_ret
  refine ⟨w.heap.size, rfl, fun e he => cell_new_row ?_, (Below.refl _ _).alloc (Nat.le_refl _) _⟩
  have h : lineV[e]? = some (.string (lineB e)) := by
    rw [← lines_known.2]
    simp [he]
  rw [← h]
  congr 1
end Go.Proofs.YtkeecifolpidmaaDoor
