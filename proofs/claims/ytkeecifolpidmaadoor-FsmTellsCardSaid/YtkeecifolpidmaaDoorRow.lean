/- The contract of (*fsm.table).row (function 21): the cells that are given are laid into the row of that number of the table; nothing else is turned. -/
import Derived.Test.YtkeecifolpidmaaDoorRows
import Derived.WalkKit
import Derived.WalkSpells
import Derived.WalkLawsBesides
import Derived.Lib.Hide
import Derived.Laws.CopyOwn
namespace Go.Proofs.YtkeecifolpidmaaDoor
open Go.RowKit

theorem run_copy_rows (P : Program) (w : World) (dT sT ty elem : TypeId) (g o dLen dCap : Nat) (a : Addr) (sLen sCap size : Nat) (cur : Array Value) (t : TypeId) (cs : List Value)
    (hu : P.underlying dT = some (.slice elem)) (hs : (P.info? elem).map (·.size) = some size)
    (hg : w.heap[g]? = some (.cells cur t (0, 0))) (hn : cs.length = Nat.min sLen dLen * size)
    (hsrc : ∀ j v, cs[j]? = some v → w.cell? (a.add j) = some v) (hfit : o + cs.length ≤ cur.size) (h1 : ∀ v ∈ cs, v.oneCell' = true) :
    (Builtin.copy_ #[dT, sT] ty #[.slice (some ⟨g, o, none⟩) dLen dCap, .slice (some a) sLen sCap]).run P w =
      .ok (goInt (Nat.min sLen dLen)) (w.setRow g (cur.toList.take o ++ cs ++ cur.toList.drop (o + cs.length)).toArray) := by
  have hl := run_loadCells_list (P := P) w a cs hsrc
  have hst := run_storeCells_at P g o t cs 0 cur w hg (by simpa using hfit) h1
  cases hq : P.info? elem with
  | none => simp [hq] at hs
  | some i =>
    have hi : i.size = size := by simpa [hq] using hs
    simp [Builtin.copy_, run_underlying hu, Builtin.lenOf, Builtin.firstCells, sizeOf, typeInfo, hq, hi, ← hn, hl, hst]

set_option maxHeartbeats 400000 in
theorem row_any (T g ev n cap : Nat) (cur : Array Value) (cs : List Value) (w : World) (hev : ev < 16) (hn : n ≤ 10) (hlen : cs.length = n * 3) (hsz : cur.size = 480)
    (hT : w.heap[T]? = some (.cells cur 51 (0, 0)))
    (hsrc : ∀ j v, cs[j]? = some v → w.cell? ⟨g, j, none⟩ = some v) (h1 : ∀ v ∈ cs, v.oneCell' = true) :
    Calls Tryd.prog 21 #[.pointer (some ⟨T, 0, none⟩), .int .i64 ev, .slice (some ⟨g, 0, none⟩) n cap] w fun e w' => e = .returned (.tuple #[]) ∧ w' = w.setRow T (cur.toList.take (ev * 30) ++ cs ++ cur.toList.drop (ev * 30 + cs.length)).toArray := by
  have hm : Nat.min n 10 = n := Nat.min_eq_left hn
  have hcp := run_copy_rows Tryd.prog w 54 54 3 40 T (ev * 30) 10 10 ⟨g, 0, none⟩ n cap 3 cur 51 cs Tryd.underlying54 (by kernel_rfl) hT (by rw [hm, hlen]) (fun j v h => by rw [show (⟨g, 0, none⟩ : Addr).add j = ⟨g, j, none⟩ from by unfold Addr.add; split <;> simp_all]; exact hsrc j v h) (by omega) h1
  obtain ⟨W, hW⟩ : ∃ W, W = w.setRow T (cur.toList.take (ev * 30) ++ cs ++ cur.toList.drop (ev * 30 + cs.length)).toArray := ⟨_, rfl⟩
  rw [← hW, hm] at hcp
  rw [← hW]
  clear hW hsrc h1 hT hm hlen hsz
  go_enter Tryd.func21, Tryd.ntmps21
  go_wp2
  go_end0
  exact ⟨rfl, rfl⟩
end Go.Proofs.YtkeecifolpidmaaDoor
