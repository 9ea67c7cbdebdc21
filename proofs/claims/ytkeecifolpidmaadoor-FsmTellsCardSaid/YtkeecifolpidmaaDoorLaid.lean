/- What the two listed package-level variables read as gives: the cells of fsm.never and the names of the states. -/
import Derived.Test.YtkeecifolpidmaaDoorAlive
import Derived.Test.YtkeecifolpidmaaDoorTie
import Derived.ProofKit
import Derived.LaidMore
import Derived.OpenShut
import Derived.Stop.Joined
namespace Go.Proofs.YtkeecifolpidmaaDoor
open Go.ChangeShapes Go.WideShapes Go.ChangeAt Go.WideMaps Go.WideElems Go.RowKit

abbrev laid2 : List (String × DataW Unit) := [("halyard/fsm.never", Rows.laid_halyard_fsm_never), ("halyard/fsm.names", Rows.laid_halyard_fsm_names)]

theorem gNever : Tryd.prog.globalNamed "halyard/fsm.never" = some 1 := by kernel_rfl
theorem gNames : Tryd.prog.globalNamed "halyard/fsm.names" = some 0 := by kernel_rfl
theorem tNever : (Tryd.prog.globals[1]?).map (·.type) = some 40 := by kernel_rfl
theorem tNames : (Tryd.prog.globals[0]?).map (·.type) = some 48 := by kernel_rfl

/-- The door's own heap meets the condition. -/
theorem door_met (os : Os) (args : Array Value) : laidMetH Tryd.prog laid2 ((World.doorLaid Tryd.prog 19 os).forCall (fun _ _ => 0) ⟨#[], args, []⟩).memory :=
  laidMetH_of_parts3 (fuel := 8) (laidMet_of_run' 8 (by kernel_rfl) (by kernel_rfl)) (by kernel_rfl) (by kernel_rfl)

theorem never_cells {W : World} {cs : List Value} {f : Nat} {p : List MemPlace} (h : DataW.trod (fun _ => ()) Tryd.prog W 0 (fun _ => true) false f 40 cs = some (Rows.laid_halyard_fsm_never, p)) :
    cs = [.int .u16 0, .int .u8 0, .bool false] := by
  have c40 : Tryd.prog.cellsOf 40 = 3 := by kernel_rfl
  have c38 : Tryd.prog.cellsOf 38 = 2 := by kernel_rfl
  have c24 : Tryd.prog.cellsOf 24 = 1 := by kernel_rfl
  have c5 : Tryd.prog.cellsOf 5 = 1 := by kernel_rfl
  have c4 : Tryd.prog.cellsOf 4 = 1 := by kernel_rfl
  obtain ⟨y0, y1, n, hx, hl, h0, h1⟩ := trod_struct2 Tryd.underlying40 h
  rw [c40] at hl
  match cs, hl with
  | [x0, x1, x2], _ =>
    simp only [Prod.mk.injEq, Rows.laid_halyard_fsm_never, DataW.agg.injEq, List.cons.injEq, and_true] at hx
    obtain ⟨⟨e0, e1⟩, _⟩ := hx
    simp only [c38, c4, List.drop_zero, List.drop_succ_cons, List.take_succ_cons, List.take_zero] at h0 h1
    obtain ⟨z0, z1, m, hy, _, k0, k1⟩ := trod_struct2 Tryd.underlying38 h0
    simp only [c24, c5, List.drop_zero, List.drop_succ_cons, List.take_succ_cons, List.take_zero] at k0 k1
    obtain ⟨b, q1, r1⟩ := DataW.trod_bool Tryd.underlying4 h1
    obtain ⟨i0, q2, r2, _⟩ := DataW.trod_int Tryd.underlying24 k0
    obtain ⟨i1, q3, r3, _⟩ := DataW.trod_int Tryd.underlying5 k1
    rw [hy, r2, r3] at e0
    rw [r1] at e1
    simp only [DataW.agg.injEq, List.cons.injEq, and_true, DataW.lit.injEq, Lit.int.injEq, true_and] at e0
    simp only [DataW.lit.injEq, Lit.bool.injEq] at e1
    obtain ⟨e2, e3⟩ := e0
    simp only [List.cons.injEq, and_true] at q1 q2 q3
    rw [q1, q2, q3, ← e1, ← e2, ← e3]

theorem names_cells {W : World} {cs : List Value} {f : Nat} {p : List MemPlace} (h : DataW.trod (fun _ => ()) Tryd.prog W 0 (fun _ => true) false f 48 cs = some (Rows.laid_halyard_fsm_names, p)) :
    ∀ i, i < 10 → cs[i]? = some (.string (nameOf i)) := by
  have c9 : Tryd.prog.cellsOf 9 = 1 := by kernel_rfl
  obtain ⟨xs, m, _, hx, _, hn, hel⟩ := DataW.trod_array Tryd.underlying48 h
  have hd : Rows.laid_halyard_fsm_names = (.agg (nameL.map fun l => .lit (.string l)) : DataW Unit) := rfl
  rw [hd] at hx
  simp only [Prod.mk.injEq, DataW.agg.injEq] at hx
  obtain ⟨hx, _⟩ := hx
  intro i hi
  have h1 := hel i hi
  rw [c9, Nat.mul_one, List.getElem?_eq_getElem (by omega)] at h1
  obtain ⟨s, q, r, _⟩ := DataW.trod_string Tryd.underlying9 h1
  have h2 : (xs.map (·.1))[i]? = some (.lit (.string s.data.toList)) := by
    rw [List.getElem?_map, List.getElem?_eq_getElem (by omega), r]
    rfl
  rw [← hx] at h2
  simp only [List.getElem?_map, Option.map_eq_some_iff, DataW.lit.injEq, Lit.string.injEq] at h2
  obtain ⟨l, hl, he⟩ := h2
  have h3 : cs[i]? = some (.string s) := by
    have : ((cs.drop i).take 1)[0]? = some (.string s) := by rw [q]; rfl
    simpa using this
  rw [h3]
  have : s = nameOf i := by
    obtain ⟨⟨d⟩⟩ := s
    unfold nameOf
    rw [List.getD_eq_getElem?_getD, hl, he]
    rfl
  rw [this]

/-- WHAT THE TWO LISTED VARIABLES GIVE THE WALKS. -/
theorem of_laid {W : World} (h : laidMetH Tryd.prog laid2 W) : NeverAt W ∧ NamesAt W := by
  rw [MakeChecks.laidMetH_plain _ _ _ (by kernel_rfl)] at h
  obtain ⟨ps, ⟨g0, t0, cs0, f0, p0, q0, hg0, ht0, hv0, hd0, ⟨g1, t1, cs1, f1, p1, q1, hg1, ht1, hv1, hd1, _, _⟩, _⟩, _, _⟩ := h
  obtain rfl := Option.some.inj (gNever.symm.trans hg0)
  obtain rfl := Option.some.inj (gNames.symm.trans hg1)
  obtain rfl := Option.some.inj (tNever.symm.trans ht0)
  obtain rfl := Option.some.inj (tNames.symm.trans ht1)
  have hc0 := never_cells hd0
  have hc1 := names_cells hd1
  have e0 : ∀ i, W.cell? ⟨1, i, none⟩ = cs0.toList[i]? := fun i => by
    rw [World.var?_cell gNever hv0 i]; simp
  have e1 : ∀ i, W.cell? ⟨0, i, none⟩ = cs1.toList[i]? := fun i => by
    rw [World.var?_cell gNames hv1 i]; simp
  refine ⟨⟨?_, ?_, ?_⟩, fun k hk => ?_⟩
  · rw [e0, hc0]; rfl
  · rw [e0, hc0]; rfl
  · rw [e0, hc0]; rfl
  · rw [e1]; exact hc1 k hk
end Go.Proofs.YtkeecifolpidmaaDoor
