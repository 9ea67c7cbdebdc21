/- fsm.make_ (function 17), for every world in which fsm.never reads as the program lays it: it gives a pointer to the table of RFC 1661, in a new block, in whatever order its statements are evaluated. -/
import Derived.Test.YtkeecifolpidmaaDoorRegion
namespace Go.Proofs.YtkeecifolpidmaaDoor
open Go.RowKit

theorem run_store40 (w : World) (g : Nat) (cur : Array Value) (s t : Int) (b : Bool) (hg : w.heap[g]? = some (.cells cur 40 (0, 0))) (hs : cur.size = 3) :
    (storeVar 40 ⟨g, 0, none⟩ (.agg #[.int .u16 s, .int .u8 t, .bool b])).run Tryd.prog w = .ok () (w.setRow g #[.int .u16 s, .int .u8 t, .bool b]) := by
  have h := run_storeCells_at Tryd.prog g 0 40 [.int .u16 s, .int .u8 t, .bool b] 0 cur w hg (by simp [hs]) (by simp [Value.oneCell'])
  obtain ⟨i0, hi, hz0, hz1, hz2⟩ := info_parts info40
  have hd : cur.toList.drop 3 = [] := List.drop_eq_nil_of_le (by simp [hs])
  simp [hd] at h
  simp [storeVar, Value.cells, sizeOf, typeInfo, hi, hz1, h]

theorem run_alloc40 (w : World) : (Instr.alloc 40 true (.tuple #[])).run Tryd.prog w = .ok (.pointer (some ⟨w.heap.size, 0, none⟩)) (w.alloc (.cells #[.int .u16 0, .int .u8 0, .bool false] 40)) := by
  obtain ⟨i0, hi, hz0, hz1, hz2⟩ := info_parts info40
  simp [Instr.alloc, zeroValue, typeInfo, hi, hz0, newVar, newRow, Value.cells]

theorem seq_ok {T : Nat} {w0 : World} {tab : List Value} {ops : Array Oper} {Q : Exit → Act → World → Prop} {G' : Env} (hq : ∀ a' w', St T w0 G' tab a' w' → Q .normal a' w') :
    ∀ (l : List Oper) (G : Env) (a : Act) (w : World), runSeq G l = some G' → St T w0 G tab a w → wpList Tryd.prog ops Q l a w
  | [], G, a, w, hr, h => by
    simp [runSeq] at hr; subst hr; exact hq _ _ h
  | [o], G, a, w, hr, h => by
    unfold runSeq at hr
    split at hr
    case h_2 => cases hr
    case h_1 d av hd hi =>
    split at hr
    case isFalse => cases hr
    case isTrue hc =>
    cases hr
    simp only [Bool.and_eq_true, decide_eq_true_eq, Option.isNone_iff_eq_none] at hc
    refine wpList_plain hc.1 fun K hK => op_ok hi (h.given o) h.ground h.table h.len ?_
    intro v w' k hT hv
    rw [hd]
    exact hK _ _ (hq _ _ (h.put_new hc.2 k hT hv))
  | o :: p :: r, G, a, w, hr, h => by
    unfold runSeq at hr
    split at hr
    case h_3 => cases hr
    case h_1 d av hd hi =>
      split at hr
      case isFalse => cases hr
      case isTrue hc =>
      simp only [Bool.and_eq_true, decide_eq_true_eq, Option.isNone_iff_eq_none] at hc
      refine wpList_plain hc.1 fun K hK => op_ok hi (h.given o) h.ground h.table h.len ?_
      intro v w' k hT hv
      rw [hd]
      exact hK _ _ (seq_ok hq (p :: r) _ _ _ hr (h.put_new hc.2 k hT hv))
    case h_2 d hd _ =>
      split at hr
      case h_2 => cases hr
      case h_1 s t ho hp hpd =>
      split at hr
      case h_2 => cases hr
      case h_1 x n b hl =>
      split at hr
      case isFalse => cases hr
      case isTrue hc =>
      simp only [Bool.and_eq_true, decide_eq_true_eq, Option.isNone_iff_eq_none] at hc
      obtain ⟨⟨⟨⟨hg1, hg2⟩, hd250⟩, rfl⟩, hts⟩ := hc
      refine wpList_plain hg1 fun K hK => wp_value (v := .pointer (some ⟨w.heap.size, 0, none⟩)) (w' := w.alloc (.cells #[.int .u16 0, .int .u8 0, .bool false] 40)) (by simp [execOp, ho, run_alloc40]) ?_
      rw [hd]
      refine hK _ _ (wpList_plain hg2 fun K2 hK2 => ?_)
      have hds : s < a.tmps.size := by rw [h.size]; exact hd250
      have e1 : (a.put (some s) (.pointer (some ⟨w.heap.size, 0, none⟩))).eval (.tmp s) = .pointer (some ⟨w.heap.size, 0, none⟩) := by
        simp only [Act.eval]; rw [getD_put hds, if_pos rfl]
      have e2 : (a.put (some s) (.pointer (some ⟨w.heap.size, 0, none⟩))).eval (.tmp t) = .agg #[.int .u16 x, .int .u8 n, .bool b] := by
        simp only [Act.eval]; rw [getD_put hds, if_neg hts]; exact h.vars _ (look_mem hl)
      have hst := run_store40 (w.alloc (.cells #[.int .u16 0, .int .u8 0, .bool false] 40)) w.heap.size #[.int .u16 0, .int .u8 0, .bool false] x n b (heap_alloc_new _ _) rfl
      have hrun : (execOp (a.put (some s) (.pointer (some ⟨w.heap.size, 0, none⟩))).eval p).run Tryd.prog (w.alloc (.cells #[.int .u16 0, .int .u8 0, .bool false] 40)) = .ok .skip ((w.alloc (.cells #[.int .u16 0, .int .u8 0, .bool false] 40)).setRow w.heap.size #[.int .u16 x, .int .u8 n, .bool b]) := by
        simp only [execOp, hp, e1, e2]
        simp [Instr.storeAt, Instr.sureAddr, hst]
      unfold Oper.wp
      rw [hrun, Oper.upon_skip, hpd]
      refine hK2 _ _ (seq_ok hq r _ _ _ hr ?_)
      have hT := h.ground.lt
      have k : Keeps T w ((w.alloc (.cells #[.int .u16 0, .int .u8 0, .bool false] 40)).setRow w.heap.size #[.int .u16 x, .int .u8 n, .bool b]) := by
        refine ⟨rfl, rfl, rfl, by simp [World.setRow], fun k hk _ => ?_⟩
        rw [setRow_other _ _ _ _ (by omega)]
        exact Below.heap_alloc _ _ _ hk
      refine h.put_new hd250 k ?_ ?_
      · rw [setRow_other _ _ _ _ (by omega)]
        exact Below.heap_alloc _ _ _ hT
      · have hh := setRow_heap (w.alloc (.cells #[.int .u16 0, .int .u8 0, .bool false] 40)) w.heap.size _ #[.int .u16 x, .int .u8 n, .bool b] 40 (0, 0) (heap_alloc_new _ _)
        refine ⟨w.heap.size, rfl, by omega, ?_, ?_, ?_⟩ <;> (simp only [World.cell?, hh]; rfl)

/-! ### The whole of fsm.make_ -/
/-- The table of RFC 1661, 4.1: of each event and state what is done, which state is next, whether it can be. -/
def fsmT : List (List (Int × Int × Bool)) := [
  [(0, 2, true), (80, 6, true), (0, 0, false), (0, 0, false), (0, 0, false), (0, 0, false), (0, 0, false), (0, 0, false), (0, 0, false), (0, 0, false)],
  [(0, 0, false), (0, 0, false), (0, 0, true), (4, 1, true), (0, 0, true), (0, 1, true), (0, 1, true), (0, 1, true), (0, 1, true), (2, 1, true)],
  [(4, 1, true), (0, 1, true), (80, 6, true), (0, 3, true), (0, 5, true), (0, 5, true), (0, 6, true), (0, 7, true), (0, 8, true), (0, 9, true)],
  [(0, 0, true), (8, 0, true), (0, 2, true), (0, 2, true), (0, 4, true), (0, 4, true), (528, 4, true), (528, 4, true), (528, 4, true), (530, 4, true)],
  [(0, 0, false), (0, 0, false), (0, 0, false), (0, 0, false), (512, 4, true), (512, 5, true), (64, 6, true), (64, 6, true), (64, 8, true), (0, 0, false)],
  [(0, 0, false), (0, 0, false), (0, 0, false), (0, 0, false), (8, 2, true), (8, 3, true), (8, 3, true), (8, 3, true), (8, 3, true), (0, 0, false)],
  [(0, 0, false), (0, 0, false), (1024, 2, true), (208, 8, true), (0, 4, true), (0, 5, true), (128, 8, true), (129, 9, true), (128, 8, true), (194, 8, true)],
  [(0, 0, false), (0, 0, false), (1024, 2, true), (336, 6, true), (0, 4, true), (0, 5, true), (256, 6, true), (256, 7, true), (256, 6, true), (322, 6, true)],
  [(0, 0, false), (0, 0, false), (1024, 2, true), (1024, 3, true), (0, 4, true), (0, 5, true), (16, 7, true), (64, 6, true), (17, 9, true), (66, 6, true)],
  [(0, 0, false), (0, 0, false), (1024, 2, true), (1024, 3, true), (0, 4, true), (0, 5, true), (80, 6, true), (64, 6, true), (80, 8, true), (66, 6, true)],
  [(0, 0, false), (0, 0, false), (1024, 2, true), (1024, 3, true), (1024, 4, true), (1024, 5, true), (1024, 6, true), (1024, 6, true), (1024, 6, true), (1058, 5, true)],
  [(0, 0, false), (0, 0, false), (0, 2, true), (0, 3, true), (8, 2, true), (8, 3, true), (0, 6, true), (0, 6, true), (0, 8, true), (66, 6, true)],
  [(0, 0, false), (0, 0, false), (2048, 2, true), (2048, 3, true), (2048, 4, true), (2048, 5, true), (2048, 6, true), (2048, 7, true), (2048, 8, true), (2048, 9, true)],
  [(0, 0, false), (0, 0, false), (0, 2, true), (0, 3, true), (0, 4, true), (0, 5, true), (0, 6, true), (0, 6, true), (0, 8, true), (0, 9, true)],
  [(0, 0, false), (0, 0, false), (8, 2, true), (8, 3, true), (8, 2, true), (8, 3, true), (8, 3, true), (8, 3, true), (8, 3, true), (530, 5, true)],
  [(0, 0, false), (0, 0, false), (0, 2, true), (0, 3, true), (0, 4, true), (0, 5, true), (0, 6, true), (0, 7, true), (0, 8, true), (4096, 9, true)]]

def flat (l : List (List (Int × Int × Bool))) : List Value := (l.map fun r => (r.map fun c => cl c.1 c.2.1 c.2.2).flatten).flatten
def tabFin : List Value := flat fsmT
def tab0 : List Value := flat (List.replicate 16 (List.replicate 10 (0, 0, false)))

def chkRegion (dr : Bool) (ops : Array Oper) (G : Env) (tab : List Value) : Option (Env × List Value) :=
  if checkRow G tab ops then some (G, rowTab G tab ops)
  else if dr then none
  else (runSeq G ops.toList).map fun G' => (G'.filter fun p => decide (p.1 < 7), tab)

def chkBody : Code → Env → List Value → Option (Env × List Value)
  | .seq (.region _ ops dr) y, G, tab => (chkRegion dr ops G tab).bind fun r => chkBody y r.1 r.2
  | .ret, G, tab => some (G, tab)
  | _, _, _ => none

theorem St.weaken {T : Nat} {w0 w : World} {G G' : Env} {tab : List Value} {a : Act} (h : St T w0 G tab a w) (hs : ∀ p ∈ G', p ∈ G) : St T w0 G' tab a w :=
  ⟨h.defers, h.size, fun p hp => h.vars p (hs p hp), h.keeps, h.ground, h.table, h.len⟩

theorem region_ok {T : Nat} {w0 w : World} {G G' : Env} {tab tab' : List Value} {ops : Array Oper} {id : Nat} {dr : Bool} {Q : Exit → Act → World → Prop} {a : Act} (hc : chkRegion dr ops G tab = some (G', tab')) (h : St T w0 G tab a w)
    (hq : ∀ a' w', St T w0 G' tab' a' w' → Q .normal a' w') : (Code.region id ops dr).wp Tryd.prog Q a w := by
  unfold chkRegion at hc
  split at hc
  case isTrue hr => cases hc; exact row_ok hr h hq
  case isFalse =>
  split at hc
  case isTrue => cases hc
  case isFalse hd =>
  have hd' : dr = false := by simpa using hd
  subst hd'
  rw [Option.map_eq_some_iff] at hc
  obtain ⟨G2, hG, he⟩ := hc
  cases he
  exact wp_region_list (seq_ok (G' := G2) (fun a' w' h' => hq a' w' (h'.weaken fun p hp => (List.mem_filter.1 hp).1)) ops.toList G a w hG h)

theorem body_ok {T : Nat} {w0 : World} {G' : Env} {tab' : List Value} {Q : Exit → Act → World → Prop} (hq : ∀ a' w', St T w0 G' tab' a' w' → Q .ret a' w') :
    ∀ (c : Code) (G : Env) (tab : List Value) (a : Act) (w : World), chkBody c G tab = some (G', tab') → St T w0 G tab a w → c.wp Tryd.prog Q a w := by
  intro c
  induction c with
  | seq x y _ ihy =>
    intro G tab a w hc h
    unfold chkBody at hc
    split at hc
    case h_1 id ops dr y' hxy =>
      cases hxy
      rw [Option.bind_eq_some_iff] at hc
      obtain ⟨r, hr, hy⟩ := hc
      exact wp_seq (region_ok (G' := r.1) (tab' := r.2) hr h fun a' w' h' => ihy _ _ _ _ hy h')
    case h_2 hxy => cases hxy
    case h_3 => cases hc
  | ret =>
    intro G tab a w hc h
    simp [chkBody] at hc
    obtain ⟨rfl, rfl⟩ := hc
    exact wp_ret (hq _ _ h)
  | _ => intro G tab a w hc h; simp [chkBody] at hc

def restOf : Code → Code | .seq _ y => y | c => c
def opsOf : Code → Array Oper | .seq (.region _ ops _) _ => ops | _ => #[]
noncomputable def body17 : Code := Tryd.f17.body.getD .skip
noncomputable def ops0 : Array Oper := opsOf body17
noncomputable def ops1 : Array Oper := opsOf (restOf body17)
noncomputable def rest17 : Code := restOf (restOf body17)
noncomputable def opAt0 : Oper := ops0.getD 0 default
noncomputable def opAt1 (i : Nat) : Oper := ops1.getD i default

theorem shape17 : Tryd.f17.body = some (.seq (.region 0 ops0 false) (.seq (.region 1 ops1 false) rest17)) := by kernel_rfl
theorem list0 : ops0.toList = [opAt0] := by kernel_rfl
theorem list1 : ops1.toList = [opAt1 0, opAt1 1, opAt1 2] := by kernel_rfl
theorem at0 : (opAt0.op, opAt0.dst, opAt0.guard) = (.assign (.const (.pointer none)), some 0, none) := by kernel_rfl
theorem opBa : ((opAt1 0).op, (opAt1 0).dst, (opAt1 0).guard) = (.build 51 #[], some 7, none) := by kernel_rfl
theorem opBb : ((opAt1 1).op, (opAt1 1).dst, (opAt1 1).guard) = (.box 51 (.tmp 7), some 8, none) := by kernel_rfl
theorem opBc : ((opAt1 2).op, (opAt1 2).dst, (opAt1 2).guard) = (.assign (.tmp 8), some 1, none) := by kernel_rfl
theorem built (w : World) : (Instr.build 51 #[]).run Tryd.prog w = .ok (.agg tab0.toArray) w := by kernel_rfl
theorem checked17 : (chkBody rest17 [(1, .tbl)] tab0).map (fun r => (r.2, look r.1 0)) = some (tabFin, some .tbl) := by kernel_rfl

/-- What is read of fsm.never. -/
def NeverAt (w : World) : Prop := w.cell? ⟨1, 0, none⟩ = some (.int .u16 0) ∧ w.cell? ⟨1, 1, none⟩ = some (.int .u8 0) ∧ w.cell? ⟨1, 2, none⟩ = some (.bool false)

/-- What fsm.make_ gives: the table, in a new block; nothing that was there has turned. -/
def MakePost (w : World) (e : Ending) (w' : World) : Prop :=
  ∃ T, e = .returned (.pointer (some ⟨T, 0, none⟩)) ∧ w.heap.size ≤ T ∧ w'.heap[T]? = some (.cells tabFin.toArray 51 (0, 0)) ∧ Below w.heap.size w w'

theorem results17 (a : Act) (w : World) : (results Tryd.f17 a.tmps).run Tryd.prog w = .ok (a.tmps.getD 0 undef) w := by
  simp [results, Tryd.results17, go_sem]

theorem make_any (w : World) (hn : NeverAt w) : Calls Tryd.prog 17 #[] w (MakePost w) := by
  obtain ⟨n0, n1, n2⟩ := hn
  have hlt : 1 < w.heap.size := cell_lt n0
  refine calls_of_wp Tryd.func17 shape17 ?_
  generalize ha : ({ tmps := #[] ++ Array.replicate (Tryd.f17.ntmps - (#[] : Array Value).size) undef, defers := [] } : Act) = a
  have hs : a.tmps.size = 250 := by rw [← ha]; kernel_rfl
  have hd : a.defers = [] := by rw [← ha]
  clear ha
  have b0 := at0
  have b1 := opBa
  have b2 := opBb
  have b3 := opBc
  simp only [Prod.mk.injEq] at b0 b1 b2 b3
  refine wp_seq (wp_region_list ?_)
  rw [list0]
  refine wpList_plain b0.2.2 fun K hK => wp_value (v := .pointer none) (w' := w) (by simp [execOp, b0.1, Act.eval]) (hK _ _ ?_)
  rw [b0.2.1]
  show Code.wp _ _ _ _ _
  generalize ha1 : a.put (some 0) (.pointer none) = a1
  have hs1 : a1.tmps.size = 250 := by rw [← ha1, put_size]; exact hs
  have hd1 : a1.defers = [] := by rw [← ha1, put_defers]; exact hd
  clear ha1 hs hd
  refine wp_seq (wp_region_list ?_)
  rw [list1]
  refine wpList_plain b1.2.2 fun K1 hK1 => wp_value (v := .agg tab0.toArray) (w' := w) (by simp [execOp, b1.1, built]) (hK1 _ _ ?_)
  rw [b1.2.1]
  generalize ha2 : a1.put (some 7) (.agg tab0.toArray) = a2
  have hs2 : a2.tmps.size = 250 := by rw [← ha2, put_size]; exact hs1
  have hd2 : a2.defers = [] := by rw [← ha2, put_defers]; exact hd1
  have h7 : a2.tmps.getD 7 undef = .agg tab0.toArray := by rw [← ha2, getD_put (by rw [hs1]; decide), if_pos rfl]
  clear ha2 hs1 hd1
  refine wpList_plain b2.2.2 fun K2 hK2 => wp_value (v := .pointer (some ⟨w.heap.size, 0, none⟩)) (w' := w.alloc (.cells tab0.toArray 51)) ?_ (hK2 _ _ ?_)
  · simp only [execOp, b2.1, Act.eval, h7]
    simp [Instr.box, newVar, newRow, Value.cells]
  rw [b2.2.1]
  generalize ha3 : a2.put (some 8) (.pointer (some ⟨w.heap.size, 0, none⟩)) = a3
  have hs3 : a3.tmps.size = 250 := by rw [← ha3, put_size]; exact hs2
  have hd3 : a3.defers = [] := by rw [← ha3, put_defers]; exact hd2
  have h8 : a3.tmps.getD 8 undef = .pointer (some ⟨w.heap.size, 0, none⟩) := by rw [← ha3, getD_put (by rw [hs2]; decide), if_pos rfl]
  clear ha3 hs2 hd2 h7
  refine wpList_plain b3.2.2 fun K3 hK3 => wp_value (v := .pointer (some ⟨w.heap.size, 0, none⟩)) (w' := w.alloc (.cells tab0.toArray 51)) ?_ (hK3 _ _ ?_)
  · simp only [execOp, b3.1, Act.eval, h8]
    simp
  rw [b3.2.1]
  show Code.wp _ _ _ _ _
  have hc := checked17
  rw [Option.map_eq_some_iff] at hc
  obtain ⟨r, hr, he⟩ := hc
  simp only [Prod.mk.injEq] at he
  have hb : Below w.heap.size w (w.alloc (.cells tab0.toArray 51)) := (Below.refl _ _).alloc (Nat.le_refl _) _
  have k : Keeps w.heap.size w (w.alloc (.cells tab0.toArray 51)) := .of_below hb
  have hh := heap_alloc_new w (.cells tab0.toArray 51)
  refine body_ok (T := w.heap.size) (w0 := w) (G' := r.1) (tab' := r.2) (fun a' w' h' => ?_) rest17 [(1, .tbl)] tab0 _ _ hr ?_
  · refine ⟨h'.defers, _, results17 a' w', w.heap.size, ?_, Nat.le_refl _, ?_, h'.keeps.below (Nat.le_refl _)⟩
    · rw [show a'.tmps.getD 0 undef = _ from h'.vars _ (look_mem he.2)]
    · rw [← he.1]; exact h'.table
  · refine ⟨by rw [put_defers]; exact hd3, by rw [put_size]; exact hs3, fun p hp => ?_, k, ?_, hh, by kernel_rfl⟩
    · obtain rfl : p = (1, .tbl) := by simpa using hp
      show _ = _
      rw [getD_put (by rw [hs3]; decide), if_pos rfl]
    · exact ⟨k.cell (by omega) n0, k.cell (by omega) n1, k.cell (by omega) n2, by omega, by simp⟩
end Go.Proofs.YtkeecifolpidmaaDoor
