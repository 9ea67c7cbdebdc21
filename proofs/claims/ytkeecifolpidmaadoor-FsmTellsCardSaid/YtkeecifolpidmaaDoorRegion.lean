/- A region of fsm.make_ that lays a row of the table, in whatever order: its table behind it is what its last operation lays. -/
import Derived.Test.YtkeecifolpidmaaDoorOp
namespace Go.Proofs.YtkeecifolpidmaaDoor
open Go.RowKit

/-! ### Values that are alike -/
def eqv : Value → Value → Bool
  | .int k n, .int k' n' => decide (k = k') && decide (n = n')
  | .bool b, .bool b' => b == b'
  | _, _ => false
theorem eqv_sound {x y : Value} (h : eqv x y = true) : x = y := by
  unfold eqv at h
  split at h
  · simp at h; rw [h.1, h.2]
  · simp at h; rw [h]
  · cases h
def eqvs : List Value → List Value → Bool
  | [], [] => true
  | x :: l, y :: r => eqv x y && eqvs l r
  | _, _ => false
theorem eqvs_sound : ∀ {x y : List Value}, eqvs x y = true → x = y
  | [], [], _ => rfl
  | x :: l, y :: r, h => by
    simp only [eqvs, Bool.and_eq_true] at h
    rw [eqv_sound h.1, eqvs_sound h.2]
  | [], _ :: _, h => by cases h
  | _ :: _, [], h => by cases h
def AV.eqb : AV → AV → Bool
  | .cell s t b, .cell s' t' b' => decide (s = s') && decide (t = t') && b == b'
  | .u16s l, .u16s l' => decide (l = l')
  | .cells n cs, .cells n' cs' => decide (n = n') && eqvs cs cs'
  | .two x y, .two x' y' => eqvs x x' && eqvs y y'
  | .tbl, .tbl => true
  | .any, .any => true
  | _, _ => false
theorem AV.eqb_sound {x y : AV} (h : x.eqb y = true) : x = y := by
  unfold AV.eqb at h
  split at h
  · simp at h; obtain ⟨⟨rfl, rfl⟩, rfl⟩ := h; rfl
  · simp at h; rw [h]
  · simp at h; obtain ⟨rfl, h⟩ := h; rw [eqvs_sound h]
  · simp at h; rw [eqvs_sound h.1, eqvs_sound h.2]
  · rfl
  · rfl
  · cases h

/-! ### A region: what is asked of it, by a Bool -/
/-- All that the slots come to hold (the last operation's slot: nothing that is said). -/
def fullEnv : Env → List Oper → Env
  | G, [] => G
  | G, o :: r =>
    match o.dst, inferOp G o with
    | some d, some (.val av) => fullEnv ((d, av) :: G) r
    | some d, _ => fullEnv ((d, .any) :: G) r
    | none, _ => fullEnv G r

/-- What operation i of the region gives, if it is the last of n or not. -/
def fits (Gf : Env) (tab : List Value) (n i : Nat) (o : Oper) : Bool :=
  match o.dst with
  | none => false
  | some d => decide (d < 250) &&
    match inferOp Gf o, look Gf d with
    | some (.val av), some av' => av.eqb av' && decide (i + 1 < n)
    | some (.row ev cs), some .any => decide (i + 1 = n) && decide ((tab.take (ev * 30) ++ cs ++ tab.drop (ev * 30 + cs.length)).length = 480)
    | _, _ => false

def known (dsts : List Tmp) (ops : Array Oper) (o : Oper) : Bool :=
  o.op.operands.all fun x => match x with
    | .tmp t => !dsts.contains t || o.after.any fun e => Region.binds .any e && ((ops[e.on]?).map fun p => p.dst == some t).getD false
    | _ => true

def dstsOf (ops : List Oper) : List Tmp := ops.filterMap (·.dst)

def checkRow (G : Env) (tab : List Value) (ops : Array Oper) : Bool :=
  let Gf := fullEnv G ops.toList
  let dsts := dstsOf ops.toList
  decide dsts.Nodup && G.all (fun p => !dsts.contains p.1) && acyc ops && decide (0 < ops.size) &&
  (List.range ops.size).all fun i => match ops[i]? with
    | some o => o.guard.isNone && fits Gf tab ops.size i o && known dsts ops o
    | none => false

/-- The table behind the region: what its last operation lays. -/
def rowTab (G : Env) (tab : List Value) (ops : Array Oper) : List Value :=
  match (ops.back?).bind (inferOp (fullEnv G ops.toList)) with
  | some (.row ev cs) => tab.take (ev * 30) ++ cs ++ tab.drop (ev * 30 + cs.length)
  | _ => tab

/-- Where the walk of fsm.make_ stands between two regions. -/
structure St (T : Nat) (w0 : World) (G : Env) (tab : List Value) (a : Act) (w : World) : Prop where
  defers : a.defers = []
  size : a.tmps.size = 250
  vars : ∀ p ∈ G, Holds T w p.2 (a.tmps.getD p.1 undef)
  keeps : Keeps T w0 w
  ground : Ground T w
  table : w.heap[T]? = some (.cells tab.toArray 51 (0, 0))
  len : tab.length = 480

theorem St.drew {T : Nat} {w0 w : World} {G : Env} {tab : List Value} {a : Act} (h : St T w0 G tab a w) : St T w0 G tab a { w with drawn := w.drawn + 1 } :=
  have k : Keeps T w { w with drawn := w.drawn + 1 } := (Keeps.refl T w).drew
  ⟨h.defers, h.size, fun p hp => (h.vars p hp).keep k, h.keeps.drew, h.ground.keep k, h.table, h.len⟩

/-- The state inside a region: of each operation that has come up, what its slot holds. -/
structure In (T : Nat) (w0 : World) (G : Env) (tab : List Value) (ops : Array Oper) (listed : Array Bool) (a : Act) (w : World) : Prop where
  lsize : listed.size = ops.size
  st : St T w0 G (if listed.getD (ops.size - 1) false = true then rowTab G tab ops else tab) a w
  slots : ∀ j o d, ops[j]? = some o → o.dst = some d → listed.getD j false = true → ∀ av, look (fullEnv G ops.toList) d = some av → Holds T w av (a.tmps.getD d undef)

theorem getD_put {a : Act} {d t : Tmp} {v : Value} (hd : d < a.tmps.size) : (a.put (some d) v).tmps.getD t undef = if t = d then v else a.tmps.getD t undef := by
  simp only [Act.put, Array.getD_eq_getD_getElem?, Array.getElem?_setIfInBounds]
  by_cases h : t = d
  · subst h; simp [hd]
  · rw [if_neg (Ne.symm h), if_neg h]

theorem getD_set {l : Array Bool} {i j : Nat} (hi : i < l.size) : (l.setIfInBounds i true).getD j false = if j = i then true else l.getD j false := by
  simp only [Array.getD_eq_getD_getElem?, Array.getElem?_setIfInBounds]
  by_cases h : j = i
  · subst h; simp [hi]
  · rw [if_neg (Ne.symm h), if_neg h]

theorem mem_dsts {ops : Array Oper} {j : Nat} {o : Oper} {d : Tmp} (ho : ops[j]? = some o) (hd : o.dst = some d) : d ∈ dstsOf ops.toList := by
  refine List.mem_filterMap.2 ⟨o, ?_, hd⟩
  have : ops.toList[j]? = some o := by simpa using ho
  exact List.mem_of_getElem? this

theorem nodup_dst : ∀ (l : List Oper), (dstsOf l).Nodup → ∀ (i j : Nat) (oi oj : Oper) (d : Tmp), l[i]? = some oi → l[j]? = some oj → oi.dst = some d → oj.dst = some d → i = j
  | [], _, i, _, _, _, _, hi, _, _, _ => by simp at hi
  | o :: l, hn, i, j, oi, oj, d, hi, hj, di, dj => by
    unfold dstsOf at hn
    rw [List.filterMap_cons] at hn
    have hmem : ∀ (k : Nat) (ok : Oper), l[k]? = some ok → ok.dst = some d → d ∈ dstsOf l := fun k ok hk dk => List.mem_filterMap.2 ⟨ok, List.mem_of_getElem? hk, dk⟩
    cases i with
    | zero =>
      cases j with
      | zero => rfl
      | succ j =>
        exfalso
        simp at hi hj
        subst hi
        rw [di] at hn
        exact (List.nodup_cons.1 hn).1 (hmem j oj hj dj)
    | succ i =>
      cases j with
      | zero =>
        exfalso
        simp at hi hj
        subst hj
        rw [dj] at hn
        exact (List.nodup_cons.1 hn).1 (hmem i oi hi di)
      | succ j =>
        simp at hi hj
        have hn' : (dstsOf l).Nodup := by
          cases ho : o.dst with
          | none => rw [ho] at hn; exact hn
          | some x => rw [ho] at hn; exact (List.nodup_cons.1 hn).2
        rw [nodup_dst l hn' i j oi oj d hi hj di dj]

theorem look_base {G : Env} : ∀ {ops : List Oper} {t : Tmp}, t ∉ dstsOf ops → look (fullEnv G ops) t = look G t
  | [], _, _ => rfl
  | o :: r, t, h => by
    unfold dstsOf at h
    rw [List.filterMap_cons] at h
    unfold fullEnv
    cases ho : o.dst with
    | none =>
      rw [ho] at h
      simp only
      exact look_base (G := G) h
    | some d =>
      rw [ho] at h
      have hne : ¬ d = t := fun e => h (by simp [e])
      have hr : t ∉ dstsOf r := fun hm => h (List.mem_cons_of_mem _ hm)
      cases inferOp G o with
      | none => simp only; rw [look_base hr]; simp [look, hne]
      | some e => cases e <;> simp only <;> rw [look_base hr] <;> simp [look, hne]

theorem look_mem {G : Env} {t : Tmp} {av : AV} (h : look G t = some av) : (t, av) ∈ G := by
  unfold look at h
  rw [Option.map_eq_some_iff] at h
  obtain ⟨p, hp, rfl⟩ := h
  have h1 := List.find?_some hp
  have h2 := List.mem_of_find?_eq_some hp
  simp at h1
  rw [← h1]
  exact h2

theorem put_defers (a : Act) (d : Option Tmp) (v : Value) : (a.put d v).defers = a.defers := by cases d <;> rfl
theorem put_size (a : Act) (d : Option Tmp) (v : Value) : (a.put d v).tmps.size = a.tmps.size := by cases d <;> simp [Act.put]

theorem St.put {T : Nat} {w0 w w' : World} {G : Env} {tab tab' : List Value} {a : Act} (h : St T w0 G tab a w) {d : Tmp} {v : Value} (hd : d < 250) (hG : ∀ p ∈ G, p.1 ≠ d) (k : Keeps T w w')
    (ht : w'.heap[T]? = some (.cells tab'.toArray 51 (0, 0))) (hl : tab'.length = 480) : St T w0 G tab' (a.put (some d) v) w' :=
  ⟨by rw [put_defers]; exact h.defers, by rw [put_size]; exact h.size, fun p hp => by rw [getD_put (by rw [h.size]; exact hd), if_neg (hG p hp)]; exact (h.vars p hp).keep k,
    h.keeps.trans k, h.ground.keep k, ht, hl⟩

theorem getD_false_of_true {l : Array Bool} {i : Nat} (h : l.getD i true = false) : l.getD i false = false ∧ i < l.size := by
  rcases Nat.lt_or_ge i l.size with h' | h'
  · refine ⟨?_, h'⟩
    simpa [Array.getD_eq_getD_getElem?, h'] using h
  · simp [Array.getD_eq_getD_getElem?, Array.getElem?_eq_none h'] at h

set_option maxHeartbeats 400000 in
theorem step_ok {T : Nat} {w0 : World} {G : Env} {tab : List Value} {ops : Array Oper} {Q : Exit → Act → World → Prop} (hc : checkRow G tab ops = true) (htl : tab.length = 480)
    {listed : Array Bool} {a : Act} {w : World} {i : Nat} {o : Oper} (h : In T w0 G tab ops listed a w) (ho : ops[i]? = some o) (hl : listed.getD i true = false)
    (he : ∀ e ∈ o.after, Region.binds .any e = true → listed.getD e.on false = true) : wpOp Tryd.prog ops Q i (In T w0 G tab ops (listed.setIfInBounds i true)) a w := by
  obtain ⟨hlf, hil⟩ := getD_false_of_true hl
  have hin : i < ops.size := h.lsize ▸ hil
  unfold checkRow at hc
  simp only [Bool.and_eq_true, decide_eq_true_eq] at hc
  obtain ⟨⟨⟨⟨hnd, hbase⟩, _⟩, hpos⟩, hall⟩ := hc
  have hi := List.all_eq_true.1 hall i (List.mem_range.2 hin)
  rw [ho] at hi
  simp only [Bool.and_eq_true] at hi
  obtain ⟨⟨hgu, hfit⟩, hkn⟩ := hi
  have hgn : o.guard = none := by simpa using hgu
  unfold wpOp
  simp only [ho, Region.wanted, hgn, if_true]
  refine Or.inl ?_
  -- what the operands hold
  have hg : Given T (fullEnv G ops.toList) a w o := by
    intro t ht av hav
    unfold known at hkn
    have h1 := Array.all_eq_true'.1 hkn _ ht
    simp only [Bool.or_eq_true, Bool.not_eq_true'] at h1
    rcases h1 with h1 | h1
    · have h2 : t ∉ dstsOf ops.toList := by simpa using h1
      rw [look_base h2] at hav
      exact h.st.vars _ (look_mem hav)
    · obtain ⟨e, hem, h3⟩ := Array.any_eq_true'.1 h1
      simp only [Bool.and_eq_true] at h3
      obtain ⟨hb, hd⟩ := h3
      cases hp : ops[e.on]? with
      | none => simp [hp] at hd
      | some p =>
        simp [hp] at hd
        exact h.slots e.on p t hp hd (he e hem hb) av hav
  -- what the operation gives
  unfold fits at hfit
  split at hfit
  case h_1 => cases hfit
  case h_2 d hd =>
  simp only [Bool.and_eq_true, decide_eq_true_eq] at hfit
  obtain ⟨hd250, hfit⟩ := hfit
  have hGd : ∀ p ∈ G, p.1 ≠ d := fun p hp e => by
    have h1 := List.all_eq_true.1 hbase p hp
    simp only [Bool.not_eq_true'] at h1
    have h2 : p.1 ∉ dstsOf ops.toList := by simpa using h1
    exact h2 (e ▸ mem_dsts ho hd)
  have hother : ∀ j oj dj, ops[j]? = some oj → oj.dst = some dj → j ≠ i → dj ≠ d := fun j oj dj hoj hdj hji e => by
    subst e
    exact hji (nodup_dst ops.toList hnd j i oj o dj (by simpa using hoj) (by simpa using ho) hdj hd)
  have hds : d < a.tmps.size := by rw [h.st.size]; exact hd250
  have hlast : ∀ {v : Value} {w' : World} {av : AV}, Keeps T w w' → look (fullEnv G ops.toList) d = some av → Holds T w' av v →
      ∀ j oj dj, ops[j]? = some oj → oj.dst = some dj → (listed.setIfInBounds i true).getD j false = true → ∀ av', look (fullEnv G ops.toList) dj = some av' → Holds T w' av' ((a.put (some d) v).tmps.getD dj undef) := by
    intro v w' av k hlk hv j oj dj hoj hdj hlj av' hav'
    rw [getD_put hds]
    by_cases hji : j = i
    · subst hji
      rw [ho] at hoj; cases hoj
      rw [hd] at hdj; cases hdj
      rw [if_pos rfl]
      rw [hlk] at hav'; cases hav'
      exact hv
    · rw [if_neg (hother j oj dj hoj hdj hji)]
      rw [getD_set hil, if_neg hji] at hlj
      exact (h.slots j oj dj hoj hdj hlj av' hav').keep k
  split at hfit
  case h_1 av av' hie hlk =>
    simp only [Bool.and_eq_true, decide_eq_true_eq] at hfit
    obtain ⟨heq, hlt⟩ := hfit
    obtain rfl := AV.eqb_sound heq
    refine op_ok hie hg h.st.ground h.st.table h.st.len ?_
    intro v w' k hT hv
    rw [hd]
    have hne : ¬ ops.size - 1 = i := by omega
    refine ⟨by simpa using h.lsize, ?_, hlast k hlk hv⟩
    rw [getD_set hil, if_neg hne]
    exact h.st.put hd250 hGd k (hT.trans h.st.table) h.st.len
  case h_2 ev cs hie hlk =>
    simp only [Bool.and_eq_true, decide_eq_true_eq] at hfit
    obtain ⟨hlt, hlen⟩ := hfit
    have hii : ops.size - 1 = i := by omega
    have hst := h.st
    have htab : (if listed.getD (ops.size - 1) false = true then rowTab G tab ops else tab) = tab := by
      rw [hii, hlf]; rfl
    rw [htab] at hst
    have hrow : rowTab G tab ops = tab.take (ev * 30) ++ cs ++ tab.drop (ev * 30 + cs.length) := by
      unfold rowTab
      have : ops.back? = some o := by rw [Array.back?_eq_getElem?, hii]; exact ho
      rw [this]
      simp only [Option.bind_some, hie]
    refine op_ok (tab := tab) hie hg hst.ground hst.table htl ?_
    intro v w' k hT
    rw [hd]
    refine ⟨by simpa using h.lsize, ?_, hlast k hlk trivial⟩
    rw [getD_set hil, if_pos hii, if_pos rfl, hrow]
    exact hst.put hd250 hGd k hT hlen
  case h_3 => cases hfit

theorem in_start {T : Nat} {w0 w : World} {G : Env} {tab : List Value} {ops : Array Oper} {a : Act} (h : St T w0 G tab a w) : In T w0 G tab ops (Array.replicate ops.size false) a w := by
  have hf : ∀ j, (Array.replicate ops.size false).getD j false = false := fun j => by
    simp only [Array.getD_eq_getD_getElem?, Array.getElem?_replicate]
    split <;> rfl
  refine ⟨by simp, ?_, fun j o d _ _ hl => ?_⟩
  · rw [hf]; exact h
  · rw [hf] at hl; cases hl

theorem in_end {T : Nat} {w0 w : World} {G : Env} {tab : List Value} {ops : Array Oper} {listed : Array Bool} {a : Act} (h : In T w0 G tab ops listed a w) (hl : listed.getD (ops.size - 1) false = true) : St T w0 G (rowTab G tab ops) a w := by
  have := h.st
  rwa [hl, if_pos rfl] at this

theorem drawn_ok {T : Nat} {w0 w : World} {G : Env} {tab : List Value} {ops : Array Oper} {id : Nat} {Q : Exit → Act → World → Prop} {a : Act} (hc : checkRow G tab ops = true) (h : St T w0 G tab a w)
    (hq : ∀ a' w', St T w0 G (rowTab G tab ops) a' w' → Q .normal a' w') : (Code.region id ops true).wp Tryd.prog Q a w := by
  have hc' := hc
  unfold checkRow at hc'
  simp only [Bool.and_eq_true, decide_eq_true_eq] at hc'
  refine wp_region_any (by kernel_rfl) (wpAny_inv (In T w0 G tab ops) (fun listed a w i o hI ho hl he => step_ok hc h.len hI ho hl he) (fun listed a w hI hr => ?_) _ _ _ _ (in_start h.drew) ?_)
  · exact hq _ _ (in_end hI (acyc_all hc'.1.1.2 hI.lsize hr _ (by omega)))
  · simp

theorem seq_from {T : Nat} {w0 : World} {G : Env} {tab : List Value} {ops : Array Oper} {Q : Exit → Act → World → Prop} (hc : checkRow G tab ops = true) (htl : tab.length = 480)
    (hq : ∀ a' w', St T w0 G (rowTab G tab ops) a' w' → Q .normal a' w') : ∀ (m k : Nat) (listed : Array Bool) (a : Act) (w : World), k + m = ops.size → In T w0 G tab ops listed a w →
      (∀ j, j < k → listed.getD j false = true) → (∀ j, k ≤ j → j < ops.size → listed.getD j true = false) → wpOps Tryd.prog ops Q (List.range' k m) a w
  | 0, k, listed, a, w, hk, h, h1, _ => by
    have hc' := hc
    unfold checkRow at hc'
    simp only [Bool.and_eq_true, decide_eq_true_eq] at hc'
    exact hq _ _ (in_end h (h1 _ (by have := hc'.1.2; omega)))
  | m + 1, k, listed, a, w, hk, h, h1, h2 => by
    have hkl : k < ops.size := by omega
    have ho : ops[k]? = some ops[k] := Array.getElem?_eq_getElem hkl
    have hl := h2 k (Nat.le_refl _) hkl
    have hac : ∀ e ∈ ops[k].after, Region.binds .any e = true → listed.getD e.on false = true := fun e hem _ => by
      have hc' := hc
      unfold checkRow at hc'
      simp only [Bool.and_eq_true, decide_eq_true_eq] at hc'
      have h3 := List.all_eq_true.1 hc'.1.1.2 k (List.mem_range.2 hkl)
      simp only [ho, Option.map_some, Option.getD_some] at h3
      have h4 := Array.all_eq_true'.1 h3 e hem
      exact h1 _ (by simpa using h4)
    have hs := step_ok (Q := Q) hc htl h ho hl hac
    rw [List.range'_succ, wpOps_cons]
    refine wpOp_mono (fun a' w' h' => seq_from hc htl hq m (k + 1) _ a' w' (by omega) h' ?_ ?_) hs
    · intro j hj
      rw [getD_set (getD_false_of_true hl).2]
      by_cases hjk : j = k
      · rw [if_pos hjk]
      · rw [if_neg hjk]; exact h1 j (by omega)
    · intro j hj hjn
      rw [Array.getD_eq_getD_getElem?, Array.getElem?_setIfInBounds, if_neg (by omega), ← Array.getD_eq_getD_getElem?]
      exact h2 j (by omega) hjn

theorem row_ok {T : Nat} {w0 w : World} {G : Env} {tab : List Value} {ops : Array Oper} {id : Nat} {dr : Bool} {Q : Exit → Act → World → Prop} {a : Act} (hc : checkRow G tab ops = true) (h : St T w0 G tab a w)
    (hq : ∀ a' w', St T w0 G (rowTab G tab ops) a' w' → Q .normal a' w') : (Code.region id ops dr).wp Tryd.prog Q a w := by
  cases dr with
  | true => exact drawn_ok hc h hq
  | false =>
    refine wp_region ?_
    rw [List.range_eq_range']
    refine seq_from hc h.len hq ops.size 0 (Array.replicate ops.size false) a w (by omega) (in_start h) (fun j hj => by omega) (fun j _ hj => ?_)
    simp [Array.getD_eq_getD_getElem?, hj]

/-! ### A region without a row: one operation behind the other; a variable that is made and filled -/
def drop (G : Env) (d : Tmp) : Env := G.filter fun p => !(p.1 == d)

def runSeq : Env → List Oper → Option Env
  | G, [] => some G
  | G, [o] => match o.dst, inferOp G o with
    | some d, some (.val av) => if o.guard.isNone && decide (d < 250) then some ((d, av) :: drop G d) else none
    | _, _ => none
  | G, o :: p :: r => match o.dst, inferOp G o with
    | some d, some (.val av) => if o.guard.isNone && decide (d < 250) then runSeq ((d, av) :: drop G d) (p :: r) else none
    | some d, none => match o.op, p.op, p.dst with
      | .alloc 40, .store 40 (.tmp s) (.tmp t), none => match look G t with
        | some (.cell x n b) => if o.guard.isNone && p.guard.isNone && decide (d < 250) && decide (s = d) && decide (t ≠ d) then runSeq ((d, .pcell x n b) :: drop G d) r else none
        | _ => none
      | _, _, _ => none
    | _, _ => none

theorem St.put_new {T : Nat} {w0 w w' : World} {G : Env} {tab : List Value} {a : Act} (h : St T w0 G tab a w) {d : Tmp} {v : Value} {av : AV} (hd : d < 250) (k : Keeps T w w')
    (ht : w'.heap[T]? = w.heap[T]?) (hv : Holds T w' av v) : St T w0 ((d, av) :: drop G d) tab (a.put (some d) v) w' := by
  have hds : d < a.tmps.size := by rw [h.size]; exact hd
  refine ⟨by rw [put_defers]; exact h.defers, by rw [put_size]; exact h.size, fun p hp => ?_, h.keeps.trans k, h.ground.keep k, ht.trans h.table, h.len⟩
  rcases List.mem_cons.1 hp with rfl | hp
  · rw [getD_put hds, if_pos rfl]; exact hv
  · have hp' := List.mem_filter.1 hp
    have hne : ¬ p.1 = d := by simpa using hp'.2
    rw [getD_put hds, if_neg hne]
    exact (h.vars p hp'.1).keep k

theorem St.given {T : Nat} {w0 w : World} {G : Env} {tab : List Value} {a : Act} (h : St T w0 G tab a w) (o : Oper) : Given T G a w o := fun _ _ _ hl => h.vars _ (look_mem hl)
end Go.Proofs.YtkeecifolpidmaaDoor
