/- The rules of a program logic over abstract states, tenth part: a region whose order is open. No condition. -/
import Derived.Test.YtkfcpnaiimcjeaaDoorQMore
import Derived.Orders
set_option linter.unusedVariables false
set_option linter.unusedSimpArgs false
namespace Go.Q
open Go.RowKit
variable {P : Program} {β : Base}

theorem GStep.congr {H : Nat → Obj} {o : Oper} {ev ev' : Operand → AVal} {c : AVal} (he : ∀ x ∈ o.op.operands, ev x = ev' x) (h : GStep P β H o ev c) : GStep P β H o ev' c :=
  fun F ρ w hr evc hv K hK => h F ρ w hr evc (fun x hx => by rw [he x hx]; exact hv x hx) K hK

/-- One operation of an open region, at the state of the text's order. -/
inductive DOne (P : Program) (β : Base) (ops : Array Oper) (o : Oper) (σ : St) : AVal → Prop
  | go (c : AVal) (hg : o.guard = none) (h : GStep P β σ.H o (aev σ) c) : DOne P β ops o σ c
  | want (c : AVal) (j t : Nat) (b : Bool) (hg : o.guard = some (j, b)) (hj : (ops[j]?).bind (·.dst) = some t) (ht : Nat.blt t β.n = true) (hv : σ.env t = .d (.s (.bool b))) (h : GStep P β σ.H o (aev σ) c) : DOne P β ops o σ c
  | skip (j t : Nat) (b b' : Bool) (hg : o.guard = some (j, b)) (hj : (ops[j]?).bind (·.dst) = some t) (ht : Nat.blt t β.n = true) (hv : σ.env t = .d (.s (.bool b'))) (hb : (b' == b) = false) : DOne P β ops o σ (.tup [])
  | skipu (j t : Nat) (b : Bool) (hg : o.guard = some (j, b)) (hj : (ops[j]?).bind (·.dst) = some t) (ht : Nat.blt t β.n = true) (hv : σ.env t = .tup []) : DOne P β ops o σ (.tup [])

inductive DSteps (P : Program) (β : Base) (ops : Array Oper) : List Oper → St → List AVal → St → Prop
  | nil (σ : St) : DSteps P β ops [] σ [] σ
  | cons {o : Oper} {l : List Oper} {σ σ' : St} {c : AVal} {vs : List AVal} {d : Nat} (hd : o.dst = some d) (hn : Nat.blt d β.n = true) (h : DOne P β ops o σ c) (t : DSteps P β ops l (σ.put d c) vs σ') : DSteps P β ops (o :: l) σ (c :: vs) σ'

def DGo (P : Program) (β : Base) (ops : Array Oper) (Q : Exit → St → Prop) (tail l : List Oper) (σ : St) : Prop := ∃ vs σ', DSteps P β ops l σ vs σ' ∧ TL P β ops Q tail σ'

theorem DGo_nil {ops : Array Oper} {Q : Exit → St → Prop} {tail : List Oper} {σ : St} (h : TL P β ops Q tail σ) : DGo P β ops Q tail [] σ := ⟨[], σ, .nil σ, h⟩
theorem DGo_one {ops : Array Oper} {Q : Exit → St → Prop} {tail l : List Oper} {σ : St} {o : Oper} {d : Nat} {c : AVal} (hd : o.dst = some d) (hn : Nat.blt d β.n = true) (h : DOne P β ops o σ c) (t : DGo P β ops Q tail l (σ.put d c)) : DGo P β ops Q tail (o :: l) σ := by
  obtain ⟨vs, σ', h1, h2⟩ := t
  exact ⟨c :: vs, σ', .cons hd hn h h1, h2⟩
theorem DGo_o {ops : Array Oper} {Q : Exit → St → Prop} {tail l : List Oper} {σ : St} {o : Oper} {d : Nat} {c : AVal} (hg : o.guard = none) (hd : o.dst = some d) (hn : Nat.blt d β.n = true) (h : GStep P β σ.H o (aev σ) c) (t : DGo P β ops Q tail l (σ.put d c)) : DGo P β ops Q tail (o :: l) σ :=
  DGo_one hd hn (.go c hg h) t
theorem DGo_w {ops : Array Oper} {Q : Exit → St → Prop} {tail l : List Oper} {σ : St} {o : Oper} {d j u : Nat} {b : Bool} {c : AVal} (hg : o.guard = some (j, b)) (hj : (ops[j]?).bind (·.dst) = some u) (hu : Nat.blt u β.n = true) (hv : σ.env u = .d (.s (.bool b))) (hd : o.dst = some d) (hn : Nat.blt d β.n = true)
    (h : GStep P β σ.H o (aev σ) c) (t : DGo P β ops Q tail l (σ.put d c)) : DGo P β ops Q tail (o :: l) σ := DGo_one hd hn (.want c j u b hg hj hu hv h) t
theorem DGo_skip {ops : Array Oper} {Q : Exit → St → Prop} {tail l : List Oper} {σ : St} {o : Oper} {d j u : Nat} {b b' : Bool} (hg : o.guard = some (j, b)) (hj : (ops[j]?).bind (·.dst) = some u) (hu : Nat.blt u β.n = true) (hv : σ.env u = .d (.s (.bool b'))) (hb : (b' == b) = false) (hd : o.dst = some d) (hn : Nat.blt d β.n = true)
    (t : DGo P β ops Q tail l (σ.put d (.tup []))) : DGo P β ops Q tail (o :: l) σ := DGo_one hd hn (.skip j u b b' hg hj hu hv hb) t
theorem DGo_skipu {ops : Array Oper} {Q : Exit → St → Prop} {tail l : List Oper} {σ : St} {o : Oper} {d j u : Nat} {b : Bool} (hg : o.guard = some (j, b)) (hj : (ops[j]?).bind (·.dst) = some u) (hu : Nat.blt u β.n = true) (hv : σ.env u = .tup []) (hd : o.dst = some d) (hn : Nat.blt d β.n = true)
    (t : DGo P β ops Q tail l (σ.put d (.tup []))) : DGo P β ops Q tail (o :: l) σ := DGo_one hd hn (.skipu j u b hg hj hu hv) t
/-- The ways part at a truth value. -/
theorem DGo_bool {ops : Array Oper} {Q : Exit → St → Prop} {tail l : List Oper} {σ : St} {o : Oper} {d : Nat} {b : Bool} (hd : o.dst = some d) (hn : Nat.blt d β.n = true) (h : DOne P β ops o σ (.d (.s (.bool b))))
    (t1 : b = true → DGo P β ops Q tail l (σ.put d (.d (.s (.bool true))))) (t2 : b = false → DGo P β ops Q tail l (σ.put d (.d (.s (.bool false))))) : DGo P β ops Q tail (o :: l) σ := by
  cases b with
  | true => exact DGo_one hd hn h (t1 rfl)
  | false => exact DGo_one hd hn h (t2 rfl)

/-! ### What is checked of the region -/
def edges (o : Oper) : List Nat := (o.after.toList.filter (fun e => Region.binds .any e)).map (·.on)
def tmpsOf (o : Oper) : List Nat := o.op.operands.toList.filterMap fun | .tmp t => some t | _ => none
def masks : List Oper → List Nat → List Nat
  | [], acc => acc
  | o :: l, acc => masks l (acc ++ [(edges o).foldl (fun s j => s ||| 2 ^ j ||| acc.getD j 0) 0])
def pureOk (ops : Array Oper) (m : Nat) (o : Oper) : Bool :=
  true &&
  (List.range m).all (fun j => match (ops[j]?).bind (·.dst) with
    | some d => !(tmpsOf o).contains d || (edges o).contains j
    | none => true) &&
  (match o.guard with | none => true | some (g, _) => (edges o).contains g && Nat.blt g m)
def drawOk (ops : Array Oper) (m : Nat) : Bool :=
  ops.toList.zipIdx.all (fun (o, i) => (edges o).all (fun j => Nat.blt j i)) &&
  (ops.toList.take m).all (pureOk ops m) &&
  ((ops.toList.take m).filterMap (·.dst)).Nodup &&
  (List.range ops.size).all (fun j => Nat.blt j m || Nat.beq ((masks ops.toList []).getD j 0) (2 ^ j - 1)) && Nat.ble m ops.size

/-! ### What the check says -/
theorem foldl_testBit (f : Nat → Nat) : ∀ (l : List Nat) (s i : Nat), (l.foldl (fun s j => s ||| 2 ^ j ||| f j) s).testBit i = true → s.testBit i = true ∨ ∃ j ∈ l, i = j ∨ (f j).testBit i = true
  | [], s, i, h => .inl h
  | j :: l, s, i, h => by
    rcases foldl_testBit f l _ i h with h | ⟨k, hk, h⟩
    · rw [Nat.testBit_or, Nat.testBit_or, Bool.or_eq_true, Bool.or_eq_true, Nat.testBit_two_pow] at h
      rcases h with (h | h) | h
      · exact .inl h
      · exact .inr ⟨j, by simp, .inl (by simpa using h : j = i).symm⟩
      · exact .inr ⟨j, by simp, .inr h⟩
    · exact .inr ⟨k, by simp [hk], h⟩

theorem masks_spec : ∀ (L : List Oper) (acc : List Nat), ∃ R, masks L acc = acc ++ R ∧ R.length = L.length ∧ ∀ k o, L[k]? = some o → R[k]? = some ((edges o).foldl (fun s j => s ||| 2 ^ j ||| (acc ++ R.take k).getD j 0) 0)
  | [], acc => ⟨[], by simp [masks], rfl, by simp⟩
  | o :: L, acc => by
    obtain ⟨R, h1, h2, h3⟩ := masks_spec L (acc ++ [(edges o).foldl (fun s j => s ||| 2 ^ j ||| acc.getD j 0) 0])
    refine ⟨(edges o).foldl (fun s j => s ||| 2 ^ j ||| acc.getD j 0) 0 :: R, by rw [masks, h1, List.append_assoc]; rfl, by simp [h2], fun k o' hk => ?_⟩
    cases k with
    | zero => simp at hk; subst hk; simp
    | succ k =>
      simp at hk
      have := h3 k o' hk
      simpa [List.append_assoc] using this

def Lst (listed : Array Bool) (i : Nat) : Prop := listed[i]? = some true

structure DrawOk (ops : Array Oper) (m : Nat) : Prop where
  lt : ∀ i o, ops[i]? = some o → ∀ j ∈ edges o, j < i
  pure : ∀ i o, i < m → ops[i]? = some o → pureOk ops m o = true
  nd : ((ops.toList.take m).filterMap (·.dst)).Nodup
  msk : ∀ j, j < ops.size → m ≤ j → (masks ops.toList []).getD j 0 = 2 ^ j - 1
  le : m ≤ ops.size

theorem drawOk_spec {ops : Array Oper} {m : Nat} (h : drawOk ops m = true) : DrawOk ops m := by
  unfold drawOk at h
  simp only [Bool.and_eq_true] at h
  obtain ⟨⟨⟨⟨h1, h2⟩, h3⟩, h4⟩, h5⟩ := h
  refine ⟨fun i o ho j hj => ?_, fun i o hi ho => ?_, by simpa using h3, fun j hj hm => ?_, by simpa using h5⟩
  · have := List.all_eq_true.1 h1 (o, i) (by rw [List.mem_zipIdx_iff_getElem?]; simpa using ho)
    have := List.all_eq_true.1 this j hj
    simpa using this
  · refine List.all_eq_true.1 h2 o ?_
    have : (ops.toList.take m)[i]? = some o := by rw [List.getElem?_take, if_pos hi]; simpa using ho
    exact List.mem_of_getElem? this
  · have := List.all_eq_true.1 h4 j (by simpa using hj)
    simp only [Bool.or_eq_true, Nat.blt_eq, Nat.beq_eq_true_eq] at this
    rcases this with h | h
    · omega
    · exact Nat.eq_of_beq_eq_true h

theorem nodup_dst : ∀ {l : List Oper}, (l.filterMap (·.dst)).Nodup → ∀ (i j d : Nat), (l[i]?).bind (·.dst) = some d → (l[j]?).bind (·.dst) = some d → i = j
  | [], _, i, j, d, h, _ => by simp at h
  | o :: l, hnd, i, j, d, hi, hj => by
    have hrest : (l.filterMap (·.dst)).Nodup := by
      rw [List.filterMap_cons] at hnd
      cases hq : o.dst with
      | none => rw [hq] at hnd; exact hnd
      | some x => rw [hq] at hnd; exact (List.nodup_cons.1 hnd).2
    have hno : ∀ k : Nat, o.dst = some d → (l[k]?).bind (fun x : Oper => x.dst) = some d → False := by
      intro k h1 h2
      rw [List.filterMap_cons, h1] at hnd
      refine (List.nodup_cons.1 hnd).1 ?_
      cases hl : l[k]? with
      | none => simp [hl] at h2
      | some ok =>
        rw [hl] at h2
        exact List.mem_filterMap.2 ⟨ok, List.mem_of_getElem? hl, by simpa using h2⟩
    cases i with
    | zero =>
      cases j with
      | zero => rfl
      | succ j => exact (hno j (by simpa using hi) (by simpa using hj)).elim
    | succ i =>
      cases j with
      | zero => exact (hno i (by simpa using hj) (by simpa using hi)).elim
      | succ j => rw [nodup_dst hrest i j d (by simpa using hi) (by simpa using hj)]

/-- What lies behind an operation all of whose edges are done. -/
theorem masks_listed {ops : Array Oper} {listed : Array Bool} (hlt : ∀ i o, ops[i]? = some o → ∀ j ∈ edges o, j < i) (hcl : ∀ i o, ops[i]? = some o → Lst listed i → ∀ j ∈ edges o, Lst listed j) :
    ∀ k o, ops[k]? = some o → (∀ j ∈ edges o, Lst listed j) → ∀ i, ((masks ops.toList []).getD k 0).testBit i = true → Lst listed i := by
  obtain ⟨R, h1, h2, h3⟩ := masks_spec ops.toList []
  simp only [List.nil_append] at h1 h3
  intro k
  induction k using Nat.strongRecOn with
  | _ k ih =>
    intro o ho hk i hi
    have hR := h3 k o (by simpa using ho)
    rw [h1, List.getD_eq_getElem?_getD, hR] at hi
    simp only [Option.getD_some] at hi
    rcases foldl_testBit _ _ _ i hi with h | ⟨j, hj, h⟩
    · simp at h
    · rcases h with rfl | h
      · exact hk i hj
      · have hjk := hlt k o ho j hj
        have hkl : k < ops.toList.length := (List.getElem?_eq_some_iff.1 (show ops.toList[k]? = some o by simpa using ho)).1
        have hjl : j < ops.size := by simp at hkl; omega
        have hoj : ops[j]? = some ops[j] := Array.getElem?_eq_getElem hjl
        refine ih j hjk ops[j] hoj (hcl j _ hoj (hk j hj)) i ?_
        rw [h1, List.getD_eq_getElem?_getD]
        rw [List.getD_eq_getElem?_getD, List.getElem?_take, if_pos hjk] at h
        exact h

theorem ready_mem {ops : Array Oper} {listed : Array Bool} (hs : listed.size = ops.size) {i : Nat} : i ∈ Region.ready .any ops listed ↔ ∃ o, ops[i]? = some o ∧ listed[i]? = some false ∧ ∀ j ∈ edges o, Lst listed j := by
  unfold Region.ready
  rw [List.mem_filter, List.mem_range, Bool.and_eq_true]
  constructor
  · rintro ⟨hi, h1, h2⟩
    have ho : ops[i]? = some ops[i] := Array.getElem?_eq_getElem hi
    have hli : listed[i]? = some listed[i] := Array.getElem?_eq_getElem (by omega)
    refine ⟨ops[i], ho, ?_, fun j hj => ?_⟩
    · rw [Array.getD_eq_getD_getElem?, hli] at h1
      rw [hli]
      simpa using h1
    · rw [ho] at h2
      simp only [Option.map_some, Option.getD_some] at h2
      unfold edges at hj
      obtain ⟨e, he, rfl⟩ := List.mem_map.1 hj
      obtain ⟨he1, he2⟩ := List.mem_filter.1 he
      have := Array.all_eq_true_iff_forall_mem.1 h2 e (by simpa using he1)
      rw [he2] at this
      simp only [Bool.not_true, Bool.false_or] at this
      rw [Array.getD_eq_getD_getElem?] at this
      unfold Lst
      cases hq : listed[e.on]? with
      | none => rw [hq] at this; simp at this
      | some b => rw [hq] at this; simp at this; rw [this]
  · rintro ⟨o, ho, hl, he⟩
    have hi : i < ops.size := (Array.getElem?_eq_some_iff.1 ho).1
    refine ⟨hi, by rw [Array.getD_eq_getD_getElem?, hl]; rfl, ?_⟩
    rw [ho]
    simp only [Option.map_some, Option.getD_some]
    refine Array.all_eq_true_iff_forall_mem.2 (fun e hem => ?_)
    cases hb : Region.binds .any e with
    | false => rfl
    | true =>
      have := he e.on (List.mem_map.2 ⟨e, List.mem_filter.2 ⟨by simpa using hem, hb⟩, rfl⟩)
      rw [Array.getD_eq_getD_getElem?, this]
      rfl

/-! ### The state at each operation -/
theorem DSteps.at_ {ops : Array Oper} {l : List Oper} {σ σ' : St} {vs : List AVal} (h : DSteps P β ops l σ vs σ') : (l.filterMap (·.dst)).Nodup → ∀ i, i ≤ l.length → ∃ σi : St, σi.H = σ.H ∧ (∀ t, (∀ (j d : Nat), j < i → (l[j]?).bind (·.dst) = some d → d ≠ t) → σi.env t = σ.env t) ∧
    (∀ (j d : Nat) (c : AVal), j < i → (l[j]?).bind (·.dst) = some d → vs[j]? = some c → σi.env d = c) ∧ (∀ o, l[i]? = some o → ∃ d c, o.dst = some d ∧ Nat.blt d β.n = true ∧ vs[i]? = some c ∧ DOne P β ops o σi c) ∧ (i = l.length → σi = σ') := by
  induction h with
  | nil σ =>
    intro _ i hi
    simp at hi
    subst hi
    exact ⟨σ, rfl, fun _ _ => rfl, fun j d c hj => by omega, fun o ho => by simp at ho, fun _ => rfl⟩
  | cons hd hn h t ih =>
    rename_i o l σ σ' c vs d
    intro hnd i hi
    rw [List.filterMap_cons, hd] at hnd
    simp only [List.nodup_cons] at hnd
    cases i with
    | zero =>
      refine ⟨σ, rfl, fun _ _ => rfl, fun j d c hj => by omega, fun o' ho => ?_, fun e => by simp at e⟩
      simp at ho
      subst ho
      exact ⟨d, c, hd, hn, rfl, h⟩
    | succ i =>
      obtain ⟨σi, h1, h2, h3, h4, h5⟩ := ih hnd.2 i (by simpa using hi)
      have hdnot : ∀ (j d' : Nat), j < i → (l[j]?).bind (·.dst) = some d' → d' ≠ d := by
        intro j d' hj hb e
        subst e
        apply hnd.1
        cases hl : l[j]? with
        | none => simp [hl] at hb
        | some oj =>
          rw [hl] at hb
          exact List.mem_filterMap.2 ⟨oj, List.mem_of_getElem? hl, by simpa using hb⟩
      refine ⟨σi, h1, fun t ht => ?_, fun j d' c' hj hb hv => ?_, fun o' ho => ?_, fun e => h5 (by simpa using e)⟩
      · have h0 := ht 0 d (by omega) (by simpa using hd)
        rw [h2 t (fun j d' hj hb => ht (j + 1) d' (by omega) (by simpa using hb))]
        simp only [St.put, upd_ne _ _ (Ne.symm h0)]
      · cases j with
        | zero =>
          simp at hb hv
          rw [hd] at hb
          cases hb
          rw [h2 d hdnot]
          simp only [St.put, upd_same]
          exact hv
        | succ j => exact h3 j d' c' (by omega) (by simpa using hb) (by simpa using hv)
      · simpa using h4 o' (by simpa using ho)

/-- The world and the temporaries when some operations are done. -/
structure DInv (P : Program) (β : Base) (ops : Array Oper) (m : Nat) (σ : St) (vs : List AVal) (listed : Array Bool) (a : Act) (w : World) : Prop where
  ex : ∃ F ρ, RelH P β F ρ σ.H w ∧ (∀ t, (∀ (j d : Nat), j < m → Lst listed j → (ops[j]?).bind (·.dst) = some d → d ≠ t) → AVR P β F ρ σ.H w (σ.env t) (a.tmps.getD t undef)) ∧
    (∀ (j d : Nat) (c : AVal), j < m → Lst listed j → (ops[j]?).bind (·.dst) = some d → vs[j]? = some c → AVR P β F ρ σ.H w c (a.tmps.getD d undef))
  df : a.defers = []
  nn : β.n ≤ a.tmps.size

theorem yields_of {ops : Array Oper} {a : Act} {j t : Nat} {b : Bool} (hj : (ops[j]?).bind (·.dst) = some t) (ht : t < a.tmps.size) (hv : a.tmps.getD t undef = .bool b) : yielded ops a.tmps j = some b := by
  have h4 : a.tmps[t]? = some (a.tmps.getD t undef) := by
    rw [Array.getD_eq_getD_getElem?, Array.getElem?_eq_getElem (by omega)]; rfl
  rw [hv] at h4
  simp [yielded, hj, h4]

theorem lst_set {listed : Array Bool} {i j : Nat} (hi : i < listed.size) : Lst (listed.setIfInBounds i true) j ↔ j = i ∨ Lst listed j := by
  unfold Lst
  rw [Array.getElem?_setIfInBounds]
  by_cases h : i = j
  · subst h; simp [hi]
  · rw [if_neg h]
    constructor
    · exact .inr
    · rintro (h' | h')
      · exact absurd h'.symm h
      · exact h'

theorem tmp_mem {o : Oper} {t : Nat} (h : (.tmp t : Operand) ∈ o.op.operands) : t ∈ tmpsOf o := List.mem_filterMap.2 ⟨.tmp t, by simpa using h, rfl⟩

theorem draw_step {ops : Array Oper} {m : Nat} {σ σ' : St} {vs : List AVal} (hok : DrawOk ops m) (hs : DSteps P β ops (ops.toList.take m) σ vs σ') {listed : Array Bool} (hls : listed.size = ops.size) {i : Nat} {o : Oper} (him : i < m) (ho : ops[i]? = some o) (he : ∀ j ∈ edges o, Lst listed j)
    {a : Act} {w : World} (hI : DInv P β ops m σ vs listed a w) {K : Act → World → Prop} {Q : Exit → Act → World → Prop} (hK : ∀ a' w', DInv P β ops m σ vs (listed.setIfInBounds i true) a' w' → K a' w') : wpOp P ops Q i K a w := by
  have hlen : (ops.toList.take m).length = m := by rw [List.length_take, Array.length_toList]; have := hok.le; omega
  have hget : ∀ j, j < m → (ops.toList.take m)[j]? = ops[j]? := fun j hj => by rw [List.getElem?_take, if_pos hj]; simp
  obtain ⟨σi, h1, h2, h3, h4, _⟩ := hs.at_ hok.nd i (by omega)
  obtain ⟨d, c, hd, hdn, hvc, hone⟩ := h4 o (by rw [hget i him]; exact ho)
  have hdn := lt_of_blt hdn
  have hp := hok.pure i o him ho
  unfold pureOk at hp
  simp only [Bool.and_eq_true] at hp
  obtain ⟨⟨_, hp2⟩, hp3⟩ := hp
  obtain ⟨⟨F, ρ, hr, ht1, ht2⟩, hdf, hnn⟩ := hI
  -- a temporary that is read, or a guard's
  have htmp : ∀ t, (∀ j, j < m → (ops[j]?).bind (·.dst) = some t → j ∈ edges o) → AVR P β F ρ σ.H w (σi.env t) (a.tmps.getD t undef) := by
    intro t hw
    by_cases hex : ∃ j, j < m ∧ (ops[j]?).bind (·.dst) = some t
    · obtain ⟨j, hj, hjd⟩ := hex
      have hje := hw j hj hjd
      have hji := hok.lt i o ho j hje
      have hvj : ∃ cj, vs[j]? = some cj := by
        obtain ⟨σj, _, _, _, h4', _⟩ := hs.at_ hok.nd j (by omega)
        have hjs : j < ops.size := by have := hok.le; omega
        obtain ⟨_, cj, _, _, hcj, _⟩ := h4' ops[j] (by rw [hget j hj]; exact Array.getElem?_eq_getElem hjs)
        exact ⟨cj, hcj⟩
      obtain ⟨cj, hcj⟩ := hvj
      rw [h3 j t cj hji (by rw [hget j hj]; exact hjd) hcj]
      exact ht2 j t cj hj (he j hje) hjd hcj
    · rw [h2 t (fun j d' hj hb e => hex ⟨j, by omega, by subst e; rw [hget j (by omega)] at hb; exact hb⟩)]
      exact ht1 t (fun j d' hj _ hb e => hex ⟨j, hj, by subst e; exact hb⟩)
  have hop : ∀ x ∈ o.op.operands, AVR P β F ρ σ.H w (aev σi x) (a.eval x) := by
    intro x hx
    cases x with
    | tmp t =>
      refine htmp t (fun j hj hjd => ?_)
      have := List.all_eq_true.1 hp2 j (by simpa using hj)
      rw [hjd] at this
      simp only [Bool.or_eq_true, Bool.not_eq_true', List.contains_eq_mem, decide_eq_false_iff_not, decide_eq_true_eq] at this
      rcases this with h | h
      · exact absurd (tmp_mem hx) h
      · exact h
    | const v => exact constA_rel v
    | global g => exact .junk _
    | func f => exact .clo f [] [] rfl (by simp)
  have hguard : ∀ (g : Nat) (b : Bool) (t : Nat), o.guard = some (g, b) → (ops[g]?).bind (·.dst) = some t → AVR P β F ρ σ.H w (σi.env t) (a.tmps.getD t undef) := by
    intro g b t hg hgt
    rw [hg] at hp3
    simp only [Bool.and_eq_true, List.contains_eq_mem, decide_eq_true_eq, Nat.blt_eq] at hp3
    refine htmp t (fun j hj hjd => ?_)
    have : j = g := nodup_dst hok.nd j g t (by rw [hget j hj]; exact hjd) (by rw [hget g hp3.2]; exact hgt)
    subst this
    exact hp3.1
  -- what the operation leaves
  have fin : ∀ v w' F', Kept noM w F w' F' → WF F' w' → AVR P β F' ρ σ.H w' c v → DInv P β ops m σ vs (listed.setIfInBounds i true) (a.put o.dst v) w' := by
    intro v w' F' hk hw hc
    have hE := hk.ext hr.wf
    have hF := hk.le hr.wf
    have hisz : i < listed.size := by rw [hls]; have := hok.le; omega
    have hds : d < a.tmps.size := Nat.lt_of_lt_of_le hdn hnn
    have hsame : (a.tmps.setIfInBounds d v).getD d undef = v := by simp [Array.getD, hds]
    have hoth : ∀ t, t ≠ d → (a.tmps.setIfInBounds d v).getD t undef = a.tmps.getD t undef := by
      intro t ht
      simp only [Array.getD_eq_getD_getElem?, Array.getElem?_setIfInBounds]
      rw [if_neg (fun e => ht e.symm)]
    have hid : (ops[i]?).bind (·.dst) = some d := by rw [ho]; exact hd
    rw [hd]
    refine ⟨⟨F', ρ, hr.grow hk hw, fun t ht => ?_, fun j dj cj hj hl hjd hcj => ?_⟩, hdf, by simpa [Act.put] using hnn⟩
    · have htd : t ≠ d := fun e => ht i d him ((lst_set hisz).2 (.inl rfl)) hid e.symm
      simp only [Act.put, hoth t htd]
      exact (ht1 t (fun j dj hj hl hb => ht j dj hj ((lst_set hisz).2 (.inr hl)) hb)).grow hE hF
    · by_cases hjd' : dj = d
      · subst hjd'
        have : j = i := nodup_dst hok.nd j i dj (by rw [hget j hj]; exact hjd) (by rw [hget i him]; exact hid)
        subst this
        rw [hvc] at hcj
        cases hcj
        simp only [Act.put, hsame]
        exact hc
      · simp only [Act.put, hoth dj hjd']
        rcases (lst_set hisz).1 hl with e | hl
        · subst e; rw [hid] at hjd; cases hjd; exact absurd rfl hjd'
        · exact (ht2 j dj cj hj hl hjd hcj).grow hE hF
  have hgo : GStep P β σi.H o (aev σi) c → o.wp P a w K Q := by
    intro hg
    refine wp_of_goes ?_
    rw [h1] at hg
    exact hg F ρ w hr a.eval hop _ (fun v w' F' hk hw hc => hK _ _ (fin v w' F' hk hw hc))
  have hskip : c = .tup [] → K (a.put o.dst undef) w := fun e => hK _ _ (fin undef w F (Kept.refl _ _ _) hr.wf (by rw [e]; exact .tup [] [] rfl (by simp)))
  unfold wpOp
  simp only [ho]
  cases hone with
  | go _ hg h => rw [if_pos (by simp [Region.wanted, hg])]; exact .inl (hgo h)
  | want _ g t b hg hj ht hv h =>
    have h5 := hguard g b t hg hj
    rw [hv] at h5
    have hy := yields_of hj (by have := lt_of_blt ht; omega) h5.s_inv
    rw [if_pos (by simp [Region.wanted, hg, hy])]
    exact .inl (hgo h)
  | skip g t b b' hg hj ht hv hb =>
    have h5 := hguard g b t hg hj
    rw [hv] at h5
    have hy := yields_of hj (by have := lt_of_blt ht; omega) h5.s_inv
    rw [if_neg (by simp [Region.wanted, hg, hy]; simpa using hb)]
    exact hskip rfl
  | skipu g t b hg hj ht hv =>
    have h5 := hguard g b t hg hj
    rw [hv] at h5
    have hy : yielded ops a.tmps g = none := by
      have h4 : a.tmps[t]? = some (a.tmps.getD t undef) := by
        have := lt_of_blt ht
        rw [Array.getD_eq_getD_getElem?, Array.getElem?_eq_getElem (by omega)]; rfl
      generalize a.tmps.getD t undef = v at h5 h4
      cases h5 with
      | tup _ vs hl _ => simp [yielded, hj, h4]
    rw [if_neg (by simp [Region.wanted, hg, hy])]
    exact hskip rfl

/-! ### The tail, in its order -/
def Upto (listed : Array Bool) (k : Nat) : Prop := ∀ i, i < listed.size → listed[i]? = some (decide (i < k))

theorem upto_lst {listed : Array Bool} {k : Nat} (h : Upto listed k) {i : Nat} (hi : i < listed.size) : Lst listed i ↔ i < k := by
  unfold Lst
  rw [h i hi]
  simp

theorem draw_tail {ops : Array Oper} {m : Nat} (hok : DrawOk ops m) {Q : Exit → Act → World → Prop} : ∀ (fuel k : Nat) (listed : Array Bool) (a : Act) (w : World), m ≤ k → k + fuel = ops.size → listed.size = ops.size → Upto listed k → wpList P ops Q (ops.toList.drop k) a w → wpAny P .any ops Q fuel listed a w := by
  have only : ∀ k (listed : Array Bool), m ≤ k → listed.size = ops.size → Upto listed k → ∀ i, i ∈ Region.ready .any ops listed → i = k := by
    intro k listed hmk hls hup i hi
    obtain ⟨o, ho, hl, he⟩ := (ready_mem hls).1 hi
    have hin : i < ops.size := (Array.getElem?_eq_some_iff.1 ho).1
    have hik : ¬ i < k := by
      intro h
      rw [hup i (by omega)] at hl
      simp [h] at hl
    have hcl : ∀ j o', ops[j]? = some o' → Lst listed j → ∀ x ∈ edges o', Lst listed x := by
      intro j o' hj hlj x hx
      have hjn : j < ops.size := (Array.getElem?_eq_some_iff.1 hj).1
      have := hok.lt j o' hj x hx
      have hjk := (upto_lst hup (by omega)).1 hlj
      exact (upto_lst hup (by omega)).2 (by omega)
    have hall := masks_listed hok.lt hcl i o ho he
    rw [hok.msk i hin (by omega)] at hall
    by_cases hlt : k < i
    · have := hall k (by rw [Nat.testBit_two_pow_sub_one]; simpa using hlt)
      have := (upto_lst hup (by omega)).1 this
      omega
    · omega
  intro fuel
  induction fuel with
  | zero =>
    intro k listed a w hmk hk hls hup h
    rw [List.drop_of_length_le (by simp; omega)] at h
    refine ⟨?_, h⟩
    refine List.eq_nil_iff_forall_not_mem.2 (fun i hi => ?_)
    have := only k listed hmk hls hup i hi
    obtain ⟨o, ho, _, _⟩ := (ready_mem hls).1 hi
    have := (Array.getElem?_eq_some_iff.1 ho).1
    omega
  | succ fuel ih =>
    intro k listed a w hmk hk hls hup h
    have hkn : k < ops.size := by omega
    have hok' : ops[k]? = some ops[k] := Array.getElem?_eq_getElem hkn
    have hmem : k ∈ Region.ready .any ops listed := by
      refine (ready_mem hls).2 ⟨ops[k], hok', by rw [hup k (by omega)]; simp, fun j hj => ?_⟩
      have := hok.lt k _ hok' j hj
      exact (upto_lst hup (by omega)).2 this
    refine ⟨fun hnil => (by rw [hnil] at hmem; cases hmem), fun i hi => ?_⟩
    have hik := only k listed hmk hls hup i hi
    subst hik
    have hup' : Upto (listed.setIfInBounds i true) (i + 1) := by
      intro j hj
      rw [Array.size_setIfInBounds] at hj
      rw [Array.getElem?_setIfInBounds]
      by_cases hij : i = j
      · subst hij; simp [hj]
      · rw [if_neg hij, hup j hj]
        congr 1
        simp only [decide_eq_decide]
        omega
    have hK : ∀ a w, wpList P ops Q (ops.toList.drop (i + 1)) a w → wpAny P .any ops Q fuel (listed.setIfInBounds i true) a w := fun a w h => ih (i + 1) _ a w (by omega) (by omega) (by simpa using hls) hup' h
    rw [List.drop_eq_getElem_cons (by simpa using hkn)] at h
    have hget : ops.toList[i]'(by simpa using hkn) = ops[i] := by simp
    rw [hget] at h
    unfold wpList at h
    unfold wpOp
    simp only [hok']
    split
    · rename_i hw
      rw [if_pos hw] at h
      exact h.imp (Oper.wp_mono hK) id
    · rename_i hw
      rw [if_neg hw] at h
      exact hK _ _ h

/-! ### The whole -/
theorem count_set {listed : Array Bool} {i : Nat} (h : listed[i]? = some false) : (listed.setIfInBounds i true).toList.count false + 1 = listed.toList.count false := by
  have hi := (Array.getElem?_eq_some_iff.1 h).1
  have : ∀ (l : List Bool) (i : Nat), l[i]? = some false → (l.set i true).count false + 1 = l.count false := by
    intro l
    induction l with
    | nil => intro i h; simp at h
    | cons b l ih =>
      intro i h
      cases i with
      | zero => simp at h; subst h; simp [List.count_cons]
      | succ i =>
        simp at h
        simp only [List.set_cons_succ, List.count_cons]
        have := ih i h
        omega
  rw [Array.toList_setIfInBounds]
  exact this _ _ (by simpa using h)

theorem draw_fin {ops : Array Oper} {m : Nat} {σ σ' : St} {vs : List AVal} (hok : DrawOk ops m) (hs : DSteps P β ops (ops.toList.take m) σ vs σ') {listed : Array Bool} {a : Act} {w : World} (hall : ∀ i, i < m → Lst listed i) (hI : DInv P β ops m σ vs listed a w) : ∃ F ρ, Rel P β F ρ σ' a w := by
  have hlen : (ops.toList.take m).length = m := by rw [List.length_take, Array.length_toList]; have := hok.le; omega
  have hget : ∀ j, j < m → (ops.toList.take m)[j]? = ops[j]? := fun j hj => by rw [List.getElem?_take, if_pos hj]; simp
  obtain ⟨σm, h1, h2, h3, _, h5⟩ := hs.at_ hok.nd m (by omega)
  have h5 := h5 (by omega)
  subst h5
  obtain ⟨⟨F, ρ, hr, ht1, ht2⟩, hdf, hnn⟩ := hI
  refine ⟨F, ρ, by rw [h1]; exact hr, fun t => ?_, hdf, hnn⟩
  rw [h1]
  by_cases hex : ∃ j, j < m ∧ (ops[j]?).bind (·.dst) = some t
  · obtain ⟨j, hj, hjd⟩ := hex
    have hjs : j < ops.size := by have := hok.le; omega
    obtain ⟨_, _, _, _, h4', _⟩ := hs.at_ hok.nd j (by omega)
    obtain ⟨_, cj, _, _, hcj, _⟩ := h4' ops[j] (by rw [hget j hj]; exact Array.getElem?_eq_getElem hjs)
    rw [h3 j t cj hj (by rw [hget j hj]; exact hjd) hcj]
    exact ht2 j t cj hj (hall j hj) hjd hcj
  · rw [h2 t (fun j d' hj hb e => hex ⟨j, hj, by subst e; rw [hget j hj] at hb; exact hb⟩)]
    exact ht1 t (fun j d' hj _ hb e => hex ⟨j, hj, by subst e; exact hb⟩)

theorem draw_all {ops : Array Oper} {m : Nat} {σ σ' : St} {vs : List AVal} (hok : DrawOk ops m) (hs : DSteps P β ops (ops.toList.take m) σ vs σ') {Q : Exit → St → Prop} (htail : TL P β ops Q (ops.toList.drop m) σ') :
    ∀ (fuel : Nat) (listed : Array Bool) (a : Act) (w : World), listed.size = ops.size → listed.toList.count false = fuel → (∀ i o, ops[i]? = some o → Lst listed i → ∀ j ∈ edges o, Lst listed j) → (∀ i, m ≤ i → i < ops.size → listed[i]? = some false) →
      DInv P β ops m σ vs listed a w → wpAny P .any ops (Lift P β Q) fuel listed a w := by
  have hlen : (ops.toList.take m).length = m := by rw [List.length_take, Array.length_toList]; have := hok.le; omega
  have hget : ∀ j, j < m → (ops.toList.take m)[j]? = ops[j]? := fun j hj => by rw [List.getElem?_take, if_pos hj]; simp
  intro fuel
  induction fuel with
  | zero =>
    intro listed a w hls hcnt hcl hhi hI
    have hmn : m = ops.size := by
      by_cases h : m < ops.size
      · have := hhi m (Nat.le_refl _) h
        have h2 := count_set this
        omega
      · have := hok.le; omega
    have hall : ∀ i, i < ops.size → Lst listed i := by
      intro i hi
      unfold Lst
      cases hq : listed[i]? with
      | none => rw [Array.getElem?_eq_none_iff] at hq; omega
      | some b =>
        cases b with
        | true => rfl
        | false => have := count_set hq; omega
    have hup : Upto listed m := fun i hi => by rw [hall i (by omega)]; simp; omega
    obtain ⟨F, ρ, hrel⟩ := draw_fin hok hs (fun i hi => hall i (by omega)) hI
    exact draw_tail (m := m) hok 0 m listed a w (Nat.le_refl _) (by omega) hls hup (htail F ρ a w hrel)
  | succ fuel ih =>
    intro listed a w hls hcnt hcl hhi hI
    by_cases hex : ∃ i, i < m ∧ listed[i]? = some false
    · have hle := hok.le
      -- the least one that is not done is ready
      have hleast : ∃ i, i < m ∧ listed[i]? = some false ∧ ∀ j, j < i → Lst listed j := by
        obtain ⟨i, hi, hf⟩ := hex
        induction i using Nat.strongRecOn with
        | _ i ih2 =>
          by_cases h : ∃ j, j < i ∧ listed[j]? = some false
          · obtain ⟨j, hj, hjf⟩ := h
            exact ih2 j hj (by omega) hjf
          · refine ⟨i, hi, hf, fun j hj => ?_⟩
            unfold Lst
            cases hq : listed[j]? with
            | none => rw [Array.getElem?_eq_none_iff] at hq; omega
            | some b =>
              cases b with
              | true => rfl
              | false => exact absurd ⟨j, hj, hq⟩ h
      obtain ⟨i0, hi0, hf0, hlow⟩ := hleast
      have ho0 : ops[i0]? = some (ops[i0]'(by omega)) := Array.getElem?_eq_getElem (by omega)
      have hmem0 : i0 ∈ Region.ready .any ops listed := (ready_mem hls).2 ⟨_, ho0, hf0, fun j hj => hlow j (hok.lt i0 _ ho0 j hj)⟩
      refine ⟨fun hnil => (by rw [hnil] at hmem0; cases hmem0), fun i hi => ?_⟩
      obtain ⟨o, ho, hl, he⟩ := (ready_mem hls).1 hi
      have hin : i < ops.size := (Array.getElem?_eq_some_iff.1 ho).1
      by_cases him : i < m
      · refine draw_step hok hs hls him ho he hI (fun a' w' hI' => ih _ a' w' (by simpa using hls) (by have := count_set hl; omega) ?_ ?_ hI')
        · intro j oj hj hlj x hx
          have hisz : i < listed.size := by omega
          refine (lst_set hisz).2 (.inr ?_)
          rcases (lst_set hisz).1 hlj with e | h
          · subst e; rw [ho] at hj; cases hj; exact he x hx
          · exact hcl j oj hj h x hx
        · intro j hmj hjn
          rw [Array.getElem?_setIfInBounds, if_neg (by omega)]
          exact hhi j hmj hjn
      · have hall := masks_listed hok.lt hcl i o ho he i0
        rw [hok.msk i hin (by omega), Nat.testBit_two_pow_sub_one] at hall
        have := hall (by simp; omega)
        unfold Lst at this
        rw [hf0] at this
        cases this
    · have hup : Upto listed m := by
        intro i hi
        by_cases him : i < m
        · cases hq : listed[i]? with
          | none => rw [Array.getElem?_eq_none_iff] at hq; omega
          | some b =>
            cases b with
            | true => simp [him]
            | false => exact absurd ⟨i, him, hq⟩ hex
        · rw [hhi i (by omega) (by omega)]; simp [him]
      have hfuel : ∀ (l : List Bool) (k : Nat), (∀ i, i < l.length → l[i]? = some (decide (i < k))) → l.count false = l.length - k := by
        intro l
        induction l with
        | nil => intro k _; simp
        | cons b l ih =>
          intro k h
          have h0 := h 0 (by simp)
          simp at h0
          cases k with
          | zero =>
            have := ih 0 (fun i hi => by have := h (i + 1) (by simpa using hi); simpa using this)
            simp [h0, List.count_cons, this]
          | succ k =>
            have := ih k (fun i hi => by have := h (i + 1) (by simpa using hi); simpa using this)
            simp [h0, List.count_cons, this]
      have hc := hfuel listed.toList m (fun i hi => by have := hup i (by simpa using hi); simpa using this)
      rw [hcnt, Array.length_toList, hls] at hc
      have hle := hok.le
      have hall : ∀ i, i < m → Lst listed i := fun i hi => (upto_lst hup (by omega)).2 hi
      obtain ⟨F, ρ, hrel⟩ := draw_fin hok hs hall hI
      exact draw_tail (m := m) hok (fuel + 1) m listed a w (Nat.le_refl _) (by omega) hls hup (htail F ρ a w hrel)

theorem T_draw {id : Nat} {ops : List Oper} {Q : Exit → St → Prop} {σ : St} (m : Nat) (hm : P.follows .mixedOrders = true) (hok : drawOk ops.toArray m = true) (h : DGo P β ops.toArray Q (ops.drop m) (ops.take m) σ) : T P β (.region id ops.toArray true) Q σ := by
  intro F ρ a w hr
  obtain ⟨vs, σ', hs, htail⟩ := h
  refine wp_region_any hm ?_
  have hr' : Rel P β F ρ σ a { w with drawn := w.drawn + 1 } := hr.drew
  refine draw_all (m := m) (drawOk_spec hok) (σ' := σ') (vs := vs) (σ := σ) (by simpa using hs) (by simpa using htail) _ _ _ _ (by simp) (by simp) ?_ ?_ ?_
  · intro i o ho hl
    unfold Lst at hl
    rw [Array.getElem?_replicate] at hl
    split at hl <;> cases hl
  · intro i _ hi
    rw [Array.getElem?_replicate, if_pos hi]
  · refine ⟨⟨F, ρ, hr'.h, fun t _ => hr'.tm t, fun j d c _ hl => ?_⟩, hr'.df, hr'.nn⟩
    unfold Lst at hl
    rw [Array.getElem?_replicate] at hl
    split at hl <;> cases hl

end Go.Q
