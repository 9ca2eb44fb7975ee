/- Maps that are cloned, handed on and lent; function values that call themselves. No condition. -/
import Derived.Test.YtkfcpnaiimcjeaaQStr
import Derived.Test.YtkfcpnaiimcjeaaQSet
set_option linter.unusedVariables false
set_option linter.unusedSimpArgs false
namespace Go.Q
open Go.RowKit
variable {P : Program} {β : Base}

/-- A clone of a map that stays: a map of this call's own. -/
theorem s_cloneMap {σ : St} {o : Oper} {x : Operand} {ats : Array TypeId} {f : FuncId} {dst id : Nat} {ks vs : List D} (ho : o.op = .call { callee := .value (.func f), args := #[x], argTypes := ats }) (hd : o.dst = some dst) (hdn : Nat.blt dst β.n = true) (hx : aev σ x = .d (.mp ks vs)) (hfn : FunOk P f)
    (hc : ∀ (w : World) (b : Nat) (es : Array MapEntry) (c : Nat), w.heap[b]? = some (.map es c) → Calls P f #[.map (some b)] w fun e w' => e = .returned (.map (some w.heap.size)) ∧ w' = w.alloc (.map es c)) (hx0 : β.fx id = false) (h1 : NoRefE id σ.env) (h2 : NoRefH id σ.H) : SStep P β σ o ((σ.setH id (.map ks vs)).put dst (.mp id)) := by
  intro F ρ a w hr
  have e1 := hr.ev x
  rw [hx] at e1
  generalize hv : a.eval x = v at e1
  cases e1 with
  | d _ _ e1 =>
  cases e1 with
  | mp _ _ b es c hb hF hk hvl g1 g2 =>
  unfold goes
  rw [run_call (caps := #[]) (f := f) ho rfl hfn]
  simp only [List.map_toArray, List.map_cons, List.map_nil, hv, Array.append_empty]
  refine Calls.mono (hc w b es c hb) ?_
  rintro e w' ⟨rfl, rfl⟩
  refine ⟨_, rfl, ?_⟩
  rw [hd]
  have hkp : Kept noM w F (w.alloc (.map es c)) F := kept_alloc _
  have hg := hr.grow hkp (wf_alloc hr.h.wf _)
  have hE := hkp.ext hr.h.wf
  have hρ : ∀ i, i ≠ id → (ρ.setBlk id w.heap.size).blk i = ρ.blk i ∧ (ρ.setBlk id w.heap.size).hd i = ρ.hd i := fun i hi => ⟨upd_ne _ _ hi, rfl⟩
  have hnew := hg.setObj (obj := .map ks vs) hρ h1 h2 ⟨⟨es, c, by simp only [Gh.setBlk, upd_same]; exact heap_alloc_new w _, hk, hvl, fun i d e hd he => (g1 i d e hd he).mono hE (fun _ => Nat.le_refl _), fun i d e hd he => (g2 i d e hd he).mono hE (fun _ => Nat.le_refl _)⟩, .inl (by simp only [Gh.setBlk, upd_same]; exact hr.h.kept.size), by simp only [Gh.setBlk, upd_same]; exact hr.h.wf _ (Nat.le_refl _)⟩ (by
    intro i b hi h3 h4
    simp only [blkOf, Gh.setBlk, upd_same, Option.some.injEq] at h4
    subst h4
    have := (hr.h.ob i).lt h3
    omega) (fun h => by rw [hx0] at h; cases h)
  refine ⟨F, _, hnew.put (lt_of_blt hdn) ?_⟩
  have := AVR.mp (P := P) (β := β) (F := F) (ρ := ρ.setBlk id w.heap.size) (H := (σ.setH id (.map ks vs)).H) (w := w.alloc (.map es c)) id
  simpa [Gh.setBlk, upd_same] using this

/-- A map of this call's own that is written no more. -/
theorem TL_freezeMapT (t id : Nat) {ops : Array Oper} {rest : List Oper} {Q : Exit → St → Prop} {σ : St} {ks vs : List D} (ht : σ.env t = .mp id) (hH : σ.H id = .map ks vs) (h : TL P β ops Q rest ((σ.setH id .dead).put t (.d (.mp ks vs)))) : TL P β ops Q rest σ := by
  intro F ρ a w hr
  obtain ⟨F', hr', hv⟩ := hr.freezeMap hH
  refine h F' ρ a w ⟨hr'.h, fun i => ?_, hr'.df, hr'.nn⟩
  by_cases hi : i = t
  · subst hi
    simp only [St.put, upd_same]
    have h1 := hr.tm i
    rw [ht] at h1
    generalize a.tmps.getD i undef = v at h1
    cases h1
    exact .d _ _ hv
  · simp only [St.put, upd_ne _ _ hi]
    exact hr'.tm i

/-- A new key in a map of this call's own. -/
theorem putV_new {κ : Type} [DecidableEq κ] : ∀ {ks : List κ} {vs : List D} {k : κ} {d : D}, k ∉ ks → vs.length = ks.length → putV ks vs k d = vs ++ [d]
  | [], [], k, d, _, _ => rfl
  | [], v :: vs, k, d, _, h => by simp at h
  | a :: ks, [], k, d, _, h => by simp at h
  | a :: ks, v :: vs, k, d, hk, h => by
    have h1 : ¬ a = k := fun e => hk (by rw [e]; exact List.mem_cons_self)
    rw [putV, if_neg h1, putV_new (fun hm => hk (List.mem_cons_of_mem _ hm)) (by simpa using h)]; rfl
theorem s_mapNew {σ : St} {o : Oper} {t key elem id : Nat} {x y z : Operand} {ks : List Bs} {vs : List D} {k : Bs} {d : D} (ho : o.op = .mapUpdate t x y z) (hd : o.dst = none) (hx : aev σ x = .mp id) (hy : aev σ y = .d (.s (str k))) (hz : Rd σ.H (aev σ z) d) (hH : σ.H id = .map (ks.map fun k => D.s (str k)) vs)
    (hK : KeyT P t key elem str) (hk : k ∉ ks) (hl : vs.length = ks.length) : SStep P β σ o (σ.setH id (.map ((ks ++ [k]).map fun k => D.s (str k)) (vs ++ [d]))) := by
  have h1 : putK ks k = ks ++ [k] := by rw [putK, if_neg hk]
  have h2 : putV ks vs k d = vs ++ [d] := putV_new hk hl
  rw [← h1, ← h2]
  exact s_mapUpdate ho hd hx hy hz hH hK

/-- A call of a function value that is read out of a variable. -/
theorem g_callS {H : Nat → Obj} {o : Oper} {ev : Operand → AVal} {fo : Operand} {xs : Array Operand} {ats : Array TypeId} {v : Value} {p : List D → List D → Prop} {ds rs : List D} {r : AVal}
    (ho : o.op = .call { callee := .value fo, args := xs, argTypes := ats }) (hf : ev fo = .d (.s v)) (hok : FnOk P β.w0 β.F0 v p) (hp : p ds rs) (ha : RdL H (xs.toList.map ev) ds) (hr' : IsA (resA rs) r) : GStep P β H o ev r := by
  rw [← hr'.eq]
  intro F ρ w hr evc he K hK
  have h1 := he fo (by simp [ho, Op.operands, Call.operands])
  rw [hf] at h1
  have hv : evc fo = v := h1.s_inv
  obtain ⟨f, caps, rfl, hfn, h4⟩ := hok
  unfold goes
  rw [run_call ho hv hfn]
  have := h4 w F (hr.kept.ext hr.wf0) (hr.kept.le hr.wf0) hr.wf ds rs (xs.toList.map evc) hp (by rw [← ha.length, List.length_map, List.length_map]) (fun i d v h2 h3 => ?_)
  · rw [show (xs.toList.map evc ++ caps).toArray = xs.map evc ++ caps.toArray from by simp] at this
    refine Calls.mono this ?_
    rintro e w' ⟨v, F', ds', rfl, rfl, k, hw, hres⟩
    exact ⟨v, rfl, hK v w' F' k hw (resA_rel hres)⟩
  · have hi := (List.getElem?_eq_some_iff.1 h2).1
    rw [← ha.length] at hi
    have hci : (xs.toList.map ev)[i]? = some (xs.toList.map ev)[i] := List.getElem?_eq_getElem hi
    refine (ha.get i _ d hci h2).sound hr (v := v) ?_
    generalize (xs.toList.map ev)[i] = q at hci
    rw [List.getElem?_map] at hci h3
    cases hx : xs.toList[i]? with
    | none => rw [hx] at hci; cases hci
    | some x =>
      rw [hx] at hci h3
      cases hci
      cases h3
      exact he x (by simp [ho, Op.operands, Call.operands]; exact .inr (Array.mem_def.2 (List.mem_of_getElem? hx)))

/-- A variable of one cell that is written no more, whatever it holds. -/
theorem Rel.freezeCell {F : Fz} {ρ : Gh} {σ : St} {a : Act} {w : World} (h : Rel P β F ρ σ a w) {id : Nat} {c : AVal} (hH : σ.H id = .box [c]) : ∃ F' v, Rel P β F' ρ (σ.setH id .dead) a w ∧ AVR P β F ρ σ.H w c v ∧ (∀ b, F b ≤ F' b) ∧ VR F' w (.pt [.s v] 0) (.pointer (some ⟨ρ.blk id, 0, none⟩)) := by
  have hob := h.h.ob id
  rw [hH] at hob
  obtain ⟨⟨vs, e, g1, g2, g3, g4⟩, g5, g6⟩ := hob
  have g2 : vs.size = 1 := by simpa using g2
  have hk : F (ρ.blk id) ≤ 1 := by omega
  have hv0 : vs[0]? = some (vs[0]'(by omega)) := Array.getElem?_eq_getElem (by omega)
  have hav := g4 0 c _ rfl hv0
  have hone := hav.oneCell (g3 c (by simp))
  refine ⟨upd F (ρ.blk id) 1, vs[0]'(by omega), h.drop (by rw [hH]; rfl) rfl hk, hav, le_upd hk, ?_⟩
  have hr := rangeAt_of_array g1 0 1
  have hvs : (vs.toList.drop 0).take 1 = [vs[0]'(by omega)] := by
    apply List.ext_getElem?
    intro i
    cases i with
    | zero => simp [g2]
    | succ i => simp; omega
  rw [hvs] at hr
  have := VR.pt (F := upd F (ρ.blk id) 1) (w := w) [.s (vs[0]'(by omega))] 0 (ρ.blk id) 0 [vs[0]'(by omega)] (by simp [D.isCell]) hr rfl (by rw [upd_same]; simp) (fun i d v hd hv => by
    cases i with
    | zero => simp at hd hv; subst hd; subst hv; exact .s _ hone
    | succ i => simp at hd)
  simpa using this

theorem Rel.freezeBox' {F : Fz} {ρ : Gh} {σ : St} {a : Act} {w : World} (h : Rel P β F ρ σ a w) {id : Nat} {cs : List AVal} {l : List D} (hH : σ.H id = .box cs) (hl : RdL σ.H cs l) : ∃ F', Rel P β F' ρ (σ.setH id .dead) a w ∧ (∀ b, F b ≤ F' b) ∧ ∀ off, VR F' w (.pt l off) (.pointer (some ⟨ρ.blk id, off, none⟩)) := by
  have hob := h.h.ob id
  rw [hH] at hob
  obtain ⟨⟨vs, e, g1, g2, g3, g4⟩, g5, g6⟩ := hob
  have hk : F (ρ.blk id) ≤ cs.length := by omega
  refine ⟨upd F (ρ.blk id) cs.length, h.drop (by rw [hH]; rfl) rfl hk, le_upd hk, fun off => ?_⟩
  have hlen := hl.length
  have hr := rangeAt_of_array g1 0 cs.length
  have := VR.pt (F := upd F (ρ.blk id) cs.length) (w := w) l off (ρ.blk id) 0 ((vs.toList.drop 0).take cs.length) (fun d hd => ?_) hr (by simp; omega) (by rw [upd_same]; simp; omega) (fun i d v hd hv => ?_)
  · simpa using this
  · obtain ⟨i, hi⟩ := List.getElem?_of_mem hd
    have hil := (List.getElem?_eq_some_iff.1 hi).1
    have hil2 : i < cs.length := by omega
    have hci : cs[i]? = some cs[i] := List.getElem?_eq_getElem hil2
    exact (hl.get i _ d hci hi).isCell (g3 _ (List.mem_of_getElem? hci))
  · have hil := (List.getElem?_eq_some_iff.1 hd).1
    have hil2 : i < cs.length := by omega
    have hci : cs[i]? = some cs[i] := List.getElem?_eq_getElem hil2
    rw [List.drop_zero, List.getElem?_take, if_pos hil2] at hv
    exact (((hl.get i _ d hci hd).sound h.h (g4 i _ v hci (by simpa using hv)))).mono (Ext.refl F w) (le_upd hk)

theorem AVR.box_inv {F : Fz} {ρ : Gh} {H : Nat → Obj} {w : World} {id off : Nat} {v : Value} (h : AVR P β F ρ H w (.box id off) v) : v = .pointer (some ⟨ρ.blk id, off, none⟩) := by cases h; rfl
theorem AVR.clo3 {F : Fz} {ρ : Gh} {H : Nat → Obj} {w : World} {f : FuncId} {A B C : Nat} {v : Value} (h : AVR P β F ρ H w (.clo f [.box A 0, .box B 0, .box C 0]) v) :
    v = .func (.func f) #[] #[.pointer (some ⟨ρ.blk A, 0, none⟩), .pointer (some ⟨ρ.blk B, 0, none⟩), .pointer (some ⟨ρ.blk C, 0, none⟩)] := by
  cases h with
  | clo _ _ vs hl h =>
    match vs, hl with
    | [x, y, z], _ =>
      have h0 := (h 0 _ x rfl rfl).box_inv
      have h1 := (h 1 _ y rfl rfl).box_inv
      have h2 := (h 2 _ z rfl rfl).box_inv
      subst h0; subst h1; subst h2; rfl

/-- A function value that holds two variables and the one that it lies in itself: from here on it answers as p. -/
theorem TL_rec (t ta A B C : Nat) {f : FuncId} {ops : Array Oper} {rest : List Oper} {Q : Exit → St → Prop} {σ : St} {ca cb : List AVal} {la lb : List D} (p : List D → List D → Prop)
    (ht : σ.env t = .clo f [.box A 0, .box B 0, .box C 0]) (hta : σ.env ta = .box A 0) (hne : t ≠ ta) (hA : σ.H A = .box ca) (hB : σ.H B = .box cb) (hC : σ.H C = .box [.clo f [.box A 0, .box B 0, .box C 0]]) (hAB : A ≠ B) (hAC : A ≠ C) (hBC : B ≠ C)
    (hla : RdL σ.H ca la) (hlb : RdL (σ.setH A .dead).H cb lb)
    (hp : ∀ (w : World) (F : Fz) (v pa pb pc : Value), WF F w → VR F w (.pt la 0) pa → VR F w (.pt lb 0) pb → VR F w (.pt [.s v] 0) pc → v = .func (.func f) #[] #[pa, pb, pc] → FnOk P w F v p)
    (h : TL P β ops Q rest (((((σ.setH A .dead).setH B .dead).setH C .dead).put ta (.d (.pt la 0))).put t (.fnv p))) : TL P β ops Q rest σ := by
  intro F ρ a w hr
  obtain ⟨F1, hr1, hle1, hv1⟩ := hr.freezeBox' hA hla
  have hB1 : (σ.setH A .dead).H B = .box cb := by simp only [St.setH, upd_ne _ _ hAB.symm]; exact hB
  obtain ⟨F2, hr2, hle2, hv2⟩ := hr1.freezeBox' hB1 hlb
  have hC2 : ((σ.setH A .dead).setH B .dead).H C = .box [.clo f [.box A 0, .box B 0, .box C 0]] := by
    simp only [St.setH, upd_ne _ _ hBC.symm, upd_ne _ _ hAC.symm]; exact hC
  obtain ⟨F3, fv, hr3, hav, hle3, hv3⟩ := hr2.freezeCell hC2
  have hfv := hav.clo3
  have h1 := (hv1 0).mono (Ext.refl F1 w) (fun b => Nat.le_trans (hle2 b) (hle3 b))
  have h2 := (hv2 0).mono (Ext.refl F2 w) hle3
  have hok := hp w F3 fv _ _ _ hr3.h.wf h1 h2 hv3 hfv
  have ht' := hr.tm t
  rw [ht] at ht'
  have ht2 := ht'.clo3
  have hta' := hr.tm ta
  rw [hta] at hta'
  have hta2 := hta'.box_inv
  refine h F3 ρ a w ⟨hr3.h, fun i => ?_, hr3.df, hr3.nn⟩
  by_cases hi : i = t
  · subst hi
    simp only [St.put, upd_same]
    rw [ht2, ← hfv]
    exact .fnv p fv (by rw [hfv]; rfl) hok
  · by_cases hi2 : i = ta
    · subst hi2
      simp only [St.put, upd_ne _ _ hi, upd_same]
      rw [hta2]
      exact .d _ _ h1
    · simp only [St.put, upd_ne _ _ hi, upd_ne _ _ hi2]
      exact hr3.tm i
end Go.Q
