/- The rules of a program logic over abstract states, twelfth part: maps made and written, values built, what is frozen for good. No condition. -/
import Derived.Test.YtkfcpnaiimcjeaaDoorQMaps
import Derived.Great.BuildSlice
set_option linter.unusedVariables false
set_option linter.unusedSimpArgs false
namespace Go.Q
open Go.RowKit
variable {P : Program} {β : Base}

/-! ### A new map -/
theorem s_makeMap {σ : St} {o : Oper} {t dst id : Nat} (ho : o.op = .makeMap t none) (hd : o.dst = some dst) (hdn : Nat.blt dst β.n = true) (hx0 : β.fx id = false) (h1 : NoRefE id σ.env) (h2 : NoRefH id σ.H) : SStep P β σ o ((σ.setH id (.map [] [])).put dst (.mp id)) := by
  intro F ρ a w hr
  have hrun : (execOp a.eval o).run P w = .ok (.value (.map (some w.heap.size))) (w.alloc (.map #[] 0)) := by
    simp [execOp, ho, Instr.makeMap, newObj, Sem.run]
  unfold goes
  rw [hrun, hd]
  have hk : Kept noM w F (w.alloc (.map #[] 0)) F := kept_alloc _
  have hg := hr.grow hk (wf_alloc hr.h.wf _)
  have hρ : ∀ i, i ≠ id → (ρ.setBlk id w.heap.size).blk i = ρ.blk i ∧ (ρ.setBlk id w.heap.size).hd i = ρ.hd i := fun i hi => ⟨upd_ne _ _ hi, rfl⟩
  have hnew := hg.setObj (obj := .map [] []) hρ h1 h2 ⟨⟨#[], 0, by simp only [Gh.setBlk, upd_same]; exact heap_alloc_new w _, rfl, rfl, by simp, by simp⟩, .inl (by simp only [Gh.setBlk, upd_same]; exact hr.h.kept.size), by simp only [Gh.setBlk, upd_same]; exact hr.h.wf _ (Nat.le_refl _)⟩ (by
    intro i b hi h3 h4
    simp only [blkOf, Gh.setBlk, upd_same, Option.some.injEq] at h4
    subst h4
    have := (hr.h.ob i).lt h3
    omega) (fun h => by rw [hx0] at h; cases h)
  refine ⟨F, _, hnew.put (lt_of_blt hdn) ?_⟩
  have := AVR.mp (P := P) (β := β) (F := F) (ρ := ρ.setBlk id w.heap.size) (H := (σ.setH id (.map [] [])).H) (w := w.alloc (.map #[] 0)) id
  simpa [Gh.setBlk, upd_same] using this

/-! ### A store into a map -/
theorem ext_map {F : Fz} {w : World} {g : Nat} {o : Go.Obj} (hF : F g = 0) : Ext F w { w with heap := w.heap.setIfInBounds g o } := by
  have hoth : ∀ b, b ≠ g → (w.heap.setIfInBounds g o)[b]? = w.heap[b]? := fun b hb => by rw [Array.getElem?_setIfInBounds, if_neg (fun e => hb e.symm)]
  constructor
  · intro b k hk
    have hb : b ≠ g := by rintro rfl; omega
    exact cell_of_blk (hoth b hb) k
  · intro b hk
    have hb : b ≠ g := by rintro rfl; omega
    exact fr_of_blk (hoth b hb)
  · intro b es c hk hm
    have hb : b ≠ g := by rintro rfl; omega
    exact (hoth b hb).trans hm

theorem Rel.writeMap {F : Fz} {ρ : Gh} {σ : St} {a : Act} {w : World} (h : Rel P β F ρ σ a w) {id : Nat} {ks vs ks' vs' : List D} (hH : σ.H id = .map ks vs) {es' : Array MapEntry} {c' : Nat} (hk : ks'.length = es'.size) (hv : vs'.length = es'.size)
    (h1 : ∀ (i : Nat) (d : D) (e : MapEntry), ks'[i]? = some d → es'[i]? = some e → VR F w d e.key) (h2 : ∀ (i : Nat) (d : D) (e : MapEntry), vs'[i]? = some d → es'[i]? = some e → VR F w d e.val) :
    Rel P β F ρ (σ.setH id (.map ks' vs')) a { w with heap := w.heap.setIfInBounds (ρ.blk id) (.map es' c') } := by
  have hob := h.h.ob id
  rw [hH] at hob
  obtain ⟨⟨es, c, g1, g2, g3, g4, g5⟩, g6, g7⟩ := hob
  have hlt := (Array.getElem?_eq_some_iff.1 g1).1
  have hE := ext_map (w := w) (o := .map es' c') g7
  have hoth : ∀ b, b ≠ ρ.blk id → (w.heap.setIfInBounds (ρ.blk id) (.map es' c'))[b]? = w.heap[b]? := fun b hb => by rw [Array.getElem?_setIfInBounds, if_neg (fun e => hb e.symm)]
  have hsame : (w.heap.setIfInBounds (ρ.blk id) (Go.Obj.map es' c'))[ρ.blk id]? = some (.map es' c') := by simp [hlt]
  have htr : ∀ c v, AVR P β F ρ σ.H w c v → AVR P β F ρ (upd σ.H id (.map ks' vs')) { w with heap := w.heap.setIfInBounds (ρ.blk id) (.map es' c') } c v := by
    intro c v hcv
    refine AVR.congrH (fun i mu sz e l hi => ?_) (hcv.grow hE (fun _ => Nat.le_refl _))
    by_cases hid : i = id
    · subst hid; rw [upd_same] at hi; cases hi
    · rwa [upd_ne _ _ hid] at hi
  refine ⟨⟨fun i => ?_, fun i j b hne e1 e2 => ?_, fun b hb => h.h.wf b (by simpa using hb), h.h.wf0, ?_, h.h.fx⟩, fun i => htr _ _ (h.tm i), h.df, h.nn⟩
  · by_cases hi : i = id
    · subst hi
      simp only [St.setH, upd_same]
      exact ⟨⟨es', c', hsame, hk, hv, fun i d e hd he => (h1 i d e hd he).mono hE (fun _ => Nat.le_refl _), fun i d e hd he => (h2 i d e hd he).mono hE (fun _ => Nat.le_refl _)⟩, g6, g7⟩
    · simp only [St.setH, upd_ne _ _ hi]
      refine (h.h.ob i).move htr (fun d v hd => hd.mono hE (fun _ => Nat.le_refl _)) ⟨rfl, rfl⟩ (fun b hb => ?_)
      have hne : b ≠ ρ.blk id := by rintro rfl; exact h.h.dj i id _ hi hb (by rw [hH]; rfl)
      exact ⟨hoth b hne, rfl⟩
  · simp only [St.setH] at e1 e2
    have hbl : blkOf ρ id (.map ks' vs') = blkOf ρ id (σ.H id) := by rw [hH]; rfl
    by_cases hi : i = id
    · subst hi
      have hj : j ≠ i := fun e => hne e.symm
      rw [upd_same, hbl] at e1
      rw [upd_ne _ _ hj] at e2
      exact h.h.dj i j b hne e1 e2
    · rw [upd_ne _ _ hi] at e1
      by_cases hj : j = id
      · subst hj
        rw [upd_same, hbl] at e2
        exact h.h.dj i j b hne e1 e2
      · rw [upd_ne _ _ hj] at e2
        exact h.h.dj i j b hne e1 e2
  · have hk := h.h.kept
    refine ⟨hk.os, hk.tape, hk.output, by simpa using hk.size, fun b hb hM => ?_, fun b hb hM => ?_⟩
    · have hne : b ≠ ρ.blk id := by
        rintro rfl
        rcases g6 with h3 | h3
        · omega
        · exact hM h3
      exact ⟨(hoth b hne).trans (hk.blk b hb hM).1, (hk.blk b hb hM).2⟩
    · have h3 := hk.fz b hb hM
      by_cases hne : b = ρ.blk id
      · subst hne
        have h0 : β.F0 (ρ.blk id) = 0 := by omega
        refine ⟨h3.1, fun o ho => by omega, ?_, fun es c hp _ => by omega⟩
        rw [← h3.2.2.1]
        simp [fr?, hsame, g1]
      · have hs := hoth b hne
        exact ⟨h3.1, fun o ho => (cell_of_blk hs o).trans (h3.2.1 o ho), (fr_of_blk hs).trans h3.2.2.1, fun es c hp hm => hs.trans (h3.2.2.2 es c hp hm)⟩

theorem putV_length {κ : Type} [DecidableEq κ] (k : κ) (x : D) : ∀ (ks : List κ) (vs : List D), ks.length = vs.length → (putV ks vs k x).length = (putK ks k).length
  | [], [], _ => rfl
  | a :: ks, v :: vs, h => by
    have ih := putV_length k x ks vs (by simpa using h)
    unfold putK at ih ⊢
    by_cases hak : a = k
    · subst hak; simp [putV]; simpa using h.symm
    · have hka : ¬ k = a := fun e => hak e.symm
      simp only [putV, hak, if_false, List.length_cons, ih, List.mem_cons, hka, false_or]
      split <;> simp
  | [], _ :: _, h => by simp at h
  | _ :: _, [], h => by simp at h

theorem putV_notin {κ : Type} [DecidableEq κ] {k : κ} {x : D} : ∀ {ks : List κ} {vs : List D}, ks.length = vs.length → k ∉ ks → putV ks vs k x = vs ++ [x]
  | [], [], _, _ => rfl
  | a :: ks, v :: vs, h, hn => by
    simp only [List.mem_cons, not_or] at hn
    simp only [putV, if_neg (fun e => hn.1 (Eq.symm e)), putV_notin (by simpa using h) hn.2, List.cons_append]
  | [], _ :: _, h, _ => by simp at h
  | _ :: _, [], h, _ => by simp at h
theorem putV_in {κ : Type} [DecidableEq κ] {k : κ} {x : D} : ∀ {ks : List κ} {vs : List D} {j : Nat}, ks.length = vs.length → ks.findIdx? (fun x => decide (x = k)) = some j → putV ks vs k x = vs.set j x
  | [], [], j, _, h => by simp at h
  | a :: ks, v :: vs, j, h, hj => by
    rw [List.findIdx?_cons] at hj
    by_cases hak : a = k
    · simp only [hak, decide_true, if_true, Option.some.injEq] at hj
      subst hj
      simp [putV, hak]
    · simp only [hak, decide_false] at hj
      cases hq : ks.findIdx? (fun x => decide (x = k)) with
      | none => rw [hq] at hj; simp at hj
      | some i =>
        rw [hq] at hj
        simp at hj
        subst hj
        simp only [putV, if_neg hak, putV_in (by simpa using h) hq, List.set_cons_succ]
  | [], _ :: _, _, h, _ => by simp at h
  | _ :: _, [], _, h, _ => by simp at h

theorem s_mapUpdate {σ : St} {o : Oper} {κ : Type} [DecidableEq κ] {enc : κ → Value} {t key elem id : Nat} {x y z : Operand} {ks : List κ} {vs : List D} {k : κ} {d : D} (ho : o.op = .mapUpdate t x y z) (hd : o.dst = none) (hx : aev σ x = .mp id) (hy : aev σ y = .d (.s (enc k))) (hz : Rd σ.H (aev σ z) d) (hH : σ.H id = .map (ks.map fun k => D.s (enc k)) vs)
    (hK : KeyT P t key elem enc) : SStep P β σ o (σ.setH id (.map ((putK ks k).map fun k => D.s (enc k)) (putV ks vs k d))) := by
  intro F ρ a w hr
  have h1 := hr.ev x
  have h2 := hr.ev y
  have h3 := hz.sound hr.h (hr.ev z)
  rw [hx] at h1
  rw [hy] at h2
  have hob := hr.h.ob id
  rw [hH] at hob
  obtain ⟨⟨es, c, g1, g2, g3, g4, g5⟩, _, _⟩ := hob
  generalize hvx : a.eval x = vx at h1
  cases h1
  have hkeys := keys_of g2 g4
  have hkl : ks.length = es.size := by simpa using g2
  have hfk := run_findKey hK (w := w) k hkeys
  have hgo : (getObj (ρ.blk id)).run P w = .ok (.map es c) w := by simp [getObj, Sem.run, g1]
  have hset : ∀ es' c', (setObj (ρ.blk id) (.map es' c')).run P w = .ok () { w with heap := w.heap.setIfInBounds (ρ.blk id) (.map es' c') } := fun es' c' => by simp [setObj, Sem.run, g1]
  unfold goes
  cases hq : ks.findIdx? (fun x => decide (x = k)) with
  | none =>
    rw [hq] at hfk
    have hnot : k ∉ ks := by
      intro hm
      have := List.findIdx?_eq_none_iff.1 hq k hm
      simp at this
    have hrun : (execOp a.eval o).run P w = .ok .skip { w with heap := w.heap.setIfInBounds (ρ.blk id) (.map (es.push { key := enc k, val := a.eval z, born := c }) (c + 1)) } := by
      simp only [execOp, ho, hvx, h2.s_inv, Instr.mapUpdate, Sem.run_bind, run_underlying hK.hu, Result.andThen_ok, hgo, hK.ck, hfk, hset, Sem.run_pure]
    rw [hrun, hd]
    have hpv : putV ks vs k d = vs ++ [d] := putV_notin (by omega) hnot
    have hpk : putK ks k = ks ++ [k] := by simp [putK, hnot]
    refine ⟨F, ρ, ?_⟩
    have := hr.writeMap (id := id) (ks' := (putK ks k).map fun k => D.s (enc k)) (vs' := putV ks vs k d) (c' := c + 1) hH (es' := es.push { key := enc k, val := a.eval z, born := c }) (by rw [hpk]; simp [hkl]) (by rw [hpv]; simp [g3]) (fun i x e hi he => ?_) (fun i x e hi he => ?_)
    · simpa [Act.put] using this
    · rw [hpk, List.map_append, List.getElem?_append] at hi
      rw [Array.getElem?_push] at he
      split at hi
      · rename_i hlt
        rw [if_neg (by simp at hlt; omega)] at he
        exact g4 i x e hi he
      · rename_i hlt
        simp at hlt
        have hi0 : i - (ks.map fun k => D.s (enc k)).length = 0 := by
          have := (List.getElem?_eq_some_iff.1 hi).1
          simpa using this
        rw [hi0] at hi
        simp at hi hi0
        rw [if_pos (by omega)] at he
        cases he
        subst hi
        exact .s _ (hK.one k)
    · rw [hpv, List.getElem?_append] at hi
      rw [Array.getElem?_push] at he
      split at hi
      · rename_i hlt
        rw [if_neg (by omega)] at he
        exact g5 i x e hi he
      · rename_i hlt
        have hi0 : i - vs.length = 0 := by
          have := (List.getElem?_eq_some_iff.1 hi).1
          simpa using this
        rw [hi0] at hi
        simp at hi
        rw [if_pos (by omega)] at he
        cases he
        subst hi
        exact h3
  | some j =>
    rw [hq] at hfk
    have hj := (List.findIdx?_eq_some_iff_findIdx_eq.1 hq).1
    have hkj : ks[j]'(by omega) = k := by
      have := List.findIdx?_eq_some_iff_getElem.1 hq
      simpa using this.2.1
    have hin : k ∈ ks := by rw [← hkj]; exact List.getElem_mem _
    have hje : es.toList[j]? = some (es[j]'(by omega)) := by simp [show j < es.size by omega]
    have hje2 : es[j]? = some (es[j]'(by omega)) := Array.getElem?_eq_getElem (by omega)
    have hold : (es[j]'(by omega)).key = enc k := by
      have h5 := congrArg (fun l => l[j]?) hkeys
      simp only [List.getElem?_map, hje, Option.map_some] at h5
      rw [List.getElem?_eq_getElem (show j < ks.length by omega), hkj] at h5
      simpa using h5
    simp only [hje, Option.map_some] at hfk
    have hstay : ∀ w, (Instr.keyThatStays (enc k) (enc k)).run P w = .ok (enc k) w := fun w => by
      unfold Instr.keyThatStays
      rw [if_pos (hK.bits k)]
      rfl
    have hrun : (execOp a.eval o).run P w = .ok .skip { w with heap := w.heap.setIfInBounds (ρ.blk id) (.map (es.modify j fun e => { e with key := enc k, val := a.eval z }) c) } := by
      simp only [execOp, ho, hvx, h2.s_inv, Instr.mapUpdate, Sem.run_bind, run_underlying hK.hu, Result.andThen_ok, hgo, hK.ck, hfk, hje2, Option.map_some, Option.getD_some, hold, hstay, hset, Sem.run_pure]
    rw [hrun, hd]
    have hpv : putV ks vs k d = vs.set j d := putV_in (by omega) hq
    have hpk : putK ks k = ks := by simp [putK, hin]
    refine ⟨F, ρ, ?_⟩
    have := hr.writeMap (id := id) (ks' := (putK ks k).map fun k => D.s (enc k)) (vs' := putV ks vs k d) (c' := c) hH (es' := es.modify j fun e => { e with key := enc k, val := a.eval z }) (by rw [hpk]; simp [hkl]) (by rw [hpv]; simp [g3]) (fun i x e hi he => ?_) (fun i x e hi he => ?_)
    · simpa [Act.put] using this
    · rw [hpk] at hi
      rw [Array.getElem?_modify] at he
      split at he
      · rename_i hij
        subst hij
        rw [hje2] at he
        simp at he
        subst he
        have := g4 j x _ hi hje2
        rw [hold] at this
        exact this
      · exact g4 i x e hi he
    · rw [hpv, List.getElem?_set] at hi
      rw [Array.getElem?_modify] at he
      split at he
      · rename_i hij
        subst hij
        rw [if_pos rfl, if_pos (by omega)] at hi
        cases hi
        rw [hje2] at he
        simp at he
        subst he
        exact h3
      · rename_i hij
        rw [if_neg hij] at hi
        exact g5 i x e hi he

/-! ### What is frozen for good: a variable, a map -/
theorem Rel.drop {F F' : Fz} {ρ : Gh} {σ : St} {a : Act} {w : World} (h : Rel P β F ρ σ a w) {id g k : Nat} (hb : blkOf ρ id (σ.H id) = some g) (hF : F' = upd F g k) (hk : F g ≤ k) : Rel P β F' ρ (σ.setH id .dead) a w := by
  subst hF
  have hown : β.own g := by
    have hob := h.h.ob id
    cases hH : σ.H id with
    | dead => rw [hH] at hb; cases hb
    | box cs => rw [hH] at hob hb; cases hb; exact hob.2.1
    | arr mu sz e l => rw [hH] at hob hb; obtain ⟨_, _, _, _, _, _, h5⟩ := hob; exact (h5 g hb).1
    | map ks vs => rw [hH] at hob hb; cases hb; exact hob.2.1
  have hlt := (h.h.ob id).lt hb
  have hf : Fgt σ (σ.setH id .dead) := ⟨fun i => .inr rfl, fun i => by
    by_cases hi : i = id
    · subst hi; left; simp [St.setH, upd_same]
    · right; simp [St.setH, upd_ne _ _ hi]⟩
  have hr := h.fgt hf
  have hle := le_upd (F := F) (g := g) hk
  refine ⟨⟨fun i => ?_, hr.h.dj, fun b hb' => ?_, hr.h.wf0, ?_, hr.h.fx⟩, fun i => (hr.tm i).grow (Ext.refl F w) hle, hr.df, hr.nn⟩
  · refine (hr.h.ob i).keep (Ext.refl F w) hle (fun b hb' => ⟨rfl, upd_ne _ _ ?_⟩)
    rintro rfl
    by_cases hi : i = id
    · subst hi; simp [St.setH, upd_same, blkOf] at hb'
    · simp only [St.setH, upd_ne _ _ hi] at hb'
      exact h.h.dj i id b hi hb' hb
  · rw [upd_ne _ _ (by omega)]; exact hr.h.wf b hb'
  · have hkp := hr.h.kept
    refine ⟨hkp.os, hkp.tape, hkp.output, hkp.size, fun b hb' hM => ?_, fun b hb' hM => ?_⟩
    · have h6 := hkp.blk b hb' hM
      have hne : b ≠ g := by
        rintro rfl
        rcases hown with h7 | h7
        · omega
        · exact hM h7
      rw [upd_ne _ _ hne]; exact h6
    · have h6 := hkp.fz b hb' hM
      exact ⟨Nat.le_trans h6.1 (hle b), h6.2⟩

theorem T_env {c : Code} {Q : Exit → St → Prop} {σ : St} (e : Nat → AVal) (H : Nat → Obj) (he : e = σ.env) (hH : H = σ.H) (h : T P β c Q ⟨e, H⟩) : T P β c Q σ := by
  subst he; subst hH; exact h

/-- A variable that is written no more: its address is plain data from now on. -/
theorem Rel.freezeBox {F : Fz} {ρ : Gh} {σ : St} {a : Act} {w : World} (h : Rel P β F ρ σ a w) {id : Nat} {cs : List AVal} {l : List D} (hH : σ.H id = .box cs) (hl : RdL σ.H cs l) : ∃ F', Rel P β F' ρ (σ.setH id .dead) a w ∧ ∀ off, VR F' w (.pt l off) (.pointer (some ⟨ρ.blk id, off, none⟩)) := by
  have hob := h.h.ob id
  rw [hH] at hob
  obtain ⟨⟨vs, e, g1, g2, g3, g4⟩, g5, g6⟩ := hob
  have hk : F (ρ.blk id) ≤ cs.length := by omega
  refine ⟨upd F (ρ.blk id) cs.length, h.drop (by rw [hH]; rfl) rfl hk, fun off => ?_⟩
  have hlen := hl.length
  have hr := rangeAt_of_array g1 0 cs.length
  have := VR.pt (F := upd F (ρ.blk id) cs.length) (w := w) l off (ρ.blk id) 0 ((vs.toList.drop 0).take cs.length) (fun d hd => ?_) hr (by simp; omega) (by rw [upd_same]; simp; omega) (fun i d v hd hv => ?_)
  · simpa using this
  · obtain ⟨i, hi⟩ := List.getElem?_of_mem hd
    have hil := (List.getElem?_eq_some_iff.1 hi).1
    have hil2 : i < cs.length := by omega
    have hci : cs[i]? = some cs[i] := List.getElem?_eq_getElem hil2
    exact (hl.get i _ d hci hi).isCell (g3 _ (List.mem_of_getElem? hci))
  · have hil := (List.getElem?_eq_some_iff.1 hd).1
    have hil2 : i < cs.length := by omega
    have hci : cs[i]? = some cs[i] := List.getElem?_eq_getElem hil2
    rw [List.drop_zero, List.getElem?_take, if_pos hil2] at hv
    exact (((hl.get i _ d hci hd).sound h.h (g4 i _ v hci (by simpa using hv)))).mono (Ext.refl F w) (le_upd hk)

theorem T_freezeBox {c : Code} {Q : Exit → St → Prop} {σ : St} (t id off : Nat) {cs : List AVal} {l : List D} (ht : σ.env t = .box id off) (hH : σ.H id = .box cs) (hl : RdL σ.H cs l) (h : T P β c Q ((σ.setH id .dead).put t (.d (.pt l off)))) : T P β c Q σ := by
  intro F ρ a w hr
  obtain ⟨F', hr', hv⟩ := hr.freezeBox hH hl
  refine h F' ρ a w ⟨hr'.h, fun i => ?_, hr'.df, hr'.nn⟩
  by_cases hi : i = t
  · subst hi
    simp only [St.put, upd_same]
    have h1 := hr.tm i
    rw [ht] at h1
    generalize a.tmps.getD i undef = v at h1
    cases h1
    exact .d _ _ (hv off)
  · simp only [St.put, upd_ne _ _ hi]
    exact hr'.tm i
theorem TL_freezeBox {ops : Array Oper} {rest : List Oper} {Q : Exit → St → Prop} {σ : St} (t id off : Nat) {cs : List AVal} {l : List D} (ht : σ.env t = .box id off) (hH : σ.H id = .box cs) (hl : RdL σ.H cs l) (h : TL P β ops Q rest ((σ.setH id .dead).put t (.d (.pt l off)))) : TL P β ops Q rest σ := by
  intro F ρ a w hr
  obtain ⟨F', hr', hv⟩ := hr.freezeBox hH hl
  refine h F' ρ a w ⟨hr'.h, fun i => ?_, hr'.df, hr'.nn⟩
  by_cases hi : i = t
  · subst hi
    simp only [St.put, upd_same]
    have h1 := hr.tm i
    rw [ht] at h1
    generalize a.tmps.getD i undef = v at h1
    cases h1
    exact .d _ _ (hv off)
  · simp only [St.put, upd_ne _ _ hi]
    exact hr'.tm i

/-- A map that is written no more, in a variable of one cell. -/
theorem Rel.freezeMap {F : Fz} {ρ : Gh} {σ : St} {a : Act} {w : World} (h : Rel P β F ρ σ a w) {id : Nat} {ks vs : List D} (hH : σ.H id = .map ks vs) : ∃ F', Rel P β F' ρ (σ.setH id .dead) a w ∧ VR F' w (.mp ks vs) (.map (some (ρ.blk id))) := by
  have hob := h.h.ob id
  rw [hH] at hob
  obtain ⟨⟨es, c, g1, g2, g3, g4, g5⟩, g6, g7⟩ := hob
  have hk : F (ρ.blk id) ≤ 1 := by omega
  refine ⟨upd F (ρ.blk id) 1, h.drop (by rw [hH]; rfl) rfl hk, ?_⟩
  exact .mp ks vs (ρ.blk id) es c g1 (by rw [upd_same]; omega) g2 g3 (fun i d e hd he => (g4 i d e hd he).mono (Ext.refl F w) (le_upd hk)) (fun i d e hd he => (g5 i d e hd he).mono (Ext.refl F w) (le_upd hk))

/-- .. and the variable (of one cell) that holds it now holds plain data. -/
theorem T_freezeMap {c : Code} {Q : Exit → St → Prop} {σ : St} (bx id : Nat) {ks vs : List D} (hne : bx ≠ id) (hb : σ.H bx = .box [.mp id]) (hH : σ.H id = .map ks vs) (h : T P β c Q ((σ.setH id .dead).setH bx (.box [.d (.mp ks vs)]))) : T P β c Q σ := by
  intro F ρ a w hr
  obtain ⟨F', hr', hv⟩ := hr.freezeMap hH
  have hb' : (σ.setH id .dead).H bx = .box [.mp id] := by simp only [St.setH, upd_ne _ _ hne]; exact hb
  have hob := hr'.h.ob bx
  rw [hb'] at hob
  obtain ⟨⟨xs, e, g1, g2, g3, g4⟩, g5, g6⟩ := hob
  have htr : ∀ c v, AVR P β F' ρ (σ.setH id .dead).H w c v → AVR P β F' ρ (upd (σ.setH id .dead).H bx (.box [.d (.mp ks vs)])) w c v := by
    intro c v hcv
    refine AVR.congrH (fun i mu sz e l hi => ?_) hcv
    by_cases hid : i = bx
    · subst hid; rw [upd_same] at hi; cases hi
    · rwa [upd_ne _ _ hid] at hi
  refine h F' ρ a w ⟨⟨fun i => ?_, fun i j b hne' e1 e2 => ?_, hr'.h.wf, hr'.h.wf0, hr'.h.kept, hr'.h.fx⟩, fun i => htr _ _ (hr'.tm i), hr'.df, hr'.nn⟩
  · by_cases hi : i = bx
    · subst hi
      rw [show ((σ.setH id .dead).setH i (.box [.d (.mp ks vs)])).H i = .box [.d (.mp ks vs)] from by simp [St.setH, upd_same]]
      refine ⟨⟨xs, e, g1, g2, by simp [AVal.isCell], fun k c v hc hx => ?_⟩, g5, g6⟩
      match k with
      | 0 =>
        simp at hc
        subst hc
        have h9 := g4 0 (.mp id) v rfl hx
        cases h9
        exact .d _ _ hv
      | k + 1 => simp at hc
    · rw [show ((σ.setH id .dead).setH bx (.box [.d (.mp ks vs)])).H i = (σ.setH id .dead).H i from by simp [St.setH, upd_ne _ _ hi]]
      exact (hr'.h.ob i).move htr (fun d v hd => hd) ⟨rfl, rfl⟩ (fun b _ => ⟨rfl, rfl⟩)
  · have hbl : ∀ k, blkOf ρ k (((σ.setH id .dead).setH bx (.box [.d (.mp ks vs)])).H k) = blkOf ρ k ((σ.setH id .dead).H k) := by
      intro k
      by_cases hk : k = bx
      · subst hk
        rw [hb']
        simp [St.setH, upd_same, blkOf]
      · rw [show ((σ.setH id .dead).setH bx (.box [.d (.mp ks vs)])).H k = (σ.setH id .dead).H k from by simp [St.setH, upd_ne _ _ hk]]
    rw [hbl] at e1 e2
    exact hr'.h.dj i j b hne' e1 e2

end Go.Q
