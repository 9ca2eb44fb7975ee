/- Calls that are lent rows and variables of this call's own for reading, and hand back plain values. No condition. -/
import Derived.Test.YtkfcpnaiimcjeaaDoorQTxt
set_option linter.unusedVariables false
namespace Go.Q
variable {P : Program} {β : Base}
def Frz (P : Program) (β : Base) (σ σ' : St) : Prop := ∀ F ρ a w, Rel P β F ρ σ a w → ∃ F', Rel P β F' ρ σ' a w
theorem Frz_refl (σ : St) : Frz P β σ σ := fun F ρ a w h => ⟨F, h⟩
theorem Frz_arr {σ σ' : St} (id : Nat) {sz e : Nat} {mu : Bool} {l : List D} (hH : σ.H id = .arr mu sz e l) (t : Frz P β (σ.setH id (.arr false sz e l)) σ') : Frz P β σ σ' := fun F ρ a w h => by
  obtain ⟨F', h'⟩ := h.freeze hH
  exact t F' ρ a w h'
theorem Frz_box {σ σ' : St} (t id off : Nat) {cs : List AVal} {l : List D} (ht : σ.env t = .box id off) (hH : σ.H id = .box cs) (hl : RdL σ.H cs l) (h : Frz P β ((σ.setH id .dead).put t (.d (.pt l off))) σ') : Frz P β σ σ' := fun F ρ a w hr => by
  obtain ⟨F', hr', hv⟩ := hr.freezeBox hH hl
  refine h F' ρ a w ⟨hr'.h, fun i => ?_, hr'.df, hr'.nn⟩
  by_cases hi : i = t
  · subst hi
    simp only [St.put, upd_same]
    have h1 := hr.tm i
    rw [ht] at h1
    generalize a.tmps.getD i undef = v at h1
    cases h1
    exact .d _ _ (hv off)
  · simp only [St.put, upd_ne _ _ hi]
    exact hr'.tm i
def envL : Nat → (Nat → AVal) → Nat → List AVal
  | 0, _, _ => []
  | n + 1, e, i => e i :: envL n e (i + 1)
theorem envL_len : ∀ (n : Nat) (e : Nat → AVal) (i : Nat), (envL n e i).length = n
  | 0, _, _ => rfl
  | n + 1, e, i => by simp [envL, envL_len n]
theorem envL_get : ∀ (n : Nat) (e : Nat → AVal) (i j : Nat), j < n → (envL n e i)[j]? = some (e (i + j))
  | n + 1, e, i, 0, h => by simp [envL]
  | n + 1, e, i, j + 1, h => by
    have := envL_get n e (i + 1) j (by omega)
    simp only [envL, List.getElem?_cons_succ, this]
    rw [show i + 1 + j = i + (j + 1) by omega]
def D.isS : D → Bool
  | .s _ => true
  | _ => false
theorem isS_VR {F F' : Fz} {w w' : World} {d : D} {v : Value} (hs : d.isS = true) (h : VR F w d v) : VR F' w' d v := by
  cases h with
  | s _ h => exact .s _ h
  | _ => cases hs
theorem isS_ResR {F F' : Fz} {w w' : World} {ds : List D} {v : Value} (hs : ds.all D.isS = true) (h : ResR F w ds v) : ResR F' w' ds v := by
  have hall := List.all_eq_true.1 hs
  match ds, h with
  | [d], h => exact isS_VR (hall d (by simp)) h
  | [], ⟨vs, e, hl, h⟩ => exact ⟨vs, e, hl, fun i d x hd hx => by simp at hd⟩
  | a :: b :: l, ⟨vs, e, hl, h⟩ => exact ⟨vs, e, hl, fun i d x hd hx => isS_VR (hall d (List.mem_of_getElem? hd)) (h i d x hd hx)⟩
theorem g_callB {H : Nat → Obj} {o : Oper} {ev : Operand → AVal} {fo : Operand} {xs : Array Operand} {ats : Array TypeId} {f : FuncId} {caps ys : List AVal} {cas : List CA} {ds : List D} {r : AVal} {σ' : St} {n : Nat}
    (ho : o.op = .call { callee := .value fo, args := xs, argTypes := ats }) (hf : ev fo = .clo f caps) (hfn : FunOk P f) (hys : xs.toList.map ev ++ caps = ys) (hn : ys.length = n) (hz : Frz P β ⟨fun i => (ys[i]?).getD .junk, H⟩ σ') (ha : ArgL P σ'.H (envL n σ'.env 0) cas) (hs : ds.all D.isS = true) (hr' : IsA (resA ds) r) (h : ∀ w F, PC P f w F cas (· = ds)) : GStep P β H o ev r := by
  rw [← hr'.eq]
  intro F ρ w hr evc he K hK
  have h1 := he fo (by simp [ho, Op.operands, Call.operands])
  rw [hf] at h1
  generalize hv : evc fo = v at h1
  cases h1 with
  | clo _ _ vs hl h' =>
    unfold goes
    rw [run_call ho hv hfn]
    have hlen : (xs.toList.map evc ++ vs).length = ys.length := by rw [← hys, List.length_append, List.length_append, List.length_map, List.length_map, hl]
    have hargs : ∀ (i : Nat) (c : AVal) (v : Value), ys[i]? = some c → (xs.toList.map evc ++ vs)[i]? = some v → AVR P β F ρ H w c v := by
      intro i q v hci h3
      rw [← hys] at hci
      rw [List.getElem?_append, List.length_map] at hci h3
      split at hci
      · rename_i hlt
        rw [if_pos hlt] at h3
        rw [List.getElem?_map] at hci h3
        cases hx : xs.toList[i]? with
        | none => rw [hx] at hci; cases hci
        | some x =>
          rw [hx] at hci h3
          cases hci
          cases h3
          exact he x (by simp [ho, Op.operands, Call.operands]; exact .inr (Array.mem_def.2 (List.mem_of_getElem? hx)))
      · rename_i hlt
        rw [if_neg hlt] at h3
        exact h' _ _ _ hci h3
    have hrel : Rel P β F ρ ⟨fun i => (ys[i]?).getD .junk, H⟩ { tmps := (xs.toList.map evc ++ vs ++ List.replicate β.n undef).toArray, defers := [] } w := by
      refine ⟨hr, fun i => ?_, rfl, by simp; omega⟩
      dsimp only
      cases hi : ys[i]? with
      | none => exact .junk _
      | some c =>
        have hil := (List.getElem?_eq_some_iff.1 hi).1
        have hiv : i < (xs.toList.map evc ++ vs).length := by omega
        have hg : (xs.toList.map evc ++ vs ++ List.replicate β.n undef).toArray.getD i undef = (xs.toList.map evc ++ vs)[i] := by
          rw [Array.getD_eq_getD_getElem?, List.getElem?_toArray, List.getElem?_append_left hiv, List.getElem?_eq_getElem hiv]
          rfl
        rw [hg]
        exact hargs i c _ hi (List.getElem?_eq_getElem hiv)
    obtain ⟨F1, hrel1⟩ := hz F ρ _ w hrel
    have := h w F1 hrel1.h.wf (xs.toList.map evc ++ vs) (by rw [← ha.length, envL_len, hlen, hn]) (fun i c v h2 h3 => ?_)
    · rw [show (xs.toList.map evc ++ vs).toArray = xs.map evc ++ vs.toArray from by simp] at this
      refine Calls.mono this ?_
      rintro e w' ⟨v, F', ds', rfl, rfl, k, hw, hres⟩
      have k' : Kept noM w F w' F := ⟨k.os, k.tape, k.output, k.size, fun b hb hm => ⟨(k.blk b hb hm).1, rfl⟩, fun b _ hm => hm.elim⟩
      exact ⟨v, rfl, hK v w' F k' (fun b hb => hr.wf b (Nat.le_trans k.size hb)) (resA_rel (isS_ResR hs hres))⟩
    · have hi := (List.getElem?_eq_some_iff.1 h2).1
      rw [← ha.length, envL_len] at hi
      have hci := envL_get n σ'.env 0 i hi
      rw [Nat.zero_add] at hci
      refine (ha.get i _ c hci h2).sound hrel1.h (v := v) ?_
      have h4 := hrel1.tm i
      have hiv : i < (xs.toList.map evc ++ vs).length := by omega
      have hg : (xs.toList.map evc ++ vs ++ List.replicate β.n undef).toArray.getD i undef = (xs.toList.map evc ++ vs)[i] := by
        rw [Array.getD_eq_getD_getElem?, List.getElem?_toArray, List.getElem?_append_left hiv, List.getElem?_eq_getElem hiv]
        rfl
      dsimp only at h4
      rw [hg] at h4
      rw [List.getElem?_eq_getElem hiv] at h3
      cases h3
      exact h4
end Go.Q
