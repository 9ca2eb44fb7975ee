/- The ends of functions whose results lie in temporaries or in variables. No condition. -/
import Derived.Test.YtkfcpnaiimcjeaaDoorQLent
set_option linter.unusedVariables false
set_option linter.unusedSimpArgs false
namespace Go.Q
open Go.RowKit
variable {P : Program} {β : Base}

inductive ResV (P : Program) (σ : St) : ResultVar → AVal → Prop
  | tmp (t : Nat) : ResV P σ (.tmp t) (σ.env t)
  | row {a t id n : Nat} {cs : List AVal} {c : AVal} (he : σ.env a = .box id 0) (hH : σ.H id = .box cs) (ht : RowT P t n) (hn : Nat.beq cs.length n = true) (hc : IsA (norm cs) c) : ResV P σ (.cell a t) c
  | one {a t id : Nat} {c : AVal} (he : σ.env a = .box id 0) (hH : σ.H id = .box [c]) (ht : CellT P t) : ResV P σ (.cell a t) c
inductive ResVL (P : Program) (σ : St) : List ResultVar → List AVal → Prop
  | nil : ResVL P σ [] []
  | cons {r : ResultVar} {c : AVal} {rs : List ResultVar} {cs : List AVal} (h : ResV P σ r c) (t : ResVL P σ rs cs) : ResVL P σ (r :: rs) (c :: cs)

def resM (tmps : Array Value) : ResultVar → Sem Value
  | .tmp t => pure (tmps.getD t undef)
  | .cell a t => do loadVar t (← asAddr (tmps.getD a undef))

theorem run_loadVar_row {w : World} {t n b k : Nat} (ht : RowT P t n) {cs : List Value} (hl : cs.length = n) (hr : w.rangeAt b k cs) : (loadVar t ⟨b, k, none⟩).run P w = .ok (.agg cs.toArray) w := by
  have h := run_loadAt_row ht hl hr
  simpa [Instr.loadAt, Instr.sureAddr] using h

theorem ResV.run {F : Fz} {ρ : Gh} {σ : St} {a : Act} {w : World} (hr : Rel P β F ρ σ a w) {r : ResultVar} {c : AVal} (h : ResV P σ r c) : ∃ x, (resM a.tmps r).run P w = .ok x w ∧ AVR P β F ρ σ.H w c x := by
  cases h with
  | tmp t => exact ⟨_, by simp [resM], hr.tm t⟩
  | row he hH ht hn hc =>
    rename_i p t id n cs
    rw [← hc.eq]
    have h1 := hr.tm p
    rw [he] at h1
    have hob := hr.h.ob id
    rw [hH] at hob
    obtain ⟨⟨vs, e, g1, g2, g3, g4⟩, g5, g6⟩ := hob
    have hn' := Nat.eq_of_beq_eq_true hn
    generalize hv : a.tmps.getD p undef = v at h1
    cases h1
    refine ⟨.agg vs.toList.toArray, ?_, ?_⟩
    · have hra : w.rangeAt (ρ.blk id) 0 vs.toList := by
        have := rangeAt_of_array g1 0 vs.size
        rw [List.drop_zero, List.take_of_length_le (by simp)] at this
        exact this
      simp only [resM, hv, asAddr, Sem.run_bind, Sem.run_pure, Result.andThen_ok]
      exact run_loadVar_row ht (by simp; omega) hra
    · exact norm_rel (by simp; omega) g3 (fun i c v hc hv => g4 i c v hc (by simpa using hv))
  | one he hH ht =>
    rename_i p t id
    have h1 := hr.tm p
    rw [he] at h1
    have hob := hr.h.ob id
    rw [hH] at hob
    obtain ⟨⟨vs, e, g1, g2, g3, g4⟩, g5, g6⟩ := hob
    generalize hv : a.tmps.getD p undef = v at h1
    cases h1
    have hvk : vs[0]? = some (vs[0]'(by simp at g2; omega)) := Array.getElem?_eq_getElem (by simp at g2; omega)
    refine ⟨_, ?_, g4 0 c _ rfl hvk⟩
    simp only [resM, hv, asAddr, Sem.run_bind, Sem.run_pure, Result.andThen_ok]
    exact run_loadVar_cell ht ((cell_of_array g1 0).trans hvk)

theorem ResVL.run {F : Fz} {ρ : Gh} {σ : St} {a : Act} {w : World} (hr : Rel P β F ρ σ a w) {rs : List ResultVar} {cs : List AVal} (h : ResVL P σ rs cs) :
    ∃ xs : List Value, (rs.mapM (resM a.tmps)).run P w = .ok xs w ∧ xs.length = cs.length ∧ ∀ (i : Nat) (c : AVal) (x : Value), cs[i]? = some c → xs[i]? = some x → AVR P β F ρ σ.H w c x := by
  induction h with
  | nil => exact ⟨[], by simp, rfl, by simp⟩
  | cons h t ih =>
    obtain ⟨x, h1, h2⟩ := h.run hr
    obtain ⟨xs, h3, h4, h5⟩ := ih
    refine ⟨x :: xs, by simp only [List.mapM_cons, Sem.run_bind, h1, Result.andThen_ok, h3, Sem.run_pure], by simp [h4], fun i c y hc hy => ?_⟩
    cases i with
    | zero => simp at hc hy; subst hc; subst hy; exact h2
    | succ i => exact h5 i c y (by simpa using hc) (by simpa using hy)

theorem run_results_G {fn : Func} {rs : List ResultVar} (hrs : fn.results.toList = rs) {tmps : Array Value} {w : World} {xs : List Value} (h : (rs.mapM (resM tmps)).run P w = .ok xs w) :
    (results fn tmps).run P w = .ok (if h : xs.length = 1 then xs[0] else .tuple xs.toArray) w := by
  have hfn : fn.results = rs.toArray := by rw [← hrs]
  unfold results
  rw [hfn]
  simp only [List.mapM_toArray, Sem.run_bind]
  suffices H : ∀ g : ResultVar → Sem Value, (∀ r, g r = resM tmps r) → ((List.toArray <$> List.mapM g rs).run P w).andThen (fun a w' => Sem.run P (pure (if h : a.size = 1 then a[0] else Value.tuple a)) w') = .ok (if h : xs.length = 1 then xs[0] else .tuple xs.toArray) w from H _ (fun r => by cases r <;> rfl)
  intro g hg
  have h2 : (List.toArray <$> List.mapM (resM tmps) rs).run P w = .ok xs.toArray w := by
    rw [← bind_pure_comp, Sem.run_bind, h, Result.andThen_ok]
    rfl
  rw [show g = resM tmps from funext hg, h2, Result.andThen_ok]
  simp only [Sem.run_pure, List.size_toArray, List.getElem_toArray]

theorem noArr {L : List Nat} {os : List Obj} {σ : St} (h : os.any Obj.isArr = false) : ∀ j, L.contains j = true → (hL L os j).isArr = true → NoRefE j σ.env ∧ ∀ i, L.contains i = false → (σ.H i).noRef j = true := by
  have key : ∀ (L : List Nat) (os : List Obj), os.any Obj.isArr = false → ∀ j, (hL L os j).isArr = false := by
    intro L
    induction L with
    | nil => intro os h j; cases os <;> rfl
    | cons i L ih =>
      intro os h j
      cases os with
      | nil => rfl
      | cons o os =>
        simp only [List.any_cons, Bool.or_eq_false_iff] at h
        simp only [hL]
        by_cases hj : j = i
        · subst hj; rw [upd_same]; exact h.1
        · rw [upd_ne _ _ hj]; exact ih os h.2 j
  intro j _ ha
  rw [key L os h j] at ha
  cases ha

/-! ### A function that leaves what was there -/
def RetG (P : Program) (rs : List ResultVar) (R : List D → Prop) : Exit → St → Prop
  | .normal, σ | .ret, σ => ∃ cs ds, ResVL P σ rs cs ∧ RdL σ.H cs ds ∧ R ds
  | _, _ => False
theorem RetG_n {rs : List ResultVar} {R : List D → Prop} {σ : St} {cs : List AVal} {ds : List D} (h0 : ResVL P σ rs cs) (h1 : RdL σ.H cs ds) (h2 : R ds) : RetG P rs R .normal σ := ⟨cs, ds, h0, h1, h2⟩
theorem RetG_ret {rs : List ResultVar} {R : List D → Prop} {σ : St} {cs : List AVal} {ds : List D} (h0 : ResVL P σ rs cs) (h1 : RdL σ.H cs ds) (h2 : R ds) : RetG P rs R .ret σ := ⟨cs, ds, h0, h1, h2⟩

theorem PC_of_G {f : FuncId} {fn : Func} {c : Code} {rs : List ResultVar} {n : Nat} {w : World} {F : Fz} {args : List CA} {R : List D → Prop} (hf : P.funcs[f]? = some fn) (hb : fn.body = some c) (hrs : fn.results.toList = rs) (hnt : fn.ntmps = n) (hn : Nat.ble args.length n = true)
    (h : T P { w0 := w, F0 := F, M := noM, n := n } c (RetG P rs R) ⟨envOf args, H0⟩) : PC P f w F args R := by
  subst hnt
  have hn := le_of_ble hn
  intro hw vs hl hv
  refine calls_of_wp hf hb ?_
  have hrel : Rel P { w0 := w, F0 := F, M := noM, n := fn.ntmps } F ⟨fun _ => 0, fun _ => undef⟩ ⟨envOf args, H0⟩ { tmps := vs.toArray ++ Array.replicate (fn.ntmps - vs.toArray.size) undef, defers := [] } w := by
    refine ⟨⟨fun i => trivial, fun i j b _ h => (by cases h), hw, hw, Kept.refl _ _ _, fun i h => by cases h⟩, fun i => ?_, rfl, by simp; omega⟩
    cases hc : args[i]? with
    | none => simp only [envOf, hc]; exact .junk _
    | some ca =>
      have hi := (List.getElem?_eq_some_iff.1 hc).1
      have hvi : vs[i]? = some vs[i] := List.getElem?_eq_getElem (by omega)
      have hget : (vs.toArray ++ Array.replicate (fn.ntmps - vs.toArray.size) undef).getD i undef = vs[i] := by
        rw [Array.getD_eq_getD_getElem?, Array.getElem?_append_left (by simp; omega)]
        simp [hvi]
      simp only [envOf, hc]
      rw [hget]
      have := hv i ca _ hc hvi
      cases ca with
      | d x => exact .d _ _ this
      | fn p => exact .fnv (β := { w0 := w, F0 := F, M := noM, n := fn.ntmps }) _ _ this.1 this.2
  refine wp_mono (h F _ _ w hrel) ?_
  rintro e a' w' ⟨F', ρ', σ', hq, hr'⟩
  have fin : (∃ cs ds, ResVL P σ' rs cs ∧ RdL σ'.H cs ds ∧ R ds) → a'.defers = [] ∧ ∃ v, (results fn a'.tmps).run P w' = .ok v w' ∧ PostP w F R (.returned v) w' := by
    rintro ⟨cs, ds, hcs, hds, hR⟩
    obtain ⟨xs, hx1, hx2, hx3⟩ := hcs.run hr'
    refine ⟨hr'.df, _, run_results_G hrs hx1, _, F', ds, rfl, hR, hr'.h.kept, hr'.h.wf, ?_⟩
    have hlen := hds.length
    have hall : ∀ (i : Nat) (d : D) (x : Value), ds[i]? = some d → xs[i]? = some x → VR F' w' d x := by
      intro i d x hd hx
      have hi := (List.getElem?_eq_some_iff.1 hd).1
      have hci : cs[i]? = some (cs[i]'(by omega)) := List.getElem?_eq_getElem (by omega)
      exact (hds.get i _ d hci hd).sound hr'.h (hx3 i _ x hci hx)
    match ds, hlen with
    | [d], hlen =>
      have h1 : xs.length = 1 := by simp at hlen; omega
      rw [dif_pos h1]
      exact hall 0 d _ rfl (List.getElem?_eq_getElem (by omega))
    | [], hlen =>
      have h1 : ¬ xs.length = 1 := by simp at hlen; rw [hx2, hlen]; simp
      rw [dif_neg h1]
      exact ⟨_, rfl, by simp at hlen ⊢; rw [hlen] at hx2; simpa using hx2, hall⟩
    | x :: y :: l, hlen =>
      have h1 : ¬ xs.length = 1 := by simp at hlen; omega
      rw [dif_neg h1]
      exact ⟨_, rfl, by omega, hall⟩
  cases e with
  | normal => exact fin hq
  | ret => exact fin hq
  | _ => exact hq.elim

/-! ### A function that is lent objects -/
def RetGL (P : Program) (rs : List ResultVar) (L : List Nat) (R : List AVal → List Obj → Prop) : Exit → St → Prop
  | .normal, σ | .ret, σ => ∃ vs cs, ResVL P σ rs vs ∧ RAL σ.H vs cs ∧ R cs (L.map σ.H)
  | _, _ => False
theorem RetGL_n {rs : List ResultVar} {L : List Nat} {R : List AVal → List Obj → Prop} {σ : St} {vs cs : List AVal} (h0 : ResVL P σ rs vs) (h : RAL σ.H vs cs) (hR : R cs (L.map σ.H)) : RetGL P rs L R .normal σ := ⟨vs, cs, h0, h, hR⟩
theorem RetGL_ret {rs : List ResultVar} {L : List Nat} {R : List AVal → List Obj → Prop} {σ : St} {vs cs : List AVal} (h0 : ResVL P σ rs vs) (h : RAL σ.H vs cs) (hR : R cs (L.map σ.H)) : RetGL P rs L R .ret σ := ⟨vs, cs, h0, h, hR⟩

theorem PCL_of_G {f : FuncId} {fn : Func} {c : Code} {rs : List ResultVar} {n : Nat} {L : List Nat} {args : List AVal} {os : List Obj} {R : List AVal → List Obj → Prop} (hf : P.funcs[f]? = some fn) (hb : fn.body = some c) (hrs : fn.results.toList = rs) (hnt : fn.ntmps = n) (hn : Nat.ble args.length n = true)
    (hok : ∀ cs os', R cs os' → okR L os cs os' = true)
    (h : ∀ w F M b0, T P { w0 := w, F0 := F, M := M, n := n, fx := fun i => L.contains i, b0 := b0 } c (RetGL P rs L R) ⟨envA args, hL L os⟩) : PCL P f L args os R := by
  subst hnt
  have hn := le_of_ble hn
  intro w F ρ hrel vs hl hv
  refine calls_of_wp hf hb ?_
  have hrel0 : Rel P { w0 := w, F0 := F, M := lentM ρ (hL L os) L, n := fn.ntmps, fx := fun i => L.contains i, b0 := ρ.blk } F ρ ⟨envA args, hL L os⟩ { tmps := vs.toArray ++ Array.replicate (fn.ntmps - vs.toArray.size) undef, defers := [] } w := by
    refine ⟨hrel.base0, fun i => ?_, rfl, by simp; omega⟩
    cases hc : args[i]? with
    | none => simp only [envA, hc]; exact .junk _
    | some ca =>
      have hi := (List.getElem?_eq_some_iff.1 hc).1
      have hvi : vs[i]? = some vs[i] := List.getElem?_eq_getElem (by omega)
      have hget : (vs.toArray ++ Array.replicate (fn.ntmps - vs.toArray.size) undef).getD i undef = vs[i] := by
        rw [Array.getD_eq_getD_getElem?, Array.getElem?_append_left (by simp; omega)]
        simp [hvi]
      simp only [envA, hc]
      rw [hget]
      exact (hv i ca _ hc hvi).base
  refine wp_mono (h w F _ _ F ρ _ w hrel0) ?_
  rintro e a' w' ⟨F', ρ', σ', hq, hr'⟩
  have fin : (∃ us cs, ResVL P σ' rs us ∧ RAL σ'.H us cs ∧ R cs (L.map σ'.H)) → a'.defers = [] ∧ ∃ v, (results fn a'.tmps).run P w' = .ok v w' ∧ ∃ v1 F2 ρ2 cs os', Ending.returned v = .returned v1 ∧ R cs os' ∧ okR L os cs os' = true ∧ RelH P (lentB w F ρ (hL L os) L) F2 ρ2 (hL L os') w' ∧ AVR P (lentB w F ρ (hL L os) L) F2 ρ2 (hL L os') w' (resAV cs) v1 := by
    rintro ⟨us, cs, hus, hcs, hR⟩
    obtain ⟨xs, hx1, hx2, hx3⟩ := hus.run hr'
    have hH : ∀ i, hL L (L.map σ'.H) i = .dead ∨ hL L (L.map σ'.H) i = σ'.H i := by
      intro i; rw [hL_map]; split
      · exact .inr rfl
      · exact .inl rfl
    refine ⟨hr'.df, _, run_results_G hrs hx1, _, F', ρ', cs, L.map σ'.H, rfl, hR, hok _ _ hR, (hr'.h.forget hH).base0, ?_⟩
    have hlen := hcs.length
    have hall : ∀ (i : Nat) (d : AVal) (x : Value), cs[i]? = some d → xs[i]? = some x → AVR P (lentB w F ρ (hL L os) L) F' ρ' (hL L (L.map σ'.H)) w' d x := by
      intro i d x hd hx
      have hi := (List.getElem?_eq_some_iff.1 hd).1
      have hci : us[i]? = some (us[i]'(by omega)) := List.getElem?_eq_getElem (by omega)
      exact (((hcs.get i _ d hci hd).sound hr'.h (hx3 i _ x hci hx)).fgt hH).base
    match cs, hlen with
    | [d], hlen =>
      have h1 : xs.length = 1 := by simp at hlen; omega
      rw [dif_pos h1]
      exact hall 0 d _ rfl (List.getElem?_eq_getElem (by omega))
    | [], hlen =>
      have h1 : ¬ xs.length = 1 := by simp at hlen; rw [hx2, hlen]; simp
      rw [dif_neg h1]
      exact .tup _ _ (by simp at hlen ⊢; rw [hlen] at hx2; simpa using hx2) hall
    | x :: y :: l, hlen =>
      have h1 : ¬ xs.length = 1 := by simp at hlen; omega
      rw [dif_neg h1]
      exact .tup _ _ (by omega) hall
  cases e with
  | normal => exact fin hq
  | ret => exact fin hq
  | _ => exact hq.elim
end Go.Q
