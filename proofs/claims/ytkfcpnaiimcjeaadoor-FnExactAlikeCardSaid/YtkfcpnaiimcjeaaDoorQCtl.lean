/- The rules of a program logic over abstract states, eighth part: exits, guards, cuts. No condition. -/
import Derived.Test.YtkfcpnaiimcjeaaDoorQCall
set_option linter.unusedVariables false
namespace Go.Q
open Go.RowKit
variable {P : Program} {β : Base}

theorem EThen_n {K : St → Prop} {Q : Exit → St → Prop} {σ : St} (h : K σ) : EThen K Q .normal σ := h
theorem EThen_exit {K : St → Prop} {Q : Exit → St → Prop} {σ : St} {id : Nat} (h : Q (.exit id) σ) : EThen K Q (.exit id) σ := h
theorem EThen_ret {K : St → Prop} {Q : Exit → St → Prop} {σ : St} (h : Q .ret σ) : EThen K Q .ret σ := h
theorem EBlock_n {Q : Exit → St → Prop} {σ : St} {id : Nat} (h : Q .normal σ) : EBlock id Q .normal σ := h
theorem EBlock_ret {Q : Exit → St → Prop} {σ : St} {id : Nat} (h : Q .ret σ) : EBlock id Q .ret σ := h
theorem EBlock_same {Q : Exit → St → Prop} {σ : St} {id : Nat} (h : Q .normal σ) : EBlock id Q (.exit id) σ := by simp only [EBlock, if_true]; exact h
theorem EBlock_ne {Q : Exit → St → Prop} {σ : St} {id id' : Nat} (hn : ¬ id' = id) (h : Q (.exit id') σ) : EBlock id Q (.exit id') σ := by simp only [EBlock, if_neg hn]; exact h
theorem RetQ_n {rs : List Nat} {R : List D → Prop} {σ : St} {ds : List D} (h1 : RdL σ.H (rs.map σ.env) ds) (h2 : R ds) : RetQ rs R .normal σ := ⟨ds, h1, h2⟩
theorem RetQ_ret {rs : List Nat} {R : List D → Prop} {σ : St} {ds : List D} (h1 : RdL σ.H (rs.map σ.env) ds) (h2 : R ds) : RetQ rs R .ret σ := ⟨ds, h1, h2⟩

theorem T_cond_t {c : Operand} {x y : Code} {Q : Exit → St → Prop} {σ : St} (hc : aev σ c = .d (.s (.bool true))) (h : T P β x Q σ) : T P β (.cond c x y) Q σ := T_cond hc (fun _ => h) (fun e => by cases e)
theorem T_cond_f {c : Operand} {x y : Code} {Q : Exit → St → Prop} {σ : St} (hc : aev σ c = .d (.s (.bool false))) (h : T P β y Q σ) : T P β (.cond c x y) Q σ := T_cond hc (fun e => by cases e) (fun _ => h)

/-- A loop whose rounds end in a state from which what the next round needs can be kept. -/
theorem T_loopF {c : Code} {Q : Exit → St → Prop} {σ : St} {α : Type} (st : α → St) (I : α → Prop) (μ : α → Nat) (x0 : α) (h0 : Fgt σ (st x0)) (hI : I x0)
    (round : ∀ x, I x → T P β c (EThen (fun σ' => ∃ y, Fgt σ' (st y) ∧ I y ∧ μ y < μ x) Q) (st x)) : T P β (.loop c) Q σ := by
  intro F ρ a w hr b k cs
  have key : ∀ n x, μ x = n → I x → ∀ F ρ a w, Rel P β F ρ (st x) a w →
      ∃ e a' w', Lift P β Q e a' w' ∧ Arrives P (lone (b.at a (.code c :: .inLoop c :: k)) cs w) b k cs e a' w' := by
    intro n
    induction n using Nat.strongRecOn with
    | _ n ih =>
      intro x hn hx F ρ a w hr
      obtain ⟨e, a1, w1, hq, harr⟩ := round x hx F ρ a w hr b (.inLoop c :: k) cs
      obtain ⟨F', ρ', σ', q, r⟩ := hq
      cases e with
      | normal =>
        obtain ⟨y, hf, hy, hlt⟩ := q
        obtain ⟨e2, a2, w2, hq2, harr2⟩ := ih (μ y) (hn ▸ hlt) y rfl hy F' ρ' a1 w1 (r.fgt hf)
        exact ⟨e2, a2, w2, hq2, .of_steps (Steps.trans harr (.one step_inLoop)) harr2⟩
      | exit id => exact ⟨_, a1, w1, ⟨F', ρ', σ', q, r⟩, .pass (x := .inLoop c) rfl (fun _ _ => .inl (by simp)) harr⟩
      | goto l => exact ⟨_, a1, w1, ⟨F', ρ', σ', q, r⟩, .pass (x := .inLoop c) rfl (fun _ _ => .inl (by simp)) harr⟩
      | ret => exact ⟨_, a1, w1, ⟨F', ρ', σ', q, r⟩, .pass (x := .inLoop c) rfl (fun _ _ => .inl (by simp)) harr⟩
      | panic ch => exact ⟨_, a1, w1, ⟨F', ρ', σ', q, r⟩, .pass (x := .inLoop c) rfl (fun _ _ => .inl (by simp)) harr⟩
      | outgrown => exact ⟨_, a1, w1, ⟨F', ρ', σ', q, r⟩, .pass (x := .inLoop c) rfl (fun _ _ => .inl (by simp)) harr⟩
  obtain ⟨e, a', w', hq, harr⟩ := key _ x0 rfl hI F ρ a w (hr.fgt h0)
  exact ⟨e, a', w', hq, .of_steps (.one step_loop) harr⟩

/-- The ways through x meet again. -/
theorem T_cut {x y : Code} {Q : Exit → St → Prop} {σ : St} {α : Type} (st : α → St) (I : α → Prop) (h : T P β x (EThen (fun σ' => ∃ z, Fgt σ' (st z) ∧ I z) Q) σ) (hy : ∀ z, I z → T P β y Q (st z)) : T P β (.seq x y) Q σ := by
  refine T_seq (h.mono fun e σ' hq => ?_)
  cases e with
  | normal =>
    obtain ⟨z, hf, hz⟩ := hq
    exact T_fgt _ hf (hy z hz)
  | _ => exact hq

/-! ### Guards -/
theorem yielded_of {F : Fz} {ρ : Gh} {σ : St} {a : Act} {w : World} (hr : Rel P β F ρ σ a w) {ops : Array Oper} {j t : Nat} {c : Bool} (hj : (ops[j]?).bind (·.dst) = some t) (ht : t < β.n) (hv : σ.env t = .d (.s (.bool c))) : yielded ops a.tmps j = some c := by
  have h1 := hr.tm t
  rw [hv] at h1
  have h2 := h1.s_inv
  have hs := hr.nn
  have h3 : a.tmps[t]? = some (.bool c) := by
    rw [Array.getD_eq_getD_getElem?] at h2
    rw [Array.getElem?_eq_getElem (by omega)] at h2 ⊢
    simpa using h2
  simp [yielded, hj, h3]

theorem TL_split {ops : Array Oper} {Q : Exit → St → Prop} {σ : St} {l : List Oper} {c : Bool} (t : Nat) (hv : σ.env t = .d (.s (.bool c))) (h1 : c = true → TL P β ops Q l (σ.put t (.d (.s (.bool true))))) (h2 : c = false → TL P β ops Q l (σ.put t (.d (.s (.bool false))))) : TL P β ops Q l σ := by
  intro F ρ a w hr
  have key : ∀ b, c = b → Rel P β F ρ (σ.put t (.d (.s (.bool b)))) a w := by
    intro b hb
    subst hb
    refine ⟨hr.h, fun i => ?_, hr.df, hr.nn⟩
    by_cases hi : i = t
    · subst hi
      simp only [St.put, upd_same]
      have := hr.tm i
      rw [hv] at this
      exact this
    · simp only [St.put, upd_ne _ _ hi]
      exact hr.tm i
  cases hc : c with
  | true => exact h1 hc F ρ a w (key true hc)
  | false => exact h2 hc F ρ a w (key false hc)

/-- An operation whose guard wants it. -/
theorem TL_want {ops : Array Oper} {Q : Exit → St → Prop} {σ : St} {o : Oper} {rest : List Oper} {j t : Nat} {c : Bool} (hg : o.guard = some (j, c)) (hj : (ops[j]?).bind (·.dst) = some t) (ht : t < β.n) (hv : σ.env t = .d (.s (.bool c)))
    (h : TL P β ops Q ({ o with guard := none } :: rest) σ) : TL P β ops Q (o :: rest) σ := by
  intro F ρ a w hr
  have h1 := h F ρ a w hr
  have hy := yielded_of hr hj ht hv
  unfold wpList at h1 ⊢
  rw [if_pos (by simp [Region.wanted])] at h1
  rw [if_pos (by simp [Region.wanted, hg, hy])]
  exact h1
theorem TL_skip {ops : Array Oper} {Q : Exit → St → Prop} {σ : St} {o : Oper} {rest : List Oper} {j t dst : Nat} {c c' : Bool} (hg : o.guard = some (j, c)) (hd : o.dst = some dst) (hdn : dst < β.n) (hj : (ops[j]?).bind (·.dst) = some t) (ht : t < β.n) (hv : σ.env t = .d (.s (.bool c'))) (hc : (c' == c) = false)
    (h : TL P β ops Q rest (σ.put dst (.tup []))) : TL P β ops Q (o :: rest) σ := by
  intro F ρ a w hr
  have hy := yielded_of hr hj ht hv
  unfold wpList
  rw [if_neg (by simp [Region.wanted, hg, hy]; simpa using hc), hd]
  exact h F ρ _ w (hr.put hdn (.tup [] [] rfl (by simp)))
theorem TL_skipu {ops : Array Oper} {Q : Exit → St → Prop} {σ : St} {o : Oper} {rest : List Oper} {j t dst : Nat} {c : Bool} (hg : o.guard = some (j, c)) (hd : o.dst = some dst) (hdn : dst < β.n) (hj : (ops[j]?).bind (·.dst) = some t) (ht : t < β.n) (hv : σ.env t = .tup [])
    (h : TL P β ops Q rest (σ.put dst (.tup []))) : TL P β ops Q (o :: rest) σ := by
  intro F ρ a w hr
  have h1 := hr.tm t
  rw [hv] at h1
  have hs := hr.nn
  have h3 : yielded ops a.tmps j = none := by
    have h4 : a.tmps[t]? = some (a.tmps.getD t undef) := by
      rw [Array.getD_eq_getD_getElem?, Array.getElem?_eq_getElem (by omega)]; rfl
    generalize a.tmps.getD t undef = v at h1 h4
    cases h1 with
    | tup _ vs hl _ => simp [yielded, hj, h4]
  unfold wpList
  rw [if_neg (by simp [Region.wanted, hg, h3]), hd]
  exact h F ρ _ w (hr.put hdn (.tup [] [] rfl (by simp)))

theorem TL_g0 {ops : Array Oper} {Q : Exit → St → Prop} {σ : St} {o : Oper} {rest : List Oper} {c : AVal} (hg : o.guard = none) (hd : o.dst = none)
    (hs : GStep P β σ.H o (aev σ) c) (h : TL P β ops Q rest σ) : TL P β ops Q (o :: rest) σ := by
  intro F ρ a w hr
  refine wpList_plain hg fun K hK => wp_of_goes ?_
  refine hs F ρ w hr.h a.eval (fun x _ => hr.ev x) _ (fun v w' F' hk hw hc => hK _ _ ?_)
  rw [hd]
  have := h F' ρ _ w' (hr.grow hk hw)
  simpa [Act.put] using this

theorem TL_o {ops : Array Oper} {Q : Exit → St → Prop} {σ : St} {o : Oper} {rest : List Oper} {dst : Nat} {c : AVal} (hg : o.guard = none) (hd : o.dst = some dst) (hn : Nat.blt dst β.n = true)
    (hs : GStep P β σ.H o (aev σ) c) (h : TL P β ops Q rest (σ.put dst c)) : TL P β ops Q (o :: rest) σ := TL_g hg hd (by simpa [Nat.blt_eq] using hn) hs h
theorem lt_of_blt {a b : Nat} (h : Nat.blt a b = true) : a < b := by simpa [Nat.blt_eq] using h
theorem le_of_ble {a b : Nat} (h : Nat.ble a b = true) : a ≤ b := by simpa [Nat.ble_eq] using h
theorem get_map {α γ : Type} {f : α → γ} {l : List α} {i : Nat} {x : α} (h : l[i]? = some x) : (l.map f)[i]? = some (f x) := by rw [List.getElem?_map, h]; rfl
theorem get_some {α : Type} {l : List α} {i : Nat} (h : i < l.length) : ∃ x, l[i]? = some x := ⟨l[i], List.getElem?_eq_getElem h⟩
theorem PC_of_T' {f : FuncId} {fn : Func} {c : Code} {rs : List Nat} {n : Nat} {w : World} {F : Fz} {args : List CA} {R : List D → Prop} (hf : P.funcs[f]? = some fn) (hb : fn.body = some c) (hrs : fn.results.toList = rs.map .tmp) (hnt : fn.ntmps = n) (hn : Nat.ble args.length n = true)
    (h : T P { w0 := w, F0 := F, M := noM, n := n } c (RetQ rs R) ⟨envOf args, H0⟩) : PC P f w F args R := by
  subst hnt
  exact PC_of_T hf hb hrs (le_of_ble hn) h

/-! ### The rules once more, so that what they yield is written out -/
inductive IsA : AVal → AVal → Prop
  | d (x : D) : IsA (.d x) (.d x)
  | box (i k : Nat) : IsA (.box i k) (.box i k)
  | asl (i n : Nat) : IsA (.asl i n) (.asl i n)
  | nil : IsA .nil .nil
  | lit (sz : Nat) (l : List D) : IsA (.lit sz l) (.lit sz l)
  | agg (l : List AVal) : IsA (.agg l) (.agg l)
  | el (i n k : Nat) : IsA (.el i n k) (.el i n k)
  | clo (f : FuncId) (l : List AVal) : IsA (.clo f l) (.clo f l)
  | fnv (p : List D → List D → Prop) : IsA (.fnv p) (.fnv p)
  | tup (l : List AVal) : IsA (.tup l) (.tup l)
  | mp (i : Nat) : IsA (.mp i) (.mp i)
  | junk : IsA .junk .junk
theorem IsA.eq {a b : AVal} (h : IsA a b) : a = b := by cases h <;> rfl
inductive SLA : List AVal → List AVal → Prop
  | nil : SLA [] []
  | cons {a b : AVal} {l m : List AVal} (h : IsA a b) (t : SLA l m) : SLA (a :: l) (b :: m)
theorem SLA.eq {l m : List AVal} (h : SLA l m) : l = m := by
  induction h with
  | nil => rfl
  | cons h t ih => rw [h.eq, ih]
inductive SLD : List D → List D → Prop
  | nil : SLD [] []
  | cons {a : D} {l m : List D} (t : SLD l m) : SLD (a :: l) (a :: m)
theorem SLD.eq {l m : List D} (h : SLD l m) : l = m := by
  induction h with
  | nil => rfl
  | cons t ih => rw [ih]
section
variable {H : Nat → Obj} {o : Oper} {ev : Operand → AVal}
theorem f_move {x : Operand} {c : AVal} (ho : o.op = .move x) (h : IsA (ev x) c := by first | exact .d _ | exact .box _ _ | exact .asl _ _ | exact .nil | exact .lit _ _ | exact .agg _ | exact .clo _ _ | exact .fnv _ | exact .tup _ | exact .el _ _ _ | exact .mp _ | exact .junk) : GStep P β H o ev c := h.eq ▸ g_move ho
theorem f_assign {x : Operand} {c : AVal} (ho : o.op = .assign x) (h : IsA (ev x) c := by first | exact .d _ | exact .box _ _ | exact .asl _ _ | exact .nil | exact .lit _ _ | exact .agg _ | exact .clo _ _ | exact .fnv _ | exact .tup _ | exact .el _ _ _ | exact .mp _ | exact .junk) : GStep P β H o ev c := h.eq ▸ g_assign ho
theorem f_pick {c x y : Operand} {b : Bool} {r : AVal} (ho : o.op = .pick c x y) (hc : ev c = .d (.s (.bool b))) (hr' : IsA (cond b (ev x) (ev y)) r := by first | exact .d _ | exact .box _ _ | exact .asl _ _ | exact .nil | exact .lit _ _ | exact .agg _ | exact .clo _ _ | exact .fnv _ | exact .tup _ | exact .el _ _ _ | exact .mp _ | exact .junk) : GStep P β H o ev r :=
  g_pick ho hc (by rw [← hr'.eq]; cases b <;> rfl)
theorem f_load_box {t id k : Nat} {x : Operand} {cs : List AVal} {c : AVal} (ho : o.op = .load t x) (hx : ev x = .box id k) (ht : CellT P t) (hH : H id = .box cs) (hc : cs[k]? = some c) : GStep P β H o ev c := g_load_box ho hx ht hH hc
theorem f_load_box_row {t id k n : Nat} {x : Operand} {cs : List AVal} {c : AVal} (ho : o.op = .load t x) (hx : ev x = .box id k) (ht : RowT P t n) (hH : H id = .box cs) (hn : Nat.ble (k + n) cs.length = true) (hc : IsA (norm ((cs.drop k).take n)) c := by first | exact .d _ | exact .agg _) : GStep P β H o ev c :=
  g_load_box_row ho hx ht hH (le_of_ble hn) hc.eq
theorem f_load_pt_row {t k n : Nat} {x : Operand} {l r : List D} (ho : o.op = .load t x) (hx : ev x = .d (.pt l k)) (ht : RowT P t n) (hn : Nat.ble (k + n) l.length = true) (hc : SLD ((l.drop k).take n) r := by repeat (first | exact .nil | apply SLD.cons)) : GStep P β H o ev (.d (.agg r)) :=
  g_load_pt_row ho hx ht (le_of_ble hn) hc.eq
theorem f_makeFunc {f : FuncId} {xs : Array Operand} {l : List AVal} (ho : o.op = .makeFunc (.func f) #[] xs) (hl : SLA (xs.toList.map ev) l := by repeat (first | exact .nil | (apply SLA.cons; first | exact .d _ | exact .box _ _ | exact .asl _ _ | exact .nil | exact .lit _ _ | exact .clo _ _ | exact .fnv _ | exact .el _ _ _ | exact .mp _))) : GStep P β H o ev (.clo f l) := g_makeFunc ho hl.eq
theorem f_call {fo : Operand} {xs : Array Operand} {ats : Array TypeId} {f : FuncId} {caps : List AVal} {cas : List CA} {ds : List D} {r : AVal}
    (ho : o.op = .call { callee := .value fo, args := xs, argTypes := ats }) (hf : ev fo = .clo f caps) (hfn : FunOk P f) (ha : ArgL P H (xs.toList.map ev ++ caps) cas) (hr' : IsA (resA ds) r) (h : ∀ w F, PC P f w F cas (· = ds)) : GStep P β H o ev r :=
  g_call ho hf hfn ha hr'.eq h
theorem f_callv {fo : Operand} {xs : Array Operand} {ats : Array TypeId} {p : List D → List D → Prop} {ds rs : List D} {r : AVal}
    (ho : o.op = .call { callee := .value fo, args := xs, argTypes := ats }) (hf : ev fo = .fnv p) (ha : RdL H (xs.toList.map ev) ds) (hp : p ds rs) (hr' : IsA (resA rs) r) : GStep P β H o ev r := g_callv ho hf ha hp hr'.eq
end
theorem fs_box {σ : St} {o : Oper} {t : TypeId} {x : Operand} {dst id : Nat} {c : AVal} {cs : List AVal} (ho : o.op = .box t x) (hd : o.dst = some dst) (hn : Nat.blt dst β.n = true) (hx : IsA (aev σ x) c) (hv : c.isVal = true) (hc : SLA c.cells cs)
    (hx0 : β.fx id = false) (h1 : NoRefE id σ.env) (h2 : NoRefH id σ.H) (h3 : noRefL id cs = true) : SStep P β σ o ((σ.setH id (.box cs)).put dst (.box id 0)) := s_box ho hd (lt_of_blt hn) (by rw [hx.eq]; exact hv) (by rw [hx.eq]; exact hc.eq) hx0 h1 h2 h3
theorem fs_alloc {σ : St} {o : Oper} {t : TypeId} {dst id : Nat} {zs : List Value} {cs : List AVal} (ho : o.op = .alloc t) (hd : o.dst = some dst) (hn : Nat.blt dst β.n = true) (hz : ZeroT P t zs) (hz1 : zs.all (fun v => v.oneCell') = true) (hc : SLA (zs.map constC) cs)
    (hx0 : β.fx id = false) (h1 : NoRefE id σ.env) (h2 : NoRefH id σ.H) (h3 : noRefL id cs = true) : SStep P β σ o ((σ.setH id (.box cs)).put dst (.box id 0)) := s_alloc ho hd (lt_of_blt hn) hz hz1 hc.eq hx0 h1 h2 h3
theorem fs_store_box {σ : St} {o : Oper} {t id k n : Nat} {x y : Operand} {c : AVal} {cs cs' : List AVal} (ho : o.op = .store t x y) (hd : o.dst = none) (hx : aev σ x = .box id k) (hH : σ.H id = .box cs) (hy : IsA (aev σ y) c) (hv : c.isVal = true) (ht : SizeT P t n) (hn : c.cells.length = n)
    (hk : Nat.ble (k + n) cs.length = true) (hc : SLA (splice cs k c.cells) cs') : SStep P β σ o (σ.setH id (.box cs')) := s_store_box ho hd hx hH (by rw [hy.eq]; exact hv) ht (by rw [hy.eq]; exact hn) (le_of_ble hk) (by rw [hy.eq]; exact hc.eq)

theorem noRefE_envOf {id : Nat} {args : List CA} : NoRefE id (envOf args) := by
  intro i
  unfold envOf
  split
  · rename_i c _
    cases c <;> rfl
  · rfl

theorem wr64 (x : Int) (h : -9223372036854775808 ≤ x ∧ x ≤ 9223372036854775807) : IntKind.i64.wrap x = x := IntWalk.i64_in _ h

end Go.Q
