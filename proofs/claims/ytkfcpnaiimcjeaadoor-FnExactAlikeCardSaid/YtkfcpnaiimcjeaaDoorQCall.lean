/- The rules of a program logic over abstract states, seventh part: contracts of calls that leave what was there; calls; returns. No condition. -/
import Derived.Test.YtkfcpnaiimcjeaaDoorQAppend
set_option linter.unusedVariables false
set_option linter.unusedSimpArgs false
namespace Go.Q
open Go.RowKit
variable {P : Program} {β : Base}

/-! ### What an abstract value reads as -/
inductive Rd (H : Nat → Obj) : AVal → D → Prop
  | d (x : D) : Rd H (.d x) x
  | nil (sz : Nat) (q : Option Nat) : Rd H .nil (.sl sz q [])
  | emp (sz sz' : Nat) (q q' : Option Nat) : Rd H (.d (.sl sz q [])) (.sl sz' q' [])
  | litn (sz sz' : Nat) (q : Option Nat) : Rd H (.lit sz []) (.sl sz' q [])
  | lit (sz : Nat) (l : List D) : Rd H (.lit sz l) (.sl sz none l)
  | asl (id n sz e : Nat) (l : List D) (hH : H id = .arr false sz e l) (hn : n = l.length) : Rd H (.asl id n) (.sl sz none l)
  | asln (id n sz sz' e : Nat) (mu : Bool) (q : Option Nat) (hH : H id = .arr mu sz e []) (hn : n = 0) : Rd H (.asl id n) (.sl sz' q [])
  | agg (l : List AVal) (ds : List D) (hl : l.length = ds.length) (hc : ds.all D.isCell = true) (h : ∀ (i : Nat) (c : AVal) (d : D), l[i]? = some c → ds[i]? = some d → Rd H c d) : Rd H (.agg l) (.agg ds)

theorem Rd.sound {F : Fz} {ρ : Gh} {H : Nat → Obj} {w : World} (hr : RelH P β F ρ H w) {c : AVal} {d : D} (h : Rd H c d) : ∀ {v : Value}, AVR P β F ρ H w c v → VR F w d v := by
  induction h with
  | d x => intro v hv; cases hv with | d _ _ h => exact h
  | nil sz q => intro v hv; cases hv; exact .sl0 sz q none 0 (Nat.zero_le _)
  | emp sz sz' q q' =>
    intro v hv
    cases hv with
    | d _ _ h =>
      obtain ⟨a, cap, rfl, _, hm⟩ := h.sl_inv
      exact .sl0 sz' q' a cap hm
  | litn sz sz' q =>
    intro v hv
    generalize hc : AVal.lit sz [] = c at hv
    cases hv with
    | lit _ _ a h => cases hc; exact .sl0 sz' q a 0 (Nat.zero_le _)
    | _ => cases hc
  | lit sz l =>
    intro v hv
    generalize hc : AVal.lit sz l = c at hv
    cases hv with
    | lit _ _ a h => cases hc; exact h
    | _ => cases hc
  | asl id n sz e l hH hn =>
    intro v hv
    cases hv with
    | asl _ _ _ _ h =>
      have hv := (h _ _ _ _ hH).2 hn
      subst hv
      by_cases hne : l = []
      · subst hne
        have hob := hr.ob id
        rw [hH] at hob
        obtain ⟨_, _, _, xs, hown, _⟩ := hob
        obtain ⟨a, cap, h2, _, h3⟩ := ownsRow_slice hown
        rw [h2]
        exact .sl0 sz none a cap h3
      · obtain ⟨g, cap, cur, hv, hnc, hcm, hg, hcs, hsz, hc, hll, hrr, hvr, hown, hF, hz⟩ := arr_parts hr hH hne
        rw [hv]
        refine .sl sz none l g 0 cap _ hne hz hsz hc hnc hcm hrr hll ?_ (by simp) hvr
        rw [hll, flat_length hsz, hF]; simp
  | asln id n sz sz' e mu q hH hn =>
    intro v hv
    cases hv with
    | asl _ _ _ _ h =>
      have hv := (h _ _ _ _ hH).2 hn
      subst hv
      have hob := hr.ob id
      rw [hH] at hob
      obtain ⟨_, _, _, xs, hown, _⟩ := hob
      obtain ⟨a, cap, h2, _, h3⟩ := ownsRow_slice hown
      rw [h2]
      exact .sl0 sz' q a cap h3
  | agg l ds hl hc h ih =>
    intro v hv
    cases hv with
    | agg _ vs hl' _ h' =>
      refine .agg ds vs (by omega) (fun d hd => List.all_eq_true.1 hc d hd) (fun i d v hd hv => ?_)
      have hi := (List.getElem?_eq_some_iff.1 hd).1
      have hci : l[i]? = some l[i] := List.getElem?_eq_getElem (by omega)
      exact ih i _ d hci hd (h' i _ v hci hv)

/-- Lists of them. -/
inductive RdL (H : Nat → Obj) : List AVal → List D → Prop
  | nil : RdL H [] []
  | cons {c : AVal} {d : D} {l : List AVal} {ds : List D} (h : Rd H c d) (t : RdL H l ds) : RdL H (c :: l) (d :: ds)
theorem RdL.length {H : Nat → Obj} {l : List AVal} {ds : List D} (h : RdL H l ds) : l.length = ds.length := by
  induction h with
  | nil => rfl
  | cons _ _ ih => simp [ih]
theorem RdL.get {H : Nat → Obj} {l : List AVal} {ds : List D} (h : RdL H l ds) : ∀ (i : Nat) (c : AVal) (d : D), l[i]? = some c → ds[i]? = some d → Rd H c d := by
  induction h with
  | nil => intro i c d h; simp at h
  | cons h t ih =>
    intro i c d h1 h2
    cases i with
    | zero => simp at h1 h2; subst h1; subst h2; exact h
    | succ i => simp at h1 h2; exact ih i c d h1 h2
theorem Rd.ofL {H : Nat → Obj} {l : List AVal} {ds : List D} (h : RdL H l ds) (hc : ds.all D.isCell = true) : Rd H (.agg l) (.agg ds) := .agg l ds h.length hc h.get

/-! ### Contracts -/
inductive CA where
  | d (x : D)
  | fn (p : List D → List D → Prop)
def CA.R (P : Program) (w : World) (F : Fz) : CA → Value → Prop
  | .d x, v => VR F w x v
  | .fn p, v => v.oneCell' = true ∧ FnOk P w F v p
def CA.a : CA → AVal
  | .d x => .d x
  | .fn p => .fnv p

/-- A call of f that leaves what was there, and hands back what R lets. -/
def PC (P : Program) (f : FuncId) (w : World) (F : Fz) (args : List CA) (R : List D → Prop) : Prop :=
  WF F w → ∀ vs : List Value, vs.length = args.length → (∀ (i : Nat) (c : CA) (v : Value), args[i]? = some c → vs[i]? = some v → c.R P w F v) → Calls P f vs.toArray w (PostP w F R)

theorem PC.mono {f : FuncId} {w : World} {F : Fz} {args : List CA} {R R' : List D → Prop} (h : PC P f w F args R) (hR : ∀ ds, R ds → R' ds) : PC P f w F args R' :=
  fun hw vs hl hv => Calls.mono (h hw vs hl hv) fun e w' ⟨v, F', ds, h1, h2, h3⟩ => ⟨v, F', ds, h1, hR _ h2, h3⟩

def FunOk (P : Program) (f : FuncId) : Prop := ∃ fn c, P.funcs[f]? = some fn ∧ fn.body = some c ∧ (fn.name == "runtime.NumGoroutine") = false

/-- How an abstract value serves as an argument. -/
inductive Arg (P : Program) (H : Nat → Obj) : AVal → CA → Prop
  | d {c : AVal} {x : D} (h : Rd H c x) : Arg P H c (.d x)
  | fnv (p : List D → List D → Prop) : Arg P H (.fnv p) (.fn p)
  | clo {f : FuncId} {caps : List AVal} {cs : List D} {p : List D → List D → Prop} (hf : FunOk P f) (hc : RdL H caps cs) (h : ∀ w F ds rs, p ds rs → PC P f w F ((ds ++ cs).map .d) (· = rs)) : Arg P H (.clo f caps) (.fn p)
inductive ArgL (P : Program) (H : Nat → Obj) : List AVal → List CA → Prop
  | nil : ArgL P H [] []
  | cons {c : AVal} {d : CA} {l : List AVal} {ds : List CA} (h : Arg P H c d) (t : ArgL P H l ds) : ArgL P H (c :: l) (d :: ds)
theorem ArgL.length {H : Nat → Obj} {l : List AVal} {ds : List CA} (h : ArgL P H l ds) : l.length = ds.length := by
  induction h with
  | nil => rfl
  | cons _ _ ih => simp [ih]
theorem ArgL.get {H : Nat → Obj} {l : List AVal} {ds : List CA} (h : ArgL P H l ds) : ∀ (i : Nat) (c : AVal) (d : CA), l[i]? = some c → ds[i]? = some d → Arg P H c d := by
  induction h with
  | nil => intro i c d h; simp at h
  | cons h t ih =>
    intro i c d h1 h2
    cases i with
    | zero => simp at h1 h2; subst h1; subst h2; exact h
    | succ i => simp at h1 h2; exact ih i c d h1 h2

theorem run_funOk {f : FuncId} (h : FunOk P f) (args : Array Value) (w : World) : (callFunc f args).run P w = .ok (.enter f args) w := by
  obtain ⟨fn, c, h1, h2, h3⟩ := h
  have h4 : ¬ fn.name = "runtime.NumGoroutine" := by simpa using h3
  simp [callFunc, h1, h2, h4, program, Sem.run]

theorem Arg.sound {F : Fz} {ρ : Gh} {H : Nat → Obj} {w : World} (hr : RelH P β F ρ H w) {c : AVal} {d : CA} (h : Arg P H c d) {v : Value} (hv : AVR P β F ρ H w c v) : d.R P w F v := by
  cases h with
  | d h => exact h.sound hr hv
  | fnv p =>
    cases hv with
    | fnv _ _ h1 h => exact ⟨h1, h⟩
  | clo hf hc h =>
    rename_i f caps cs p
    cases hv with
    | clo _ _ vs hl h' =>
      refine ⟨rfl, f, vs, rfl, hf, fun w' F' hE hF hw ds rs us hp hul hu => ?_⟩
      refine h w' F' ds rs hp hw (us ++ vs) (by rw [List.length_map, List.length_append, List.length_append, hul, hl, hc.length]) (fun i c v h1 h2 => ?_)
      rw [List.getElem?_map, List.getElem?_append] at h1
      rw [List.getElem?_append, hul] at h2
      split at h1
      · rename_i hi
        rw [if_pos hi] at h2
        cases hd : ds[i]? with
        | none => simp [hd] at h1
        | some d =>
          simp [hd] at h1
          subst h1
          exact hu i d v hd h2
      · rename_i hi
        rw [if_neg hi] at h2
        cases hd : cs[i - ds.length]? with
        | none => simp [hd] at h1
        | some d =>
          simp [hd] at h1
          subst h1
          have hil := (List.getElem?_eq_some_iff.1 hd).1
          have hil' : i - ds.length < caps.length := by rw [hc.length]; exact hil
          have hci : caps[i - ds.length]? = some caps[i - ds.length] := List.getElem?_eq_getElem hil'
          exact ((hc.get _ _ _ hci hd).sound hr (h' _ _ _ hci h2)).mono hE hF

def resA : List D → AVal
  | [d] => .d d
  | ds => .tup (ds.map .d)

theorem resA_rel {F : Fz} {ρ : Gh} {H : Nat → Obj} {w : World} {ds : List D} {v : Value} (h : ResR F w ds v) : AVR P β F ρ H w (resA ds) v := by
  match ds, h with
  | [d], h => exact .d _ _ h
  | [], ⟨vs, e, hl, h⟩ => subst e; exact .tup _ vs (by simpa using hl) (by simp)
  | x :: y :: l, ⟨vs, e, hl, h9⟩ =>
    subst e
    refine .tup _ vs (by simpa using hl) (fun i c u h1 h2 => ?_)
    rw [List.getElem?_map] at h1
    cases hd : (x :: y :: l)[i]? with
    | none => rw [hd] at h1; cases h1
    | some d =>
      rw [hd] at h1
      cases h1
      exact .d _ _ (h9 i d u hd h2)

/-- The operation of a call, down to the call itself. -/
theorem run_call {w : World} {evc : Operand → Value} {o : Oper} {fo : Operand} {xs : Array Operand} {ats : Array TypeId} {f : FuncId} {caps : Array Value} (ho : o.op = .call { callee := .value fo, args := xs, argTypes := ats }) (hf : evc fo = .func (.func f) #[] caps) (hfn : FunOk P f) :
    (execOp evc o).run P w = .ok (.enter f (xs.map evc ++ caps)) w := by
  simp only [execOp, ho, resolve, Sem.run_bind, Sem.run_pure, Result.andThen_ok, hf, Deferred.ofValue, invoke, Array.empty_append, run_funOk hfn]

theorem g_call {H : Nat → Obj} {o : Oper} {ev : Operand → AVal} {fo : Operand} {xs : Array Operand} {ats : Array TypeId} {f : FuncId} {caps : List AVal} {cas : List CA} {ds : List D} {r : AVal}
    (ho : o.op = .call { callee := .value fo, args := xs, argTypes := ats }) (hf : ev fo = .clo f caps) (hfn : FunOk P f) (ha : ArgL P H (xs.toList.map ev ++ caps) cas) (hr' : resA ds = r) (h : ∀ w F, PC P f w F cas (· = ds)) : GStep P β H o ev r := by
  subst hr'
  intro F ρ w hr evc he K hK
  have h1 := he fo (by simp [ho, Op.operands, Call.operands])
  rw [hf] at h1
  generalize hv : evc fo = v at h1
  cases h1 with
  | clo _ _ vs hl h' =>
    unfold goes
    rw [run_call ho hv hfn]
    have := h w F hr.wf (xs.toList.map evc ++ vs) (by rw [← ha.length, List.length_append, List.length_append, List.length_map, List.length_map, hl]) (fun i c v h2 h3 => ?_)
    · rw [show (xs.toList.map evc ++ vs).toArray = xs.map evc ++ vs.toArray from by simp] at this
      refine Calls.mono this ?_
      rintro e w' ⟨v, F', ds', rfl, rfl, k, hw, hres⟩
      exact ⟨v, rfl, hK v w' F' k hw (resA_rel hres)⟩
    · have hi := (List.getElem?_eq_some_iff.1 h2).1
      rw [← ha.length] at hi
      have hci : (xs.toList.map ev ++ caps)[i]? = some (xs.toList.map ev ++ caps)[i] := List.getElem?_eq_getElem hi
      refine (ha.get i _ c hci h2).sound hr (v := v) ?_
      generalize (xs.toList.map ev ++ caps)[i] = q at hci
      rw [List.getElem?_append, List.length_map] at hci h3
      split at hci
      · rename_i hlt
        rw [if_pos hlt] at h3
        rw [List.getElem?_map] at hci h3
        cases hx : xs.toList[i]? with
        | none => rw [hx] at hci; cases hci
        | some x =>
          rw [hx] at hci h3
          cases hci
          cases h3
          exact he x (by simp [ho, Op.operands, Call.operands]; exact .inr (Array.mem_def.2 (List.mem_of_getElem? hx)))
      · rename_i hlt
        rw [if_neg hlt] at h3
        exact h' _ _ _ hci h3

theorem g_callv {H : Nat → Obj} {o : Oper} {ev : Operand → AVal} {fo : Operand} {xs : Array Operand} {ats : Array TypeId} {p : List D → List D → Prop} {ds rs : List D} {r : AVal}
    (ho : o.op = .call { callee := .value fo, args := xs, argTypes := ats }) (hf : ev fo = .fnv p) (ha : RdL H (xs.toList.map ev) ds) (hp : p ds rs) (hr' : resA rs = r) : GStep P β H o ev r := by
  subst hr'
  intro F ρ w hr evc he K hK
  have h1 := he fo (by simp [ho, Op.operands, Call.operands])
  rw [hf] at h1
  generalize hv : evc fo = v at h1
  cases h1 with
  | fnv _ _ h0 h' =>
    obtain ⟨f, caps, rfl, hfn, h4⟩ := h'
    unfold goes
    rw [run_call ho hv hfn]
    have := h4 w F (Ext.refl F w) (fun _ => Nat.le_refl _) hr.wf ds rs (xs.toList.map evc) hp (by rw [← ha.length, List.length_map, List.length_map]) (fun i d v h2 h3 => ?_)
    · rw [show (xs.toList.map evc ++ caps).toArray = xs.map evc ++ caps.toArray from by simp] at this
      refine Calls.mono this ?_
      rintro e w' ⟨v, F', ds', rfl, rfl, k, hw, hres⟩
      exact ⟨v, rfl, hK v w' F' k hw (resA_rel hres)⟩
    · have hi := (List.getElem?_eq_some_iff.1 h2).1
      rw [← ha.length] at hi
      have hci : (xs.toList.map ev)[i]? = some (xs.toList.map ev)[i] := List.getElem?_eq_getElem hi
      refine (ha.get i _ d hci h2).sound hr (v := v) ?_
      generalize (xs.toList.map ev)[i] = q at hci
      rw [List.getElem?_map] at hci h3
      cases hx : xs.toList[i]? with
      | none => rw [hx] at hci; cases hci
      | some x =>
        rw [hx] at hci h3
        cases hci
        cases h3
        exact he x (by simp [ho, Op.operands, Call.operands]; exact .inr (Array.mem_def.2 (List.mem_of_getElem? hx)))

/-! ### A function's own contract, out of its body -/
def envOf (args : List CA) : Nat → AVal := fun i => match args[i]? with
  | some c => c.a
  | none => .junk

/-- The end of a function whose results lie in temporaries. -/
def RetQ (rs : List Nat) (R : List D → Prop) : Exit → St → Prop
  | .normal, σ | .ret, σ => ∃ ds, RdL σ.H (rs.map σ.env) ds ∧ R ds
  | _, _ => False

theorem run_results {fn : Func} {rs : List Nat} (hrs : fn.results.toList = rs.map .tmp) (tmps : Array Value) (w : World) :
    (results fn tmps).run P w = .ok (if h : (rs.map fun t => tmps.getD t undef).length = 1 then (rs.map fun t => tmps.getD t undef)[0] else .tuple (rs.map fun t => tmps.getD t undef).toArray) w := by
  have hfn : fn.results = (rs.map ResultVar.tmp).toArray := by rw [← hrs]
  have key : ∀ (l : List Nat), (l.mapM fun t => (pure (tmps.getD t undef) : Sem Value)).run P w = .ok (l.map fun t => tmps.getD t undef) w := by
    intro l
    induction l with
    | nil => simp
    | cons x l ih => simp only [List.mapM_cons, Sem.run_bind, Sem.run_pure, Result.andThen_ok, ih, List.map_cons]
  unfold results
  rw [hfn]
  simp only [List.mapM_toArray, List.mapM_map, Function.comp_def, Sem.run_bind]
  have h2 : (List.toArray <$> List.mapM (fun t => (pure (tmps.getD t undef) : Sem Value)) rs).run P w = .ok (rs.map fun t => tmps.getD t undef).toArray w := by
    rw [← bind_pure_comp, Sem.run_bind, key, Result.andThen_ok]
    rfl
  rw [h2, Result.andThen_ok]
  simp only [Sem.run_pure, List.size_toArray, List.getElem_toArray]

theorem PC_of_T {f : FuncId} {fn : Func} {c : Code} {rs : List Nat} {w : World} {F : Fz} {args : List CA} {R : List D → Prop} (hf : P.funcs[f]? = some fn) (hb : fn.body = some c) (hrs : fn.results.toList = rs.map .tmp) (hn : args.length ≤ fn.ntmps)
    (h : T P { w0 := w, F0 := F, M := noM, n := fn.ntmps } c (RetQ rs R) ⟨envOf args, H0⟩) : PC P f w F args R := by
  intro hw vs hl hv
  refine calls_of_wp hf hb ?_
  have hrel : Rel P { w0 := w, F0 := F, M := noM, n := fn.ntmps } F ⟨fun _ => 0, fun _ => undef⟩ ⟨envOf args, H0⟩ { tmps := vs.toArray ++ Array.replicate (fn.ntmps - vs.toArray.size) undef, defers := [] } w := by
    refine ⟨⟨fun i => trivial, fun i j b _ h => (by cases h), hw, hw, Kept.refl _ _ _, fun i h => by cases h⟩, fun i => ?_, rfl, by simp; omega⟩
    cases hc : args[i]? with
    | none => simp only [envOf, hc]; exact .junk _
    | some ca =>
      have hi := (List.getElem?_eq_some_iff.1 hc).1
      have hvi : vs[i]? = some vs[i] := List.getElem?_eq_getElem (by omega)
      have hget : (vs.toArray ++ Array.replicate (fn.ntmps - vs.toArray.size) undef).getD i undef = vs[i] := by
        rw [Array.getD_eq_getD_getElem?, Array.getElem?_append_left (by simp; omega)]
        simp [hvi]
      simp only [envOf, hc]
      rw [hget]
      have := hv i ca _ hc hvi
      cases ca with
      | d x => exact .d _ _ this
      | fn p => exact .fnv (β := { w0 := w, F0 := F, M := noM, n := fn.ntmps }) _ _ this.1 this.2
  refine wp_mono (h F _ _ w hrel) ?_
  rintro e a' w' ⟨F', ρ', σ', hq, hr'⟩
  have fin : (∃ ds, RdL σ'.H (rs.map σ'.env) ds ∧ R ds) → a'.defers = [] ∧ ∃ v, (results fn a'.tmps).run P w' = .ok v w' ∧ PostP w F R (.returned v) w' := by
    rintro ⟨ds, hds, hR⟩
    refine ⟨hr'.df, _, run_results hrs _ _, _, F', ds, rfl, hR, hr'.h.kept, hr'.h.wf, ?_⟩
    have hlen : rs.length = ds.length := by have := hds.length; simpa using this
    have hall : ∀ (i : Nat) (d : D) (x : Value), ds[i]? = some d → (rs.map fun t => a'.tmps.getD t undef)[i]? = some x → VR F' w' d x := by
      intro i d x hd hx
      rw [List.getElem?_map] at hx
      cases ht : rs[i]? with
      | none => rw [ht] at hx; cases hx
      | some t =>
        rw [ht] at hx
        cases hx
        exact (hds.get i (σ'.env t) d (by rw [List.getElem?_map, ht]; rfl) hd).sound hr'.h (hr'.tm t)
    match ds, hlen with
    | [d], hlen =>
      have h1 : (rs.map fun t => a'.tmps.getD t undef).length = 1 := by simpa using hlen
      rw [dif_pos h1]
      exact hall 0 d _ rfl (List.getElem?_eq_getElem (by omega))
    | [], hlen =>
      have h1 : ¬ (rs.map fun t => a'.tmps.getD t undef).length = 1 := by simp at hlen ⊢; rw [hlen]; simp
      rw [dif_neg h1]
      exact ⟨_, rfl, by simpa using hlen, hall⟩
    | x :: y :: l, hlen =>
      have h1 : ¬ (rs.map fun t => a'.tmps.getD t undef).length = 1 := by simp at hlen ⊢; omega
      rw [dif_neg h1]
      exact ⟨_, rfl, by simpa using hlen, hall⟩
  cases e with
  | normal => exact fin hq
  | ret => exact fin hq
  | _ => exact hq.elim

end Go.Q
