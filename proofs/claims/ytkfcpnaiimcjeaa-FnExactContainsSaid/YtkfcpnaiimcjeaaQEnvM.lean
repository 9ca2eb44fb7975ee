/- Environments that are maps, and a field of a value. No condition. -/
import Derived.Test.YtkfcpnaiimcjeaaQCarry
import Derived.Test.YtkfcpnaiimcjeaaQRec
set_option linter.unusedVariables false
set_option linter.unusedSimpArgs false
namespace Go.Q
open Go.RowKit
variable {P : Program} {β : Base}
def Env.es (E : Env) : List D := E.map fun p => p.2.d
def kd (ns : List Bs) : List D := ns.map fun k => D.s (str k)
def Env.md (E : Env) : D := .mp (kd E.ns) E.es
theorem look_env (n : Bs) : ∀ (E : Env), look E.ns E.es n = (E.get n).map Exp.d
  | [] => rfl
  | (k, x) :: t => by
    have ih := look_env n t
    simp only [Env.ns, Env.es, List.map_cons, look, Env.get] at ih ⊢
    split
    · rfl
    · exact ih
def e0 : Exp := ⟨0, [], []⟩
def lkE (r : Option Exp) : AVal := .tup [.d (r.getD e0).d, .d (db r.isSome)]
theorem lookR_env {E : Env} {ns : List Bs} {es : List D} {n : Bs} {r : Option Exp} (h1 : ns = E.ns) (h2 : es = E.es) (hr : E.get n = r) : lookR e0.d true (look ns es n) = lkE r := by
  rw [h1, h2, look_env, hr]; cases r <;> rfl
theorem lookR_env1 {E : Env} {n : Bs} {v : Exp} (hr : E.get n = some v) : lookR e0.d false (look E.ns E.es n) = .d v.d := by
  rw [look_env, hr]; rfl
theorem e0_cd : CDL [.int .i64 0, .string ⟨#[]⟩, .slice none 0 0] e0.d.cells := .cons (.s _ rfl) (.cons (.s _ rfl) (.cons (.sl _ _) .nil))
theorem e0_vr (F : Fz) (w : World) : VR F w e0.d (.agg #[.int .i64 0, .string ⟨#[]⟩, .slice none 0 0]) := by
  refine .agg [di 0, ds [], dints []] [.int .i64 0, .string ⟨#[]⟩, .slice none 0 0] rfl (by simp [D.isCell]) (fun i d v hd hv => ?_)
  match i with
  | 0 => simp at hd hv; subst hd; subst hv; exact .s _ rfl
  | 1 => simp at hd hv; subst hd; subst hv; exact .s _ rfl
  | 2 => simp at hd hv; subst hd; subst hv; exact .sl0 _ _ _ _ (by decide)
  | i + 3 => simp at hd
theorem get_notin {E : Env} {ns : List Bs} {n : Bs} (h : ns = E.ns) (hr : E.get n = none) : n ∉ ns := by
  rw [h]; exact Env.get_none.1 hr
theorem put1_oldS {x y v : Exp} {E : Env} (h1 : x.kind = 1) (hg : E.get x.text = some v) : put1 x y E = if v.kind = y.kind ∧ v.text = y.text then some E else none := by
  unfold put1; rw [if_pos h1, hg]
  simp only [Exp.same, Bool.and_eq_true, decide_eq_true_eq]
theorem put1_termS {x y : Exp} {E : Env} (h1 : x.kind ≠ 1) : put1 x y E = if x.kind = y.kind ∧ x.text = y.text then some E else none := by
  unfold put1; rw [if_neg h1]
  simp only [Exp.same, Bool.and_eq_true, decide_eq_true_eq]

theorem bec_ret {a b : Rule} {l o : Lit} {E E2 : Env} {t : Bool} {cs : List AVal} {os : List Obj} {ns : List Bs} {es : List D} (h : becP a b l o E = (E2, t)) (h1 : cs = [.d (db t)]) (h2 : os = [.map (kd ns) es]) (h4 : ns = E2.ns) (h5 : es = E2.es) : cs = [.d (db (becP a b l o E).2)] ∧ os = [.map (kd (becP a b l o E).1.ns) (becP a b l o E).1.es] := by
  subst h4; subst h5; rw [h]; exact ⟨h1, h2⟩

def mpO : Option Env → D
  | some E => E.md
  | none => .s (.map none)
/-- The address of a rule that is written no more. -/
abbrev Rule.at (a : Rule) : D := .pt [dexps a.exps, di a.head.kind, ds a.head.name, dints a.head.args, dlits a.body] 0
/-- What the function that tries the body's literals answers, from the jth on. -/
def pk (a b : Rule) (j : Nat) (as rs : List D) : Prop := ∃ E : Env, as = [di (j : Int), E.md] ∧ rs = [mpO (way a b (a.body.drop j) E), db (way a b (a.body.drop j) E).isSome]
theorem wayR_some {a b : Rule} {ls : List Lit} {E : Env} : (wayR a b ls E).2 = (way a b ls E).isSome := by
  unfold wayR; cases way a b ls E <;> rfl
theorem wayM_over {a b : Rule} {j : Nat} {E : Env} (h : j = a.body.length) : way a b (a.body.drop j) E = some E := by
  subst h; simp [way]
theorem wayM_found {a b : Rule} {i k : Nat} {l o : Lit} {E E2 : Env} (hl : a.body[i]? = some l) (h : ∀ j y, j < k → b.body[j]? = some y → (becomes a b l y E).bind (way a b (a.body.drop (i + 1))) = none) (ho : b.body[k]? = some o) (hb : (becP a b l o E).2 = true) (hE : (becP a b l o E).1 = E2) (hw : (way a b (a.body.drop (i + 1)) E2).isSome = true) :
    way a b (a.body.drop i) E = way a b (a.body.drop (i + 1)) E2 := by
  obtain ⟨E3, h3⟩ := Option.isSome_iff_exists.1 hw
  rw [h3, way_at hl]
  exact fs_at h ho (r := E3) (by rw [becP_becomes, if_pos hb, hE]; exact h3)
theorem wayM_none {a b : Rule} {i k : Nat} {l : Lit} {E : Env} (hl : a.body[i]? = some l) (h : ∀ j y, j < k → b.body[j]? = some y → (becomes a b l y E).bind (way a b (a.body.drop (i + 1))) = none) (hk : ¬ k < b.body.length) : way a b (a.body.drop i) E = none := by
  rw [way_at hl]; exact fs_none h hk

theorem carriesM_nw {a b : Rule} (ha : a.plain = true) (hb : b.plain = true) (h : (becP a b a.head b.head []).2 = true) (hw : (way a b (a.body.drop 0) (becP a b a.head b.head []).1).isSome = false) : a.carries b = none :=
  carries_nw ha hb h (by rw [wayR_some]; exact hw)
theorem carriesM_yes {a b : Rule} {E2 : Env} (ha : a.plain = true) (hb : b.plain = true) (h : (becP a b a.head b.head []).2 = true) (hw : way a b (a.body.drop 0) (becP a b a.head b.head []).1 = some E2) :
    a.carries b = some ⟨a.vars, a.vars.map fun n => ((E2.get n).map (·.text)).getD []⟩ ∧ ∀ n, n ∈ a.vars → ∃ v, E2.get n = some v :=
  carries_yes ha hb h (by rw [wayR_some, hw]; rfl) (by unfold wayR; rw [hw])

theorem PC.at {f : FuncId} {w : World} {F : Fz} {args : List CA} {R : List D → Prop} (h : PC P f w F args R) (hw : WF F w) (vs : List Value) (hl : vs.length = args.length) (hv : ∀ (i : Nat) (c : CA) (v : Value), args[i]? = some c → vs[i]? = some v → c.R P w F v) : Calls P f vs.toArray w (PostP w F R) := h hw vs hl hv

/-- A field of one cell of a struct that is a value. -/
def FieldC (P : Program) (s f off : Nat) : Prop := ∃ fs fl, P.underlying s = some (.struct fs) ∧ fs[f]? = some fl ∧ fl.offset = off ∧ CellT P fl.type
theorem g_fieldv {H : Nat → Obj} {o : Oper} {ev : Operand → AVal} {s f off : Nat} {l : List D} {d : D} {x : Operand} (ho : o.op = .field s x f) (hx : ev x = .d (.agg l)) (hf : FieldC P s f off) (hd : l[off]? = some d) : GStep P β H o ev (.d d) := by
  obtain ⟨fs, fl, h1, h2, h3, t, h4, h5, h6⟩ := hf
  refine .val fun F ρ w hr evc he => ?_
  have e1 := he x (by simp [ho, Op.operands])
  rw [hx] at e1
  generalize hv : evc x = v at e1
  cases e1 with
  | d _ _ e1 =>
  cases e1 with
  | agg _ vs hl hc h =>
    have hi := (List.getElem?_eq_some_iff.1 hd).1
    have hvi : vs[off]? = some (vs[off]'(by omega)) := List.getElem?_eq_getElem (by omega)
    refine ⟨vs[off]'(by omega), ?_, .d _ _ (h off d _ hd hvi)⟩
    simp only [execOp, ho, hv, Instr.field, Sem.run_bind, run_underlying h1, Result.andThen_ok, h2, asAgg, Sem.run_pure, part, run_isAgg h4, h5, h3]
    simp [hvi]
end Go.Q
