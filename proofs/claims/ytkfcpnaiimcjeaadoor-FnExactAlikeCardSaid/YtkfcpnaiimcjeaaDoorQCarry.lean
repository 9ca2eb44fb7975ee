/- Carrying one plain rule to another, as plain Lean. No program in sight. -/
import Derived.Test.YtkfcpnaiimcjeaaDoorQSet
set_option linter.unusedVariables false
set_option linter.unusedSimpArgs false
namespace Go.Q
abbrev Env := List (Bs × Exp)
def Env.get (n : Bs) : Env → Option Exp
  | [] => none
  | (k, v) :: t => if k = n then some v else Env.get n t
def Exp.same (x y : Exp) : Bool := decide (x.kind = y.kind) && decide (x.text = y.text)
/-- One place: what stands for the variable, or whether the two are the same. -/
def put1 (x y : Exp) (E : Env) : Option Env :=
  if x.kind = 1 then match E.get x.text with
    | none => some (E ++ [(x.text, y)])
    | some h => if h.same y then some E else none
  else if x.same y then some E else none
def putL (a b : Rule) : List (Int × Int) → Env → Option Env
  | [], E => some E
  | p :: ps, E => (put1 (expAt a p.1) (expAt b p.2) E).bind (putL a b ps)
def becomes (a b : Rule) (l o : Lit) (E : Env) : Option Env :=
  if l.name = o.name ∧ l.args.length = o.args.length then putL a b (l.args.zip o.args) E else none
def way (a b : Rule) : List Lit → Env → Option Env
  | [], E => some E
  | l :: ls, E => b.body.findSome? fun o => (becomes a b l o E).bind (way a b ls)
def Rule.vars (r : Rule) : List Bs := r.exps.foldl (fun l e => if e.kind = 1 ∧ e.text ∉ l then l ++ [e.text] else l) []
def Rule.carries (a b : Rule) : Option Match :=
  if a.plain ∧ b.plain then
    ((becomes a b a.head b.head []).bind (way a b a.body)).map fun E => ⟨a.vars, a.vars.map fun n => ((E.get n).map (·.text)).getD []⟩
  else none

/-! ### What is in an environment -/
def Env.keys (E : Env) : List Bs := E.map (·.1)
theorem Env.get_mem {n : Bs} {v : Exp} : ∀ {E : Env}, E.get n = some v → (n, v) ∈ E
  | (k, x) :: t, h => by
    simp only [Env.get] at h
    split at h
    · rename_i hk; cases h; rw [hk]; exact List.mem_cons_self
    · exact List.mem_cons_of_mem _ (Env.get_mem h)
theorem Env.get_none {n : Bs} : ∀ {E : Env}, E.get n = none ↔ n ∉ E.keys
  | [] => by simp [Env.get, Env.keys]
  | (k, x) :: t => by
    have ih := Env.get_none (n := n) (E := t)
    simp only [Env.get, Env.keys, List.map_cons, List.mem_cons, not_or] at *
    by_cases h : k = n
    · simp [h]
    · have : ¬ n = k := fun e => h e.symm
      simp [h, this, ih]
theorem Env.get_append {n : Bs} {E F : Env} : Env.get n (E ++ F) = (E.get n).or (F.get n) := by
  induction E with
  | nil => rfl
  | cons p t ih =>
    obtain ⟨k, v⟩ := p
    simp only [List.cons_append, Env.get]
    split
    · rfl
    · exact ih
/-- Later environments hold the earlier ones. -/
def Env.Sub (E F : Env) : Prop := ∀ n v, E.get n = some v → F.get n = some v
theorem Env.Sub.refl (E : Env) : Env.Sub E E := fun _ _ h => h
theorem Env.Sub.trans {E F G : Env} (h : Env.Sub E F) (k : Env.Sub F G) : Env.Sub E G := fun n v e => k n v (h n v e)
theorem put1_sub {x y : Exp} {E E' : Env} (h : put1 x y E = some E') : Env.Sub E E' := by
  unfold put1 at h
  intro n v hn
  split at h
  · split at h
    · cases h; rw [Env.get_append, hn]; rfl
    · split at h <;> cases h; exact hn
  · split at h <;> cases h; exact hn
theorem putL_sub {a b : Rule} : ∀ {ps : List (Int × Int)} {E E' : Env}, putL a b ps E = some E' → Env.Sub E E'
  | [], E, E', h => by cases h; exact .refl _
  | p :: ps, E, E', h => by
    simp only [putL, Option.bind_eq_some_iff] at h
    obtain ⟨F, h1, h2⟩ := h
    exact (put1_sub h1).trans (putL_sub h2)
theorem becomes_sub {a b : Rule} {l o : Lit} {E E' : Env} (h : becomes a b l o E = some E') : Env.Sub E E' := by
  unfold becomes at h
  split at h
  · exact putL_sub h
  · cases h
theorem way_sub {a b : Rule} : ∀ {ls : List Lit} {E E' : Env}, way a b ls E = some E' → Env.Sub E E'
  | [], E, E', h => by cases h; exact .refl _
  | l :: ls, E, E', h => by
    simp only [way] at h
    obtain ⟨o, ho, h1⟩ := List.exists_of_findSome?_eq_some h
    simp only [Option.bind_eq_some_iff] at h1
    obtain ⟨F, h1, h2⟩ := h1
    exact (becomes_sub h1).trans (way_sub h2)
theorem put1_has {x y : Exp} {E E' : Env} (h : put1 x y E = some E') (hx : x.kind = 1) : ∃ v, E'.get x.text = some v := by
  unfold put1 at h
  rw [if_pos hx] at h
  split at h
  · rename_i hn
    cases h
    exact ⟨y, by rw [Env.get_append, hn]; simp [Env.get]⟩
  · rename_i v hv
    split at h <;> cases h
    exact ⟨v, hv⟩
theorem putL_has {a b : Rule} : ∀ {ps : List (Int × Int)} {E E' : Env}, putL a b ps E = some E' → ∀ p ∈ ps, (expAt a p.1).kind = 1 → ∃ v, E'.get (expAt a p.1).text = some v
  | p :: ps, E, E', h, q, hq, hk => by
    simp only [putL, Option.bind_eq_some_iff] at h
    obtain ⟨F, h1, h2⟩ := h
    rcases List.mem_cons.1 hq with rfl | hq
    · obtain ⟨v, hv⟩ := put1_has h1 hk
      exact ⟨v, putL_sub h2 _ _ hv⟩
    · exact putL_has h2 q hq hk
theorem becomes_has {a b : Rule} {l o : Lit} {E E' : Env} (h : becomes a b l o E = some E') : ∀ n ∈ l.args, (expAt a n).kind = 1 → ∃ v, E'.get (expAt a n).text = some v := by
  intro n hn hk
  unfold becomes at h
  split at h
  · rename_i hc
    obtain ⟨i, hi⟩ := List.getElem?_of_mem hn
    have hil := (List.getElem?_eq_some_iff.1 hi).1
    have : (n, o.args[i]'(by omega)) ∈ l.args.zip o.args := by
      refine List.mem_of_getElem? (i := i) ?_
      rw [List.getElem?_zip_eq_some]
      exact ⟨hi, List.getElem?_eq_getElem (by omega)⟩
    exact putL_has h _ this hk
  · cases h
theorem way_has {a b : Rule} : ∀ {ls : List Lit} {E E' : Env}, way a b ls E = some E' → ∀ n ∈ argsOf ls, (expAt a n).kind = 1 → ∃ v, E'.get (expAt a n).text = some v
  | l :: ls, E, E', h, n, hn, hk => by
    simp only [way] at h
    obtain ⟨o, ho, h1⟩ := List.exists_of_findSome?_eq_some h
    simp only [Option.bind_eq_some_iff] at h1
    obtain ⟨F, h1, h2⟩ := h1
    rw [show argsOf (l :: ls) = l.args ++ argsOf ls from rfl, List.mem_append] at hn
    rcases hn with hn | hn
    · obtain ⟨v, hv⟩ := becomes_has h1 n hn hk
      exact ⟨v, way_sub h2 _ _ hv⟩
    · exact way_has h2 n hn hk

/-! ### The names -/
theorem vars_mem {r : Rule} {n : Bs} : n ∈ r.vars ↔ ∃ e ∈ r.exps, e.kind = 1 ∧ e.text = n := by
  have key : ∀ (es : List Exp) (l : List Bs), n ∈ es.foldl (fun l e => if e.kind = 1 ∧ e.text ∉ l then l ++ [e.text] else l) l ↔ n ∈ l ∨ ∃ e ∈ es, e.kind = 1 ∧ e.text = n := by
    intro es
    induction es with
    | nil => intro l; simp
    | cons e es ih =>
      intro l
      rw [List.foldl_cons, ih]
      by_cases h : e.kind = 1 ∧ e.text ∉ l
      · rw [if_pos h]
        simp only [List.mem_append, List.mem_cons, List.not_mem_nil, or_false, exists_eq_or_imp]
        constructor
        · rintro ((h1 | h1) | h1)
          · exact .inl h1
          · exact .inr (.inl ⟨h.1, h1.symm⟩)
          · exact .inr (.inr h1)
        · rintro (h1 | ⟨_, h1⟩ | h1)
          · exact .inl (.inl h1)
          · exact .inl (.inr h1.symm)
          · exact .inr h1
      · rw [if_neg h]
        simp only [List.mem_cons, exists_eq_or_imp]
        constructor
        · rintro (h1 | h1)
          · exact .inl h1
          · exact .inr (.inr h1)
        · rintro (h1 | ⟨h2, h1⟩ | h1)
          · exact .inl h1
          · subst h1
            exact .inl (by
              by_cases hm : e.text ∈ l
              · exact hm
              · exact absurd ⟨h2, hm⟩ h)
          · exact .inr h1
  have := key r.exps []
  simpa [Rule.vars] using this

/-- In a plain rule each variable stands in the head or in the body. -/
theorem plain_arg {r : Rule} (h : r.plain = true) {i : Nat} {e : Exp} (he : r.exps[i]? = some e) : (i : Int) ∈ argsOf r.lits := by
  have hf : r.formed = true := by
    simp only [Rule.plain, Bool.and_eq_true, decide_eq_true_eq] at h
    exact text_formed h.1.1.1.1
  have hi := (List.getElem?_eq_some_iff.1 he).1
  have h1 := uses_one hf (j := (i : Int)) (by omega) (by omega)
  have hm : (i : Int) ∈ r.uses := by
    rw [← List.count_pos_iff]; omega
  rw [Rule.uses, List.mem_append] at hm
  rcases hm with hm | hm
  · exfalso
    simp only [kidsOf, List.mem_flatMap] at hm
    obtain ⟨x, hx, hk⟩ := hm
    obtain ⟨j, hj⟩ := List.getElem?_of_mem hx
    have hok := exp_ok hf hj
    simp only [Rule.plain, Bool.and_eq_true] at h
    have hkd := List.all_eq_true.1 h.1.2 x hx
    simp only [Exp.ok, Exp.badKind, Bool.and_eq_true, Bool.not_eq_true', Bool.or_eq_false_iff, Bool.and_eq_false_iff] at hok
    have h2 := hok.2.2
    have hl : 0 < x.kids.length := List.length_pos_of_mem hk
    simp only [Bool.or_eq_true, decide_eq_true_eq] at hkd
    simp only [inR, Bool.and_eq_false_iff, decide_eq_false_iff_not] at h2
    omega
  · exact hm
theorem plain_var {r : Rule} (h : r.plain = true) {n : Bs} (hn : n ∈ r.vars) : ∃ k ∈ argsOf r.lits, (expAt r k).kind = 1 ∧ (expAt r k).text = n := by
  obtain ⟨e, he, hk, ht⟩ := vars_mem.1 hn
  obtain ⟨i, hi⟩ := List.getElem?_of_mem he
  refine ⟨(i : Int), plain_arg h hi, ?_⟩
  rw [expAt_of (e := e) (by simpa using hi)]
  exact ⟨hk, ht⟩
theorem carries_get {a b : Rule} {E F : Env} (h : a.plain = true) (h1 : becomes a b a.head b.head [] = some E) (h2 : way a b a.body E = some F) {n : Bs} (hn : n ∈ a.vars) : ∃ v, F.get n = some v := by
  obtain ⟨k, hk, h3, h4⟩ := plain_var h hn
  rw [← h4]
  rw [show argsOf a.lits = a.head.args ++ argsOf a.body from rfl, List.mem_append] at hk
  rcases hk with hk | hk
  · obtain ⟨v, hv⟩ := becomes_has h1 k hk h3
    exact ⟨v, way_sub h2 _ _ hv⟩
  · exact way_has h2 k hk h3

/-! ### The two forms of the program -/
/-- All exps that are put are variables or terms. -/
def Env.fine (E : Env) : Prop := ∀ p ∈ E, p.2.kind = 1 ∨ p.2.kind = 3
theorem vt_same {x y : Exp} (hx : x.kind = 1 ∨ x.kind = 3) (hy : y.kind = 1 ∨ y.kind = 3) : decide (vt x = vt y) = x.same y := by
  unfold vt Exp.same
  rcases hx with hx | hx <;> rcases hy with hy | hy <;> rw [hx, hy] <;> simp

/-! ### What is left where it does not fit -/
def putLP (a b : Rule) : List (Int × Int) → Env → Env × Bool
  | [], E => (E, true)
  | p :: ps, E => match put1 (expAt a p.1) (expAt b p.2) E with
    | some E' => putLP a b ps E'
    | none => (E, false)
def becP (a b : Rule) (l o : Lit) (E : Env) : Env × Bool := if l.name = o.name ∧ l.args.length = o.args.length then putLP a b (l.args.zip o.args) E else (E, false)
theorem putLP_putL {a b : Rule} : ∀ (ps : List (Int × Int)) (E : Env), putL a b ps E = if (putLP a b ps E).2 then some (putLP a b ps E).1 else none
  | [], E => rfl
  | p :: ps, E => by
    simp only [putL, putLP]
    obtain ⟨r, hr⟩ : ∃ r, put1 (expAt a p.1) (expAt b p.2) E = r := ⟨_, rfl⟩
    simp only [hr]
    cases r with
    | none => rfl
    | some E' => simpa using putLP_putL ps E'
theorem becP_becomes {a b : Rule} {l o : Lit} {E : Env} : becomes a b l o E = if (becP a b l o E).2 then some (becP a b l o E).1 else none := by
  unfold becomes becP
  split
  · exact putLP_putL _ _
  · rfl
theorem putLP_append {a b : Rule} : ∀ (ps qs : List (Int × Int)) (E E' : Env), putLP a b ps E = (E', true) → putLP a b (ps ++ qs) E = putLP a b qs E'
  | [], qs, E, E', h => by cases h; rfl
  | p :: ps, qs, E, E', h => by
    simp only [putLP, List.cons_append] at h ⊢
    cases hp : put1 (expAt a p.1) (expAt b p.2) E with
    | none => rw [hp] at h; cases h
    | some E2 => rw [hp] at h; exact putLP_append ps qs E2 E' h
/-- One round more. -/
theorem bec_next {a b : Rule} {l o : Lit} {E E' E2 : Env} {k : Nat} {n m : Int} {x y : Exp} (hn : l.args[k]? = some n) (hm : o.args[k]? = some m) (hx : expAt a n = x) (hy : expAt b m = y) (h : putLP a b ((l.args.zip o.args).take k) E = (E', true)) (hp : put1 x y E' = some E2) : putLP a b ((l.args.zip o.args).take (k + 1)) E = (E2, true) := by
  have hz : (l.args.zip o.args)[k]? = some (n, m) := by rw [List.getElem?_zip_eq_some]; exact ⟨hn, hm⟩
  rw [List.take_add_one, hz, putLP_append _ _ _ _ h]
  simp only [Option.toList, putLP, hx, hy, hp]
theorem bec_fail {a b : Rule} {l o : Lit} {E E' : Env} {k : Nat} {n m : Int} {x y : Exp} (hl : l.name = o.name ∧ l.args.length = o.args.length) (hn : l.args[k]? = some n) (hm : o.args[k]? = some m) (hx : expAt a n = x) (hy : expAt b m = y) (h : putLP a b ((l.args.zip o.args).take k) E = (E', true)) (hp : put1 x y E' = none) : becP a b l o E = (E', false) := by
  have hz : (l.args.zip o.args)[k]? = some (n, m) := by rw [List.getElem?_zip_eq_some]; exact ⟨hn, hm⟩
  rw [becP, if_pos hl, ← List.take_append_drop k (l.args.zip o.args), putLP_append _ _ _ _ h]
  obtain ⟨hk, hz'⟩ := List.getElem?_eq_some_iff.1 hz
  rw [List.drop_eq_getElem_cons hk, hz']
  simp only [putLP, hx, hy, hp]
theorem bec_end {a b : Rule} {l o : Lit} {E E' : Env} {k : Nat} (hl : l.name = o.name ∧ l.args.length = o.args.length) (hk : ¬ k < l.args.length) (h : putLP a b ((l.args.zip o.args).take k) E = (E', true)) : becP a b l o E = (E', true) := by
  rw [List.take_of_length_le (by simp; omega)] at h
  rw [becP, if_pos hl, h]
theorem bec_no {a b : Rule} {l o : Lit} {E : Env} (hl : ¬ (l.name = o.name ∧ l.args.length = o.args.length)) : becP a b l o E = (E, false) := by rw [becP, if_neg hl]

/-! ### The reference's environments -/
def Env.ns (E : Env) : List Bs := E.map (·.1)
def Env.vs (E : Env) : List Bs := E.map fun p => vt p.2
def Env.ds (E : Env) : D := .agg [dstrs E.ns, dstrs E.vs]
def gv : Option Exp → Bs
  | some e => vt e
  | none => []
theorem env_at {E : Env} {n : Bs} {k : Nat} {p : Bs × Exp} (h : ∀ j q, j < k → E[j]? = some q → q.1 ≠ n) (hp : E[k]? = some p) (hn : p.1 = n) : E.get n = some p.2 := by
  induction E generalizing k with
  | nil => simp at hp
  | cons q t ih =>
    obtain ⟨q1, q2⟩ := q
    cases k with
    | zero => simp at hp; subst hp; dsimp only at hn; simp [Env.get, hn]
    | succ k =>
      have h0 := h 0 _ (by omega) rfl
      dsimp only at h0
      rw [Env.get, if_neg h0]
      exact ih (k := k) (fun j q hj hq => h (j + 1) q (by omega) (by simpa using hq)) (by simpa using hp)
theorem env_out {E : Env} {n : Bs} {k : Nat} (h : ∀ j q, j < k → E[j]? = some q → q.1 ≠ n) (hk : ¬ k < E.length) : E.get n = none := by
  rw [Env.get_none]
  intro hm
  obtain ⟨q, hq, he⟩ : ∃ q : Bs × Exp, q ∈ E ∧ q.1 = n := List.mem_map.1 hm
  obtain ⟨j, hj⟩ := List.getElem?_of_mem hq
  have h1 : j < E.length := (List.getElem?_eq_some_iff.1 hj).1
  have h2 : j < k := Nat.lt_of_lt_of_le h1 (Nat.not_lt.1 hk)
  exact h j q h2 hj he
def Exp.vk (e : Exp) : Prop := e.kind = 1 ∨ e.kind = 3
theorem fine_get {E : Env} (h : E.fine) {n : Bs} {v : Exp} (hg : E.get n = some v) : v.vk := h _ (Env.get_mem hg)
theorem fine_put {E E2 : Env} {x y : Exp} (h : E.fine) (hy : y.vk) (hp : put1 x y E = some E2) : E2.fine := by
  unfold put1 at hp
  split at hp
  · split at hp
    · cases hp
      intro p hp
      rcases List.mem_append.1 hp with hp | hp
      · exact h p hp
      · simp at hp; subst hp; exact hy
    · split at hp <;> cases hp; exact h
  · split at hp <;> cases hp; exact h
theorem len_put {E E2 : Env} {x y : Exp} (hp : put1 x y E = some E2) : E2.length ≤ E.length + 1 := by
  unfold put1 at hp
  split at hp
  · split at hp
    · cases hp; simp
    · split at hp <;> cases hp; omega
  · split at hp <;> cases hp; omega
/-- Of a place that is no variable. -/
theorem put1_term {x y : Exp} {E : Env} (hx : x.vk) (hy : y.vk) (h1 : x.kind ≠ 1) : put1 x y E = if decide (([116] : Bs) ++ x.text = vt y) then some E else none := by
  unfold put1
  rw [if_neg h1]
  have hx3 : x.kind = 3 := by rcases hx with h | h; exact absurd h h1; exact h
  have : x.same y = decide (([116] : Bs) ++ x.text = vt y) := by
    rw [← vt_same hx hy]; simp [vt, hx3]
  rw [this]
theorem put1_new {x y : Exp} {E : Env} (h1 : x.kind = 1) (hg : E.get x.text = none) : put1 x y E = some (E ++ [(x.text, y)]) := by
  unfold put1; rw [if_pos h1, hg]
theorem put1_old {x y v : Exp} {E : Env} (hE : E.fine) (hy : y.vk) (h1 : x.kind = 1) (hg : E.get x.text = some v) : put1 x y E = if decide (vt v = vt y) then some E else none := by
  unfold put1; rw [if_pos h1, hg]
  have := vt_same (fine_get hE hg) hy
  rw [this]
theorem plain_vk {r : Rule} (h : r.plain = true) {e : Exp} (he : e ∈ r.exps) : e.vk := by
  simp only [Rule.plain, Bool.and_eq_true] at h
  have := List.all_eq_true.1 h.1.2 e he
  simpa [Exp.vk] using this
theorem plain_formed {r : Rule} (h : r.plain = true) : r.formed = true := by
  simp only [Rule.plain, Bool.and_eq_true, decide_eq_true_eq] at h
  exact text_formed h.1.1.1.1
/-- A literal that may be held against others. -/
def LitIn (r : Rule) (l : Lit) : Prop := ∀ k ∈ l.args, 0 ≤ k ∧ ∃ e, r.exps[k.toNat]? = some e ∧ e.vk
theorem plain_lit {r : Rule} (h : r.plain = true) {l : Lit} (hl : l ∈ r.lits) : LitIn r l := by
  intro k hk
  obtain ⟨h0, e, he⟩ := lit_exp (plain_formed h) hl hk
  exact ⟨h0, e, he, plain_vk h (List.mem_of_getElem? he)⟩

def wayR (a b : Rule) (ls : List Lit) (E : Env) : Env × Bool := match way a b ls E with
  | some E' => (E', true)
  | none => (E, false)
theorem fs_at {α γ : Type} {f : α → Option γ} {r : γ} : ∀ {l : List α} {k : Nat} {x : α}, (∀ j y, j < k → l[j]? = some y → f y = none) → l[k]? = some x → f x = some r → l.findSome? f = some r
  | y :: l, 0, x, _, hx, hf => by simp at hx; subst hx; simp [List.findSome?, hf]
  | y :: l, k + 1, x, h, hx, hf => by
    rw [List.findSome?_cons, h 0 y (by omega) rfl]
    exact fs_at (k := k) (fun j z hj hz => h (j + 1) z (by omega) (by simpa using hz)) (by simpa using hx) hf
  | [], k, x, _, hx, _ => by simp at hx
theorem fs_none {α γ : Type} {f : α → Option γ} {l : List α} {k : Nat} (h : ∀ j y, j < k → l[j]? = some y → f y = none) (hk : ¬ k < l.length) : l.findSome? f = none := by
  rw [List.findSome?_eq_none_iff]
  intro x hx
  obtain ⟨j, hj⟩ := List.getElem?_of_mem hx
  have h1 : j < l.length := (List.getElem?_eq_some_iff.1 hj).1
  exact h j x (Nat.lt_of_lt_of_le h1 (Nat.not_lt.1 hk)) hj
theorem way_at {a b : Rule} {i : Nat} {l : Lit} (hl : a.body[i]? = some l) (E : Env) : way a b (a.body.drop i) E = b.body.findSome? fun o => (becomes a b l o E).bind (way a b (a.body.drop (i + 1))) := by
  obtain ⟨hi, h⟩ := List.getElem?_eq_some_iff.1 hl
  rw [List.drop_eq_getElem_cons hi, h]; rfl
theorem way_over {a b : Rule} {i : Nat} (hi : i = a.body.length) (E : Env) : wayR a b (a.body.drop i) E = (E, true) := by
  subst hi; simp [wayR, way]
theorem way_found {a b : Rule} {i k : Nat} {l o : Lit} {E E2 : Env} (hl : a.body[i]? = some l) (h : ∀ j y, j < k → b.body[j]? = some y → (becomes a b l y E).bind (way a b (a.body.drop (i + 1))) = none) (ho : b.body[k]? = some o) (hb : (becP a b l o E).2 = true) (hE : (becP a b l o E).1 = E2) (hw : (wayR a b (a.body.drop (i + 1)) E2).2 = true) :
    wayR a b (a.body.drop i) E = ((wayR a b (a.body.drop (i + 1)) E2).1, true) := by
  have h1 : becomes a b l o E = some E2 := by rw [becP_becomes, if_pos hb, hE]
  unfold wayR at hw ⊢
  cases hq : way a b (a.body.drop (i + 1)) E2 with
  | none => rw [hq] at hw; cases hw
  | some E3 =>
    rw [way_at hl, fs_at h ho (r := E3) (by rw [h1]; exact hq)]
theorem way_round {a b : Rule} {i k : Nat} {l o : Lit} {E E2 : Env} (h : ∀ j y, j < k → b.body[j]? = some y → (becomes a b l y E).bind (way a b (a.body.drop (i + 1))) = none) (ho : b.body[k]? = some o) (hE : (becP a b l o E).1 = E2) (hw : (becP a b l o E).2 = false ∨ (wayR a b (a.body.drop (i + 1)) E2).2 = false) :
    ∀ j y, j < k + 1 → b.body[j]? = some y → (becomes a b l y E).bind (way a b (a.body.drop (i + 1))) = none := by
  intro j y hj hy
  rcases Nat.lt_succ_iff_lt_or_eq.1 hj with hj | hj
  · exact h j y hj hy
  · subst hj
    rw [ho] at hy; cases hy
    rw [becP_becomes]
    rcases hw with hw | hw
    · rw [hw]; rfl
    · split
      · rw [hE]
        unfold wayR at hw
        cases hq : way a b (a.body.drop (i + 1)) E2 with
        | none => exact hq
        | some E3 => rw [hq] at hw; cases hw
      · rfl
theorem way_none {a b : Rule} {i k : Nat} {l : Lit} {E : Env} (hl : a.body[i]? = some l) (h : ∀ j y, j < k → b.body[j]? = some y → (becomes a b l y E).bind (way a b (a.body.drop (i + 1))) = none) (hk : ¬ k < b.body.length) : wayR a b (a.body.drop i) E = (E, false) := by
  unfold wayR
  rw [way_at hl, fs_none h hk]
theorem putLP_fine {a b : Rule} : ∀ {ps : List (Int × Int)} {E : Env}, E.fine → (∀ p ∈ ps, (expAt b p.2).vk) → (putLP a b ps E).1.fine ∧ (putLP a b ps E).1.length ≤ E.length + ps.length
  | [], E, h, _ => ⟨h, by simp [putLP]⟩
  | p :: ps, E, h, hp => by
    simp only [putLP]
    cases hq : put1 (expAt a p.1) (expAt b p.2) E with
    | none => exact ⟨h, by simp⟩
    | some E2 =>
      have h1 := putLP_fine (a := a) (ps := ps) (fine_put h (hp p (by simp)) hq) (fun q hq => hp q (by simp [hq]))
      have h2 := len_put hq
      refine ⟨h1.1, ?_⟩
      have := h1.2
      simp only [List.length_cons]
      omega
theorem becP_fine {a b : Rule} {l o : Lit} {E : Env} (h : E.fine) (hb : LitIn b o) : (becP a b l o E).1.fine ∧ (becP a b l o E).1.length ≤ E.length + l.args.length := by
  unfold becP
  split
  · have h1 := putLP_fine (a := a) (b := b) (ps := l.args.zip o.args) h (fun p hp => by
      obtain ⟨h0, e, he, hv⟩ := hb p.2 (List.of_mem_zip (a := p.1) (b := p.2) hp).2
      rw [expAt_of he]; exact hv)
    refine ⟨h1.1, Nat.le_trans h1.2 ?_⟩
    rw [List.length_zip]; omega
  · exact ⟨h, by simp⟩
theorem args_drop {ls : List Lit} {i : Nat} {l : Lit} (hl : ls[i]? = some l) : (argsOf (ls.drop i)).length = l.args.length + (argsOf (ls.drop (i + 1))).length := by
  obtain ⟨hi, h⟩ := List.getElem?_eq_some_iff.1 hl
  rw [List.drop_eq_getElem_cons hi, h]; simp [argsOf]

def varsOf (es : List Exp) : List Bs := es.foldl (fun l e => if e.kind = 1 ∧ e.text ∉ l then l ++ [e.text] else l) []
theorem vars_step {es : List Exp} {i : Nat} {e : Exp} (he : es[i]? = some e) : varsOf (es.take (i + 1)) = if e.kind = 1 ∧ e.text ∉ varsOf (es.take i) then varsOf (es.take i) ++ [e.text] else varsOf (es.take i) := by
  have : es.take (i + 1) = es.take i ++ [e] := by rw [List.take_add_one, he]; rfl
  rw [this, varsOf, List.foldl_append]; rfl
theorem vars_yes {es : List Exp} {i : Nat} {e : Exp} (he : es[i]? = some e) (h : e.kind = 1 ∧ e.text ∉ varsOf (es.take i)) : varsOf (es.take (i + 1)) = varsOf (es.take i) ++ [e.text] := by rw [vars_step he, if_pos h]
theorem vars_no {es : List Exp} {i : Nat} {e : Exp} (he : es[i]? = some e) (h : ¬ (e.kind = 1 ∧ e.text ∉ varsOf (es.take i))) : varsOf (es.take (i + 1)) = varsOf (es.take i) := by rw [vars_step he, if_neg h]
theorem vars_end {r : Rule} {i : Nat} {l : List Bs} (hi : ¬ i < r.exps.length) (hl : l = varsOf (r.exps.take i)) : l = r.vars := by
  rw [hl, List.take_of_length_le (by omega)]; rfl
theorem varsOf_len (es : List Exp) : (varsOf es).length ≤ es.length := by
  have key : ∀ (es : List Exp) (l : List Bs), (es.foldl (fun l e => if e.kind = 1 ∧ e.text ∉ l then l ++ [e.text] else l) l).length ≤ l.length + es.length := by
    intro es
    induction es with
    | nil => intro l; simp
    | cons e es ih =>
      intro l
      rw [List.foldl_cons]
      have := ih (if e.kind = 1 ∧ e.text ∉ l then l ++ [e.text] else l)
      refine Nat.le_trans this ?_
      split <;> simp <;> omega
  simpa [varsOf] using key es []
theorem vars_take_len (es : List Exp) (i : Nat) : (varsOf (es.take i)).length ≤ i := Nat.le_trans (varsOf_len _) (by simp; omega)
def mn : Option Match → List Bs
  | some m => m.names
  | none => []
def mv : Option Match → List Bs
  | some m => m.vals
  | none => []
def mdO (m : Option Match) : D := .agg [dstrs (mn m), dstrs (mv m)]
theorem carries_np {a b : Rule} (h : a.plain = false ∨ b.plain = false) : a.carries b = none := by
  unfold Rule.carries
  rw [if_neg]
  rintro ⟨h1, h2⟩
  rcases h with h | h
  · rw [h] at h1; cases h1
  · rw [h] at h2; cases h2
theorem carries_nh {a b : Rule} (ha : a.plain = true) (hb : b.plain = true) (h : (becP a b a.head b.head []).2 = false) : a.carries b = none := by
  unfold Rule.carries
  rw [if_pos ⟨ha, hb⟩, becP_becomes, h]; rfl
theorem carries_nw {a b : Rule} (ha : a.plain = true) (hb : b.plain = true) (h : (becP a b a.head b.head []).2 = true) (hw : (wayR a b (a.body.drop 0) (becP a b a.head b.head []).1).2 = false) : a.carries b = none := by
  unfold Rule.carries
  rw [if_pos ⟨ha, hb⟩, becP_becomes, if_pos h]
  rw [List.drop_zero] at hw
  unfold wayR at hw
  cases hq : way a b a.body (becP a b a.head b.head []).1 with
  | none => simp [hq]
  | some E => rw [hq] at hw; cases hw
theorem carries_yes {a b : Rule} {E2 : Env} (ha : a.plain = true) (hb : b.plain = true) (h : (becP a b a.head b.head []).2 = true) (hw : (wayR a b (a.body.drop 0) (becP a b a.head b.head []).1).2 = true) (hE : (wayR a b (a.body.drop 0) (becP a b a.head b.head []).1).1 = E2) :
    a.carries b = some ⟨a.vars, a.vars.map fun n => ((E2.get n).map (·.text)).getD []⟩ ∧ ∀ n, n ∈ a.vars → ∃ v, E2.get n = some v := by
  rw [List.drop_zero] at hw hE
  unfold wayR at hw hE
  have hb1 : becomes a b a.head b.head [] = some (becP a b a.head b.head []).1 := by rw [becP_becomes, if_pos h]
  cases hq : way a b a.body (becP a b a.head b.head []).1 with
  | none => rw [hq] at hw; cases hw
  | some E =>
    rw [hq] at hE
    dsimp only at hE
    subst hE
    refine ⟨?_, fun n hn => carries_get ha hb1 hq hn⟩
    unfold Rule.carries
    rw [if_pos ⟨ha, hb⟩, hb1]
    simp [hq]
theorem way_fine {a b : Rule} (hb : b.plain = true) : ∀ {ls : List Lit} {E E' : Env}, E.fine → way a b ls E = some E' → E'.fine ∧ E'.length ≤ E.length + (argsOf ls).length
  | [], E, E', h, hw => by cases hw; exact ⟨h, by simp⟩
  | l :: ls, E, E', h, hw => by
    simp only [way] at hw
    obtain ⟨o, ho, h1⟩ := List.exists_of_findSome?_eq_some hw
    simp only [Option.bind_eq_some_iff] at h1
    obtain ⟨F, h1, h2⟩ := h1
    have hf := becP_fine (a := a) (l := l) h (plain_lit hb (l := o) (by simp only [Rule.lits]; exact List.mem_cons_of_mem _ ho))
    rw [becP_becomes] at h1
    split at h1
    · cases h1
      have := way_fine hb hf.1 h2
      refine ⟨this.1, ?_⟩
      have h3 := this.2
      have h4 := hf.2
      rw [show argsOf (l :: ls) = l.args ++ argsOf ls from rfl, List.length_append]
      omega
    · cases h1
theorem way_len {a b : Rule} {E E2 : Env} (ha : a.plain = true) (hb : b.plain = true) (hE : E.fine) (hl : E.length + (argsOf (a.body.drop 0)).length ≤ 4294967296) (h2 : (wayR a b (a.body.drop 0) E).1 = E2) : E2.ns.length ≤ 4294967296 := by
  unfold wayR at h2
  cases hq : way a b (a.body.drop 0) E with
  | none => rw [hq] at h2; dsimp only at h2; subst h2; simp [Env.ns]; omega
  | some E3 =>
    rw [hq] at h2
    dsimp only at h2
    subst h2
    have := (way_fine hb hE hq).2
    simp [Env.ns]; omega
theorem vt_one (v : Exp) : (1 : Int).toNat ≤ (gv (some v)).length ∧ ((gv (some v)).drop (1 : Int).toNat).take ((gv (some v)).length - (1 : Int).toNat) = v.text := by simp [gv, vt]
end Go.Q
