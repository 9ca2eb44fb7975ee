/- Sameness of lists and of rules, place by place. No condition. -/
import Derived.Test.YtkfcpnaiimcjeaaDoorQSpec
set_option linter.unusedVariables false
set_option linter.unusedSimpArgs false
namespace Go.Q
theorem deq_len {α : Type} [DecidableEq α] {a b : List α} (h : a.length ≠ b.length) : decide (a = b) = false := decide_eq_false (fun e => h (by rw [e]))
theorem deq_bad {α : Type} [DecidableEq α] {a b : List α} {i : Nat} {x y : α} (ha : a[i]? = some x) (hb : b[i]? = some y) (h : x ≠ y) : decide (a = b) = false :=
  decide_eq_false (fun e => h (by subst e; rw [ha] at hb; cases hb; rfl))
theorem deq_all {α : Type} [DecidableEq α] {a b : List α} {i : Nat} (hl : a.length = b.length) (h : ∀ j, j < i → a[j]? = b[j]?) (hi : ¬ i < a.length) : decide (a = b) = true := by
  refine decide_eq_true (List.ext_getElem? fun j => ?_)
  by_cases hj : j < i
  · exact h j hj
  · rw [List.getElem?_eq_none (by omega), List.getElem?_eq_none (by omega)]
theorem deq_next {α : Type} {a b : List α} {i : Nat} {x y : α} (h : ∀ j, j < i → a[j]? = b[j]?) (ha : a[i]? = some x) (hb : b[i]? = some y) (hxy : x = y) : ∀ j, j < i + 1 → a[j]? = b[j]? := by
  intro j hj
  rcases Nat.lt_succ_iff_lt_or_eq.1 hj with hj | hj
  · exact h j hj
  · subst hj; rw [ha, hb, hxy]
theorem lit_eq (a b : Lit) : decide (a = b) = (decide (a.kind = b.kind) && decide (a.name = b.name) && decide (a.args = b.args)) := by
  obtain ⟨k, n, l⟩ := a
  obtain ⟨k', n', l'⟩ := b
  rw [Bool.eq_iff_iff]; simp [and_assoc]
theorem exp_eq (a b : Exp) : decide (a = b) = (decide (a.kind = b.kind) && decide (a.text = b.text) && decide (a.kids = b.kids)) := by
  obtain ⟨k, n, l⟩ := a
  obtain ⟨k', n', l'⟩ := b
  rw [Bool.eq_iff_iff]; simp [and_assoc]
theorem rule_eq (a b : Rule) : decide (a = b) = (decide (a.head = b.head) && decide (a.body = b.body) && decide (a.exps = b.exps)) := by
  obtain ⟨k, n, l⟩ := a
  obtain ⟨k', n', l'⟩ := b
  rw [Bool.eq_iff_iff]; simp only [Rule.mk.injEq, decide_eq_true_eq, Bool.and_eq_true]
  constructor
  · rintro ⟨h1, h2, h3⟩; exact ⟨⟨h2, h3⟩, h1⟩
  · rintro ⟨⟨h2, h3⟩, h1⟩; exact ⟨h1, h2, h3⟩
theorem list_all {α : Type} {a b : List α} {i : Nat} (hl : a.length = b.length) (h : ∀ j, j < i → a[j]? = b[j]?) (hi : ¬ i < a.length) : a = b := by
  refine List.ext_getElem? fun j => ?_
  by_cases hj : j < i
  · exact h j hj
  · rw [List.getElem?_eq_none (by omega), List.getElem?_eq_none (by omega)]
theorem list_ne {α : Type} {a b : List α} {i : Nat} {x y : α} (ha : a[i]? = some x) (hb : b[i]? = some y) (h : x ≠ y) : a ≠ b := fun e => h (by subst e; rw [ha] at hb; cases hb; rfl)
theorem len_ne {α : Type} {a b : List α} (h : a.length ≠ b.length) : a ≠ b := fun e => h (by rw [e])
theorem rule_bad_e {a b : Rule} (h : a.exps ≠ b.exps) : decide (a = b) = false := decide_eq_false (fun e => h (by rw [e]))
theorem rule_bad_h {a b : Rule} (h : a.head ≠ b.head) : decide (a = b) = false := decide_eq_false (fun e => h (by rw [e]))
theorem rule_bad_b {a b : Rule} (h : a.body ≠ b.body) : decide (a = b) = false := decide_eq_false (fun e => h (by rw [e]))
theorem rule_good {a b : Rule} (h1 : a.exps = b.exps) (h2 : a.head = b.head) (h3 : a.body = b.body) : decide (a = b) = true := by
  obtain ⟨k, n, l⟩ := a
  obtain ⟨k', n', l'⟩ := b
  simp only at h1 h2 h3
  subst h1; subst h2; subst h3; simp
theorem exp_same {x y : Exp} (h1 : x.kind = y.kind) (h2 : x.text = y.text) (h3 : x.kids = y.kids) : x = y := by
  obtain ⟨k, n, l⟩ := x
  obtain ⟨k', n', l'⟩ := y
  simp only at h1 h2 h3
  subst h1; subst h2; subst h3; rfl
/-- Lists of a rule are no longer than may be counted. -/
structure Rule.Lim (r : Rule) : Prop where
  e : r.exps.length ≤ 4294967296
  b : r.body.length ≤ 4294967296
  k : ∀ e ∈ r.exps, e.kids.length ≤ 4294967296
  h : r.head.args.length ≤ 4294967296
  a : ∀ l ∈ r.body, l.args.length ≤ 4294967296
end Go.Q
