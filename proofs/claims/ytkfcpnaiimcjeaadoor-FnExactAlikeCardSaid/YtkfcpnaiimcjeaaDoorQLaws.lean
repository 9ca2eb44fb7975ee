/- What the law's own functions compute, as plain Lean: sizes, copies. No condition. -/
import Derived.Test.YtkfcpnaiimcjeaaDoorQRows
import Derived.Test.YtkfcpnaiimcjeaaDoorQSet
set_option linter.unusedVariables false
set_option linter.unusedSimpArgs false
namespace Go.Q
/-- What is left of a purse. -/
def szR (left : Int) (n : Nat) : Int := if (n : Int) ≤ left then left - n else -1
theorem szR_le {left : Int} {n : Nat} (h : 0 ≤ left) : szR left n ≤ left := by unfold szR; split <;> omega
theorem dec_nn {x : Int} (h : decide (x < 0) = false) : 0 ≤ x := by simpa using h
theorem dec_neg {x : Int} (h : decide (x < 0) = true) : x < 0 := by simpa using h
theorem szR_pos {left : Int} {n : Nat} (h : 0 ≤ szR left n) : szR left n = left - n ∧ (n : Int) ≤ left := by
  unfold szR at *; split at h
  · rename_i h1; rw [if_pos h1]; exact ⟨rfl, h1⟩
  · omega
theorem szR_neg {left : Int} {n : Nat} (h : szR left n < 0) : left < n := by
  unfold szR at h; split at h <;> omega
theorem szR_out {left : Int} {n : Nat} (h : left < n) : szR left n = -1 := by rw [szR, if_neg (by omega)]
def wS {α : Type} (f : α → Nat) (l : List α) : Nat := l.length + (l.map f).sum
theorem sum_take_lt {α : Type} (f : α → Nat) {l : List α} {k : Nat} {x : α} (h : l[k]? = some x) : ((l.take (k + 1)).map f).sum = ((l.take k).map f).sum + f x := by
  rw [List.take_add_one, h]; simp
theorem sum_take_le {α : Type} (f : α → Nat) (l : List α) (k : Nat) : ((l.take k).map f).sum ≤ (l.map f).sum := by
  conv => rhs; rw [← List.take_append_drop k l, List.map_append, List.sum_append]
  omega
theorem sz_bad {α : Type} {f : α → Nat} {l : List α} {k : Nat} {x : α} {left v : Int} (hx : l[k]? = some x) (hv : v + ((l.take k).map f).sum + l.length = left) (h : szR v (f x) < 0) : szR left (wS f l) = -1 := by
  refine szR_out ?_
  have h1 := szR_neg h
  have h2 := sum_take_le f l (k + 1)
  rw [sum_take_lt f hx] at h2
  unfold wS
  omega
theorem sz_next {α : Type} {f : α → Nat} {l : List α} {k : Nat} {x : α} {left v : Int} (hx : l[k]? = some x) (hv : v + ((l.take k).map f).sum + l.length = left) (h : 0 ≤ szR v (f x)) : szR v (f x) + ((l.take (k + 1)).map f).sum + l.length = left := by
  rw [(szR_pos h).1, sum_take_lt f hx]
  omega
theorem sz_end {α : Type} {f : α → Nat} {l : List α} {k : Nat} {left v : Int} (hk : ¬ k < l.length) (hv : v + ((l.take k).map f).sum + l.length = left) (h : 0 ≤ v) : v = szR left (wS f l) := by
  rw [List.take_of_length_le (by omega)] at hv
  unfold szR wS
  rw [if_pos (by omega)]
  omega
theorem sz_none {α : Type} {f : α → Nat} {l : List α} {left : Int} (h : left - l.length < 0) : szR left (wS f l) = -1 := szR_out (by unfold wS; omega)
theorem szR_len {α : Type} {l : List α} {left : Int} (h : 0 ≤ left - l.length) : left - l.length = szR left l.length := by rw [szR, if_pos (by omega)]
theorem szR_two {left : Int} {a b : Nat} (h : 0 ≤ szR left a) : szR (szR left a) b = szR left (a + b) := by
  have := szR_pos h
  rw [this.1]; unfold szR
  by_cases hb : (b : Int) ≤ left - a
  · rw [if_pos hb, if_pos (by omega)]; omega
  · rw [if_neg hb, if_neg (by omega)]
theorem szR_bad {left : Int} {a b : Nat} (h : szR left a < 0) : szR left (a + b) = -1 := szR_out (by have := szR_neg h; omega)
theorem szR_sub {left : Int} {a b : Nat} (h : 0 ≤ left - a) : szR (left - a) b = szR left (a + b) := by
  unfold szR
  by_cases hb : (b : Int) ≤ left - a
  · rw [if_pos hb, if_pos (by omega)]; omega
  · rw [if_neg hb, if_neg (by omega)]
theorem szR_sub_bad {left : Int} {a b : Nat} (h : left - a < 0) : szR left (a + b) = -1 := szR_out (by omega)
/-- Lists that are filled from the front. -/
def fill {α : Type} (z : α) (l : List α) (k : Nat) : List α := l.take k ++ List.replicate (l.length - k) z
theorem fill_zero {α : Type} (z : α) (l : List α) : List.replicate l.length z = fill z l 0 := by simp [fill]
theorem fill_len {α : Type} {z : α} {l : List α} {k : Nat} (h : k ≤ l.length) : (fill z l k).length = l.length := by simp [fill]; omega
theorem fill_set {α : Type} {z x : α} {l : List α} {k : Nat} (h : l[k]? = some x) : (fill z l k).set k x = fill z l (k + 1) := by
  have hk := (List.getElem?_eq_some_iff.1 h).1
  unfold fill
  rw [List.take_add_one, h, List.set_append_right _ _ (by simp; omega)]
  have h1 : k - (l.take k).length = 0 := by simp; omega
  rw [h1]
  obtain ⟨m, hm⟩ : ∃ m, l.length - k = m + 1 := ⟨l.length - k - 1, by omega⟩
  rw [hm, show l.length - (k + 1) = m by omega, List.replicate_succ]
  simp
theorem fill_full {α : Type} {z : α} {l : List α} {k : Nat} (h : ¬ k < l.length) : fill z l k = l := by
  unfold fill
  rw [List.take_of_length_le (by omega), show l.length - k = 0 by omega]; simp
/-- The bulk of data, as the laws measure it; lengths that fit. -/
def Exp.sz (e : Exp) : Nat := e.text.length + e.kids.length
def Lit.sz (l : Lit) : Nat := l.name.length + l.args.length
def Rule.sz (r : Rule) : Nat := wS Exp.sz r.exps + r.head.sz + wS Lit.sz r.body
def Exp.fit (e : Exp) : Prop := e.text.length ≤ 140737488355328 ∧ e.kids.length ≤ 140737488355328
def Lit.fit (l : Lit) : Prop := l.name.length ≤ 140737488355328 ∧ l.args.length ≤ 140737488355328
def Rule.fit (r : Rule) : Prop := (r.exps.length ≤ 140737488355328 ∧ ∀ e ∈ r.exps, e.fit) ∧ r.head.fit ∧ r.body.length ≤ 140737488355328 ∧ ∀ l ∈ r.body, l.fit
theorem wS_mul {α : Type} {f g : α → Nat} (h : ∀ x, g x ≤ 2 * f x + 10) (l : List α) : (l.map g).sum ≤ 12 * wS f l := by
  induction l with
  | nil => simp
  | cons x l ih =>
    have := h x
    simp only [wS, List.map_cons, List.sum_cons, List.length_cons] at *
    omega
theorem Rule.wt_sz (r : Rule) : r.wt ≤ 12 * r.sz + 10 := by
  have h1 := wS_mul (f := Exp.sz) (g := Exp.wt) (fun e => by simp [Exp.sz, Exp.wt]; omega) r.exps
  have h2 := wS_mul (f := Lit.sz) (g := Lit.wt) (fun e => by simp [Lit.sz, Lit.wt]; omega) r.body
  have h3 : r.head.wt ≤ 2 * r.head.sz + 10 := by simp [Lit.sz, Lit.wt]; omega
  have h4 : r.wt = (r.exps.map Exp.wt).sum + (r.head.wt + (r.body.map Lit.wt).sum) := by simp [Rule.wt, wtE, wtL, Rule.lits]
  unfold Rule.sz
  omega
end Go.Q
