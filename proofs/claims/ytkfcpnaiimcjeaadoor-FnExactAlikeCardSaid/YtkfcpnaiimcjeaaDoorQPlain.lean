/- Plain rules as plain Lean. No program in sight. -/
import Derived.Test.YtkfcpnaiimcjeaaDoorQLaw
set_option linter.unusedVariables false
set_option linter.unusedSimpArgs false
namespace Go.Q
def vt (e : Exp) : Bs := (if e.kind = 1 then 118 else 116) :: e.text
def expAt (r : Rule) (k : Int) : Exp := r.exps.getD k.toNat ⟨0, [], []⟩
theorem expAt_of {r : Rule} {k : Int} {e : Exp} (h : r.exps[k.toNat]? = some e) : expAt r k = e := by simp [expAt, List.getD_eq_getElem?_getD, h]
def argOk (r : Rule) (a : Int) : Bool := !(decide ((expAt r a).kind = 1) && !(((argsOf r.body).map fun k => vt (expAt r k)).contains (vt (expAt r a))))
def Rule.plain (r : Rule) : Bool := decide (r.text ≠ []) && decide (r.body.length ≤ 6) && r.body.all (fun l => decide (l.kind = 1)) && r.exps.all (fun e => decide (e.kind = 1) || decide (e.kind = 3)) && r.head.args.all (argOk r)
theorem text_formed {r : Rule} (h : r.text ≠ []) : r.formed = true := by
  cases hf : r.formed with
  | true => rfl
  | false => rw [Rule.text, hf] at h; exact absurd rfl h
theorem lit_exp {r : Rule} (hf : r.formed = true) {l : Lit} (hl : l ∈ r.lits) {k : Int} (hk : k ∈ l.args) : 0 ≤ k ∧ ∃ e, r.exps[k.toNat]? = some e := by
  obtain ⟨i, hi⟩ := List.getElem?_of_mem hl
  have := args_in (lit_ok hf hi) hk
  exact ⟨this.1, get_some (by omega)⟩
theorem body_pre {r : Rule} {i j : Nat} {l : Lit} (hl : r.body[i]? = some l) : (argsOf (r.body.take i) ++ l.args.take j).length ≤ r.uses.length := by
  have h1 := (flat_pre (fun e : Lit => e.args) hl j).length_le
  have h2 : r.uses.length = (kidsOf r.exps).length + (r.head.args.length + (argsOf r.body).length) := by simp [Rule.uses, Rule.lits, argsOf]
  have h3 : (argsOf r.body).length = (r.body.flatMap fun e => e.args).length := rfl
  have h4 : (argsOf (r.body.take i) ++ l.args.take j).length = ((r.body.take i).flatMap (fun e => e.args) ++ l.args.take j).length := rfl
  omega
theorem body_len {r : Rule} : (argsOf r.body).length ≤ r.uses.length := by
  have h2 : r.uses.length = (kidsOf r.exps).length + (r.head.args.length + (argsOf r.body).length) := by simp [Rule.uses, Rule.lits, argsOf]
  omega
theorem body_next {ls : List Lit} {i n : Nat} {U V : List Int} {l : Lit} (hx2 : U = argsOf (ls.take i)) (hx3 : ∀ (j : Nat) (l : Lit), j < i → ls[j]? = some l → l.kind = 1) (he : ls[i]? = some l) (hy2 : V = U ++ l.args.take n) (hlast : ¬ n < l.args.length) (hk : l.kind = 1) :
    i + 1 ≤ ls.length ∧ V = argsOf (ls.take (i + 1)) ∧ (∀ (j : Nat) (l : Lit), j < i + 1 → ls[j]? = some l → l.kind = 1) := by
  have hi := (List.getElem?_eq_some_iff.1 he).1
  refine ⟨hi, ?_, fun j b hj hb => ?_⟩
  · rw [hy2, hx2, List.take_of_length_le (l := l.args) (by omega)]; exact (flat_take (fun x : Lit => x.args) he).symm
  rcases Nat.lt_succ_iff_lt_or_eq.1 hj with h | h
  · exact hx3 j b h hb
  · rw [h, he] at hb; cases hb; exact hk
theorem all_next {α : Type} {l : List α} {i : Nat} {a : α} {q : α → Bool} (h3 : ∀ (j : Nat) (a : α), j < i → l[j]? = some a → q a = true) (ha : l[i]? = some a) (hq : q a = true) : i + 1 ≤ l.length ∧ (∀ (j : Nat) (a : α), j < i + 1 → l[j]? = some a → q a = true) := by
  have hi := (List.getElem?_eq_some_iff.1 ha).1
  refine ⟨hi, fun j b hj hb => ?_⟩
  rcases Nat.lt_succ_iff_lt_or_eq.1 hj with h | h
  · exact h3 j b h hb
  · rw [h, ha] at hb; cases hb; exact hq
theorem plain_bad {r : Rule} (h : decide (r.text ≠ []) = false ∨ decide (r.body.length ≤ 6) = false ∨ r.body.all (fun l => decide (l.kind = 1)) = false ∨ r.exps.all (fun e => decide (e.kind = 1) || decide (e.kind = 3)) = false ∨ r.head.args.all (argOk r) = false) : r.plain = false := by
  unfold Rule.plain
  rcases h with h | h | h | h | h <;> rw [h] <;> simp
theorem plain_ok {r : Rule} (h1 : r.text ≠ []) (h2 : r.body.length ≤ 6) (h3 : r.body.all (fun l => decide (l.kind = 1)) = true) (h4 : r.exps.all (fun e => decide (e.kind = 1) || decide (e.kind = 3)) = true) (h5 : r.head.args.all (argOk r) = true) : r.plain = true := by
  unfold Rule.plain
  rw [h3, h4, h5]; simp [h1, h2]
end Go.Q
