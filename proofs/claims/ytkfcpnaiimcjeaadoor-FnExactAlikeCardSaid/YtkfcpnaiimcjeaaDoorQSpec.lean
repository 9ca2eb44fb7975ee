/- What the reference computes of a rule's expressions, as plain Lean. No program in sight. -/
import Derived.Test.YtkfcpnaiimcjeaaDoorQBorrow
set_option linter.unusedVariables false
set_option linter.unusedSimpArgs false
namespace Go.Q
def Exp.fine (r : Rule) (i : Nat) (e : Exp) : Bool := e.ok i && decide ((e.txt r.exps r.outs).length ≤ 3000)
def fbAux (r : Rule) : Nat → List Exp → Nat
  | i, [] => i
  | i, e :: l => if e.fine r i then fbAux r (i + 1) l else i
def Rule.fb (r : Rule) : Nat := fbAux r 0 r.exps
def Rule.pad (r : Rule) (i : Nat) : List Bs := r.outs.take i ++ List.replicate (r.exps.length - i) []
def argsOk (m : Nat) (ls : List Lit) : Bool := ls.all fun l => l.args.all fun k => inR k 0 ((m : Int) - 1)
def Rule.good (r : Rule) : Bool := decide (r.fb = r.exps.length) && argsOk r.exps.length r.lits && !(cnt r.exps.length r.uses).any (fun n => decide (n ≠ 1))
def Rule.specExps (r : Rule) : List Bs × Bool := if r.exps.length > 60 then ([], false) else (r.pad r.fb, r.good)
theorem fbAux_at {r : Rule} : ∀ (l : List Exp) (k i : Nat) (e : Exp), (∀ (j : Nat) (e : Exp), j < i → l[j]? = some e → e.fine r (k + j) = true) → l[i]? = some e → e.fine r (k + i) = false → fbAux r k l = k + i
  | [], k, i, e, _, h, _ => by simp at h
  | x :: l, k, 0, e, _, h, hf => by
    simp at h; subst h
    rw [Nat.add_zero] at hf
    rw [fbAux, hf]; rfl
  | x :: l, k, i + 1, e, h0, h, hf => by
    have h1 := h0 0 x (by omega) rfl
    rw [Nat.add_zero] at h1
    rw [fbAux, h1, if_pos rfl, fbAux_at l (k + 1) i e (fun j e hj he => by have := h0 (j + 1) e (by omega) (by simpa using he); rwa [show k + (j + 1) = k + 1 + j by omega] at this) (by simpa using h) (by rwa [show k + 1 + i = k + (i + 1) by omega])]
    omega
theorem fb_at {r : Rule} {i : Nat} {e : Exp} (h : ∀ (j : Nat) (e : Exp), j < i → r.exps[j]? = some e → e.fine r j = true) (he : r.exps[i]? = some e) (hf : e.fine r i = false) : r.fb = i := by
  have := fbAux_at (r := r) r.exps 0 i e (fun j e hj he => by rw [Nat.zero_add]; exact h j e hj he) he (by rwa [Nat.zero_add])
  rw [Nat.zero_add] at this; exact this
theorem fbAux_end {r : Rule} : ∀ (l : List Exp) (k : Nat), (∀ (j : Nat) (e : Exp), l[j]? = some e → e.fine r (k + j) = true) → fbAux r k l = k + l.length
  | [], k, _ => rfl
  | x :: l, k, h0 => by
    have h1 := h0 0 x rfl
    rw [Nat.add_zero] at h1
    rw [fbAux, h1, if_pos rfl, fbAux_end l (k + 1) (fun j e he => by have := h0 (j + 1) e (by simpa using he); rwa [show k + (j + 1) = k + 1 + j by omega] at this)]
    simp; omega
theorem fb_end {r : Rule} (h : ∀ (j : Nat) (e : Exp), r.exps[j]? = some e → e.fine r j = true) : r.fb = r.exps.length := by
  have := fbAux_end (r := r) r.exps 0 (fun j e he => by rw [Nat.zero_add]; exact h j e he)
  rw [Nat.zero_add] at this; exact this
theorem fbAux_le {r : Rule} : ∀ (l : List Exp) (k : Nat), fbAux r k l ≤ k + l.length
  | [], k => Nat.le_refl _
  | x :: l, k => by
    rw [fbAux]; split
    · have := fbAux_le l (k + 1) (r := r); simp; omega
    · simp
theorem fbAux_fine {r : Rule} : ∀ (l : List Exp) (k : Nat), fbAux r k l = k + l.length → ∀ (j : Nat) (e : Exp), l[j]? = some e → e.fine r (k + j) = true
  | [], k, _, j, e, h => by simp at h
  | x :: l, k, hk, j, e, h => by
    rw [fbAux] at hk
    split at hk
    · rename_i hx
      cases j with
      | zero => simp at h; subst h; exact hx
      | succ j =>
        have := fbAux_fine (r := r) l (k + 1) (by simp at hk; omega) j e (by simpa using h)
        rwa [show k + 1 + j = k + (j + 1) by omega] at this
    · simp at hk
theorem fb_fine {r : Rule} (h : r.fb = r.exps.length) {j : Nat} {e : Exp} (he : r.exps[j]? = some e) : e.fine r j = true := by
  have := fbAux_fine (r := r) r.exps 0 (by rw [Nat.zero_add]; exact h) j e he
  rwa [Nat.zero_add] at this
theorem pad_len {r : Rule} {i : Nat} (h : i ≤ r.exps.length) : (r.pad i).length = r.exps.length := by
  simp [Rule.pad, Rule.outs, outs_len]; omega
theorem pad_get {r : Rule} {i : Nat} {k : Int} (h0 : 0 ≤ k) (hk : k < (i : Int)) (h : i ≤ r.exps.length) : (r.pad i)[k.toNat]? = some (at_ r.outs k) := by
  have h1 : k.toNat < i := by omega
  have h2 : k.toNat < r.outs.length := by rw [Rule.outs, outs_len]; omega
  rw [Rule.pad, List.getElem?_append_left (by simp; omega), List.getElem?_take, if_pos h1, List.getElem?_eq_getElem h2]
  simp [at_, List.getD_eq_getElem?_getD, h2]
theorem outs_eq2 {r : Rule} {i : Nat} {e : Exp} (hok : e.ok i = true) (h : r.exps[i]? = some e) : r.outs[i]? = some (e.txt r.exps r.outs) := by
  rw [Rule.outs, outs_get h, txt_take hok]
theorem pad_set {r : Rule} {i : Nat} {e : Exp} (hok : e.ok i = true) (h : r.exps[i]? = some e) : (r.pad i).set i (e.txt r.exps r.outs) = r.pad (i + 1) := by
  have hi := (List.getElem?_eq_some_iff.1 h).1
  have ho := outs_eq2 hok h
  have hl : (r.outs.take i).length = i := by simp [Rule.outs, outs_len]; omega
  rw [Rule.pad, Rule.pad, take_snoc ho, List.set_append, if_neg (by omega), hl, Nat.sub_self]
  rw [show r.exps.length - i = (r.exps.length - (i + 1)) + 1 by omega, List.replicate_succ]
  simp
theorem pad_zero (r : Rule) : List.replicate r.exps.length ([] : Bs) = r.pad 0 := by simp [Rule.pad]
theorem pad_full (r : Rule) : r.pad r.exps.length = r.outs := by
  simp only [Rule.pad, Nat.sub_self, List.replicate_zero, List.append_nil]
  rw [List.take_of_length_le (by rw [Rule.outs, outs_len]; omega)]
theorem fine_len {r : Rule} {i : Nat} (hx : ∀ (j : Nat) (e : Exp), j < i → r.exps[j]? = some e → e.fine r j = true) {k : Int} (h0 : 0 ≤ k) (hk : k < (i : Int)) (hi : i ≤ r.exps.length) : (at_ r.outs k).length ≤ 3000 := by
  obtain ⟨e, he⟩ := get_some (l := r.exps) (i := k.toNat) (by omega)
  have h1 := hx k.toNat e (by omega) he
  simp only [Exp.fine, Bool.and_eq_true, decide_eq_true_eq] at h1
  have := outs_eq2 h1.1 he
  simp [at_, List.getD_eq_getElem?_getD, this]; exact h1.2
theorem join_snoc {l : List Bs} (x : Bs) (h : l ≠ []) : joinC (l ++ [x]) = joinC l ++ [44, 32] ++ x := by
  induction l with
  | nil => exact absurd rfl h
  | cons a l ih =>
    cases l with
    | nil => simp [joinC, Lib.join, List.intercalate]
    | cons b l =>
      have h1 : ∀ (y z : Bs) (m : List Bs), joinC (y :: z :: m) = y ++ [44, 32] ++ joinC (z :: m) := by intro y z m; simp [joinC, Lib.join, List.intercalate]
      have := ih (by simp)
      rw [List.cons_append, List.cons_append, h1, ← List.cons_append, this, h1]; simp
def kidsText (o : List Bs) (e : Exp) (q : Nat) : Bs := e.text ++ (if q = 0 then [] else [40] ++ joinC ((e.kids.take q).map (at_ o)))
theorem kidsText_zero (o : List Bs) (e : Exp) : e.text = kidsText o e 0 := by simp [kidsText]
theorem kidsText_one {o : List Bs} {e : Exp} {a : Int} (h : e.kids[0]? = some a) : kidsText o e 0 ++ [40] ++ at_ o a = kidsText o e 1 := by
  simp [kidsText, List.take_one, List.head?_eq_getElem?, h, joinC, Lib.join_one]
theorem kidsText_succ {o : List Bs} {e : Exp} {a : Int} {q : Nat} (hq : q ≠ 0) (h : e.kids[q]? = some a) : kidsText o e q ++ [44, 32] ++ at_ o a = kidsText o e (q + 1) := by
  have hi := (List.getElem?_eq_some_iff.1 h).1
  rw [kidsText, kidsText, if_neg hq, if_neg (by omega), take_snoc h, List.map_append, List.map_cons, List.map_nil, join_snoc]
  · simp
  · intro h0; have := congrArg List.length h0; simp at this; rcases this with h | h
    · omega
    · simp [h] at hi
theorem kidsText_len {o : List Bs} {e : Exp} {q n : Nat} (hn : ∀ k ∈ e.kids, (at_ o k).length ≤ n) : (kidsText o e q).length ≤ e.text.length + 1 + e.kids.length * (n + 2) := by
  unfold kidsText
  split
  · simp; omega
  · have h1 := join_len ((e.kids.take q).map (at_ o))
    have h2 : ∀ (l : List Int), (∀ k ∈ l, (at_ o k).length ≤ n) → ((l.map (at_ o)).map List.length).sum + 2 * l.length ≤ l.length * (n + 2) := by
      intro l
      induction l with
      | nil => simp
      | cons a l ih => intro h; have := ih (fun k hk => h k (List.mem_cons_of_mem _ hk)); have := h a (by simp); simp [Nat.add_mul] at *; omega
    have h3 := h2 (e.kids.take q) (fun k hk => hn k (List.mem_of_mem_take hk))
    have h4 : (e.kids.take q).length ≤ e.kids.length := by simp; omega
    have h5 := Nat.mul_le_mul_right (n + 2) h4
    simp only [List.length_append, List.length_map, List.length_cons, List.length_nil] at *
    omega
theorem spec_big {r : Rule} (h : r.exps.length > 60) : r.specExps = ([], false) := by rw [Rule.specExps, if_pos h]
theorem spec_fail {r : Rule} {i : Nat} {e : Exp} (h60 : ¬ r.exps.length > 60) (h : ∀ (j : Nat) (e : Exp), j < i → r.exps[j]? = some e → e.fine r j = true) (he : r.exps[i]? = some e) (hf : e.fine r i = false) : r.specExps = (r.pad i, false) := by
  have h1 := fb_at h he hf
  have h2 := (List.getElem?_eq_some_iff.1 he).1
  have h3 : r.good = false := by
    have : decide (r.fb = r.exps.length) = false := by rw [h1]; simp; omega
    simp [Rule.good, this]
  rw [Rule.specExps, if_neg h60, h1, h3]
theorem spec_end {r : Rule} {i : Nat} {b : Bool} (h60 : ¬ r.exps.length > 60) (hi : i = r.exps.length) (h : ∀ (j : Nat) (e : Exp), j < i → r.exps[j]? = some e → e.fine r j = true) (hb : (argsOk r.exps.length r.lits && !(cnt r.exps.length r.uses).any (fun n => decide (n ≠ 1))) = b) : r.specExps = (r.pad i, b) := by
  have h1 : r.fb = r.exps.length := fb_end fun j e he => h j e (by have := (List.getElem?_eq_some_iff.1 he).1; omega) he
  rw [Rule.specExps, if_neg h60, h1, Rule.good, h1, Bool.and_assoc, hb, hi]; simp
theorem args_bad {r : Rule} {i : Nat} {l : Lit} (hl : r.lits[i]? = some l) (h : l.args.all (fun k => inR k 0 ((r.exps.length : Int) - 1)) = false) : argsOk r.exps.length r.lits = false := not_all hl h
theorem uses_end {r : Rule} {n m : Nat} {U V : List Int} (hn : n = r.exps.length) (hU : U = kidsOf (r.exps.take n)) (hm : ¬ m < r.lits.length) (hV : V = U ++ argsOf (r.lits.take m)) : V = r.uses := by
  subst hn hU hV; rw [List.take_length, List.take_of_length_le (by omega)]; rfl
theorem any_bad {m p : Nat} {U : List Int} (hp : p < m) (h : U.count (p : Int) ≠ 1) : (cnt m U).any (fun n => decide (n ≠ 1)) = true := by
  rw [List.any_eq_true]
  exact ⟨_, List.mem_of_getElem? (cnt_get (U := U) (a := (p : Int)) (by omega) (by omega)), by simp; omega⟩
theorem any_good {m : Nat} {U : List Int} (h : ∀ p, p < m → U.count (p : Int) = 1) : (cnt m U).any (fun n => decide (n ≠ 1)) = false := by
  rw [List.any_eq_false]
  intro x hx
  obtain ⟨j, hj⟩ := List.getElem?_of_mem hx
  have hlt := (List.getElem?_eq_some_iff.1 hj).1
  rw [cnt_len] at hlt
  have := cnt_get (m := m) (U := U) (a := (j : Int)) (by omega) (by omega)
  simp at this
  rw [this] at hj; cases hj
  simp [h j hlt]
theorem fine_of {r : Rule} {i : Nat} {e : Exp} (h1 : e.kids.all (fun k => inR k 0 ((i : Int) - 1)) = true) (h2 : e.badKind = false) (h3 : (e.txt r.exps r.outs).length ≤ 3000) : e.fine r i = true := by
  simp [Exp.fine, Exp.ok, h1, h2, h3]
theorem kids_in2 {e : Exp} {i : Nat} (h : e.kids.all (fun k => inR k 0 ((i : Int) - 1)) = true) : ∀ k ∈ e.kids, 0 ≤ k ∧ k < (i : Int) := by
  intro k hk
  have := List.all_eq_true.1 h k hk
  simp only [inR, Bool.and_eq_true, decide_eq_true_eq] at this
  omega
theorem txt_sum {es : List Exp} {o : List Bs} {e : Exp} {a b : Int} (h : isSum e.kind = true) (hab : e.kids = [a, b]) : e.txt es o = side es o a ++ ([32] ++ opB e.kind ++ [32]) ++ side es o b := by
  have : e.kind ≠ 2 ∧ e.kind ≠ 4 := by simp only [isSum, inR, Bool.and_eq_true, decide_eq_true_eq] at h; omega
  simp [Exp.txt, this, h, hab]
theorem side_of {es : List Exp} {o : List Bs} {k : Int} {e : Exp} (h : es[k.toNat]? = some e) : (if isSum e.kind then [40] ++ at_ o k ++ [41] else at_ o k) = side es o k := by simp [side, kindAt, h]
theorem lits_next {m : Nat} {ls : List Lit} {i n : Nat} {U V W : List Int} {l : Lit} (hx1 : i ≤ ls.length) (hx2 : V = U ++ argsOf (ls.take i)) (hx3 : ∀ (j : Nat) (l : Lit), j < i → ls[j]? = some l → (l.args.all fun k => inR k 0 ((m : Int) - 1)) = true) (he : ls[i]? = some l)
    (hy2 : W = V ++ l.args.take n) (hlast : ¬ n < l.args.length) (hall : (l.args.all fun k => inR k 0 ((m : Int) - 1)) = true) :
    i + 1 ≤ ls.length ∧ W = U ++ argsOf (ls.take (i + 1)) ∧ (∀ (j : Nat) (l : Lit), j < i + 1 → ls[j]? = some l → (l.args.all fun k => inR k 0 ((m : Int) - 1)) = true) := by
  have hi := (List.getElem?_eq_some_iff.1 he).1
  refine ⟨hi, ?_, fun j b hj hb => ?_⟩
  · rw [hy2, hx2, List.take_of_length_le (l := l.args) (by omega), List.append_assoc]; exact congrArg _ (flat_take (fun x : Lit => x.args) he).symm
  rcases Nat.lt_succ_iff_lt_or_eq.1 hj with h | h
  · exact hx3 j b h hb
  · rw [h, he] at hb; cases hb; exact hall
theorem kids_full_t {es : List Exp} {o : List Bs} {e : Exp} {q : Nat} (hk : e.kind = 4) (hq : q = e.kids.length) (h : 0 < e.kids.length) : kidsText o e q ++ [41] = e.txt es o := by
  subst hq
  rw [kidsText, if_neg (by omega), Exp.txt, if_neg (by omega), if_pos hk, if_pos h, List.take_length]; simp
theorem kids_full_f {es : List Exp} {o : List Bs} {e : Exp} {q : Nat} (hk : e.kind = 4) (hq : q = e.kids.length) (h : e.kids.length = 0) : kidsText o e q = e.txt es o := by
  subst hq
  rw [kidsText, if_pos h, Exp.txt, if_neg (by omega), if_pos hk, if_neg (by omega)]; simp
theorem fine_big {r : Rule} {i : Nat} {e : Exp} {s : Bs} (h : s = e.txt r.exps r.outs) (hc : decide ((s.length : Int) > 3000) = true) : e.fine r i = false := by
  have : ¬ (e.txt r.exps r.outs).length ≤ 3000 := by rw [← h]; simp at hc; omega
  simp [Exp.fine, this]
theorem fine_few {r : Rule} {i : Nat} {e : Exp} (h1 : inR e.kind 1 7 = true) (h2 : decide (e.kind ≤ 3) = true) (h3 : decide ((e.kids.length : Int) > 0) = true) : e.fine r i = false := by
  have : e.badKind = true := by
    have h4 : inR e.kind 1 3 = true := by
      simp only [inR, Bool.and_eq_true, decide_eq_true_eq] at h1 h2 ⊢
      omega
    rw [Exp.badKind, h4, h3]; simp
  simp [Exp.fine, Exp.ok, this]
theorem fine_ok {r : Rule} {i : Nat} {e : Exp} {s : Bs} (hall : e.kids.all (fun k => inR k 0 ((i : Int) - 1)) = true) (h : s = e.txt r.exps r.outs) (hc : decide ((s.length : Int) > 3000) = false) (h1 : inR e.kind 1 7 = true) (h2 : isSum e.kind = true → e.kids.length = 2) (h3 : e.kind ≤ 3 → e.kids.length = 0) : e.fine r i = true := by
  refine fine_of hall ?_ (by rw [← h]; simp at hc; omega)
  have h4 : (inR e.kind 1 3 && decide ((e.kids.length : Int) > 0)) = false := by
    cases hk : inR e.kind 1 3 with
    | false => rfl
    | true =>
      simp only [inR, Bool.and_eq_true, decide_eq_true_eq] at hk
      have := h3 hk.2
      rw [Bool.true_and, decide_eq_false_iff_not]; omega
  have h5 : (isSum e.kind && decide ((e.kids.length : Int) ≠ 2)) = false := by
    cases hk : isSum e.kind with
    | false => rfl
    | true => have := h2 hk; rw [Bool.true_and, decide_eq_false_iff_not]; omega
  rw [Exp.badKind, h1, h4, h5]; rfl

/-! ### A literal's text -/
def Lit.spec (o : List Bs) (l : Lit) : Bs × Bool := if l.kind = 3 then (if l.args.length ≠ 2 then ([], false) else (l.txt o, true)) else (l.txt o, decide (l.kind = 1) || decide (l.kind = 2))
def argsText (o : List Bs) (l : Lit) (q : Nat) : Bs := (if l.kind = 2 then [33] else []) ++ l.name ++ [40] ++ joinC ((l.args.take q).map (at_ o))
theorem argsText_zero2 (o : List Bs) (l : Lit) (h : l.kind = 2) : [33] ++ (l.name ++ [40]) = argsText o l 0 := by simp [argsText, h, joinC, Lib.join_nil]
theorem argsText_zero (o : List Bs) (l : Lit) (h : l.kind ≠ 2) : l.name ++ [40] = argsText o l 0 := by simp [argsText, h, joinC, Lib.join_nil]
theorem argsText_one {o : List Bs} {l : Lit} {a : Int} (h : l.args[0]? = some a) : argsText o l 0 ++ at_ o a = argsText o l 1 := by
  simp [argsText, List.take_one, List.head?_eq_getElem?, h, joinC, Lib.join_one, Lib.join_nil]
theorem argsText_succ {o : List Bs} {l : Lit} {a : Int} {q : Nat} (hq : q ≠ 0) (h : l.args[q]? = some a) : argsText o l q ++ [44, 32] ++ at_ o a = argsText o l (q + 1) := by
  have hi := (List.getElem?_eq_some_iff.1 h).1
  rw [argsText, argsText, take_snoc h, List.map_append, List.map_cons, List.map_nil, join_snoc]
  · simp
  · intro h0; have := congrArg List.length h0; simp at this; rcases this with h | h
    · omega
    · simp [h] at hi
theorem argsText_full {o : List Bs} {l : Lit} {q : Nat} (hq : q = l.args.length) (h3 : l.kind ≠ 3) : argsText o l q ++ [41] = l.txt o := by
  subst hq
  rw [argsText, Lit.txt, if_neg h3, List.take_length]
  by_cases h2 : l.kind = 2 <;> simp [h2]
theorem argsText_len {o : List Bs} {l : Lit} {q n : Nat} (hn : ∀ k ∈ l.args, (at_ o k).length ≤ n) : (argsText o l q).length ≤ l.name.length + 2 + l.args.length * (n + 2) := by
  have h1 := join_len ((l.args.take q).map (at_ o))
  have h2 : ∀ (l : List Int), (∀ k ∈ l, (at_ o k).length ≤ n) → ((l.map (at_ o)).map List.length).sum + 2 * l.length ≤ l.length * (n + 2) := by
    intro l
    induction l with
    | nil => simp
    | cons a l ih => intro h; have := ih (fun k hk => h k (List.mem_cons_of_mem _ hk)); have := h a (by simp); simp [Nat.add_mul] at *; omega
  have h3 := h2 (l.args.take q) (fun k hk => hn k (List.mem_of_mem_take hk))
  have h4 : (l.args.take q).length ≤ l.args.length := by simp; omega
  have h5 := Nat.mul_le_mul_right (n + 2) h4
  have h6 : (if l.kind = 2 then ([33] : Bs) else []).length ≤ 1 := by split <;> simp
  simp only [argsText, List.length_append, List.length_map, List.length_cons, List.length_nil] at *
  omega
theorem litSpec_few {o : List Bs} {l : Lit} (h3 : l.kind = 3) (h : l.args.length ≠ 2) : l.spec o = ([], false) := by rw [Lit.spec, if_pos h3, if_pos h]
theorem litSpec_two {o : List Bs} {l : Lit} {a b : Int} (h3 : l.kind = 3) (h : l.args = [a, b]) : l.spec o = (at_ o a ++ [32] ++ l.name ++ [32] ++ at_ o b, true) := by
  rw [Lit.spec, if_pos h3, if_neg (by simp [h]), Lit.txt, if_pos h3]; simp [h]
theorem litSpec_else {o : List Bs} {l : Lit} {s : Bs} {q : Nat} {b : Bool} (h3 : l.kind ≠ 3) (hs : s = argsText o l q) (hq : q = l.args.length) (hb : (decide (l.kind = 1) || decide (l.kind = 2)) = b) : l.spec o = (s ++ [41], b) := by
  rw [Lit.spec, if_neg h3, hs, argsText_full hq h3, hb]
end Go.Q
