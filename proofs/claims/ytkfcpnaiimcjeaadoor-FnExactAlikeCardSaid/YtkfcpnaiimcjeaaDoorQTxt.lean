/- The texts of expressions, literals and rules as plain Lean, with bounds on their lengths. No program in sight. -/
import Derived.Test.YtkfcpnaiimcjeaaDoorQText
import Derived.Lib.Join
set_option linter.unusedVariables false
set_option linter.unusedSimpArgs false
namespace Go.Q
abbrev joinC (l : List Bs) : Bs := Lib.join l [44, 32]
def at_ (o : List Bs) (k : Int) : Bs := o.getD k.toNat []
def kindAt (es : List Exp) (k : Int) : Int := ((es[k.toNat]?).map (·.kind)).getD 0
def opB (k : Int) : Bs := if k = 5 then [43] else if k = 6 then [45] else [42]
def side (es : List Exp) (o : List Bs) (k : Int) : Bs := if isSum (kindAt es k) then [40] ++ at_ o k ++ [41] else at_ o k
def Exp.txt (es : List Exp) (o : List Bs) (e : Exp) : Bs :=
  if e.kind = 2 then [95] else if e.kind = 4 then (if 0 < e.kids.length then e.text ++ [40] ++ joinC (e.kids.map (at_ o)) ++ [41] else e.text)
  else if isSum e.kind then side es o (e.kids.getD 0 0) ++ [32] ++ opB e.kind ++ [32] ++ side es o (e.kids.getD 1 0) else e.text
/-- The texts of the first expressions, each out of those before it. -/
def outsAux (es : List Exp) : List Bs → List Exp → List Bs
  | o, [] => o
  | o, e :: l => outsAux es (o ++ [e.txt es o]) l
def outs (es : List Exp) : List Bs := outsAux es [] es
def Lit.txt (o : List Bs) (l : Lit) : Bs :=
  if l.kind = 3 then at_ o (l.args.getD 0 0) ++ [32] ++ l.name ++ [32] ++ at_ o (l.args.getD 1 0)
  else if l.kind = 2 then [33] ++ l.name ++ [40] ++ joinC (l.args.map (at_ o)) ++ [41]
  else l.name ++ [40] ++ joinC (l.args.map (at_ o)) ++ [41]
def Rule.outs (r : Rule) : List Bs := Q.outs r.exps
def Rule.txt (r : Rule) : Bs :=
  r.head.txt r.outs ++ (if 0 < r.body.length then [32, 58, 45, 32] ++ joinC (r.body.map (·.txt r.outs)) else []) ++ [46]
def Rule.text (r : Rule) : Bs := if r.formed then (if r.txt.length > 3000 then [] else r.txt) else []

theorem outsAux_pre (es : List Exp) : ∀ (l : List Exp) (o : List Bs), o <+: outsAux es o l
  | [], o => List.prefix_refl _
  | e :: l, o => (List.prefix_append _ _).trans (outsAux_pre es l _)
theorem outsAux_len (es : List Exp) : ∀ (l : List Exp) (o : List Bs), (outsAux es o l).length = o.length + l.length
  | [], o => rfl
  | e :: l, o => by rw [outsAux, outsAux_len es l]; simp; omega
theorem outs_len (es : List Exp) : (outs es).length = es.length := by rw [outs, outsAux_len]; simp
theorem outsAux_get (es : List Exp) : ∀ (l : List Exp) (o : List Bs) (i : Nat) (e : Exp), l[i]? = some e → (outsAux es o l)[o.length + i]? = some (e.txt es ((outsAux es o l).take (o.length + i)))
  | [], o, i, e, h => by simp at h
  | x :: l, o, 0, e, h => by
    simp at h; subst h
    obtain ⟨t, ht⟩ := outsAux_pre es l (o ++ [x.txt es o])
    rw [outsAux, ← ht]
    simp
  | x :: l, o, i + 1, e, h => by
    have := outsAux_get es l (o ++ [x.txt es o]) i e (by simpa using h)
    rw [outsAux]
    rw [show (o ++ [x.txt es o]).length + i = o.length + (i + 1) by simp; omega] at this
    exact this
theorem outs_get {es : List Exp} {i : Nat} {e : Exp} (h : es[i]? = some e) : (outs es)[i]? = some (e.txt es ((outs es).take i)) := by
  have := outsAux_get es es [] i e h
  simpa [outs] using this
theorem at_take {o : List Bs} {k : Int} {i : Nat} (h0 : 0 ≤ k) (h : k < i) : at_ (o.take i) k = at_ o k := by
  have : k.toNat < i := by omega
  simp [at_, List.getD_eq_getElem?_getD, List.getElem?_take, this]
theorem txt_take {es : List Exp} {o : List Bs} {i : Nat} {e : Exp} (h : e.ok i = true) : e.txt es (o.take i) = e.txt es o := by
  have hk : ∀ k ∈ e.kids, 0 ≤ k ∧ k < (i : Int) := by
    intro k hk
    simp only [Exp.ok, Bool.and_eq_true, List.all_eq_true, inR, decide_eq_true_eq] at h
    have := h.1 k hk
    omega
  have hm : e.kids.map (at_ (o.take i)) = e.kids.map (at_ o) := List.map_congr_left fun k hk' => at_take (hk k hk').1 (hk k hk').2
  unfold Exp.txt
  rw [hm]
  by_cases h2 : e.kind = 2
  · simp [h2]
  by_cases h4 : e.kind = 4
  · simp [h2, h4]
  by_cases h5 : isSum e.kind = true
  · have hl : e.kids.length = 2 := by
      simp only [Exp.ok, Exp.badKind, Bool.and_eq_true, Bool.not_eq_true', Bool.or_eq_false_iff, h5] at h
      have := h.2.1.2
      simp at this; omega
    match hkk : e.kids, hl with
    | [a, b], _ =>
      have ha := hk a (by rw [hkk]; simp)
      have hb := hk b (by rw [hkk]; simp)
      simp only [h2, h4, h5, if_true, if_false, side, List.getD_cons_zero, List.getD_cons_succ, at_take ha.1 ha.2, at_take hb.1 hb.2]
  · simp [h2, h4, h5]
theorem outs_eq {r : Rule} (hf : r.formed = true) {i : Nat} {e : Exp} (h : r.exps[i]? = some e) : r.outs[i]? = some (e.txt r.exps r.outs) := by
  rw [Rule.outs, outs_get h, txt_take]
  simp only [Rule.formed, Bool.and_eq_true] at hf
  have := expsOk_get 0 _ hf.1.1.1 i e h
  rwa [Nat.zero_add] at this

/-! ### Lengths -/
def Exp.wt (e : Exp) : Nat := e.text.length + 2 * e.kids.length + 10
def Lit.wt (l : Lit) : Nat := l.name.length + 2 * l.args.length + 10
def wtE (es : List Exp) : Nat := (es.map Exp.wt).sum
def wtL (ls : List Lit) : Nat := (ls.map Lit.wt).sum
def Rule.wt (r : Rule) : Nat := wtE r.exps + wtL r.lits
def sumT (o : List Bs) (L : List Int) : Nat := (L.map fun k => (at_ o k).length).sum
theorem sumT_append (o : List Bs) (L M : List Int) : sumT o (L ++ M) = sumT o L + sumT o M := by simp [sumT]
theorem join_len : ∀ (l : List Bs), (joinC l).length ≤ (l.map List.length).sum + 2 * l.length
  | [] => by simp [joinC, Lib.join_nil]
  | [x] => by simp [joinC, Lib.join_one]
  | x :: y :: l => by
    have h := join_len (y :: l)
    have : joinC (x :: y :: l) = x ++ [44, 32] ++ joinC (y :: l) := by simp [joinC, Lib.join, List.intercalate]
    rw [this]; simp at h ⊢; omega
theorem side_len (es : List Exp) (o : List Bs) (k : Int) : (side es o k).length ≤ (at_ o k).length + 2 := by
  unfold side; split <;> simp
theorem opB_len (k : Int) : (opB k).length = 1 := by unfold opB; split <;> (try split) <;> rfl
theorem txt_len {es : List Exp} {o : List Bs} {i : Nat} {e : Exp} (h : e.ok i = true) : (e.txt es o).length ≤ e.wt + sumT o e.kids := by
  unfold Exp.txt
  split
  · simp [Exp.wt]; omega
  split
  · split
    · have := join_len (e.kids.map (at_ o))
      simp only [List.map_map, List.length_map] at this
      have h2 : (e.kids.map (List.length ∘ at_ o)).sum = sumT o e.kids := rfl
      simp [Exp.wt]; omega
    · simp [Exp.wt]; omega
  split
  · rename_i h5
    have hl : e.kids.length = 2 := by
      simp only [Exp.ok, Exp.badKind, Bool.and_eq_true, Bool.not_eq_true', Bool.or_eq_false_iff, h5] at h
      have := h.2.1.2
      simp at this; omega
    match hkk : e.kids, hl with
    | [a, b], _ =>
      have ha := side_len es o a
      have hb := side_len es o b
      have := opB_len e.kind
      simp [Exp.wt, hkk, sumT]; omega
  · simp [Exp.wt]; omega
theorem sumT_perm {o : List Bs} {L M : List Int} (h : L.Perm M) : sumT o L = sumT o M := (h.map _).sum_nat
theorem wtE_take {es : List Exp} {i : Nat} {e : Exp} (h : es[i]? = some e) : wtE (es.take (i + 1)) = wtE (es.take i) + e.wt := by
  rw [wtE, take_snoc h]; simp [wtE]
theorem sum_bound {r : Rule} (hf : r.formed = true) : ∀ (n : Nat) (L : List Int), n ≤ r.exps.length → (∀ k ∈ L, 0 ≤ k ∧ k < (n : Int)) → (∀ j : Int, L.count j + (kidsOf (r.exps.take n)).count j ≤ 1) → sumT r.outs L ≤ wtE (r.exps.take n)
  | 0, L, _, hL, _ => by
    cases L with
    | nil => simp [sumT]
    | cons k l => have := hL k (by simp); omega
  | n + 1, L, hn, hL, hc => by
    obtain ⟨e, he⟩ := get_some (show n < r.exps.length by omega)
    have hok : e.ok n = true := by
      simp only [Rule.formed, Bool.and_eq_true] at hf
      have := expsOk_get 0 _ hf.1.1.1 n e he
      rwa [Nat.zero_add] at this
    have hkids : kidsOf (r.exps.take (n + 1)) = kidsOf (r.exps.take n) ++ e.kids := flat_take _ he
    rw [hkids] at hc
    simp only [List.count_append] at hc
    rw [wtE_take he]
    by_cases hm : (n : Int) ∈ L
    · have hp := List.perm_cons_erase hm
      have h1 : L.count (n : Int) = 1 := by
        have := hc n
        have := List.count_pos_iff.2 hm
        omega
      have hcount : ∀ j : Int, L.count j = (L.erase (n : Int)).count j + (if (n : Int) == j then 1 else 0) := by
        intro j
        rw [hp.count_eq j, List.count_cons]
      have h2 : (L.erase (n : Int)).count (n : Int) = 0 := by have := hcount n; rw [if_pos (by simp)] at this; omega
      have hk : ∀ k ∈ e.kids, 0 ≤ k ∧ k < (n : Int) := by
        intro k hk
        simp only [Exp.ok, Bool.and_eq_true, List.all_eq_true, inR, decide_eq_true_eq] at hok
        have := hok.1 k hk
        omega
      have ih := sum_bound hf n (L.erase (n : Int) ++ e.kids) (by omega) (fun k hk' => by
        rcases List.mem_append.1 hk' with h | h
        · have h3 := hL k (List.mem_of_mem_erase h)
          have : k ≠ (n : Int) := by intro e; subst e; exact absurd h (List.count_eq_zero.1 h2)
          omega
        · exact hk k h) (fun j => by
          have := hc j
          have := hcount j
          rw [List.count_append]; omega)
      rw [sumT_append] at ih
      have h3 : sumT r.outs L = (at_ r.outs (n : Int)).length + sumT r.outs (L.erase (n : Int)) := by rw [sumT_perm hp]; simp [sumT]
      have h4 : at_ r.outs (n : Int) = e.txt r.exps r.outs := by
        simp [at_, List.getD_eq_getElem?_getD, outs_eq hf he]
      have h5 := txt_len (es := r.exps) (o := r.outs) hok
      rw [h4] at h3; omega
    · have ih := sum_bound hf n L (by omega) (fun k hk => by
        have := hL k hk
        have : k ≠ (n : Int) := by intro e; exact hm (e ▸ hk)
        omega) (fun j => by have := hc j; omega)
      omega
theorem uses_one {r : Rule} (hf : r.formed = true) {j : Int} (h0 : 0 ≤ j) (h1 : j < r.exps.length) : r.uses.count j = 1 := by
  simp only [Rule.formed, Bool.and_eq_true, Bool.not_eq_true', List.any_eq_false] at hf
  have h2 := cnt_get (U := r.uses) h0 h1
  have := hf.2 _ (List.mem_of_getElem? h2)
  simp at this; omega
theorem uses_in {r : Rule} (hf : r.formed = true) {j : Int} (h : j ∈ r.uses) : 0 ≤ j ∧ j < r.exps.length := by
  simp only [Rule.formed, Bool.and_eq_true] at hf
  rcases List.mem_append.1 h with h | h
  · obtain ⟨e, he, hj⟩ := List.mem_flatMap.1 h
    obtain ⟨i, hi⟩ := List.getElem?_of_mem he
    have h3 := expsOk_get 0 _ hf.1.1.1 i e hi
    simp only [Exp.ok, Bool.and_eq_true, List.all_eq_true, inR, decide_eq_true_eq] at h3
    have := h3.1 j hj
    have := (List.getElem?_eq_some_iff.1 hi).1
    omega
  · obtain ⟨e, he, hj⟩ := List.mem_flatMap.1 h
    obtain ⟨i, hi⟩ := List.getElem?_of_mem he
    have h3 := litsOk_get _ 0 _ hf.1.1.2 i e hi
    simp only [Lit.ok, Bool.and_eq_true, List.all_eq_true, inR, decide_eq_true_eq] at h3
    have := h3.2 j hj
    omega
theorem uses_le {r : Rule} (hf : r.formed = true) (j : Int) : r.uses.count j ≤ 1 := by
  by_cases h : j ∈ r.uses
  · have := uses_in hf h; rw [uses_one hf this.1 this.2]; omega
  · rw [List.count_eq_zero.2 h]; omega
/-- What is used together in literals has texts of bounded length. -/
theorem args_bound {r : Rule} (hf : r.formed = true) {L : List Int} (hL : L.Sublist (argsOf r.lits)) : sumT r.outs L ≤ wtE r.exps := by
  have := sum_bound hf r.exps.length L (Nat.le_refl _) (fun k hk => uses_in hf (List.mem_append_right _ (hL.mem hk))) (fun j => by
    have h1 := uses_le hf j
    rw [Rule.uses, List.count_append] at h1
    have h2 := hL.count_le j
    rw [List.take_length]; omega)
  rwa [List.take_length] at this
theorem kids_bound {r : Rule} (hf : r.formed = true) {i : Nat} {e : Exp} (he : r.exps[i]? = some e) : sumT r.outs e.kids ≤ wtE r.exps := by
  have hi := (List.getElem?_eq_some_iff.1 he).1
  have hkids : kidsOf (r.exps.take (i + 1)) = kidsOf (r.exps.take i) ++ e.kids := flat_take _ he
  have hpre : kidsOf (r.exps.take (i + 1)) <+: kidsOf r.exps := by
    have := flat_pre (fun e : Exp => e.kids) he e.kids.length
    rw [List.take_length] at this
    rw [hkids]; exact this
  have hin : ∀ k ∈ e.kids, 0 ≤ k ∧ k < (i : Int) := by
    intro k hk
    have hf' := hf
    simp only [Rule.formed, Bool.and_eq_true] at hf'
    have h3 := expsOk_get 0 _ hf'.1.1.1 i e he
    simp only [Exp.ok, Bool.and_eq_true, List.all_eq_true, inR, decide_eq_true_eq] at h3
    have := h3.1 k hk
    omega
  have := sum_bound hf i e.kids (by omega) hin (fun j => by
    have h1 := uses_le hf j
    rw [Rule.uses, List.count_append] at h1
    have h2 := hpre.sublist.count_le j
    rw [hkids, List.count_append] at h2
    omega)
  refine Nat.le_trans this ?_
  have : wtE r.exps = wtE (r.exps.take i) + wtE (r.exps.drop i) := by
    rw [wtE, wtE, wtE, ← List.sum_append, ← List.map_append, List.take_append_drop]
  omega
theorem le_sum : ∀ {l : List Nat} {a : Nat}, a ∈ l → a ≤ l.sum
  | b :: l, a, h => by
    rcases List.mem_cons.1 h with h | h
    · subst h; simp
    · have := le_sum h; simp; omega
theorem wt_mem {es : List Exp} {e : Exp} (h : e ∈ es) : e.wt ≤ wtE es := le_sum (List.mem_map_of_mem h)
theorem wtL_mem {ls : List Lit} {l : Lit} (h : l ∈ ls) : l.wt ≤ wtL ls := le_sum (List.mem_map_of_mem h)
theorem out_bound {r : Rule} (hf : r.formed = true) (k : Int) : (at_ r.outs k).length ≤ 2 * wtE r.exps := by
  unfold at_
  rw [List.getD_eq_getElem?_getD]
  cases he : r.exps[k.toNat]? with
  | none =>
    have : r.outs[k.toNat]? = none := by
      rw [List.getElem?_eq_none_iff] at he ⊢; rw [Rule.outs, outs_len]; exact he
    rw [this]; simp
  | some e =>
    rw [outs_eq hf he]
    have hok : e.ok k.toNat = true := by
      simp only [Rule.formed, Bool.and_eq_true] at hf
      have := expsOk_get 0 _ hf.1.1.1 _ e he
      rwa [Nat.zero_add] at this
    have h1 := txt_len (es := r.exps) (o := r.outs) hok
    have h2 := kids_bound hf he
    have h3 := wt_mem (List.mem_of_getElem? he)
    simp; omega
theorem lit_len {o : List Bs} {m i : Nat} {l : Lit} (h : l.ok m i = true) : (l.txt o).length ≤ l.wt + sumT o l.args := by
  unfold Lit.txt
  have h2 : (l.args.map (List.length ∘ at_ o)).sum = sumT o l.args := rfl
  have hj := join_len (l.args.map (at_ o))
  simp only [List.map_map, List.length_map] at hj
  split
  · rename_i h3
    have hl : l.args.length = 2 := by
      simp only [Lit.ok, Lit.badKind, Bool.and_eq_true, Bool.not_eq_true', Bool.or_eq_false_iff, h3] at h
      have := h.1.2
      simp at this; omega
    match hkk : l.args, hl with
    | [a, b], _ => simp [Lit.wt, hkk, sumT]; omega
  split
  · simp [Lit.wt]; omega
  · simp [Lit.wt]; omega

/-! ### More for the walks -/
def Rule.cells (r : Rule) : List D := [dexps r.exps, di r.head.kind, ds r.head.name, dints r.head.args, dlits r.body]
theorem op_get {k : Int} (h : isSum k = true) : 0 ≤ k - 5 ∧ ([ds [43], ds [45], ds [42]] : List D)[(k - 5).toNat]? = some (ds (opB k)) := by
  simp only [isSum, inR, Bool.and_eq_true, decide_eq_true_eq] at h
  have : k = 5 ∨ k = 6 ∨ k = 7 := by omega
  rcases this with rfl | rfl | rfl <;> exact ⟨by decide, rfl⟩
theorem op_get' {k : Int} (h : isSum k = true) : 0 ≤ k - 5 ∧ ([ds [32, 43, 32], ds [32, 45, 32], ds [32, 42, 32]] : List D)[(k - 5).toNat]? = some (ds ([32] ++ opB k ++ [32])) := by
  simp only [isSum, inR, Bool.and_eq_true, decide_eq_true_eq] at h
  have : k = 5 ∨ k = 6 ∨ k = 7 := by omega
  rcases this with rfl | rfl | rfl <;> exact ⟨by decide, rfl⟩
theorem kids_in {e : Exp} {i : Nat} (h : e.ok i = true) {k : Int} (hk : k ∈ e.kids) : 0 ≤ k ∧ k < (i : Int) := by
  simp only [Exp.ok, Bool.and_eq_true, List.all_eq_true, inR, decide_eq_true_eq] at h
  have := h.1 k hk
  omega
theorem sum_two {e : Exp} {i : Nat} (h : e.ok i = true) (h5 : isSum e.kind = true) : ∃ a b, e.kids = [a, b] := by
  have hl : e.kids.length = 2 := by
    simp only [Exp.ok, Exp.badKind, Bool.and_eq_true, Bool.not_eq_true', Bool.or_eq_false_iff, h5] at h
    have := h.2.1.2
    simp at this; omega
  match hk : e.kids, hl with
  | [a, b], _ => exact ⟨a, b, rfl⟩
theorem exp_ok {r : Rule} (hf : r.formed = true) {i : Nat} {e : Exp} (h : r.exps[i]? = some e) : e.ok i = true := by
  simp only [Rule.formed, Bool.and_eq_true] at hf
  have := expsOk_get 0 _ hf.1.1.1 i e h
  rwa [Nat.zero_add] at this
theorem lit_ok {r : Rule} (hf : r.formed = true) {i : Nat} {l : Lit} (h : r.lits[i]? = some l) : l.ok r.exps.length i = true := by
  simp only [Rule.formed, Bool.and_eq_true] at hf
  have := litsOk_get _ 0 _ hf.1.1.2 i l h
  rwa [Nat.zero_add] at this
theorem args_in {l : Lit} {m i : Nat} (h : l.ok m i = true) {k : Int} (hk : k ∈ l.args) : 0 ≤ k ∧ k < (m : Int) := by
  simp only [Lit.ok, Bool.and_eq_true, List.all_eq_true, inR, decide_eq_true_eq] at h
  have := h.2 k hk
  omega
theorem at_eq {r : Rule} (hf : r.formed = true) {i : Nat} {e : Exp} (h : r.exps[i]? = some e) : at_ r.outs (i : Int) = e.txt r.exps r.outs := by
  simp [at_, List.getD_eq_getElem?_getD, outs_eq hf h]
theorem joinK_len {r : Rule} {L : List Int} {B n : Nat} (h : sumT r.outs L ≤ B) (hn : L.length ≤ n) : (joinC (L.map (at_ r.outs))).length ≤ B + 2 * n := by
  have := join_len (L.map (at_ r.outs))
  simp only [List.map_map, List.length_map] at this
  have h2 : (L.map (List.length ∘ at_ r.outs)).sum = sumT r.outs L := rfl
  omega
theorem kidsLen {e : Exp} : e.kids.length ≤ e.wt := by simp [Exp.wt]; omega
theorem textLen {e : Exp} : e.text.length ≤ e.wt := by simp [Exp.wt]; omega
theorem argsLen {l : Lit} : l.args.length ≤ l.wt := by simp [Lit.wt]; omega
theorem nameLen {l : Lit} : l.name.length ≤ l.wt := by simp [Lit.wt]; omega
theorem sub_lit {r : Rule} {i : Nat} {l : Lit} (h : r.lits[i]? = some l) : l.args.Sublist (argsOf r.lits) := by
  have := flat_pre (fun e : Lit => e.args) h l.args.length
  rw [List.take_length] at this
  exact (List.sublist_append_right _ _).trans this.sublist
theorem s_append_to {P : Program} {β : Base} {σ : St} {o : Oper} {t e sz by_ dst id n m : Nat} {mu : Bool} {x y : Operand} {l l2 l' : List D} (ho : o.op = .call { callee := .builtin .append, args := #[x, y], argTypes := #[t, t] }) (hd : o.dst = some dst) (hdn : Nat.blt dst β.n = true)
    (hx : aev σ x = .asl id n) (hH : σ.H id = .arr mu sz e l) (hn : n = l.length) (hy : IsSl σ.H sz (aev σ y) l2) (ht : ElemT P t e sz by_) (hl' : l ++ l2 = l') (hm : l'.length = m) (hb : m * by_ ≤ 140737488355328) (hml : m ≤ maxLen) :
    SStep P β σ o ((σ.setH id (.arr mu sz e l')).put dst (.asl id m)) := by
  subst hl'
  exact s_append ho hd (lt_of_blt hdn) hx hH hn hy ht hm hb hml
theorem T_cond_ht {P : Program} {β : Base} {c : Operand} {x y : Code} {Q : Exit → St → Prop} {σ : St} {b : Bool} (hc : aev σ c = .d (.s (.bool b))) (hb : b = true) (h : T P β x Q σ) : T P β (.cond c x y) Q σ := T_cond hc (fun _ => h) (fun e => by rw [hb] at e; cases e)
theorem T_cond_hf {P : Program} {β : Base} {c : Operand} {x y : Code} {Q : Exit → St → Prop} {σ : St} {b : Bool} (hc : aev σ c = .d (.s (.bool b))) (hb : b = false) (h : T P β y Q σ) : T P β (.cond c x y) Q σ := T_cond hc (fun e => by rw [hb] at e; cases e) (fun _ => h)
theorem lit_two {l : Lit} {m i : Nat} (h : l.ok m i = true) (h3 : l.kind = 3) : ∃ a b, l.args = [a, b] := by
  have hl : l.args.length = 2 := by
    simp only [Lit.ok, Lit.badKind, Bool.and_eq_true, Bool.not_eq_true', Bool.or_eq_false_iff, h3] at h
    have := h.1.2
    simp at this; omega
  match hk : l.args, hl with
  | [a, b], _ => exact ⟨a, b, rfl⟩
theorem wtE_len (es : List Exp) : 10 * es.length + 2 * (kidsOf es).length ≤ wtE es := by
  induction es with
  | nil => simp [wtE, kidsOf]
  | cons e l ih => simp only [wtE, kidsOf, List.map_cons, List.sum_cons, List.length_cons, List.flatMap_cons, List.length_append, Exp.wt] at *; omega
theorem wtL_len (ls : List Lit) : 10 * ls.length + 2 * (argsOf ls).length ≤ wtL ls := by
  induction ls with
  | nil => simp [wtL, argsOf]
  | cons e l ih => simp only [wtL, argsOf, List.map_cons, List.sum_cons, List.length_cons, List.flatMap_cons, List.length_append, Lit.wt] at *; omega
theorem Rule.small {r : Rule} {n : Nat} (hw : r.wt ≤ n) : r.exps.length ≤ n ∧ r.body.length ≤ n ∧ r.uses.length ≤ n ∧ (∀ e ∈ r.exps, e.kids.length ≤ n) ∧ (∀ l ∈ r.lits, l.args.length ≤ n) ∧ (∀ e ∈ r.exps, e.text.length ≤ n) ∧ (∀ l ∈ r.lits, l.name.length ≤ n) := by
  have h1 := wtE_len r.exps
  have h2 := wtL_len r.lits
  have h3 : r.lits.length = r.body.length + 1 := by simp [Rule.lits]
  have h4 : r.uses.length = (kidsOf r.exps).length + (argsOf r.lits).length := by simp [Rule.uses]
  have h5 : r.wt = wtE r.exps + wtL r.lits := rfl
  refine ⟨by omega, by omega, by omega, fun e he => ?_, fun l hl => ?_, fun e he => ?_, fun l hl => ?_⟩
  · have := wt_mem he; have := @kidsLen e; omega
  · have := wtL_mem hl; have := @argsLen l; omega
  · have := wt_mem he; have := @textLen e; omega
  · have := wtL_mem hl; have := @nameLen l; omega
theorem lits_len {o : List Bs} {m : Nat} : ∀ {ls : List Lit}, (∀ l ∈ ls, ∃ i, l.ok m i = true) → (ls.map fun l => (l.txt o).length).sum ≤ wtL ls + sumT o (argsOf ls)
  | [], _ => by simp
  | l :: ls, h => by
    have ih := lits_len (o := o) (ls := ls) (fun x hx => h x (List.mem_cons_of_mem _ hx))
    obtain ⟨i, hi⟩ := h l (List.mem_cons_self ..)
    have h1 := lit_len (o := o) hi
    have h2 : sumT o (argsOf (l :: ls)) = sumT o l.args + sumT o (argsOf ls) := by simp [argsOf, sumT_append]
    simp only [List.map_cons, List.sum_cons, wtL] at *
    omega
theorem txt_bound {r : Rule} (hf : r.formed = true) : (r.head.txt r.outs).length + (joinC (r.body.map (·.txt r.outs))).length ≤ 2 * r.wt := by
  have h1 := lits_len (o := r.outs) (m := r.exps.length) (ls := r.lits) (fun l hl => by
    obtain ⟨i, hi⟩ := List.getElem?_of_mem hl
    exact ⟨i, lit_ok hf hi⟩)
  have h2 := args_bound hf (List.Sublist.refl _)
  have h3 := join_len (r.body.map (·.txt r.outs))
  have h4 := wtL_len r.lits
  have h5 : r.lits.length = r.body.length + 1 := by simp [Rule.lits]
  have h6 : r.wt = wtE r.exps + wtL r.lits := rfl
  have h7 : (r.lits.map fun l => (l.txt r.outs).length).sum = (r.head.txt r.outs).length + ((r.body.map (·.txt r.outs)).map List.length).sum := by simp [Rule.lits, Function.comp_def]
  rw [List.length_map] at h3
  omega
theorem lit_bound {r : Rule} (hf : r.formed = true) {l : Lit} {i : Nat} (hl : r.lits[i]? = some l) : (l.txt r.outs).length ≤ 2 * r.wt := by
  have h1 := lit_len (o := r.outs) (lit_ok hf hl)
  have h2 := args_bound hf (sub_lit hl)
  have h3 := wtL_mem (List.mem_of_getElem? hl)
  have h6 : r.wt = wtE r.exps + wtL r.lits := rfl
  omega
theorem txt_t {r : Rule} {X : List Bs} (hX : X = r.body.map (·.txt r.outs)) (h : decide ((X.length : Int) > 0) = true) : r.txt = r.head.txt r.outs ++ ([32, 58, 45, 32] ++ Lib.join X [44, 32]) ++ [46] := by
  have h' : 0 < r.body.length := by rw [hX] at h; simpa using h
  rw [Rule.txt, if_pos h', hX]
theorem txt_f {r : Rule} {X : List Bs} (hX : X = r.body.map (·.txt r.outs)) (h : decide ((X.length : Int) > 0) = false) : r.txt = r.head.txt r.outs ++ [46] := by
  have h' : ¬ 0 < r.body.length := by rw [hX] at h; simpa using h
  rw [Rule.txt, if_neg h']; simp
theorem text_big {r : Rule} {s : Bs} (hf : r.formed = true) (hs : r.txt = s) (h : decide ((s.length : Int) > 3000) = true) : r.text = [] := by
  rw [Rule.text, hf, hs]; simp at h ⊢; omega
theorem text_small {r : Rule} {s : Bs} (hf : r.formed = true) (hs : r.txt = s) (h : decide ((s.length : Int) > 3000) = false) : r.text = s := by
  rw [Rule.text, hf, hs]; simp at h ⊢; omega
end Go.Q
