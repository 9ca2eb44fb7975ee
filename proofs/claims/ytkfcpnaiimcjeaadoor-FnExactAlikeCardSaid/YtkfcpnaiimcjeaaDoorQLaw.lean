/- The reference's text of a rule is the program's. No program in sight. -/
import Derived.Test.YtkfcpnaiimcjeaaDoorQSpec
set_option linter.unusedVariables false
set_option linter.unusedSimpArgs false
namespace Go.Q
theorem mem_join_le : ∀ {l : List Bs} {x : Bs}, x ∈ l → x.length ≤ (joinC l).length
  | [a], x, h => by simp at h; subst h; simp [joinC, Lib.join_one]
  | a :: b :: l, x, h => by
    have h1 : joinC (a :: b :: l) = a ++ [44, 32] ++ joinC (b :: l) := by simp [joinC, Lib.join, List.intercalate]
    rw [h1]
    rcases List.mem_cons.1 h with h | h
    · subst h; simp only [List.length_append]; omega
    · have := mem_join_le h; simp only [List.length_append]; omega
theorem side_ge (es : List Exp) (o : List Bs) (k : Int) : (at_ o k).length ≤ (side es o k).length := by
  unfold side; split
  · simp only [List.length_append]; omega
  · exact Nat.le_refl _
theorem kid_le {es : List Exp} {o : List Bs} {i : Nat} {e : Exp} (h : e.ok i = true) {k : Int} (hk : k ∈ e.kids) : (at_ o k).length ≤ (e.txt es o).length := by
  have hb : e.badKind = false := by simp only [Exp.ok, Bool.and_eq_true, Bool.not_eq_true'] at h; exact h.2
  have hpos : 0 < e.kids.length := List.length_pos_of_mem hk
  have hb0 := hb
  rw [Exp.badKind] at hb
  simp only [Bool.or_eq_false_iff, Bool.not_eq_false', Bool.and_eq_false_iff, decide_eq_false_iff_not] at hb
  by_cases h5 : isSum e.kind = true
  · obtain ⟨a, b, hab⟩ := sum_two h h5
    rw [txt_sum h5 hab]
    have ha := side_ge es o a
    have hb2 := side_ge es o b
    rw [hab] at hk
    simp only [List.mem_cons, List.not_mem_nil, or_false] at hk
    simp only [List.length_append]
    rcases hk with rfl | rfl <;> omega
  · have h4 : e.kind = 4 := by
      have h17 := hb.1.1
      simp only [inR, Bool.and_eq_true, decide_eq_true_eq] at h17
      have h13 : ¬ (1 ≤ e.kind ∧ e.kind ≤ 3) := by
        intro hc
        rcases hb.2 with h0 | h0
        · simp [inR] at h0; omega
        · omega
      simp [isSum, inR] at h5
      omega
    rw [Exp.txt, if_neg (by omega), if_pos h4, if_pos hpos]
    have := mem_join_le (List.mem_map_of_mem (f := at_ o) hk)
    simp only [List.length_append]; omega
theorem arg_le {o : List Bs} {m i : Nat} {l : Lit} (h : l.ok m i = true) {k : Int} (hk : k ∈ l.args) : (at_ o k).length ≤ (l.txt o).length := by
  have hj := mem_join_le (List.mem_map_of_mem (f := at_ o) hk)
  unfold Lit.txt
  split
  · rename_i h3
    obtain ⟨a, b, hab⟩ := lit_two h h3
    rw [hab] at hk ⊢
    simp only [List.mem_cons, List.not_mem_nil, or_false] at hk
    simp only [List.length_append, List.getD_cons_zero, List.getD_cons_succ]
    rcases hk with rfl | rfl <;> omega
  split <;> (simp only [List.length_append]; omega)
theorem lit_le {r : Rule} {l : Lit} (h : l ∈ r.lits) : (l.txt r.outs).length ≤ r.txt.length := by
  unfold Rule.txt
  rcases List.mem_cons.1 h with h | h
  · subst h; simp only [List.length_append]; omega
  · have hp : 0 < r.body.length := List.length_pos_of_mem h
    have := mem_join_le (List.mem_map_of_mem (f := fun l : Lit => l.txt r.outs) h)
    rw [if_pos hp]; simp only [List.length_append]; omega
theorem out_le {r : Rule} (hf : r.formed = true) : ∀ (n j : Nat), r.exps.length - j = n → j < r.exps.length → (at_ r.outs (j : Int)).length ≤ r.txt.length := by
  intro n
  induction n using Nat.strongRecOn with
  | _ n ih =>
    intro j hn hj
    have hu : (j : Int) ∈ r.uses := List.count_pos_iff.1 (by rw [uses_one hf (by omega) (by omega)]; omega)
    rcases List.mem_append.1 hu with h | h
    · obtain ⟨e, he, hk⟩ := List.mem_flatMap.1 h
      obtain ⟨i, hi⟩ := List.getElem?_of_mem he
      have hlt := (List.getElem?_eq_some_iff.1 hi).1
      have hok := exp_ok hf hi
      have h1 := kids_in hok hk
      have h2 := kid_le (es := r.exps) (o := r.outs) hok hk
      have h3 := ih (r.exps.length - i) (by omega) i rfl hlt
      rw [at_eq hf hi] at h3
      omega
    · obtain ⟨l, hl, hk⟩ := List.mem_flatMap.1 h
      obtain ⟨i, hi⟩ := List.getElem?_of_mem hl
      have h2 := arg_le (o := r.outs) (lit_ok hf hi) hk
      have h3 := lit_le hl
      omega
theorem argsOk_formed {r : Rule} (hf : r.formed = true) : argsOk r.exps.length r.lits = true := by
  rw [argsOk, List.all_eq_true]
  intro l hl
  obtain ⟨i, hi⟩ := List.getElem?_of_mem hl
  have := lit_ok hf hi
  simp only [Lit.ok, Bool.and_eq_true] at this
  exact this.2
theorem text_none {r : Rule} (h : r.specExps.2 = false) : r.text = [] := by
  cases hf : r.formed with
  | false => rw [Rule.text, hf]; rfl
  | true =>
    have hf' := hf
    simp only [Rule.formed, Bool.and_eq_true, Bool.not_eq_true', decide_eq_true_eq] at hf'
    have h60 : ¬ r.exps.length > 60 := by omega
    rw [Rule.specExps, if_neg h60] at h
    have hfb : r.fb ≠ r.exps.length := by
      intro e
      simp only [Rule.good, e, argsOk_formed hf, hf'.2] at h
      simp at h
    obtain ⟨i, e, he, hnf⟩ : ∃ (i : Nat) (e : Exp), r.exps[i]? = some e ∧ e.fine r i = false := by
      by_cases hall : ∀ (j : Nat) (e : Exp), r.exps[j]? = some e → e.fine r j = true
      · exact absurd (fb_end hall) hfb
      · simp only [Classical.not_forall] at hall
        obtain ⟨j, e, he, hn⟩ := hall
        exact ⟨j, e, he, by simpa using hn⟩
    have hlt := (List.getElem?_eq_some_iff.1 he).1
    have h1 : ¬ (e.txt r.exps r.outs).length ≤ 3000 := by
      intro hle
      simp [Exp.fine, exp_ok hf he, hle] at hnf
    have h2 := out_le hf _ i rfl hlt
    rw [at_eq hf he] at h2
    rw [Rule.text, hf, if_pos rfl, if_pos (by omega)]
theorem spec_true {r : Rule} (h : r.specExps.2 = true) : r.specExps.1 = r.outs ∧ r.exps.length ≤ 60 ∧ (∀ (i : Nat) (e : Exp), r.exps[i]? = some e → e.fine r i = true) ∧ argsOk r.exps.length r.lits = true ∧ (cnt r.exps.length r.uses).any (fun n => decide (n ≠ 1)) = false := by
  by_cases h60 : r.exps.length > 60
  · rw [Rule.specExps, if_pos h60] at h; cases h
  · rw [Rule.specExps, if_neg h60] at h ⊢
    simp only [Rule.good, Bool.and_eq_true, decide_eq_true_eq, Bool.not_eq_true'] at h
    refine ⟨?_, by omega, fun i e he => fb_fine h.1.1 he, h.1.2, h.2⟩
    dsimp only
    rw [h.1.1, pad_full]
theorem spec_args {r : Rule} (h : r.specExps.2 = true) {l : Lit} (hl : l ∈ r.lits) : ∀ k ∈ l.args, 0 ≤ k ∧ k < (r.specExps.1.length : Int) := by
  obtain ⟨h1, h2, h3, h4, h5⟩ := spec_true h
  intro k hk
  have := List.all_eq_true.1 (List.all_eq_true.1 h4 l hl) k hk
  simp only [inR, Bool.and_eq_true, decide_eq_true_eq] at this
  rw [h1, Rule.outs, outs_len]; omega
theorem spec_len {r : Rule} (h : r.specExps.2 = true) {l : Lit} (hl : l ∈ r.lits) : ∀ k ∈ l.args, (at_ r.specExps.1 k).length ≤ 3000 := by
  intro k hk
  have h0 := spec_args h hl k hk
  obtain ⟨h1, h2, h3, h4, h5⟩ := spec_true h
  rw [h1] at h0 ⊢
  rw [Rule.outs, outs_len] at h0
  exact fine_len (i := r.exps.length) (fun j e _ he => h3 j e he) h0.1 (by omega) (Nat.le_refl _)
/-- A literal whose text the reference gives is one of the form. -/
theorem lit_good {r : Rule} (h : r.specExps.2 = true) {i : Nat} {l : Lit} (hl : r.lits[i]? = some l) (hs : (l.spec r.specExps.1).2 = true) (h0 : i = 0 → l.kind = 1) : l.ok r.exps.length i = true := by
  obtain ⟨h1, h2, h3, h4, h5⟩ := spec_true h
  have ha := List.all_eq_true.1 h4 l (List.mem_of_getElem? hl)
  have hb : l.badKind i = false := by
    rw [Lit.spec] at hs
    have hk0 : (decide ((i : Int) = 0) && decide (l.kind ≠ 1)) = false := by
      by_cases hi : i = 0
      · simp [h0 hi]
      · have : decide ((i : Int) = 0) = false := by simpa using hi
        rw [this]; rfl
    split at hs
    · rename_i hk
      split at hs
      · cases hs
      · rename_i hl2
        rw [Lit.badKind, hk0]; simp [hk, inR]; omega
    · rename_i hk
      simp only [Bool.or_eq_true, decide_eq_true_eq] at hs
      rw [Lit.badKind, hk0]
      rcases hs with hs | hs <;> simp [hs, inR]
  rw [Lit.ok, hb, ha]; rfl
theorem formed_good {r : Rule} (h : r.specExps.2 = true) (hl : ∀ (i : Nat) (l : Lit), r.lits[i]? = some l → l.ok r.exps.length i = true) : r.formed = true := by
  obtain ⟨h1, h2, h3, h4, h5⟩ := spec_true h
  have e1 : expsOk 0 r.exps = true := expsOk_of 0 _ fun j e he => by
    have := h3 j e he
    simp only [Exp.fine, Bool.and_eq_true] at this
    rw [Nat.zero_add]; exact this.1
  have e2 : litsOk r.exps.length 0 r.lits = true := litsOk_of _ 0 _ fun j e he => by rw [Nat.zero_add]; exact hl j e he
  rw [Rule.formed, e1, e2, h5]; simp; omega
/-- A literal of a rule of the form has a text. -/
theorem lit_spec_ok {r : Rule} (hf : r.formed = true) {i : Nat} {l : Lit} (hl : r.lits[i]? = some l) (o : List Bs) : (l.spec o).2 = true ∧ (i = 0 → l.kind = 1) := by
  have := lit_ok hf hl
  simp only [Lit.ok, Bool.and_eq_true, Bool.not_eq_true'] at this
  have hb := this.1
  simp only [Lit.badKind, Bool.or_eq_false_iff, Bool.and_eq_false_iff, Bool.not_eq_false', decide_eq_false_iff_not, inR, Bool.and_eq_true, decide_eq_true_eq] at hb
  refine ⟨?_, fun hi => ?_⟩
  · rw [Lit.spec]
    split
    · rename_i hk
      rw [if_neg (by rcases hb.2 with h | h <;> omega)]
    · rename_i hk
      have : l.kind = 1 ∨ l.kind = 2 := by omega
      rcases this with h | h <;> simp [h]
  · rcases hb.1.1 with h | h
    · omega
    · omega
/-- The text up to a literal of the body. -/
def headText (r : Rule) (i : Nat) : Bs := r.head.txt r.outs ++ (if i = 0 then [] else [32, 58, 45, 32] ++ joinC ((r.body.take i).map (·.txt r.outs)))
theorem headText_one {r : Rule} {l : Lit} (h : r.body[0]? = some l) : headText r 0 ++ [32, 58, 45, 32] ++ l.txt r.outs = headText r 1 := by
  simp [headText, List.take_one, List.head?_eq_getElem?, h, joinC, Lib.join_one]
theorem headText_succ {r : Rule} {l : Lit} {i : Nat} (hi : i ≠ 0) (h : r.body[i]? = some l) : headText r i ++ [44, 32] ++ l.txt r.outs = headText r (i + 1) := by
  have hl := (List.getElem?_eq_some_iff.1 h).1
  rw [headText, headText, if_neg hi, if_neg (by omega), take_snoc h, List.map_append, List.map_cons, List.map_nil, join_snoc]
  · simp
  · intro h0; have := congrArg List.length h0; simp at this; rcases this with h | h
    · omega
    · simp [h] at hl
theorem headText_full {r : Rule} {i : Nat} (h : i = r.body.length) : headText r i ++ [46] = r.txt := by
  subst h
  rw [headText, Rule.txt, List.take_length]
  by_cases h : r.body.length = 0
  · rw [if_pos h, if_neg (by omega)]
  · rw [if_neg h, if_pos (by omega)]
theorem headText_le {r : Rule} (i : Nat) (hi : i ≤ r.body.length) : (headText r i).length + 1 ≤ r.txt.length := by
  rw [headText, Rule.txt]
  by_cases h : i = 0
  · rw [if_pos h]; simp only [List.length_append, List.length_cons, List.length_nil]; omega
  · rw [if_neg h]
    by_cases hb : 0 < r.body.length
    · rw [if_pos hb]
      have h1 : (joinC ((r.body.take i).map (·.txt r.outs))).length ≤ (joinC (r.body.map (·.txt r.outs))).length := by
        have key : ∀ (a b : List Bs), (joinC a).length ≤ (joinC (a ++ b)).length := by
          intro a
          induction a with
          | nil => intro b; simp [joinC, Lib.join_nil]
          | cons x a ih =>
            intro b
            cases a with
            | nil =>
              cases b with
              | nil => simp
              | cons y b => simp [joinC, Lib.join, List.intercalate]
            | cons y a =>
              have h1 : ∀ (u v : Bs) (m : List Bs), joinC (u :: v :: m) = u ++ [44, 32] ++ joinC (v :: m) := by intro u v m; simp [joinC, Lib.join, List.intercalate]
              have := ih b
              rw [List.cons_append, List.cons_append, h1, h1]
              simp only [List.length_append] at *
              rw [List.cons_append] at this
              omega
        have := key ((r.body.take i).map (·.txt r.outs)) ((r.body.drop i).map (·.txt r.outs))
        rwa [← List.map_append, List.take_append_drop] at this
      simp only [List.length_append, List.length_cons, List.length_nil]; omega
    · omega
theorem text_bad {r : Rule} {i : Nat} {l : Lit} (hl : r.lits[i]? = some l) (o : List Bs) (h : (l.spec o).2 = false ∨ (i = 0 ∧ l.kind ≠ 1)) : r.text = [] := by
  cases hf : r.formed with
  | false => rw [Rule.text, hf]; rfl
  | true =>
    have := lit_spec_ok hf hl o
    rcases h with h | h
    · rw [h] at this; cases this.1
    · exact absurd (this.2 h.1) h.2
theorem text_long {r : Rule} {i : Nat} {s : Bs} (hi : i ≤ r.body.length) (hs : s = headText r i) (h : decide (((s ++ [46]).length : Int) > 3000) = true) : r.text = [] := by
  cases hf : r.formed with
  | false => rw [Rule.text, hf]; rfl
  | true =>
    have := headText_le (r := r) i hi
    rw [Rule.text, hf, if_pos rfl, if_pos]
    subst hs
    simp only [List.length_append, List.length_cons, List.length_nil, decide_eq_true_eq] at h
    omega
theorem text_is {r : Rule} {i : Nat} {s : Bs} (hf : r.formed = true) (hi : i = r.body.length) (hs : s = headText r i) (h : decide (((s ++ [46]).length : Int) > 3000) = false) : r.text = s ++ [46] := by
  subst hs
  rw [headText_full hi] at h ⊢
  simp at h
  rw [Rule.text, hf, if_pos rfl, if_neg (by omega)]
theorem text_bodies {r : Rule} (h : r.body.length > 3000) : r.text = [] := by
  cases hf : r.formed with
  | false => rw [Rule.text, hf]; rfl
  | true =>
    have h1 : ∀ (l : List Bs), 2 * l.length ≤ (joinC l).length + 2 := by
      intro l
      induction l with
      | nil => simp
      | cons x l ih =>
        cases l with
        | nil => simp
        | cons y l =>
          have h1 : joinC (x :: y :: l) = x ++ [44, 32] ++ joinC (y :: l) := by simp [joinC, Lib.join, List.intercalate]
          rw [h1]; simp only [List.length_append, List.length_cons, List.length_nil] at *; omega
    have := h1 (r.body.map (·.txt r.outs))
    rw [List.length_map] at this
    have h2 : (joinC (r.body.map (·.txt r.outs))).length ≤ r.txt.length := by
      rw [Rule.txt, if_pos (by omega)]; simp only [List.length_append]; omega
    rw [Rule.text, hf, if_pos rfl, if_pos (by omega)]
theorem litSpec_txt {o : List Bs} {l : Lit} (h : (l.spec o).2 = true) : (l.spec o).1 = l.txt o := by
  rw [Lit.spec] at h ⊢
  split
  · rename_i hk
    rw [if_pos hk] at h
    split
    · rename_i h2; rw [if_pos h2] at h; cases h
    · rfl
  · rfl
theorem litSpec_len {o : List Bs} {l : Lit} {n : Nat} (hn : ∀ k ∈ l.args, (at_ o k).length ≤ n) : (l.spec o).1.length ≤ l.name.length + 3 + l.args.length * (n + 2) := by
  rw [Lit.spec]
  split
  · rename_i hk
    split
    · simp
    · rename_i h2
      obtain ⟨a, b, hab⟩ : ∃ a b, l.args = [a, b] := by
        have hl : l.args.length = 2 := by omega
        match hkk : l.args, hl with
        | [a, b], _ => exact ⟨a, b, rfl⟩
      have ha := hn a (by rw [hab]; simp)
      have hb := hn b (by rw [hab]; simp)
      dsimp only
      rw [Lit.txt, if_pos hk, hab]
      simp only [List.length_append, List.length_cons, List.length_nil, List.getD_cons_zero, List.getD_cons_succ]; omega
  · rename_i hk
    have := argsText_len (q := l.args.length) hn
    dsimp only
    rw [← argsText_full rfl hk]
    simp only [List.length_append, List.length_cons, List.length_nil]; omega
theorem all_lits {r : Rule} {n : Nat} (hok : r.specExps.2 = true) (hh : (r.head.spec r.specExps.1).2 = true) (h1 : r.head.kind = 1) (hn : n = r.body.length) (h : ∀ (j : Nat) (l : Lit), j < n → r.body[j]? = some l → l.ok r.exps.length (j + 1) = true) : r.formed = true := by
  refine formed_good hok fun i l hl => ?_
  cases i with
  | zero => cases hl; exact lit_good hok rfl hh (fun _ => h1)
  | succ i =>
    have hl' : r.body[i]? = some l := by simpa [Rule.lits] using hl
    exact h i l (by have := (List.getElem?_eq_some_iff.1 hl').1; omega) hl'
end Go.Q
