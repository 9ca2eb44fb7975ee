/- strconv.Itoa of small numbers and slices.Index of a string that is there, out of the shelf (seat Door); the names that a rule's canon gives. No condition. -/
import Derived.Test.YtkfcpnaiimcjeaaDoorQJoin
import Derived.Test.YtkfcpnaiimcjeaaDoorQCarry
import Derived.Test.YtkfcpnaiimcjeaaDoorQNum
import Derived.Test.YtkfcpnaiimcjeaaDoorQSame
set_option linter.unusedVariables false
set_option linter.unusedSimpArgs false
namespace Go.Q
def vname (n : Nat) : Bs := 118 :: Lib.decDigits n
def Exp.ren (vs : List Bs) (e : Exp) : Exp := if e.kind = 1 then ⟨e.kind, vname (vs.idxOf e.text + 1), e.kids⟩ else e
def Rule.canon (r : Rule) : Rule := ⟨r.exps.map (Exp.ren r.vars), r.head, r.body⟩
theorem idx_at {l : List Bs} {s : Bs} (h : s ∈ l) : l[l.idxOf s]? = some s ∧ ∀ j, j < l.idxOf s → l[j]? ≠ some s := by
  have h1 : l.idxOf s < l.length := List.idxOf_lt_length_iff.2 h
  refine ⟨by rw [List.getElem?_eq_getElem h1]; simp, fun j hj hs => ?_⟩
  have h2 := (List.getElem?_eq_some_iff.1 hs)
  obtain ⟨h3, h4⟩ := h2
  have := List.not_of_lt_findIdx (p := (· == s)) (xs := l) (i := j) (by simpa [List.idxOf] using hj)
  rw [h4] at this
  simp at this
theorem ren_yes {vs : List Bs} {e : Exp} (h : e.kind = 1) : e.ren vs = ⟨e.kind, vname (vs.idxOf e.text + 1), e.kids⟩ := by rw [Exp.ren, if_pos h]
theorem ren_no {vs : List Bs} {e : Exp} (h : e.kind ≠ 1) : e.ren vs = e := by rw [Exp.ren, if_neg h]
def Rule.alike (a b : Rule) : Bool := decide (a.text ≠ []) && decide (b.text ≠ []) && decide (a.canon = b.canon)
theorem Rule.lim_of {r : Rule} (hw : r.wt ≤ 4294967296) : r.Lim := by
  have h := Rule.small hw
  exact ⟨h.1, h.2.1, h.2.2.2.1, h.2.2.2.2.1 _ (by simp [Rule.lits]), fun l hl => h.2.2.2.2.1 l (by simp [Rule.lits, hl])⟩
theorem Rule.canon_lim {r : Rule} (h : r.Lim) : r.canon.Lim := by
  refine ⟨by simpa [Rule.canon] using h.e, h.b, fun e he => ?_, h.h, h.a⟩
  simp only [Rule.canon, List.mem_map] at he
  obtain ⟨x, hx, rfl⟩ := he
  have := h.k x hx
  unfold Exp.ren
  split <;> exact this
theorem text_60 {r : Rule} (h : r.text ≠ []) : r.exps.length ≤ 60 := by
  have := text_formed h
  simp only [Rule.formed, Bool.and_eq_true, decide_eq_true_eq] at this
  omega
theorem varsOf_nodup (es : List Exp) : (varsOf es).Nodup := by
  have key : ∀ (es : List Exp) (l : List Bs), l.Nodup → (es.foldl (fun l e => if e.kind = 1 ∧ e.text ∉ l then l ++ [e.text] else l) l).Nodup := by
    intro es
    induction es with
    | nil => intro l h; exact h
    | cons e es ih =>
      intro l h
      rw [List.foldl_cons]
      refine ih _ ?_
      split
      · rename_i hc
        rw [List.nodup_append]
        refine ⟨h, by simp, fun a ha b hb => ?_⟩
        simp at hb; subst hb
        intro e; subst e; exact hc.2 ha
      · exact h
  exact key es [] (by simp)
theorem varsOf_pre (es : List Exp) (i : Nat) : varsOf (es.take i) <+: varsOf es := by
  have key : ∀ (es : List Exp) (l : List Bs), l <+: es.foldl (fun l e => if e.kind = 1 ∧ e.text ∉ l then l ++ [e.text] else l) l := by
    intro es
    induction es with
    | nil => intro l; exact List.prefix_refl _
    | cons e es ih =>
      intro l
      rw [List.foldl_cons]
      refine List.IsPrefix.trans ?_ (ih _)
      split
      · exact List.prefix_append _ _
      · exact List.prefix_refl _
  have h : varsOf es = (es.drop i).foldl (fun l e => if e.kind = 1 ∧ e.text ∉ l then l ++ [e.text] else l) (varsOf (es.take i)) := by
    rw [varsOf, varsOf, ← List.foldl_append, List.take_append_drop]
  rw [h]; exact key _ _
/-- Where a name stands among those so far. -/
theorem name_at {es : List Exp} {i k : Nat} {l : List Bs} {s : Bs} (hl : l = varsOf (es.take i)) (h : l[k]? = some s) : (varsOf es).idxOf s = k := by
  have hn := varsOf_nodup es
  obtain ⟨t, ht⟩ := varsOf_pre es i
  rw [← hl] at ht
  have hk : (varsOf es)[k]? = some s := by
    rw [← ht, List.getElem?_append_left (List.getElem?_eq_some_iff.1 h).1]; exact h
  have hm : s ∈ varsOf es := List.mem_of_getElem? hk
  have h2 := (idx_at hm).1
  obtain ⟨h3, h4⟩ := List.getElem?_eq_some_iff.1 hk
  obtain ⟨h5, h6⟩ := List.getElem?_eq_some_iff.1 h2
  have hp := List.pairwise_iff_getElem.1 hn
  rcases Nat.lt_trichotomy ((varsOf es).idxOf s) k with h7 | h7 | h7
  · exact absurd (h6.trans h4.symm) (hp _ _ h5 h3 h7)
  · exact h7
  · exact absurd (h4.trans h6.symm) (hp _ _ h3 h5 h7)
theorem name_in {es : List Exp} {i : Nat} {l : List Bs} {s : Bs} (hl : l = varsOf (es.take i)) (h : s ∈ l) : (varsOf es).idxOf s < l.length := by
  obtain ⟨k, hk⟩ := List.getElem?_of_mem h
  rw [name_at hl hk]
  exact (List.getElem?_eq_some_iff.1 hk).1
/-- What is renamed so far. -/
def canI (g : Exp → Exp) (es : List Exp) (i : Nat) : List Exp := (es.take i).map g ++ es.drop i
theorem canI_len {g : Exp → Exp} {es : List Exp} {i : Nat} (hi : i ≤ es.length) : (canI g es i).length = es.length := by
  simp [canI]; omega
theorem canI_get {g : Exp → Exp} {es : List Exp} {i : Nat} {e : Exp} (he : es[i]? = some e) : (canI g es i)[i]? = some e := by
  have hi := (List.getElem?_eq_some_iff.1 he).1
  rw [canI, List.getElem?_append_right (by simp; omega)]
  simp only [List.length_map, List.length_take, List.getElem?_drop]
  rw [show i + (i - min i es.length) = i by omega]; exact he
theorem canI_set {g : Exp → Exp} {es : List Exp} {i : Nat} {e : Exp} (he : es[i]? = some e) : (canI g es i).set i (g e) = canI g es (i + 1) := by
  have hi := (List.getElem?_eq_some_iff.1 he).1
  have hlen : ((es.take i).map g).length = i := by simp; omega
  rw [canI, canI, List.set_append_right _ _ (by omega), hlen, Nat.sub_self, List.take_add_one, he]
  have hd : es.drop i = e :: es.drop (i + 1) := by
    rw [List.drop_eq_getElem_cons hi]; congr 1; exact (List.getElem?_eq_some_iff.1 he).2
  rw [hd]; simp
theorem canI_skip {g : Exp → Exp} {es : List Exp} {i : Nat} {e : Exp} (he : es[i]? = some e) (hg : g e = e) : canI g es i = canI g es (i + 1) := by
  rw [← canI_set he, hg]
  apply List.ext_getElem?
  intro j
  rw [List.getElem?_set]
  split
  · rename_i h; subst h
    rw [canI_get he]
    split
    · rfl
    · rename_i h; exact absurd (List.getElem?_eq_some_iff.1 (canI_get (g := g) he)).1 h
  · rfl
theorem canI_end {g : Exp → Exp} {es : List Exp} {i : Nat} (hi : ¬ i < es.length) : canI g es i = es.map g := by
  rw [canI, List.take_of_length_le (by omega), List.drop_eq_nil_of_le (by omega), List.append_nil]
/-- One expression's round: its name is found at one place. -/
def canZ (g : Exp → Exp) (es : List Exp) (i p : Nat) (e : Exp) (k : Nat) : List Exp := if k ≤ p then canI g es i else (canI g es i).set i (g e)
theorem canZ_same {g : Exp → Exp} {es : List Exp} {i p k : Nat} {e : Exp} (h : k ≠ p) : canZ g es i p e k = canZ g es i p e (k + 1) := by
  unfold canZ
  by_cases h1 : k ≤ p
  · rw [if_pos h1, if_pos (by omega)]
  · rw [if_neg h1, if_neg (by omega)]
theorem canZ_hit {g : Exp → Exp} {es : List Exp} {i p k : Nat} {e : Exp} (h : k = p) : (canZ g es i p e k).set i (g e) = canZ g es i p e (k + 1) := by
  subst h
  unfold canZ
  rw [if_pos (Nat.le_refl _), if_neg (by omega)]
theorem canZ_len {g : Exp → Exp} {es : List Exp} {i p k : Nat} {e : Exp} (hi : i ≤ es.length) : (canZ g es i p e k).length = es.length := by
  unfold canZ; split
  · exact canI_len hi
  · rw [List.length_set]; exact canI_len hi
theorem canZ_get {g : Exp → Exp} {es : List Exp} {i p : Nat} {e : Exp} (he : es[i]? = some e) : (canZ g es i p e p)[i]? = some e := by
  unfold canZ; rw [if_pos (Nat.le_refl _)]; exact canI_get he
theorem canZ_end {g : Exp → Exp} {es : List Exp} {i p k : Nat} {e : Exp} (he : es[i]? = some e) (h : p < k) : canZ g es i p e k = canI g es (i + 1) := by
  unfold canZ; rw [if_neg (by omega)]; exact canI_set he
end Go.Q
namespace Go.Proofs
open Go.Q
theorem PC_Itoa (i : Int) (n : Nat) (hi : i = n) (hn : n < 100) (w : World) (F : Fz) : PC Tryd.prog 55 w F [.d (di i)] (· = [ds (Lib.decDigits n)]) := by
  intro hF vs hl hv
  obtain ⟨v0, rfl⟩ : ∃ a, vs = [a] := by
    match vs, hl with
    | [a], _ => exact ⟨a, rfl⟩
  have h0 : VR F w (di i) v0 := hv 0 _ _ rfl rfl
  have e1 := h0.s_inv
  subst e1
  subst hi
  refine (Tryd.strconv_Itoa_small n hn w).mono ?_
  rintro e w' ⟨rfl, rfl⟩
  exact ⟨_, F, _, rfl, rfl, Kept.refl _ _ _, hF, .s _ rfl⟩
theorem PC_IndexStr (l : List Bs) (s : Bs) (hm : s ∈ l) (hl : l.length ≤ 4294967296) (w : World) (F : Fz) : PC Tryd.prog 56 w F [.d (dstrs l), .d (ds s)] (· = [di ((l.idxOf s : Nat) : Int)]) := by
  intro hF vs hn hv
  obtain ⟨v0, v1, rfl⟩ : ∃ a b, vs = [a, b] := by
    match vs, hn with
    | [a, b], _ => exact ⟨a, b, rfl⟩
  have h0 : VR F w (dstrs l) v0 := hv 0 _ _ rfl rfl
  have h1 : VR F w (ds s) v1 := hv 1 _ _ rfl rfl
  have e1 := h1.s_inv
  subst e1
  rcases strs_in h0 hF with ⟨rfl, a, c, rfl⟩ | ⟨b, off, cap, rfl, hcap, hbk, hcells⟩
  · cases hm
  · have := Tryd.slices_Index_string b off l.length cap (l.map fun x => ⟨x.toArray⟩) ⟨s.toArray⟩ w (by simp) (by omega) (fun j hj => by
      have hj' : j < l.length := by simpa using hj
      rw [hcells j _ (List.getElem?_eq_getElem hj')]
      simp [List.getD_eq_getElem?_getD, hj', str])
    have hk := idx_at hm
    have hlt := (List.getElem?_eq_some_iff.1 hk.1).1
    have h2 : Lib.idxOfS ((l.map fun x => (⟨x.toArray⟩ : ByteArray)).take l.length) ⟨s.toArray⟩ = ((l.idxOf s : Nat) : Int) := by
      refine Lib.idxOfS_hit _ l.length (l.idxOf s) _ hlt (by simp) ?_ (fun j hj he => ?_)
      · rw [List.getD_eq_getElem?_getD, List.getElem?_map, hk.1]; rfl
      · rw [List.getD_eq_getElem?_getD, List.getElem?_map, List.getElem?_eq_getElem (by omega)] at he
        have hx : l[j] = s := by
          simp only [Option.map_some, Option.getD_some] at he
          injection he with he
          exact List.toArray_inj he
        exact hk.2 j hj (by rw [List.getElem?_eq_getElem (by omega), hx])
    refine this.mono ?_
    rintro e w' ⟨rfl, rfl⟩
    rw [h2]
    exact ⟨_, F, _, rfl, rfl, Kept.refl _ _ _, hF, .s _ rfl⟩
end Go.Proofs
