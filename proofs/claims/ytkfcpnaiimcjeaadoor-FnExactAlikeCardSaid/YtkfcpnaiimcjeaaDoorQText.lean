/- Texts of rules, told as plain Lean; rules for rows of one-cell elements. No condition. -/
import Derived.Test.YtkfcpnaiimcjeaaDoorQData
set_option linter.unusedVariables false
set_option linter.unusedSimpArgs false
namespace Go.Q
variable {P : Program} {β : Base}

/-! ### Rows whose elements have one cell -/
theorem flat_cell {α : Type} {f : α → D} (hf : ∀ x, (f x).cells = [f x]) (xs : List α) : flat (xs.map f) = xs.map f := by
  induction xs with
  | nil => rfl
  | cons a l ih => rw [List.map_cons, flat_cons, hf, ih]; rfl
theorem splice_set {α : Type} {l : List α} {k : Nat} {a : α} (h : k < l.length) : splice l k [a] = l.set k a := by
  simp [splice, List.set_eq_take_append_cons_drop, h]

section
variable {H : Nat → Obj} {o : Oper} {ev : Operand → AVal}
theorem g_index_el1 {t e e' id m : Nat} {mu : Bool} {x y : Operand} {l : List D} {k : IntKind} {i : Int} (ho : o.op = .indexAddr t x y) (hx : ev x = .asl id m) (hH : H id = .arr mu 1 e' l) (hy : ev y = .d (.s (.int k i))) (ht : SliceT P t e 1) (hm : m = l.length) (h0 : 0 ≤ i) (hi : i < (l.length : Int)) : GStep P β H o ev (.el id m i.toNat) :=
  g_index_el ho hx hH hm hy ht h0 hi (by simp)
theorem g_load_el1 {α : Type} {f : α → D} {t id m k : Nat} {mu : Bool} {e : Nat} {x : Operand} {xs : List α} {y : α} (ho : o.op = .load t x) (hx : ev x = .el id m k) (ht : CellT P t) (hH : H id = .arr mu 1 e (xs.map f)) (hf : ∀ x, (f x).cells = [f x]) (hm : m = xs.length) (hd : xs[k]? = some y) : GStep P β H o ev (.d (f y)) :=
  g_load_el ho hx ht hH (by simpa using hm) (by rw [flat_cell hf, List.getElem?_map, hd]; rfl)
end
theorem s_store_el1 {α : Type} {f : α → D} {σ : St} {o : Oper} {t id m k e : Nat} {x y : Operand} {xs xs' : List α} {a : α} (ho : o.op = .store t x y) (hd : o.dst = none) (hx : aev σ x = .el id m k) (hH : σ.H id = .arr true 1 e (xs.map f)) (hy : Rd σ.H (aev σ y) (f a)) (hy' : IsA (aev σ y) (.d (f a))) (ht : SizeT P t 1) (hf : ∀ x, (f x).cells = [f x]) (hm : m = xs.length) (hk : k < xs.length) (hs : xs.set k a = xs') :
    SStep P β σ o (σ.setH id (.arr true 1 e (xs'.map f))) := by
  subst hs
  have hlen : ∀ x, (f x).cells.length = 1 := fun x => by rw [hf]; rfl
  refine s_store_el (ds := [f a]) ho hd hx hH (by simpa using hm) hy' rfl ht (by omega) ?_ (by simp) ?_ ?_ ?_ ?_
  · have h1 : (AVal.d (f a)).cells = (f a).cells.map .d := by
      cases hfa : f a <;> first | rfl | (have := hf a; rw [hfa] at this; simp [D.cells, AVal.cells] at this ⊢)
    rw [h1, hf]; exact .cons (.d _) .nil
  · rw [flat_cell hf]; simp; omega
  · rw [flat_cell hf, flat_cell hf, splice_set (by simpa using hk), List.map_set]
  · simp
  · intro d hd
    obtain ⟨x, _, rfl⟩ := List.mem_map.1 hd
    exact hlen x
theorem s_makeSlice1 {α : Type} {f : α → D} {σ : St} {o : Oper} {t e by_ id dst : Nat} {x y : Operand} {m : Nat} {z : Value} {zx : α} {xs : List α} (ho : o.op = .makeSlice t x y) (hd : o.dst = some dst) (hdn : Nat.blt dst β.n = true) (hx : aev σ x = .d (.s (.int .i64 m))) (hy : aev σ y = .d (.s (.int .i64 m)))
    (ht : ElemT P t e 1 by_) (hz : ZeroT P e [z]) (hzd : CD z (f zx)) (hf : ∀ x, (f x).cells = [f x]) (hb : m * by_ ≤ 281474976710656) (hc63 : m ≤ maxLen) (hl : List.replicate m zx = xs) (h1 : NoRefE id σ.env) (h2 : NoRefH id σ.H) :
    SStep P β σ o ((σ.setH id (.arr true 1 e (xs.map f))).put dst (.asl id m)) := by
  subst hl
  rw [List.map_replicate]
  exact s_makeSlice (n := 0) ho hd hdn hx hy ht hz rfl (by rw [hf]; exact .cons hzd .nil) (Nat.le_refl _) hb hc63 h1 h2
theorem di_cells (x : Int) : (di x).cells = [di x] := rfl
theorem ds_cells (x : Bs) : (ds x).cells = [ds x] := rfl
theorem db_cells (x : Bool) : (db x).cells = [db x] := rfl

/-! ### A rule's form -/
def inR (n lo hi : Int) : Bool := decide (lo ≤ n) && decide (n ≤ hi)
def isSum (k : Int) : Bool := inR k 5 7
def Exp.badKind (e : Exp) : Bool := !inR e.kind 1 7 || (isSum e.kind && decide ((e.kids.length : Int) ≠ 2)) || (inR e.kind 1 3 && decide ((e.kids.length : Int) > 0))
def Exp.ok (i : Nat) (e : Exp) : Bool := e.kids.all (fun k => inR k 0 ((i : Int) - 1)) && !e.badKind
def Lit.badKind (i : Nat) (l : Lit) : Bool := (decide ((i : Int) = 0) && decide (l.kind ≠ 1)) || !inR l.kind 1 3 || (decide (l.kind = 3) && decide ((l.args.length : Int) ≠ 2))
def Lit.ok (m : Nat) (i : Nat) (l : Lit) : Bool := !l.badKind i && l.args.all (fun k => inR k 0 ((m : Int) - 1))
def Rule.lits (r : Rule) : List Lit := r.head :: r.body
def kidsOf (l : List Exp) : List Int := l.flatMap (·.kids)
def argsOf (l : List Lit) : List Int := l.flatMap (·.args)
/-- How often each index is used. -/
def cnt (m : Nat) (U : List Int) : List Int := (List.range m).map (fun j : Nat => ((U.count (j : Int) : Nat) : Int))
theorem cnt_len (m : Nat) (U : List Int) : (cnt m U).length = m := by simp [cnt]
theorem cnt_nil (m : Nat) : List.replicate m (0 : Int) = cnt m [] := by
  apply List.ext_getElem
  · simp [cnt]
  · intro i h1 h2; simp [cnt]
theorem cnt_get {m : Nat} {U : List Int} {a : Int} (h0 : 0 ≤ a) (h1 : a < m) : (cnt m U)[a.toNat]? = some ((U.count a : Nat) : Int) := by
  have : a.toNat < m := by omega
  simp [cnt, this, Int.toNat_of_nonneg h0]
theorem cnt_set {m : Nat} {U : List Int} {a : Int} (h0 : 0 ≤ a) (h1 : a < m) : (cnt m U).set a.toNat (((U.count a : Nat) : Int) + 1) = cnt m (U ++ [a]) := by
  apply List.ext_getElem
  · simp [cnt]
  · intro i h2 h3
    simp only [List.getElem_set, cnt, List.getElem_map, List.getElem_range, List.count_append]
    split
    · rename_i e
      have : ((i : Nat) : Int) = a := by omega
      rw [this]; simp
    · rename_i e
      have : ¬ a = (i : Int) := by omega
      simp [this]
def expsOk : Nat → List Exp → Bool
  | _, [] => true
  | i, e :: l => e.ok i && expsOk (i + 1) l
def litsOk (m : Nat) : Nat → List Lit → Bool
  | _, [] => true
  | i, x :: l => x.ok m i && litsOk m (i + 1) l
def Rule.uses (r : Rule) : List Int := kidsOf r.exps ++ argsOf r.lits
def Rule.formed (r : Rule) : Bool :=
  expsOk 0 r.exps && litsOk r.exps.length 0 r.lits && decide ((r.exps.length : Int) ≤ 60) && !(cnt r.exps.length r.uses).any (fun n => decide (n ≠ 1))
theorem expsOk_of : ∀ (i : Nat) (l : List Exp), (∀ (j : Nat) (e : Exp), l[j]? = some e → e.ok (i + j) = true) → expsOk i l = true
  | _, [], _ => rfl
  | i, e :: l, h => by
    rw [expsOk, (show e.ok i = true from by have h0 := h 0 e rfl; rwa [Nat.add_zero] at h0), expsOk_of (i + 1) l (fun j x hx => by have := h (j + 1) x hx; rwa [show i + (j + 1) = i + 1 + j by omega] at this)]
    rfl
theorem expsOk_get : ∀ (i : Nat) (l : List Exp), expsOk i l = true → ∀ (j : Nat) (e : Exp), l[j]? = some e → e.ok (i + j) = true
  | _, [], _, j, e, h => by simp at h
  | i, x :: l, h, 0, e, he => by
    simp only [expsOk, Bool.and_eq_true] at h
    simp at he; subst he; exact h.1
  | i, x :: l, h, j + 1, e, he => by
    simp only [expsOk, Bool.and_eq_true] at h
    have := expsOk_get (i + 1) l h.2 j e (by simpa using he)
    rwa [show i + 1 + j = i + (j + 1) by omega] at this
theorem litsOk_of (m : Nat) : ∀ (i : Nat) (l : List Lit), (∀ (j : Nat) (e : Lit), l[j]? = some e → e.ok m (i + j) = true) → litsOk m i l = true
  | _, [], _ => rfl
  | i, e :: l, h => by
    rw [litsOk, (show e.ok m i = true from by have h0 := h 0 e rfl; rwa [Nat.add_zero] at h0), litsOk_of m (i + 1) l (fun j x hx => by have := h (j + 1) x hx; rwa [show i + (j + 1) = i + 1 + j by omega] at this)]
    rfl
theorem litsOk_get (m : Nat) : ∀ (i : Nat) (l : List Lit), litsOk m i l = true → ∀ (j : Nat) (e : Lit), l[j]? = some e → e.ok m (i + j) = true
  | _, [], _, j, e, h => by simp at h
  | i, x :: l, h, 0, e, he => by
    simp only [litsOk, Bool.and_eq_true] at h
    simp at he; subst he; exact h.1
  | i, x :: l, h, j + 1, e, he => by
    simp only [litsOk, Bool.and_eq_true] at h
    have := litsOk_get m (i + 1) l h.2 j e (by simpa using he)
    rwa [show i + 1 + j = i + (j + 1) by omega] at this
theorem cnt_le {U V : List Int} {n : Nat} (hu : V.length ≤ n) (h : U <+: V) (a : Int) : U.count a ≤ n :=
  Nat.le_trans (List.count_le_length) (Nat.le_trans h.length_le hu)
theorem flat_take {α β : Type} (f : α → List β) {l : List α} {i : Nat} {x : α} (h : l[i]? = some x) : (l.take (i + 1)).flatMap f = (l.take i).flatMap f ++ f x := by
  obtain ⟨hi, hx⟩ := List.getElem?_eq_some_iff.1 h
  rw [List.take_succ_eq_append_getElem hi, hx]; simp
theorem take_snoc {α : Type} {l : List α} {i : Nat} {x : α} (h : l[i]? = some x) : l.take (i + 1) = l.take i ++ [x] := by
  obtain ⟨hi, hx⟩ := List.getElem?_eq_some_iff.1 h
  rw [List.take_succ_eq_append_getElem hi, hx]
theorem flat_pre {α β : Type} (f : α → List β) {l : List α} {i : Nat} {x : α} (h : l[i]? = some x) (j : Nat) : (l.take i).flatMap f ++ (f x).take j <+: l.flatMap f := by
  have h1 : (l.take (i + 1)).flatMap f ++ (l.drop (i + 1)).flatMap f = l.flatMap f := by rw [← List.flatMap_append, List.take_append_drop]
  rw [flat_take f h] at h1
  refine ⟨(f x).drop j ++ (l.drop (i + 1)).flatMap f, ?_⟩
  rw [← h1]
  simp only [List.append_assoc]
  rw [← List.append_assoc ((f x).take j), List.take_append_drop]
theorem uses_pre1 {r : Rule} {i j : Nat} {U V : List Int} {e : Exp} (hU : U = kidsOf (r.exps.take i)) (he : r.exps[i]? = some e) (hV : V = U ++ e.kids.take j) : V <+: r.uses := by
  subst hU hV
  exact (flat_pre _ he j).trans (List.prefix_append _ _)
theorem uses_pre2 {r : Rule} {n i j : Nat} {U V W : List Int} {l : Lit} (hn : n = r.exps.length) (hU : U = kidsOf (r.exps.take n)) (hl : r.lits[i]? = some l) (hV : V = U ++ argsOf (r.lits.take i)) (hW : W = V ++ l.args.take j) : W <+: r.uses := by
  subst hn hU hV hW
  rw [List.take_length, List.append_assoc]
  exact List.prefix_append_right_inj _ |>.2 (flat_pre _ hl j)
theorem inner_next {α : Type} {l : List α} {U V : List α} {i : Nat} {a : α} {q : α → Bool} (h1 : i ≤ l.length) (h2 : V = U ++ l.take i) (h3 : ∀ (j : Nat) (a : α), j < i → l[j]? = some a → q a = true) (ha : l[i]? = some a) (hq : q a = true) :
    i + 1 ≤ l.length ∧ V ++ [a] = U ++ l.take (i + 1) ∧ (∀ (j : Nat) (a : α), j < i + 1 → l[j]? = some a → q a = true) := by
  have hi := (List.getElem?_eq_some_iff.1 ha).1
  refine ⟨hi, by rw [h2, take_snoc ha, List.append_assoc], fun j b hj hb => ?_⟩
  rcases Nat.lt_succ_iff_lt_or_eq.1 hj with h | h
  · exact h3 j b h hb
  · rw [h, ha] at hb; cases hb; exact hq
theorem all_of {α : Type} {l : List α} {q : α → Bool} {n : Nat} (hn : ¬ n < l.length) (h : ∀ (j : Nat) (a : α), j < n → l[j]? = some a → q a = true) : l.all q = true := by
  rw [List.all_eq_true]
  intro x hx
  obtain ⟨j, hj⟩ := List.getElem?_of_mem hx
  have := (List.getElem?_eq_some_iff.1 hj).1
  exact h j x (by omega) hj
theorem formed_next1 {r : Rule} {i n : Nat} {U V : List Int} {e : Exp} (hx1 : i ≤ r.exps.length) (hx2 : U = kidsOf (r.exps.take i)) (hx3 : ∀ (j : Nat) (e : Exp), j < i → r.exps[j]? = some e → Exp.ok j e = true) (he : r.exps[i]? = some e)
    (hy1 : n ≤ e.kids.length) (hy2 : V = U ++ e.kids.take n) (hy3 : ∀ (j : Nat) (a : Int), j < n → e.kids[j]? = some a → inR a 0 ((i : Int) - 1) = true) (hlast : ¬ n < e.kids.length) (hbad : e.badKind = false) :
    i + 1 ≤ r.exps.length ∧ V = kidsOf (r.exps.take (i + 1)) ∧ (∀ (j : Nat) (e : Exp), j < i + 1 → r.exps[j]? = some e → Exp.ok j e = true) := by
  have hi := (List.getElem?_eq_some_iff.1 he).1
  refine ⟨hi, ?_, fun j b hj hb => ?_⟩
  · rw [hy2, hx2, List.take_of_length_le (l := e.kids) (by omega)]; exact (flat_take _ he).symm
  rcases Nat.lt_succ_iff_lt_or_eq.1 hj with h | h
  · exact hx3 j b h hb
  · rw [h, he] at hb; cases hb; subst h
    rw [Exp.ok, hbad, all_of hlast hy3]; rfl
theorem formed_next2 {r : Rule} {i n : Nat} {U V W : List Int} {l : Lit} (hx1 : i ≤ r.lits.length) (hx2 : V = U ++ argsOf (r.lits.take i)) (hx3 : ∀ (j : Nat) (l : Lit), j < i → r.lits[j]? = some l → Lit.ok r.exps.length j l = true) (he : r.lits[i]? = some l)
    (hy1 : n ≤ l.args.length) (hy2 : W = V ++ l.args.take n) (hy3 : ∀ (j : Nat) (a : Int), j < n → l.args[j]? = some a → inR a 0 ((r.exps.length : Int) - 1) = true) (hlast : ¬ n < l.args.length) (hbad : l.badKind i = false) :
    i + 1 ≤ r.lits.length ∧ W = U ++ argsOf (r.lits.take (i + 1)) ∧ (∀ (j : Nat) (l : Lit), j < i + 1 → r.lits[j]? = some l → Lit.ok r.exps.length j l = true) := by
  have hi := (List.getElem?_eq_some_iff.1 he).1
  refine ⟨hi, ?_, fun j b hj hb => ?_⟩
  · rw [hy2, hx2, List.take_of_length_le (l := l.args) (by omega), List.append_assoc]; exact congrArg _ (flat_take (fun x : Lit => x.args) he).symm
  rcases Nat.lt_succ_iff_lt_or_eq.1 hj with h | h
  · exact hx3 j b h hb
  · rw [h, he] at hb; cases hb; subst h
    rw [Lit.ok, hbad, all_of hlast hy3]; rfl
theorem notFormed1 {r : Rule} {i : Nat} {e : Exp} (he : r.exps[i]? = some e) (h : e.ok i = false) : r.formed = false := by
  cases hf : r.formed with
  | false => rfl
  | true =>
    simp only [Rule.formed, Bool.and_eq_true] at hf
    have := expsOk_get 0 _ hf.1.1.1 i e he
    rw [Nat.zero_add, h] at this; cases this
theorem notFormed2 {r : Rule} {i : Nat} {l : Lit} (he : r.lits[i]? = some l) (h : l.ok r.exps.length i = false) : r.formed = false := by
  cases hf : r.formed with
  | false => rfl
  | true =>
    simp only [Rule.formed, Bool.and_eq_true] at hf
    have := litsOk_get _ 0 _ hf.1.1.2 i l he
    rw [Nat.zero_add, h] at this; cases this
theorem not_all {α : Type} {l : List α} {i : Nat} {a : α} {q : α → Bool} (ha : l[i]? = some a) (hq : q a = false) : l.all q = false := by
  rw [List.all_eq_false]; exact ⟨a, List.mem_of_getElem? ha, by simp [hq]⟩
theorem isFormed_end {r : Rule} {n m : Nat} {U V : List Int} (hn : ¬ n < r.exps.length) (hU : U = kidsOf (r.exps.take n)) (hx : ∀ (j : Nat) (e : Exp), j < n → r.exps[j]? = some e → Exp.ok j e = true)
    (hm : ¬ m < r.lits.length) (hV : V = U ++ argsOf (r.lits.take m)) (hy : ∀ (j : Nat) (l : Lit), j < m → r.lits[j]? = some l → Lit.ok r.exps.length j l = true) :
    r.formed = (decide ((r.exps.length : Int) ≤ 60) && !(cnt r.exps.length V).any (fun n => decide (n ≠ 1))) := by
  rw [List.take_of_length_le (by omega)] at hU hV
  have h1 : expsOk 0 r.exps = true := expsOk_of 0 _ (fun j e he => by rw [Nat.zero_add]; exact hx j e (by have := (List.getElem?_eq_some_iff.1 he).1; omega) he)
  have h2 : litsOk r.exps.length 0 r.lits = true := litsOk_of _ 0 _ (fun j e he => by rw [Nat.zero_add]; exact hy j e (by have := (List.getElem?_eq_some_iff.1 he).1; omega) he)
  have h3 : V = r.uses := by rw [hV, hU]; rfl
  rw [Rule.formed, h1, h2, h3]; simp
end Go.Q
