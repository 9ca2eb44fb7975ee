/- Conversions, and what a row reads as from now on. No condition. -/
import Derived.Test.YtkfcpnaiimcjeaaDoorQRows
import Derived.Laws.IdiomStrings
import Derived.Lib.ItoaNum
set_option linter.unusedVariables false
set_option linter.unusedSimpArgs false
namespace Go.Q
open Go.RowKit
variable {P : Program} {β : Base}
/-- A value that reads as data: from now on it is that data. -/
theorem TL_rd (t : Nat) {ops : Array Oper} {rest : List Oper} {Q : Exit → St → Prop} {σ : St} {d : D} (h : Rd σ.H (σ.env t) d) (k : TL P β ops Q rest (σ.put t (.d d))) : TL P β ops Q rest σ := by
  intro F ρ a w hr
  refine k F ρ a w ⟨hr.h, fun i => ?_, hr.df, hr.nn⟩
  by_cases hi : i = t
  · subst hi
    simp only [St.put, upd_same]
    exact .d _ _ (h.sound hr.h (hr.tm i))
  · simp only [St.put, upd_ne _ _ hi]
    exact hr.tm i
theorem g_conv_u8 {H : Nat → Obj} {o : Oper} {ev : Operand → AVal} {s t : TypeId} {x : Operand} {k : IntKind} {n : Int} {b : Nat} (ho : o.op = .convert s t x) (hx : ev x = .d (.s (.int k n))) (hs : (P.underlying s).isSome = true) (ht : P.underlying t = some (.int .u8)) (hn : n = (b : Int)) (hb : b < 256) : GStep P β H o ev (.d (.s (.int .u8 (UInt8.ofNat b).toNat))) := by
  refine .val fun F ρ w hr evc he => ⟨.int .u8 (UInt8.ofNat b).toNat, ?_, .d _ _ (.s _ rfl)⟩
  have h1 := he x (by simp [ho, Op.operands])
  rw [hx] at h1
  obtain ⟨d, hd⟩ := Option.isSome_iff_exists.mp hs
  simp only [execOp, ho, h1.s_inv, convert, Sem.run_bind, run_underlying hd, run_underlying ht, Result.andThen_ok, Conv.intToInt, Sem.run_pure]
  rw [hn]
  have h2 : (UInt8.ofNat b).toNat = b := by simp [UInt8.toNat_ofNat']; omega
  rw [h2]
  have h3 : IntKind.wrap .u8 (b : Int) = (b : Int) := by simp [IntKind.wrap, IntKind.bits, IntKind.signed]; omega
  rw [h3]
abbrev dbytes (l : Bs) : D := .sl 1 none (l.map fun b => D.s (.int .u8 b.toNat))
theorem flat1 : ∀ l : Bs, (l.map fun b => D.s (.int .u8 b.toNat)).flatMap D.cells = l.map fun b => D.s (.int .u8 b.toNat)
  | [] => rfl
  | a :: t => by simp only [List.map_cons, List.flatMap_cons, flat1 t]; rfl
theorem g_conv_str {H : Nat → Obj} {o : Oper} {ev : Operand → AVal} {s t e : TypeId} {x : Operand} {l : Bs} (ho : o.op = .convert s t x) (hx : ev x = .d (dbytes l)) (hl : l ≠ []) (hs : P.underlying s = some (.slice e)) (he : P.underlying e = some (.int .u8)) (ht : P.underlying t = some .string) : GStep P β H o ev (.d (ds l)) := by
  refine .val fun F ρ w hr evc hev => ⟨.string ⟨l.toArray⟩, ?_, .d _ _ (.s _ rfl)⟩
  have h1 := hev x (by simp [ho, Op.operands])
  rw [hx] at h1
  generalize hv : evc x = v at h1
  cases h1 with
  | d _ _ h1 =>
  generalize hd : dbytes l = d at h1
  cases h1 with
  | s v h => cases hd
  | agg l vs hl hc h => cases hd
  | pt l off b o cs hc hr hl hF h => cases hd
  | mp ks vs b es c hb hF hk hv h1 h2 => cases hd
  | sl0 sz o a cap h =>
    injection hd with h1 h2 h3
    exact absurd (by simpa using h3) hl
  | sl sz o l' b off cap cs hne h0 hsz hc hcap hmax hrr hlen hF ho' h =>
    injection hd with h1 h2 h3
    subst h1; subst h2; subst h3
    have hfl : flat (l.map fun b => D.s (.int .u8 b.toNat)) = l.map fun b => D.s (.int .u8 b.toNat) := by
      unfold flat
      exact flat1 l
    rw [hfl] at hlen h
    have hlen' : cs.length = l.length := by simpa using hlen
    have := run_convert_bytes_back (P := P) w s t e ⟨b, off, none⟩ cap l hs he ht (fun j hj => by
      have hcj : cs[j]? = some (cs[j]'(by omega)) := List.getElem?_eq_getElem (by omega)
      have h5 := h j (.s (.int .u8 l[j].toNat)) _ (by simp [hj]) hcj
      have h6 := h5.s_inv
      have h7 := hrr j _ hcj
      rw [h6] at h7
      simpa [Addr.add_mid] using h7)
    simp only [List.length_map, execOp, ho, hv, this, Sem.run_bind, Result.andThen_ok, Sem.run_pure]
/-- Digits, one place more. -/
theorem dig_last {m : Nat} (h : m < 10) : Lib.decDigits m = [UInt8.ofNat (48 + m)] := by rw [Lib.decDigits, dif_pos h]
theorem dig_more {m : Nat} (h : ¬ m < 10) : Lib.decDigits m = Lib.decDigits (m / 10) ++ [UInt8.ofNat (48 + m % 10)] := by rw [Lib.decDigits, dif_neg h]
/-- What is written so far, with what is left. -/
def NumI (n m : Nat) (out : Bs) : Prop := (m = 0 → out = Lib.decDigits n) ∧ (m ≠ 0 → Lib.decDigits m ++ out = Lib.decDigits n)
theorem numI0 {n : Nat} (h : n ≠ 0) : NumI n n [] := ⟨fun e => absurd e h, fun _ => by simp⟩
theorem numI_next {n m : Nat} {out : Bs} (h : NumI n m out) (hm : m ≠ 0) : NumI n (m / 10) (UInt8.ofNat (48 + m % 10) :: out) := by
  have h1 := h.2 hm
  by_cases h10 : m < 10
  · rw [dig_last h10] at h1
    refine ⟨fun _ => ?_, fun e => absurd (by omega) e⟩
    rw [Nat.mod_eq_of_lt h10]; exact h1
  · rw [dig_more h10] at h1
    refine ⟨fun e => absurd e (by omega), fun _ => ?_⟩
    rw [← h1]; simp
theorem dig_ne (n : Nat) : Lib.decDigits n ≠ [] := by
  rw [Lib.decDigits]; split <;> simp
theorem dig_len : ∀ (k n : Nat), n < 10 ^ (k + 1) → (Lib.decDigits n).length ≤ k + 1
  | 0, n, h => by rw [dig_last (by simpa using h)]; simp
  | k + 1, n, h => by
    by_cases h10 : n < 10
    · rw [dig_last h10]; simp
    · rw [dig_more h10]
      have := dig_len k (n / 10) (by rw [Nat.pow_succ] at h; omega)
      simp; omega

/-- A row grown out of an empty literal: a row of its own that stays. -/
theorem g_append_lit {H : Nat → Obj} {o : Oper} {ev : Operand → AVal} {t e sz by_ : Nat} {x y : Operand} {l2 : List D} (ho : o.op = .call { callee := .builtin .append, args := #[x, y], argTypes := #[t, t] })
    (hx : ev x = .lit sz []) (hy : IsSl H sz (ev y) l2) (ht : ElemT P t e sz by_) (h0 : Nat.blt 0 sz = true) (hb : l2.length * by_ ≤ 140737488355328) (hml : l2.length ≤ maxLen) : GStep P β H o ev (.d (.sl sz none l2)) := by
  have h0 := lt_of_blt h0
  intro F ρ w hr evc he K hK
  have hx1 := he x (by simp [ho, Op.operands, Call.operands])
  have hy1 := he y (by simp [ho, Op.operands, Call.operands])
  rw [hx] at hx1
  obtain ⟨a2, c2, hv2, hsrc⟩ := src_of hr hy hy1
  generalize hvx : evc x = vx at hx1
  cases hx1 with
  | lit _ _ ax hax =>
  by_cases hl2 : l2 = []
  · subst hl2
    have hrun := run_call_append (P := P) (w := w) (evc := evc) (o := o) ho (by rw [hvx, hv2]; exact run_append_zero (ty := o.type) ht (Nat.le_refl _))
    unfold goes
    rw [hrun]
    exact hK _ w F (Kept.refl _ _ _) hr.wf (.d _ _ (.sl0 sz none _ _ (Nat.zero_le _)))
  · obtain ⟨s1, s2, ad, news, rfl, s4, s5, s6, s7⟩ := hsrc hl2
    have hpos : 0 < l2.length := List.length_pos_iff.2 hl2
    obtain ⟨hu, i, z, hi, hz, hi1, hi2, hzs⟩ := ht
    subst hi1
    subst hi2
    have hsmall : l2.length ≤ 9223372036854775807 := by simp only [maxLen] at hml; omega
    obtain ⟨cap, cs, hrun, hge, hcm⟩ : ∃ (cap : Nat) (zs : List Value), (Builtin.append_ #[t, t] o.type #[.slice ax 0 0, .slice (some ad) l2.length c2]).run P w = .ok (.slice (some ⟨w.heap.size, 0, none⟩) l2.length cap) (w.drew.alloc (.cells (news ++ zs).toArray e)) ∧ l2.length ≤ cap ∧ cap ≤ maxLen := by
      cases ax with
      | none =>
        have hr1 := run_append_nil (P := P) w t o.type e i z hu hi hz ad l2.length c2 news s4 s5 hpos (by omega) (by omega)
        have ha : (news ++ (Builtin.zeroCells z.cells (grownCap w l2.length 0 e - l2.length)).toList).toArray = news.toArray ++ Builtin.zeroCells z.cells (grownCap w l2.length 0 e - l2.length) := by apply Array.ext'; simp
        exact ⟨grownCap w l2.length 0 e, (Builtin.zeroCells z.cells (grownCap w l2.length 0 e - l2.length)).toList, by rw [ha]; exact hr1, grownCap_ge w _ _ _, grownCap_le_maxLen w _ _ _ hml⟩
      | some b =>
        have hr1 := run_append_grow (P := P) w t o.type e i z hu hi hz b 0 0 [] (by simp) (fun j v h => by simp at h) ad l2.length c2 news s4 s5 (by omega) (by omega) (growslice_fits (by omega) (by simpa using hb))
        simp only [Nat.zero_add] at hr1
        have ha : (news ++ (Builtin.zeroCells z.cells (grownCap w l2.length 0 e - l2.length)).toList).toArray = news.toArray ++ Builtin.zeroCells z.cells (grownCap w l2.length 0 e - l2.length) := by apply Array.ext'; simp
        exact ⟨grownCap w l2.length 0 e, (Builtin.zeroCells z.cells (grownCap w l2.length 0 e - l2.length)).toList, by rw [ha]; simpa using hr1, grownCap_ge w _ _ _, grownCap_le_maxLen w _ _ _ hml⟩
    have hrun := run_call_append (P := P) (w := w) (evc := evc) (o := o) ho (by rw [hvx, hv2]; exact hrun)
    unfold goes
    rw [hrun]
    have hF0 : F w.heap.size = 0 := hr.wf _ (Nat.le_refl _)
    have hnl : news.length = (flat l2).length := by rw [s4, flat_length s1]
    have hk0 : Kept noM w F (w.drew.alloc (.cells (news ++ cs).toArray e)) F :=
      ⟨rfl, rfl, rfl, by rw [World.alloc]; simp, fun b hb _ => ⟨Below.heap_alloc w.drew _ _ hb, rfl⟩, fun _ _ h => h.elim⟩
    refine hK _ _ (upd F w.heap.size (l2.length * i.size)) ⟨rfl, rfl, rfl, by rw [World.alloc]; simp, fun b hb _ => ⟨Below.heap_alloc w.drew _ _ hb, upd_ne _ _ (by omega)⟩, fun _ _ h => h.elim⟩ (fun b hb => ?_) ?_
    · have : w.heap.size < b := Nat.lt_of_lt_of_le (Nat.lt_succ_self _) (by simpa using hb)
      rw [upd_ne _ _ (by omega)]
      exact hr.wf b (by omega)
    · refine .d _ _ (.sl i.size none l2 _ 0 _ news hl2 h0 s1 s2 hge hcm ?_ hnl (by rw [upd_same]; omega) (by simp) (fun i d v hd hv => (s7 i d v hd hv).mono (hk0.ext hr.wf) (le_upd (by omega))))
      have hc := rangeAt_of_array (w := w.drew.alloc (.cells (news ++ cs).toArray e)) (heap_alloc_new w.drew _) 0 news.length
      rw [List.drop_zero, List.take_left' rfl] at hc
      exact hc

/-- What lies in a variable, read as data. -/
theorem Rel.rdBox {F : Fz} {ρ : Gh} {σ : St} {a : Act} {w : World} (h : Rel P β F ρ σ a w) {id : Nat} {cs cs' : List AVal} (hH : σ.H id = .box cs) (hc : RAL σ.H cs cs') (hcell : cs'.all AVal.isCell = true) : Rel P β F ρ (σ.setH id (.box cs')) a w := by
  have key : ∀ i mu sz e l, upd σ.H id (.box cs') i = .arr mu sz e l → σ.H i = .arr mu sz e l := by
    intro i mu sz e l hi
    by_cases he : i = id
    · subst he; rw [upd_same] at hi; cases hi
    · rw [upd_ne _ _ he] at hi; exact hi
  have hlen := hc.length
  refine ⟨⟨fun i => ?_, fun i j b hne h1 h2 => ?_, h.h.wf, h.h.wf0, h.h.kept, h.h.fx⟩, fun i => (h.tm i).congrH key, h.df, h.nn⟩
  · by_cases he : i = id
    · subst he
      have hob := h.h.ob i
      rw [hH] at hob
      obtain ⟨⟨vs, e, g1, g2, g3, g4⟩, g5, g6⟩ := hob
      simp only [St.setH, upd_same]
      refine ⟨⟨vs, e, g1, by omega, fun c hc' => List.all_eq_true.1 hcell c hc', fun j c v hcj hv => ?_⟩, g5, g6⟩
      have hj := (List.getElem?_eq_some_iff.1 hcj).1
      have hcs : cs[j]? = some (cs[j]'(by omega)) := List.getElem?_eq_getElem (by omega)
      exact ((hc.get j _ c hcs hcj).sound h.h (g4 j _ v hcs hv)).congrH key
    · simp only [St.setH, upd_ne _ _ he]
      exact (h.h.ob i).turn (fun cs _ c _ v hv => hv.congrH key) (fun d v hd => hd) ⟨rfl, rfl⟩ (fun b hb => (h.h.ob i).own hb) (fun b _ => ⟨rfl, rfl⟩)
  · refine h.h.dj i j b hne ?_ ?_
    · by_cases he : i = id
      · subst he; simp only [St.setH, upd_same] at h1; rw [hH]; exact h1
      · simp only [St.setH, upd_ne _ _ he] at h1; exact h1
    · by_cases he : j = id
      · subst he; simp only [St.setH, upd_same] at h2; rw [hH]; exact h2
      · simp only [St.setH, upd_ne _ _ he] at h2; exact h2
theorem T_rdBox (id : Nat) {c : Code} {Q : Exit → St → Prop} {σ : St} {cs cs' : List AVal} (hH : σ.H id = .box cs) (hc : RAL σ.H cs cs') (hcell : cs'.all AVal.isCell = true) (h : T P β c Q (σ.setH id (.box cs'))) : T P β c Q σ := fun F ρ a w hr => h F ρ a w (hr.rdBox hH hc hcell)
/-- A row of no elements, out of nothing. -/
theorem T_thaw0 (id sz e : Nat) {c : Code} {Q : Exit → St → Prop} {σ : St} (h0 : Nat.blt 0 sz = true) (h1 : NoRefE id σ.env) (h2 : NoRefH id σ.H) (h : T P β c Q (σ.setH id (.arr true sz e []))) : T P β c Q σ := fun F ρ a w hr => h F _ a w (hr.thaw sz e (lt_of_blt h0) h1 h2)
theorem TL_thaw0 (id sz e : Nat) {ops : Array Oper} {rest : List Oper} {Q : Exit → St → Prop} {σ : St} (h0 : Nat.blt 0 sz = true) (h1 : NoRefE id σ.env) (h2 : NoRefH id σ.H) (h : TL P β ops Q rest (σ.setH id (.arr true sz e []))) : TL P β ops Q rest σ := fun F ρ a w hr => h F _ a w (hr.thaw sz e (lt_of_blt h0) h1 h2)
theorem flat_text (s : Bs) : ∀ (es : List Exp) (i : Nat) (e : Exp), es[i]? = some e → splice (flat (es.map Exp.d)) (i * 3 + 1) [ds s] = flat ((es.set i ⟨e.kind, s, e.kids⟩).map Exp.d)
  | x :: t, 0, e, h => by
    simp at h; subst h
    simp only [List.map_cons, flat_cons, List.set_cons_zero]
    rfl
  | x :: t, i + 1, e, h => by
    have ih := flat_text s t i e (by simpa using h)
    simp only [List.map_cons, flat_cons, List.set_cons_succ, ← ih]
    rw [show (i + 1) * 3 + 1 = (i * 3 + 1) + 3 by omega]
    rfl
theorem s_store_text {σ : St} {o : Oper} {t id m k e i : Nat} {x y : Operand} {es es' : List Exp} {e0 : Exp} {s : Bs} (ho : o.op = .store t x y) (hd : o.dst = none) (hx : aev σ x = .el id m k) (hk : k = i * 3 + 1) (hH : σ.H id = .arr true 3 e (es.map Exp.d)) (hy : aev σ y = .d (ds s)) (ht : SizeT P t 1) (hm : m = es.length) (he : es[i]? = some e0) (hs : es.set i ⟨e0.kind, s, e0.kids⟩ = es') :
    SStep P β σ o (σ.setH id (.arr true 3 e (es'.map Exp.d))) := by
  subst hs; subst hk
  have hi := (List.getElem?_eq_some_iff.1 he).1
  have hfl : (flat (es.map Exp.d)).length = es.length * 3 := by rw [flat_length (sz := 3) (by intro d hd; obtain ⟨z, _, rfl⟩ := List.mem_map.1 hd; rfl)]; simp
  refine s_store_el (c := .d (ds s)) (ds := [ds s]) ho hd hx hH (by simpa using hm) (by rw [hy]; exact .d _) rfl ht (by omega) (.cons (.d _) .nil) rfl (by rw [hfl]; omega) (flat_text s es i e0 he).symm (by simp) ?_
  intro d hd
  obtain ⟨z, _, rfl⟩ := List.mem_map.1 hd
  rfl
end Go.Q
