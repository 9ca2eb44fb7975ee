/- The rules of a program logic over abstract states, sixth part: appends; what is frozen. No condition. -/
import Derived.Test.YtkfcpnaiimcjeaaDoorQWrite
set_option linter.unusedVariables false
set_option linter.unusedSimpArgs false
namespace Go.Q
open Go.RowKit
variable {P : Program} {β : Base}

/-- A slice type: its elements' type, their cells and bytes. -/
def ElemT (P : Program) (t e sz by_ : Nat) : Prop := P.underlying t = some (.slice e) ∧ ∃ i z, P.info? e = some i ∧ i.zero = some z ∧ i.size = sz ∧ i.bytes = by_ ∧ z.cells.size = sz
theorem ElemT.sl {t e sz by_ : Nat} (h : ElemT P t e sz by_) : SliceT P t e sz := by
  obtain ⟨h1, i, z, h2, h3, h4, h5, h6⟩ := h
  exact ⟨h1, by simp [SizeT, h2, h4]⟩

theorem ElemT.of {t e sz by_ : Nat} {z : Value} (h1 : P.underlying t = some (.slice e)) (h2 : (P.info? e).map (fun i => (i.zero, i.size, i.bytes)) = some (some z, sz, by_)) (h3 : z.cells.size = sz) : ElemT P t e sz by_ := by
  cases hq : P.info? e with
  | none => simp [hq] at h2
  | some i =>
    simp [hq] at h2
    exact ⟨h1, i, z, hq, h2.1, h2.2.1, h2.2.2, h3⟩

/-- What an append comes to: in place, or in a new block. -/
theorem run_append_two {w : World} {t ty e sz by_ : Nat} (ht : ElemT P t e sz by_) (hsz : 0 < sz) {v : Value} {n : Nat} {xs : List Value} (hown : w.ownsRow 0 e sz v n xs)
    {ad : Addr} {m c : Nat} {news : List Value} (hm : 0 < m) (hl : news.length = m * sz) (hnews : ∀ j u, news[j]? = some u → w.cell? (ad.add j) = some u) (h1 : ∀ u ∈ news, u.oneCell' = true) (hbytes : (n + m) * by_ ≤ 140737488355328) (h63 : n + m ≤ maxLen) :
    ∃ v' w', (Builtin.append_ #[t, t] ty #[v, .slice (some ad) m c]).run P w = .ok v' w' ∧ w'.ownsRow 0 e sz v' (n + m) (xs ++ news) ∧
      ((∃ g cur cur', v.ownBlock = some g ∧ v'.ownBlock = some g ∧ w.heap[g]? = some (.cells cur e (0, 0)) ∧ w' = w.setRow g cur' ∧ ∀ k, k < xs.length → cur'[k]? = cur[k]?) ∨
       (∃ o, v'.ownBlock = some w.heap.size ∧ w' = w.drew.alloc o)) := by
  obtain ⟨hu, i, z, hi, hz, hi1, hi2, hzs⟩ := ht
  subst hi1
  subst hi2
  have hsmall : n + m ≤ 9223372036854775807 := by simp only [maxLen] at h63; omega
  have hlen : (xs ++ news).length = (n + m) * i.size := by rw [List.length_append, hown.1, hl, Nat.add_mul]
  have grown : ∀ (old : Nat), old < n + m →
      (w.drew.alloc (.cells (xs.toArray ++ news.toArray ++ Builtin.zeroCells z.cells (grownCap w (n + m) old e - (n + m))) e)).ownsRow 0 e i.size
        (.slice (some ⟨w.heap.size, 0, none⟩) (n + m) (grownCap w (n + m) old e)) (n + m) (xs ++ news) := by
    intro old ho
    have hge := grownCap_ge w (n + m) old e
    have hcm : grownCap w (n + m) old e ≤ maxLen := grownCap_le_maxLen w (n + m) old e h63
    refine ⟨hlen, .inr ⟨w.heap.size, _, _, rfl, Nat.zero_le _, heap_alloc_new w.drew _, hge, hcm, ?_, ?_⟩⟩
    · simp only [Array.size_append, List.size_toArray, size_zeroCells, hzs, hown.1, hl, ← Nat.add_mul]
      congr 1
      omega
    · simp only [Array.toList_append, List.append_assoc]
      rw [← List.append_assoc, ← hlen]
      exact List.take_left
  rcases hown.2 with ⟨rfl, rfl⟩ | ⟨g, cap, cur, rfl, hbg, hg, hnc, hcm, hcs, htake⟩
  · have hx : xs = [] := List.eq_nil_of_length_eq_zero (by simpa using hown.1)
    subst hx
    have hr := run_append_nil (P := P) w t ty e i z hu hi hz ad m c news hl hnews hm (by omega) (by have hb := hbytes; simp only [Nat.zero_add] at hb; omega)
    have hgr := grown 0 (by omega)
    simp only [Nat.zero_add, List.nil_append, Array.empty_append] at hgr ⊢
    exact ⟨_, _, hr, hgr, .inr ⟨_, rfl, rfl⟩⟩
  · by_cases hroom : n + m ≤ cap
    · have hfit : n * i.size + news.length ≤ cur.size := by rw [hl, hcs, ← Nat.add_mul]; exact Nat.mul_le_mul_right _ hroom
      have hr := run_append_room (P := P) w t ty e i hu hi g n cap cur hg ad m c news hl hnews h1 hroom hfit
      refine ⟨_, _, hr, ⟨hlen, .inr ⟨g, cap, _, rfl, hbg, setRow_heap w g cur _ e _ hg, hroom, hcm, ?_, ?_⟩⟩, .inl ⟨g, cur, _, rfl, rfl, hg, rfl, ?_⟩⟩
      · simp only [List.size_toArray, List.length_append, List.length_take, List.length_drop, Array.length_toList]
        omega
      · rw [htake, ← hlen]
        exact List.take_left
      · intro k hk
        have hxl := hown.1
        simp only [List.getElem?_toArray]
        rw [List.append_assoc, List.getElem?_append_left (by rw [List.length_take, Array.length_toList]; omega), List.getElem?_take, if_pos (by omega)]
        simp
    · have holds : ∀ j u, xs[j]? = some u → w.cell? ((⟨g, 0, none⟩ : Addr).add j) = some u := hown.cells (g := g) rfl
      have hr := run_append_grow (P := P) w t ty e i z hu hi hz ⟨g, 0, none⟩ n cap xs hown.1 holds ad m c news hl hnews (by omega) (by omega) (growslice_fits (by omega) hbytes)
      exact ⟨_, _, hr, grown cap (by omega), .inr ⟨_, rfl, rfl⟩⟩

/-! ### What is appended -/
/-- The value reads as a slice of l, each element of sz cells. -/
def Src (w : World) (F : Fz) (sz : Nat) (l : List D) (v : Value) : Prop :=
  ∃ a c, v = .slice a l.length c ∧ (l ≠ [] → (∀ d ∈ l, d.cells.length = sz) ∧ (∀ d ∈ flat l, d.isCell = true) ∧ ∃ (ad : Addr) (news : List Value), a = some ad ∧ news.length = l.length * sz ∧ (∀ j u, news[j]? = some u → w.cell? (ad.add j) = some u) ∧
    (∀ u ∈ news, u.oneCell' = true) ∧ ∀ (i : Nat) (d : D) (u : Value), (flat l)[i]? = some d → news[i]? = some u → VR F w d u)

theorem src_of_sl {F : Fz} {w : World} {sz : Nat} {q : Option Nat} {l : List D} {v : Value} (h : VR F w (.sl sz q l) v) : Src w F sz l v := by
  cases h with
  | sl0 _ _ a cap h => exact ⟨a, cap, rfl, fun h => absurd rfl h⟩
  | sl _ _ _ b off cap cs hne h0 hsz hc hcap hmax hr hl hF hq h =>
    refine ⟨_, cap, rfl, fun _ => ⟨hsz, hc, _, cs, rfl, by rw [hl, flat_length hsz], fun j u hj => by rw [Addr.add_mid]; exact hr j u hj, fun u hu => ?_, h⟩⟩
    obtain ⟨i, hi⟩ := List.getElem?_of_mem hu
    have hil := (List.getElem?_eq_some_iff.1 hi).1
    have hd : (flat l)[i]? = some (flat l)[i] := List.getElem?_eq_getElem (by omega)
    exact (h i _ u hd hi).oneCell (hc _ (List.getElem_mem _))

/-- How an abstract value says that it is a slice of l. -/
inductive IsSl (H : Nat → Obj) (sz : Nat) : AVal → List D → Prop
  | d (q : Option Nat) (l : List D) : IsSl H sz (.d (.sl sz q l)) l
  | lit (l : List D) : IsSl H sz (.lit sz l) l
  | nil : IsSl H sz .nil []
  | asl (id n : Nat) (mu : Bool) (e : Nat) (l : List D) (hH : H id = .arr mu sz e l) (hn : n = l.length) : IsSl H sz (.asl id n) l

theorem src_of {F : Fz} {ρ : Gh} {H : Nat → Obj} {w : World} (hr : RelH P β F ρ H w) {sz : Nat} {c : AVal} {l : List D} (hs : IsSl H sz c l) {v : Value} (h : AVR P β F ρ H w c v) : Src w F sz l v := by
  cases hs with
  | d q l => cases h with | d _ _ h => exact src_of_sl h
  | lit l => cases h with | lit _ _ a h => exact src_of_sl h
  | nil => cases h; exact ⟨none, 0, rfl, fun h => absurd rfl h⟩
  | asl id n mu e l hH hn =>
    cases h with
    | asl _ _ _ _ h =>
      have hv := (h mu sz e l hH).2 hn
      subst hv
      by_cases hne : l = []
      · subst hne
        have hob := hr.ob id
        rw [hH] at hob
        obtain ⟨_, _, _, xs, hown, _⟩ := hob
        obtain ⟨a, cap, h2, _⟩ := ownsRow_slice hown
        exact ⟨a, cap, h2, fun h => absurd rfl h⟩
      · obtain ⟨g, cap, cur, hv, hnc, hcm, hg, hcs, hsz, hc, hll, hrr, hvr, hown, hF, hz⟩ := arr_parts hr hH hne
        refine ⟨_, cap, hv, fun _ => ⟨hsz, hc, _, cur.toList.take (l.length * sz), rfl, by rw [hll, flat_length hsz], fun j u hj => ?_, fun u hu => ?_, hvr⟩⟩
        · rw [Addr.add_mid]; exact hrr j u hj
        · obtain ⟨i, hi⟩ := List.getElem?_of_mem hu
          have hil := (List.getElem?_eq_some_iff.1 hi).1
          have hd : (flat l)[i]? = some (flat l)[i] := List.getElem?_eq_getElem (by omega)
          exact (hvr i _ u hd hi).oneCell (hc _ (List.getElem_mem _))

theorem Rel.drew {F : Fz} {ρ : Gh} {σ : St} {a : Act} {w : World} (h : Rel P β F ρ σ a w) : Rel P β F ρ σ a w.drew :=
  h.grow ⟨rfl, rfl, rfl, Nat.le_refl _, fun _ _ _ => ⟨rfl, rfl⟩, fun _ _ h => h.elim⟩ h.h.wf

/-- Objects' headers turn: which values stay related. -/
theorem AVR.arrGrow {F : Fz} {ρ : Gh} {H : Nat → Obj} {w : World} {id : Nat} {mu : Bool} {sz e : Nat} {l l' : List D} {v' : Value} (hH : H id = .arr mu sz e l) (hlt : l.length < l'.length) {c : AVal} {v : Value} (h : AVR P β F ρ H w c v) :
    AVR P β F (ρ.setHd id v') (upd H id (.arr mu sz e l')) w c v := by
  induction h with
  | junk v => exact .junk v
  | d x v h => exact .d x v h
  | agg l vs hl hc h ih => exact .agg l vs hl hc ih
  | box i off => exact .box (ρ := ρ.setHd id v') i off
  | asl i n v h1 h =>
    refine .asl i n v h1 (fun mu' sz' e' l'' he => ?_)
    by_cases hi : i = id
    · subst hi
      rw [upd_same] at he
      cases he
      have := h _ _ _ _ hH
      exact ⟨by omega, fun hn => by omega⟩
    · rw [upd_ne _ _ hi] at he
      simp only [Gh.setHd, upd_ne _ _ hi]
      exact h _ _ _ _ he
  | el i n k v h1 h =>
    refine .el i n k v h1 (fun mu' sz' e' l'' he => ?_)
    by_cases hi : i = id
    · subst hi
      rw [upd_same] at he
      cases he
      have := h _ _ _ _ hH
      exact ⟨by omega, fun hn => by omega⟩
    · rw [upd_ne _ _ hi] at he
      simp only [Gh.setHd, upd_ne _ _ hi]
      exact h _ _ _ _ he
  | nil => exact .nil
  | lit sz l a h => exact .lit sz l a h
  | clo f caps vs hl h ih => exact .clo f caps vs hl ih
  | fnv p v h1 h => exact .fnv p v h1 h
  | tup l vs hl h ih => exact .tup l vs hl ih
  | mp i => exact .mp (ρ := ρ.setHd id v') i

theorem append_rel {xs news : List Value} {F : Fz} {w : World} {l m : List D} (hl : xs.length = (flat l).length) (h : ∀ (i : Nat) (d : D) (v : Value), (flat l)[i]? = some d → xs[i]? = some v → VR F w d v)
    (h2 : ∀ (i : Nat) (d : D) (v : Value), (flat m)[i]? = some d → news[i]? = some v → VR F w d v) : ∀ (i : Nat) (d : D) (v : Value), (flat (l ++ m))[i]? = some d → (xs ++ news)[i]? = some v → VR F w d v := by
  intro i d v hd hv
  rw [flat_append, List.getElem?_append] at hd
  rw [List.getElem?_append, hl] at hv
  split at hd
  · rename_i hi; rw [if_pos hi] at hv; exact h i d v hd hv
  · rename_i hi; rw [if_neg hi] at hv; exact h2 _ d v hd hv

theorem run_call_append {w w' : World} {evc : Operand → Value} {o : Oper} {x y : Operand} {t : Nat} {v : Value} (ho : o.op = .call { callee := .builtin .append, args := #[x, y], argTypes := #[t, t] })
    (h : (Builtin.append_ #[t, t] o.type #[evc x, evc y]).run P w = .ok v w') : (execOp evc o).run P w = .ok (.value v) w' := by
  simp only [execOp, ho, resolve, Sem.run_bind, Sem.run_pure, Result.andThen_ok, invoke, List.map_toArray, List.map_cons, List.map_nil, builtin, h]

/-- Nothing is appended. -/
theorem run_append_zero {w : World} {t ty e sz by_ : Nat} (ht : ElemT P t e sz by_) {b a : Option Addr} {n c c' : Nat} (hn : n ≤ c) : (Builtin.append_ #[t, t] ty #[.slice b n c, .slice a 0 c']).run P w = .ok (.slice b n c) w := by
  have hsz := run_sizeOf ht.sl.2 w
  have h1 : ∀ w : World, (Builtin.firstCells sz 0 (.slice a 0 c')).run P w = .ok #[] w := by
    intro w
    cases a <;> simp [Builtin.firstCells, loadCells, loadCellsFrom]
  simp only [Builtin.append_, List.getElem?_toArray, List.getElem?_cons_zero, List.getElem?_cons_succ, Sem.run_bind, run_underlying ht.1, Result.andThen_ok, hsz, Sem.run_pure]
  simp [Builtin.lenOf, hn, h1]
  cases b <;> simp [storeCells]

theorem s_append {σ : St} {o : Oper} {t e sz by_ dst id n m : Nat} {mu : Bool} {x y : Operand} {l l2 : List D} (ho : o.op = .call { callee := .builtin .append, args := #[x, y], argTypes := #[t, t] }) (hd : o.dst = some dst) (hdn : dst < β.n)
    (hx : aev σ x = .asl id n) (hH : σ.H id = .arr mu sz e l) (hn : n = l.length) (hy : IsSl σ.H sz (aev σ y) l2) (ht : ElemT P t e sz by_) (hm : (l ++ l2).length = m) (hb : m * by_ ≤ 140737488355328) (hml : m ≤ maxLen) :
    SStep P β σ o ((σ.setH id (.arr mu sz e (l ++ l2))).put dst (.asl id m)) := by
  subst hm
  intro F ρ a w hr
  have h1 := hr.ev x
  rw [hx] at h1
  obtain ⟨a2, c2, hv2, hsrc⟩ := src_of hr.h hy (hr.ev y)
  have hob := hr.h.ob id
  rw [hH] at hob
  obtain ⟨g0, g1, g2, xs, hown, g4, g5⟩ := hob
  have hv1 : a.eval x = ρ.hd id := by
    generalize a.eval x = vx at h1
    cases h1 with
    | asl _ _ _ _ h => exact (h _ _ _ _ hH).2 hn
  have hxl : xs.length = (flat l).length := by rw [hown.1, flat_length g1]
  have hone : (ρ.hd id).oneCell' = true := by
    obtain ⟨_, _, h, _⟩ := ownsRow_slice hown
    rw [h]; rfl
  by_cases hl2 : l2 = []
  · subst hl2
    obtain ⟨ax, cx, h3, h4, h5⟩ := ownsRow_slice hown
    have hrun := run_call_append (P := P) (w := w) (evc := a.eval) (o := o) ho (by rw [hv1, h3, hv2]; exact run_append_zero (ty := o.type) ht h4)
    unfold goes
    rw [hrun, hd]
    refine ⟨F, ρ, ?_⟩
    have hs : σ.setH id (.arr mu sz e (l ++ [])) = σ := by
      rw [List.append_nil, ← hH]
      cases σ
      simp only [St.setH]
      congr 1
      funext j
      by_cases hj : j = id
      · subst hj; rw [upd_same]
      · rw [upd_ne _ _ hj]
    rw [hs]
    refine hr.put hdn (.asl id _ _ rfl (fun mu' sz' e' l' he => ?_))
    rw [hH] at he
    cases he
    refine ⟨by simp, fun _ => ?_⟩
    rw [← h3]
  · obtain ⟨s1, s2, ad, news, rfl, s4, s5, s6, s7⟩ := hsrc hl2
    have hpos : 0 < l2.length := List.length_pos_iff.2 hl2
    obtain ⟨v', w', hrun, hown', hcase⟩ := run_append_two (ty := o.type) (c := c2) ht g0 hown hpos s4 s5 s6 (by rw [List.length_append] at hb; exact hb) (by rw [List.length_append] at hml; exact hml)
    have hrun := run_call_append (P := P) (w := w) (evc := a.eval) (o := o) ho (by rw [hv1, hv2]; exact hrun)
    unfold goes
    rw [hrun, hd]
    have hflat : ∀ d ∈ flat (l ++ l2), d.isCell = true := by
      intro d hd
      rw [flat_append, List.mem_append] at hd
      rcases hd with hd | hd
      · exact g2 d hd
      · exact s2 d hd
    have hcl : ∀ d ∈ l ++ l2, d.cells.length = sz := by
      intro d hd
      rcases List.mem_append.1 hd with hd | hd
      · exact g1 d hd
      · exact s1 d hd
    have hlt : l.length < (l ++ l2).length := by rw [List.length_append]; omega
    have hone' : v'.oneCell' = true := by
      obtain ⟨_, _, h, _⟩ := ownsRow_slice hown'
      rw [h]; rfl
    rw [← List.length_append] at hown'
    rcases hcase with ⟨g, cur, cur', hb1, hb2, hg, rfl, hpre⟩ | ⟨ob, hb2, rfl⟩
    · -- in place
      have hg5 := g5 g hb1
      have hpre' : ∀ o, o < F g → cur'[o]? = cur[o]? := by
        intro o ho
        rw [hg5.2] at ho
        split at ho
        · omega
        · exact hpre o ho
      have hk : F g ≤ (if mu then 0 else (xs ++ news).length) := by
        rw [hg5.2]; split <;> simp
      have hE := ext_row (F := F) hg hpre'
      have htr : ∀ c v, AVR P β F ρ σ.H w c v → AVR P β (upd F g (if mu then 0 else (xs ++ news).length)) (ρ.setHd id v') (upd σ.H id (.arr mu sz e (l ++ l2))) (w.setRow g cur') c v :=
        fun c v h => (h.arrGrow hH hlt).grow hE (le_upd hk)
      have hmono : ∀ d v, VR F w d v → VR (upd F g (if mu then 0 else (xs ++ news).length)) (w.setRow g cur') d v := fun d v h => h.mono hE (le_upd hk)
      have := hr.writeObj (id := id) (ρ' := ρ.setHd id v') (obj := .arr mu sz e (l ++ l2)) (by rw [hH]; exact hb1) hg hg5.1 hpre' hk (fun i hi => ⟨rfl, upd_ne _ _ hi⟩) (by simp only [blkOf, Gh.setHd, upd_same]; exact hb2) htr
        ⟨g0, hcl, hflat, xs ++ news, by simp only [Gh.setHd, upd_same]; exact hown', append_rel hxl (fun i d v h1 h2 => hmono d v (g4 i d v h1 h2)) (fun i d v h1 h2 => hmono d v (s7 i d v h1 h2)), fun g' hg' => ?_⟩
      · refine ⟨_, _, this.put hdn (.asl id _ _ hone' (fun mu' sz' e' l' he => ?_))⟩
        simp only [St.setH, upd_same] at he
        cases he
        exact ⟨Nat.le_refl _, fun _ => by simp [Gh.setHd, upd_same]⟩
      · simp only [Gh.setHd, upd_same] at hg'
        rw [hb2] at hg'
        cases hg'
        exact ⟨hg5.1, by rw [upd_same]⟩
    · -- in a new block
      have hd1 := hr.drew
      have hkA : Kept noM w.drew F (w.drew.alloc ob) F := kept_alloc ob
      have hr2 := hd1.grow hkA (wf_alloc hd1.h.wf ob)
      have hE0 : Ext F w.drew (w.drew.alloc ob) := hkA.ext hd1.h.wf
      have hE : Ext F w (w.drew.alloc ob) := ⟨hE0.cell, hE0.fr, hE0.mp⟩
      have hlenw : (w.drew.alloc ob).heap.size = w.heap.size + 1 := by simp
      have hF0 : F w.heap.size = 0 := hr.h.wf _ (Nat.le_refl _)
      have hk : F w.heap.size ≤ (if mu then 0 else (xs ++ news).length) := by rw [hF0]; exact Nat.zero_le _
      have hmono : ∀ d v, VR F w d v → VR (upd F w.heap.size (if mu then 0 else (xs ++ news).length)) (w.drew.alloc ob) d v := fun d v h => h.mono hE (le_upd hk)
      have hwf : WF (upd F w.heap.size (if mu then 0 else (xs ++ news).length)) (w.drew.alloc ob) := by
        intro b hb
        rw [hlenw] at hb
        rw [upd_ne _ _ (by omega)]
        exact hr.h.wf b (by omega)
      have hgeF : ∀ b, b ≠ w.heap.size → upd F w.heap.size (if mu then 0 else (xs ++ news).length) b = F b := fun b hb => upd_ne _ _ hb
      have htr : ∀ c v, AVR P β F ρ σ.H w c v → AVR P β (upd F w.heap.size (if mu then 0 else (xs ++ news).length)) (ρ.setHd id v') (upd σ.H id (.arr mu sz e (l ++ l2))) (w.drew.alloc ob) c v :=
        fun c v h => (h.arrGrow hH hlt).grow hE (le_upd hk)
      have hkept : Kept β.M β.w0 β.F0 (w.drew.alloc ob) (upd F w.heap.size (if mu then 0 else (xs ++ news).length)) := by
        have hk0 := hr2.h.kept
        have hs0 := hr.h.kept.size
        refine ⟨hk0.os, hk0.tape, hk0.output, hk0.size, fun b hb hM => ?_, fun b hb hM => ?_⟩
        · rw [hgeF b (by omega)]; exact hk0.blk b hb hM
        · rw [hgeF b (by omega)]; exact hk0.fz b hb hM
      have hnew : Rel P β (upd F w.heap.size (if mu then 0 else (xs ++ news).length)) (ρ.setHd id v') (σ.setH id (.arr mu sz e (l ++ l2))) a (w.drew.alloc ob) := by
        refine ⟨⟨fun i => ?_, fun i j b hne e1 e2 => ?_, hwf, hr.h.wf0, hkept, hr.h.fx⟩, fun i => htr _ _ (hr.tm i), hr.df, hr.nn⟩
        · by_cases hi : i = id
          · subst hi
            simp only [St.setH, upd_same]
            refine ⟨g0, hcl, hflat, xs ++ news, by simp only [Gh.setHd, upd_same]; exact hown', append_rel hxl (fun i d v h1 h2 => hmono d v (g4 i d v h1 h2)) (fun i d v h1 h2 => hmono d v (s7 i d v h1 h2)), fun g' hg' => ?_⟩
            simp only [Gh.setHd, upd_same] at hg'
            rw [hb2] at hg'
            cases hg'
            exact ⟨.inl hr.h.kept.size, by rw [upd_same]⟩
          · simp only [St.setH, upd_ne _ _ hi]
            refine (hr.h.ob i).move htr hmono ⟨rfl, upd_ne _ _ hi⟩ (fun b hbi => ?_)
            have hlt' := (hr.h.ob i).lt hbi
            exact ⟨Below.heap_alloc w.drew ob b hlt', hgeF b (by omega)⟩
        · simp only [St.setH] at e1 e2
          by_cases hi : i = id
          · subst hi
            have hj : j ≠ i := fun e => hne e.symm
            rw [upd_same] at e1
            simp only [blkOf, Gh.setHd, upd_same, hb2, Option.some.injEq] at e1
            rw [upd_ne _ _ hj, blkOf_other (ρ := ρ) (ρ' := ρ.setHd i v') ⟨rfl, upd_ne _ _ hj⟩] at e2
            have := (hr.h.ob j).lt e2
            omega
          · rw [upd_ne _ _ hi, blkOf_other (ρ := ρ) (ρ' := ρ.setHd id v') ⟨rfl, upd_ne _ _ hi⟩] at e1
            by_cases hj : j = id
            · subst hj
              rw [upd_same] at e2
              simp only [blkOf, Gh.setHd, upd_same, hb2, Option.some.injEq] at e2
              have := (hr.h.ob i).lt e1
              omega
            · rw [upd_ne _ _ hj, blkOf_other (ρ := ρ) (ρ' := ρ.setHd id v') ⟨rfl, upd_ne _ _ hj⟩] at e2
              exact hr.h.dj i j b hne e1 e2
      refine ⟨_, _, hnew.put hdn (.asl id _ _ hone' (fun mu' sz' e' l' he => ?_))⟩
      simp only [St.setH, upd_same] at he
      cases he
      exact ⟨Nat.le_refl _, fun _ => by simp [Gh.setHd, upd_same]⟩

end Go.Q
