/- The rules of a program logic over abstract states, ninth part: arrays that are made and written; what is frozen. No condition. -/
import Derived.Test.YtkfcpnaiimcjeaaDoorQCtl
import Derived.Laws.MakeOwn
set_option linter.unusedVariables false
set_option linter.unusedSimpArgs false
namespace Go.Q
open Go.RowKit
variable {P : Program} {β : Base}

/-! ### A new array of the call's own -/
theorem Rel.newArr {F : Fz} {ρ : Gh} {σ : St} {a : Act} {w : World} (h : Rel P β F ρ σ a w) {id sz e cap : Nat} {l : List D} {vs : Array Value} (h0 : 0 < sz) (he : ∀ i, (σ.env i).noRef id = true) (hh : ∀ i, (σ.H i).noRef id = true)
    (hsz : ∀ d ∈ l, d.cells.length = sz) (hc : ∀ d ∈ flat l, d.isCell = true) (hcap : l.length ≤ cap) (hmax : cap ≤ maxLen) (hvs : vs.size = cap * sz) (hv : ∀ (i : Nat) (d : D) (v : Value), (flat l)[i]? = some d → vs[i]? = some v → VR F w d v) :
    Rel P β F (ρ.setHd id (.slice (some ⟨w.heap.size, 0, none⟩) l.length cap)) (σ.setH id (.arr true sz e l)) a (w.alloc (.cells vs e (0, 0))) := by
  have hk : Kept noM w F (w.alloc (.cells vs e (0, 0))) F := kept_alloc _
  have hg := h.grow hk (wf_alloc h.h.wf _)
  have hρ : ∀ i, i ≠ id → (ρ.setHd id (.slice (some ⟨w.heap.size, 0, none⟩) l.length cap)).blk i = ρ.blk i ∧ (ρ.setHd id (.slice (some ⟨w.heap.size, 0, none⟩) l.length cap)).hd i = ρ.hd i := fun i hi => ⟨rfl, upd_ne _ _ hi⟩
  have hlen : (vs.toList.take (l.length * sz)).length = l.length * sz := by
    have h1 : l.length * sz ≤ cap * sz := Nat.mul_le_mul_right _ hcap
    have h2 : vs.toList.length = cap * sz := by rw [← hvs]; simp
    rw [List.length_take, h2]
    omega
  refine hg.setObj hρ he hh ⟨h0, hsz, hc, vs.toList.take (l.length * sz), ⟨hlen, .inr ⟨w.heap.size, cap, vs, ?_, Nat.zero_le _, heap_alloc_new w _, hcap, hmax, hvs, rfl⟩⟩, ?_, ?_⟩ ?_
  · simp only [Gh.setHd, upd_same]
  · intro i d v hd hv'
    rw [List.getElem?_take] at hv'
    split at hv'
    · exact (hv i d v hd (by simpa using hv')).mono (hk.ext h.h.wf) (fun _ => Nat.le_refl _)
    · cases hv'
  · intro g hg'
    simp only [Gh.setHd, upd_same, Value.ownBlock, Option.some.injEq] at hg'
    subst hg'
    exact ⟨.inl h.h.kept.size, by simpa using h.h.wf _ (Nat.le_refl _)⟩
  · intro i b hi h2 h3
    simp only [blkOf, Gh.setHd, upd_same, Value.ownBlock, Option.some.injEq] at h3
    subst h3
    have := (h.h.ob i).lt h2
    omega

theorem asl_new {F : Fz} {ρ : Gh} {σ : St} {w : World} {id sz e n : Nat} {mu : Bool} {l : List D} {v : Value} (hn : n = l.length) (h1 : v.oneCell' = true) : AVR P β F (ρ.setHd id v) (σ.setH id (.arr mu sz e l)).H w (.asl id n) v := by
  refine .asl id n v h1 (fun mu' sz' e' l' he => ?_)
  simp only [St.setH, upd_same] at he
  cases he
  exact ⟨by omega, fun _ => by simp [Gh.setHd, upd_same]⟩

theorem ElemT.parts {t e sz by_ : Nat} (h : ElemT P t e sz by_) : ∃ i z, P.info? e = some i ∧ i.zero = some z ∧ i.size = sz ∧ i.bytes = by_ ∧ z.cells.size = sz := h.2

/-- What a zero cell reads as. -/
inductive CD : Value → D → Prop
  | s (v : Value) (h : v.oneCell' = true) : CD v (.s v)
  | sl (sz : Nat) (q : Option Nat) : CD (.slice none 0 0) (.sl sz q [])
theorem CD.rel {v : Value} {d : D} (h : CD v d) (F : Fz) (w : World) : VR F w d v := by
  cases h with
  | s _ h => exact .s v h
  | sl sz q => exact .sl0 sz q none 0 (Nat.zero_le _)
theorem CD.cell {v : Value} {d : D} (h : CD v d) : d.isCell = true := by cases h <;> rfl
inductive CDL : List Value → List D → Prop
  | nil : CDL [] []
  | cons {v : Value} {d : D} {l : List Value} {m : List D} (h : CD v d) (t : CDL l m) : CDL (v :: l) (d :: m)
theorem CDL.length {l : List Value} {m : List D} (h : CDL l m) : l.length = m.length := by
  induction h with
  | nil => rfl
  | cons _ _ ih => simp [ih]
theorem CDL.get {l : List Value} {m : List D} (h : CDL l m) : ∀ (i : Nat) (v : Value) (d : D), l[i]? = some v → m[i]? = some d → CD v d := by
  induction h with
  | nil => intro i v d h; simp at h
  | cons h t ih =>
    intro i v d h1 h2
    cases i with
    | zero => simp at h1 h2; subst h1; subst h2; exact h
    | succ i => simp at h1 h2; exact ih i v d h1 h2

theorem flat_replicate {d : D} {sz : Nat} (h : d.cells.length = sz) (n i : Nat) (hi : i < n * sz) : (flat (List.replicate n d))[i]? = d.cells[i % sz]? := by
  have hsz : 0 < sz := by
    rcases Nat.eq_zero_or_pos sz with e | e
    · rw [e] at hi; simp at hi
    · exact e
  have h1 : i / sz < n := (Nat.div_lt_iff_lt_mul hsz).2 hi
  have := flat_get (l := List.replicate n d) (sz := sz) (fun x hx => by rw [List.eq_of_mem_replicate hx]; exact h) (i / sz) d (i % sz) (by rw [List.getElem?_replicate, if_pos h1]) (Nat.mod_lt _ hsz)
  rwa [Nat.div_add_mod'] at this

theorem s_makeSlice {σ : St} {o : Oper} {t e sz by_ id dst n : Nat} {x y : Operand} {m c : Nat} {zs : List Value} {zd : D} (ho : o.op = .makeSlice t x y) (hd : o.dst = some dst) (hdn : Nat.blt dst β.n = true) (hx : aev σ x = .d (.s (.int .i64 m))) (hy : aev σ y = .d (.s (.int .i64 c)))
    (ht : ElemT P t e sz by_) (hz : ZeroT P e zs) (h0 : Nat.blt 0 sz = true) (hzd : CDL zs zd.cells) (hmc : m ≤ c) (hb : c * by_ ≤ 281474976710656) (hc63 : c ≤ maxLen) (h1 : NoRefE id σ.env) (h2 : NoRefH id σ.H) :
    SStep P β σ o ((σ.setH id (.arr true sz e (List.replicate m zd))).put dst (.asl id m)) := by
  intro F ρ a w hr
  have h0 := lt_of_blt h0
  have e1 := hr.ev x
  have e2 := hr.ev y
  rw [hx] at e1
  rw [hy] at e2
  obtain ⟨hu, i, z, hi, hz', g1, g2, g3⟩ := ht
  subst g1
  subst g2
  obtain ⟨z', k1, k2, k3⟩ := hz
  have hzz : z = z' := by simp [hi, hz'] at k1; exact k1
  subst hzz
  have hc : (c : Int) ≤ 9223372036854775807 := by simp only [maxLen] at hc63; omega
  have hb' : (i.bytes : Int) * (c : Int) ≤ 281474976710656 := by
    rw [← Int.natCast_mul, Nat.mul_comm]; omega
  have hrun := run_make (P := P) w t e i z hu hi hz' .i64 .i64 (m : Int) (c : Int) (by omega) (by omega) hb' hc
  simp only [Int.toNat_natCast] at hrun
  have hrun' : (execOp a.eval o).run P w = .ok (.value (.slice (some ⟨w.heap.size, 0, none⟩) m c)) (w.alloc (.cells (madeCells z.cells (c * i.size)) e)) := by
    simp only [execOp, ho, e1.s_inv, e2.s_inv, Sem.run_bind, hrun, Result.andThen_ok, Sem.run_pure]
  unfold goes
  rw [hrun', hd]
  have hzl : zd.cells.length = i.size := by rw [← hzd.length, ← g3, k2, List.size_toArray]
  have hlen : (List.replicate m zd).length = m := List.length_replicate
  have key := hr.newArr (id := id) (sz := i.size) (e := e) (cap := c) (l := List.replicate m zd) (vs := madeCells z.cells (c * i.size)) h0 h1 h2 (fun d hd => by rw [List.eq_of_mem_replicate hd]; exact hzl)
    (fun d hd => ?_) (by rw [hlen]; exact hmc) hc63 (size_madeCells _ _) (fun j d v hj hv => ?_)
  · rw [hlen] at key
    exact ⟨_, _, key.put (lt_of_blt hdn) (asl_new hlen.symm rfl)⟩
  · unfold flat at hd
    obtain ⟨d', hd', hd2⟩ := List.mem_flatMap.1 hd
    rw [List.eq_of_mem_replicate hd'] at hd2
    obtain ⟨j, hj⟩ := List.getElem?_of_mem hd2
    have hjl := (List.getElem?_eq_some_iff.1 hj).1
    have hjlz : j < zs.length := by rw [hzd.length]; exact hjl
    have hjz : zs[j]? = some zs[j] := List.getElem?_eq_getElem hjlz
    exact (hzd.get j _ d hjz hj).cell
  · have hjl := (List.getElem?_eq_some_iff.1 hj).1
    rw [flat_length (sz := i.size) (fun d hd => by rw [List.eq_of_mem_replicate hd]; exact hzl), hlen] at hjl
    rw [flat_replicate hzl m j hjl] at hj
    have hjc : j < c * i.size := Nat.lt_of_lt_of_le hjl (Nat.mul_le_mul_right _ hmc)
    have hlt : j % i.size < z.cells.size := by rw [g3]; exact Nat.mod_lt _ h0
    have hv2 : (madeCells z.cells (c * i.size))[j]? = some (z.cells[j % i.size]'hlt) := by
      simp [madeCells, hjc, g3, hlt]
      rw [getElem!_pos z.cells _ hlt]
    rw [hv2] at hv
    cases hv
    have hz2 : zs[j % i.size]? = some (z.cells[j % i.size]'hlt) := by
      have h5 : z.cells[j % i.size]? = some (z.cells[j % i.size]'hlt) := Array.getElem?_eq_getElem hlt
      rw [← h5, k2]
      simp
    exact (hzd.get _ _ d hz2 hj).rel F w

theorem Rd.isCell {H : Nat → Obj} {c : AVal} {d : D} (h : Rd H c d) (hc : c.isCell = true) : d.isCell = true := by
  cases h with
  | d x => cases d <;> first | rfl | cases hc
  | agg => cases hc
  | _ => rfl

/-! ### A store into an array of the call's own -/
/-- An array's content turns, not its length. -/
theorem AVR.arrSame {F : Fz} {ρ : Gh} {H : Nat → Obj} {w : World} {id : Nat} {mu mu' : Bool} {sz sz' e e' : Nat} {l l' : List D} (hH : H id = .arr mu sz e l) (hll : l'.length = l.length) {c : AVal} {v : Value} (h : AVR P β F ρ H w c v) :
    AVR P β F ρ (upd H id (.arr mu' sz' e' l')) w c v := by
  induction h with
  | junk v => exact .junk v
  | d x v h => exact .d x v h
  | agg l vs hl hc h ih => exact .agg l vs hl hc ih
  | box i off => exact .box i off
  | asl i n v h1 h =>
    refine .asl i n v h1 (fun mu2 sz2 e2 l2 he => ?_)
    by_cases hi : i = id
    · subst hi
      rw [upd_same] at he
      cases he
      rw [hll]
      exact h _ _ _ _ hH
    · rw [upd_ne _ _ hi] at he; exact h _ _ _ _ he
  | el i n k v h1 h =>
    refine .el i n k v h1 (fun mu2 sz2 e2 l2 he => ?_)
    by_cases hi : i = id
    · subst hi
      rw [upd_same] at he
      cases he
      rw [hll]
      exact h _ _ _ _ hH
    · rw [upd_ne _ _ hi] at he; exact h _ _ _ _ he
  | nil => exact .nil
  | lit sz l a h => exact .lit sz l a h
  | clo f caps vs hl h ih => exact .clo f caps vs hl ih
  | fnv p v h1 h => exact .fnv p v h1 h
  | tup l vs hl h ih => exact .tup l vs hl ih
  | mp i => exact .mp i

theorem s_store_el {σ : St} {o : Oper} {t id m k n sz e : Nat} {x y : Operand} {l l' : List D} {c : AVal} {ds : List D} (ho : o.op = .store t x y) (hd : o.dst = none) (hx : aev σ x = .el id m k) (hH : σ.H id = .arr true sz e l) (hm : m = l.length) (hy : IsA (aev σ y) c) (hv : c.isVal = true) (ht : SizeT P t n) (h0 : 0 < n)
    (hc : RdL σ.H c.cells ds) (hn : ds.length = n) (hk : k + n ≤ (flat l).length) (hf : flat l' = splice (flat l) k ds) (hll : l'.length = l.length) (hsz' : ∀ d ∈ l', d.cells.length = sz) : SStep P β σ o (σ.setH id (.arr true sz e l')) := by
  intro F ρ a w hr
  have h1 := hr.ev x
  rw [hx] at h1
  have hev := hr.ev y
  rw [hy.eq] at hev
  obtain ⟨c1, c2, c3⟩ := hev.cells hv
  have hne : l ≠ [] := by intro e; rw [e] at hk; simp [flat] at hk; omega
  obtain ⟨g, cap, cur, hh, hnc, hcm, hg, hcs, hsz, hci, hll1, hrr, hvr, hown, hF, hz⟩ := arr_parts hr.h hH hne
  generalize hvx : a.eval x = vx at h1
  cases h1 with
  | el _ _ _ _ _ h =>
    obtain ⟨g', hg', rfl⟩ := (h _ _ _ _ hH).2 hm
    rw [hh] at hg'
    cases hg'
    have hlen : c.cells.length = n := by rw [hc.length, hn]
    have hflat := flat_length hsz
    have hcap : l.length * sz ≤ cap * sz := Nat.mul_le_mul_right _ hnc
    have hone : ∀ z ∈ (a.eval y).cells.toList, z.oneCell' = true := by
      intro z hz
      obtain ⟨i, hi⟩ := List.getElem?_of_mem hz
      have hil := (List.getElem?_eq_some_iff.1 hi).1
      have hil' : i < c.cells.length := by rw [← c1]; simpa using hil
      exact (c3 i _ z (List.getElem?_eq_getElem hil') (by simpa using hi)).oneCell (c2 _ (List.getElem_mem hil'))
    have hrun := run_storeAt_row (w := w) (t := t) (b := g) (k := k) ht hg (c1.trans hlen) (by omega) hone
    have hrun' : (execOp a.eval o).run P w = .ok .skip (w.setRow g (splice cur.toList k (a.eval y).cells.toList).toArray) := by
      simp only [execOp, ho, hvx, Sem.run_bind, hrun, Result.andThen_ok, Sem.run_pure]
    unfold goes
    rw [hrun', hd]
    have hF0 : F g ≤ 0 := by rw [hF]; simp
    have hpre : ∀ o, o < F g → (splice cur.toList k (a.eval y).cells.toList).toArray[o]? = cur[o]? := by intro o ho; omega
    have hvl : (a.eval y).cells.toList.length = n := by rw [Array.length_toList, c1, hlen]
    have hsp : k + (a.eval y).cells.toList.length ≤ cur.toList.length := by rw [hvl, Array.length_toList]; omega
    have hE := ext_row (F := F) hg hpre
    have htr : ∀ c v, AVR P β F ρ σ.H w c v → AVR P β (upd F g 0) ρ (upd σ.H id (.arr true sz e l')) (w.setRow g (splice cur.toList k (a.eval y).cells.toList).toArray) c v := by
      intro c v hcv
      exact (hcv.grow hE (le_upd hF0)).arrSame hH hll
    have hmono : ∀ d v, VR F w d v → VR (upd F g 0) (w.setRow g (splice cur.toList k (a.eval y).cells.toList).toArray) d v := fun d v h => h.mono hE (le_upd hF0)
    have hdsl : k + ds.length ≤ (flat l).length := by omega
    have hrow := setRow_heap w g cur (splice cur.toList k (a.eval y).cells.toList).toArray e (0, 0) hg
    have hslen : (splice cur.toList k (a.eval y).cells.toList).length = cap * sz := by rw [splice_length hsp, Array.length_toList, hcs]
    refine ⟨upd F g 0, ρ, ?_⟩
    have := hr.writeObj (ρ' := ρ) (id := id) (obj := .arr true sz e l') (by rw [hH]; simp [blkOf, hh, Value.ownBlock]) hg hown hpre hF0 (fun _ _ => ⟨rfl, rfl⟩) (by simp [blkOf, hh, Value.ownBlock]) htr
      ⟨hz, hsz', ?_, (splice cur.toList k (a.eval y).cells.toList).take (l.length * sz), ⟨?_, .inr ⟨g, cap, _, by rw [hh, hll], Nat.zero_le _, hrow, by rw [hll]; exact hnc, hcm, by rw [List.size_toArray, hslen], ?_⟩⟩, ?_, ?_⟩
    · simpa [Act.put] using this
    · intro d hd
      rw [hf] at hd
      rcases splice_mem hd with hd | hd
      · exact hci d hd
      · obtain ⟨i, hi⟩ := List.getElem?_of_mem hd
        have hil := (List.getElem?_eq_some_iff.1 hi).1
        have hil2 : i < c.cells.length := by rw [hc.length]; exact hil
        have hci' : c.cells[i]? = some c.cells[i] := List.getElem?_eq_getElem hil2
        have h5 := c2 _ (List.mem_of_getElem? hci')
        exact (hc.get i _ d hci' hi).isCell h5
    · rw [List.length_take, hslen, hll]; omega
    · rw [hll]
    · intro i d v hi hv
      rw [hf, splice_get hdsl] at hi
      rw [List.getElem?_take] at hv
      by_cases hilt : i < l.length * sz
      · rw [if_pos hilt, splice_get hsp, hvl] at hv
        rw [hn] at hi
        split at hi
        · rename_i hik
          rw [if_pos hik] at hv
          have hil := (List.getElem?_eq_some_iff.1 hi).1
          have hil2 : i - k < c.cells.length := by rw [hc.length]; exact hil
          have hci' : c.cells[i - k]? = some c.cells[i - k] := List.getElem?_eq_getElem hil2
          exact hmono _ _ ((hc.get _ _ d hci' hi).sound hr.h (c3 _ _ v hci' (by simpa using hv)))
        · rename_i hik
          rw [if_neg hik] at hv
          exact hmono _ _ (hvr i d v hi (by rw [List.getElem?_take, if_pos hilt]; exact hv))
      · rw [if_neg hilt] at hv; cases hv
    · intro g' hg'
      rw [hh] at hg'
      cases hg'
      exact ⟨hown, by rw [upd_same]; rfl⟩

/-! ### Freezing -/
def arrFz : Obj → Obj
  | .arr _ sz e l => .arr false sz e l
  | o => o
theorem Rel.freeze {F : Fz} {ρ : Gh} {σ : St} {a : Act} {w : World} (h : Rel P β F ρ σ a w) {id sz e : Nat} {mu : Bool} {l : List D} (hH : σ.H id = .arr mu sz e l) : ∃ F', Rel P β F' ρ (σ.setH id (.arr false sz e l)) a w := by
  have hob := h.h.ob id
  rw [hH] at hob
  obtain ⟨h0, h1, h2, xs, hown, h4, h5⟩ := hob
  have hcong : ∀ c v, AVR P β F ρ σ.H w c v → ∀ F', (∀ b, F b ≤ F' b) → AVR P β F' ρ (upd σ.H id (.arr false sz e l)) w c v := by
    intro c v hcv F' hF
    exact (hcv.grow (Ext.refl F w) hF).arrSame hH rfl
  have fin : ∀ F', (∀ b, F b ≤ F' b) → WF F' w → (∀ b, blkOf ρ id (σ.H id) ≠ some b → F' b = F b) → (∀ b, β.own b ∨ F' b = F b) → (∀ g, (ρ.hd id).ownBlock = some g → F' g = xs.length) → Rel P β F' ρ (σ.setH id (.arr false sz e l)) a w := by
    intro F' hF hwf hoth hownF hg
    refine ⟨⟨fun i => ?_, fun i j b hne e1 e2 => ?_, hwf, h.h.wf0, ?_, h.h.fx⟩, fun i => hcong _ _ (h.tm i) F' hF, h.df, h.nn⟩
    · by_cases hi : i = id
      · subst hi
        simp only [St.setH, upd_same]
        exact ⟨h0, h1, h2, xs, hown, fun i d v hd hv => (h4 i d v hd hv).mono (Ext.refl F w) hF, fun g hg' => ⟨(h5 g hg').1, by simpa using hg g hg'⟩⟩
      · simp only [St.setH, upd_ne _ _ hi]
        refine (h.h.ob i).move (fun c v hcv => hcong c v hcv F' hF) (fun d v hd => hd.mono (Ext.refl F w) hF) ⟨rfl, rfl⟩ (fun b hb => ⟨rfl, hoth b (fun hb' => h.h.dj i id b hi hb hb')⟩)
    · simp only [St.setH] at e1 e2
      have hbl : blkOf ρ id (.arr false sz e l) = blkOf ρ id (σ.H id) := by rw [hH]; rfl
      by_cases hi : i = id
      · subst hi
        have hj : j ≠ i := fun e => hne e.symm
        rw [upd_same, hbl] at e1
        rw [upd_ne _ _ hj] at e2
        exact h.h.dj i j b hne e1 e2
      · rw [upd_ne _ _ hi] at e1
        by_cases hj : j = id
        · subst hj
          rw [upd_same, hbl] at e2
          exact h.h.dj i j b hne e1 e2
        · rw [upd_ne _ _ hj] at e2
          exact h.h.dj i j b hne e1 e2
    · have hk := h.h.kept
      refine ⟨hk.os, hk.tape, hk.output, hk.size, fun b hb hM => ?_, fun b hb hM => ?_⟩
      · have h6 := hk.blk b hb hM
        rcases hownF b with (h7 | h7) | h7
        · omega
        · exact absurd h7 hM
        · rw [h7]; exact h6
      · have h6 := hk.fz b hb hM
        exact ⟨Nat.le_trans h6.1 (hF b), h6.2⟩
  rcases hown.2 with ⟨hv, hn⟩ | ⟨g, cap, cur, hv, _, hg, _⟩
  · refine ⟨F, fin F (fun _ => Nat.le_refl _) h.h.wf (fun _ _ => rfl) (fun _ => .inr rfl) (fun g hg => ?_)⟩
    rw [hv] at hg; cases hg
  · have hgo : (ρ.hd id).ownBlock = some g := by rw [hv]; rfl
    have h6 := h5 g hgo
    have hle : F g ≤ xs.length := by rw [h6.2]; split <;> simp
    refine ⟨upd F g xs.length, fin _ (le_upd hle) (fun b hb => ?_) (fun b hb => ?_) (fun b => ?_) (fun g' hg' => ?_)⟩
    · have := (Array.getElem?_eq_some_iff.1 hg).1
      rw [upd_ne _ _ (by omega)]
      exact h.h.wf b hb
    · refine upd_ne _ _ (fun e => hb ?_)
      rw [hH, e]; exact hgo
    · by_cases hb : b = g
      · rw [hb]; exact .inl h6.1
      · exact .inr (upd_ne _ _ hb)
    · rw [hgo] at hg'; cases hg'; rw [upd_same]

theorem T_freeze {c : Code} {Q : Exit → St → Prop} {σ : St} (id : Nat) {sz e : Nat} {mu : Bool} {l : List D} (hH : σ.H id = .arr mu sz e l) (h : T P β c Q (σ.setH id (.arr false sz e l))) : T P β c Q σ := by
  intro F ρ a w hr
  obtain ⟨F', hr'⟩ := hr.freeze hH
  exact h F' ρ a w hr'
theorem TL_freeze {ops : Array Oper} {rest : List Oper} {Q : Exit → St → Prop} {σ : St} (id : Nat) {sz e : Nat} {mu : Bool} {l : List D} (hH : σ.H id = .arr mu sz e l) (h : TL P β ops Q rest (σ.setH id (.arr false sz e l))) : TL P β ops Q rest σ := by
  intro F ρ a w hr
  obtain ⟨F', hr'⟩ := hr.freeze hH
  exact h F' ρ a w hr'

end Go.Q
