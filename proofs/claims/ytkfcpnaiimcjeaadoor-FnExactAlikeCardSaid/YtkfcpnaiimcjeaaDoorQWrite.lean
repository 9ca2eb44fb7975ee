/- The rules of a program logic over abstract states, fifth part: stores into variables and arrays of the call's own, appends. No condition. -/
import Derived.Test.YtkfcpnaiimcjeaaDoorQState
set_option linter.unusedVariables false
set_option linter.unusedSimpArgs false
namespace Go.Q
open Go.RowKit
variable {P : Program} {β : Base}

/-! ### A row is written -/
section
variable {w : World} {g : Nat} {cur cur' : Array Value} {e : TypeId} {fr : Nat × Nat}
theorem ext_row {F : Fz} (hg : w.heap[g]? = some (.cells cur e fr)) (hpre : ∀ o, o < F g → cur'[o]? = cur[o]?) : Ext F w (w.setRow g cur') := by
  have hg' := setRow_heap w g cur cur' e fr hg
  constructor
  · intro b o ho
    by_cases hb : b = g
    · subst hb
      rw [cell_of_array hg', cell_of_array hg, hpre o ho]
    · exact cell_of_blk (setRow_other w g b cur' hb) o
  · intro b ho
    by_cases hb : b = g
    · subst hb; simp [fr?, hg', hg]
    · exact fr_of_blk (setRow_other w g b cur' hb)
  · intro b es c ho hm
    by_cases hb : b = g
    · subst hb; rw [hg] at hm; cases hm
    · rw [setRow_other w g b cur' hb]; exact hm
theorem kept_row {M : Nat → Prop} {w0 : World} {F0 F : Fz} (h : Kept M w0 F0 w F) (hg : w.heap[g]? = some (.cells cur e fr)) (hown : w0.heap.size ≤ g ∨ M g) (hpre : ∀ o, o < F g → cur'[o]? = cur[o]?) {k : Nat} (hk : F g ≤ k) : Kept M w0 F0 (w.setRow g cur') (upd F g k) := by
  have hE := ext_row (F := F) hg hpre
  refine ⟨h.os, h.tape, h.output, by simpa using h.size, ?_, ?_⟩
  · intro b hb hM
    have hne : b ≠ g := by
      rintro rfl
      rcases hown with h1 | h1
      · omega
      · exact hM h1
    rw [setRow_other w g b cur' hne, upd_ne _ _ hne]
    exact h.blk b hb hM
  · intro b hb hM
    have h1 := h.fz b hb hM
    by_cases hne : b = g
    · subst hne
      have hg' := setRow_heap w b cur cur' e fr hg
      refine ⟨by rw [upd_same]; omega, fun o ho => ?_, ?_, ?_⟩
      · rw [hE.cell b o (by omega)]; exact h1.2.1 o ho
      · rw [← h1.2.2.1]; simp [fr?, hg', hg]
      · intro es c hp hm
        have := h1.2.2.2 es c hp hm
        rw [hg] at this; cases this
    · have hs := setRow_other w g b cur' hne
      refine ⟨by rw [upd_ne _ _ hne]; exact h1.1, fun o ho => (cell_of_blk hs o).trans (h1.2.1 o ho), (fr_of_blk hs).trans h1.2.2.1, fun es c hp hm => by rw [hs]; exact h1.2.2.2 es c hp hm⟩
theorem wf_row {F : Fz} (h : WF F w) (hg : w.heap[g]? = some (.cells cur e fr)) (k : Nat) : WF (upd F g k) (w.setRow g cur') := by
  intro b hb
  have hlt := (Array.getElem?_eq_some_iff.1 hg).1
  have hb : w.heap.size ≤ b := by simpa using hb
  rw [upd_ne _ _ (by omega)]
  exact h b hb
theorem le_upd {F : Fz} {g k : Nat} (hk : F g ≤ k) (b : Nat) : F b ≤ upd F g k b := by
  by_cases hb : b = g
  · subst hb; rw [upd_same]; exact hk
  · rw [upd_ne _ _ hb]; exact Nat.le_refl _
end

theorem AVR.congrH {F : Fz} {ρ : Gh} {H H' : Nat → Obj} {w : World} (hH : ∀ i mu sz e l, H' i = .arr mu sz e l → H i = .arr mu sz e l) {c : AVal} {v : Value} (h : AVR P β F ρ H w c v) : AVR P β F ρ H' w c v := by
  induction h with
  | junk v => exact .junk v
  | d x v h => exact .d x v h
  | agg l vs hl hc h ih => exact .agg l vs hl hc ih
  | box i off => exact .box i off
  | asl i n v h1 h => exact .asl i n v h1 (fun mu sz e l he => h mu sz e l (hH i mu sz e l he))
  | el i n k v h1 h => exact .el i n k v h1 (fun mu sz e l he => h mu sz e l (hH i mu sz e l he))
  | nil => exact .nil
  | lit sz l a h => exact .lit sz l a h
  | clo f caps vs hl h ih => exact .clo f caps vs hl ih
  | fnv p v h1 h => exact .fnv p v h1 h
  | tup l vs hl h ih => exact .tup l vs hl ih
  | mp i => exact .mp i

theorem ORel.move {F F' : Fz} {ρ ρ' : Gh} {H H' : Nat → Obj} {w w' : World} {id : Nat} (tr : ∀ c v, AVR P β F ρ H w c v → AVR P β F' ρ' H' w' c v) (vr : ∀ d v, VR F w d v → VR F' w' d v) (hρ : ρ'.blk id = ρ.blk id ∧ ρ'.hd id = ρ.hd id) {o : Obj}
    (hb : ∀ b, blkOf ρ id o = some b → w'.heap[b]? = w.heap[b]? ∧ F' b = F b) (h : ORel P β F ρ H w id o) : ORel P β F' ρ' H' w' id o := by
  cases o with
  | dead => trivial
  | box cs =>
    obtain ⟨⟨vs, e, h1, h2, h3, h4⟩, h5, h6⟩ := h
    have hb := hb _ rfl
    exact ⟨⟨vs, e, by rw [hρ.1, hb.1]; exact h1, h2, h3, fun i c v hc hv => tr c v (h4 i c v hc hv)⟩, by rw [hρ.1]; exact h5, by rw [hρ.1, hb.2]; exact h6⟩
  | arr mu sz e l =>
    obtain ⟨h0, h1, h2, xs, h3, h4, h5⟩ := h
    refine ⟨h0, h1, h2, xs, by rw [hρ.2]; exact ownsRow_of_blk h3 (fun g hg => (hb g hg).1), fun i d v hd hv => vr d v (h4 i d v hd hv), fun g hg => ?_⟩
    rw [hρ.2] at hg
    have := h5 g hg
    exact ⟨this.1, by rw [(hb g hg).2]; exact this.2⟩
  | map ks vs =>
    obtain ⟨⟨es, c, h1, h2, h3, h4, h5⟩, h6, h7⟩ := h
    have hb := hb _ rfl
    exact ⟨⟨es, c, by rw [hρ.1, hb.1]; exact h1, h2, h3, fun i d e hd he => vr d _ (h4 i d e hd he), fun i d e hd he => vr d _ (h5 i d e hd he)⟩, by rw [hρ.1]; exact h6, by rw [hρ.1, hb.2]; exact h7⟩

/-- An object of one block is written, in its block. -/
theorem Rel.writeObj {F : Fz} {ρ ρ' : Gh} {σ : St} {a : Act} {w : World} (h : Rel P β F ρ σ a w) {id g : Nat} {obj : Obj} {cur cur' : Array Value} {e : TypeId} {fr : Nat × Nat} (hb : blkOf ρ id (σ.H id) = some g)
    (hg : w.heap[g]? = some (.cells cur e fr)) (hown : β.own g) (hpre : ∀ o, o < F g → cur'[o]? = cur[o]?) {k : Nat} (hk : F g ≤ k) (hρ : ∀ i, i ≠ id → ρ'.blk i = ρ.blk i ∧ ρ'.hd i = ρ.hd i) (hb' : blkOf ρ' id obj = some g)
    (tr : ∀ c v, AVR P β F ρ σ.H w c v → AVR P β (upd F g k) ρ' (upd σ.H id obj) (w.setRow g cur') c v) (ho : ORel P β (upd F g k) ρ' (upd σ.H id obj) (w.setRow g cur') id obj) (hbk : ρ'.blk = ρ.blk := by rfl) :
    Rel P β (upd F g k) ρ' (σ.setH id obj) a (w.setRow g cur') := by
  have hE := ext_row (F := F) hg hpre
  refine ⟨⟨fun i => ?_, fun i j b hne h1 h2 => ?_, wf_row h.h.wf hg k, h.h.wf0, kept_row h.h.kept hg hown hpre hk, fun i hi => by rw [hbk]; exact h.h.fx i hi⟩, fun i => tr _ _ (h.tm i), h.df, h.nn⟩
  · by_cases hi : i = id
    · subst hi
      simp only [St.setH, upd_same]
      exact ho
    · simp only [St.setH, upd_ne _ _ hi]
      refine (h.h.ob i).move tr (fun d v hd => hd.mono hE (le_upd hk)) (hρ i hi) (fun b hbi => ?_)
      have hne : b ≠ g := by rintro rfl; exact h.h.dj i id b hi hbi hb
      exact ⟨setRow_other w g b cur' hne, upd_ne _ _ hne⟩
  · simp only [St.setH] at h1 h2
    by_cases hi : i = id
    · subst hi
      have hj : j ≠ i := fun e => hne e.symm
      rw [upd_same, hb'] at h1
      rw [upd_ne _ _ hj, blkOf_other (hρ j hj)] at h2
      cases h1
      exact h.h.dj j i g hj h2 hb
    · rw [upd_ne _ _ hi, blkOf_other (hρ i hi)] at h1
      by_cases hj : j = id
      · subst hj
        rw [upd_same, hb'] at h2
        cases h2
        exact h.h.dj i j g hi h1 hb
      · rw [upd_ne _ _ hj, blkOf_other (hρ j hj)] at h2
        exact h.h.dj i j b hne h1 h2

/-! ### A store -/
def splice {α : Type} (l : List α) (k : Nat) (m : List α) : List α := l.take k ++ m ++ l.drop (k + m.length)

theorem splice_get {α : Type} {l m : List α} {k : Nat} (h : k + m.length ≤ l.length) (i : Nat) : (splice l k m)[i]? = if k ≤ i ∧ i < k + m.length then m[i - k]? else l[i]? := by
  unfold splice
  rw [List.append_assoc, List.getElem?_append]
  have ht : (l.take k).length = k := by rw [List.length_take]; omega
  rw [ht]
  by_cases h1 : i < k
  · rw [if_pos h1, if_neg (by omega), List.getElem?_take, if_pos h1]
  · rw [if_neg h1, List.getElem?_append]
    by_cases h2 : i - k < m.length
    · rw [if_pos h2, if_pos (by omega)]
    · rw [if_neg h2, if_neg (by omega), List.getElem?_drop]
      congr 1
      omega
theorem splice_length {α : Type} {l m : List α} {k : Nat} (h : k + m.length ≤ l.length) : (splice l k m).length = l.length := by
  unfold splice
  simp
  omega
theorem splice_mem {α : Type} {l m : List α} {k : Nat} {x : α} (h : x ∈ splice l k m) : x ∈ l ∨ x ∈ m := by
  unfold splice at h
  simp only [List.mem_append] at h
  rcases h with (h | h) | h
  · exact .inl (List.mem_of_mem_take h)
  · exact .inr h
  · exact .inl (List.mem_of_mem_drop h)

theorem run_storeAt_row {w : World} {t n b k : Nat} {v : Value} {cur : Array Value} {e : TypeId} (ht : SizeT P t n) (hg : w.heap[b]? = some (.cells cur e (0, 0))) (hv : v.cells.size = n) (hk : k + n ≤ cur.size) (h1 : ∀ x ∈ v.cells.toList, x.oneCell' = true) :
    (Instr.storeAt t (.pointer (some ⟨b, k, none⟩)) v).run P w = .ok () (w.setRow b (splice cur.toList k v.cells.toList).toArray) := by
  have := run_storeCells_at (P := P) b k e v.cells.toList 0 cur w hg (by simp; omega) h1
  simp only [Nat.add_zero] at this
  simp [Instr.storeAt, Instr.sureAddr, storeVar, run_sizeOf ht, hv, this, splice]

theorem s_store_box {σ : St} {o : Oper} {t id k n : Nat} {x y : Operand} {cs cs' : List AVal} (ho : o.op = .store t x y) (hd : o.dst = none) (hx : aev σ x = .box id k) (hH : σ.H id = .box cs) (hv : (aev σ y).isVal = true) (ht : SizeT P t n) (hn : (aev σ y).cells.length = n)
    (hk : k + n ≤ cs.length) (hc : splice cs k (aev σ y).cells = cs') : SStep P β σ o (σ.setH id (.box cs')) := by
  subst hc
  intro F ρ a w hr
  have h1 := hr.ev x
  rw [hx] at h1
  obtain ⟨c1, c2, c3⟩ := (hr.ev y).cells hv
  generalize hvx : a.eval x = vx at h1
  cases h1
  have hob := hr.h.ob id
  rw [hH] at hob
  obtain ⟨⟨vs, e, g1, g2, g3, g4⟩, g5, g6⟩ := hob
  have hone : ∀ z ∈ (a.eval y).cells.toList, z.oneCell' = true := by
    intro z hz
    obtain ⟨i, hi⟩ := List.getElem?_of_mem hz
    have hil := (List.getElem?_eq_some_iff.1 hi).1
    have hil' : i < (aev σ y).cells.length := by rw [← c1]; simpa using hil
    have hci : (aev σ y).cells[i]? = some (aev σ y).cells[i] := List.getElem?_eq_getElem hil'
    exact (c3 i _ z hci (by simpa using hi)).oneCell (c2 _ (List.getElem_mem hil'))
  have hrun := run_storeAt_row (w := w) (t := t) (b := ρ.blk id) (k := k) ht g1 (c1.trans hn) (by omega) hone
  have hrun' : (execOp a.eval o).run P w = .ok .skip (w.setRow (ρ.blk id) (splice vs.toList k (a.eval y).cells.toList).toArray) := by
    simp only [execOp, ho, hvx, Sem.run_bind, hrun, Result.andThen_ok, Sem.run_pure]
  unfold goes
  rw [hrun', hd]
  have hF0 : F (ρ.blk id) ≤ 0 := by omega
  have hpre : ∀ o, o < F (ρ.blk id) → (splice vs.toList k (a.eval y).cells.toList).toArray[o]? = vs[o]? := by intro o ho; omega
  have hlen1 : k + (a.eval y).cells.toList.length ≤ vs.toList.length := by simp; omega
  have hlen2 : k + (aev σ y).cells.length ≤ cs.length := by omega
  refine ⟨upd F (ρ.blk id) 0, ρ, ?_⟩
  have htr : ∀ c v, AVR P β F ρ σ.H w c v → AVR P β (upd F (ρ.blk id) 0) ρ (upd σ.H id (.box (splice cs k (aev σ y).cells))) (w.setRow (ρ.blk id) (splice vs.toList k (a.eval y).cells.toList).toArray) c v := by
    intro c v hcv
    refine AVR.congrH (fun i mu sz e l hi => ?_) (hcv.grow (ext_row g1 hpre) (le_upd hF0))
    by_cases hid : i = id
    · subst hid; rw [upd_same] at hi; cases hi
    · rwa [upd_ne _ _ hid] at hi
  have := hr.writeObj (ρ' := ρ) (id := id) (obj := .box (splice cs k (aev σ y).cells)) (by rw [hH]; rfl) g1 g5 hpre hF0 (fun _ _ => ⟨rfl, rfl⟩) rfl htr
    ⟨⟨(splice vs.toList k (a.eval y).cells.toList).toArray, e, setRow_heap w _ _ _ _ _ g1, ?_, ?_, ?_⟩, g5, by rw [upd_same]⟩
  · simpa [Act.put] using this
  · rw [List.size_toArray, splice_length hlen1, splice_length hlen2]
    simpa using g2
  · intro c hc
    rcases splice_mem hc with hc | hc
    · exact g3 c hc
    · exact c2 c hc
  · intro i c v hc hv
    rw [splice_get hlen2] at hc
    rw [List.getElem?_toArray, splice_get hlen1] at hv
    have hll : (a.eval y).cells.toList.length = (aev σ y).cells.length := by simpa using c1
    rw [hll] at hv
    split at hc
    · rename_i hi
      rw [if_pos hi] at hv
      exact htr _ _ (c3 _ c v hc (by simpa using hv))
    · rename_i hi
      rw [if_neg hi] at hv
      exact htr _ _ (g4 i c v hc (by simpa using hv))

end Go.Q
