/- The rules of a program logic over abstract states, fourth part: operations that turn the state: variables, stores, appends. No condition. -/
import Derived.Test.YtkfcpnaiimcjeaaDoorQMem
import Derived.Laws.AppendOwn
set_option linter.unusedVariables false
set_option linter.unusedSimpArgs false
namespace Go.Q
open Go.RowKit
variable {P : Program} {β : Base}

/-! ### No reference to an object -/
mutual
def AVal.noRef (id : Nat) : AVal → Bool
  | .agg l => noRefL id l
  | .box i _ => i != id
  | .asl i _ => i != id
  | .el i _ _ => i != id
  | .clo _ l => noRefL id l
  | .tup l => noRefL id l
  | .mp i => i != id
  | _ => true
def noRefL (id : Nat) : List AVal → Bool
  | [] => true
  | c :: l => c.noRef id && noRefL id l
end
def Obj.noRef (id : Nat) : Obj → Bool
  | .box cs => noRefL id cs
  | _ => true

theorem noRefL_get {id : Nat} : ∀ {l : List AVal} (h : noRefL id l = true) (i : Nat) (c : AVal), l[i]? = some c → c.noRef id = true
  | [], _, i, c, hc => by simp at hc
  | x :: l, h, 0, c, hc => by
    simp at hc; subst hc
    simp only [noRefL, Bool.and_eq_true] at h
    exact h.1
  | x :: l, h, i + 1, c, hc => by
    simp at hc
    simp only [noRefL, Bool.and_eq_true] at h
    exact noRefL_get h.2 i c hc

theorem AVR.other {F : Fz} {ρ ρ' : Gh} {H H' : Nat → Obj} {w : World} {id : Nat} (hH : ∀ i, i ≠ id → H' i = H i) (hρ : ∀ i, i ≠ id → ρ'.blk i = ρ.blk i ∧ ρ'.hd i = ρ.hd i) {c : AVal} {v : Value} (h : AVR P β F ρ H w c v) :
    c.noRef id = true → AVR P β F ρ' H' w c v := by
  induction h with
  | junk v => intro _; exact .junk v
  | d x v h => intro _; exact .d x v h
  | agg l vs hl hc h ih =>
    intro hn
    exact .agg l vs hl hc (fun i c v h1 h2 => ih i c v h1 h2 (noRefL_get (by simpa [AVal.noRef] using hn) i c h1))
  | box i off =>
    intro hn
    have : i ≠ id := by simpa [AVal.noRef] using hn
    rw [← (hρ i this).1]
    exact .box i off
  | asl i n v h1 h =>
    intro hn
    have : i ≠ id := by simpa [AVal.noRef] using hn
    refine .asl i n v h1 (fun mu sz e l he => ?_)
    rw [hH i this] at he
    rw [(hρ i this).2]
    exact h mu sz e l he
  | el i n k v h1 h =>
    intro hn
    have : i ≠ id := by simpa [AVal.noRef] using hn
    refine .el i n k v h1 (fun mu sz e l he => ?_)
    rw [hH i this] at he
    rw [(hρ i this).2]
    exact h mu sz e l he
  | nil => intro _; exact .nil
  | lit sz l a h => intro _; exact .lit sz l a h
  | clo f caps vs hl h ih =>
    intro hn
    exact .clo f caps vs hl (fun i c v h1 h2 => ih i c v h1 h2 (noRefL_get (by simpa [AVal.noRef] using hn) i c h1))
  | fnv p v h1 h => intro _; exact .fnv p v h1 h
  | tup l vs hl h ih =>
    intro hn
    exact .tup l vs hl (fun i c v h1 h2 => ih i c v h1 h2 (noRefL_get (by simpa [AVal.noRef] using hn) i c h1))
  | mp i =>
    intro hn
    have : i ≠ id := by simpa [AVal.noRef] using hn
    rw [← (hρ i this).1]
    exact .mp i

theorem blkOf_other {ρ ρ' : Gh} {i : Nat} (hρ : ρ'.blk i = ρ.blk i ∧ ρ'.hd i = ρ.hd i) (o : Obj) : blkOf ρ' i o = blkOf ρ i o := by
  cases o <;> simp [blkOf, hρ.1, hρ.2]

theorem ORel.other {F : Fz} {ρ ρ' : Gh} {H H' : Nat → Obj} {w : World} {id i : Nat} (hi : i ≠ id) (hH : ∀ i, i ≠ id → H' i = H i) (hρ : ∀ i, i ≠ id → ρ'.blk i = ρ.blk i ∧ ρ'.hd i = ρ.hd i) {o : Obj} (hn : o.noRef id = true)
    (h : ORel P β F ρ H w i o) : ORel P β F ρ' H' w i o := by
  have hb := hρ i hi
  cases o with
  | dead => trivial
  | box cs =>
    obtain ⟨⟨vs, e, h1, h2, h3, h4⟩, h5, h6⟩ := h
    refine ⟨⟨vs, e, by rw [hb.1]; exact h1, h2, h3, fun j c v hc hv => (h4 j c v hc hv).other hH hρ (noRefL_get hn j c hc)⟩, by rw [hb.1]; exact h5, by rw [hb.1]; exact h6⟩
  | arr mu sz e l =>
    obtain ⟨h0, h1, h2, xs, h3, h4, h5⟩ := h
    exact ⟨h0, h1, h2, xs, by rw [hb.2]; exact h3, h4, by rw [hb.2]; exact h5⟩
  | map ks vs =>
    obtain ⟨⟨es, c, h1, h2, h3, h4, h5⟩, h6, h7⟩ := h
    exact ⟨⟨es, c, by rw [hb.1]; exact h1, h2, h3, h4, h5⟩, by rw [hb.1]; exact h6, by rw [hb.1]; exact h7⟩

/-- A new object takes the place of one that nothing refers to. -/
theorem Rel.setObj {F : Fz} {ρ ρ' : Gh} {σ : St} {a : Act} {w : World} {id : Nat} {obj : Obj} (h : Rel P β F ρ σ a w) (hρ : ∀ i, i ≠ id → ρ'.blk i = ρ.blk i ∧ ρ'.hd i = ρ.hd i)
    (he : ∀ i, (σ.env i).noRef id = true) (hh : ∀ i, (σ.H i).noRef id = true) (ho : ORel P β F ρ' (upd σ.H id obj) w id obj)
    (hd : ∀ i b, i ≠ id → blkOf ρ i (σ.H i) = some b → blkOf ρ' id obj = some b → False) (hfx : β.fx id = true → ρ'.blk id = ρ.blk id := by exact fun _ => rfl) : Rel P β F ρ' (σ.setH id obj) a w := by
  have hH : ∀ i, i ≠ id → (upd σ.H id obj) i = σ.H i := fun i hi => upd_ne _ _ hi
  refine ⟨⟨fun i => ?_, fun i j b hne h1 h2 => ?_, h.h.wf, h.h.wf0, h.h.kept, fun i hi => by
    by_cases hid : i = id
    · subst hid; rw [hfx hi]; exact h.h.fx i hi
    · rw [(hρ i hid).1]; exact h.h.fx i hi⟩, fun i => (h.tm i).other hH hρ (he i), h.df, h.nn⟩
  · by_cases hi : i = id
    · subst hi
      simp only [St.setH, upd_same]
      exact ho
    · simp only [St.setH, hH i hi]
      exact (h.h.ob i).other hi hH hρ (hh i)
  · simp only [St.setH] at h1 h2
    by_cases hi : i = id
    · subst hi
      have hj : j ≠ i := fun e => hne e.symm
      rw [upd_same] at h1
      rw [hH j hj, blkOf_other (hρ j hj)] at h2
      exact hd j b hj h2 h1
    · rw [hH i hi, blkOf_other (hρ i hi)] at h1
      by_cases hj : j = id
      · subst hj
        rw [upd_same] at h2
        exact hd i b hi h1 h2
      · rw [hH j hj, blkOf_other (hρ j hj)] at h2
        exact h.h.dj i j b hne h1 h2

theorem kept_alloc {w : World} {F : Fz} (o : Go.Obj) : Kept noM w F (w.alloc o) F :=
  ⟨rfl, rfl, rfl, by simp, fun b hb _ => ⟨Below.heap_alloc _ _ _ hb, rfl⟩, fun _ _ h => h.elim⟩
theorem wf_alloc {w : World} {F : Fz} (h : WF F w) (o : Go.Obj) : WF F (w.alloc o) := fun b hb => h b (by simp at hb; omega)

/-! ### Values and their cells -/
def AVal.isVal : AVal → Bool
  | .junk | .tup _ => false
  | _ => true

theorem AVR.cells {F : Fz} {ρ : Gh} {H : Nat → Obj} {w : World} {c : AVal} {v : Value} (h : AVR P β F ρ H w c v) (hv : c.isVal = true) :
    v.cells.size = c.cells.length ∧ (∀ x ∈ c.cells, x.isCell = true) ∧ (∀ (i : Nat) (x : AVal) (y : Value), c.cells[i]? = some x → v.cells[i]? = some y → AVR P β F ρ H w x y) := by
  have one : c.isCell = true → c.cells = [c] → v.cells.size = c.cells.length ∧ (∀ x ∈ c.cells, x.isCell = true) ∧ (∀ (i : Nat) (x : AVal) (y : Value), c.cells[i]? = some x → v.cells[i]? = some y → AVR P β F ρ H w x y) := by
    intro h1 h2
    have h3 := h.oneCell h1
    have h4 : v.cells = #[v] := by cases v <;> first | rfl | cases h3
    rw [h2, h4]
    refine ⟨rfl, by simpa using h1, fun i x y hx hy => ?_⟩
    cases i with
    | zero => simp at hx hy; subst hx; subst hy; exact h
    | succ i => simp at hx
  cases h with
  | junk v => cases hv
  | tup => cases hv
  | d x v h =>
    cases x with
    | agg l =>
      cases h with
      | agg _ vs hl hc h =>
        refine ⟨by simp [Value.cells, AVal.cells, hl], ?_, ?_⟩
        · intro x hx
          obtain ⟨d, hd, rfl⟩ := List.mem_map.1 hx
          have := hc d hd
          cases d <;> first | rfl | cases this
        · intro i x y hx hy
          simp only [AVal.cells, List.getElem?_map] at hx
          cases hq : l[i]? with
          | none => simp [hq] at hx
          | some d =>
            simp [hq] at hx; subst hx
            exact .d _ _ (h i d y hq (by simpa [Value.cells] using hy))
    | _ => exact one rfl rfl
  | agg l vs hl hc h => exact ⟨by simp [Value.cells, AVal.cells, hl], hc, fun i x y hx hy => h i x y hx (by simpa [Value.cells] using hy)⟩
  | _ => exact one rfl rfl

/-! ### A new variable -/
def Gh.setBlk (ρ : Gh) (id b : Nat) : Gh := ⟨upd ρ.blk id b, ρ.hd⟩
def Gh.setHd (ρ : Gh) (id : Nat) (v : Value) : Gh := ⟨ρ.blk, upd ρ.hd id v⟩

theorem Rel.newBox {F : Fz} {ρ : Gh} {σ : St} {a : Act} {w : World} (h : Rel P β F ρ σ a w) {id : Nat} {cs : List AVal} {vs : Array Value} (e : TypeId) (hx : β.fx id = false)
    (he : ∀ i, (σ.env i).noRef id = true) (hh : ∀ i, (σ.H i).noRef id = true) (hc : noRefL id cs = true) (hl : vs.size = cs.length) (h1 : ∀ c ∈ cs, c.isCell = true)
    (hv : ∀ (i : Nat) (c : AVal) (v : Value), cs[i]? = some c → vs[i]? = some v → AVR P β F ρ σ.H w c v) : Rel P β F (ρ.setBlk id w.heap.size) (σ.setH id (.box cs)) a (w.alloc (.cells vs e (0, 0))) := by
  have hk : Kept noM w F (w.alloc (.cells vs e (0, 0))) F := kept_alloc _
  have hg := h.grow hk (wf_alloc h.h.wf _)
  have hρ : ∀ i, i ≠ id → (ρ.setBlk id w.heap.size).blk i = ρ.blk i ∧ (ρ.setBlk id w.heap.size).hd i = ρ.hd i := fun i hi => ⟨upd_ne _ _ hi, rfl⟩
  refine hg.setObj hρ he hh ⟨⟨vs, e, ?_, hl, h1, fun i c v hc' hv' => ?_⟩, .inl ?_, ?_⟩ ?_ (fun h => by rw [hx] at h; cases h)
  · simp only [Gh.setBlk, upd_same]
    exact heap_alloc_new w _
  · exact ((hv i c v hc' hv').grow (hk.ext h.h.wf) (fun _ => Nat.le_refl _)).other (fun i hi => upd_ne _ _ hi) hρ (noRefL_get hc i c hc')
  · simp only [Gh.setBlk, upd_same]
    exact h.h.kept.size
  · simp only [Gh.setBlk, upd_same]
    exact h.h.wf _ (Nat.le_refl _)
  · intro i b hi h2 h3
    simp only [blkOf, Gh.setBlk, upd_same, Option.some.injEq] at h3
    subst h3
    have := (h.h.ob i).lt h2
    omega

def NoRefE (id : Nat) (e : Nat → AVal) : Prop := ∀ i, (e i).noRef id = true
def NoRefH (id : Nat) (H : Nat → Obj) : Prop := ∀ i, (H i).noRef id = true
theorem noRefE0 {id : Nat} : NoRefE id env0 := fun _ => rfl
theorem noRefH0 {id : Nat} : NoRefH id H0 := fun _ => rfl
theorem noRefE_upd {id t : Nat} {e : Nat → AVal} {v : AVal} (hv : v.noRef id = true) (h : NoRefE id e) : NoRefE id (upd e t v) := by
  intro i
  by_cases hi : i = t
  · subst hi; rw [upd_same]; exact hv
  · rw [upd_ne _ _ hi]; exact h i
theorem noRefH_upd {id t : Nat} {e : Nat → Obj} {v : Obj} (hv : v.noRef id = true) (h : NoRefH id e) : NoRefH id (upd e t v) := by
  intro i
  by_cases hi : i = t
  · subst hi; rw [upd_same]; exact hv
  · rw [upd_ne _ _ hi]; exact h i

theorem s_box {σ : St} {o : Oper} {t : TypeId} {x : Operand} {dst id : Nat} {cs : List AVal} (ho : o.op = .box t x) (hd : o.dst = some dst) (hn : dst < β.n) (hv : (aev σ x).isVal = true) (hc : (aev σ x).cells = cs) (hx0 : β.fx id = false)
    (h1 : NoRefE id σ.env) (h2 : NoRefH id σ.H) (h3 : noRefL id cs = true) : SStep P β σ o ((σ.setH id (.box cs)).put dst (.box id 0)) := by
  subst hc
  intro F ρ a w hr
  have hx := hr.ev x
  obtain ⟨c1, c2, c3⟩ := hx.cells hv
  have hrun : (execOp a.eval o).run P w = .ok (.value (.pointer (some ⟨w.heap.size, 0, none⟩))) (w.alloc (.cells (a.eval x).cells t (0, 0))) := by
    simp [execOp, ho, Instr.box, newVar, newRow, newObj, Sem.run]
  unfold goes
  rw [hrun, hd]
  refine ⟨F, ρ.setBlk id w.heap.size, (hr.newBox t hx0 h1 h2 h3 c1 c2 c3).put hn ?_⟩
  have := AVR.box (P := P) (β := β) (F := F) (ρ := ρ.setBlk id w.heap.size) (H := (σ.setH id (.box (aev σ x).cells)).H) (w := w.alloc (.cells (a.eval x).cells t (0, 0))) id 0
  simpa [Gh.setBlk, upd_same] using this

theorem s_alloc {σ : St} {o : Oper} {t : TypeId} {dst id : Nat} {zs : List Value} {cs : List AVal} (ho : o.op = .alloc t) (hd : o.dst = some dst) (hn : dst < β.n) (hz : ZeroT P t zs) (hz1 : zs.all (fun v => v.oneCell') = true) (hc : zs.map constC = cs) (hx0 : β.fx id = false)
    (h1 : NoRefE id σ.env) (h2 : NoRefH id σ.H) (h3 : noRefL id cs = true) : SStep P β σ o ((σ.setH id (.box cs)).put dst (.box id 0)) := by
  subst hc
  intro F ρ a w hr
  obtain ⟨z, hz1', hz2, hz3⟩ := hz
  have hrun : (execOp a.eval o).run P w = .ok (.value (.pointer (some ⟨w.heap.size, 0, none⟩))) (w.alloc (.cells z.cells t (0, 0))) := by
    simp [execOp, ho, Instr.alloc, newVar, newRow, newObj, Sem.run, run_zeroValue hz1']
  unfold goes
  rw [hrun, hd]
  refine ⟨F, ρ.setBlk id w.heap.size, (hr.newBox t hx0 h1 h2 h3 (by rw [hz2]; simp) ?_ ?_).put hn ?_⟩
  · intro c hc
    obtain ⟨v, hv, rfl⟩ := List.mem_map.1 hc
    exact constC_isCell (List.all_eq_true.1 hz1 v hv)
  · intro i c v hc hv
    rw [hz2] at hv
    rw [List.getElem?_map] at hc
    have hv : zs[i]? = some v := by simpa using hv
    rw [hv] at hc
    cases hc
    exact constC_rel v
  · have := AVR.box (P := P) (β := β) (F := F) (ρ := ρ.setBlk id w.heap.size) (H := (σ.setH id (.box (zs.map constC))).H) (w := w.alloc (.cells z.cells t (0, 0))) id 0
    simpa [Gh.setBlk, upd_same] using this

end Go.Q
