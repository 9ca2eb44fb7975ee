/- The rules of a program logic over abstract states, thirteenth part: structs and slices written out. No condition. -/
import Derived.Test.YtkfcpnaiimcjeaaDoorQMake
set_option linter.unusedVariables false
set_option linter.unusedSimpArgs false
namespace Go.Q
open Go.RowKit
variable {P : Program} {β : Base}

theorem g_bcmp {H : Nat → Obj} {o : Oper} {ev : Operand → AVal} {op : BinOp} {t t' : TypeId} {x y : Operand} {a b r : Bool} (ho : o.op = .binOp op t x y t') (hx : ev x = .d (.s (.bool a))) (hy : ev y = .d (.s (.bool b))) (ht : P.underlying t = some .bool) (hr : (match op with | .eql => some (a == b) | .neq => some (!(a == b)) | _ => none) = some r) : GStep P β H o ev (.d (.s (.bool r))) :=
  g_bin ho hx hy rfl (by simp) rfl fun w => by
    have h1 : ∀ n, (Op.equalIn (n + 1) t (.bool a) (.bool b)).run P w = .ok (a == b) w := by
      intro n
      simp only [Op.equalIn, Sem.run_bind, run_underlying ht, Result.andThen_ok, Sem.run_pure]
    have h2 : (Op.equal t (.bool a) (.bool b)).run P w = .ok (a == b) w := h1 9999
    cases op <;> simp only [Option.some.injEq, reduceCtorEq] at hr <;> subst hr <;> simp only [binOp, Sem.run_bind, h2, Result.andThen_ok, Sem.run_pure]

theorem foldl_set (off : Nat) : ∀ (vs : List Value) (k : Nat) (cs : List Value), off + k + vs.length ≤ cs.length → (vs.zipIdx k).foldl (fun (c : Array Value) (p : Value × Nat) => c.setIfInBounds (off + p.2) p.1) cs.toArray = (splice cs (off + k) vs).toArray
  | [], k, cs, _ => by simp [splice]
  | v :: vs, k, cs, h => by
    simp only [List.length_cons] at h
    rw [List.zipIdx_cons, List.foldl_cons]
    have h1 : cs.toArray.setIfInBounds (off + k) v = (cs.set (off + k) v).toArray := by simp
    rw [h1, foldl_set off vs (k + 1) _ (by simp; omega)]
    congr 1
    apply List.ext_getElem?
    intro i
    rw [splice_get (by simp; omega), splice_get (by simp; omega), List.getElem?_set]
    simp only [List.length_cons]
    by_cases h2 : i = off + k
    · subst h2
      rw [if_neg (by omega), if_pos (by omega)]
      simp; omega
    · by_cases h3 : off + (k + 1) ≤ i ∧ i < off + (k + 1) + vs.length
      · rw [if_pos h3, if_pos (by omega)]
        rw [show i - (off + k) = i - (off + (k + 1)) + 1 by omega]
        simp
      · rw [if_neg h3, if_neg (by omega), if_neg (by omega)]

def fillA (place : Nat → Option (Nat × Nat)) : List AVal → List (Nat × AVal) → Option (List AVal)
  | cells, [] => some cells
  | cells, (i, v) :: rest => match place i with
    | none => none
    | some (off, size) => if v.isVal && Nat.beq v.cells.length size && Nat.ble (off + size) cells.length then fillA place (splice cells off v.cells) rest else none

theorem fill_rel {F : Fz} {ρ : Gh} {H : Nat → Obj} {w : World} (place : Nat → Option (Nat × Nat)) : ∀ (ps : List (Nat × AVal)) (qs : List (Nat × Value)) (cs r : List AVal) (vs : List Value), vs.length = cs.length → (∀ c ∈ cs, c.isCell = true) → (∀ (i : Nat) (c : AVal) (v : Value), cs[i]? = some c → vs[i]? = some v → AVR P β F ρ H w c v) →
    ps.length = qs.length → (∀ (i : Nat) (p : Nat × AVal) (q : Nat × Value), ps[i]? = some p → qs[i]? = some q → p.1 = q.1 ∧ AVR P β F ρ H w p.2 q.2) → fillA place cs ps = some r →
    ∃ us : List Value, Instr.fill place vs.toArray qs = some us.toArray ∧ us.length = r.length ∧ (∀ c ∈ r, c.isCell = true) ∧ (∀ (i : Nat) (c : AVal) (v : Value), r[i]? = some c → us[i]? = some v → AVR P β F ρ H w c v)
  | [], [], cs, r, vs, hl, hc, hv, _, _, hf => by
    simp [fillA] at hf
    subst hf
    exact ⟨vs, rfl, hl, hc, hv⟩
  | p :: ps, q :: qs, cs, r, vs, hl, hc, hv, hpl, hpq, hf => by
    obtain ⟨i, c⟩ := p
    obtain ⟨i', v⟩ := q
    obtain ⟨h1, h2⟩ := hpq 0 (i, c) (i', v) rfl rfl
    simp only at h1 h2
    subst h1
    simp only [fillA] at hf
    cases hp : place i with
    | none => rw [hp] at hf; cases hf
    | some os =>
      obtain ⟨off, size⟩ := os
      rw [hp] at hf
      simp only at hf
      split at hf
      · rename_i hcond
        simp only [Bool.and_eq_true, Nat.ble_eq, Nat.beq_eq] at hcond
        obtain ⟨⟨hval, hsz⟩, hle⟩ := hcond
        obtain ⟨c1, c2, c3⟩ := h2.cells hval
        have hvl : v.cells.toList.length = c.cells.length := by simpa using c1
        have hsp1 : off + c.cells.length ≤ cs.length := by omega
        have hsp2 : off + v.cells.toList.length ≤ vs.length := by omega
        obtain ⟨us, e1, e2, e3, e4⟩ := fill_rel place ps qs (splice cs off c.cells) r (splice vs off v.cells.toList) (by rw [splice_length hsp1, splice_length hsp2, hl]) (fun x hx => by
          rcases splice_mem hx with hx | hx
          · exact hc x hx
          · exact c2 x hx) (fun j x y hx hy => by
          rw [splice_get hsp1] at hx
          rw [splice_get hsp2, hvl] at hy
          split at hx
          · rename_i hj; rw [if_pos hj] at hy; exact c3 _ x y hx (by simpa using hy)
          · rename_i hj; rw [if_neg hj] at hy; exact hv j x y hx hy) (by simpa using hpl) (fun j p q hp hq => hpq (j + 1) p q (by simpa using hp) (by simpa using hq)) hf
        refine ⟨us, ?_, e2, e3, e4⟩
        have hfold := foldl_set off v.cells.toList 0 vs (by simpa using hsp2)
        simp only [Instr.fill, hp]
        rw [if_neg (by simp; omega)]
        rw [← e1]
        congr 1
        rw [Nat.add_zero] at hfold
        rw [← hfold]
        rw [← Array.foldl_toList, Array.toList_zipIdx]
      · cases hf
  | [], _ :: _, _, _, _, _, _, _, h, _, _ => by simp at h
  | _ :: _, [], _, _, _, _, _, _, h, _, _ => by simp at h

/-- What a struct type says of its fields' places and its zero value. -/
def BuildT (P : Program) (t : Nat) (places : List (Nat × Nat)) (zs : List Value) : Prop := ∃ it fs z, P.info? t = some it ∧ P.underlying t = some (.struct fs) ∧ it.zero = some z ∧ z.cells = zs.toArray ∧ fs.toList.mapM (fun f => (P.info? f.type).map fun i => (f.offset, i.size)) = some places

theorem BuildT.of {t : Nat} {places : List (Nat × Nat)} {zs : List Value} {fs : Array Field} {z : Value} (h1 : P.underlying t = some (.struct fs)) (h2 : (P.info? t).bind (·.zero) = some z) (h3 : z.cells = zs.toArray) (h4 : fs.toList.mapM (fun f => (P.info? f.type).map fun i => (f.offset, i.size)) = some places) : BuildT P t places zs := by
  cases hq : P.info? t with
  | none => simp [hq] at h2
  | some it => exact ⟨it, fs, z, hq, h1, by simpa [hq] using h2, h3, h4⟩

theorem g_build {H : Nat → Obj} {o : Oper} {ev : Operand → AVal} {t : Nat} {parts : Array (Nat × Operand)} {places : List (Nat × Nat)} {zs : List Value} {ps : List (Nat × AVal)} {cs r : List AVal} {c : AVal} (ho : o.op = .build t parts) (ht : BuildT P t places zs) (hz1 : zs.all (fun v => v.oneCell') = true)
    (hp : parts.toList.map (fun p => (p.1, ev p.2)) = ps) (hcs : zs.map constC = cs) (hf : fillA (places.toArray[·]?) cs ps = some r) (hr : IsA (norm r) c) : GStep P β H o ev c := by
  rw [← hr.eq]
  subst hp
  subst hcs
  refine .val fun F ρ w hrel evc he => ?_
  obtain ⟨it, fs, z, h1, h2, h3, h4, h5⟩ := ht
  obtain ⟨us, e1, e2, e3, e4⟩ := fill_rel (P := P) (β := β) (F := F) (ρ := ρ) (H := H) (w := w) (places.toArray[·]?) (parts.toList.map (fun p => (p.1, ev p.2))) (parts.toList.map (fun p => (p.1, evc p.2))) (zs.map constC) r zs (by simp) (fun c hc => by
      obtain ⟨v, hv, rfl⟩ := List.mem_map.1 hc
      exact constC_isCell (List.all_eq_true.1 hz1 v hv)) (fun i c v hc hv => by
      rw [List.getElem?_map, hv] at hc
      cases hc
      exact constC_rel v) (by simp) (fun i p q hp hq => by
      rw [List.getElem?_map] at hp hq
      cases hx : parts.toList[i]? with
      | none => rw [hx] at hp; cases hp
      | some x =>
        rw [hx] at hp hq
        cases hp
        cases hq
        refine ⟨rfl, he x.2 ?_⟩
        simp only [ho, Op.operands]
        rw [List.mem_toArray]
        exact List.mem_map.2 ⟨x, List.mem_of_getElem? hx, rfl⟩) hf
  have hb : P.built t (parts.map fun (i, x) => (i, evc x)).toList = some us.toArray := by
    simp only [Program.built, h1, h2, h3, h5, h4]
    rw [← e1]
    congr 1
    simp
  refine ⟨.agg us.toArray, ?_, norm_rel e2 e3 e4⟩
  simp only [execOp, ho, Sem.run_bind, run_build w t _ _ hb, Result.andThen_ok, Sem.run_pure]

/-! ### A slice written out -/
theorem fill_dense {sz : Nat} : ∀ (vals : List Value) (k : Nat) (pre rest : List Value), pre.length = k * sz → rest.length = vals.length * sz → (∀ v ∈ vals, v.cells.size = sz) →
    Instr.fill (fun i => some (i * sz, sz)) (pre ++ rest).toArray ((vals.zipIdx k).map fun p => (p.2, p.1)) = some (pre ++ vals.flatMap (·.cells.toList)).toArray
  | [], k, pre, rest, hp, hr, _ => by
    have : rest = [] := List.eq_nil_of_length_eq_zero (by simpa using hr)
    simp [Instr.fill, this]
  | v :: vals, k, pre, rest, hp, hr, hv => by
    have hvs := hv v (by simp)
    simp only [List.length_cons, Nat.succ_mul] at hr
    have hfold := foldl_set (k * sz) v.cells.toList 0 (pre ++ rest) (by simp; omega)
    rw [Nat.add_zero] at hfold
    have hsp : splice (pre ++ rest) (k * sz) v.cells.toList = (pre ++ v.cells.toList) ++ rest.drop sz := by
      unfold splice
      have h1 : List.take (k * sz) (pre ++ rest) = pre := by rw [← hp]; exact List.take_left
      have h2 : List.drop (k * sz + v.cells.toList.length) (pre ++ rest) = rest.drop sz := by
        have hvl : v.cells.toList.length = sz := by simpa using hvs
        rw [hvl, ← hp, List.drop_append]
        simp
      rw [h1, h2]
    rw [hsp] at hfold
    have ih := fill_dense vals (k + 1) (pre ++ v.cells.toList) (rest.drop sz) (by simp [hp, hvs, Nat.succ_mul]) (by simp; omega) (fun u hu => hv u (by simp [hu]))
    simp only [List.zipIdx_cons, List.map_cons, Instr.fill]
    rw [if_neg (by simp; omega)]
    rw [← Array.foldl_toList, Array.toList_zipIdx, hfold, ih]
    simp

theorem zip_parts {parts : Array (Nat × Operand)} {f : Operand → Value} (hd : parts.toList.map (·.1) = List.range parts.toList.length) : (parts.map fun (i, x) => (i, f x)).toList = ((parts.toList.map fun p => f p.2).zipIdx 0).map fun p => (p.2, p.1) := by
  apply List.ext_getElem?
  intro i
  simp only [Array.toList_map, List.getElem?_map, List.getElem?_zipIdx]
  cases hq : parts.toList[i]? with
  | none => simp
  | some p =>
    have h1 := congrArg (fun l => l[i]?) hd
    have hi := (List.getElem?_eq_some_iff.1 hq).1
    simp only [List.getElem?_map, hq, Option.map_some, List.getElem?_range, hi, if_true, Option.some.injEq] at h1
    simp [h1]

/-- What the parts of a slice literal come to. -/
theorem run_buildSlice_dense {w : World} {t e sz by_ : Nat} (ht : ElemT P t e sz by_) (hsz : 0 < sz) {parts : Array (Nat × Operand)} {f : Operand → Value} (hd : parts.toList.map (·.1) = List.range parts.toList.length) (hv : ∀ p ∈ parts.toList, (f p.2).cells.size = sz) (hsmall : parts.toList.length * sz ≤ 16777216) :
    (Instr.buildSlice t parts.toList.length (parts.map fun (i, x) => (i, f x))).run P w = .ok (.slice (some ⟨w.heap.size, 0, none⟩) parts.toList.length parts.toList.length) (w.alloc (.cells ((parts.toList.map fun p => f p.2).flatMap (·.cells.toList)).toArray e)) := by
  obtain ⟨hu, i, z, hi, hz, h1, h2, h3⟩ := ht
  subst h1
  by_cases hn : parts.toList.length = 0
  · have hp : parts = #[] := by simpa using hn
    subst hp
    simp [Instr.buildSlice, run_underlying hu, sizeOf, typeInfo, hi, Instr.fill, newRow, newObj, Sem.run, Array.range_zero']
  · have hpos : ¬ parts.toList.length * i.size = 0 := by
      intro h
      rcases Nat.mul_eq_zero.1 h with h | h <;> omega
    refine run_buildSlice w t e _ _ _ i z hu hi hz (by omega) hpos ?_
    rw [zip_parts hd]
    have := fill_dense (sz := i.size) (parts.toList.map fun p => f p.2) 0 [] ((List.range (parts.toList.length * i.size)).map (z.cells[· % z.cells.size]!)) (by simp) (by simp) (fun v hv' => by
      obtain ⟨p, hp, rfl⟩ := List.mem_map.1 hv'
      exact hv p hp)
    simp only [List.nil_append] at this
    rw [← this]
    congr 1
    apply Array.ext'
    simp [Array.toList_range]

theorem parts_vr {F : Fz} {ρ : Gh} {H : Nat → Obj} {w : World} (hr : RelH P β F ρ H w) {sz : Nat} : ∀ {ps : List Operand} {ev : Operand → AVal} {evc : Operand → Value} {l : List D}, (∀ p ∈ ps, AVR P β F ρ H w (ev p) (evc p)) → (∀ p ∈ ps, (ev p).isVal = true) → RdL H (ps.map ev) l → (∀ d ∈ l, d.cells.length = sz) →
    (∀ p ∈ ps, (evc p).cells.size = sz) ∧ ((ps.map evc).flatMap (·.cells.toList)).length = (flat l).length ∧ (∀ d ∈ flat l, d.isCell = true) ∧ (∀ (i : Nat) (d : D) (v : Value), (flat l)[i]? = some d → ((ps.map evc).flatMap (·.cells.toList))[i]? = some v → VR F w d v)
  | [], ev, evc, l, _, _, hl, _ => by cases hl; simp [flat]
  | p :: ps, ev, evc, l, he, hv, hl, hsz => by
    cases hl with
    | cons h t =>
      rename_i d l
      obtain ⟨i1, i2, i3, i4⟩ := parts_vr hr (fun q hq => he q (by simp [hq])) (fun q hq => hv q (by simp [hq])) t (fun x hx => hsz x (by simp [hx]))
      have hvr := h.sound hr (he p (by simp))
      obtain ⟨c1, c2, c3⟩ := (AVR.d (P := P) (β := β) (ρ := ρ) (H := H) d _ hvr).cells rfl
      have hds := hsz d (by simp)
      have hcl : (AVal.d d).cells = d.cells.map .d := by cases d <;> rfl
      rw [hcl, List.length_map] at c1
      have hlen : (evc p).cells.toList.length = d.cells.length := by simpa using c1
      refine ⟨fun q hq => ?_, ?_, fun x hx => ?_, fun i x v hx hv' => ?_⟩
      · rcases List.mem_cons.1 hq with rfl | hq
        · rw [c1, hds]
        · exact i1 q hq
      · rw [flat_cons, List.map_cons, List.flatMap_cons, List.length_append, List.length_append, hlen, i2]
      · rw [flat_cons, List.mem_append] at hx
        rcases hx with hx | hx
        · have := c2 (.d x) (by rw [hcl]; exact List.mem_map.2 ⟨x, hx, rfl⟩)
          cases x <;> first | rfl | cases this
        · exact i3 x hx
      · rw [flat_cons, List.getElem?_append] at hx
        rw [List.map_cons, List.flatMap_cons, List.getElem?_append, hlen] at hv'
        split at hx
        · rename_i hi
          rw [if_pos hi] at hv'
          have := c3 i (.d x) v (by rw [hcl, List.getElem?_map, hx]; rfl) (by simpa using hv')
          cases this with | d _ _ h => exact h
        · rename_i hi
          rw [if_neg hi] at hv'
          exact i4 _ x v hx hv'

theorem g_buildSlice {H : Nat → Obj} {o : Oper} {ev : Operand → AVal} {t e sz by_ len : Nat} {parts : Array (Nat × Operand)} {l : List D} (ho : o.op = .buildSlice t len parts) (ht : ElemT P t e sz by_) (h0 : Nat.blt 0 sz = true) (hd : parts.toList.map (·.1) = List.range parts.toList.length) (hlen : parts.toList.length = len) (hl : RdL H (parts.toList.map fun p => ev p.2) l)
    (hval : parts.toList.all (fun p => (ev p.2).isVal) = true) (hsz : l.all (fun d => Nat.beq d.cells.length sz) = true) (hsm : Nat.ble (len * sz) 16777216 = true) : GStep P β H o ev (.lit sz l) := by
  subst hlen
  have h0 := lt_of_blt h0
  have hsm := le_of_ble hsm
  have hszp : ∀ d ∈ l, d.cells.length = sz := fun d hd' => Nat.eq_of_beq_eq_true (List.all_eq_true.1 hsz d hd')
  intro F ρ w hr evc he K hK
  obtain ⟨p1, p2, p3, p4⟩ := parts_vr hr (ps := parts.toList.map (·.2)) (ev := ev) (evc := evc) (l := l) (sz := sz) (fun x hx => he x (by
    simp only [ho, Op.operands]; rw [List.mem_toArray]; exact hx)) (fun x hx => by
    obtain ⟨p, hp, rfl⟩ := List.mem_map.1 hx
    exact List.all_eq_true.1 hval p hp) (by simpa [List.map_map, Function.comp_def] using hl) hszp
  have hrun := run_buildSlice_dense (w := w) ht h0 (f := evc) hd (fun p hp => p1 p.2 (List.mem_map.2 ⟨p, hp, rfl⟩)) hsm
  have hll : l.length = parts.toList.length := by have := hl.length; simpa using this.symm
  have hrun' : (execOp evc o).run P w = .ok (.value (.slice (some ⟨w.heap.size, 0, none⟩) parts.toList.length parts.toList.length)) (w.alloc (.cells ((parts.toList.map fun p => evc p.2).flatMap (·.cells.toList)).toArray e)) := by
    simp only [execOp, ho, Sem.run_bind, hrun, Result.andThen_ok, Sem.run_pure]
  unfold goes
  rw [hrun']
  have hmm : (parts.toList.map (·.2)).map evc = parts.toList.map fun p => evc p.2 := by simp [List.map_map, Function.comp_def]
  rw [hmm] at p2 p4
  have hfl := flat_length hszp
  have hk0 : Kept noM w F (w.alloc (.cells ((parts.toList.map fun p => evc p.2).flatMap (·.cells.toList)).toArray e)) F := kept_alloc _
  have hF0 : F w.heap.size = 0 := hr.wf _ (Nat.le_refl _)
  refine hK _ _ (upd F w.heap.size (l.length * sz)) ⟨rfl, rfl, rfl, by simp, fun b hb _ => ⟨Below.heap_alloc _ _ _ hb, upd_ne _ _ (by omega)⟩, fun _ _ h => h.elim⟩ (fun b hb => ?_) ?_
  · simp at hb
    rw [upd_ne _ _ (by omega)]
    exact hr.wf b (by omega)
  · rw [← hll]
    refine .lit sz l _ ?_
    by_cases hne : l = []
    · subst hne; exact .sl0 sz none _ 0 (Nat.zero_le _)
    · refine .sl sz none l _ 0 _ ((parts.toList.map fun p => evc p.2).flatMap (·.cells.toList)) hne h0 hszp p3 (Nat.le_refl _) ?_ ?_ p2 (by rw [upd_same]; omega) (by simp) (fun i d v hd hv => (p4 i d v hd hv).mono (hk0.ext hr.wf) (le_upd (by omega)))
      · have : l.length ≤ l.length * sz := Nat.le_mul_of_pos_right _ h0
        rw [← hll] at hsm
        unfold maxLen; omega
      · have hc := rangeAt_of_array (w := w.alloc (.cells ((parts.toList.map fun p => evc p.2).flatMap (·.cells.toList)).toArray e)) (heap_alloc_new w _) 0 ((parts.toList.map fun p => evc p.2).flatMap (·.cells.toList)).length
        rw [List.drop_zero, List.take_length] at hc
        exact hc

theorem s_buildSlice {σ : St} {o : Oper} {t e sz by_ len dst id : Nat} {parts : Array (Nat × Operand)} {l : List D} (ho : o.op = .buildSlice t len parts) (hdst : o.dst = some dst) (hdn : Nat.blt dst β.n = true) (ht : ElemT P t e sz by_) (h0 : Nat.blt 0 sz = true) (hd : parts.toList.map (·.1) = List.range parts.toList.length) (hlen : parts.toList.length = len)
    (hl : RdL σ.H (parts.toList.map fun p => aev σ p.2) l) (hval : parts.toList.all (fun p => (aev σ p.2).isVal) = true) (hsz : l.all (fun d => Nat.beq d.cells.length sz) = true) (hsm : Nat.ble (len * sz) 16777216 = true) (h1 : NoRefE id σ.env) (h2 : NoRefH id σ.H) :
    SStep P β σ o ((σ.setH id (.arr true sz e l)).put dst (.asl id len)) := by
  subst hlen
  have h0 := lt_of_blt h0
  have hsm := le_of_ble hsm
  have hszp : ∀ d ∈ l, d.cells.length = sz := fun d hd' => Nat.eq_of_beq_eq_true (List.all_eq_true.1 hsz d hd')
  intro F ρ a w hr
  obtain ⟨p1, p2, p3, p4⟩ := parts_vr hr.h (ps := parts.toList.map (·.2)) (ev := aev σ) (evc := a.eval) (l := l) (sz := sz) (fun x _ => hr.ev x) (fun x hx => by
    obtain ⟨p, hp, rfl⟩ := List.mem_map.1 hx
    exact List.all_eq_true.1 hval p hp) (by simpa [List.map_map, Function.comp_def] using hl) hszp
  have hrun := run_buildSlice_dense (w := w) ht h0 (f := a.eval) hd (fun p hp => p1 p.2 (List.mem_map.2 ⟨p, hp, rfl⟩)) hsm
  have hll : l.length = parts.toList.length := by have := hl.length; simpa using this.symm
  have hrun' : (execOp a.eval o).run P w = .ok (.value (.slice (some ⟨w.heap.size, 0, none⟩) parts.toList.length parts.toList.length)) (w.alloc (.cells ((parts.toList.map fun p => a.eval p.2).flatMap (·.cells.toList)).toArray e)) := by
    simp only [execOp, ho, Sem.run_bind, hrun, Result.andThen_ok, Sem.run_pure]
  unfold goes
  rw [hrun', hdst]
  have hmm : (parts.toList.map (·.2)).map a.eval = parts.toList.map fun p => a.eval p.2 := by simp [List.map_map, Function.comp_def]
  rw [hmm] at p2 p4
  have hfl := flat_length hszp
  have hle : l.length ≤ l.length * sz := Nat.le_mul_of_pos_right _ h0
  have hnew := hr.newArr (id := id) (sz := sz) (e := e) (cap := l.length) (l := l) (vs := ((parts.toList.map fun p => a.eval p.2).flatMap (·.cells.toList)).toArray) h0 h1 h2 hszp p3 (Nat.le_refl _) (by unfold maxLen; rw [hll] at hle ⊢; omega) (by rw [List.size_toArray, p2, hfl]) (fun i d v hd hv => p4 i d v hd (by simpa using hv))
  rw [← hll]
  exact ⟨_, _, hnew.put (lt_of_blt hdn) (asl_new rfl rfl)⟩

/-! ### A nil slice that is appended to: an array of the call's own -/
theorem Rel.thaw {F : Fz} {ρ : Gh} {σ : St} {a : Act} {w : World} (h : Rel P β F ρ σ a w) {id : Nat} (sz e : Nat) (h0 : 0 < sz) (h1 : NoRefE id σ.env) (h2 : NoRefH id σ.H) : Rel P β F (ρ.setHd id (.slice none 0 0)) (σ.setH id (.arr true sz e [])) a w := by
  have hρ : ∀ i, i ≠ id → (ρ.setHd id (.slice none 0 0)).blk i = ρ.blk i ∧ (ρ.setHd id (.slice none 0 0)).hd i = ρ.hd i := fun i hi => ⟨rfl, upd_ne _ _ hi⟩
  refine h.setObj hρ h1 h2 ⟨h0, by simp, by simp [flat], [], ⟨by simp, .inl ⟨by simp [Gh.setHd, upd_same], rfl⟩⟩, by simp [flat], ?_⟩ ?_
  · intro g hg
    simp [Gh.setHd, upd_same, Value.ownBlock] at hg
  · intro i b hi h3 h4
    simp [blkOf, Gh.setHd, upd_same, Value.ownBlock] at h4

theorem T_thaw {c : Code} {Q : Exit → St → Prop} {σ : St} (t id sz e : Nat) (ht : σ.env t = .nil) (h0 : Nat.blt 0 sz = true) (h1 : NoRefE id σ.env) (h2 : NoRefH id σ.H) (h : T P β c Q ((σ.setH id (.arr true sz e [])).put t (.asl id 0))) : T P β c Q σ := by
  intro F ρ a w hr
  have hn := hr.thaw sz e (lt_of_blt h0) h1 h2
  refine h F _ a w ⟨hn.h, fun i => ?_, hn.df, hn.nn⟩
  by_cases hi : i = t
  · subst hi
    simp only [St.put, upd_same]
    have h3 := hr.tm i
    rw [ht] at h3
    generalize a.tmps.getD i undef = v at h3
    cases h3
    exact asl_new (σ := σ) rfl rfl
  · simp only [St.put, upd_ne _ _ hi]
    exact hn.tm i

/-- .. in a variable's cell k. -/
theorem T_thawBox {c : Code} {Q : Exit → St → Prop} {σ : St} (bx k id sz e : Nat) {cs : List AVal} (hne : bx ≠ id) (hb : σ.H bx = .box cs) (hk : cs[k]? = some .nil) (h0 : Nat.blt 0 sz = true) (h1 : NoRefE id σ.env) (h2 : NoRefH id σ.H) (h : T P β c Q ((σ.setH id (.arr true sz e [])).setH bx (.box (cs.set k (.asl id 0))))) : T P β c Q σ := by
  intro F ρ a w hr
  have hn := hr.thaw sz e (lt_of_blt h0) h1 h2
  have hb' : (σ.setH id (.arr true sz e [])).H bx = .box cs := by simp only [St.setH, upd_ne _ _ hne]; exact hb
  have hob := hn.h.ob bx
  rw [hb'] at hob
  obtain ⟨⟨xs, e', g1, g2, g3, g4⟩, g5, g6⟩ := hob
  generalize hρ' : ρ.setHd id (.slice none 0 0) = ρ' at *
  have htr : ∀ c v, AVR P β F ρ' (σ.setH id (.arr true sz e [])).H w c v → AVR P β F ρ' (upd (σ.setH id (.arr true sz e [])).H bx (.box (cs.set k (.asl id 0)))) w c v := by
    intro c v hcv
    refine AVR.congrH (fun i mu sz e l hi => ?_) hcv
    by_cases hid : i = bx
    · subst hid; rw [upd_same] at hi; cases hi
    · rwa [upd_ne _ _ hid] at hi
  have hkl := (List.getElem?_eq_some_iff.1 hk).1
  refine h F ρ' a w ⟨⟨fun i => ?_, fun i j b hne' e1 e2 => ?_, hn.h.wf, hn.h.wf0, hn.h.kept, hn.h.fx⟩, fun i => htr _ _ (hn.tm i), hn.df, hn.nn⟩
  · by_cases hi : i = bx
    · subst hi
      rw [show ((σ.setH id (.arr true sz e [])).setH i (.box (cs.set k (.asl id 0)))).H i = .box (cs.set k (.asl id 0)) from by simp [St.setH, upd_same]]
      refine ⟨⟨xs, e', g1, by simpa using g2, fun c hc => ?_, fun j c v hc hx => ?_⟩, g5, g6⟩
      · rcases List.mem_or_eq_of_mem_set hc with hc | rfl
        · exact g3 c hc
        · rfl
      · rw [List.getElem?_set] at hc
        split at hc
        · rename_i hkj
          subst hkj
          cases hc
          have h9 := g4 k .nil v hk hx
          cases h9
          refine htr _ _ ?_
          rw [← hρ']
          exact asl_new (σ := σ) rfl rfl
        · exact htr _ _ (g4 j c v hc hx)
    · rw [show ((σ.setH id (.arr true sz e [])).setH bx (.box (cs.set k (.asl id 0)))).H i = (σ.setH id (.arr true sz e [])).H i from by simp [St.setH, upd_ne _ _ hi]]
      exact (hn.h.ob i).move htr (fun d v hd => hd) ⟨rfl, rfl⟩ (fun b _ => ⟨rfl, rfl⟩)
  · have hbl : ∀ q, blkOf ρ' q (((σ.setH id (.arr true sz e [])).setH bx (.box (cs.set k (.asl id 0)))).H q) = blkOf ρ' q ((σ.setH id (.arr true sz e [])).H q) := by
      intro q
      by_cases hq : q = bx
      · subst hq
        rw [hb']
        simp [St.setH, upd_same, blkOf]
      · rw [show ((σ.setH id (.arr true sz e [])).setH bx (.box (cs.set k (.asl id 0)))).H q = (σ.setH id (.arr true sz e [])).H q from by simp [St.setH, upd_ne _ _ hq]]
    rw [hbl] at e1 e2
    exact hn.h.dj i j b hne' e1 e2

end Go.Q
