/- The rules of a program logic over abstract states, third part: operations that read memory; what a state's value reads as. No condition. -/
import Derived.Test.YtkfcpnaiimcjeaaDoorQOps
import Derived.Laws.Tables
set_option linter.unusedVariables false
set_option linter.unusedSimpArgs false
namespace Go.Q
open Go.RowKit
variable {P : Program} {β : Base} {H : Nat → Obj} {o : Oper} {ev : Operand → AVal}

/-! ### Addresses of fields -/
theorem run_fieldPlace {w : World} {s f off n : Nat} (h : FieldT P s f off n) (b k : Nat) : ∀ fs fl, P.underlying s = some (.struct fs) → fs[f]? = some fl → (fieldPlace ⟨b, k, none⟩ fl).run P w = .ok ⟨b, k + off, none⟩ w := by
  obtain ⟨fs', fl', h1, h2, h3, h4, h5⟩ := h
  intro fs fl e1 e2
  rw [h1] at e1; cases e1
  rw [h2] at e2; cases e2
  unfold fieldPlace
  rw [Sem.run_bind, run_sizeOf h4 w]
  simp only [Result.andThen_ok]
  rw [if_neg (by omega)]
  simp [Addr.add_mid, h3]

theorem run_fieldAt {w : World} {s f off n : Nat} (h : FieldT P s f off n) (b k : Nat) : (Instr.fieldAt s (.pointer (some ⟨b, k, none⟩)) f).run P w = .ok (.pointer (some ⟨b, k + off, none⟩)) w := by
  obtain ⟨fs, fl, h1, h2, h3, h4, h5⟩ := h
  have := run_fieldPlace (w := w) (s := s) (f := f) ⟨fs, fl, h1, h2, h3, h4, h5⟩ b k fs fl h1 h2
  simp [Instr.fieldAt, run_underlying h1, h2, Instr.sureAddr, this]

theorem g_field_box {s f off n id k r : Nat} {x : Operand} (ho : o.op = .fieldAddr s x f) (hx : ev x = .box id k) (hf : FieldT P s f off n) (hr : k + off = r) : GStep P β H o ev (.box id r) := by
  subst hr
  refine .val fun F ρ w hr evc he => ?_
  have h1 := he x (by simp [ho, Op.operands])
  rw [hx] at h1
  generalize hv : evc x = v at h1
  cases h1
  refine ⟨.pointer (some ⟨ρ.blk id, k + off, none⟩), ?_, .box id (k + off)⟩
  simp only [execOp, ho, hv, Sem.run_bind, run_fieldAt hf, Result.andThen_ok, Sem.run_pure]

theorem g_field_pt {s f off n k r : Nat} {l : List D} {x : Operand} (ho : o.op = .fieldAddr s x f) (hx : ev x = .d (.pt l k)) (hf : FieldT P s f off n) (hr : k + off = r) : GStep P β H o ev (.d (.pt l r)) := by
  subst hr
  refine .val fun F ρ w hr evc he => ?_
  have h1 := he x (by simp [ho, Op.operands])
  rw [hx] at h1
  generalize hv : evc x = v at h1
  cases h1 with
  | d _ _ h1 =>
    cases h1 with
    | pt _ _ b o' cs hc hrr hl hF h =>
      refine ⟨.pointer (some ⟨b, o' + (k + off), none⟩), ?_, .d _ _ (.pt l (k + off) b o' cs hc hrr hl hF h)⟩
      simp only [execOp, ho, hv, Sem.run_bind, run_fieldAt hf, Result.andThen_ok, Sem.run_pure, Nat.add_assoc]

theorem g_field_el {s f off n id m k r : Nat} {mu : Bool} {sz e : Nat} {l : List D} {x : Operand} (ho : o.op = .fieldAddr s x f) (hx : ev x = .el id m k) (hH : H id = .arr mu sz e l) (hm : m = l.length) (hf : FieldT P s f off n) (hr : k + off = r) : GStep P β H o ev (.el id m r) := by
  subst hr
  refine .val fun F ρ w hr evc he => ?_
  have h1 := he x (by simp [ho, Op.operands])
  rw [hx] at h1
  generalize hv : evc x = v at h1
  cases h1 with
  | el _ _ _ _ h0 h =>
    obtain ⟨g, hg, rfl⟩ := (h mu sz e l hH).2 hm
    refine ⟨.pointer (some ⟨g, k + off, none⟩), ?_, .el _ _ _ _ rfl ?_⟩
    · simp only [execOp, ho, hv, Sem.run_bind, run_fieldAt hf, Result.andThen_ok, Sem.run_pure]
    · intro mu' sz' e' l' h1
      rw [hH] at h1
      cases h1
      exact ⟨by omega, fun _ => ⟨g, hg, rfl⟩⟩

/-! ### Loads -/
def asD : List AVal → Option (List D)
  | [] => some []
  | .d x :: l => match asD l with
    | some ds => some (x :: ds)
    | none => none
  | _ => none
def norm (l : List AVal) : AVal := match asD l with
  | some ds => .d (.agg ds)
  | none => .agg l

theorem asD_spec : ∀ {l : List AVal} {ds : List D}, asD l = some ds → l = ds.map .d
  | [], ds, h => by simp [asD] at h; subst h; rfl
  | c :: l, ds, h => by
    cases c with
    | d x =>
      simp only [asD] at h
      split at h
      · rename_i ds' h'
        cases h
        rw [asD_spec h']; rfl
      · cases h
    | _ => simp [asD] at h

theorem norm_rel {F : Fz} {ρ : Gh} {w : World} {l : List AVal} {vs : List Value} (hl : vs.length = l.length) (hc : ∀ c ∈ l, c.isCell = true) (h : ∀ (i : Nat) (c : AVal) (v : Value), l[i]? = some c → vs[i]? = some v → AVR P β F ρ H w c v) :
    AVR P β F ρ H w (norm l) (.agg vs.toArray) := by
  unfold norm
  split
  · rename_i ds hds
    have := asD_spec hds
    subst this
    refine .d _ _ (.agg ds vs (by simpa using hl) (fun d hd => ?_) (fun i d v hd hv => ?_))
    · have := hc (.d d) (List.mem_map.2 ⟨d, hd, rfl⟩)
      cases d <;> first | rfl | cases this
    · have := h i (.d d) v (by rw [List.getElem?_map, hd]; rfl) hv
      cases this with | d _ _ h => exact h
  · exact .agg l vs hl hc h

theorem run_loadVar_cell {w : World} {t : TypeId} (ht : CellT P t) {a : Addr} {v : Value} (hv : w.cell? a = some v) : (loadVar t a).run P w = .ok v w := by
  obtain ⟨d, h1, h2, h3⟩ := ht
  unfold loadVar
  rw [Sem.run_bind, run_isAgg h1 w, h2]
  simp [run_load, hv]

theorem run_loadAt_cell {w : World} {t : TypeId} (ht : CellT P t) {a : Addr} {v : Value} (hv : w.cell? a = some v) : (Instr.loadAt t (.pointer (some a))).run P w = .ok v w := by
  simp [Instr.loadAt, Instr.sureAddr, run_loadVar_cell ht hv]

theorem run_loadAt_row {w : World} {t n b k : Nat} (ht : RowT P t n) {cs : List Value} (hl : cs.length = n) (hr : w.rangeAt b k cs) : (Instr.loadAt t (.pointer (some ⟨b, k, none⟩))).run P w = .ok (.agg cs.toArray) w := by
  obtain ⟨d, h1, h2, h3⟩ := ht
  exact run_loadAt_mid w b k t cs d hr h1 h2 (by rw [h3, hl])

theorem cell_of_array {w : World} {b : Nat} {vs : Array Value} {e : TypeId} {fr : Nat × Nat} (h : w.heap[b]? = some (.cells vs e fr)) (k : Nat) : w.cell? ⟨b, k, none⟩ = vs[k]? := by simp [World.cell?, h]

theorem rangeAt_of_array {w : World} {b : Nat} {vs : Array Value} {e : TypeId} {fr : Nat × Nat} (h : w.heap[b]? = some (.cells vs e fr)) (k n : Nat) : w.rangeAt b k ((vs.toList.drop k).take n) := by
  intro j v hj
  rw [cell_of_array h, ← Array.getElem?_toList]
  rw [List.getElem?_take] at hj
  split at hj
  · rwa [List.getElem?_drop] at hj
  · cases hj

theorem rangeAt_sub {w : World} {b o : Nat} {cs : List Value} (h : w.rangeAt b o cs) (k n : Nat) : w.rangeAt b (o + k) ((cs.drop k).take n) := by
  intro j v hj
  rw [List.getElem?_take] at hj
  split at hj
  · rw [List.getElem?_drop] at hj
    have := h _ _ hj
    rwa [← Nat.add_assoc] at this
  · cases hj

theorem g_load_box {t id k : Nat} {x : Operand} {cs : List AVal} {c : AVal} (ho : o.op = .load t x) (hx : ev x = .box id k) (ht : CellT P t) (hH : H id = .box cs) (hc : cs[k]? = some c) : GStep P β H o ev c := by
  refine .val fun F ρ w hr evc he => ?_
  have h1 := he x (by simp [ho, Op.operands])
  rw [hx] at h1
  generalize hv : evc x = v at h1
  cases h1
  have hob := hr.ob id
  rw [hH] at hob
  obtain ⟨⟨vs, e, h1, h2, h3, h4⟩, h5, h6⟩ := hob
  have hk := (List.getElem?_eq_some_iff.1 hc).1
  have hvk : vs[k]? = some vs[k] := Array.getElem?_eq_getElem (by omega)
  refine ⟨vs[k], ?_, h4 k c _ hc hvk⟩
  simp only [execOp, ho, hv, Sem.run_bind, run_loadAt_cell ht ((cell_of_array h1 k).trans hvk), Result.andThen_ok, Sem.run_pure]

theorem g_load_box_row {t id k n : Nat} {x : Operand} {cs : List AVal} {c : AVal} (ho : o.op = .load t x) (hx : ev x = .box id k) (ht : RowT P t n) (hH : H id = .box cs) (hn : k + n ≤ cs.length) (hc : norm ((cs.drop k).take n) = c) : GStep P β H o ev c := by
  subst hc
  refine .val fun F ρ w hr evc he => ?_
  have h1 := he x (by simp [ho, Op.operands])
  rw [hx] at h1
  generalize hv : evc x = v at h1
  cases h1
  have hob := hr.ob id
  rw [hH] at hob
  obtain ⟨⟨vs, e, h1, h2, h3, h4⟩, h5, h6⟩ := hob
  have hlen : ((vs.toList.drop k).take n).length = n := by simp; omega
  refine ⟨.agg ((vs.toList.drop k).take n).toArray, ?_, norm_rel ?_ ?_ ?_⟩
  · simp only [execOp, ho, hv, Sem.run_bind, run_loadAt_row ht hlen (rangeAt_of_array h1 k n), Result.andThen_ok, Sem.run_pure]
  · simp; omega
  · intro c hc
    exact h3 c (List.mem_of_mem_drop (List.mem_of_mem_take hc))
  · intro i c v hc hv
    rw [List.getElem?_take] at hc hv
    split at hc
    · rename_i hi
      rw [if_pos hi] at hv
      rw [List.getElem?_drop] at hc hv
      exact h4 (k + i) c v hc (by simpa using hv)
    · cases hc

theorem g_load_pt {t k : Nat} {x : Operand} {l : List D} {d : D} (ho : o.op = .load t x) (hx : ev x = .d (.pt l k)) (ht : CellT P t) (hc : l[k]? = some d) : GStep P β H o ev (.d d) := by
  refine .val fun F ρ w hr evc he => ?_
  have h1 := he x (by simp [ho, Op.operands])
  rw [hx] at h1
  generalize hv : evc x = v at h1
  cases h1 with
  | d _ _ h1 =>
    cases h1 with
    | pt _ _ b o' cs hcc hrr hl hF h =>
      have hk := (List.getElem?_eq_some_iff.1 hc).1
      have hvk : cs[k]? = some cs[k] := List.getElem?_eq_getElem (by omega)
      refine ⟨cs[k], ?_, .d _ _ (h k d _ hc hvk)⟩
      simp only [execOp, ho, hv, Sem.run_bind, run_loadAt_cell ht (hrr k _ hvk), Result.andThen_ok, Sem.run_pure]

theorem g_load_pt_row {t k n : Nat} {x : Operand} {l r : List D} (ho : o.op = .load t x) (hx : ev x = .d (.pt l k)) (ht : RowT P t n) (hn : k + n ≤ l.length) (hc : (l.drop k).take n = r) : GStep P β H o ev (.d (.agg r)) := by
  subst hc
  refine .val fun F ρ w hr evc he => ?_
  have h1 := he x (by simp [ho, Op.operands])
  rw [hx] at h1
  generalize hv : evc x = v at h1
  cases h1 with
  | d _ _ h1 =>
    cases h1 with
    | pt _ _ b o' cs hcc hrr hl hF h =>
      have hlen : ((cs.drop k).take n).length = n := by simp; omega
      refine ⟨.agg ((cs.drop k).take n).toArray, ?_, .d _ _ (.agg _ _ ?_ ?_ ?_)⟩
      · simp only [execOp, ho, hv, Sem.run_bind, run_loadAt_row ht hlen (rangeAt_sub hrr k n), Result.andThen_ok, Sem.run_pure]
      · simp; omega
      · intro d hd
        exact hcc d (List.mem_of_mem_drop (List.mem_of_mem_take hd))
      · intro i d v hd hv
        rw [List.getElem?_take] at hd hv
        split at hd
        · rename_i hi
          rw [if_pos hi] at hv
          rw [List.getElem?_drop] at hd hv
          exact h (k + i) d v hd hv
        · cases hd

/-! ### Lengths and places of slices -/
theorem VR.sl_inv {F : Fz} {w : World} {sz : Nat} {q : Option Nat} {l : List D} {v : Value} (h : VR F w (.sl sz q l) v) : ∃ a cap, v = .slice a l.length cap ∧ l.length ≤ cap ∧ cap ≤ maxLen := by
  cases h with
  | sl0 _ _ a cap h => exact ⟨a, cap, rfl, Nat.zero_le _, h⟩
  | sl _ _ _ b off cap cs hne h0 hsz hc hcap hmax => exact ⟨_, cap, rfl, hcap, hmax⟩

theorem flat_get {sz : Nat} : ∀ {l : List D} (hsz : ∀ d ∈ l, d.cells.length = sz) (i : Nat) (d : D) (j : Nat), l[i]? = some d → j < sz → (flat l)[i * sz + j]? = d.cells[j]?
  | [], _, i, d, j, h, _ => by simp at h
  | x :: l, hsz, 0, d, j, h, hj => by
    simp at h; subst h
    rw [flat_cons, Nat.zero_mul, Nat.zero_add, List.getElem?_append_left (by rw [hsz x (by simp)]; exact hj)]
  | x :: l, hsz, i + 1, d, j, h, hj => by
    simp at h
    rw [flat_cons, List.getElem?_append_right (by rw [hsz x (by simp), Nat.succ_mul]; omega), hsz x (by simp)]
    have := flat_get (fun d hd => hsz d (by simp [hd])) i d j h hj
    rw [← this]
    congr 1
    rw [Nat.succ_mul]; omega

theorem run_len_slice {w : World} {t e n m c : Nat} {a : Option Addr} (ht : SliceT P t e n) (cs : Array Bool) (ty : Nat) : (builtin .len #[t] ty cs #[.slice a m c]).run P w = .ok (.value (.int .i64 m)) w := by
  simp [builtin, Builtin.len_, run_underlying ht.1, goInt]

theorem run_call_len {w : World} {evc : Operand → Value} {x : Operand} {t e n m c : Nat} {a : Option Addr} (ho : o.op = .call { callee := .builtin .len, args := #[x], argTypes := #[t] }) (ht : SliceT P t e n) (hv : evc x = .slice a m c) :
    (execOp evc o).run P w = .ok (.value (.int .i64 m)) w := by
  simp only [execOp, ho, resolve, Sem.run_bind, Sem.run_pure, Result.andThen_ok, invoke, List.map_toArray, List.map_cons, List.map_nil, hv, run_len_slice ht]

theorem g_len_sl {t e n sz : Nat} {q : Option Nat} {x : Operand} {l : List D} {m : Int} (ho : o.op = .call { callee := .builtin .len, args := #[x], argTypes := #[t] }) (hx : ev x = .d (.sl sz q l)) (ht : SliceT P t e n) (hm : (l.length : Int) = m) : GStep P β H o ev (.d (.s (.int .i64 m))) := by
  subst hm
  refine .val fun F ρ w hr evc he => ⟨.int .i64 l.length, ?_, .d _ _ (.s _ rfl)⟩
  have h1 := he x (by simp [ho, Op.operands, Call.operands])
  rw [hx] at h1
  cases h1 with
  | d _ _ h1 =>
    obtain ⟨a, cap, hv, _⟩ := h1.sl_inv
    exact run_call_len ho ht hv

theorem g_len_lit {t e n sz : Nat} {x : Operand} {l : List D} {m : Int} (ho : o.op = .call { callee := .builtin .len, args := #[x], argTypes := #[t] }) (hx : ev x = .lit sz l) (ht : SliceT P t e n) (hm : (l.length : Int) = m) : GStep P β H o ev (.d (.s (.int .i64 m))) := by
  subst hm
  refine .val fun F ρ w hr evc he => ⟨.int .i64 l.length, ?_, .d _ _ (.s _ rfl)⟩
  have h1 := he x (by simp [ho, Op.operands, Call.operands])
  rw [hx] at h1
  generalize hv : evc x = v at h1
  cases h1
  exact run_call_len ho ht hv

theorem g_len_nil {t e n : Nat} {x : Operand} (ho : o.op = .call { callee := .builtin .len, args := #[x], argTypes := #[t] }) (hx : ev x = .nil) (ht : SliceT P t e n) : GStep P β H o ev (.d (.s (.int .i64 0))) := by
  refine .val fun F ρ w hr evc he => ⟨.int .i64 0, ?_, .d _ _ (.s _ rfl)⟩
  have h1 := he x (by simp [ho, Op.operands, Call.operands])
  rw [hx] at h1
  generalize hv : evc x = v at h1
  cases h1
  exact run_call_len (m := 0) ho ht hv

theorem ownsRow_slice {w : World} {e : TypeId} {sz n : Nat} {v : Value} {xs : List Value} (h : w.ownsRow 0 e sz v n xs) : ∃ a cap, v = .slice a n cap ∧ n ≤ cap ∧ cap ≤ maxLen := by
  rcases h.2 with ⟨rfl, rfl⟩ | ⟨g, cap, cur, rfl, _, _, h1, h2, _⟩
  · exact ⟨none, 0, rfl, Nat.le_refl _, Nat.zero_le _⟩
  · exact ⟨_, cap, rfl, h1, h2⟩

theorem g_len_asl {t e n id k : Nat} {mu : Bool} {sz e' : Nat} {x : Operand} {l : List D} {m : Int} (ho : o.op = .call { callee := .builtin .len, args := #[x], argTypes := #[t] }) (hx : ev x = .asl id k) (hH : H id = .arr mu sz e' l) (hk : k = l.length) (ht : SliceT P t e n) (hm : (l.length : Int) = m) : GStep P β H o ev (.d (.s (.int .i64 m))) := by
  subst hm
  refine .val fun F ρ w hr evc he => ⟨.int .i64 l.length, ?_, .d _ _ (.s _ rfl)⟩
  have h1 := he x (by simp [ho, Op.operands, Call.operands])
  rw [hx] at h1
  generalize hv : evc x = v at h1
  cases h1 with
  | asl _ _ _ h0 h =>
    have he := (h mu sz e' l hH).2 hk
    have hob := hr.ob id
    rw [hH] at hob
    obtain ⟨_, _, _, xs, hown, _⟩ := hob
    obtain ⟨a, cap, h2, _⟩ := ownsRow_slice hown
    exact run_call_len ho ht (hv.trans (he.trans h2))

theorem run_call_len_str {w : World} {evc : Operand → Value} {x : Operand} {t : Nat} {s : List UInt8} (ho : o.op = .call { callee := .builtin .len, args := #[x], argTypes := #[t] }) (ht : P.underlying t = some .string) (hv : evc x = str s) :
    (execOp evc o).run P w = .ok (.value (.int .i64 s.length)) w := by
  simp only [execOp, ho, resolve, Sem.run_bind, Sem.run_pure, Result.andThen_ok, invoke, List.map_toArray, List.map_cons, List.map_nil, hv, builtin, Builtin.len_, str]
  have h5 : (⟨s.toArray⟩ : ByteArray).size = s.length := rfl
  simp only [List.getElem?_toArray, List.getElem?_cons_zero, Sem.run_bind, run_underlying ht, Result.andThen_ok, Sem.run_pure, goInt, h5]

theorem g_len_str {t : Nat} {x : Operand} {s : List UInt8} {m : Int} (ho : o.op = .call { callee := .builtin .len, args := #[x], argTypes := #[t] }) (hx : ev x = .d (.s (str s))) (ht : P.underlying t = some .string) (hm : (s.length : Int) = m) : GStep P β H o ev (.d (.s (.int .i64 m))) := by
  subst hm
  refine .val fun F ρ w hr evc he => ⟨.int .i64 s.length, ?_, .d _ _ (.s _ rfl)⟩
  have h1 := he x (by simp [ho, Op.operands, Call.operands])
  rw [hx] at h1
  exact run_call_len_str ho ht h1.s_inv

theorem run_indexAt {w : World} {t e n len cap : Nat} {b off : Nat} {k : IntKind} {i : Int} (ht : SliceT P t e n) (h0 : 0 ≤ i) (h1 : i < len) : (Instr.indexAt t (.slice (some ⟨b, off, none⟩) len cap) (.int k i)).run P w = .ok (.pointer (some ⟨b, off + i.toNat * n, none⟩)) w := by
  simp [Instr.indexAt, asIntOf, run_underlying ht.1, h0, h1, run_sizeOf ht.2, Addr.add_mid]

/-- A place of a row whose cells stay. -/
theorem pt_of_row {F : Fz} {w : World} {sz b off : Nat} {l : List D} {cs : List Value} (hsz : ∀ d ∈ l, d.cells.length = sz) (hc : ∀ d ∈ flat l, d.isCell = true) (hr : w.rangeAt b off cs) (hl : cs.length = (flat l).length) (hF : off + cs.length ≤ F b)
    (h : ∀ (i : Nat) (d : D) (v : Value), (flat l)[i]? = some d → cs[i]? = some v → VR F w d v) (i : Nat) (d : D) (hd : l[i]? = some d) : VR F w (.pt d.cells 0) (.pointer (some ⟨b, off + i * sz, none⟩)) := by
  have hi := (List.getElem?_eq_some_iff.1 hd).1
  have hlen := flat_length hsz
  have hds : d.cells.length = sz := hsz d (List.mem_of_getElem? hd)
  have hle : i * sz + sz ≤ cs.length := by
    rw [hl, hlen, ← Nat.succ_mul]
    exact Nat.mul_le_mul_right _ hi
  have key : ∀ (j : Nat) (x : D), d.cells[j]? = some x → j < sz ∧ (flat l)[i * sz + j]? = some x := by
    intro j x hj
    have := (List.getElem?_eq_some_iff.1 hj).1
    exact ⟨by omega, by rw [flat_get hsz i d j hd (by omega)]; exact hj⟩
  have := VR.pt (F := F) (w := w) d.cells 0 b (off + i * sz) ((cs.drop (i * sz)).take sz) ?_ (rangeAt_sub hr (i * sz) sz) ?_ ?_ ?_
  · simpa using this
  · intro x hx
    obtain ⟨j, hj⟩ := List.getElem?_of_mem hx
    exact hc x (List.mem_of_getElem? (key j x hj).2)
  · simp; omega
  · simp; omega
  · intro j x v hx hv
    obtain ⟨hj, hx'⟩ := key j x hx
    rw [List.getElem?_take, if_pos hj, List.getElem?_drop] at hv
    exact h _ x v hx' hv

theorem g_index_sl {t e n : Nat} {q : Option Nat} {x y : Operand} {l : List D} {k : IntKind} {i : Int} {d : D} (ho : o.op = .indexAddr t x y) (hx : ev x = .d (.sl n q l)) (hy : ev y = .d (.s (.int k i))) (ht : SliceT P t e n) (h0 : 0 ≤ i) (hd : l[i.toNat]? = some d) : GStep P β H o ev (.d (.pt d.cells 0)) := by
  refine .val fun F ρ w hr evc he => ?_
  have h1 := he x (by simp [ho, Op.operands])
  have h2 := he y (by simp [ho, Op.operands])
  rw [hx] at h1
  rw [hy] at h2
  have hi := (List.getElem?_eq_some_iff.1 hd).1
  generalize hv : evc x = v at h1
  cases h1 with
  | d _ _ h1 =>
    cases h1 with
    | sl0 => simp at hd
    | sl _ _ _ b off cap cs hne hz hsz hc hcap hmax hrr hl hF hq h =>
      refine ⟨.pointer (some ⟨b, off + i.toNat * n, none⟩), ?_, .d _ _ (pt_of_row hsz hc hrr hl hF h i.toNat d hd)⟩
      simp only [execOp, ho, hv, h2.s_inv, Sem.run_bind, run_indexAt ht h0 (show i < (l.length : Int) by omega), Result.andThen_ok, Sem.run_pure]

theorem g_index_lit {t e n : Nat} {x y : Operand} {l : List D} {k : IntKind} {i : Int} {d : D} (ho : o.op = .indexAddr t x y) (hx : ev x = .lit n l) (hy : ev y = .d (.s (.int k i))) (ht : SliceT P t e n) (h0 : 0 ≤ i) (hd : l[i.toNat]? = some d) : GStep P β H o ev (.d (.pt d.cells 0)) := by
  refine .val fun F ρ w hr evc he => ?_
  have h1 := he x (by simp [ho, Op.operands])
  have h2 := he y (by simp [ho, Op.operands])
  rw [hx] at h1
  rw [hy] at h2
  have hi := (List.getElem?_eq_some_iff.1 hd).1
  generalize hv : evc x = v at h1
  cases h1 with
  | lit _ _ a h1 =>
    generalize hw : Value.slice a l.length l.length = u at h1 hv
    cases h1 with
    | sl0 => simp at hd
    | sl _ _ _ b off cap cs hne hz hsz hc hcap hmax hrr hl hF hq h =>
      refine ⟨.pointer (some ⟨b, off + i.toNat * n, none⟩), ?_, .d _ _ (pt_of_row hsz hc hrr hl hF h i.toNat d hd)⟩
      simp only [execOp, ho, hv, h2.s_inv, Sem.run_bind, run_indexAt ht h0 (show i < (l.length : Int) by omega), Result.andThen_ok, Sem.run_pure]

/-- What an array of the call's own holds, and where. -/
theorem arr_parts {F : Fz} {ρ : Gh} {w : World} (hr : RelH P β F ρ H w) {id : Nat} {mu : Bool} {sz e : Nat} {l : List D} (hH : H id = .arr mu sz e l) (hne : l ≠ []) : ∃ g cap cur, ρ.hd id = .slice (some ⟨g, 0, none⟩) l.length cap ∧ l.length ≤ cap ∧ cap ≤ maxLen ∧
    w.heap[g]? = some (.cells cur e (0, 0)) ∧ cur.size = cap * sz ∧ (∀ d ∈ l, d.cells.length = sz) ∧ (∀ d ∈ flat l, d.isCell = true) ∧ (cur.toList.take (l.length * sz)).length = (flat l).length ∧ w.rangeAt g 0 (cur.toList.take (l.length * sz)) ∧
    (∀ (i : Nat) (d : D) (v : Value), (flat l)[i]? = some d → (cur.toList.take (l.length * sz))[i]? = some v → VR F w d v) ∧ β.own g ∧ F g = (if mu then 0 else l.length * sz) ∧ 0 < sz := by
  have hob := hr.ob id
  rw [hH] at hob
  obtain ⟨h0, h1, h2, xs, hown, h4, h5⟩ := hob
  have hpos : 0 < l.length := List.length_pos_iff.2 hne
  rcases hown.2 with ⟨_, hn⟩ | ⟨g, cap, cur, hv, _, hg, hnc, hcm, hcs, htake⟩
  · omega
  · have hlx : xs.length = l.length * sz := hown.1
    have hg5 := h5 g (by rw [hv]; rfl)
    refine ⟨g, cap, cur, hv, hnc, hcm, hg, hcs, h1, h2, ?_, ?_, ?_, hg5.1, ?_, h0⟩
    · rw [htake, hlx, flat_length h1]
    · have := rangeAt_of_array hg 0 (l.length * sz)
      simpa using this
    · rw [htake]; exact h4
    · rw [hg5.2, hlx]

theorem g_index_asl {t e n e' id m : Nat} {x y : Operand} {l : List D} {k : IntKind} {i : Int} {d : D} (ho : o.op = .indexAddr t x y) (hx : ev x = .asl id m) (hH : H id = .arr false n e' l) (hm : m = l.length) (hy : ev y = .d (.s (.int k i))) (ht : SliceT P t e n) (h0 : 0 ≤ i) (hd : l[i.toNat]? = some d) : GStep P β H o ev (.d (.pt d.cells 0)) := by
  refine .val fun F ρ w hr evc he => ?_
  have h1 := he x (by simp [ho, Op.operands])
  have h2 := he y (by simp [ho, Op.operands])
  rw [hx] at h1
  rw [hy] at h2
  have hi := (List.getElem?_eq_some_iff.1 hd).1
  have hne : l ≠ [] := by intro e; rw [e] at hi; simp at hi
  obtain ⟨g, cap, cur, hv, hnc, hcm, hg, hcs, hsz, hc, hll, hrr, hvr, hown, hF, hz⟩ := arr_parts hr hH hne
  generalize hvx : evc x = v at h1
  cases h1 with
  | asl _ _ _ _ h =>
    have hvv := hvx.trans (((h false n e' l hH).2 hm).trans hv)
    refine ⟨.pointer (some ⟨g, 0 + i.toNat * n, none⟩), ?_, .d _ _ (pt_of_row hsz hc hrr hll ?_ hvr i.toNat d hd)⟩
    · simp only [execOp, ho, hvv, h2.s_inv, Sem.run_bind, run_indexAt ht h0 (show i < (l.length : Int) by omega), Result.andThen_ok, Sem.run_pure]
    · rw [hll, flat_length hsz, hF]; simp

theorem g_index_el {t e n e' id m r : Nat} {mu : Bool} {x y : Operand} {l : List D} {k : IntKind} {i : Int} (ho : o.op = .indexAddr t x y) (hx : ev x = .asl id m) (hH : H id = .arr mu n e' l) (hm : m = l.length) (hy : ev y = .d (.s (.int k i))) (ht : SliceT P t e n) (h0 : 0 ≤ i) (hi : i < (l.length : Int)) (hr : i.toNat * n = r) : GStep P β H o ev (.el id m r) := by
  subst hr
  refine .val fun F ρ w hr evc he => ?_
  have h1 := he x (by simp [ho, Op.operands])
  have h2 := he y (by simp [ho, Op.operands])
  rw [hx] at h1
  rw [hy] at h2
  have hne : l ≠ [] := by intro e; rw [e] at hi; simp at hi; omega
  obtain ⟨g, cap, cur, hv, hnc, hcm, hg, hcs, hsz, hc, hll, hrr, hvr, hown, hF, hz⟩ := arr_parts hr hH hne
  generalize hvx : evc x = v at h1
  cases h1 with
  | asl _ _ _ _ h =>
    have hvv := hvx.trans (((h mu n e' l hH).2 hm).trans hv)
    refine ⟨.pointer (some ⟨g, 0 + i.toNat * n, none⟩), ?_, .el _ _ _ _ rfl ?_⟩
    · simp only [execOp, ho, hvv, h2.s_inv, Sem.run_bind, run_indexAt ht h0 hi, Result.andThen_ok, Sem.run_pure]
    · intro mu' sz' e'' l' h3
      rw [hH] at h3
      cases h3
      exact ⟨by omega, fun _ => ⟨g, by rw [hv]; rfl, by simp⟩⟩

/-- A load out of an array of the call's own. -/
theorem g_load_el {t id m k : Nat} {mu : Bool} {sz e : Nat} {x : Operand} {l : List D} {d : D} (ho : o.op = .load t x) (hx : ev x = .el id m k) (ht : CellT P t) (hH : H id = .arr mu sz e l) (hm : m = l.length) (hd : (flat l)[k]? = some d) : GStep P β H o ev (.d d) := by
  refine .val fun F ρ w hr evc he => ?_
  have h1 := he x (by simp [ho, Op.operands])
  rw [hx] at h1
  have hk := (List.getElem?_eq_some_iff.1 hd).1
  have hne : l ≠ [] := by intro e; rw [e] at hk; simp [flat] at hk
  obtain ⟨g, cap, cur, hv, hnc, hcm, hg, hcs, hsz, hc, hll, hrr, hvr, hown, hF, hz⟩ := arr_parts hr hH hne
  generalize hvx : evc x = v at h1
  cases h1 with
  | el _ _ _ _ _ h =>
    obtain ⟨g', hg', rfl⟩ := (h mu sz e l hH).2 hm
    rw [hv] at hg'
    cases hg'
    have hvk : (cur.toList.take (l.length * sz))[k]? = some (cur.toList.take (l.length * sz))[k] := List.getElem?_eq_getElem (by omega)
    have hcell := hrr k _ hvk
    rw [Nat.zero_add] at hcell
    refine ⟨_, ?_, .d _ _ (hvr k d _ hd hvk)⟩
    simp only [execOp, ho, hvx, Sem.run_bind, run_loadAt_cell ht hcell, Result.andThen_ok, Sem.run_pure]

theorem g_load_el_row {t n id m k : Nat} {mu : Bool} {sz e : Nat} {x : Operand} {l r : List D} (ho : o.op = .load t x) (hx : ev x = .el id m k) (ht : RowT P t n) (hH : H id = .arr mu sz e l) (hm : m = l.length) (hn : k + n ≤ (flat l).length) (h0 : 0 < n) (hd : ((flat l).drop k).take n = r) : GStep P β H o ev (.d (.agg r)) := by
  subst hd
  refine .val fun F ρ w hr evc he => ?_
  have h1 := he x (by simp [ho, Op.operands])
  rw [hx] at h1
  have hne : l ≠ [] := by intro e; rw [e] at hn; simp [flat] at hn; omega
  obtain ⟨g, cap, cur, hv, hnc, hcm, hg, hcs, hsz, hc, hll, hrr, hvr, hown, hF, hz⟩ := arr_parts hr hH hne
  generalize hvx : evc x = v at h1
  cases h1 with
  | el _ _ _ _ _ h =>
    obtain ⟨g', hg', rfl⟩ := (h mu sz e l hH).2 hm
    rw [hv] at hg'
    cases hg'
    have hlen : (((cur.toList.take (l.length * sz)).drop k).take n).length = n := by rw [List.length_take, List.length_drop, hll]; omega
    have hsub := rangeAt_sub hrr k n
    rw [Nat.zero_add] at hsub
    refine ⟨.agg (((cur.toList.take (l.length * sz)).drop k).take n).toArray, ?_, .d _ _ (.agg _ _ ?_ ?_ ?_)⟩
    · simp only [execOp, ho, hvx, Sem.run_bind, run_loadAt_row ht hlen hsub, Result.andThen_ok, Sem.run_pure]
    · rw [hlen, List.length_take, List.length_drop]; omega
    · intro d hd
      exact hc d (List.mem_of_mem_drop (List.mem_of_mem_take hd))
    · intro i d v hd hv
      rw [List.getElem?_take] at hd hv
      split at hd
      · rename_i hi
        rw [if_pos hi] at hv
        rw [List.getElem?_drop] at hd hv
        exact hvr (k + i) d v hd hv
      · cases hd

/-! ### A byte of a string; a part of a tuple; a function made -/
theorem g_index_str {t : Nat} {x y : Operand} {s : List UInt8} {k : IntKind} {i : Int} {c : UInt8} (ho : o.op = .index t x y) (hx : ev x = .d (.s (str s))) (hy : ev y = .d (.s (.int k i))) (ht : P.underlying t = some .string) (h0 : 0 ≤ i) (hc : s[i.toNat]? = some c) : GStep P β H o ev (.d (.s (.int .u8 c.toNat))) := by
  refine .val fun F ρ w hr evc he => ⟨.int .u8 c.toNat, ?_, .d _ _ (.s _ rfl)⟩
  have h1 := he x (by simp [ho, Op.operands])
  have h2 := he y (by simp [ho, Op.operands])
  rw [hx] at h1
  rw [hy] at h2
  have h3 : (⟨s.toArray⟩ : ByteArray)[i.toNat]? = some c := by
    have hi := (List.getElem?_eq_some_iff.1 hc).1
    rw [getElem?_pos _ _ (by simpa [ByteArray.size] using hi)]
    congr 1
    have := (List.getElem?_eq_some_iff.1 hc).2
    rw [← this]
    rfl
  simp only [execOp, ho, h1.s_inv, h2.s_inv, str, Instr.index, asIntOf, Sem.run_bind, Sem.run_pure, Result.andThen_ok, run_underlying ht, h0, if_true, h3]

theorem g_extract {x : Operand} {i : Nat} {l : List AVal} {c : AVal} (ho : o.op = .extract x i) (hx : ev x = .tup l) (hc : l[i]? = some c) : GStep P β H o ev c := by
  refine .val fun F ρ w hr evc he => ?_
  have h1 := he x (by simp [ho, Op.operands])
  rw [hx] at h1
  have hi := (List.getElem?_eq_some_iff.1 hc).1
  generalize hv : evc x = v at h1
  cases h1 with
  | tup _ vs hl h =>
    have hvi : vs[i]? = some vs[i] := List.getElem?_eq_getElem (by omega)
    refine ⟨vs[i], ?_, h i c _ hc hvi⟩
    simp [execOp, ho, hv, Instr.extract, hvi]

theorem g_makeFunc {f : FuncId} {xs : Array Operand} {l : List AVal} (ho : o.op = .makeFunc (.func f) #[] xs) (hl : xs.toList.map ev = l) : GStep P β H o ev (.clo f l) := by
  subst hl
  refine .val fun F ρ w hr evc he => ⟨.func (.func f) #[] (xs.toList.map evc).toArray, ?_, .clo f _ _ (by simp) ?_⟩
  · simp [execOp, ho, Instr.makeFunc]
    rw [← List.map_toArray]
  · intro i c v hc hv
    rw [List.getElem?_map] at hc hv
    cases hq : xs.toList[i]? with
    | none => simp [hq] at hc
    | some x =>
      simp only [hq, Option.map_some, Option.some.injEq] at hc hv
      subst hc
      subst hv
      exact he x (by simp [ho, Op.operands]; exact Array.mem_def.2 (List.mem_of_getElem? hq))

end Go.Q
