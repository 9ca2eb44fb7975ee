/- Runs of plain operations, each step found by the rules; facts on types found by their numbers. No condition. -/
import Derived.Test.YtkfcpnaiimcjeaaDoorQRows
set_option linter.unusedVariables false
set_option linter.unusedSimpArgs false
namespace Go.Q
variable {P : Program} {β : Base}
class CCell (P : Program) (t : Nat) : Prop where
  o : CellT P t
class CRow (P : Program) (t : Nat) (n : outParam Nat) : Prop where
  o : RowT P t n
class CSize (P : Program) (t : Nat) (n : outParam Nat) : Prop where
  o : SizeT P t n
class CZero (P : Program) (t : Nat) (zs : outParam (List Value)) : Prop where
  o : ZeroT P t zs
class CField (P : Program) (t f : Nat) (off n : outParam Nat) : Prop where
  o : FieldT P t f off n
class CElem (P : Program) (t : Nat) (e n b : outParam Nat) : Prop where
  o : ElemT P t e n b
class CSlice (P : Program) (t : Nat) (e n : outParam Nat) : Prop where
  o : SliceT P t e n
class CStr (P : Program) (t : Nat) : Prop where
  o : P.underlying t = some .string
class CBool (P : Program) (t : Nat) : Prop where
  o : P.underlying t = some .bool
class CBuild (P : Program) (t : Nat) (ps : outParam (List (Nat × Nat))) (zs : outParam (List Value)) : Prop where
  o : BuildT P t ps zs

/-- One plain operation, by the first rule that fits. -/
theorem TL_x {ops : Array Oper} {Q : Exit → St → Prop} {rest : List Oper} {σ : St} {o : Oper} {dst : Nat} {c : AVal} (k : TL P β ops Q rest (σ.put dst c))
    (hs : GStep P β σ.H o (aev σ) c := by
      first
        | exact f_move rfl
        | exact f_assign rfl
        | exact g_icmp rfl rfl rfl rfl
        | exact g_len_sl rfl rfl CSlice.o rfl
        | exact g_len_str rfl rfl CStr.o rfl
        | exact g_len_asl rfl rfl rfl rfl CSlice.o rfl
        | exact g_len_asl rfl rfl rfl (by simp) CSlice.o rfl
        | exact g_len_lit rfl rfl CSlice.o rfl
        | exact g_len_nil rfl rfl CSlice.o
        | exact g_field_box rfl rfl CField.o rfl
        | exact g_field_pt rfl rfl CField.o rfl
        | exact g_field_el rfl rfl rfl rfl CField.o rfl
        | exact g_load_box rfl rfl CCell.o rfl rfl
        | exact g_load_pt rfl rfl CCell.o rfl
        | exact f_load_box_row rfl rfl CRow.o rfl rfl
        | exact f_load_pt_row rfl rfl CRow.o rfl
        | exact g_load_el rfl rfl CCell.o rfl rfl rfl
        | exact g_scmp rfl rfl rfl rfl
        | exact g_not rfl rfl
        | exact f_pick rfl rfl
        | exact g_extract rfl rfl rfl
        | exact g_add rfl rfl rfl (wr64 _ (by first | omega | (simp only [List.length_map]; omega)))
        | exact g_sub rfl rfl rfl (wr64 _ (by first | omega | (simp only [List.length_map]; omega)))
        | exact g_bcmp rfl rfl rfl CBool.o rfl
        | exact g_nilCheck_box rfl rfl
        | exact g_nilCheck_pt rfl rfl
        | exact f_makeFunc rfl
        | exact g_buildSlice rfl CElem.o rfl rfl rfl (by repeat (first | exact .nil | (apply RdL.cons; first | exact .d _ | exact .nil _ _ | exact .litn _ _ _ | exact .lit _ _ | exact .asl _ _ _ _ _ rfl rfl | exact .asln _ _ _ _ _ _ _ rfl rfl | exact .emp _ _ _ _))) rfl rfl rfl
        | exact g_build rfl CBuild.o rfl rfl rfl rfl (by first | exact .d _ | exact .agg _)
        | exact g_sadd rfl rfl rfl (by first | omega | (simp; omega))
        | exact g_index_sl rfl rfl rfl CSlice.o (by omega) (get_map (by assumption))
        | exact g_index_str rfl rfl rfl CStr.o (by omega) (by assumption)) (hg : o.guard = none := by rfl) (hd : o.dst = some dst := by rfl) (hn : Nat.blt dst β.n = true := by rfl) : TL P β ops Q (o :: rest) σ := TL_o hg hd hn hs k
theorem DGo_x {ops : Array Oper} {Q : Exit → St → Prop} {tail l : List Oper} {σ : St} {o : Oper} {dst : Nat} {c : AVal} (k : DGo P β ops Q tail l (σ.put dst c))
    (hs : GStep P β σ.H o (aev σ) c := by
      first
        | exact f_move rfl
        | exact f_assign rfl
        | exact g_icmp rfl rfl rfl rfl
        | exact g_len_sl rfl rfl CSlice.o rfl
        | exact g_len_str rfl rfl CStr.o rfl
        | exact g_len_asl rfl rfl rfl rfl CSlice.o rfl
        | exact g_len_asl rfl rfl rfl (by simp) CSlice.o rfl
        | exact g_len_lit rfl rfl CSlice.o rfl
        | exact g_len_nil rfl rfl CSlice.o
        | exact g_field_box rfl rfl CField.o rfl
        | exact g_field_pt rfl rfl CField.o rfl
        | exact g_field_el rfl rfl rfl rfl CField.o rfl
        | exact g_load_box rfl rfl CCell.o rfl rfl
        | exact g_load_pt rfl rfl CCell.o rfl
        | exact f_load_box_row rfl rfl CRow.o rfl rfl
        | exact f_load_pt_row rfl rfl CRow.o rfl
        | exact g_load_el rfl rfl CCell.o rfl rfl rfl
        | exact g_scmp rfl rfl rfl rfl
        | exact g_not rfl rfl
        | exact f_pick rfl rfl
        | exact g_extract rfl rfl rfl
        | exact g_add rfl rfl rfl (wr64 _ (by first | omega | (simp only [List.length_map]; omega)))
        | exact g_sub rfl rfl rfl (wr64 _ (by first | omega | (simp only [List.length_map]; omega)))
        | exact g_bcmp rfl rfl rfl CBool.o rfl
        | exact g_nilCheck_box rfl rfl
        | exact g_nilCheck_pt rfl rfl
        | exact f_makeFunc rfl
        | exact g_buildSlice rfl CElem.o rfl rfl rfl (by repeat (first | exact .nil | (apply RdL.cons; first | exact .d _ | exact .nil _ _ | exact .litn _ _ _ | exact .lit _ _ | exact .asl _ _ _ _ _ rfl rfl | exact .asln _ _ _ _ _ _ _ rfl rfl | exact .emp _ _ _ _))) rfl rfl rfl
        | exact g_build rfl CBuild.o rfl rfl rfl rfl (by first | exact .d _ | exact .agg _)
        | exact g_sadd rfl rfl rfl (by first | omega | (simp; omega))
        | exact g_index_sl rfl rfl rfl CSlice.o (by omega) (get_map (by assumption))
        | exact g_index_str rfl rfl rfl CStr.o (by omega) (by assumption)) (hg : o.guard = none := by rfl) (hd : o.dst = some dst := by rfl) (hn : Nat.blt dst β.n = true := by rfl) : DGo P β ops Q tail (o :: l) σ := DGo_o hg hd hn hs k

/-! ### States that turn, their side conditions found -/
theorem TL_box (id : Nat) {ops : Array Oper} {Q : Exit → St → Prop} {rest : List Oper} {σ : St} {o : Oper} {t : Nat} {x : Operand} {dst : Nat} {c : AVal} {cs : List AVal} (k : TL P β ops Q rest ((σ.setH id (.box cs)).put dst (.box id 0)))
    (ho : o.op = .box t x := by rfl) (hg : o.guard = none := by rfl) (hd : o.dst = some dst := by rfl) (hn : Nat.blt dst β.n = true := by rfl)
    (hx : IsA (aev σ x) c := by first | exact .d _ | exact .box _ _ | exact .asl _ _ | exact .nil | exact .lit _ _ | exact .agg _ | exact .clo _ _ | exact .fnv _ | exact .el _ _ _ | exact .mp _)
    (hv : c.isVal = true := by rfl) (hc : SLA c.cells cs := by repeat (first | exact .nil | (apply SLA.cons; first | exact .d _ | exact .box _ _ | exact .asl _ _ | exact .nil | exact .lit _ _ | exact .clo _ _ | exact .fnv _ | exact .el _ _ _ | exact .mp _)))
    (hx0 : β.fx id = false := by rfl) (h1 : NoRefE id σ.env := by repeat (first | exact noRefE0 | exact noRefE_envOf | exact noRefE_envA rfl | refine noRefE_upd rfl ?_)) (h2 : NoRefH id σ.H := by repeat (first | exact noRefH0 | refine noRefH_upd rfl ?_)) (h3 : noRefL id cs = true := by rfl) : TL P β ops Q (o :: rest) σ :=
  TL_s hg (fs_box ho hd hn hx hv hc hx0 h1 h2 h3) k
theorem TL_alloc (id : Nat) {ops : Array Oper} {Q : Exit → St → Prop} {rest : List Oper} {σ : St} {o : Oper} {t : Nat} {dst : Nat} {zs : List Value} {cs : List AVal} (k : TL P β ops Q rest ((σ.setH id (.box cs)).put dst (.box id 0)))
    (ho : o.op = .alloc t := by rfl) (hz : CZero P t zs := by infer_instance) (hg : o.guard = none := by rfl) (hd : o.dst = some dst := by rfl) (hn : Nat.blt dst β.n = true := by rfl)
    (hz1 : zs.all (fun v => v.oneCell') = true := by rfl) (hc : SLA (zs.map constC) cs := by repeat (first | exact .nil | (apply SLA.cons; first | exact .d _ | exact .nil)))
    (hx0 : β.fx id = false := by rfl) (h1 : NoRefE id σ.env := by repeat (first | exact noRefE0 | exact noRefE_envOf | exact noRefE_envA rfl | refine noRefE_upd rfl ?_)) (h2 : NoRefH id σ.H := by repeat (first | exact noRefH0 | refine noRefH_upd rfl ?_)) (h3 : noRefL id cs = true := by rfl) : TL P β ops Q (o :: rest) σ :=
  TL_s hg (fs_alloc ho hd hn hz.o hz1 hc hx0 h1 h2 h3) k
theorem TL_store {ops : Array Oper} {Q : Exit → St → Prop} {rest : List Oper} {σ : St} {o : Oper} {t id k n : Nat} {x y : Operand} {c : AVal} {cs cs' : List AVal} (q : TL P β ops Q rest (σ.setH id (.box cs')))
    (ho : o.op = .store t x y := by rfl) (ht : CSize P t n := by infer_instance) (hg : o.guard = none := by rfl) (hd : o.dst = none := by rfl) (hx : aev σ x = .box id k := by rfl) (hH : σ.H id = .box cs := by rfl)
    (hy : IsA (aev σ y) c := by first | exact .d _ | exact .box _ _ | exact .asl _ _ | exact .nil | exact .lit _ _ | exact .agg _ | exact .clo _ _ | exact .fnv _ | exact .el _ _ _ | exact .mp _)
    (hv : c.isVal = true := by rfl) (hn : c.cells.length = n := by rfl) (hk : Nat.ble (k + n) cs.length = true := by rfl)
    (hc : SLA (splice cs k c.cells) cs' := by repeat (first | exact .nil | (apply SLA.cons; first | exact .d _ | exact .box _ _ | exact .asl _ _ | exact .nil | exact .lit _ _ | exact .clo _ _ | exact .fnv _ | exact .el _ _ _ | exact .mp _))) : TL P β ops Q (o :: rest) σ :=
  TL_s hg (fs_store_box ho hd hx hH hy hv ht.o hn hk hc) q

/-! ### Calls and ends, their side conditions found -/
theorem c_call {H : Nat → Obj} {o : Oper} {ev : Operand → AVal} {fo : Operand} {xs : Array Operand} {ats : Array TypeId} {f : FuncId} {caps : List AVal} {cas : List CA} {ds : List D} {r : AVal}
    (ho : o.op = .call { callee := .value fo, args := xs, argTypes := ats }) (hf : ev fo = .clo f caps) (hfn : FunOk P f) (h : ∀ w F, PC P f w F cas (· = ds)) (ha : ArgL P H (xs.toList.map ev ++ caps) cas := by repeat (first | exact .nil | (apply ArgL.cons; first | exact .d (.d _) | exact .d (.nil _ _) | exact .d (.litn _ _ _) | exact .d (.lit _ _) | exact .d (.asl _ _ _ _ _ rfl rfl) | exact .d (.asln _ _ _ _ _ _ _ rfl rfl) | exact .fnv _ | exact .d (.emp _ _ _ _)))) (hr' : IsA (resA ds) r := by first | exact .d _ | exact .box _ _ | exact .asl _ _ | exact .nil | exact .lit _ _ | exact .agg _ | exact .clo _ _ | exact .fnv _ | exact .tup _ | exact .el _ _ _ | exact .mp _ | exact .junk) : GStep P β H o ev r :=
  f_call ho hf hfn ha hr' h
theorem c_callv {H : Nat → Obj} {o : Oper} {ev : Operand → AVal} {fo : Operand} {xs : Array Operand} {ats : Array TypeId} {p : List D → List D → Prop} {ds rs : List D} {r : AVal}
    (ho : o.op = .call { callee := .value fo, args := xs, argTypes := ats }) (hf : ev fo = .fnv p) (hp : p ds rs) (ha : RdL H (xs.toList.map ev) ds := by repeat (first | exact .nil | (apply RdL.cons; first | exact .d _ | exact .nil _ _ | exact .litn _ _ _ | exact .lit _ _ | exact .asl _ _ _ _ _ rfl rfl | exact .asln _ _ _ _ _ _ _ rfl rfl | exact .emp _ _ _ _))) (hr' : IsA (resA rs) r := by first | exact .d _ | exact .box _ _ | exact .asl _ _ | exact .nil | exact .lit _ _ | exact .agg _ | exact .clo _ _ | exact .fnv _ | exact .tup _ | exact .el _ _ _ | exact .mp _ | exact .junk) : GStep P β H o ev r := f_callv ho hf ha hp hr'
theorem Ret_n {rs : List Nat} {R : List D → Prop} {σ : St} {ds : List D} (h2 : R ds) (h1 : RdL σ.H (rs.map σ.env) ds := by repeat (first | exact .nil | (apply RdL.cons; first | exact .d _ | exact .nil _ _ | exact .litn _ _ _ | exact .lit _ _ | exact .asl _ _ _ _ _ rfl rfl | exact .asln _ _ _ _ _ _ _ rfl rfl | exact .emp _ _ _ _))) : RetQ rs R .normal σ := ⟨ds, h1, h2⟩
theorem Ret_ret {rs : List Nat} {R : List D → Prop} {σ : St} {ds : List D} (h2 : R ds) (h1 : RdL σ.H (rs.map σ.env) ds := by repeat (first | exact .nil | (apply RdL.cons; first | exact .d _ | exact .nil _ _ | exact .litn _ _ _ | exact .lit _ _ | exact .asl _ _ _ _ _ rfl rfl | exact .asln _ _ _ _ _ _ _ rfl rfl | exact .emp _ _ _ _))) : RetQ rs R .ret σ := ⟨ds, h1, h2⟩
theorem RG_n {rs : List ResultVar} {R : List D → Prop} {σ : St} {cs : List AVal} {ds : List D} (h2 : R ds) (h0 : ResVL P σ rs cs := by repeat (first | exact .nil | (apply ResVL.cons; first | exact .tmp _ | exact .row rfl rfl CRow.o rfl (by first | exact .d _ | exact .agg _) | exact .one rfl rfl CCell.o))) (h1 : RdL σ.H cs ds := by repeat (first | exact .nil | (apply RdL.cons; first | exact .d _ | exact .nil _ _ | exact .litn _ _ _ | exact .lit _ _ | exact .asl _ _ _ _ _ rfl rfl | exact .asln _ _ _ _ _ _ _ rfl rfl | exact .emp _ _ _ _))) : RetG P rs R .normal σ := ⟨cs, ds, h0, h1, h2⟩
theorem RG_ret {rs : List ResultVar} {R : List D → Prop} {σ : St} {cs : List AVal} {ds : List D} (h2 : R ds) (h0 : ResVL P σ rs cs := by repeat (first | exact .nil | (apply ResVL.cons; first | exact .tmp _ | exact .row rfl rfl CRow.o rfl (by first | exact .d _ | exact .agg _) | exact .one rfl rfl CCell.o))) (h1 : RdL σ.H cs ds := by repeat (first | exact .nil | (apply RdL.cons; first | exact .d _ | exact .nil _ _ | exact .litn _ _ _ | exact .lit _ _ | exact .asl _ _ _ _ _ rfl rfl | exact .asln _ _ _ _ _ _ _ rfl rfl | exact .emp _ _ _ _))) : RetG P rs R .ret σ := ⟨cs, ds, h0, h1, h2⟩
theorem RGL_n {rs : List ResultVar} {L : List Nat} {R : List AVal → List Obj → Prop} {σ : St} {vs cs : List AVal} (hR : R cs (L.map σ.H)) (h0 : ResVL P σ rs vs := by repeat (first | exact .nil | (apply ResVL.cons; first | exact .tmp _ | exact .row rfl rfl CRow.o rfl (by first | exact .d _ | exact .agg _) | exact .one rfl rfl CCell.o))) (h : RAL σ.H vs cs := by repeat (first | exact .nil | (apply RAL.cons; first | exact .d (.d _) | exact .d (.nil _ _) | exact .d (.litn _ _ _) | exact .d (.lit _ _) | exact .d (.asl _ _ _ _ _ rfl rfl) | exact .d (.asln _ _ _ _ _ _ _ rfl rfl) | exact .d (.emp _ _ _ _) | exact .same _))) : RetGL P rs L R .normal σ := ⟨vs, cs, h0, h, hR⟩
theorem RGL_ret {rs : List ResultVar} {L : List Nat} {R : List AVal → List Obj → Prop} {σ : St} {vs cs : List AVal} (hR : R cs (L.map σ.H)) (h0 : ResVL P σ rs vs := by repeat (first | exact .nil | (apply ResVL.cons; first | exact .tmp _ | exact .row rfl rfl CRow.o rfl (by first | exact .d _ | exact .agg _) | exact .one rfl rfl CCell.o))) (h : RAL σ.H vs cs := by repeat (first | exact .nil | (apply RAL.cons; first | exact .d (.d _) | exact .d (.nil _ _) | exact .d (.litn _ _ _) | exact .d (.lit _ _) | exact .d (.asl _ _ _ _ _ rfl rfl) | exact .d (.asln _ _ _ _ _ _ _ rfl rfl) | exact .d (.emp _ _ _ _) | exact .same _))) : RetGL P rs L R .ret σ := ⟨vs, cs, h0, h, hR⟩
theorem TL_calL {ops : Array Oper} {Q : Exit → St → Prop} {σ : St} {o : Oper} {rest : List Oper} {dst : Nat} {fo : Operand} {xs : Array Operand} {ats : Array TypeId} {f : FuncId} {caps : List AVal} {L : List Nat} {args : List AVal} {os : List Obj} {R : List AVal → List Obj → Prop} (hfn : FunOk P f) (h : PCL P f L args os R) (K : ∀ cs os', R cs os' → TL P β ops Q rest ((setL σ L os').put dst (resAV cs)))
    (hg : o.guard = none := by rfl) (ho : o.op = .call { callee := .value fo, args := xs, argTypes := ats } := by rfl) (hd : o.dst = some dst := by rfl) (hdn : Nat.blt dst β.n = true := by rfl) (hf : aev σ fo = .clo f caps := by rfl) (hos : L.map σ.H = os := by rfl) (ha : RAL σ.H (xs.toList.map (aev σ) ++ caps) args := by repeat (first | exact .nil | (apply RAL.cons; first | exact .d (.d _) | exact .d (.nil _ _) | exact .d (.litn _ _ _) | exact .d (.lit _ _) | exact .d (.asl _ _ _ _ _ rfl rfl) | exact .d (.asln _ _ _ _ _ _ _ rfl rfl) | exact .d (.emp _ _ _ _) | exact .same _)))
    (hna : ∀ j, L.contains j = true → (hL L os j).isArr = true → NoRefE j σ.env ∧ ∀ i, L.contains i = false → (σ.H i).noRef j = true := by exact noArr rfl) : TL P β ops Q (o :: rest) σ := TL_callL hg ho hd hdn hf hfn hos ha hna h K
end Go.Q
