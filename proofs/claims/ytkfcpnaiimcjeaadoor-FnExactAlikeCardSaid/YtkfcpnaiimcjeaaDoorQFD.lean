/- Contracts of functions of the program, each under the conditions that its statement names. -/
import Derived.Test.YtkfcpnaiimcjeaaDoorQFC
import Derived.Test.YtkfcpnaiimcjeaaDoorQTxt
import Derived.Test.YtkfcpnaiimcjeaaDoorQJoin
set_option linter.unusedVariables false
set_option linter.unusedSimpArgs false
namespace Go.Proofs
open Go.Q
attribute [local irreducible] Go.Q.GStep Go.Q.SStep Go.Q.T Go.Q.TL Go.Q.PC Go.Q.DGo
set_option maxHeartbeats 4000000 in
theorem PC_expText1 (r : Rule) (k : Int) (e : Q.Exp) (h0 : 0 ≤ k) (he : r.exps[k.toNat]? = some e) (hx : ∀ (w : World) (F : Fz), PC Tryd.prog 75 w F [.d r.d, .d (di k)] (· = [ds (at_ r.outs k)])) (hb : (at_ r.outs k).length ≤ 281474976710656) (w : World) (F : Fz)  : PC Tryd.prog 82 w F [.d (di k), .d (.pt r.cells 0)] (· = [ds (side r.exps r.outs k)]) := by
  refine PC_of_T' (rs := [3]) (n := 19) Tryd.func82 rfl rfl rfl rfl ?_
  refine T_seq ?_
  refine T_region ?_
  refine TL_x ?_
  refine TL_nil ?_
  refine EThen_n ?_
  refine T_seq ?_
  refine T_seq ?_
  refine T_region ?_
  iterate 3 refine TL_x ?_
  first | refine TL_o rfl rfl rfl (g_index_sl rfl rfl rfl Ty.s31 (by omega) (get_map he)) ?_ | refine TL_o rfl rfl rfl (g_index_lit rfl rfl rfl Ty.s31 (by omega) (get_map he)) ?_ | refine TL_o rfl rfl rfl (g_index_asl rfl rfl rfl rfl rfl Ty.s31 (by omega) (get_map he)) ?_
  iterate 2 refine TL_x ?_
  refine TL_o rfl rfl rfl (c_call rfl rfl Fk.ok71 (fun w F => PC_isSum e.kind w F)) ?_
  refine TL_nil ?_
  refine EThen_n ?_
  refine T_cond rfl ?_ ?_
  ·
    intro hc
    refine T_seq ?_
    refine T_region ?_
    iterate 2 refine TL_x ?_
    refine TL_o rfl rfl rfl (c_call rfl rfl Fk.ok75 (fun w F => hx w F)) ?_
    iterate 3 refine TL_x ?_
    refine TL_nil ?_
    refine EThen_n ?_
    refine T_ret ?_
    refine EThen_ret ?_
    refine Ret_ret ?_
    simp [side, kindAt, he, hc]
  ·
    intro hc
    refine T_skip ?_
    refine EThen_n ?_
    refine T_seq ?_
    refine T_region ?_
    iterate 2 refine TL_x ?_
    refine TL_o rfl rfl rfl (c_call rfl rfl Fk.ok75 (fun w F => hx w F)) ?_
    refine TL_x ?_
    refine TL_nil ?_
    refine EThen_n ?_
    refine T_ret ?_
    refine Ret_ret ?_
    simp [side, kindAt, he, hc]

set_option maxHeartbeats 4000000 in
theorem PC_expTexts (r : Rule) (l : List Int) (hx : ∀ k ∈ l, ∀ (w : World) (F : Fz), PC Tryd.prog 75 w F [.d r.d, .d (di k)] (· = [ds (at_ r.outs k)])) (hl : l.length ≤ 4294967296) (hb : (joinC (l.map (at_ r.outs))).length ≤ 140737488355328) (w : World) (F : Fz)  : PC Tryd.prog 76 w F [.d (r.d), .d (dints l)] (· = [ds (joinC (l.map (at_ r.outs)))]) := by
  refine PC_of_T' (rs := [4]) (n := 24) Tryd.func76 rfl rfl rfl rfl ?_
  refine T_seq ?_
  refine T_region ?_
  refine TL_box 2 ?_
  refine TL_x ?_
  refine TL_nil ?_
  refine EThen_n ?_
  refine T_seq ?_
  refine T_region ?_
  refine TL_s rfl (s_buildSlice (id := 8) rfl rfl rfl Ty.e60 rfl rfl rfl .nil rfl rfl rfl (by repeat (first | exact noRefE0 | exact noRefE_envOf | exact noRefE_envA rfl | refine noRefE_upd rfl ?_)) (by repeat (first | exact noRefH0 | refine noRefH_upd rfl ?_))) ?_
  refine TL_x ?_
  refine TL_nil ?_
  refine EThen_n ?_
  refine T_seq ?_
  refine T_seq ?_
  refine T_region ?_
  iterate 3 refine TL_x ?_
  refine TL_nil ?_
  refine EThen_n ?_
  refine T_block ?_
  refine T_loopF (α := Nat × List Bs) (fun x => ⟨(upd (upd (upd (upd (upd env0 2 (.box 2 0)) 5 (.asl 8 x.2.length)) 9 (.d (dints l))) 10 (.d (di ((l.map di).length : Int)))) 11 (.d (di (x.1 : Int)))), (upd (upd H0 2 (.box [.d (dexps r.exps), .d (di r.head.kind), .d (ds r.head.name), .d (dints r.head.args), .d (dlits r.body)])) 8 (.arr true 1 9 (x.2.map ds)))⟩) (fun x => x.1 ≤ l.length ∧ x.2 = (l.take x.1).map (at_ r.outs)) (fun x => l.length - x.1) (0, []) (fgt_intro (fgt_upd rfl (fgt_upd rfl (fgt_upd rfl (fgt_upd rfl (fgt_upd rfl fgt_env0))))) (fgt_updH rfl (fgt_updH rfl fgt_H0))) ?_ ?_
  · exact ⟨Nat.zero_le _, rfl⟩
  rintro x ⟨hx1, hx2⟩
  refine T_seq ?_
  refine T_region ?_
  refine TL_x ?_
  refine TL_nil ?_
  refine EThen_n ?_
  refine T_seq ?_
  refine T_cond rfl ?_ ?_
  ·
    intro hc
    have hlt : x.1 < l.length := by simpa using hc
    obtain ⟨a, ha⟩ := get_some hlt
    have hxl : x.2.length = x.1 := by rw [hx2]; simp; omega
    refine T_skip ?_
    refine EThen_n ?_
    refine T_seq ?_
    refine T_block ?_
    refine T_seq ?_
    refine T_region ?_
    first | refine TL_o rfl rfl rfl (g_index_sl rfl rfl rfl Ty.s23 (by omega) (get_map ha)) ?_ | refine TL_o rfl rfl rfl (g_index_lit rfl rfl rfl Ty.s23 (by omega) (get_map ha)) ?_ | refine TL_o rfl rfl rfl (g_index_asl rfl rfl rfl rfl rfl Ty.s23 (by omega) (get_map ha)) ?_
    iterate 2 refine TL_x ?_
    refine TL_nil ?_
    refine EThen_n ?_
    refine T_region ?_
    iterate 3 refine TL_x ?_
    refine TL_o rfl rfl rfl (c_call rfl rfl Fk.ok75 (fun w F => hx a (List.mem_of_getElem? ha) w F)) ?_
    refine TL_x ?_
    refine TL_s rfl (s_append_to (l' := (x.2 ++ [at_ r.outs a]).map ds) (m := (x.2 ++ [at_ r.outs a]).length) rfl rfl rfl rfl rfl (by simp) (by first | exact .asl _ _ _ _ _ rfl rfl | exact .lit _ | exact .d _ _ | exact .nil) Ty.e60 (by simp) (by simp) (by simp; omega) (by unfold maxLen; simp; omega)) ?_
    refine TL_x ?_
    refine TL_nil ?_
    refine EBlock_n ?_
    refine EThen_n ?_
    refine T_region ?_
    iterate 2 refine TL_x ?_
    refine TL_nil ?_
    refine EThen_n ⟨(x.1 + 1, x.2 ++ [at_ r.outs a]), (fgt_intro (fgt_upd rfl (fgt_upd rfl (fgt_upd rfl (fgt_upd rfl (fgt_upd rfl fgt_env0))))) (fgt_updH rfl (fgt_updH rfl fgt_H0))), ?_, ?_⟩
    · exact ⟨hlt, by rw [hx2, take_snoc ha, List.map_append]; rfl⟩
    · dsimp only; omega
  ·
    intro hc
    have hlast : ¬ x.1 < l.length := by simpa using hc
    have hxl : x.2 = l.map (at_ r.outs) := by rw [hx2, List.take_of_length_le (by omega)]
    refine T_exit ?_
    refine EThen_exit ?_
    refine EThen_exit ?_
    refine EBlock_same ?_
    refine EThen_n ?_
    refine T_seq ?_
    refine T_freeze 8 rfl ?_
    refine T_region ?_
    refine TL_x ?_
    refine TL_o rfl rfl rfl (c_call rfl rfl Fk.ok66 (fun w F => PC_Join x.2 [44, 32] (by rw [hxl]; simp; omega) (by rw [hxl]; exact hb) w F) (.cons (.d (.asl _ _ _ _ _ rfl (by simp))) (.cons (by first | exact .d (.d _) | exact .d (.nil _ _) | exact .d (.litn _ _ _) | exact .d (.lit _ _) | exact .d (.asl _ _ _ _ _ rfl rfl) | exact .d (.asln _ _ _ _ _ _ _ rfl rfl) | exact .fnv _ | exact .d (.emp _ _ _ _)) .nil))) ?_
    refine TL_x ?_
    refine TL_nil ?_
    refine EThen_n ?_
    refine T_ret ?_
    refine Ret_ret ?_
    rw [hxl]

set_option maxHeartbeats 4000000 in
theorem PC_expText0 (r : Rule) (hf : r.formed = true) (hw : r.wt ≤ 4294967296) (i : Nat) (e : Q.Exp) (he : r.exps[i]? = some e) (hx : ∀ k ∈ e.kids, ∀ (w : World) (F : Fz), PC Tryd.prog 75 w F [.d r.d, .d (di k)] (· = [ds (at_ r.outs k)])) (w : World) (F : Fz)  : PC Tryd.prog 75 w F [.d (r.d), .d (di (i : Int))] (· = [ds (at_ r.outs (i : Int))]) := by
  have hok := exp_ok hf he
  rw [at_eq hf he]
  have hkb := kids_bound hf he
  have hew := wt_mem (List.mem_of_getElem? he)
  have hwr : r.wt = wtE r.exps + wtL r.lits := rfl
  have hkl := @kidsLen e
  have htl := @textLen e
  have hjl := joinK_len hkb (Nat.le_refl e.kids.length)
  have hob := out_bound hf
  refine PC_of_T' (rs := [4]) (n := 60) Tryd.func75 rfl rfl rfl rfl ?_
  refine T_seq ?_
  refine T_region ?_
  refine TL_box 2 ?_
  refine TL_x ?_
  refine TL_nil ?_
  refine EThen_n ?_
  refine T_seq ?_
  refine T_region ?_
  iterate 3 refine TL_x ?_
  first | refine TL_o rfl rfl rfl (g_index_sl rfl rfl rfl Ty.s31 (by omega) (get_map (by simpa using he))) ?_ | refine TL_o rfl rfl rfl (g_index_lit rfl rfl rfl Ty.s31 (by omega) (get_map (by simpa using he))) ?_ | refine TL_o rfl rfl rfl (g_index_asl rfl rfl rfl rfl rfl Ty.s31 (by omega) (get_map (by simpa using he))) ?_
  refine TL_x ?_
  refine TL_alloc 5 ?_
  refine TL_store ?_
  refine TL_nil ?_
  refine EThen_n ?_
  refine T_seq ?_
  refine T_seq ?_
  refine T_region ?_
  iterate 2 refine TL_x ?_
  refine TL_nil ?_
  refine EThen_n ?_
  refine T_block ?_
  refine T_seq ?_
  refine T_region ?_
  iterate 2 refine TL_x ?_
  refine TL_nil ?_
  refine EThen_n ?_
  refine T_cond rfl ?_ ?_
  ·
    intro hc
    refine T_seq ?_
    refine T_region ?_
    refine TL_x ?_
    refine TL_nil ?_
    refine EThen_n ?_
    refine T_ret ?_
    refine EBlock_ret ?_
    refine EThen_ret ?_
    refine Ret_ret ?_
    clear hx hob hkb hjl; first | (rw [hab] at *; simp at hc; simp [Exp.txt, hsum, hab]; simp [Q.isSum, inR] at hsum; refine ⟨?_, ?_⟩ <;> omega) | (simp at *; simp [Exp.txt, Q.isSum, inR, *]; done) | (simp at *; simp [Exp.txt, Q.isSum, inR, *]; first | rfl | omega | (rw [if_neg (by omega)]))
  ·
    intro hc
    refine T_seq ?_
    refine T_region ?_
    iterate 2 refine TL_x ?_
    refine TL_nil ?_
    refine EThen_n ?_
    refine T_cond rfl ?_ ?_
    ·
      intro hc
      refine T_seq ?_
      refine T_region ?_
      iterate 4 refine TL_x ?_
      refine TL_nil ?_
      refine EThen_n ?_
      refine T_cond rfl ?_ ?_
      ·
        intro hc
        refine T_seq ?_
        have hkk : e.kids.length ≤ 4294967296 := by omega
        refine T_draw 10 Ty.mixed rfl ?_
        iterate 2 refine DGo_x ?_
        refine DGo_one rfl rfl (.go _ rfl (g_sadd rfl rfl rfl (by simp; omega))) ?_
        iterate 3 refine DGo_x ?_
        refine DGo_one rfl rfl (.go _ rfl (c_call rfl rfl Fk.ok76 (fun w F => PC_expTexts r e.kids hx (by omega) (by omega) w F))) ?_
        refine DGo_one rfl rfl (.go _ rfl (g_sadd rfl rfl rfl (by simp; omega))) ?_
        refine DGo_one rfl rfl (.go _ rfl (g_sadd rfl rfl rfl (by simp; omega))) ?_
        refine DGo_x ?_
        refine DGo_nil ?_
        refine TL_nil ?_
        refine EThen_n ?_
        refine T_ret ?_
        refine EBlock_ret ?_
        refine EThen_ret ?_
        refine Ret_ret ?_
        clear hx hob hkb hjl; first | (rw [hab] at *; simp at hc; simp [Exp.txt, hsum, hab]; simp [Q.isSum, inR] at hsum; refine ⟨?_, ?_⟩ <;> omega) | (simp at *; simp [Exp.txt, Q.isSum, inR, *]; done) | (simp at *; simp [Exp.txt, Q.isSum, inR, *]; first | rfl | omega | (rw [if_neg (by omega)]))
      ·
        intro hc
        refine T_skip ?_
        refine EBlock_n ?_
        refine EThen_n ?_
        refine T_seq ?_
        refine T_region ?_
        iterate 3 refine TL_x ?_
        refine TL_nil ?_
        refine EThen_n ?_
        refine T_ret ?_
        refine Ret_ret ?_
        clear hx hob hkb hjl; first | (rw [hab] at *; simp at hc; simp [Exp.txt, hsum, hab]; simp [Q.isSum, inR] at hsum; refine ⟨?_, ?_⟩ <;> omega) | (simp at *; simp [Exp.txt, Q.isSum, inR, *]; done) | (simp at *; simp [Exp.txt, Q.isSum, inR, *]; first | rfl | omega | (rw [if_neg (by omega)]))
    ·
      intro hc
      refine T_seq ?_
      refine T_seq ?_
      refine T_region ?_
      iterate 2 refine TL_x ?_
      refine TL_nil ?_
      refine EThen_n ?_
      refine T_cond rfl ?_ ?_
      ·
        intro hc
        have hck31 := hc
        refine T_skip ?_
        refine EThen_n ?_
        refine T_cond_ht rfl hck31 ?_
        refine T_seq ?_
        have hsum : Q.isSum e.kind = true := by simp [Q.isSum, inR]; simp at *; omega
        obtain ⟨a, b, hab⟩ := sum_two hok hsum
        rw [hab] at hx
        have hka := kids_in hok (k := a) (by rw [hab]; simp)
        have hkb2 := kids_in hok (k := b) (by rw [hab]; simp)
        obtain ⟨ea, hea⟩ := get_some (l := r.exps) (i := a.toNat) (by have := (List.getElem?_eq_some_iff.1 he).1; omega)
        obtain ⟨eb, heb⟩ := get_some (l := r.exps) (i := b.toNat) (by have := (List.getElem?_eq_some_iff.1 he).1; omega)
        have ha1 := hob a
        have hb1 := hob b
        have ha2 := side_len r.exps r.outs a
        have hb2 := side_len r.exps r.outs b
        have hop := opB_len e.kind
        refine T_freezeBox 2 2 0 rfl rfl (.cons (.d _) (.cons (.d _) (.cons (.d _) (.cons (.d _) (.cons (.d _) .nil))))) ?_
        refine T_region ?_
        iterate 2 refine TL_x ?_
        refine TL_nil ?_
        refine EThen_n ?_
        refine T_seq ?_
        refine T_draw 23 Ty.mixed rfl ?_
        iterate 3 refine DGo_x ?_
        first | refine DGo_one rfl rfl (.go _ rfl (g_index_sl rfl rfl rfl Ty.s23 (by omega) (get_map (by rw [hab]; rfl)))) ?_ | refine DGo_one rfl rfl (.go _ rfl (g_index_lit rfl rfl rfl Ty.s23 (by omega) (get_map (by rw [hab]; rfl)))) ?_ | refine DGo_one rfl rfl (.go _ rfl (g_index_asl rfl rfl rfl rfl rfl Ty.s23 (by omega) (get_map (by rw [hab]; rfl)))) ?_
        refine DGo_x ?_
        refine DGo_one rfl rfl (.go _ rfl (c_call rfl rfl Fk.ok82 (fun w F => PC_expText1 r a ea hka.1 hea (hx a (by simp)) (by omega) w F))) ?_
        refine DGo_one rfl rfl (.go _ rfl (g_sadd rfl rfl rfl (by simp; omega))) ?_
        iterate 3 refine DGo_x ?_
        refine DGo_one rfl rfl (.go _ rfl (g_sub rfl rfl rfl (wr64 _ (by have := (op_get hsum).1; simp [Q.isSum, inR] at hsum; omega)))) ?_
        first | refine DGo_one rfl rfl (.go _ rfl (g_index_sl rfl rfl rfl Ty.s60 (op_get hsum).1 (op_get hsum).2)) ?_ | refine DGo_one rfl rfl (.go _ rfl (g_index_lit rfl rfl rfl Ty.s60 (op_get hsum).1 (op_get hsum).2)) ?_ | refine DGo_one rfl rfl (.go _ rfl (g_index_asl rfl rfl rfl rfl rfl Ty.s60 (op_get hsum).1 (op_get hsum).2)) ?_
        refine DGo_x ?_
        refine DGo_one rfl rfl (.go _ rfl (g_sadd rfl rfl rfl (by simp; omega))) ?_
        refine DGo_one rfl rfl (.go _ rfl (g_sadd rfl rfl rfl (by simp; omega))) ?_
        iterate 3 refine DGo_x ?_
        first | refine DGo_one rfl rfl (.go _ rfl (g_index_sl rfl rfl rfl Ty.s23 (by omega) (get_map (by rw [hab]; rfl)))) ?_ | refine DGo_one rfl rfl (.go _ rfl (g_index_lit rfl rfl rfl Ty.s23 (by omega) (get_map (by rw [hab]; rfl)))) ?_ | refine DGo_one rfl rfl (.go _ rfl (g_index_asl rfl rfl rfl rfl rfl Ty.s23 (by omega) (get_map (by rw [hab]; rfl)))) ?_
        refine DGo_x ?_
        refine DGo_one rfl rfl (.go _ rfl (c_call rfl rfl Fk.ok82 (fun w F => PC_expText1 r b eb hkb2.1 heb (hx b (by simp)) (by omega) w F))) ?_
        refine DGo_one rfl rfl (.go _ rfl (g_sadd rfl rfl rfl (by simp; omega))) ?_
        refine DGo_x ?_
        refine DGo_nil ?_
        refine TL_nil ?_
        refine EThen_n ?_
        refine T_ret ?_
        refine EBlock_ret ?_
        refine EThen_ret ?_
        refine Ret_ret ?_
        clear hx hob hkb hjl; first | (rw [hab] at *; simp at hc; simp [Exp.txt, hsum, hab]; simp [Q.isSum, inR] at hsum; refine ⟨?_, ?_⟩ <;> omega) | (simp at *; simp [Exp.txt, Q.isSum, inR, *]; done) | (simp at *; simp [Exp.txt, Q.isSum, inR, *]; first | rfl | omega | (rw [if_neg (by omega)]))
      ·
        intro hc
        have hck31 := hc
        refine T_seq ?_
        refine T_region ?_
        iterate 2 refine TL_x ?_
        refine TL_nil ?_
        refine EThen_n ?_
        refine T_cond rfl ?_ ?_
        ·
          intro hc
          have hck31 := hc
          refine T_skip ?_
          refine EThen_n ?_
          refine T_cond_ht rfl hck31 ?_
          refine T_seq ?_
          have hsum : Q.isSum e.kind = true := by simp [Q.isSum, inR]; simp at *; omega
          obtain ⟨a, b, hab⟩ := sum_two hok hsum
          rw [hab] at hx
          have hka := kids_in hok (k := a) (by rw [hab]; simp)
          have hkb2 := kids_in hok (k := b) (by rw [hab]; simp)
          obtain ⟨ea, hea⟩ := get_some (l := r.exps) (i := a.toNat) (by have := (List.getElem?_eq_some_iff.1 he).1; omega)
          obtain ⟨eb, heb⟩ := get_some (l := r.exps) (i := b.toNat) (by have := (List.getElem?_eq_some_iff.1 he).1; omega)
          have ha1 := hob a
          have hb1 := hob b
          have ha2 := side_len r.exps r.outs a
          have hb2 := side_len r.exps r.outs b
          have hop := opB_len e.kind
          refine T_freezeBox 2 2 0 rfl rfl (.cons (.d _) (.cons (.d _) (.cons (.d _) (.cons (.d _) (.cons (.d _) .nil))))) ?_
          refine T_region ?_
          iterate 2 refine TL_x ?_
          refine TL_nil ?_
          refine EThen_n ?_
          refine T_seq ?_
          refine T_draw 23 Ty.mixed rfl ?_
          iterate 3 refine DGo_x ?_
          first | refine DGo_one rfl rfl (.go _ rfl (g_index_sl rfl rfl rfl Ty.s23 (by omega) (get_map (by rw [hab]; rfl)))) ?_ | refine DGo_one rfl rfl (.go _ rfl (g_index_lit rfl rfl rfl Ty.s23 (by omega) (get_map (by rw [hab]; rfl)))) ?_ | refine DGo_one rfl rfl (.go _ rfl (g_index_asl rfl rfl rfl rfl rfl Ty.s23 (by omega) (get_map (by rw [hab]; rfl)))) ?_
          refine DGo_x ?_
          refine DGo_one rfl rfl (.go _ rfl (c_call rfl rfl Fk.ok82 (fun w F => PC_expText1 r a ea hka.1 hea (hx a (by simp)) (by omega) w F))) ?_
          refine DGo_one rfl rfl (.go _ rfl (g_sadd rfl rfl rfl (by simp; omega))) ?_
          iterate 3 refine DGo_x ?_
          refine DGo_one rfl rfl (.go _ rfl (g_sub rfl rfl rfl (wr64 _ (by have := (op_get hsum).1; simp [Q.isSum, inR] at hsum; omega)))) ?_
          first | refine DGo_one rfl rfl (.go _ rfl (g_index_sl rfl rfl rfl Ty.s60 (op_get hsum).1 (op_get hsum).2)) ?_ | refine DGo_one rfl rfl (.go _ rfl (g_index_lit rfl rfl rfl Ty.s60 (op_get hsum).1 (op_get hsum).2)) ?_ | refine DGo_one rfl rfl (.go _ rfl (g_index_asl rfl rfl rfl rfl rfl Ty.s60 (op_get hsum).1 (op_get hsum).2)) ?_
          refine DGo_x ?_
          refine DGo_one rfl rfl (.go _ rfl (g_sadd rfl rfl rfl (by simp; omega))) ?_
          refine DGo_one rfl rfl (.go _ rfl (g_sadd rfl rfl rfl (by simp; omega))) ?_
          iterate 3 refine DGo_x ?_
          first | refine DGo_one rfl rfl (.go _ rfl (g_index_sl rfl rfl rfl Ty.s23 (by omega) (get_map (by rw [hab]; rfl)))) ?_ | refine DGo_one rfl rfl (.go _ rfl (g_index_lit rfl rfl rfl Ty.s23 (by omega) (get_map (by rw [hab]; rfl)))) ?_ | refine DGo_one rfl rfl (.go _ rfl (g_index_asl rfl rfl rfl rfl rfl Ty.s23 (by omega) (get_map (by rw [hab]; rfl)))) ?_
          refine DGo_x ?_
          refine DGo_one rfl rfl (.go _ rfl (c_call rfl rfl Fk.ok82 (fun w F => PC_expText1 r b eb hkb2.1 heb (hx b (by simp)) (by omega) w F))) ?_
          refine DGo_one rfl rfl (.go _ rfl (g_sadd rfl rfl rfl (by simp; omega))) ?_
          refine DGo_x ?_
          refine DGo_nil ?_
          refine TL_nil ?_
          refine EThen_n ?_
          refine T_ret ?_
          refine EBlock_ret ?_
          refine EThen_ret ?_
          refine Ret_ret ?_
          clear hx hob hkb hjl; first | (rw [hab] at *; simp at hc; simp [Exp.txt, hsum, hab]; simp [Q.isSum, inR] at hsum; refine ⟨?_, ?_⟩ <;> omega) | (simp at *; simp [Exp.txt, Q.isSum, inR, *]; done) | (simp at *; simp [Exp.txt, Q.isSum, inR, *]; first | rfl | omega | (rw [if_neg (by omega)]))
        ·
          intro hc
          have hck31 := hc
          refine T_region ?_
          iterate 2 refine TL_x ?_
          refine TL_nil ?_
          refine EThen_n ?_
          refine T_cond rfl ?_ ?_
          ·
            intro hc
            have hck31 := hc
            refine T_seq ?_
            have hsum : Q.isSum e.kind = true := by simp [Q.isSum, inR]; simp at *; omega
            obtain ⟨a, b, hab⟩ := sum_two hok hsum
            rw [hab] at hx
            have hka := kids_in hok (k := a) (by rw [hab]; simp)
            have hkb2 := kids_in hok (k := b) (by rw [hab]; simp)
            obtain ⟨ea, hea⟩ := get_some (l := r.exps) (i := a.toNat) (by have := (List.getElem?_eq_some_iff.1 he).1; omega)
            obtain ⟨eb, heb⟩ := get_some (l := r.exps) (i := b.toNat) (by have := (List.getElem?_eq_some_iff.1 he).1; omega)
            have ha1 := hob a
            have hb1 := hob b
            have ha2 := side_len r.exps r.outs a
            have hb2 := side_len r.exps r.outs b
            have hop := opB_len e.kind
            refine T_freezeBox 2 2 0 rfl rfl (.cons (.d _) (.cons (.d _) (.cons (.d _) (.cons (.d _) (.cons (.d _) .nil))))) ?_
            refine T_region ?_
            iterate 2 refine TL_x ?_
            refine TL_nil ?_
            refine EThen_n ?_
            refine T_seq ?_
            refine T_draw 23 Ty.mixed rfl ?_
            iterate 3 refine DGo_x ?_
            first | refine DGo_one rfl rfl (.go _ rfl (g_index_sl rfl rfl rfl Ty.s23 (by omega) (get_map (by rw [hab]; rfl)))) ?_ | refine DGo_one rfl rfl (.go _ rfl (g_index_lit rfl rfl rfl Ty.s23 (by omega) (get_map (by rw [hab]; rfl)))) ?_ | refine DGo_one rfl rfl (.go _ rfl (g_index_asl rfl rfl rfl rfl rfl Ty.s23 (by omega) (get_map (by rw [hab]; rfl)))) ?_
            refine DGo_x ?_
            refine DGo_one rfl rfl (.go _ rfl (c_call rfl rfl Fk.ok82 (fun w F => PC_expText1 r a ea hka.1 hea (hx a (by simp)) (by omega) w F))) ?_
            refine DGo_one rfl rfl (.go _ rfl (g_sadd rfl rfl rfl (by simp; omega))) ?_
            iterate 3 refine DGo_x ?_
            refine DGo_one rfl rfl (.go _ rfl (g_sub rfl rfl rfl (wr64 _ (by have := (op_get hsum).1; simp [Q.isSum, inR] at hsum; omega)))) ?_
            first | refine DGo_one rfl rfl (.go _ rfl (g_index_sl rfl rfl rfl Ty.s60 (op_get hsum).1 (op_get hsum).2)) ?_ | refine DGo_one rfl rfl (.go _ rfl (g_index_lit rfl rfl rfl Ty.s60 (op_get hsum).1 (op_get hsum).2)) ?_ | refine DGo_one rfl rfl (.go _ rfl (g_index_asl rfl rfl rfl rfl rfl Ty.s60 (op_get hsum).1 (op_get hsum).2)) ?_
            refine DGo_x ?_
            refine DGo_one rfl rfl (.go _ rfl (g_sadd rfl rfl rfl (by simp; omega))) ?_
            refine DGo_one rfl rfl (.go _ rfl (g_sadd rfl rfl rfl (by simp; omega))) ?_
            iterate 3 refine DGo_x ?_
            first | refine DGo_one rfl rfl (.go _ rfl (g_index_sl rfl rfl rfl Ty.s23 (by omega) (get_map (by rw [hab]; rfl)))) ?_ | refine DGo_one rfl rfl (.go _ rfl (g_index_lit rfl rfl rfl Ty.s23 (by omega) (get_map (by rw [hab]; rfl)))) ?_ | refine DGo_one rfl rfl (.go _ rfl (g_index_asl rfl rfl rfl rfl rfl Ty.s23 (by omega) (get_map (by rw [hab]; rfl)))) ?_
            refine DGo_x ?_
            refine DGo_one rfl rfl (.go _ rfl (c_call rfl rfl Fk.ok82 (fun w F => PC_expText1 r b eb hkb2.1 heb (hx b (by simp)) (by omega) w F))) ?_
            refine DGo_one rfl rfl (.go _ rfl (g_sadd rfl rfl rfl (by simp; omega))) ?_
            refine DGo_x ?_
            refine DGo_nil ?_
            refine TL_nil ?_
            refine EThen_n ?_
            refine T_ret ?_
            refine EBlock_ret ?_
            refine EThen_ret ?_
            refine Ret_ret ?_
            clear hx hob hkb hjl; first | (rw [hab] at *; simp at hc; simp [Exp.txt, hsum, hab]; simp [Q.isSum, inR] at hsum; refine ⟨?_, ?_⟩ <;> omega) | (simp at *; simp [Exp.txt, Q.isSum, inR, *]; done) | (simp at *; simp [Exp.txt, Q.isSum, inR, *]; first | rfl | omega | (rw [if_neg (by omega)]))
          ·
            intro hc
            have hck31 := hc
            refine T_skip ?_
            refine EBlock_n ?_
            refine EThen_n ?_
            refine T_seq ?_
            refine T_region ?_
            iterate 3 refine TL_x ?_
            refine TL_nil ?_
            refine EThen_n ?_
            refine T_ret ?_
            refine Ret_ret ?_
            clear hx hob hkb hjl; first | (rw [hab] at *; simp at hc; simp [Exp.txt, hsum, hab]; simp [Q.isSum, inR] at hsum; refine ⟨?_, ?_⟩ <;> omega) | (simp at *; simp [Exp.txt, Q.isSum, inR, *]; done) | (simp at *; simp [Exp.txt, Q.isSum, inR, *]; first | rfl | omega | (rw [if_neg (by omega)]))

theorem PC_expTextN (r : Rule) (hf : r.formed = true) (hw : r.wt ≤ 4294967296) (i : Nat) : ∀ (e : Q.Exp), r.exps[i]? = some e → ∀ (w : World) (F : Fz), PC Tryd.prog 75 w F [.d r.d, .d (di (i : Int))] (· = [ds (at_ r.outs (i : Int))]) := by
  induction i using Nat.strongRecOn with
  | _ i ih =>
    intro e he w F
    refine PC_expText0 r hf hw i e he (fun k hk w F => ?_) w F
    have h1 := kids_in (exp_ok hf he) hk
    obtain ⟨j, rfl⟩ : ∃ j : Nat, k = j := ⟨k.toNat, by omega⟩
    obtain ⟨e', he'⟩ := get_some (l := r.exps) (i := j) (by have := (List.getElem?_eq_some_iff.1 he).1; omega)
    exact ih j (by omega) e' he' w F
theorem PC_expText (r : Rule) (hf : r.formed = true) (hw : r.wt ≤ 4294967296) (k : Int) (h : 0 ≤ k ∧ k < (r.exps.length : Int)) (w : World) (F : Fz) : PC Tryd.prog 75 w F [.d r.d, .d (di k)] (· = [ds (at_ r.outs k)]) := by
  obtain ⟨j, rfl⟩ : ∃ j : Nat, k = j := ⟨k.toNat, by omega⟩
  obtain ⟨e', he'⟩ := get_some (l := r.exps) (i := j) (by omega)
  exact PC_expTextN r hf hw j e' he' w F

set_option maxHeartbeats 4000000 in
theorem PC_litText (r : Rule) (hf : r.formed = true) (hw : r.wt ≤ 4294967296) (i : Nat) (l : Q.Lit) (hl : r.lits[i]? = some l) (w : World) (F : Fz)  : PC Tryd.prog 65 w F [.d (r.d), .d (l.d)] (· = [ds (l.txt r.outs)]) := by
  have hok := lit_ok hf hl
  have hab0 := args_bound hf (sub_lit hl)
  have hwr : r.wt = wtE r.exps + wtL r.lits := rfl
  have hew := wtL_mem (List.mem_of_getElem? hl)
  have hkl := @argsLen l
  have htl := @nameLen l
  have hjl := joinK_len hab0 (Nat.le_refl l.args.length)
  have hob := out_bound hf
  have hx : ∀ k ∈ l.args, ∀ (w : World) (F : Fz), PC Tryd.prog 75 w F [.d r.d, .d (di k)] (· = [ds (at_ r.outs k)]) := fun k hk w F => PC_expText r hf hw k (args_in hok hk) w F
  refine PC_of_T' (rs := [4]) (n := 48) Tryd.func65 rfl rfl rfl rfl ?_
  refine T_seq ?_
  refine T_region ?_
  refine TL_box 2 ?_
  refine TL_box 3 ?_
  refine TL_x ?_
  refine TL_nil ?_
  refine EThen_n ?_
  refine T_seq ?_
  refine T_seq ?_
  refine T_region ?_
  iterate 2 refine TL_x ?_
  refine TL_nil ?_
  refine EThen_n ?_
  refine T_block ?_
  refine T_seq ?_
  refine T_region ?_
  iterate 2 refine TL_x ?_
  refine TL_nil ?_
  refine EThen_n ?_
  refine T_cond rfl ?_ ?_
  ·
    intro hc
    refine T_seq ?_
    have h3 : l.kind = 3 := by simpa using hc
    obtain ⟨a, b, hab⟩ := lit_two hok h3
    have ha1 := hob a
    have hb1 := hob b
    rw [hab] at hx
    refine T_draw 19 Ty.mixed rfl ?_
    iterate 3 refine DGo_x ?_
    first | refine DGo_one rfl rfl (.go _ rfl (g_index_sl rfl rfl rfl Ty.s23 (by omega) (get_map (by rw [hab]; rfl)))) ?_ | refine DGo_one rfl rfl (.go _ rfl (g_index_lit rfl rfl rfl Ty.s23 (by omega) (get_map (by rw [hab]; rfl)))) ?_ | refine DGo_one rfl rfl (.go _ rfl (g_index_asl rfl rfl rfl rfl rfl Ty.s23 (by omega) (get_map (by rw [hab]; rfl)))) ?_
    refine DGo_x ?_
    refine DGo_one rfl rfl (.go _ rfl (c_call rfl rfl Fk.ok75 (fun w F => hx a (by simp) w F))) ?_
    iterate 8 refine DGo_x ?_
    first | refine DGo_one rfl rfl (.go _ rfl (g_index_sl rfl rfl rfl Ty.s23 (by omega) (get_map (by rw [hab]; rfl)))) ?_ | refine DGo_one rfl rfl (.go _ rfl (g_index_lit rfl rfl rfl Ty.s23 (by omega) (get_map (by rw [hab]; rfl)))) ?_ | refine DGo_one rfl rfl (.go _ rfl (g_index_asl rfl rfl rfl rfl rfl Ty.s23 (by omega) (get_map (by rw [hab]; rfl)))) ?_
    refine DGo_x ?_
    refine DGo_one rfl rfl (.go _ rfl (c_call rfl rfl Fk.ok75 (fun w F => hx b (by simp) w F))) ?_
    iterate 2 refine DGo_x ?_
    refine DGo_nil ?_
    refine TL_nil ?_
    refine EThen_n ?_
    refine T_ret ?_
    refine EBlock_ret ?_
    refine EThen_ret ?_
    refine Ret_ret ?_
    simp [Lit.txt, h3, hab]
  ·
    intro hc
    refine T_seq ?_
    refine T_region ?_
    iterate 2 refine TL_x ?_
    refine TL_nil ?_
    refine EThen_n ?_
    refine T_cond rfl ?_ ?_
    ·
      intro hc
      refine T_seq ?_
      refine T_draw 11 Ty.mixed rfl ?_
      iterate 7 refine DGo_x ?_
      refine DGo_one rfl rfl (.go _ rfl (c_call rfl rfl Fk.ok76 (fun w F => PC_expTexts r l.args hx (by omega) (by omega) w F))) ?_
      iterate 3 refine DGo_x ?_
      refine DGo_nil ?_
      refine TL_nil ?_
      refine EThen_n ?_
      refine T_ret ?_
      refine EBlock_ret ?_
      refine EThen_ret ?_
      refine Ret_ret ?_
      simp at *; simp [Lit.txt, *]
    ·
      intro hc
      refine T_skip ?_
      refine EBlock_n ?_
      refine EThen_n ?_
      refine T_seq ?_
      refine T_draw 10 Ty.mixed rfl ?_
      iterate 6 refine DGo_x ?_
      refine DGo_one rfl rfl (.go _ rfl (c_call rfl rfl Fk.ok76 (fun w F => PC_expTexts r l.args hx (by omega) (by omega) w F))) ?_
      iterate 3 refine DGo_x ?_
      refine DGo_nil ?_
      refine TL_nil ?_
      refine EThen_n ?_
      refine T_ret ?_
      refine Ret_ret ?_
      simp at *; simp [Lit.txt, *]

set_option maxHeartbeats 4000000 in
theorem PC_ruleText (r : Rule) (hw : r.wt ≤ 4294967296) (w : World) (F : Fz)  : PC Tryd.prog 46 w F [.d (r.d)] (· = [ds r.text]) := by
  have hs := Rule.small hw
  refine PC_of_T' (rs := [2]) (n := 43) Tryd.func46 rfl rfl rfl rfl ?_
  refine T_seq ?_
  refine T_region ?_
  refine TL_box 1 ?_
  refine TL_x ?_
  refine TL_nil ?_
  refine EThen_n ?_
  refine T_seq ?_
  refine T_seq ?_
  refine T_region ?_
  refine TL_x ?_
  refine TL_o rfl rfl rfl (c_call rfl rfl Fk.ok64 (fun w F => PC_isFormed r hs.1 hs.2.1 hs.2.2.1 hs.2.2.2.1 hs.2.2.2.2.1 w F)) ?_
  refine TL_x ?_
  refine TL_nil ?_
  refine EThen_n ?_
  refine T_cond rfl ?_ ?_
  ·
    intro hc
    refine T_seq ?_
    refine T_region ?_
    refine TL_x ?_
    refine TL_nil ?_
    refine EThen_n ?_
    refine T_ret ?_
    refine EThen_ret ?_
    refine Ret_ret ?_
    simp at hc; simp [Rule.text, hc]; rfl
  ·
    intro hc
    have hf : r.formed = true := by simpa using hc
    have htb := txt_bound hf
    have hsp := hs.2.1
    refine T_skip ?_
    refine EThen_n ?_
    refine T_seq ?_
    refine T_region ?_
    iterate 3 refine TL_x ?_
    refine TL_o rfl rfl rfl (c_call rfl rfl Fk.ok65 (fun w F => PC_litText r hf hw 0 r.head rfl w F)) ?_
    refine TL_x ?_
    refine TL_nil ?_
    refine EThen_n ?_
    refine T_seq ?_
    refine T_region ?_
    refine TL_s rfl (s_buildSlice (id := 14) rfl rfl rfl Ty.e60 rfl rfl rfl .nil rfl rfl rfl (by repeat (first | exact noRefE0 | exact noRefE_envOf | exact noRefE_envA rfl | refine noRefE_upd rfl ?_)) (by repeat (first | exact noRefH0 | refine noRefH_upd rfl ?_))) ?_
    refine TL_x ?_
    refine TL_nil ?_
    refine EThen_n ?_
    refine T_seq ?_
    refine T_seq ?_
    refine T_region ?_
    iterate 4 refine TL_x ?_
    refine TL_nil ?_
    refine EThen_n ?_
    refine T_block ?_
    refine T_loopF (α := Nat × List Bs) (fun x => ⟨(upd (upd (upd (upd (upd (upd env0 1 (.box 1 0)) 3 (.d (ds (r.head.txt r.outs)))) 4 (.asl 14 x.2.length)) 16 (.d (dlits r.body))) 17 (.d (di ((r.body.map Q.Lit.d).length : Int)))) 18 (.d (di (x.1 : Int)))), (upd (upd H0 1 (.box [.d (dexps r.exps), .d (di r.head.kind), .d (ds r.head.name), .d (dints r.head.args), .d (dlits r.body)])) 14 (.arr true 1 9 (x.2.map ds)))⟩) (fun x => x.1 ≤ r.body.length ∧ x.2 = (r.body.take x.1).map (·.txt r.outs)) (fun x => r.body.length - x.1) (0, []) (fgt_intro (fgt_upd rfl (fgt_upd rfl (fgt_upd rfl (fgt_upd rfl (fgt_upd rfl (fgt_upd rfl fgt_env0)))))) (fgt_updH rfl (fgt_updH rfl fgt_H0))) ?_ ?_
    · exact ⟨Nat.zero_le _, rfl⟩
    rintro x ⟨hx1, hx2⟩
    refine T_seq ?_
    refine T_region ?_
    refine TL_x ?_
    refine TL_nil ?_
    refine EThen_n ?_
    refine T_seq ?_
    refine T_cond rfl ?_ ?_
    ·
      intro hc
      have hlt : x.1 < r.body.length := by simpa using hc
      obtain ⟨l, hl⟩ := get_some hlt
      have hxl : x.2.length = x.1 := by rw [hx2]; simp; omega
      refine T_skip ?_
      refine EThen_n ?_
      refine T_seq ?_
      refine T_block ?_
      refine T_seq ?_
      refine T_region ?_
      first | refine TL_o rfl rfl rfl (g_index_sl rfl rfl rfl Ty.s33 (by omega) (get_map hl)) ?_ | refine TL_o rfl rfl rfl (g_index_lit rfl rfl rfl Ty.s33 (by omega) (get_map hl)) ?_ | refine TL_o rfl rfl rfl (g_index_asl rfl rfl rfl rfl rfl Ty.s33 (by omega) (get_map hl)) ?_
      refine TL_x ?_
      refine TL_alloc 6 ?_
      refine TL_store ?_
      refine TL_nil ?_
      refine EThen_n ?_
      refine T_region ?_
      iterate 3 refine TL_x ?_
      refine TL_o rfl rfl rfl (c_call rfl rfl Fk.ok65 (fun w F => PC_litText r hf hw (x.1 + 1) l (by simpa [Rule.lits] using hl) w F)) ?_
      refine TL_x ?_
      refine TL_s rfl (s_append_to (l' := (x.2 ++ [l.txt r.outs]).map ds) (m := (x.2 ++ [l.txt r.outs]).length) rfl rfl rfl rfl rfl (by simp) (by first | exact .asl _ _ _ _ _ rfl rfl | exact .lit _ | exact .d _ _ | exact .nil) Ty.e60 (by simp) (by simp) (by simp; omega) (by unfold maxLen; simp; omega)) ?_
      refine TL_x ?_
      refine TL_nil ?_
      refine EBlock_n ?_
      refine EThen_n ?_
      refine T_region ?_
      iterate 2 refine TL_x ?_
      refine TL_nil ?_
      refine EThen_n ⟨(x.1 + 1, x.2 ++ [l.txt r.outs]), (fgt_intro (fgt_upd rfl (fgt_upd rfl (fgt_upd rfl (fgt_upd rfl (fgt_upd rfl (fgt_upd rfl fgt_env0)))))) (fgt_updH rfl (fgt_updH rfl fgt_H0))), ?_, ?_⟩
      · exact ⟨hlt, by rw [hx2, take_snoc hl, List.map_append]; rfl⟩
      · dsimp only; omega
    ·
      intro hc
      have hlast : ¬ x.1 < r.body.length := by simpa using hc
      have hxl : x.2 = r.body.map (·.txt r.outs) := by rw [hx2, List.take_of_length_le (by omega)]
      have hj : (Lib.join x.2 [44, 32]).length ≤ 8589934592 := by rw [hxl]; exact Nat.le_trans (Nat.le_trans (Nat.le_add_left _ _) htb) (by omega)
      have hxn : x.2.length = r.body.length := by rw [hxl]; simp
      refine T_exit ?_
      refine EThen_exit ?_
      refine EThen_exit ?_
      refine EBlock_same ?_
      refine EThen_n ?_
      refine T_seq ?_
      refine T_seq ?_
      refine T_freeze 14 rfl ?_
      refine T_region ?_
      iterate 3 refine TL_x ?_
      refine TL_nil ?_
      refine EThen_n ?_
      refine T_cond rfl ?_ ?_
      ·
        intro hc
        have h31 := hc
        refine T_region ?_
        iterate 2 refine TL_x ?_
        refine TL_o rfl rfl rfl (c_call rfl rfl Fk.ok66 (fun w F => PC_Join x.2 [44, 32] (by omega) (by omega) w F) (.cons (.d (.asl _ _ _ _ _ rfl (by simp))) (.cons (by first | exact .d (.d _) | exact .d (.nil _ _) | exact .d (.litn _ _ _) | exact .d (.lit _ _) | exact .d (.asl _ _ _ _ _ rfl rfl) | exact .d (.asln _ _ _ _ _ _ _ rfl rfl) | exact .fnv _ | exact .d (.emp _ _ _ _)) .nil))) ?_
        iterate 3 refine TL_x ?_
        refine TL_nil ?_
        refine EThen_n ?_
        refine T_seq ?_
        refine T_seq ?_
        refine T_region ?_
        iterate 3 refine TL_x ?_
        refine TL_nil ?_
        refine EThen_n ?_
        refine T_seq ?_
        refine T_region ?_
        iterate 3 refine TL_x ?_
        refine TL_nil ?_
        refine EThen_n ?_
        refine T_cond rfl ?_ ?_
        ·
          intro hc
          refine T_seq ?_
          refine T_region ?_
          refine TL_x ?_
          refine TL_nil ?_
          refine EThen_n ?_
          refine T_ret ?_
          refine EThen_ret ?_
          refine Ret_ret ?_
          rw [text_big hf (txt_t hxl (by simpa using h31)) hc]; rfl
        ·
          intro hc
          refine T_skip ?_
          refine EThen_n ?_
          refine T_seq ?_
          refine T_region ?_
          iterate 2 refine TL_x ?_
          refine TL_nil ?_
          refine EThen_n ?_
          refine T_ret ?_
          refine Ret_ret ?_
          rw [text_small hf (txt_t hxl (by simpa using h31)) hc]
      ·
        intro hc
        have h31 := hc
        refine T_skip ?_
        refine EThen_n ?_
        refine T_seq ?_
        refine T_seq ?_
        refine T_region ?_
        iterate 3 refine TL_x ?_
        refine TL_nil ?_
        refine EThen_n ?_
        refine T_seq ?_
        refine T_region ?_
        iterate 3 refine TL_x ?_
        refine TL_nil ?_
        refine EThen_n ?_
        refine T_cond rfl ?_ ?_
        ·
          intro hc
          refine T_seq ?_
          refine T_region ?_
          refine TL_x ?_
          refine TL_nil ?_
          refine EThen_n ?_
          refine T_ret ?_
          refine EThen_ret ?_
          refine Ret_ret ?_
          rw [text_big hf (txt_f hxl (by simpa using h31)) hc]; rfl
        ·
          intro hc
          refine T_skip ?_
          refine EThen_n ?_
          refine T_seq ?_
          refine T_region ?_
          iterate 2 refine TL_x ?_
          refine TL_nil ?_
          refine EThen_n ?_
          refine T_ret ?_
          refine Ret_ret ?_
          rw [text_small hf (txt_f hxl (by simpa using h31)) hc]

set_option maxHeartbeats 4000000 in
theorem PC_hasForm (r : Rule) (hw : r.wt ≤ 4294967296) (w : World) (F : Fz)  : PC Tryd.prog 23 w F [.d (r.d)] (· = [db (decide (r.text ≠ []))]) := by
  refine PC_of_T' (rs := [2]) (n := 6) Tryd.func23 rfl rfl rfl rfl ?_
  refine T_seq ?_
  refine T_region ?_
  refine TL_box 1 ?_
  refine TL_x ?_
  refine TL_nil ?_
  refine EThen_n ?_
  refine T_seq ?_
  refine T_region ?_
  refine TL_x ?_
  refine TL_o rfl rfl rfl (c_call rfl rfl Fk.ok46 (fun w F => PC_ruleText r hw w F)) ?_
  iterate 2 refine TL_x ?_
  refine TL_nil ?_
  refine EThen_n ?_
  refine T_ret ?_
  refine Ret_ret ?_
  cases r.text <;> simp

end Go.Proofs
