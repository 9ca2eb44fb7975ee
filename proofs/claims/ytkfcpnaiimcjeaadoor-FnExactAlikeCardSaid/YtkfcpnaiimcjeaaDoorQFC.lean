/- Contracts of functions of the program, each under the conditions that its statement names. -/
import Derived.Test.YtkfcpnaiimcjeaaDoorQFB
import Derived.Test.YtkfcpnaiimcjeaaDoorQText
set_option linter.unusedVariables false
set_option linter.unusedSimpArgs false
namespace Go.Proofs
open Go.Q
attribute [local irreducible] Go.Q.GStep Go.Q.SStep Go.Q.T Go.Q.TL Go.Q.PC Go.Q.DGo
set_option maxHeartbeats 4000000 in
theorem PC_isSum (k : Int) (w : World) (F : Fz)  : PC Tryd.prog 71 w F [.d (di k)] (· = [db (Q.isSum k)]) := by
  refine PC_of_T' (rs := [2]) (n := 5) Tryd.func71 rfl rfl rfl rfl ?_
  refine T_seq ?_
  refine T_region ?_
  refine TL_x ?_
  refine TL_nil ?_
  refine EThen_n ?_
  refine T_seq ?_
  refine T_region ?_
  refine TL_x ?_
  refine TL_o rfl rfl rfl (c_call rfl rfl Fk.ok70 (fun w F => PC_in k 5 7 w F)) ?_
  refine TL_x ?_
  refine TL_nil ?_
  refine EThen_n ?_
  refine T_ret ?_
  refine Ret_ret ?_
  rfl

set_option maxHeartbeats 4000000 in
theorem PC_isFormed1 (n : Int) (w : World) (F : Fz)  : PC Tryd.prog 74 w F [.d (di n)] (· = [db (decide (n ≠ 1))]) := by
  refine PC_of_T' (rs := [2]) (n := 5) Tryd.func74 rfl rfl rfl rfl ?_
  refine T_seq ?_
  refine T_region ?_
  refine TL_x ?_
  refine TL_nil ?_
  refine EThen_n ?_
  refine T_seq ?_
  refine T_region ?_
  iterate 3 refine TL_x ?_
  refine TL_nil ?_
  refine EThen_n ?_
  refine T_ret ?_
  refine Ret_ret ?_
  simp

set_option maxHeartbeats 4000000 in
theorem PC_lits (r : Rule) (hb : r.body.length ≤ 4294967296) (w : World) (F : Fz)  : PC Tryd.prog 72 w F [.d (r.d)] (· = [dlits r.lits]) := by
  refine PC_of_T' (rs := [2]) (n := 9) Tryd.func72 rfl rfl rfl rfl ?_
  refine T_seq ?_
  refine T_region ?_
  refine TL_box 1 ?_
  try refine TL_freeze 5 rfl ?_
  refine TL_o rfl rfl rfl (f_assign rfl (by first | exact .d _ | exact .box _ _ | exact .asl _ _ | exact .nil | exact .lit _ _ | exact .agg _ | exact .clo _ _ | exact .fnv _ | exact .tup _ | exact .el _ _ _ | exact .mp _ | exact .junk)) ?_
  refine TL_nil ?_
  refine EThen_n ?_
  refine T_seq ?_
  refine T_region ?_
  iterate 2 refine TL_x ?_
  refine TL_s rfl (s_buildSlice (id := 5) rfl rfl rfl Ty.e33 rfl rfl rfl (.cons (by first | exact .d _ | exact .nil _ _ | exact .litn _ _ _ | exact .lit _ _ | exact .asl _ _ _ _ _ rfl rfl | exact .asln _ _ _ _ _ _ _ rfl rfl | exact .emp _ _ _ _) .nil) rfl rfl rfl (by repeat (first | exact noRefE0 | exact noRefE_envOf | exact noRefE_envA rfl | refine noRefE_upd rfl ?_)) (by repeat (first | exact noRefH0 | refine noRefH_upd rfl ?_))) ?_
  iterate 2 refine TL_x ?_
  refine TL_s rfl (s_append rfl rfl (lt_of_blt rfl) rfl rfl rfl (by first | exact .asl _ _ _ _ _ rfl rfl | exact .lit _ | exact .d _ _ | exact .nil) Ty.e33 rfl (by simp; omega) (by unfold maxLen; simp; omega)) ?_
  try refine TL_freeze 5 rfl ?_
  refine TL_o rfl rfl rfl (f_assign rfl (by first | exact .d _ | exact .box _ _ | exact .asl _ _ | exact .nil | exact .lit _ _ | exact .agg _ | exact .clo _ _ | exact .fnv _ | exact .tup _ | exact .el _ _ _ | exact .mp _ | exact .junk)) ?_
  refine TL_nil ?_
  refine EThen_n ?_
  refine T_ret ?_
  refine Ret_ret ?_
  rfl

set_option maxHeartbeats 4000000 in
theorem PC_isFormed (r : Rule) (hl : r.exps.length ≤ 4294967296) (hb : r.body.length ≤ 4294967296) (hu : r.uses.length ≤ 4294967296) (hk : ∀ e ∈ r.exps, e.kids.length ≤ 4294967296) (hk2 : ∀ e ∈ r.lits, e.args.length ≤ 4294967296) (w : World) (F : Fz)  : PC Tryd.prog 64 w F [.d (r.d)] (· = [db r.formed]) := by
  refine PC_of_T' (rs := [2]) (n := 133) Tryd.func64 rfl rfl rfl rfl ?_
  refine T_seq ?_
  have hll : r.lits.length ≤ 4294967297 := by simp [Rule.lits]; omega
  refine T_region ?_
  refine TL_box 1 ?_
  refine TL_x ?_
  refine TL_nil ?_
  refine EThen_n ?_
  refine T_seq ?_
  refine T_region ?_
  iterate 3 refine TL_x ?_
  refine TL_s rfl (s_makeSlice1 (f := di) (zx := 0) (id := 15) rfl rfl rfl rfl rfl Ty.e23 Ty.z3 (.s _ rfl) di_cells (by simp; omega) (by unfold maxLen; simp; omega) (cnt_nil _) (by repeat (first | exact noRefE0 | exact noRefE_envOf | refine noRefE_upd rfl ?_)) (by repeat (first | exact noRefH0 | refine noRefH_upd rfl ?_))) ?_
  refine TL_x ?_
  refine TL_nil ?_
  refine EThen_n ?_
  refine T_seq ?_
  refine T_seq ?_
  refine T_region ?_
  iterate 4 refine TL_x ?_
  refine TL_nil ?_
  refine EThen_n ?_
  refine T_block ?_
  refine T_loopF (α := Nat × List Int) (fun x => ⟨(upd (upd (upd (upd (upd env0 1 (.box 1 0)) 3 (.asl 15 (r.exps.map Q.Exp.d).length)) 17 (.d (dexps r.exps))) 18 (.d (di ((r.exps.map Q.Exp.d).length : Int)))) 19 (.d (di (x.1 : Int)))), (upd (upd H0 1 (.box [.d (dexps r.exps), .d (di r.head.kind), .d (ds r.head.name), .d (dints r.head.args), .d (dlits r.body)])) 15 (.arr true 1 3 ((cnt (r.exps.map Q.Exp.d).length x.2).map di)))⟩) (fun x => x.1 ≤ r.exps.length ∧ x.2 = kidsOf (r.exps.take x.1) ∧ (∀ j e, j < x.1 → r.exps[j]? = some e → Exp.ok j e = true)) (fun x => r.exps.length - x.1) (0, []) (fgt_intro (fgt_upd rfl (fgt_upd rfl (fgt_upd rfl (fgt_upd rfl (fgt_upd rfl fgt_env0))))) (fgt_updH rfl (fgt_updH rfl fgt_H0))) ?_ ?_
  · exact ⟨Nat.zero_le _, rfl, fun j e h => by simp at h⟩
  rintro x ⟨hx1, hx2, hx3⟩
  refine T_seq ?_
  refine T_region ?_
  refine TL_x ?_
  refine TL_nil ?_
  refine EThen_n ?_
  refine T_seq ?_
  refine T_cond rfl ?_ ?_
  ·
    intro hc
    have hlt : x.1 < r.exps.length := by simpa using hc
    obtain ⟨e, he⟩ := get_some hlt
    have hke := hk e (List.mem_of_getElem? he)
    refine T_skip ?_
    refine EThen_n ?_
    refine T_seq ?_
    refine T_block ?_
    refine T_seq ?_
    refine T_region ?_
    refine TL_x ?_
    first | refine TL_o rfl rfl rfl (g_index_sl rfl rfl rfl Ty.s31 (by omega) (get_map (by assumption))) ?_ | refine TL_o rfl rfl rfl (g_index_lit rfl rfl rfl Ty.s31 (by omega) (get_map (by assumption))) ?_ | refine TL_o rfl rfl rfl (g_index_asl rfl rfl rfl rfl rfl Ty.s31 (by omega) (get_map (by assumption))) ?_
    refine TL_x ?_
    refine TL_alloc 5 ?_
    refine TL_x ?_
    refine TL_store ?_
    refine TL_nil ?_
    refine EThen_n ?_
    refine T_seq ?_
    refine T_seq ?_
    refine T_region ?_
    iterate 4 refine TL_x ?_
    refine TL_nil ?_
    refine EThen_n ?_
    refine T_block ?_
    refine T_loopF (α := Nat × List Int) (fun y => ⟨(upd (upd (upd (upd (upd (upd (upd (upd (upd (upd env0 1 (.box 1 0)) 3 (.asl 15 (r.exps.map Q.Exp.d).length)) 17 (.d (dexps r.exps))) 18 (.d (di ((r.exps.map Q.Exp.d).length : Int)))) 19 (.d (di (x.1 : Int)))) 4 (.d (di (x.1 : Int)))) 5 (.box 5 0)) 25 (.d (dints e.kids))) 26 (.d (di ((e.kids.map di).length : Int)))) 27 (.d (di (y.1 : Int)))), (upd (upd (upd H0 1 (.box [.d (dexps r.exps), .d (di r.head.kind), .d (ds r.head.name), .d (dints r.head.args), .d (dlits r.body)])) 15 (.arr true 1 3 ((cnt (r.exps.map Q.Exp.d).length y.2).map di))) 5 (.box [.d (di e.kind), .d (ds e.text), .d (dints e.kids)]))⟩) (fun y => y.1 ≤ e.kids.length ∧ y.2 = x.2 ++ e.kids.take y.1 ∧ (∀ j a, j < y.1 → e.kids[j]? = some a → inR a 0 ((x.1 : Int) - 1) = true)) (fun y => e.kids.length - y.1) (0, x.2) (fgt_intro (fgt_upd rfl (fgt_upd rfl (fgt_upd rfl (fgt_upd rfl (fgt_upd rfl (fgt_upd rfl (fgt_upd rfl (fgt_upd rfl (fgt_upd rfl (fgt_upd rfl fgt_env0)))))))))) (fgt_updH rfl (fgt_updH rfl (fgt_updH rfl fgt_H0)))) ?_ ?_
    · exact ⟨Nat.zero_le _, by simp, fun j e h => by simp at h⟩
    rintro y ⟨hy1, hy2, hy3⟩
    refine T_seq ?_
    refine T_region ?_
    refine TL_x ?_
    refine TL_nil ?_
    refine EThen_n ?_
    refine T_seq ?_
    refine T_cond rfl ?_ ?_
    ·
      intro hc
      have hlt2 : y.1 < e.kids.length := by simpa using hc
      obtain ⟨a, ha⟩ := get_some hlt2
      refine T_skip ?_
      refine EThen_n ?_
      refine T_seq ?_
      refine T_block ?_
      refine T_seq ?_
      refine T_region ?_
      first | refine TL_o rfl rfl rfl (g_index_sl rfl rfl rfl Ty.s23 (by omega) (get_map (by assumption))) ?_ | refine TL_o rfl rfl rfl (g_index_lit rfl rfl rfl Ty.s23 (by omega) (get_map (by assumption))) ?_ | refine TL_o rfl rfl rfl (g_index_asl rfl rfl rfl rfl rfl Ty.s23 (by omega) (get_map (by assumption))) ?_
      iterate 2 refine TL_x ?_
      refine TL_nil ?_
      refine EThen_n ?_
      refine T_seq ?_
      refine T_seq ?_
      refine T_region ?_
      iterate 3 refine TL_x ?_
      refine TL_o rfl rfl rfl (c_call rfl rfl Fk.ok70 (fun w F => PC_in a 0 ((x.1 : Int) - 1) w F)) ?_
      refine TL_x ?_
      refine TL_nil ?_
      refine EThen_n ?_
      refine T_cond rfl ?_ ?_
      ·
        intro hc
        have hna : e.kids.all (fun k => inR k 0 ((x.1 : Int) - 1)) = false := not_all ha (by unfold inR; simpa only [Bool.not_eq_true'] using hc)
        refine T_seq ?_
        refine T_region ?_
        refine TL_x ?_
        refine TL_nil ?_
        refine EThen_n ?_
        refine T_ret ?_
        refine EThen_ret ?_
        refine EBlock_ret ?_
        refine EThen_ret ?_
        refine EThen_ret ?_
        refine EBlock_ret ?_
        refine EThen_ret ?_
        refine EBlock_ret ?_
        refine EThen_ret ?_
        refine EThen_ret ?_
        refine EBlock_ret ?_
        refine EThen_ret ?_
        refine Ret_ret ?_
        first | (have h := notFormed1 he (by rw [Exp.ok, hbT]; simp); rw [h]) | (have h := notFormed1 he (by rw [Exp.ok, hna]; rfl); rw [h]) | (have h := notFormed2 hl' (by rw [Lit.ok, hbT]; simp); rw [h]) | (have h := notFormed2 hl' (by rw [Lit.ok, hna]; simp); rw [h]) | (have h := isFormed_end hlast hx2 hx3 (by simpa using hc) hy2 hy3; rw [List.length_map] at hg128; simp only [List.length_map, h, hg128]; simp)
      ·
        intro hc
        have har : inR a 0 ((x.1 : Int) - 1) = true := by simpa [inR] using hc
        have ha0 : 0 ≤ a := by simp [inR] at har; exact har.1
        have ha1 : a < r.exps.length := by simp [inR] at har; omega
        have hp : y.2 <+: r.uses := uses_pre1 hx2 he hy2
        refine T_skip ?_
        refine EThen_n ?_
        refine T_region ?_
        iterate 2 refine TL_x ?_
        refine TL_o rfl rfl rfl (g_index_el1 rfl rfl rfl rfl Ty.s23 (by simp [cnt]) ha0 (by simp [cnt]; omega)) ?_
        refine TL_o rfl rfl rfl (g_load_el1 (f := di) rfl rfl Ty.c3 rfl di_cells (by simp [cnt]) (cnt_get ha0 (by simp; omega))) ?_
        refine TL_o rfl rfl rfl (g_add rfl rfl rfl (wr64 _ (by have := cnt_le hu hp a; omega))) ?_
        refine TL_o rfl rfl rfl (g_index_el1 rfl rfl rfl rfl Ty.s23 (by simp [cnt]) ha0 (by simp [cnt]; omega)) ?_
        refine TL_s rfl (s_store_el1 (f := di) rfl rfl rfl rfl (.d _) (.d _) Ty.n3 di_cells (by simp [cnt]) (by simp [cnt]; omega) (cnt_set ha0 (by simp; omega))) ?_
        refine TL_nil ?_
        refine EBlock_n ?_
        refine EThen_n ?_
        refine T_region ?_
        iterate 2 refine TL_x ?_
        refine TL_nil ?_
        refine EThen_n ⟨(y.1 + 1, y.2 ++ [a]), (fgt_intro (fgt_upd rfl (fgt_upd rfl (fgt_upd rfl (fgt_upd rfl (fgt_upd rfl (fgt_upd rfl (fgt_upd rfl (fgt_upd rfl (fgt_upd rfl (fgt_upd rfl fgt_env0)))))))))) (fgt_updH rfl (fgt_updH rfl (fgt_updH rfl fgt_H0)))), ?_, ?_⟩
        · exact inner_next (q := fun a => inR a 0 ((x.1 : Int) - 1)) hy1 hy2 hy3 ha har
        · dsimp only; omega
    ·
      intro hc
      have hlast : ¬ y.1 < e.kids.length := by simpa using hc
      refine T_exit ?_
      refine EThen_exit ?_
      refine EThen_exit ?_
      refine EBlock_same ?_
      refine EThen_n ?_
      refine T_seq ?_
      refine T_region ?_
      iterate 2 refine TL_x ?_
      refine TL_o rfl rfl rfl (c_call rfl rfl Fk.ok70 (fun w F => PC_in e.kind 1 7 w F)) ?_
      iterate 2 refine TL_x ?_
      refine TL_split 47 rfl ?_ ?_
      ·
        intro hg47
        refine TL_skip rfl rfl (lt_of_blt rfl) rfl (lt_of_blt rfl) rfl rfl ?_
        refine TL_skip rfl rfl (lt_of_blt rfl) rfl (lt_of_blt rfl) rfl rfl ?_
        refine TL_skip rfl rfl (lt_of_blt rfl) rfl (lt_of_blt rfl) rfl rfl ?_
        refine TL_skip rfl rfl (lt_of_blt rfl) rfl (lt_of_blt rfl) rfl rfl ?_
        refine TL_skipu rfl rfl (lt_of_blt rfl) rfl (lt_of_blt rfl) rfl ?_
        refine TL_skipu rfl rfl (lt_of_blt rfl) rfl (lt_of_blt rfl) rfl ?_
        refine TL_skipu rfl rfl (lt_of_blt rfl) rfl (lt_of_blt rfl) rfl ?_
        refine TL_skipu rfl rfl (lt_of_blt rfl) rfl (lt_of_blt rfl) rfl ?_
        refine TL_skip rfl rfl (lt_of_blt rfl) rfl (lt_of_blt rfl) rfl rfl ?_
        iterate 2 refine TL_x ?_
        refine TL_skip rfl rfl (lt_of_blt rfl) rfl (lt_of_blt rfl) rfl rfl ?_
        refine TL_skip rfl rfl (lt_of_blt rfl) rfl (lt_of_blt rfl) rfl rfl ?_
        refine TL_skip rfl rfl (lt_of_blt rfl) rfl (lt_of_blt rfl) rfl rfl ?_
        refine TL_skip rfl rfl (lt_of_blt rfl) rfl (lt_of_blt rfl) rfl rfl ?_
        refine TL_skipu rfl rfl (lt_of_blt rfl) rfl (lt_of_blt rfl) rfl ?_
        refine TL_skipu rfl rfl (lt_of_blt rfl) rfl (lt_of_blt rfl) rfl ?_
        refine TL_skipu rfl rfl (lt_of_blt rfl) rfl (lt_of_blt rfl) rfl ?_
        refine TL_skipu rfl rfl (lt_of_blt rfl) rfl (lt_of_blt rfl) rfl ?_
        refine TL_skip rfl rfl (lt_of_blt rfl) rfl (lt_of_blt rfl) rfl rfl ?_
        refine TL_x ?_
        refine TL_nil ?_
        refine EThen_n ?_
        refine T_cond_t rfl ?_
        have hbT : e.badKind = true := by clear hke; simp [Exp.badKind, isSum, inR, *] at *; first | done | omega | exact ⟨fun _ _ => by omega, by assumption⟩
        refine T_seq ?_
        refine T_region ?_
        refine TL_x ?_
        refine TL_nil ?_
        refine EThen_n ?_
        refine T_ret ?_
        refine EBlock_ret ?_
        refine EThen_ret ?_
        refine EThen_ret ?_
        refine EBlock_ret ?_
        refine EThen_ret ?_
        refine Ret_ret ?_
        first | (have h := notFormed1 he (by rw [Exp.ok, hbT]; simp); rw [h]) | (have h := notFormed1 he (by rw [Exp.ok, hna]; rfl); rw [h]) | (have h := notFormed2 hl' (by rw [Lit.ok, hbT]; simp); rw [h]) | (have h := notFormed2 hl' (by rw [Lit.ok, hna]; simp); rw [h]) | (have h := isFormed_end hlast hx2 hx3 (by simpa using hc) hy2 hy3; rw [List.length_map] at hg128; simp only [List.length_map, h, hg128]; simp)
      ·
        intro hg47
        refine TL_want rfl rfl (lt_of_blt rfl) rfl ?_
        first | refine TL_o rfl rfl rfl (g_field_box rfl rfl Ty.f65_0 rfl) ?_ | refine TL_o rfl rfl rfl (g_field_pt rfl rfl Ty.f65_0 rfl) ?_ | refine TL_o rfl rfl rfl (g_field_el rfl rfl rfl rfl Ty.f65_0 rfl) ?_
        refine TL_want rfl rfl (lt_of_blt rfl) rfl ?_
        first | refine TL_o rfl rfl rfl (g_load_box rfl rfl Ty.c3 rfl rfl) ?_ | refine TL_o rfl rfl rfl (g_load_pt rfl rfl Ty.c3 rfl) ?_ | refine TL_o rfl rfl rfl (g_load_el rfl rfl Ty.c3 rfl rfl rfl) ?_
        refine TL_want rfl rfl (lt_of_blt rfl) rfl ?_
        refine TL_o rfl rfl rfl (c_call rfl rfl Fk.ok71 (fun w F => PC_isSum e.kind w F)) ?_
        refine TL_want rfl rfl (lt_of_blt rfl) rfl ?_
        refine TL_o rfl rfl rfl (f_move rfl (by first | exact .d _ | exact .box _ _ | exact .asl _ _ | exact .nil | exact .lit _ _ | exact .agg _ | exact .clo _ _ | exact .fnv _ | exact .tup _ | exact .el _ _ _ | exact .mp _ | exact .junk)) ?_
        refine TL_split 51 rfl ?_ ?_
        ·
          intro hg51
          refine TL_want rfl rfl (lt_of_blt rfl) rfl ?_
          first | refine TL_o rfl rfl rfl (g_field_box rfl rfl Ty.f65_2 rfl) ?_ | refine TL_o rfl rfl rfl (g_field_pt rfl rfl Ty.f65_2 rfl) ?_ | refine TL_o rfl rfl rfl (g_field_el rfl rfl rfl rfl Ty.f65_2 rfl) ?_
          refine TL_want rfl rfl (lt_of_blt rfl) rfl ?_
          first | refine TL_o rfl rfl rfl (g_load_box rfl rfl Ty.c23 rfl rfl) ?_ | refine TL_o rfl rfl rfl (g_load_pt rfl rfl Ty.c23 rfl) ?_ | refine TL_o rfl rfl rfl (g_load_el rfl rfl Ty.c23 rfl rfl rfl) ?_
          refine TL_want rfl rfl (lt_of_blt rfl) rfl ?_
          first | refine TL_o rfl rfl rfl (g_len_sl rfl rfl Ty.s23 rfl) ?_ | refine TL_o rfl rfl rfl (g_len_asl rfl rfl rfl rfl Ty.s23 rfl) ?_ | refine TL_o rfl rfl rfl (g_len_asl rfl rfl rfl (by simp) Ty.s23 rfl) ?_ | refine TL_o rfl rfl rfl (g_len_lit rfl rfl Ty.s23 rfl) ?_ | refine TL_o rfl rfl rfl (g_len_nil rfl rfl Ty.s23) ?_
          refine TL_want rfl rfl (lt_of_blt rfl) rfl ?_
          refine TL_o rfl rfl rfl (g_icmp rfl rfl rfl rfl) ?_
          refine TL_want rfl rfl (lt_of_blt rfl) rfl ?_
          refine TL_o rfl rfl rfl (f_pick rfl rfl (by first | exact .d _ | exact .box _ _ | exact .asl _ _ | exact .nil | exact .lit _ _ | exact .agg _ | exact .clo _ _ | exact .fnv _ | exact .tup _ | exact .el _ _ _ | exact .mp _ | exact .junk)) ?_
          iterate 2 refine TL_x ?_
          refine TL_split 58 rfl ?_ ?_
          ·
            intro hg58
            refine TL_skip rfl rfl (lt_of_blt rfl) rfl (lt_of_blt rfl) rfl rfl ?_
            refine TL_skip rfl rfl (lt_of_blt rfl) rfl (lt_of_blt rfl) rfl rfl ?_
            refine TL_skip rfl rfl (lt_of_blt rfl) rfl (lt_of_blt rfl) rfl rfl ?_
            refine TL_skip rfl rfl (lt_of_blt rfl) rfl (lt_of_blt rfl) rfl rfl ?_
            refine TL_skipu rfl rfl (lt_of_blt rfl) rfl (lt_of_blt rfl) rfl ?_
            refine TL_skipu rfl rfl (lt_of_blt rfl) rfl (lt_of_blt rfl) rfl ?_
            refine TL_skipu rfl rfl (lt_of_blt rfl) rfl (lt_of_blt rfl) rfl ?_
            refine TL_skipu rfl rfl (lt_of_blt rfl) rfl (lt_of_blt rfl) rfl ?_
            refine TL_skip rfl rfl (lt_of_blt rfl) rfl (lt_of_blt rfl) rfl rfl ?_
            refine TL_x ?_
            refine TL_nil ?_
            refine EThen_n ?_
            refine T_cond_t rfl ?_
            have hbT : e.badKind = true := by clear hke; simp [Exp.badKind, isSum, inR, *] at *; first | done | omega | exact ⟨fun _ _ => by omega, by assumption⟩
            refine T_seq ?_
            refine T_region ?_
            refine TL_x ?_
            refine TL_nil ?_
            refine EThen_n ?_
            refine T_ret ?_
            refine EBlock_ret ?_
            refine EThen_ret ?_
            refine EThen_ret ?_
            refine EBlock_ret ?_
            refine EThen_ret ?_
            refine Ret_ret ?_
            first | (have h := notFormed1 he (by rw [Exp.ok, hbT]; simp); rw [h]) | (have h := notFormed1 he (by rw [Exp.ok, hna]; rfl); rw [h]) | (have h := notFormed2 hl' (by rw [Lit.ok, hbT]; simp); rw [h]) | (have h := notFormed2 hl' (by rw [Lit.ok, hna]; simp); rw [h]) | (have h := isFormed_end hlast hx2 hx3 (by simpa using hc) hy2 hy3; rw [List.length_map] at hg128; simp only [List.length_map, h, hg128]; simp)
          ·
            intro hg58
            refine TL_want rfl rfl (lt_of_blt rfl) rfl ?_
            first | refine TL_o rfl rfl rfl (g_field_box rfl rfl Ty.f65_0 rfl) ?_ | refine TL_o rfl rfl rfl (g_field_pt rfl rfl Ty.f65_0 rfl) ?_ | refine TL_o rfl rfl rfl (g_field_el rfl rfl rfl rfl Ty.f65_0 rfl) ?_
            refine TL_want rfl rfl (lt_of_blt rfl) rfl ?_
            first | refine TL_o rfl rfl rfl (g_load_box rfl rfl Ty.c3 rfl rfl) ?_ | refine TL_o rfl rfl rfl (g_load_pt rfl rfl Ty.c3 rfl) ?_ | refine TL_o rfl rfl rfl (g_load_el rfl rfl Ty.c3 rfl rfl rfl) ?_
            refine TL_want rfl rfl (lt_of_blt rfl) rfl ?_
            refine TL_o rfl rfl rfl (c_call rfl rfl Fk.ok70 (fun w F => PC_in e.kind 1 3 w F)) ?_
            refine TL_want rfl rfl (lt_of_blt rfl) rfl ?_
            refine TL_o rfl rfl rfl (f_move rfl (by first | exact .d _ | exact .box _ _ | exact .asl _ _ | exact .nil | exact .lit _ _ | exact .agg _ | exact .clo _ _ | exact .fnv _ | exact .tup _ | exact .el _ _ _ | exact .mp _ | exact .junk)) ?_
            refine TL_split 62 rfl ?_ ?_
            ·
              intro hg62
              refine TL_want rfl rfl (lt_of_blt rfl) rfl ?_
              first | refine TL_o rfl rfl rfl (g_field_box rfl rfl Ty.f65_2 rfl) ?_ | refine TL_o rfl rfl rfl (g_field_pt rfl rfl Ty.f65_2 rfl) ?_ | refine TL_o rfl rfl rfl (g_field_el rfl rfl rfl rfl Ty.f65_2 rfl) ?_
              refine TL_want rfl rfl (lt_of_blt rfl) rfl ?_
              first | refine TL_o rfl rfl rfl (g_load_box rfl rfl Ty.c23 rfl rfl) ?_ | refine TL_o rfl rfl rfl (g_load_pt rfl rfl Ty.c23 rfl) ?_ | refine TL_o rfl rfl rfl (g_load_el rfl rfl Ty.c23 rfl rfl rfl) ?_
              refine TL_want rfl rfl (lt_of_blt rfl) rfl ?_
              first | refine TL_o rfl rfl rfl (g_len_sl rfl rfl Ty.s23 rfl) ?_ | refine TL_o rfl rfl rfl (g_len_asl rfl rfl rfl rfl Ty.s23 rfl) ?_ | refine TL_o rfl rfl rfl (g_len_asl rfl rfl rfl (by simp) Ty.s23 rfl) ?_ | refine TL_o rfl rfl rfl (g_len_lit rfl rfl Ty.s23 rfl) ?_ | refine TL_o rfl rfl rfl (g_len_nil rfl rfl Ty.s23) ?_
              refine TL_want rfl rfl (lt_of_blt rfl) rfl ?_
              refine TL_o rfl rfl rfl (g_icmp rfl rfl rfl rfl) ?_
              refine TL_want rfl rfl (lt_of_blt rfl) rfl ?_
              refine TL_o rfl rfl rfl (f_pick rfl rfl (by first | exact .d _ | exact .box _ _ | exact .asl _ _ | exact .nil | exact .lit _ _ | exact .agg _ | exact .clo _ _ | exact .fnv _ | exact .tup _ | exact .el _ _ _ | exact .mp _ | exact .junk)) ?_
              refine TL_x ?_
              refine TL_nil ?_
              refine EThen_n ?_
              refine T_cond rfl ?_ ?_
              ·
                intro hc
                have hbT : e.badKind = true := by clear hke; simp [Exp.badKind, isSum, inR, *] at *; first | done | omega | exact ⟨fun _ _ => by omega, by assumption⟩
                refine T_seq ?_
                refine T_region ?_
                refine TL_x ?_
                refine TL_nil ?_
                refine EThen_n ?_
                refine T_ret ?_
                refine EBlock_ret ?_
                refine EThen_ret ?_
                refine EThen_ret ?_
                refine EBlock_ret ?_
                refine EThen_ret ?_
                refine Ret_ret ?_
                first | (have h := notFormed1 he (by rw [Exp.ok, hbT]; simp); rw [h]) | (have h := notFormed1 he (by rw [Exp.ok, hna]; rfl); rw [h]) | (have h := notFormed2 hl' (by rw [Lit.ok, hbT]; simp); rw [h]) | (have h := notFormed2 hl' (by rw [Lit.ok, hna]; simp); rw [h]) | (have h := isFormed_end hlast hx2 hx3 (by simpa using hc) hy2 hy3; rw [List.length_map] at hg128; simp only [List.length_map, h, hg128]; simp)
              ·
                intro hc
                have hbad : e.badKind = false := by clear hke; simp [Exp.badKind, isSum, inR, *] at *; first | done | omega | exact ⟨fun _ _ => by omega, by assumption⟩
                refine T_skip ?_
                refine EBlock_n ?_
                refine EThen_n ?_
                refine T_region ?_
                iterate 2 refine TL_x ?_
                refine TL_nil ?_
                refine EThen_n ⟨(x.1 + 1, y.2), (fgt_intro (fgt_upd rfl (fgt_upd rfl (fgt_upd rfl (fgt_upd rfl (fgt_upd rfl fgt_env0))))) (fgt_updH rfl (fgt_updH rfl fgt_H0))), ?_, ?_⟩
                · exact formed_next1 hx1 hx2 hx3 he hy1 hy2 hy3 hlast hbad
                · dsimp only; omega
            ·
              intro hg62
              refine TL_skip rfl rfl (lt_of_blt rfl) rfl (lt_of_blt rfl) rfl rfl ?_
              refine TL_skip rfl rfl (lt_of_blt rfl) rfl (lt_of_blt rfl) rfl rfl ?_
              refine TL_skip rfl rfl (lt_of_blt rfl) rfl (lt_of_blt rfl) rfl rfl ?_
              refine TL_skip rfl rfl (lt_of_blt rfl) rfl (lt_of_blt rfl) rfl rfl ?_
              refine TL_want rfl rfl (lt_of_blt rfl) rfl ?_
              refine TL_o rfl rfl rfl (f_pick rfl rfl (by first | exact .d _ | exact .box _ _ | exact .asl _ _ | exact .nil | exact .lit _ _ | exact .agg _ | exact .clo _ _ | exact .fnv _ | exact .tup _ | exact .el _ _ _ | exact .mp _ | exact .junk)) ?_
              refine TL_x ?_
              refine TL_nil ?_
              refine EThen_n ?_
              refine T_cond_f rfl ?_
              have hbad : e.badKind = false := by clear hke; simp [Exp.badKind, isSum, inR, *] at *; first | done | omega | exact ⟨fun _ _ => by omega, by assumption⟩
              refine T_skip ?_
              refine EBlock_n ?_
              refine EThen_n ?_
              refine T_region ?_
              iterate 2 refine TL_x ?_
              refine TL_nil ?_
              refine EThen_n ⟨(x.1 + 1, y.2), (fgt_intro (fgt_upd rfl (fgt_upd rfl (fgt_upd rfl (fgt_upd rfl (fgt_upd rfl fgt_env0))))) (fgt_updH rfl (fgt_updH rfl fgt_H0))), ?_, ?_⟩
              · exact formed_next1 hx1 hx2 hx3 he hy1 hy2 hy3 hlast hbad
              · dsimp only; omega
        ·
          intro hg51
          refine TL_skip rfl rfl (lt_of_blt rfl) rfl (lt_of_blt rfl) rfl rfl ?_
          refine TL_skip rfl rfl (lt_of_blt rfl) rfl (lt_of_blt rfl) rfl rfl ?_
          refine TL_skip rfl rfl (lt_of_blt rfl) rfl (lt_of_blt rfl) rfl rfl ?_
          refine TL_skip rfl rfl (lt_of_blt rfl) rfl (lt_of_blt rfl) rfl rfl ?_
          refine TL_want rfl rfl (lt_of_blt rfl) rfl ?_
          refine TL_o rfl rfl rfl (f_pick rfl rfl (by first | exact .d _ | exact .box _ _ | exact .asl _ _ | exact .nil | exact .lit _ _ | exact .agg _ | exact .clo _ _ | exact .fnv _ | exact .tup _ | exact .el _ _ _ | exact .mp _ | exact .junk)) ?_
          iterate 2 refine TL_x ?_
          refine TL_want rfl rfl (lt_of_blt rfl) rfl ?_
          first | refine TL_o rfl rfl rfl (g_field_box rfl rfl Ty.f65_0 rfl) ?_ | refine TL_o rfl rfl rfl (g_field_pt rfl rfl Ty.f65_0 rfl) ?_ | refine TL_o rfl rfl rfl (g_field_el rfl rfl rfl rfl Ty.f65_0 rfl) ?_
          refine TL_want rfl rfl (lt_of_blt rfl) rfl ?_
          first | refine TL_o rfl rfl rfl (g_load_box rfl rfl Ty.c3 rfl rfl) ?_ | refine TL_o rfl rfl rfl (g_load_pt rfl rfl Ty.c3 rfl) ?_ | refine TL_o rfl rfl rfl (g_load_el rfl rfl Ty.c3 rfl rfl rfl) ?_
          refine TL_want rfl rfl (lt_of_blt rfl) rfl ?_
          refine TL_o rfl rfl rfl (c_call rfl rfl Fk.ok70 (fun w F => PC_in e.kind 1 3 w F)) ?_
          refine TL_want rfl rfl (lt_of_blt rfl) rfl ?_
          refine TL_o rfl rfl rfl (f_move rfl (by first | exact .d _ | exact .box _ _ | exact .asl _ _ | exact .nil | exact .lit _ _ | exact .agg _ | exact .clo _ _ | exact .fnv _ | exact .tup _ | exact .el _ _ _ | exact .mp _ | exact .junk)) ?_
          refine TL_split 62 rfl ?_ ?_
          ·
            intro hg62
            refine TL_want rfl rfl (lt_of_blt rfl) rfl ?_
            first | refine TL_o rfl rfl rfl (g_field_box rfl rfl Ty.f65_2 rfl) ?_ | refine TL_o rfl rfl rfl (g_field_pt rfl rfl Ty.f65_2 rfl) ?_ | refine TL_o rfl rfl rfl (g_field_el rfl rfl rfl rfl Ty.f65_2 rfl) ?_
            refine TL_want rfl rfl (lt_of_blt rfl) rfl ?_
            first | refine TL_o rfl rfl rfl (g_load_box rfl rfl Ty.c23 rfl rfl) ?_ | refine TL_o rfl rfl rfl (g_load_pt rfl rfl Ty.c23 rfl) ?_ | refine TL_o rfl rfl rfl (g_load_el rfl rfl Ty.c23 rfl rfl rfl) ?_
            refine TL_want rfl rfl (lt_of_blt rfl) rfl ?_
            first | refine TL_o rfl rfl rfl (g_len_sl rfl rfl Ty.s23 rfl) ?_ | refine TL_o rfl rfl rfl (g_len_asl rfl rfl rfl rfl Ty.s23 rfl) ?_ | refine TL_o rfl rfl rfl (g_len_asl rfl rfl rfl (by simp) Ty.s23 rfl) ?_ | refine TL_o rfl rfl rfl (g_len_lit rfl rfl Ty.s23 rfl) ?_ | refine TL_o rfl rfl rfl (g_len_nil rfl rfl Ty.s23) ?_
            refine TL_want rfl rfl (lt_of_blt rfl) rfl ?_
            refine TL_o rfl rfl rfl (g_icmp rfl rfl rfl rfl) ?_
            refine TL_want rfl rfl (lt_of_blt rfl) rfl ?_
            refine TL_o rfl rfl rfl (f_pick rfl rfl (by first | exact .d _ | exact .box _ _ | exact .asl _ _ | exact .nil | exact .lit _ _ | exact .agg _ | exact .clo _ _ | exact .fnv _ | exact .tup _ | exact .el _ _ _ | exact .mp _ | exact .junk)) ?_
            refine TL_x ?_
            refine TL_nil ?_
            refine EThen_n ?_
            refine T_cond rfl ?_ ?_
            ·
              intro hc
              have hbT : e.badKind = true := by clear hke; simp [Exp.badKind, isSum, inR, *] at *; first | done | omega | exact ⟨fun _ _ => by omega, by assumption⟩
              refine T_seq ?_
              refine T_region ?_
              refine TL_x ?_
              refine TL_nil ?_
              refine EThen_n ?_
              refine T_ret ?_
              refine EBlock_ret ?_
              refine EThen_ret ?_
              refine EThen_ret ?_
              refine EBlock_ret ?_
              refine EThen_ret ?_
              refine Ret_ret ?_
              first | (have h := notFormed1 he (by rw [Exp.ok, hbT]; simp); rw [h]) | (have h := notFormed1 he (by rw [Exp.ok, hna]; rfl); rw [h]) | (have h := notFormed2 hl' (by rw [Lit.ok, hbT]; simp); rw [h]) | (have h := notFormed2 hl' (by rw [Lit.ok, hna]; simp); rw [h]) | (have h := isFormed_end hlast hx2 hx3 (by simpa using hc) hy2 hy3; rw [List.length_map] at hg128; simp only [List.length_map, h, hg128]; simp)
            ·
              intro hc
              have hbad : e.badKind = false := by clear hke; simp [Exp.badKind, isSum, inR, *] at *; first | done | omega | exact ⟨fun _ _ => by omega, by assumption⟩
              refine T_skip ?_
              refine EBlock_n ?_
              refine EThen_n ?_
              refine T_region ?_
              iterate 2 refine TL_x ?_
              refine TL_nil ?_
              refine EThen_n ⟨(x.1 + 1, y.2), (fgt_intro (fgt_upd rfl (fgt_upd rfl (fgt_upd rfl (fgt_upd rfl (fgt_upd rfl fgt_env0))))) (fgt_updH rfl (fgt_updH rfl fgt_H0))), ?_, ?_⟩
              · exact formed_next1 hx1 hx2 hx3 he hy1 hy2 hy3 hlast hbad
              · dsimp only; omega
          ·
            intro hg62
            refine TL_skip rfl rfl (lt_of_blt rfl) rfl (lt_of_blt rfl) rfl rfl ?_
            refine TL_skip rfl rfl (lt_of_blt rfl) rfl (lt_of_blt rfl) rfl rfl ?_
            refine TL_skip rfl rfl (lt_of_blt rfl) rfl (lt_of_blt rfl) rfl rfl ?_
            refine TL_skip rfl rfl (lt_of_blt rfl) rfl (lt_of_blt rfl) rfl rfl ?_
            refine TL_want rfl rfl (lt_of_blt rfl) rfl ?_
            refine TL_o rfl rfl rfl (f_pick rfl rfl (by first | exact .d _ | exact .box _ _ | exact .asl _ _ | exact .nil | exact .lit _ _ | exact .agg _ | exact .clo _ _ | exact .fnv _ | exact .tup _ | exact .el _ _ _ | exact .mp _ | exact .junk)) ?_
            refine TL_x ?_
            refine TL_nil ?_
            refine EThen_n ?_
            refine T_cond_f rfl ?_
            have hbad : e.badKind = false := by clear hke; simp [Exp.badKind, isSum, inR, *] at *; first | done | omega | exact ⟨fun _ _ => by omega, by assumption⟩
            refine T_skip ?_
            refine EBlock_n ?_
            refine EThen_n ?_
            refine T_region ?_
            iterate 2 refine TL_x ?_
            refine TL_nil ?_
            refine EThen_n ⟨(x.1 + 1, y.2), (fgt_intro (fgt_upd rfl (fgt_upd rfl (fgt_upd rfl (fgt_upd rfl (fgt_upd rfl fgt_env0))))) (fgt_updH rfl (fgt_updH rfl fgt_H0))), ?_, ?_⟩
            · exact formed_next1 hx1 hx2 hx3 he hy1 hy2 hy3 hlast hbad
            · dsimp only; omega
  ·
    intro hc
    have hlast : ¬ x.1 < r.exps.length := by simpa using hc
    have hxx : x.1 = r.exps.length := by omega
    refine T_exit ?_
    refine EThen_exit ?_
    refine EThen_exit ?_
    refine EBlock_same ?_
    refine EThen_n ?_
    refine T_seq ?_
    refine T_seq ?_
    refine T_region ?_
    refine TL_x ?_
    refine TL_o rfl rfl rfl (c_call rfl rfl Fk.ok72 (fun w F => PC_lits r hb w F)) ?_
    iterate 2 refine TL_x ?_
    refine TL_nil ?_
    refine EThen_n ?_
    refine T_block ?_
    refine T_loopF (α := Nat × List Int) (fun y => ⟨(upd (upd (upd (upd (upd env0 1 (.box 1 0)) 3 (.asl 15 (r.exps.map Q.Exp.d).length)) 71 (.d (dlits r.lits))) 72 (.d (di ((r.lits.map Q.Lit.d).length : Int)))) 73 (.d (di (y.1 : Int)))), (upd (upd H0 1 (.box [.d (dexps r.exps), .d (di r.head.kind), .d (ds r.head.name), .d (dints r.head.args), .d (dlits r.body)])) 15 (.arr true 1 3 ((cnt (r.exps.map Q.Exp.d).length y.2).map di)))⟩) (fun y => y.1 ≤ r.lits.length ∧ y.2 = x.2 ++ argsOf (r.lits.take y.1) ∧ (∀ j l, j < y.1 → r.lits[j]? = some l → Lit.ok r.exps.length j l = true)) (fun y => r.lits.length - y.1) (0, x.2) (fgt_intro (fgt_upd rfl (fgt_upd rfl (fgt_upd rfl (fgt_upd rfl (fgt_upd rfl fgt_env0))))) (fgt_updH rfl (fgt_updH rfl fgt_H0))) ?_ ?_
    · exact ⟨Nat.zero_le _, by simp [argsOf], fun j e h => by simp at h⟩
    rintro y ⟨hy1, hy2, hy3⟩
    refine T_seq ?_
    refine T_region ?_
    refine TL_x ?_
    refine TL_nil ?_
    refine EThen_n ?_
    refine T_seq ?_
    refine T_cond rfl ?_ ?_
    ·
      intro hc
      have hlt : y.1 < r.lits.length := by simpa using hc
      obtain ⟨l, hl'⟩ := get_some hlt
      have hke := hk2 l (List.mem_of_getElem? hl')
      refine T_skip ?_
      refine EThen_n ?_
      refine T_seq ?_
      refine T_block ?_
      refine T_seq ?_
      refine T_region ?_
      refine TL_x ?_
      first | refine TL_o rfl rfl rfl (g_index_sl rfl rfl rfl Ty.s33 (by omega) (get_map (by assumption))) ?_ | refine TL_o rfl rfl rfl (g_index_lit rfl rfl rfl Ty.s33 (by omega) (get_map (by assumption))) ?_ | refine TL_o rfl rfl rfl (g_index_asl rfl rfl rfl rfl rfl Ty.s33 (by omega) (get_map (by assumption))) ?_
      refine TL_x ?_
      refine TL_alloc 9 ?_
      refine TL_x ?_
      refine TL_store ?_
      refine TL_nil ?_
      refine EThen_n ?_
      refine T_seq ?_
      refine T_seq ?_
      refine T_region ?_
      iterate 3 refine TL_x ?_
      refine TL_split 80 rfl ?_ ?_
      ·
        intro hg80
        refine TL_want rfl rfl (lt_of_blt rfl) rfl ?_
        first | refine TL_o rfl rfl rfl (g_field_box rfl rfl Ty.f32_0 rfl) ?_ | refine TL_o rfl rfl rfl (g_field_pt rfl rfl Ty.f32_0 rfl) ?_ | refine TL_o rfl rfl rfl (g_field_el rfl rfl rfl rfl Ty.f32_0 rfl) ?_
        refine TL_want rfl rfl (lt_of_blt rfl) rfl ?_
        first | refine TL_o rfl rfl rfl (g_load_box rfl rfl Ty.c3 rfl rfl) ?_ | refine TL_o rfl rfl rfl (g_load_pt rfl rfl Ty.c3 rfl) ?_ | refine TL_o rfl rfl rfl (g_load_el rfl rfl Ty.c3 rfl rfl rfl) ?_
        refine TL_want rfl rfl (lt_of_blt rfl) rfl ?_
        refine TL_o rfl rfl rfl (g_icmp rfl rfl rfl rfl) ?_
        iterate 2 refine TL_x ?_
        refine TL_split 85 rfl ?_ ?_
        ·
          intro hg85
          refine TL_skip rfl rfl (lt_of_blt rfl) rfl (lt_of_blt rfl) rfl rfl ?_
          refine TL_skip rfl rfl (lt_of_blt rfl) rfl (lt_of_blt rfl) rfl rfl ?_
          refine TL_skip rfl rfl (lt_of_blt rfl) rfl (lt_of_blt rfl) rfl rfl ?_
          refine TL_skip rfl rfl (lt_of_blt rfl) rfl (lt_of_blt rfl) rfl rfl ?_
          iterate 2 refine TL_x ?_
          refine TL_skip rfl rfl (lt_of_blt rfl) rfl (lt_of_blt rfl) rfl rfl ?_
          refine TL_skip rfl rfl (lt_of_blt rfl) rfl (lt_of_blt rfl) rfl rfl ?_
          refine TL_skip rfl rfl (lt_of_blt rfl) rfl (lt_of_blt rfl) rfl rfl ?_
          refine TL_skip rfl rfl (lt_of_blt rfl) rfl (lt_of_blt rfl) rfl rfl ?_
          refine TL_skipu rfl rfl (lt_of_blt rfl) rfl (lt_of_blt rfl) rfl ?_
          refine TL_skipu rfl rfl (lt_of_blt rfl) rfl (lt_of_blt rfl) rfl ?_
          refine TL_skipu rfl rfl (lt_of_blt rfl) rfl (lt_of_blt rfl) rfl ?_
          refine TL_skipu rfl rfl (lt_of_blt rfl) rfl (lt_of_blt rfl) rfl ?_
          refine TL_skip rfl rfl (lt_of_blt rfl) rfl (lt_of_blt rfl) rfl rfl ?_
          refine TL_x ?_
          refine TL_nil ?_
          refine EThen_n ?_
          refine T_cond_t rfl ?_
          have hbT : l.badKind y.1 = true := by simp [Lit.badKind, inR, *] at *; first | done | omega
          refine T_seq ?_
          refine T_region ?_
          refine TL_x ?_
          refine TL_nil ?_
          refine EThen_n ?_
          refine T_ret ?_
          refine EThen_ret ?_
          refine EBlock_ret ?_
          refine EThen_ret ?_
          refine EThen_ret ?_
          refine EBlock_ret ?_
          refine EThen_ret ?_
          refine Ret_ret ?_
          first | (have h := notFormed1 he (by rw [Exp.ok, hbT]; simp); rw [h]) | (have h := notFormed1 he (by rw [Exp.ok, hna]; rfl); rw [h]) | (have h := notFormed2 hl' (by rw [Lit.ok, hbT]; simp); rw [h]) | (have h := notFormed2 hl' (by rw [Lit.ok, hna]; simp); rw [h]) | (have h := isFormed_end hlast hx2 hx3 (by simpa using hc) hy2 hy3; rw [List.length_map] at hg128; simp only [List.length_map, h, hg128]; simp)
        ·
          intro hg85
          refine TL_want rfl rfl (lt_of_blt rfl) rfl ?_
          first | refine TL_o rfl rfl rfl (g_field_box rfl rfl Ty.f32_0 rfl) ?_ | refine TL_o rfl rfl rfl (g_field_pt rfl rfl Ty.f32_0 rfl) ?_ | refine TL_o rfl rfl rfl (g_field_el rfl rfl rfl rfl Ty.f32_0 rfl) ?_
          refine TL_want rfl rfl (lt_of_blt rfl) rfl ?_
          first | refine TL_o rfl rfl rfl (g_load_box rfl rfl Ty.c3 rfl rfl) ?_ | refine TL_o rfl rfl rfl (g_load_pt rfl rfl Ty.c3 rfl) ?_ | refine TL_o rfl rfl rfl (g_load_el rfl rfl Ty.c3 rfl rfl rfl) ?_
          refine TL_want rfl rfl (lt_of_blt rfl) rfl ?_
          refine TL_o rfl rfl rfl (c_call rfl rfl Fk.ok70 (fun w F => PC_in l.kind 1 3 w F)) ?_
          refine TL_want rfl rfl (lt_of_blt rfl) rfl ?_
          refine TL_o rfl rfl rfl (g_not rfl rfl) ?_
          iterate 2 refine TL_x ?_
          refine TL_split 91 rfl ?_ ?_
          ·
            intro hg91
            refine TL_skip rfl rfl (lt_of_blt rfl) rfl (lt_of_blt rfl) rfl rfl ?_
            refine TL_skip rfl rfl (lt_of_blt rfl) rfl (lt_of_blt rfl) rfl rfl ?_
            refine TL_skip rfl rfl (lt_of_blt rfl) rfl (lt_of_blt rfl) rfl rfl ?_
            refine TL_skip rfl rfl (lt_of_blt rfl) rfl (lt_of_blt rfl) rfl rfl ?_
            refine TL_skipu rfl rfl (lt_of_blt rfl) rfl (lt_of_blt rfl) rfl ?_
            refine TL_skipu rfl rfl (lt_of_blt rfl) rfl (lt_of_blt rfl) rfl ?_
            refine TL_skipu rfl rfl (lt_of_blt rfl) rfl (lt_of_blt rfl) rfl ?_
            refine TL_skipu rfl rfl (lt_of_blt rfl) rfl (lt_of_blt rfl) rfl ?_
            refine TL_skip rfl rfl (lt_of_blt rfl) rfl (lt_of_blt rfl) rfl rfl ?_
            refine TL_x ?_
            refine TL_nil ?_
            refine EThen_n ?_
            refine T_cond_t rfl ?_
            have hbT : l.badKind y.1 = true := by simp [Lit.badKind, inR, *] at *; first | done | omega
            refine T_seq ?_
            refine T_region ?_
            refine TL_x ?_
            refine TL_nil ?_
            refine EThen_n ?_
            refine T_ret ?_
            refine EThen_ret ?_
            refine EBlock_ret ?_
            refine EThen_ret ?_
            refine EThen_ret ?_
            refine EBlock_ret ?_
            refine EThen_ret ?_
            refine Ret_ret ?_
            first | (have h := notFormed1 he (by rw [Exp.ok, hbT]; simp); rw [h]) | (have h := notFormed1 he (by rw [Exp.ok, hna]; rfl); rw [h]) | (have h := notFormed2 hl' (by rw [Lit.ok, hbT]; simp); rw [h]) | (have h := notFormed2 hl' (by rw [Lit.ok, hna]; simp); rw [h]) | (have h := isFormed_end hlast hx2 hx3 (by simpa using hc) hy2 hy3; rw [List.length_map] at hg128; simp only [List.length_map, h, hg128]; simp)
          ·
            intro hg91
            refine TL_want rfl rfl (lt_of_blt rfl) rfl ?_
            first | refine TL_o rfl rfl rfl (g_field_box rfl rfl Ty.f32_0 rfl) ?_ | refine TL_o rfl rfl rfl (g_field_pt rfl rfl Ty.f32_0 rfl) ?_ | refine TL_o rfl rfl rfl (g_field_el rfl rfl rfl rfl Ty.f32_0 rfl) ?_
            refine TL_want rfl rfl (lt_of_blt rfl) rfl ?_
            first | refine TL_o rfl rfl rfl (g_load_box rfl rfl Ty.c3 rfl rfl) ?_ | refine TL_o rfl rfl rfl (g_load_pt rfl rfl Ty.c3 rfl) ?_ | refine TL_o rfl rfl rfl (g_load_el rfl rfl Ty.c3 rfl rfl rfl) ?_
            refine TL_want rfl rfl (lt_of_blt rfl) rfl ?_
            refine TL_o rfl rfl rfl (g_icmp rfl rfl rfl rfl) ?_
            refine TL_want rfl rfl (lt_of_blt rfl) rfl ?_
            refine TL_o rfl rfl rfl (f_move rfl (by first | exact .d _ | exact .box _ _ | exact .asl _ _ | exact .nil | exact .lit _ _ | exact .agg _ | exact .clo _ _ | exact .fnv _ | exact .tup _ | exact .el _ _ _ | exact .mp _ | exact .junk)) ?_
            refine TL_split 95 rfl ?_ ?_
            ·
              intro hg95
              refine TL_want rfl rfl (lt_of_blt rfl) rfl ?_
              first | refine TL_o rfl rfl rfl (g_field_box rfl rfl Ty.f32_2 rfl) ?_ | refine TL_o rfl rfl rfl (g_field_pt rfl rfl Ty.f32_2 rfl) ?_ | refine TL_o rfl rfl rfl (g_field_el rfl rfl rfl rfl Ty.f32_2 rfl) ?_
              refine TL_want rfl rfl (lt_of_blt rfl) rfl ?_
              first | refine TL_o rfl rfl rfl (g_load_box rfl rfl Ty.c23 rfl rfl) ?_ | refine TL_o rfl rfl rfl (g_load_pt rfl rfl Ty.c23 rfl) ?_ | refine TL_o rfl rfl rfl (g_load_el rfl rfl Ty.c23 rfl rfl rfl) ?_
              refine TL_want rfl rfl (lt_of_blt rfl) rfl ?_
              first | refine TL_o rfl rfl rfl (g_len_sl rfl rfl Ty.s23 rfl) ?_ | refine TL_o rfl rfl rfl (g_len_asl rfl rfl rfl rfl Ty.s23 rfl) ?_ | refine TL_o rfl rfl rfl (g_len_asl rfl rfl rfl (by simp) Ty.s23 rfl) ?_ | refine TL_o rfl rfl rfl (g_len_lit rfl rfl Ty.s23 rfl) ?_ | refine TL_o rfl rfl rfl (g_len_nil rfl rfl Ty.s23) ?_
              refine TL_want rfl rfl (lt_of_blt rfl) rfl ?_
              refine TL_o rfl rfl rfl (g_icmp rfl rfl rfl rfl) ?_
              refine TL_want rfl rfl (lt_of_blt rfl) rfl ?_
              refine TL_o rfl rfl rfl (f_pick rfl rfl (by first | exact .d _ | exact .box _ _ | exact .asl _ _ | exact .nil | exact .lit _ _ | exact .agg _ | exact .clo _ _ | exact .fnv _ | exact .tup _ | exact .el _ _ _ | exact .mp _ | exact .junk)) ?_
              refine TL_x ?_
              refine TL_nil ?_
              refine EThen_n ?_
              refine T_cond rfl ?_ ?_
              ·
                intro hc
                have hbT : l.badKind y.1 = true := by simp [Lit.badKind, inR, *] at *; first | done | omega
                refine T_seq ?_
                refine T_region ?_
                refine TL_x ?_
                refine TL_nil ?_
                refine EThen_n ?_
                refine T_ret ?_
                refine EThen_ret ?_
                refine EBlock_ret ?_
                refine EThen_ret ?_
                refine EThen_ret ?_
                refine EBlock_ret ?_
                refine EThen_ret ?_
                refine Ret_ret ?_
                first | (have h := notFormed1 he (by rw [Exp.ok, hbT]; simp); rw [h]) | (have h := notFormed1 he (by rw [Exp.ok, hna]; rfl); rw [h]) | (have h := notFormed2 hl' (by rw [Lit.ok, hbT]; simp); rw [h]) | (have h := notFormed2 hl' (by rw [Lit.ok, hna]; simp); rw [h]) | (have h := isFormed_end hlast hx2 hx3 (by simpa using hc) hy2 hy3; rw [List.length_map] at hg128; simp only [List.length_map, h, hg128]; simp)
              ·
                intro hc
                have hbad : l.badKind y.1 = false := by simp [Lit.badKind, inR, *] at *; first | done | omega
                refine T_skip ?_
                refine EThen_n ?_
                refine T_seq ?_
                refine T_region ?_
                iterate 4 refine TL_x ?_
                refine TL_nil ?_
                refine EThen_n ?_
                refine T_block ?_
                refine T_loopF (α := Nat × List Int) (fun z => ⟨(upd (upd (upd (upd (upd (upd (upd (upd env0 1 (.box 1 0)) 3 (.asl 15 (r.exps.map Q.Exp.d).length)) 71 (.d (dlits r.lits))) 72 (.d (di ((r.lits.map Q.Lit.d).length : Int)))) 73 (.d (di (y.1 : Int)))) 103 (.d (dints l.args))) 104 (.d (di ((l.args.map di).length : Int)))) 105 (.d (di (z.1 : Int)))), (upd (upd H0 1 (.box [.d (dexps r.exps), .d (di r.head.kind), .d (ds r.head.name), .d (dints r.head.args), .d (dlits r.body)])) 15 (.arr true 1 3 ((cnt (r.exps.map Q.Exp.d).length z.2).map di)))⟩) (fun z => z.1 ≤ l.args.length ∧ z.2 = y.2 ++ l.args.take z.1 ∧ (∀ j a, j < z.1 → l.args[j]? = some a → inR a 0 ((r.exps.length : Int) - 1) = true)) (fun z => l.args.length - z.1) (0, y.2) (fgt_intro (fgt_upd rfl (fgt_upd rfl (fgt_upd rfl (fgt_upd rfl (fgt_upd rfl (fgt_upd rfl (fgt_upd rfl (fgt_upd rfl fgt_env0)))))))) (fgt_updH rfl (fgt_updH rfl fgt_H0))) ?_ ?_
                · exact ⟨Nat.zero_le _, by simp, fun j e h => by simp at h⟩
                rintro z ⟨hz1, hz2, hz3⟩
                refine T_seq ?_
                refine T_region ?_
                refine TL_x ?_
                refine TL_nil ?_
                refine EThen_n ?_
                refine T_seq ?_
                refine T_cond rfl ?_ ?_
                ·
                  intro hc
                  have hlt2 : z.1 < l.args.length := by simpa using hc
                  obtain ⟨a, ha⟩ := get_some hlt2
                  refine T_skip ?_
                  refine EThen_n ?_
                  refine T_seq ?_
                  refine T_block ?_
                  refine T_seq ?_
                  refine T_region ?_
                  first | refine TL_o rfl rfl rfl (g_index_sl rfl rfl rfl Ty.s23 (by omega) (get_map (by assumption))) ?_ | refine TL_o rfl rfl rfl (g_index_lit rfl rfl rfl Ty.s23 (by omega) (get_map (by assumption))) ?_ | refine TL_o rfl rfl rfl (g_index_asl rfl rfl rfl rfl rfl Ty.s23 (by omega) (get_map (by assumption))) ?_
                  iterate 2 refine TL_x ?_
                  refine TL_nil ?_
                  refine EThen_n ?_
                  refine T_seq ?_
                  refine T_seq ?_
                  refine T_region ?_
                  iterate 5 refine TL_x ?_
                  refine TL_o rfl rfl rfl (c_call rfl rfl Fk.ok70 (fun w F => PC_in a 0 (((r.exps.map Q.Exp.d).length : Int) - 1) w F)) ?_
                  refine TL_x ?_
                  refine TL_nil ?_
                  refine EThen_n ?_
                  refine T_cond rfl ?_ ?_
                  ·
                    intro hc
                    have hna : l.args.all (fun k => inR k 0 ((r.exps.length : Int) - 1)) = false := not_all ha (by rw [List.length_map] at hc; unfold inR; simpa only [Bool.not_eq_true'] using hc)
                    refine T_seq ?_
                    refine T_region ?_
                    refine TL_x ?_
                    refine TL_nil ?_
                    refine EThen_n ?_
                    refine T_ret ?_
                    refine EThen_ret ?_
                    refine EBlock_ret ?_
                    refine EThen_ret ?_
                    refine EThen_ret ?_
                    refine EBlock_ret ?_
                    refine EBlock_ret ?_
                    refine EThen_ret ?_
                    refine EThen_ret ?_
                    refine EBlock_ret ?_
                    refine EThen_ret ?_
                    refine Ret_ret ?_
                    first | (have h := notFormed1 he (by rw [Exp.ok, hbT]; simp); rw [h]) | (have h := notFormed1 he (by rw [Exp.ok, hna]; rfl); rw [h]) | (have h := notFormed2 hl' (by rw [Lit.ok, hbT]; simp); rw [h]) | (have h := notFormed2 hl' (by rw [Lit.ok, hna]; simp); rw [h]) | (have h := isFormed_end hlast hx2 hx3 (by simpa using hc) hy2 hy3; rw [List.length_map] at hg128; simp only [List.length_map, h, hg128]; simp)
                  ·
                    intro hc
                    have har : inR a 0 ((r.exps.length : Int) - 1) = true := by simpa [inR] using hc
                    have ha0 : 0 ≤ a := by simp [inR] at har; exact har.1
                    have ha1 : a < r.exps.length := by simp [inR] at har; omega
                    have hp : z.2 <+: r.uses := uses_pre2 hxx hx2 hl' hy2 hz2
                    refine T_skip ?_
                    refine EThen_n ?_
                    refine T_region ?_
                    iterate 2 refine TL_x ?_
                    refine TL_o rfl rfl rfl (g_index_el1 rfl rfl rfl rfl Ty.s23 (by simp [cnt]) ha0 (by simp [cnt]; omega)) ?_
                    refine TL_o rfl rfl rfl (g_load_el1 (f := di) rfl rfl Ty.c3 rfl di_cells (by simp [cnt]) (cnt_get ha0 (by simp; omega))) ?_
                    refine TL_o rfl rfl rfl (g_add rfl rfl rfl (wr64 _ (by have := cnt_le hu hp a; omega))) ?_
                    refine TL_o rfl rfl rfl (g_index_el1 rfl rfl rfl rfl Ty.s23 (by simp [cnt]) ha0 (by simp [cnt]; omega)) ?_
                    refine TL_s rfl (s_store_el1 (f := di) rfl rfl rfl rfl (.d _) (.d _) Ty.n3 di_cells (by simp [cnt]) (by simp [cnt]; omega) (cnt_set ha0 (by simp; omega))) ?_
                    refine TL_nil ?_
                    refine EBlock_n ?_
                    refine EThen_n ?_
                    refine T_region ?_
                    iterate 2 refine TL_x ?_
                    refine TL_nil ?_
                    refine EThen_n ⟨(z.1 + 1, z.2 ++ [a]), (fgt_intro (fgt_upd rfl (fgt_upd rfl (fgt_upd rfl (fgt_upd rfl (fgt_upd rfl (fgt_upd rfl (fgt_upd rfl (fgt_upd rfl fgt_env0)))))))) (fgt_updH rfl (fgt_updH rfl fgt_H0))), ?_, ?_⟩
                    · exact inner_next (q := fun a => inR a 0 ((r.exps.length : Int) - 1)) hz1 hz2 hz3 ha har
                    · dsimp only; omega
                ·
                  intro hc
                  have hlast : ¬ z.1 < l.args.length := by simpa using hc
                  refine T_exit ?_
                  refine EThen_exit ?_
                  refine EThen_exit ?_
                  refine EBlock_same ?_
                  refine EBlock_n ?_
                  refine EThen_n ?_
                  refine T_region ?_
                  iterate 2 refine TL_x ?_
                  refine TL_nil ?_
                  refine EThen_n ⟨(y.1 + 1, z.2), (fgt_intro (fgt_upd rfl (fgt_upd rfl (fgt_upd rfl (fgt_upd rfl (fgt_upd rfl fgt_env0))))) (fgt_updH rfl (fgt_updH rfl fgt_H0))), ?_, ?_⟩
                  · exact formed_next2 hy1 hy2 hy3 hl' hz1 hz2 hz3 hlast hbad
                  · dsimp only; omega
            ·
              intro hg95
              refine TL_skip rfl rfl (lt_of_blt rfl) rfl (lt_of_blt rfl) rfl rfl ?_
              refine TL_skip rfl rfl (lt_of_blt rfl) rfl (lt_of_blt rfl) rfl rfl ?_
              refine TL_skip rfl rfl (lt_of_blt rfl) rfl (lt_of_blt rfl) rfl rfl ?_
              refine TL_skip rfl rfl (lt_of_blt rfl) rfl (lt_of_blt rfl) rfl rfl ?_
              refine TL_want rfl rfl (lt_of_blt rfl) rfl ?_
              refine TL_o rfl rfl rfl (f_pick rfl rfl (by first | exact .d _ | exact .box _ _ | exact .asl _ _ | exact .nil | exact .lit _ _ | exact .agg _ | exact .clo _ _ | exact .fnv _ | exact .tup _ | exact .el _ _ _ | exact .mp _ | exact .junk)) ?_
              refine TL_x ?_
              refine TL_nil ?_
              refine EThen_n ?_
              refine T_cond_f rfl ?_
              have hbad : l.badKind y.1 = false := by simp [Lit.badKind, inR, *] at *; first | done | omega
              refine T_skip ?_
              refine EThen_n ?_
              refine T_seq ?_
              refine T_region ?_
              iterate 4 refine TL_x ?_
              refine TL_nil ?_
              refine EThen_n ?_
              refine T_block ?_
              refine T_loopF (α := Nat × List Int) (fun z => ⟨(upd (upd (upd (upd (upd (upd (upd (upd env0 1 (.box 1 0)) 3 (.asl 15 (r.exps.map Q.Exp.d).length)) 71 (.d (dlits r.lits))) 72 (.d (di ((r.lits.map Q.Lit.d).length : Int)))) 73 (.d (di (y.1 : Int)))) 103 (.d (dints l.args))) 104 (.d (di ((l.args.map di).length : Int)))) 105 (.d (di (z.1 : Int)))), (upd (upd H0 1 (.box [.d (dexps r.exps), .d (di r.head.kind), .d (ds r.head.name), .d (dints r.head.args), .d (dlits r.body)])) 15 (.arr true 1 3 ((cnt (r.exps.map Q.Exp.d).length z.2).map di)))⟩) (fun z => z.1 ≤ l.args.length ∧ z.2 = y.2 ++ l.args.take z.1 ∧ (∀ j a, j < z.1 → l.args[j]? = some a → inR a 0 ((r.exps.length : Int) - 1) = true)) (fun z => l.args.length - z.1) (0, y.2) (fgt_intro (fgt_upd rfl (fgt_upd rfl (fgt_upd rfl (fgt_upd rfl (fgt_upd rfl (fgt_upd rfl (fgt_upd rfl (fgt_upd rfl fgt_env0)))))))) (fgt_updH rfl (fgt_updH rfl fgt_H0))) ?_ ?_
              · exact ⟨Nat.zero_le _, by simp, fun j e h => by simp at h⟩
              rintro z ⟨hz1, hz2, hz3⟩
              refine T_seq ?_
              refine T_region ?_
              refine TL_x ?_
              refine TL_nil ?_
              refine EThen_n ?_
              refine T_seq ?_
              refine T_cond rfl ?_ ?_
              ·
                intro hc
                have hlt2 : z.1 < l.args.length := by simpa using hc
                obtain ⟨a, ha⟩ := get_some hlt2
                refine T_skip ?_
                refine EThen_n ?_
                refine T_seq ?_
                refine T_block ?_
                refine T_seq ?_
                refine T_region ?_
                first | refine TL_o rfl rfl rfl (g_index_sl rfl rfl rfl Ty.s23 (by omega) (get_map (by assumption))) ?_ | refine TL_o rfl rfl rfl (g_index_lit rfl rfl rfl Ty.s23 (by omega) (get_map (by assumption))) ?_ | refine TL_o rfl rfl rfl (g_index_asl rfl rfl rfl rfl rfl Ty.s23 (by omega) (get_map (by assumption))) ?_
                iterate 2 refine TL_x ?_
                refine TL_nil ?_
                refine EThen_n ?_
                refine T_seq ?_
                refine T_seq ?_
                refine T_region ?_
                iterate 5 refine TL_x ?_
                refine TL_o rfl rfl rfl (c_call rfl rfl Fk.ok70 (fun w F => PC_in a 0 (((r.exps.map Q.Exp.d).length : Int) - 1) w F)) ?_
                refine TL_x ?_
                refine TL_nil ?_
                refine EThen_n ?_
                refine T_cond rfl ?_ ?_
                ·
                  intro hc
                  have hna : l.args.all (fun k => inR k 0 ((r.exps.length : Int) - 1)) = false := not_all ha (by rw [List.length_map] at hc; unfold inR; simpa only [Bool.not_eq_true'] using hc)
                  refine T_seq ?_
                  refine T_region ?_
                  refine TL_x ?_
                  refine TL_nil ?_
                  refine EThen_n ?_
                  refine T_ret ?_
                  refine EThen_ret ?_
                  refine EBlock_ret ?_
                  refine EThen_ret ?_
                  refine EThen_ret ?_
                  refine EBlock_ret ?_
                  refine EBlock_ret ?_
                  refine EThen_ret ?_
                  refine EThen_ret ?_
                  refine EBlock_ret ?_
                  refine EThen_ret ?_
                  refine Ret_ret ?_
                  first | (have h := notFormed1 he (by rw [Exp.ok, hbT]; simp); rw [h]) | (have h := notFormed1 he (by rw [Exp.ok, hna]; rfl); rw [h]) | (have h := notFormed2 hl' (by rw [Lit.ok, hbT]; simp); rw [h]) | (have h := notFormed2 hl' (by rw [Lit.ok, hna]; simp); rw [h]) | (have h := isFormed_end hlast hx2 hx3 (by simpa using hc) hy2 hy3; rw [List.length_map] at hg128; simp only [List.length_map, h, hg128]; simp)
                ·
                  intro hc
                  have har : inR a 0 ((r.exps.length : Int) - 1) = true := by simpa [inR] using hc
                  have ha0 : 0 ≤ a := by simp [inR] at har; exact har.1
                  have ha1 : a < r.exps.length := by simp [inR] at har; omega
                  have hp : z.2 <+: r.uses := uses_pre2 hxx hx2 hl' hy2 hz2
                  refine T_skip ?_
                  refine EThen_n ?_
                  refine T_region ?_
                  iterate 2 refine TL_x ?_
                  refine TL_o rfl rfl rfl (g_index_el1 rfl rfl rfl rfl Ty.s23 (by simp [cnt]) ha0 (by simp [cnt]; omega)) ?_
                  refine TL_o rfl rfl rfl (g_load_el1 (f := di) rfl rfl Ty.c3 rfl di_cells (by simp [cnt]) (cnt_get ha0 (by simp; omega))) ?_
                  refine TL_o rfl rfl rfl (g_add rfl rfl rfl (wr64 _ (by have := cnt_le hu hp a; omega))) ?_
                  refine TL_o rfl rfl rfl (g_index_el1 rfl rfl rfl rfl Ty.s23 (by simp [cnt]) ha0 (by simp [cnt]; omega)) ?_
                  refine TL_s rfl (s_store_el1 (f := di) rfl rfl rfl rfl (.d _) (.d _) Ty.n3 di_cells (by simp [cnt]) (by simp [cnt]; omega) (cnt_set ha0 (by simp; omega))) ?_
                  refine TL_nil ?_
                  refine EBlock_n ?_
                  refine EThen_n ?_
                  refine T_region ?_
                  iterate 2 refine TL_x ?_
                  refine TL_nil ?_
                  refine EThen_n ⟨(z.1 + 1, z.2 ++ [a]), (fgt_intro (fgt_upd rfl (fgt_upd rfl (fgt_upd rfl (fgt_upd rfl (fgt_upd rfl (fgt_upd rfl (fgt_upd rfl (fgt_upd rfl fgt_env0)))))))) (fgt_updH rfl (fgt_updH rfl fgt_H0))), ?_, ?_⟩
                  · exact inner_next (q := fun a => inR a 0 ((r.exps.length : Int) - 1)) hz1 hz2 hz3 ha har
                  · dsimp only; omega
              ·
                intro hc
                have hlast : ¬ z.1 < l.args.length := by simpa using hc
                refine T_exit ?_
                refine EThen_exit ?_
                refine EThen_exit ?_
                refine EBlock_same ?_
                refine EBlock_n ?_
                refine EThen_n ?_
                refine T_region ?_
                iterate 2 refine TL_x ?_
                refine TL_nil ?_
                refine EThen_n ⟨(y.1 + 1, z.2), (fgt_intro (fgt_upd rfl (fgt_upd rfl (fgt_upd rfl (fgt_upd rfl (fgt_upd rfl fgt_env0))))) (fgt_updH rfl (fgt_updH rfl fgt_H0))), ?_, ?_⟩
                · exact formed_next2 hy1 hy2 hy3 hl' hz1 hz2 hz3 hlast hbad
                · dsimp only; omega
      ·
        intro hg80
        refine TL_skip rfl rfl (lt_of_blt rfl) rfl (lt_of_blt rfl) rfl rfl ?_
        refine TL_skip rfl rfl (lt_of_blt rfl) rfl (lt_of_blt rfl) rfl rfl ?_
        refine TL_skip rfl rfl (lt_of_blt rfl) rfl (lt_of_blt rfl) rfl rfl ?_
        iterate 2 refine TL_x ?_
        refine TL_want rfl rfl (lt_of_blt rfl) rfl ?_
        first | refine TL_o rfl rfl rfl (g_field_box rfl rfl Ty.f32_0 rfl) ?_ | refine TL_o rfl rfl rfl (g_field_pt rfl rfl Ty.f32_0 rfl) ?_ | refine TL_o rfl rfl rfl (g_field_el rfl rfl rfl rfl Ty.f32_0 rfl) ?_
        refine TL_want rfl rfl (lt_of_blt rfl) rfl ?_
        first | refine TL_o rfl rfl rfl (g_load_box rfl rfl Ty.c3 rfl rfl) ?_ | refine TL_o rfl rfl rfl (g_load_pt rfl rfl Ty.c3 rfl) ?_ | refine TL_o rfl rfl rfl (g_load_el rfl rfl Ty.c3 rfl rfl rfl) ?_
        refine TL_want rfl rfl (lt_of_blt rfl) rfl ?_
        refine TL_o rfl rfl rfl (c_call rfl rfl Fk.ok70 (fun w F => PC_in l.kind 1 3 w F)) ?_
        refine TL_want rfl rfl (lt_of_blt rfl) rfl ?_
        refine TL_o rfl rfl rfl (g_not rfl rfl) ?_
        iterate 2 refine TL_x ?_
        refine TL_split 91 rfl ?_ ?_
        ·
          intro hg91
          refine TL_skip rfl rfl (lt_of_blt rfl) rfl (lt_of_blt rfl) rfl rfl ?_
          refine TL_skip rfl rfl (lt_of_blt rfl) rfl (lt_of_blt rfl) rfl rfl ?_
          refine TL_skip rfl rfl (lt_of_blt rfl) rfl (lt_of_blt rfl) rfl rfl ?_
          refine TL_skip rfl rfl (lt_of_blt rfl) rfl (lt_of_blt rfl) rfl rfl ?_
          refine TL_skipu rfl rfl (lt_of_blt rfl) rfl (lt_of_blt rfl) rfl ?_
          refine TL_skipu rfl rfl (lt_of_blt rfl) rfl (lt_of_blt rfl) rfl ?_
          refine TL_skipu rfl rfl (lt_of_blt rfl) rfl (lt_of_blt rfl) rfl ?_
          refine TL_skipu rfl rfl (lt_of_blt rfl) rfl (lt_of_blt rfl) rfl ?_
          refine TL_skip rfl rfl (lt_of_blt rfl) rfl (lt_of_blt rfl) rfl rfl ?_
          refine TL_x ?_
          refine TL_nil ?_
          refine EThen_n ?_
          refine T_cond_t rfl ?_
          have hbT : l.badKind y.1 = true := by simp [Lit.badKind, inR, *] at *; first | done | omega
          refine T_seq ?_
          refine T_region ?_
          refine TL_x ?_
          refine TL_nil ?_
          refine EThen_n ?_
          refine T_ret ?_
          refine EThen_ret ?_
          refine EBlock_ret ?_
          refine EThen_ret ?_
          refine EThen_ret ?_
          refine EBlock_ret ?_
          refine EThen_ret ?_
          refine Ret_ret ?_
          first | (have h := notFormed1 he (by rw [Exp.ok, hbT]; simp); rw [h]) | (have h := notFormed1 he (by rw [Exp.ok, hna]; rfl); rw [h]) | (have h := notFormed2 hl' (by rw [Lit.ok, hbT]; simp); rw [h]) | (have h := notFormed2 hl' (by rw [Lit.ok, hna]; simp); rw [h]) | (have h := isFormed_end hlast hx2 hx3 (by simpa using hc) hy2 hy3; rw [List.length_map] at hg128; simp only [List.length_map, h, hg128]; simp)
        ·
          intro hg91
          refine TL_want rfl rfl (lt_of_blt rfl) rfl ?_
          first | refine TL_o rfl rfl rfl (g_field_box rfl rfl Ty.f32_0 rfl) ?_ | refine TL_o rfl rfl rfl (g_field_pt rfl rfl Ty.f32_0 rfl) ?_ | refine TL_o rfl rfl rfl (g_field_el rfl rfl rfl rfl Ty.f32_0 rfl) ?_
          refine TL_want rfl rfl (lt_of_blt rfl) rfl ?_
          first | refine TL_o rfl rfl rfl (g_load_box rfl rfl Ty.c3 rfl rfl) ?_ | refine TL_o rfl rfl rfl (g_load_pt rfl rfl Ty.c3 rfl) ?_ | refine TL_o rfl rfl rfl (g_load_el rfl rfl Ty.c3 rfl rfl rfl) ?_
          refine TL_want rfl rfl (lt_of_blt rfl) rfl ?_
          refine TL_o rfl rfl rfl (g_icmp rfl rfl rfl rfl) ?_
          refine TL_want rfl rfl (lt_of_blt rfl) rfl ?_
          refine TL_o rfl rfl rfl (f_move rfl (by first | exact .d _ | exact .box _ _ | exact .asl _ _ | exact .nil | exact .lit _ _ | exact .agg _ | exact .clo _ _ | exact .fnv _ | exact .tup _ | exact .el _ _ _ | exact .mp _ | exact .junk)) ?_
          refine TL_split 95 rfl ?_ ?_
          ·
            intro hg95
            refine TL_want rfl rfl (lt_of_blt rfl) rfl ?_
            first | refine TL_o rfl rfl rfl (g_field_box rfl rfl Ty.f32_2 rfl) ?_ | refine TL_o rfl rfl rfl (g_field_pt rfl rfl Ty.f32_2 rfl) ?_ | refine TL_o rfl rfl rfl (g_field_el rfl rfl rfl rfl Ty.f32_2 rfl) ?_
            refine TL_want rfl rfl (lt_of_blt rfl) rfl ?_
            first | refine TL_o rfl rfl rfl (g_load_box rfl rfl Ty.c23 rfl rfl) ?_ | refine TL_o rfl rfl rfl (g_load_pt rfl rfl Ty.c23 rfl) ?_ | refine TL_o rfl rfl rfl (g_load_el rfl rfl Ty.c23 rfl rfl rfl) ?_
            refine TL_want rfl rfl (lt_of_blt rfl) rfl ?_
            first | refine TL_o rfl rfl rfl (g_len_sl rfl rfl Ty.s23 rfl) ?_ | refine TL_o rfl rfl rfl (g_len_asl rfl rfl rfl rfl Ty.s23 rfl) ?_ | refine TL_o rfl rfl rfl (g_len_asl rfl rfl rfl (by simp) Ty.s23 rfl) ?_ | refine TL_o rfl rfl rfl (g_len_lit rfl rfl Ty.s23 rfl) ?_ | refine TL_o rfl rfl rfl (g_len_nil rfl rfl Ty.s23) ?_
            refine TL_want rfl rfl (lt_of_blt rfl) rfl ?_
            refine TL_o rfl rfl rfl (g_icmp rfl rfl rfl rfl) ?_
            refine TL_want rfl rfl (lt_of_blt rfl) rfl ?_
            refine TL_o rfl rfl rfl (f_pick rfl rfl (by first | exact .d _ | exact .box _ _ | exact .asl _ _ | exact .nil | exact .lit _ _ | exact .agg _ | exact .clo _ _ | exact .fnv _ | exact .tup _ | exact .el _ _ _ | exact .mp _ | exact .junk)) ?_
            refine TL_x ?_
            refine TL_nil ?_
            refine EThen_n ?_
            refine T_cond rfl ?_ ?_
            ·
              intro hc
              have hbT : l.badKind y.1 = true := by simp [Lit.badKind, inR, *] at *; first | done | omega
              refine T_seq ?_
              refine T_region ?_
              refine TL_x ?_
              refine TL_nil ?_
              refine EThen_n ?_
              refine T_ret ?_
              refine EThen_ret ?_
              refine EBlock_ret ?_
              refine EThen_ret ?_
              refine EThen_ret ?_
              refine EBlock_ret ?_
              refine EThen_ret ?_
              refine Ret_ret ?_
              first | (have h := notFormed1 he (by rw [Exp.ok, hbT]; simp); rw [h]) | (have h := notFormed1 he (by rw [Exp.ok, hna]; rfl); rw [h]) | (have h := notFormed2 hl' (by rw [Lit.ok, hbT]; simp); rw [h]) | (have h := notFormed2 hl' (by rw [Lit.ok, hna]; simp); rw [h]) | (have h := isFormed_end hlast hx2 hx3 (by simpa using hc) hy2 hy3; rw [List.length_map] at hg128; simp only [List.length_map, h, hg128]; simp)
            ·
              intro hc
              have hbad : l.badKind y.1 = false := by simp [Lit.badKind, inR, *] at *; first | done | omega
              refine T_skip ?_
              refine EThen_n ?_
              refine T_seq ?_
              refine T_region ?_
              iterate 4 refine TL_x ?_
              refine TL_nil ?_
              refine EThen_n ?_
              refine T_block ?_
              refine T_loopF (α := Nat × List Int) (fun z => ⟨(upd (upd (upd (upd (upd (upd (upd (upd env0 1 (.box 1 0)) 3 (.asl 15 (r.exps.map Q.Exp.d).length)) 71 (.d (dlits r.lits))) 72 (.d (di ((r.lits.map Q.Lit.d).length : Int)))) 73 (.d (di (y.1 : Int)))) 103 (.d (dints l.args))) 104 (.d (di ((l.args.map di).length : Int)))) 105 (.d (di (z.1 : Int)))), (upd (upd H0 1 (.box [.d (dexps r.exps), .d (di r.head.kind), .d (ds r.head.name), .d (dints r.head.args), .d (dlits r.body)])) 15 (.arr true 1 3 ((cnt (r.exps.map Q.Exp.d).length z.2).map di)))⟩) (fun z => z.1 ≤ l.args.length ∧ z.2 = y.2 ++ l.args.take z.1 ∧ (∀ j a, j < z.1 → l.args[j]? = some a → inR a 0 ((r.exps.length : Int) - 1) = true)) (fun z => l.args.length - z.1) (0, y.2) (fgt_intro (fgt_upd rfl (fgt_upd rfl (fgt_upd rfl (fgt_upd rfl (fgt_upd rfl (fgt_upd rfl (fgt_upd rfl (fgt_upd rfl fgt_env0)))))))) (fgt_updH rfl (fgt_updH rfl fgt_H0))) ?_ ?_
              · exact ⟨Nat.zero_le _, by simp, fun j e h => by simp at h⟩
              rintro z ⟨hz1, hz2, hz3⟩
              refine T_seq ?_
              refine T_region ?_
              refine TL_x ?_
              refine TL_nil ?_
              refine EThen_n ?_
              refine T_seq ?_
              refine T_cond rfl ?_ ?_
              ·
                intro hc
                have hlt2 : z.1 < l.args.length := by simpa using hc
                obtain ⟨a, ha⟩ := get_some hlt2
                refine T_skip ?_
                refine EThen_n ?_
                refine T_seq ?_
                refine T_block ?_
                refine T_seq ?_
                refine T_region ?_
                first | refine TL_o rfl rfl rfl (g_index_sl rfl rfl rfl Ty.s23 (by omega) (get_map (by assumption))) ?_ | refine TL_o rfl rfl rfl (g_index_lit rfl rfl rfl Ty.s23 (by omega) (get_map (by assumption))) ?_ | refine TL_o rfl rfl rfl (g_index_asl rfl rfl rfl rfl rfl Ty.s23 (by omega) (get_map (by assumption))) ?_
                iterate 2 refine TL_x ?_
                refine TL_nil ?_
                refine EThen_n ?_
                refine T_seq ?_
                refine T_seq ?_
                refine T_region ?_
                iterate 5 refine TL_x ?_
                refine TL_o rfl rfl rfl (c_call rfl rfl Fk.ok70 (fun w F => PC_in a 0 (((r.exps.map Q.Exp.d).length : Int) - 1) w F)) ?_
                refine TL_x ?_
                refine TL_nil ?_
                refine EThen_n ?_
                refine T_cond rfl ?_ ?_
                ·
                  intro hc
                  have hna : l.args.all (fun k => inR k 0 ((r.exps.length : Int) - 1)) = false := not_all ha (by rw [List.length_map] at hc; unfold inR; simpa only [Bool.not_eq_true'] using hc)
                  refine T_seq ?_
                  refine T_region ?_
                  refine TL_x ?_
                  refine TL_nil ?_
                  refine EThen_n ?_
                  refine T_ret ?_
                  refine EThen_ret ?_
                  refine EBlock_ret ?_
                  refine EThen_ret ?_
                  refine EThen_ret ?_
                  refine EBlock_ret ?_
                  refine EBlock_ret ?_
                  refine EThen_ret ?_
                  refine EThen_ret ?_
                  refine EBlock_ret ?_
                  refine EThen_ret ?_
                  refine Ret_ret ?_
                  first | (have h := notFormed1 he (by rw [Exp.ok, hbT]; simp); rw [h]) | (have h := notFormed1 he (by rw [Exp.ok, hna]; rfl); rw [h]) | (have h := notFormed2 hl' (by rw [Lit.ok, hbT]; simp); rw [h]) | (have h := notFormed2 hl' (by rw [Lit.ok, hna]; simp); rw [h]) | (have h := isFormed_end hlast hx2 hx3 (by simpa using hc) hy2 hy3; rw [List.length_map] at hg128; simp only [List.length_map, h, hg128]; simp)
                ·
                  intro hc
                  have har : inR a 0 ((r.exps.length : Int) - 1) = true := by simpa [inR] using hc
                  have ha0 : 0 ≤ a := by simp [inR] at har; exact har.1
                  have ha1 : a < r.exps.length := by simp [inR] at har; omega
                  have hp : z.2 <+: r.uses := uses_pre2 hxx hx2 hl' hy2 hz2
                  refine T_skip ?_
                  refine EThen_n ?_
                  refine T_region ?_
                  iterate 2 refine TL_x ?_
                  refine TL_o rfl rfl rfl (g_index_el1 rfl rfl rfl rfl Ty.s23 (by simp [cnt]) ha0 (by simp [cnt]; omega)) ?_
                  refine TL_o rfl rfl rfl (g_load_el1 (f := di) rfl rfl Ty.c3 rfl di_cells (by simp [cnt]) (cnt_get ha0 (by simp; omega))) ?_
                  refine TL_o rfl rfl rfl (g_add rfl rfl rfl (wr64 _ (by have := cnt_le hu hp a; omega))) ?_
                  refine TL_o rfl rfl rfl (g_index_el1 rfl rfl rfl rfl Ty.s23 (by simp [cnt]) ha0 (by simp [cnt]; omega)) ?_
                  refine TL_s rfl (s_store_el1 (f := di) rfl rfl rfl rfl (.d _) (.d _) Ty.n3 di_cells (by simp [cnt]) (by simp [cnt]; omega) (cnt_set ha0 (by simp; omega))) ?_
                  refine TL_nil ?_
                  refine EBlock_n ?_
                  refine EThen_n ?_
                  refine T_region ?_
                  iterate 2 refine TL_x ?_
                  refine TL_nil ?_
                  refine EThen_n ⟨(z.1 + 1, z.2 ++ [a]), (fgt_intro (fgt_upd rfl (fgt_upd rfl (fgt_upd rfl (fgt_upd rfl (fgt_upd rfl (fgt_upd rfl (fgt_upd rfl (fgt_upd rfl fgt_env0)))))))) (fgt_updH rfl (fgt_updH rfl fgt_H0))), ?_, ?_⟩
                  · exact inner_next (q := fun a => inR a 0 ((r.exps.length : Int) - 1)) hz1 hz2 hz3 ha har
                  · dsimp only; omega
              ·
                intro hc
                have hlast : ¬ z.1 < l.args.length := by simpa using hc
                refine T_exit ?_
                refine EThen_exit ?_
                refine EThen_exit ?_
                refine EBlock_same ?_
                refine EBlock_n ?_
                refine EThen_n ?_
                refine T_region ?_
                iterate 2 refine TL_x ?_
                refine TL_nil ?_
                refine EThen_n ⟨(y.1 + 1, z.2), (fgt_intro (fgt_upd rfl (fgt_upd rfl (fgt_upd rfl (fgt_upd rfl (fgt_upd rfl fgt_env0))))) (fgt_updH rfl (fgt_updH rfl fgt_H0))), ?_, ?_⟩
                · exact formed_next2 hy1 hy2 hy3 hl' hz1 hz2 hz3 hlast hbad
                · dsimp only; omega
          ·
            intro hg95
            refine TL_skip rfl rfl (lt_of_blt rfl) rfl (lt_of_blt rfl) rfl rfl ?_
            refine TL_skip rfl rfl (lt_of_blt rfl) rfl (lt_of_blt rfl) rfl rfl ?_
            refine TL_skip rfl rfl (lt_of_blt rfl) rfl (lt_of_blt rfl) rfl rfl ?_
            refine TL_skip rfl rfl (lt_of_blt rfl) rfl (lt_of_blt rfl) rfl rfl ?_
            refine TL_want rfl rfl (lt_of_blt rfl) rfl ?_
            refine TL_o rfl rfl rfl (f_pick rfl rfl (by first | exact .d _ | exact .box _ _ | exact .asl _ _ | exact .nil | exact .lit _ _ | exact .agg _ | exact .clo _ _ | exact .fnv _ | exact .tup _ | exact .el _ _ _ | exact .mp _ | exact .junk)) ?_
            refine TL_x ?_
            refine TL_nil ?_
            refine EThen_n ?_
            refine T_cond_f rfl ?_
            have hbad : l.badKind y.1 = false := by simp [Lit.badKind, inR, *] at *; first | done | omega
            refine T_skip ?_
            refine EThen_n ?_
            refine T_seq ?_
            refine T_region ?_
            iterate 4 refine TL_x ?_
            refine TL_nil ?_
            refine EThen_n ?_
            refine T_block ?_
            refine T_loopF (α := Nat × List Int) (fun z => ⟨(upd (upd (upd (upd (upd (upd (upd (upd env0 1 (.box 1 0)) 3 (.asl 15 (r.exps.map Q.Exp.d).length)) 71 (.d (dlits r.lits))) 72 (.d (di ((r.lits.map Q.Lit.d).length : Int)))) 73 (.d (di (y.1 : Int)))) 103 (.d (dints l.args))) 104 (.d (di ((l.args.map di).length : Int)))) 105 (.d (di (z.1 : Int)))), (upd (upd H0 1 (.box [.d (dexps r.exps), .d (di r.head.kind), .d (ds r.head.name), .d (dints r.head.args), .d (dlits r.body)])) 15 (.arr true 1 3 ((cnt (r.exps.map Q.Exp.d).length z.2).map di)))⟩) (fun z => z.1 ≤ l.args.length ∧ z.2 = y.2 ++ l.args.take z.1 ∧ (∀ j a, j < z.1 → l.args[j]? = some a → inR a 0 ((r.exps.length : Int) - 1) = true)) (fun z => l.args.length - z.1) (0, y.2) (fgt_intro (fgt_upd rfl (fgt_upd rfl (fgt_upd rfl (fgt_upd rfl (fgt_upd rfl (fgt_upd rfl (fgt_upd rfl (fgt_upd rfl fgt_env0)))))))) (fgt_updH rfl (fgt_updH rfl fgt_H0))) ?_ ?_
            · exact ⟨Nat.zero_le _, by simp, fun j e h => by simp at h⟩
            rintro z ⟨hz1, hz2, hz3⟩
            refine T_seq ?_
            refine T_region ?_
            refine TL_x ?_
            refine TL_nil ?_
            refine EThen_n ?_
            refine T_seq ?_
            refine T_cond rfl ?_ ?_
            ·
              intro hc
              have hlt2 : z.1 < l.args.length := by simpa using hc
              obtain ⟨a, ha⟩ := get_some hlt2
              refine T_skip ?_
              refine EThen_n ?_
              refine T_seq ?_
              refine T_block ?_
              refine T_seq ?_
              refine T_region ?_
              first | refine TL_o rfl rfl rfl (g_index_sl rfl rfl rfl Ty.s23 (by omega) (get_map (by assumption))) ?_ | refine TL_o rfl rfl rfl (g_index_lit rfl rfl rfl Ty.s23 (by omega) (get_map (by assumption))) ?_ | refine TL_o rfl rfl rfl (g_index_asl rfl rfl rfl rfl rfl Ty.s23 (by omega) (get_map (by assumption))) ?_
              iterate 2 refine TL_x ?_
              refine TL_nil ?_
              refine EThen_n ?_
              refine T_seq ?_
              refine T_seq ?_
              refine T_region ?_
              iterate 5 refine TL_x ?_
              refine TL_o rfl rfl rfl (c_call rfl rfl Fk.ok70 (fun w F => PC_in a 0 (((r.exps.map Q.Exp.d).length : Int) - 1) w F)) ?_
              refine TL_x ?_
              refine TL_nil ?_
              refine EThen_n ?_
              refine T_cond rfl ?_ ?_
              ·
                intro hc
                have hna : l.args.all (fun k => inR k 0 ((r.exps.length : Int) - 1)) = false := not_all ha (by rw [List.length_map] at hc; unfold inR; simpa only [Bool.not_eq_true'] using hc)
                refine T_seq ?_
                refine T_region ?_
                refine TL_x ?_
                refine TL_nil ?_
                refine EThen_n ?_
                refine T_ret ?_
                refine EThen_ret ?_
                refine EBlock_ret ?_
                refine EThen_ret ?_
                refine EThen_ret ?_
                refine EBlock_ret ?_
                refine EBlock_ret ?_
                refine EThen_ret ?_
                refine EThen_ret ?_
                refine EBlock_ret ?_
                refine EThen_ret ?_
                refine Ret_ret ?_
                first | (have h := notFormed1 he (by rw [Exp.ok, hbT]; simp); rw [h]) | (have h := notFormed1 he (by rw [Exp.ok, hna]; rfl); rw [h]) | (have h := notFormed2 hl' (by rw [Lit.ok, hbT]; simp); rw [h]) | (have h := notFormed2 hl' (by rw [Lit.ok, hna]; simp); rw [h]) | (have h := isFormed_end hlast hx2 hx3 (by simpa using hc) hy2 hy3; rw [List.length_map] at hg128; simp only [List.length_map, h, hg128]; simp)
              ·
                intro hc
                have har : inR a 0 ((r.exps.length : Int) - 1) = true := by simpa [inR] using hc
                have ha0 : 0 ≤ a := by simp [inR] at har; exact har.1
                have ha1 : a < r.exps.length := by simp [inR] at har; omega
                have hp : z.2 <+: r.uses := uses_pre2 hxx hx2 hl' hy2 hz2
                refine T_skip ?_
                refine EThen_n ?_
                refine T_region ?_
                iterate 2 refine TL_x ?_
                refine TL_o rfl rfl rfl (g_index_el1 rfl rfl rfl rfl Ty.s23 (by simp [cnt]) ha0 (by simp [cnt]; omega)) ?_
                refine TL_o rfl rfl rfl (g_load_el1 (f := di) rfl rfl Ty.c3 rfl di_cells (by simp [cnt]) (cnt_get ha0 (by simp; omega))) ?_
                refine TL_o rfl rfl rfl (g_add rfl rfl rfl (wr64 _ (by have := cnt_le hu hp a; omega))) ?_
                refine TL_o rfl rfl rfl (g_index_el1 rfl rfl rfl rfl Ty.s23 (by simp [cnt]) ha0 (by simp [cnt]; omega)) ?_
                refine TL_s rfl (s_store_el1 (f := di) rfl rfl rfl rfl (.d _) (.d _) Ty.n3 di_cells (by simp [cnt]) (by simp [cnt]; omega) (cnt_set ha0 (by simp; omega))) ?_
                refine TL_nil ?_
                refine EBlock_n ?_
                refine EThen_n ?_
                refine T_region ?_
                iterate 2 refine TL_x ?_
                refine TL_nil ?_
                refine EThen_n ⟨(z.1 + 1, z.2 ++ [a]), (fgt_intro (fgt_upd rfl (fgt_upd rfl (fgt_upd rfl (fgt_upd rfl (fgt_upd rfl (fgt_upd rfl (fgt_upd rfl (fgt_upd rfl fgt_env0)))))))) (fgt_updH rfl (fgt_updH rfl fgt_H0))), ?_, ?_⟩
                · exact inner_next (q := fun a => inR a 0 ((r.exps.length : Int) - 1)) hz1 hz2 hz3 ha har
                · dsimp only; omega
            ·
              intro hc
              have hlast : ¬ z.1 < l.args.length := by simpa using hc
              refine T_exit ?_
              refine EThen_exit ?_
              refine EThen_exit ?_
              refine EBlock_same ?_
              refine EBlock_n ?_
              refine EThen_n ?_
              refine T_region ?_
              iterate 2 refine TL_x ?_
              refine TL_nil ?_
              refine EThen_n ⟨(y.1 + 1, z.2), (fgt_intro (fgt_upd rfl (fgt_upd rfl (fgt_upd rfl (fgt_upd rfl (fgt_upd rfl fgt_env0))))) (fgt_updH rfl (fgt_updH rfl fgt_H0))), ?_, ?_⟩
              · exact formed_next2 hy1 hy2 hy3 hl' hz1 hz2 hz3 hlast hbad
              · dsimp only; omega
    ·
      intro hc
      refine T_exit ?_
      refine EThen_exit ?_
      refine EThen_exit ?_
      refine EBlock_same ?_
      refine EThen_n ?_
      refine T_seq ?_
      refine T_freeze 15 rfl ?_
      refine T_region ?_
      iterate 5 refine TL_x ?_
      refine TL_split 128 rfl ?_ ?_
      ·
        intro hg128
        refine TL_want rfl rfl (lt_of_blt rfl) rfl ?_
        refine TL_o rfl rfl rfl (f_move rfl (by first | exact .d _ | exact .box _ _ | exact .asl _ _ | exact .nil | exact .lit _ _ | exact .agg _ | exact .clo _ _ | exact .fnv _ | exact .tup _ | exact .el _ _ _ | exact .mp _ | exact .junk)) ?_
        refine TL_want rfl rfl (lt_of_blt rfl) rfl ?_
        refine TL_o rfl rfl rfl (c_call rfl rfl Fk.ok73 (fun w F => PC_ContainsFunc_int (cnt (r.exps.map Q.Exp.d).length y.2) (fun n => decide (n ≠ 1)) (fun ds rs => ∃ n, ds = [di n] ∧ rs = [db (decide (n ≠ 1))]) (fun n _ => ⟨n, rfl, rfl⟩) (by simp [cnt]; omega) w F) (.cons (.d (.asl _ _ _ _ _ rfl (by simp [cnt]))) (.cons (.clo Fk.ok74 .nil (fun w F ds rs h => by obtain ⟨n, h1, h2⟩ := h; subst h1 h2; exact PC_isFormed1 n w F)) .nil))) ?_
        refine TL_want rfl rfl (lt_of_blt rfl) rfl ?_
        refine TL_o rfl rfl rfl (g_not rfl rfl) ?_
        iterate 2 refine TL_x ?_
        refine TL_nil ?_
        refine EThen_n ?_
        refine T_ret ?_
        refine Ret_ret ?_
        first | (have h := notFormed1 he (by rw [Exp.ok, hbT]; simp); rw [h]) | (have h := notFormed1 he (by rw [Exp.ok, hna]; rfl); rw [h]) | (have h := notFormed2 hl' (by rw [Lit.ok, hbT]; simp); rw [h]) | (have h := notFormed2 hl' (by rw [Lit.ok, hna]; simp); rw [h]) | (have h := isFormed_end hlast hx2 hx3 (by simpa using hc) hy2 hy3; rw [List.length_map] at hg128; simp only [List.length_map, h, hg128]; simp)
      ·
        intro hg128
        refine TL_skip rfl rfl (lt_of_blt rfl) rfl (lt_of_blt rfl) rfl rfl ?_
        refine TL_skip rfl rfl (lt_of_blt rfl) rfl (lt_of_blt rfl) rfl rfl ?_
        refine TL_skip rfl rfl (lt_of_blt rfl) rfl (lt_of_blt rfl) rfl rfl ?_
        iterate 2 refine TL_x ?_
        refine TL_nil ?_
        refine EThen_n ?_
        refine T_ret ?_
        refine Ret_ret ?_
        first | (have h := notFormed1 he (by rw [Exp.ok, hbT]; simp); rw [h]) | (have h := notFormed1 he (by rw [Exp.ok, hna]; rfl); rw [h]) | (have h := notFormed2 hl' (by rw [Lit.ok, hbT]; simp); rw [h]) | (have h := notFormed2 hl' (by rw [Lit.ok, hna]; simp); rw [h]) | (have h := isFormed_end hlast hx2 hx3 (by simpa using hc) hy2 hy3; rw [List.length_map] at hg128; simp only [List.length_map, h, hg128]; simp)

end Go.Proofs
