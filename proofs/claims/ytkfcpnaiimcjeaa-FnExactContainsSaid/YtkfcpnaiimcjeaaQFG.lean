/- Contracts of functions of the program, each under the conditions that its statement names. -/
import Derived.Test.YtkfcpnaiimcjeaaQFF
import Derived.Test.YtkfcpnaiimcjeaaQPlain
set_option linter.unusedVariables false
set_option linter.unusedSimpArgs false
namespace Go.Proofs
open Go.Q
attribute [local irreducible] Go.Q.GStep Go.Q.SStep Go.Q.T Go.Q.TL Go.Q.PC Go.Q.DGo
set_option maxHeartbeats 4000000 in
theorem PC_PlainRule (r : Rule) (hw : r.wt ≤ 4294967296) (w : World) (F : Fz) : PC Try.prog 16 w F [.d (r.d)] (· = [db r.plain]) := by
  have hsm := Rule.small hw
  have hs1 := hsm.1
  have hs2 := hsm.2.1
  have hs3 := hsm.2.2.1
  have hsh := hsm.2.2.2.2.1 r.head (by simp [Rule.lits])
  refine PC_of_T' (rs := [2]) (n := 113) Try.func16 rfl rfl rfl rfl ?_
  refine T_seq ?_
  refine T_region ?_
  refine TL_box 1 ?_
  refine TL_x ?_
  refine TL_nil ?_
  refine EThen_n ?_
  refine T_seq ?_
  refine T_seq ?_
  refine T_region ?_
  refine TL_x ?_
  refine TL_o rfl rfl rfl (c_call rfl rfl Fk.ok42 (fun w F => PC_RuleText r hw w F)) ?_
  iterate 2 refine TL_x ?_
  refine TL_split 11 rfl ?_ ?_
  ·
    intro hg11
    refine TL_skip rfl rfl (lt_of_blt rfl) rfl (lt_of_blt rfl) rfl rfl ?_
    refine TL_skip rfl rfl (lt_of_blt rfl) rfl (lt_of_blt rfl) rfl rfl ?_
    refine TL_skip rfl rfl (lt_of_blt rfl) rfl (lt_of_blt rfl) rfl rfl ?_
    refine TL_skip rfl rfl (lt_of_blt rfl) rfl (lt_of_blt rfl) rfl rfl ?_
    refine TL_x ?_
    refine TL_nil ?_
    refine EThen_n ?_
    refine T_cond_t rfl ?_
    have hbad := plain_bad (r := r) (.inl (by simpa using hg11))
    refine T_seq ?_
    refine T_region ?_
    refine TL_x ?_
    refine TL_nil ?_
    refine EThen_n ?_
    refine T_ret ?_
    refine EThen_ret ?_
    refine Ret_ret ?_
    first | rw [hbad] | (rw [plain_ok hne hb6 (all_of hlastB (fun j l h1 h2 => by simp [hx3 j l h1 h2])) (all_of hlastE hp2) (all_of hlastH hq2)]; done)
  ·
    intro hg11
    refine TL_want rfl rfl (lt_of_blt rfl) rfl ?_
    first | refine TL_o rfl rfl rfl (g_field_box rfl rfl Ty.f43_2 rfl) ?_ | refine TL_o rfl rfl rfl (g_field_pt rfl rfl Ty.f43_2 rfl) ?_ | refine TL_o rfl rfl rfl (g_field_el rfl rfl rfl rfl Ty.f43_2 rfl) ?_
    refine TL_want rfl rfl (lt_of_blt rfl) rfl ?_
    first | refine TL_o rfl rfl rfl (g_load_box rfl rfl Ty.c41 rfl rfl) ?_ | refine TL_o rfl rfl rfl (g_load_pt rfl rfl Ty.c41 rfl) ?_ | refine TL_o rfl rfl rfl (g_load_el rfl rfl Ty.c41 rfl rfl rfl) ?_
    refine TL_want rfl rfl (lt_of_blt rfl) rfl ?_
    first | refine TL_o rfl rfl rfl (g_len_sl rfl rfl Ty.s41 rfl) ?_ | refine TL_o rfl rfl rfl (g_len_asl rfl rfl rfl rfl Ty.s41 rfl) ?_ | refine TL_o rfl rfl rfl (g_len_asl rfl rfl rfl (by simp) Ty.s41 rfl) ?_ | refine TL_o rfl rfl rfl (g_len_lit rfl rfl Ty.s41 rfl) ?_ | refine TL_o rfl rfl rfl (g_len_nil rfl rfl Ty.s41) ?_
    refine TL_want rfl rfl (lt_of_blt rfl) rfl ?_
    refine TL_o rfl rfl rfl (g_icmp rfl rfl rfl rfl) ?_
    refine TL_x ?_
    refine TL_nil ?_
    refine EThen_n ?_
    refine T_cond rfl ?_ ?_
    ·
      intro hc
      have hbad := plain_bad (r := r) (.inr (.inl (by simp at hc ⊢; omega)))
      refine T_seq ?_
      refine T_region ?_
      refine TL_x ?_
      refine TL_nil ?_
      refine EThen_n ?_
      refine T_ret ?_
      refine EThen_ret ?_
      refine Ret_ret ?_
      first | rw [hbad] | (rw [plain_ok hne hb6 (all_of hlastB (fun j l h1 h2 => by simp [hx3 j l h1 h2])) (all_of hlastE hp2) (all_of hlastH hq2)]; done)
    ·
      intro hc
      have hne : r.text ≠ [] := by simpa using hg11
      have hb6 : r.body.length ≤ 6 := by simp at hc; omega
      have hf := text_formed hne
      refine T_skip ?_
      refine EThen_n ?_
      refine T_seq ?_
      refine T_region ?_
      refine TL_s rfl (s_buildSlice (id := 17) rfl rfl rfl Ty.e48 rfl rfl rfl .nil rfl rfl rfl (by repeat (first | exact noRefE0 | exact noRefE_envOf | exact noRefE_envA rfl | refine noRefE_upd rfl ?_)) (by repeat (first | exact noRefH0 | refine noRefH_upd rfl ?_))) ?_
      refine TL_x ?_
      refine TL_nil ?_
      refine EThen_n ?_
      refine T_seq ?_
      refine T_seq ?_
      refine T_region ?_
      refine TL_x ?_
      refine TL_nil ?_
      refine EThen_n ?_
      refine T_block ?_
      refine T_loopF (α := Nat × List Int) (fun x => ⟨(upd (upd (upd env0 1 (.box 1 0)) 3 (.asl 17 ((x.2.map fun k => vt (expAt r k)).map ds).length)) 4 (.d (di (x.1 : Int)))), (upd (upd H0 1 (.box [.d (dexps r.exps), .d (di r.head.kind), .d (ds r.head.name), .d (dints r.head.args), .d (dlits r.body)])) 17 (.arr true 1 9 ((x.2.map fun k => vt (expAt r k)).map ds)))⟩) (fun x => x.1 ≤ r.body.length ∧ x.2 = argsOf (r.body.take x.1) ∧ (∀ (j : Nat) (l : Q.Lit), j < x.1 → r.body[j]? = some l → l.kind = 1)) (fun x => r.body.length - x.1) (0, []) (fgt_intro (fgt_upd rfl (fgt_upd rfl (fgt_upd rfl fgt_env0))) (fgt_updH rfl (fgt_updH rfl fgt_H0))) ?_ ?_
      · exact ⟨Nat.zero_le _, rfl, fun j l h => by simp at h⟩
      rintro x ⟨hx1, hx2, hx3⟩
      refine T_seq ?_
      refine T_seq ?_
      refine T_region ?_
      iterate 5 refine TL_x ?_
      refine TL_nil ?_
      refine EThen_n ?_
      refine T_cond rfl ?_ ?_
      ·
        intro hc
        have hlt : x.1 < r.body.length := by simpa using hc
        obtain ⟨l, hl⟩ := get_some hlt
        have hlm : l ∈ r.lits := by simp only [Rule.lits]; exact List.mem_cons_of_mem _ (List.mem_of_getElem? hl)
        have hla := hsm.2.2.2.2.1 l hlm
        refine T_skip ?_
        refine EThen_n ?_
        refine T_seq ?_
        refine T_block ?_
        refine T_seq ?_
        refine T_seq ?_
        refine T_region ?_
        iterate 3 refine TL_x ?_
        first | refine TL_o rfl rfl rfl (g_index_sl rfl rfl rfl Ty.s41 (by omega) (get_map hl)) ?_ | refine TL_o rfl rfl rfl (g_index_lit rfl rfl rfl Ty.s41 (by omega) (get_map hl)) ?_ | refine TL_o rfl rfl rfl (g_index_asl rfl rfl rfl rfl rfl Ty.s41 (by omega) (get_map hl)) ?_
        iterate 3 refine TL_x ?_
        refine TL_nil ?_
        refine EThen_n ?_
        refine T_cond rfl ?_ ?_
        ·
          intro hc
          have hbad := plain_bad (r := r) (.inr (.inr (.inl (not_all hl (by simpa using hc)))))
          refine T_seq ?_
          refine T_region ?_
          refine TL_x ?_
          refine TL_nil ?_
          refine EThen_n ?_
          refine T_ret ?_
          refine EThen_ret ?_
          refine EBlock_ret ?_
          refine EThen_ret ?_
          refine EThen_ret ?_
          refine EBlock_ret ?_
          refine EThen_ret ?_
          refine Ret_ret ?_
          first | rw [hbad] | (rw [plain_ok hne hb6 (all_of hlastB (fun j l h1 h2 => by simp [hx3 j l h1 h2])) (all_of hlastE hp2) (all_of hlastH hq2)]; done)
        ·
          intro hc
          have hk1 : l.kind = 1 := by simpa using hc
          refine T_skip ?_
          refine EThen_n ?_
          refine T_seq ?_
          refine T_region ?_
          refine TL_x ?_
          refine TL_nil ?_
          refine EThen_n ?_
          refine T_block ?_
          refine T_loopF (α := Nat × List Int) (fun y => ⟨(upd (upd (upd (upd env0 1 (.box 1 0)) 3 (.asl 17 ((y.2.map fun k => vt (expAt r k)).map ds).length)) 4 (.d (di (x.1 : Int)))) 5 (.d (di (y.1 : Int)))), (upd (upd H0 1 (.box [.d (dexps r.exps), .d (di r.head.kind), .d (ds r.head.name), .d (dints r.head.args), .d (dlits r.body)])) 17 (.arr true 1 9 ((y.2.map fun k => vt (expAt r k)).map ds)))⟩) (fun y => y.1 ≤ l.args.length ∧ y.2 = x.2 ++ l.args.take y.1) (fun y => l.args.length - y.1) (0, x.2) (fgt_intro (fgt_upd rfl (fgt_upd rfl (fgt_upd rfl (fgt_upd rfl fgt_env0)))) (fgt_updH rfl (fgt_updH rfl fgt_H0))) ?_ ?_
          · exact ⟨Nat.zero_le _, by simp⟩
          rintro y ⟨hy1, hy2⟩
          refine T_seq ?_
          refine T_seq ?_
          refine T_region ?_
          iterate 4 refine TL_x ?_
          first | refine TL_o rfl rfl rfl (g_index_sl rfl rfl rfl Ty.s41 (by omega) (get_map hl)) ?_ | refine TL_o rfl rfl rfl (g_index_lit rfl rfl rfl Ty.s41 (by omega) (get_map hl)) ?_ | refine TL_o rfl rfl rfl (g_index_asl rfl rfl rfl rfl rfl Ty.s41 (by omega) (get_map hl)) ?_
          iterate 4 refine TL_x ?_
          refine TL_nil ?_
          refine EThen_n ?_
          refine T_cond rfl ?_ ?_
          ·
            intro hc
            have hlt2 : y.1 < l.args.length := by simpa using hc
            obtain ⟨a, ha⟩ := get_some hlt2
            have hka := lit_exp hf hlm (List.mem_of_getElem? ha)
            obtain ⟨ea, hea⟩ := hka.2
            have hyl : y.2.length ≤ 4294967296 := by rw [hy2, hx2]; exact Nat.le_trans (body_pre hl) hs3
            refine T_skip ?_
            refine EThen_n ?_
            refine T_seq ?_
            refine T_block ?_
            refine T_draw 13 Ty.mixed rfl ?_
            iterate 5 refine DGo_x ?_
            first | refine DGo_one rfl rfl (.go _ rfl (g_index_sl rfl rfl rfl Ty.s41 (by omega) (get_map hl))) ?_ | refine DGo_one rfl rfl (.go _ rfl (g_index_lit rfl rfl rfl Ty.s41 (by omega) (get_map hl))) ?_ | refine DGo_one rfl rfl (.go _ rfl (g_index_asl rfl rfl rfl rfl rfl Ty.s41 (by omega) (get_map hl))) ?_
            iterate 3 refine DGo_x ?_
            first | refine DGo_one rfl rfl (.go _ rfl (g_index_sl rfl rfl rfl Ty.s31 (by omega) (get_map ha))) ?_ | refine DGo_one rfl rfl (.go _ rfl (g_index_lit rfl rfl rfl Ty.s31 (by omega) (get_map ha))) ?_ | refine DGo_one rfl rfl (.go _ rfl (g_index_asl rfl rfl rfl rfl rfl Ty.s31 (by omega) (get_map ha))) ?_
            refine DGo_x ?_
            refine DGo_one rfl rfl (.go _ rfl (c_call rfl rfl Fk.ok43 (fun w F => PC_l16Text r a ea hka.1 hea (by have := hsm.2.2.2.2.2.1 ea (List.mem_of_getElem? hea); omega) w F))) ?_
            refine DGo_x ?_
            refine DGo_nil ?_
            refine TL_s rfl (s_append_to (l' := (((y.2 ++ [a]).map fun k => vt (expAt r k)).map ds)) (m := (((y.2 ++ [a]).map fun k => vt (expAt r k)).map ds).length) rfl rfl rfl rfl rfl (by simp) (by first | exact .asl _ _ _ _ _ rfl rfl | exact .lit _ | exact .d _ _ | exact .nil) Ty.e48 (by simp [expAt_of hea, vt]) (by simp) (by simp; omega) (by unfold maxLen; simp; omega)) ?_
            refine TL_x ?_
            refine TL_nil ?_
            refine EBlock_n ?_
            refine EThen_n ?_
            refine T_region ?_
            iterate 3 refine TL_x ?_
            refine TL_nil ?_
            refine EThen_n ⟨(y.1 + 1, y.2 ++ [a]), (fgt_intro (fgt_upd rfl (fgt_upd rfl (fgt_upd rfl (fgt_upd rfl fgt_env0)))) (fgt_updH rfl (fgt_updH rfl fgt_H0))), ?_, ?_⟩
            · exact ⟨hlt2, by rw [hy2, take_snoc ha, List.append_assoc]⟩
            · dsimp only; omega
          ·
            intro hc
            have hlast2 : ¬ y.1 < l.args.length := by simpa using hc
            refine T_exit ?_
            refine EThen_exit ?_
            refine EThen_exit ?_
            refine EBlock_same ?_
            refine EBlock_n ?_
            refine EThen_n ?_
            refine T_region ?_
            iterate 3 refine TL_x ?_
            refine TL_nil ?_
            refine EThen_n ⟨(x.1 + 1, y.2), (fgt_intro (fgt_upd rfl (fgt_upd rfl (fgt_upd rfl fgt_env0))) (fgt_updH rfl (fgt_updH rfl fgt_H0))), ?_, ?_⟩
            · exact body_next hx2 hx3 hl hy2 hlast2 hk1
            · dsimp only; omega
      ·
        intro hc
        have hlastB : ¬ x.1 < r.body.length := by simpa using hc
        have hxa : x.2 = argsOf r.body := by rw [hx2, List.take_of_length_le (by omega)]
        refine T_exit ?_
        refine EThen_exit ?_
        refine EThen_exit ?_
        refine EBlock_same ?_
        refine EThen_n ?_
        refine T_seq ?_
        refine T_seq ?_
        refine T_region ?_
        refine TL_x ?_
        refine TL_nil ?_
        refine EThen_n ?_
        refine T_block ?_
        refine T_loopF (α := Nat) (fun p => ⟨(upd (upd (upd env0 1 (.box 1 0)) 3 (.asl 17 ((x.2.map fun k => vt (expAt r k)).map ds).length)) 6 (.d (di (p : Int)))), (upd (upd H0 1 (.box [.d (dexps r.exps), .d (di r.head.kind), .d (ds r.head.name), .d (dints r.head.args), .d (dlits r.body)])) 17 (.arr true 1 9 ((x.2.map fun k => vt (expAt r k)).map ds)))⟩) (fun p => p ≤ r.exps.length ∧ (∀ (j : Nat) (e : Q.Exp), j < p → r.exps[j]? = some e → (decide (e.kind = 1) || decide (e.kind = 3)) = true)) (fun p => r.exps.length - p) 0 (fgt_intro (fgt_upd rfl (fgt_upd rfl (fgt_upd rfl fgt_env0))) (fgt_updH rfl (fgt_updH rfl fgt_H0))) ?_ ?_
        · exact ⟨Nat.zero_le _, fun j e h => by omega⟩
        rintro p ⟨hp1, hp2⟩
        refine T_seq ?_
        refine T_seq ?_
        refine T_region ?_
        iterate 5 refine TL_x ?_
        refine TL_nil ?_
        refine EThen_n ?_
        refine T_cond rfl ?_ ?_
        ·
          intro hc
          have hlt : p < r.exps.length := by simpa using hc
          obtain ⟨e, he⟩ := get_some hlt
          refine T_skip ?_
          refine EThen_n ?_
          refine T_seq ?_
          refine T_block ?_
          refine T_seq ?_
          refine T_region ?_
          iterate 3 refine TL_x ?_
          first | refine TL_o rfl rfl rfl (g_index_sl rfl rfl rfl Ty.s39 (by omega) (get_map he)) ?_ | refine TL_o rfl rfl rfl (g_index_lit rfl rfl rfl Ty.s39 (by omega) (get_map he)) ?_ | refine TL_o rfl rfl rfl (g_index_asl rfl rfl rfl rfl rfl Ty.s39 (by omega) (get_map he)) ?_
          iterate 4 refine TL_x ?_
          refine TL_split 71 rfl ?_ ?_
          ·
            intro hg71
            refine TL_want rfl rfl (lt_of_blt rfl) rfl ?_
            first | refine TL_o rfl rfl rfl (g_field_box rfl rfl Ty.f43_0 rfl) ?_ | refine TL_o rfl rfl rfl (g_field_pt rfl rfl Ty.f43_0 rfl) ?_ | refine TL_o rfl rfl rfl (g_field_el rfl rfl rfl rfl Ty.f43_0 rfl) ?_
            refine TL_want rfl rfl (lt_of_blt rfl) rfl ?_
            first | refine TL_o rfl rfl rfl (g_load_box rfl rfl Ty.c39 rfl rfl) ?_ | refine TL_o rfl rfl rfl (g_load_pt rfl rfl Ty.c39 rfl) ?_ | refine TL_o rfl rfl rfl (g_load_el rfl rfl Ty.c39 rfl rfl rfl) ?_
            refine TL_want rfl rfl (lt_of_blt rfl) rfl ?_
            refine TL_o rfl rfl rfl (f_move rfl (by first | exact .d _ | exact .box _ _ | exact .asl _ _ | exact .nil | exact .lit _ _ | exact .agg _ | exact .clo _ _ | exact .fnv _ | exact .tup _ | exact .el _ _ _ | exact .mp _ | exact .junk)) ?_
            refine TL_want rfl rfl (lt_of_blt rfl) rfl ?_
            first | refine TL_o rfl rfl rfl (g_index_sl rfl rfl rfl Ty.s39 (by omega) (get_map he)) ?_ | refine TL_o rfl rfl rfl (g_index_lit rfl rfl rfl Ty.s39 (by omega) (get_map he)) ?_ | refine TL_o rfl rfl rfl (g_index_asl rfl rfl rfl rfl rfl Ty.s39 (by omega) (get_map he)) ?_
            refine TL_want rfl rfl (lt_of_blt rfl) rfl ?_
            first | refine TL_o rfl rfl rfl (g_field_box rfl rfl Ty.f82_0 rfl) ?_ | refine TL_o rfl rfl rfl (g_field_pt rfl rfl Ty.f82_0 rfl) ?_ | refine TL_o rfl rfl rfl (g_field_el rfl rfl rfl rfl Ty.f82_0 rfl) ?_
            refine TL_want rfl rfl (lt_of_blt rfl) rfl ?_
            first | refine TL_o rfl rfl rfl (g_load_box rfl rfl Ty.c3 rfl rfl) ?_ | refine TL_o rfl rfl rfl (g_load_pt rfl rfl Ty.c3 rfl) ?_ | refine TL_o rfl rfl rfl (g_load_el rfl rfl Ty.c3 rfl rfl rfl) ?_
            refine TL_want rfl rfl (lt_of_blt rfl) rfl ?_
            refine TL_o rfl rfl rfl (g_icmp rfl rfl rfl rfl) ?_
            refine TL_x ?_
            refine TL_nil ?_
            refine EThen_n ?_
            refine T_cond rfl ?_ ?_
            ·
              intro hc
              have hbad := plain_bad (r := r) (.inr (.inr (.inr (.inl (not_all he (by simp at hg71 hc; simp [hg71, hc]))))))
              refine T_seq ?_
              refine T_region ?_
              refine TL_x ?_
              refine TL_nil ?_
              refine EThen_n ?_
              refine T_ret ?_
              refine EBlock_ret ?_
              refine EThen_ret ?_
              refine EThen_ret ?_
              refine EBlock_ret ?_
              refine EThen_ret ?_
              refine Ret_ret ?_
              first | rw [hbad] | (rw [plain_ok hne hb6 (all_of hlastB (fun j l h1 h2 => by simp [hx3 j l h1 h2])) (all_of hlastE hp2) (all_of hlastH hq2)]; done)
            ·
              intro hc
              have heo : (decide (e.kind = 1) || decide (e.kind = 3)) = true := by simp at hc; simp [hc]
              refine T_skip ?_
              refine EBlock_n ?_
              refine EThen_n ?_
              refine T_region ?_
              iterate 3 refine TL_x ?_
              refine TL_nil ?_
              refine EThen_n ⟨p + 1, (fgt_intro (fgt_upd rfl (fgt_upd rfl (fgt_upd rfl fgt_env0))) (fgt_updH rfl (fgt_updH rfl fgt_H0))), ?_, ?_⟩
              · exact all_next hp2 he heo
              · omega
          ·
            intro hg71
            refine TL_skip rfl rfl (lt_of_blt rfl) rfl (lt_of_blt rfl) rfl rfl ?_
            refine TL_skip rfl rfl (lt_of_blt rfl) rfl (lt_of_blt rfl) rfl rfl ?_
            refine TL_skip rfl rfl (lt_of_blt rfl) rfl (lt_of_blt rfl) rfl rfl ?_
            refine TL_skip rfl rfl (lt_of_blt rfl) rfl (lt_of_blt rfl) rfl rfl ?_
            refine TL_skip rfl rfl (lt_of_blt rfl) rfl (lt_of_blt rfl) rfl rfl ?_
            refine TL_skip rfl rfl (lt_of_blt rfl) rfl (lt_of_blt rfl) rfl rfl ?_
            refine TL_skip rfl rfl (lt_of_blt rfl) rfl (lt_of_blt rfl) rfl rfl ?_
            refine TL_x ?_
            refine TL_nil ?_
            refine EThen_n ?_
            refine T_cond_f rfl ?_
            have heo : (decide (e.kind = 1) || decide (e.kind = 3)) = true := by simp at hg71; simp [hg71]
            refine T_skip ?_
            refine EBlock_n ?_
            refine EThen_n ?_
            refine T_region ?_
            iterate 3 refine TL_x ?_
            refine TL_nil ?_
            refine EThen_n ⟨p + 1, (fgt_intro (fgt_upd rfl (fgt_upd rfl (fgt_upd rfl fgt_env0))) (fgt_updH rfl (fgt_updH rfl fgt_H0))), ?_, ?_⟩
            · exact all_next hp2 he heo
            · omega
        ·
          intro hc
          have hlastE : ¬ p < r.exps.length := by simpa using hc
          refine T_exit ?_
          refine EThen_exit ?_
          refine EThen_exit ?_
          refine EBlock_same ?_
          refine EThen_n ?_
          refine T_seq ?_
          refine T_seq ?_
          refine T_freeze 17 rfl ?_
          refine T_region ?_
          refine TL_x ?_
          refine TL_nil ?_
          refine EThen_n ?_
          refine T_block ?_
          refine T_loopF (α := Nat) (fun q => ⟨(upd (upd (upd env0 1 (.box 1 0)) 3 (.asl 17 ((x.2.map fun k => vt (expAt r k)).map ds).length)) 7 (.d (di (q : Int)))), (upd (upd H0 1 (.box [.d (dexps r.exps), .d (di r.head.kind), .d (ds r.head.name), .d (dints r.head.args), .d (dlits r.body)])) 17 (.arr false 1 9 ((x.2.map fun k => vt (expAt r k)).map ds)))⟩) (fun q => q ≤ r.head.args.length ∧ (∀ (j : Nat) (a : Int), j < q → r.head.args[j]? = some a → argOk r a = true)) (fun q => r.head.args.length - q) 0 (fgt_intro (fgt_upd rfl (fgt_upd rfl (fgt_upd rfl fgt_env0))) (fgt_updH rfl (fgt_updH rfl fgt_H0))) ?_ ?_
          · exact ⟨Nat.zero_le _, fun j e h => by omega⟩
          rintro q ⟨hq1, hq2⟩
          refine T_seq ?_
          refine T_seq ?_
          refine T_region ?_
          iterate 6 refine TL_x ?_
          refine TL_nil ?_
          refine EThen_n ?_
          refine T_cond rfl ?_ ?_
          ·
            intro hc
            have hlt : q < r.head.args.length := by simpa using hc
            obtain ⟨a, ha⟩ := get_some hlt
            have hka := lit_exp hf (l := r.head) (by simp [Rule.lits]) (List.mem_of_getElem? ha)
            obtain ⟨ea, hea⟩ := hka.2
            refine T_skip ?_
            refine EThen_n ?_
            refine T_seq ?_
            refine T_block ?_
            refine T_seq ?_
            refine T_draw 25 Ty.mixed rfl ?_
            iterate 6 refine DGo_x ?_
            first | refine DGo_one rfl rfl (.go _ rfl (g_index_sl rfl rfl rfl Ty.s31 (by omega) (get_map ha))) ?_ | refine DGo_one rfl rfl (.go _ rfl (g_index_lit rfl rfl rfl Ty.s31 (by omega) (get_map ha))) ?_ | refine DGo_one rfl rfl (.go _ rfl (g_index_asl rfl rfl rfl rfl rfl Ty.s31 (by omega) (get_map ha))) ?_
            refine DGo_x ?_
            first | refine DGo_one rfl rfl (.go _ rfl (g_index_sl rfl rfl rfl Ty.s39 (by omega) (get_map hea))) ?_ | refine DGo_one rfl rfl (.go _ rfl (g_index_lit rfl rfl rfl Ty.s39 (by omega) (get_map hea))) ?_ | refine DGo_one rfl rfl (.go _ rfl (g_index_asl rfl rfl rfl rfl rfl Ty.s39 (by omega) (get_map hea))) ?_
            iterate 3 refine DGo_x ?_
            refine DGo_bool rfl rfl (.go _ rfl (f_move rfl (by first | exact .d _ | exact .box _ _ | exact .asl _ _ | exact .nil | exact .lit _ _ | exact .agg _ | exact .clo _ _ | exact .fnv _ | exact .tup _ | exact .el _ _ _ | exact .mp _ | exact .junk))) ?_ ?_
            ·
              intro hg100
              refine DGo_one rfl rfl (.want _ _ _ _ rfl rfl rfl rfl (f_move rfl (by first | exact .d _ | exact .box _ _ | exact .asl _ _ | exact .nil | exact .lit _ _ | exact .agg _ | exact .clo _ _ | exact .fnv _ | exact .tup _ | exact .el _ _ _ | exact .mp _ | exact .junk))) ?_
              first | refine DGo_one rfl rfl (.want _ _ _ _ rfl rfl rfl rfl (f_load_box_row rfl rfl Ty.r43 rfl rfl (by first | exact .d _ | exact .box _ _ | exact .asl _ _ | exact .nil | exact .lit _ _ | exact .agg _ | exact .clo _ _ | exact .fnv _ | exact .tup _ | exact .el _ _ _ | exact .mp _ | exact .junk))) ?_ | refine DGo_one rfl rfl (.want _ _ _ _ rfl rfl rfl rfl (f_load_pt_row rfl rfl Ty.r43 rfl (by repeat (first | exact .nil | apply SLD.cons)))) ?_
              first | refine DGo_one rfl rfl (.want _ _ _ _ rfl rfl rfl rfl (g_field_box rfl rfl Ty.f43_1 rfl)) ?_ | refine DGo_one rfl rfl (.want _ _ _ _ rfl rfl rfl rfl (g_field_pt rfl rfl Ty.f43_1 rfl)) ?_ | refine DGo_one rfl rfl (.want _ _ _ _ rfl rfl rfl rfl (g_field_el rfl rfl rfl rfl Ty.f43_1 rfl)) ?_
              first | refine DGo_one rfl rfl (.want _ _ _ _ rfl rfl rfl rfl (g_field_box rfl rfl Ty.f40_2 rfl)) ?_ | refine DGo_one rfl rfl (.want _ _ _ _ rfl rfl rfl rfl (g_field_pt rfl rfl Ty.f40_2 rfl)) ?_ | refine DGo_one rfl rfl (.want _ _ _ _ rfl rfl rfl rfl (g_field_el rfl rfl rfl rfl Ty.f40_2 rfl)) ?_
              first | refine DGo_one rfl rfl (.want _ _ _ _ rfl rfl rfl rfl (g_load_box rfl rfl Ty.c31 rfl rfl)) ?_ | refine DGo_one rfl rfl (.want _ _ _ _ rfl rfl rfl rfl (g_load_pt rfl rfl Ty.c31 rfl)) ?_ | refine DGo_one rfl rfl (.want _ _ _ _ rfl rfl rfl rfl (g_load_el rfl rfl Ty.c31 rfl rfl rfl)) ?_
              refine DGo_one rfl rfl (.want _ _ _ _ rfl rfl rfl rfl (f_move rfl (by first | exact .d _ | exact .box _ _ | exact .asl _ _ | exact .nil | exact .lit _ _ | exact .agg _ | exact .clo _ _ | exact .fnv _ | exact .tup _ | exact .el _ _ _ | exact .mp _ | exact .junk))) ?_
              first | refine DGo_one rfl rfl (.want _ _ _ _ rfl rfl rfl rfl (g_index_sl rfl rfl rfl Ty.s31 (by omega) (get_map ha))) ?_ | refine DGo_one rfl rfl (.want _ _ _ _ rfl rfl rfl rfl (g_index_lit rfl rfl rfl Ty.s31 (by omega) (get_map ha))) ?_ | refine DGo_one rfl rfl (.want _ _ _ _ rfl rfl rfl rfl (g_index_asl rfl rfl rfl rfl rfl Ty.s31 (by omega) (get_map ha))) ?_
              first | refine DGo_one rfl rfl (.want _ _ _ _ rfl rfl rfl rfl (g_load_box rfl rfl Ty.c3 rfl rfl)) ?_ | refine DGo_one rfl rfl (.want _ _ _ _ rfl rfl rfl rfl (g_load_pt rfl rfl Ty.c3 rfl)) ?_ | refine DGo_one rfl rfl (.want _ _ _ _ rfl rfl rfl rfl (g_load_el rfl rfl Ty.c3 rfl rfl rfl)) ?_
              refine DGo_one rfl rfl (.want _ _ _ _ rfl rfl rfl rfl (c_call rfl rfl Fk.ok43 (fun w F => PC_l16Text r a ea hka.1 hea (by have := hsm.2.2.2.2.2.1 ea (List.mem_of_getElem? hea); omega) w F))) ?_
              refine DGo_one rfl rfl (.want _ _ _ _ rfl rfl rfl rfl (c_call rfl rfl Fk.ok44 (fun w F => PC_l05In (x.2.map fun k => vt (expAt r k)) (vt ea) (by rw [List.length_map, hxa]; have := body_len (r := r); omega) w F) (.cons (.d (.asl _ _ _ _ _ rfl rfl)) (.cons (by first | exact .d (.d _) | exact .d (.nil _ _) | exact .d (.litn _ _ _) | exact .d (.lit _ _) | exact .d (.asl _ _ _ _ _ rfl rfl) | exact .d (.asln _ _ _ _ _ _ _ rfl rfl) | exact .fnv _ | exact .d (.emp _ _ _ _)) .nil)))) ?_
              refine DGo_one rfl rfl (.want _ _ _ _ rfl rfl rfl rfl (g_not rfl rfl)) ?_
              refine DGo_x ?_
              refine DGo_nil ?_
              refine TL_nil ?_
              refine EThen_n ?_
              refine T_cond rfl ?_ ?_
              ·
                intro hc
                have hbad := plain_bad (r := r) (.inr (.inr (.inr (.inr (not_all ha (by rw [argOk, expAt_of hea, ← hxa, hg100, hc]; try rfl))))))
                refine T_seq ?_
                refine T_region ?_
                refine TL_x ?_
                refine TL_nil ?_
                refine EThen_n ?_
                refine T_ret ?_
                refine EBlock_ret ?_
                refine EThen_ret ?_
                refine EThen_ret ?_
                refine EBlock_ret ?_
                refine EThen_ret ?_
                refine Ret_ret ?_
                first | rw [hbad] | (rw [plain_ok hne hb6 (all_of hlastB (fun j l h1 h2 => by simp [hx3 j l h1 h2])) (all_of hlastE hp2) (all_of hlastH hq2)]; done)
              ·
                intro hc
                have hao : argOk r a = true := by first | (rw [argOk, expAt_of hea, ← hxa, hg100, hc]; try rfl; done) | (rw [argOk, expAt_of hea, hg100]; try rfl; done)
                refine T_skip ?_
                refine EBlock_n ?_
                refine EThen_n ?_
                refine T_region ?_
                iterate 3 refine TL_x ?_
                refine TL_nil ?_
                refine EThen_n ⟨q + 1, (fgt_intro (fgt_upd rfl (fgt_upd rfl (fgt_upd rfl fgt_env0))) (fgt_updH rfl (fgt_updH rfl fgt_H0))), ?_, ?_⟩
                · exact all_next hq2 ha hao
                · omega
            ·
              intro hg100
              refine DGo_skip rfl rfl rfl rfl rfl rfl rfl ?_
              refine DGo_skip rfl rfl rfl rfl rfl rfl rfl ?_
              refine DGo_skip rfl rfl rfl rfl rfl rfl rfl ?_
              refine DGo_skip rfl rfl rfl rfl rfl rfl rfl ?_
              refine DGo_skip rfl rfl rfl rfl rfl rfl rfl ?_
              refine DGo_skip rfl rfl rfl rfl rfl rfl rfl ?_
              refine DGo_skip rfl rfl rfl rfl rfl rfl rfl ?_
              refine DGo_skip rfl rfl rfl rfl rfl rfl rfl ?_
              refine DGo_skip rfl rfl rfl rfl rfl rfl rfl ?_
              refine DGo_skip rfl rfl rfl rfl rfl rfl rfl ?_
              refine DGo_skip rfl rfl rfl rfl rfl rfl rfl ?_
              refine DGo_x ?_
              refine DGo_nil ?_
              refine TL_nil ?_
              refine EThen_n ?_
              refine T_cond_f rfl ?_
              have hao : argOk r a = true := by first | (rw [argOk, expAt_of hea, ← hxa, hg100, hc]; try rfl; done) | (rw [argOk, expAt_of hea, hg100]; try rfl; done)
              refine T_skip ?_
              refine EBlock_n ?_
              refine EThen_n ?_
              refine T_region ?_
              iterate 3 refine TL_x ?_
              refine TL_nil ?_
              refine EThen_n ⟨q + 1, (fgt_intro (fgt_upd rfl (fgt_upd rfl (fgt_upd rfl fgt_env0))) (fgt_updH rfl (fgt_updH rfl fgt_H0))), ?_, ?_⟩
              · exact all_next hq2 ha hao
              · omega
          ·
            intro hc
            have hlastH : ¬ q < r.head.args.length := by simpa using hc
            refine T_exit ?_
            refine EThen_exit ?_
            refine EThen_exit ?_
            refine EBlock_same ?_
            refine EThen_n ?_
            refine T_seq ?_
            refine T_region ?_
            refine TL_x ?_
            refine TL_nil ?_
            refine EThen_n ?_
            refine T_ret ?_
            refine Ret_ret ?_
            first | rw [hbad] | (rw [plain_ok hne hb6 (all_of hlastB (fun j l h1 h2 => by simp [hx3 j l h1 h2])) (all_of hlastE hp2) (all_of hlastH hq2)]; done)

end Go.Proofs
