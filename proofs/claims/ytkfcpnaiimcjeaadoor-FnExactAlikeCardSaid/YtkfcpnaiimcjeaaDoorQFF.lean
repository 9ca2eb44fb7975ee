/- Contracts of functions of the program, each under the conditions that its statement names. -/
import Derived.Test.YtkfcpnaiimcjeaaDoorQFE
import Derived.Test.YtkfcpnaiimcjeaaDoorQLaw
set_option linter.unusedVariables false
set_option linter.unusedSimpArgs false
namespace Go.Proofs
open Go.Q
attribute [local irreducible] Go.Q.GStep Go.Q.SStep Go.Q.T Go.Q.TL Go.Q.PC Go.Q.DGo
set_option maxHeartbeats 4000000 in
theorem PC_RuleText (r : Rule) (hw : r.wt ≤ 4294967296) (w : World) (F : Fz)  : PC Tryd.prog 17 w F [.d (r.d)] (· = [ds r.text]) := by
  have hsm := Rule.small hw
  refine PC_of_T' (rs := [2]) (n := 74) Tryd.func17 rfl rfl rfl rfl ?_
  refine T_seq ?_
  refine T_region ?_
  refine TL_box 1 ?_
  refine TL_x ?_
  refine TL_nil ?_
  refine EThen_n ?_
  refine T_seq ?_
  refine T_seq ?_
  refine T_region ?_
  iterate 4 refine TL_x ?_
  refine TL_nil ?_
  refine EThen_n ?_
  refine T_cond rfl ?_ ?_
  ·
    intro hc
    refine T_seq ?_
    refine T_region ?_
    refine TL_x ?_
    refine TL_nil ?_
    refine EThen_n ?_
    refine T_ret ?_
    refine EThen_ret ?_
    refine Ret_ret ?_
    first | (rw [hbad]; rfl) | (have h00 := hlong; exfalso; simp at hc; omega) | (rw [text_is (all_lits hok hhs hh1 hend hz3) hend hz2 hc]; done) | (rw [text_long hz1 hz2 hc]; rfl) | (rw [text_none hok]; rfl) | (rw [text_bodies (by simp at hc; omega)]; rfl)
  ·
    intro hc
    have hbl : ¬ r.body.length > 3000 := by simp at hc; omega
    refine T_skip ?_
    refine EThen_n ?_
    refine T_seq ?_
    refine T_region ?_
    refine TL_x ?_
    refine TL_o rfl rfl rfl (c_call rfl rfl Fk.ok37 (fun w F => PC_l04Exps r hsm.1 hsm.2.1 hsm.2.2.1 hsm.2.2.2.1 hsm.2.2.2.2.1 hsm.2.2.2.2.2.1 w F)) ?_
    iterate 5 refine TL_x ?_
    refine TL_nil ?_
    refine EThen_n ?_
    refine T_seq ?_
    refine T_seq ?_
    refine T_region ?_
    iterate 2 refine TL_x ?_
    refine TL_nil ?_
    refine EThen_n ?_
    refine T_cond rfl ?_ ?_
    ·
      intro hc
      have hok : r.specExps.2 = false := by simpa using hc
      refine T_seq ?_
      refine T_region ?_
      refine TL_x ?_
      refine TL_nil ?_
      refine EThen_n ?_
      refine T_ret ?_
      refine EThen_ret ?_
      refine Ret_ret ?_
      first | (rw [hbad]; rfl) | (have h00 := hlong; exfalso; simp at hc; omega) | (rw [text_is (all_lits hok hhs hh1 hend hz3) hend hz2 hc]; done) | (rw [text_long hz1 hz2 hc]; rfl) | (rw [text_none hok]; rfl) | (rw [text_bodies (by simp at hc; omega)]; rfl)
    ·
      intro hc
      have hok : r.specExps.2 = true := by simpa using hc
      have ho := (spec_true hok).1
      refine T_skip ?_
      refine EThen_n ?_
      refine T_seq ?_
      refine T_region ?_
      iterate 3 refine TL_x ?_
      refine TL_o rfl rfl rfl (c_call rfl rfl Fk.ok38 (fun w F => PC_l04Lit r.head r.specExps.1 (spec_args hok (by simp [Rule.lits])) (spec_len hok (by simp [Rule.lits])) (hsm.2.2.2.2.1 _ (by simp [Rule.lits])) (hsm.2.2.2.2.2.2 _ (by simp [Rule.lits])) w F)) ?_
      iterate 5 refine TL_x ?_
      refine TL_nil ?_
      refine EThen_n ?_
      refine T_seq ?_
      refine T_seq ?_
      refine T_region ?_
      iterate 3 refine TL_x ?_
      refine TL_split 29 rfl ?_ ?_
      ·
        intro hg29
        refine TL_skip rfl rfl (lt_of_blt rfl) rfl (lt_of_blt rfl) rfl rfl ?_
        refine TL_skip rfl rfl (lt_of_blt rfl) rfl (lt_of_blt rfl) rfl rfl ?_
        refine TL_skip rfl rfl (lt_of_blt rfl) rfl (lt_of_blt rfl) rfl rfl ?_
        refine TL_skip rfl rfl (lt_of_blt rfl) rfl (lt_of_blt rfl) rfl rfl ?_
        refine TL_x ?_
        refine TL_nil ?_
        refine EThen_n ?_
        refine T_cond_t rfl ?_
        have hbad := text_bad (r := r) (i := 0) (l := r.head) rfl r.specExps.1 (.inl (by simpa using hg29))
        refine T_seq ?_
        refine T_region ?_
        refine TL_x ?_
        refine TL_nil ?_
        refine EThen_n ?_
        refine T_ret ?_
        refine EThen_ret ?_
        refine Ret_ret ?_
        first | (rw [hbad]; rfl) | (have h00 := hlong; exfalso; simp at hc; omega) | (rw [text_is (all_lits hok hhs hh1 hend hz3) hend hz2 hc]; done) | (rw [text_long hz1 hz2 hc]; rfl) | (rw [text_none hok]; rfl) | (rw [text_bodies (by simp at hc; omega)]; rfl)
      ·
        intro hg29
        refine TL_want rfl rfl (lt_of_blt rfl) rfl ?_
        first | refine TL_o rfl rfl rfl (g_field_box rfl rfl Ty.f35_1 rfl) ?_ | refine TL_o rfl rfl rfl (g_field_pt rfl rfl Ty.f35_1 rfl) ?_ | refine TL_o rfl rfl rfl (g_field_el rfl rfl rfl rfl Ty.f35_1 rfl) ?_
        refine TL_want rfl rfl (lt_of_blt rfl) rfl ?_
        first | refine TL_o rfl rfl rfl (g_field_box rfl rfl Ty.f32_0 rfl) ?_ | refine TL_o rfl rfl rfl (g_field_pt rfl rfl Ty.f32_0 rfl) ?_ | refine TL_o rfl rfl rfl (g_field_el rfl rfl rfl rfl Ty.f32_0 rfl) ?_
        refine TL_want rfl rfl (lt_of_blt rfl) rfl ?_
        first | refine TL_o rfl rfl rfl (g_load_box rfl rfl Ty.c3 rfl rfl) ?_ | refine TL_o rfl rfl rfl (g_load_pt rfl rfl Ty.c3 rfl) ?_ | refine TL_o rfl rfl rfl (g_load_el rfl rfl Ty.c3 rfl rfl rfl) ?_
        refine TL_want rfl rfl (lt_of_blt rfl) rfl ?_
        refine TL_o rfl rfl rfl (g_icmp rfl rfl rfl rfl) ?_
        refine TL_x ?_
        refine TL_nil ?_
        refine EThen_n ?_
        refine T_cond rfl ?_ ?_
        ·
          intro hc
          have hbad := text_bad (r := r) (i := 0) (l := r.head) rfl r.specExps.1 (.inr ⟨rfl, by simpa using hc⟩)
          refine T_seq ?_
          refine T_region ?_
          refine TL_x ?_
          refine TL_nil ?_
          refine EThen_n ?_
          refine T_ret ?_
          refine EThen_ret ?_
          refine Ret_ret ?_
          first | (rw [hbad]; rfl) | (have h00 := hlong; exfalso; simp at hc; omega) | (rw [text_is (all_lits hok hhs hh1 hend hz3) hend hz2 hc]; done) | (rw [text_long hz1 hz2 hc]; rfl) | (rw [text_none hok]; rfl) | (rw [text_bodies (by simp at hc; omega)]; rfl)
        ·
          intro hc
          have hh1 : r.head.kind = 1 := by simpa using hc
          have hhs : (r.head.spec r.specExps.1).2 = true := by simpa using hg29
          have hhl := litSpec_len (spec_len hok (l := r.head) (by simp [Rule.lits]))
          have hha := hsm.2.2.2.2.1 r.head (by simp [Rule.lits])
          have hhn := hsm.2.2.2.2.2.2 r.head (by simp [Rule.lits])
          refine T_skip ?_
          refine EThen_n ?_
          refine T_seq ?_
          refine T_seq ?_
          refine T_region ?_
          refine TL_x ?_
          refine TL_nil ?_
          refine EThen_n ?_
          refine T_block ?_
          refine T_loopF (α := Nat × Bs) (fun z => ⟨(upd (upd (upd (upd env0 1 (.box 1 0)) 3 (.d (dstrs r.specExps.1))) 5 (.d (ds z.2))) 6 (.d (di (z.1 : Int)))), (upd H0 1 (.box [.d (dexps r.exps), .d (di r.head.kind), .d (ds r.head.name), .d (dints r.head.args), .d (dlits r.body)]))⟩) (fun z => z.1 ≤ r.body.length ∧ z.2 = headText r z.1 ∧ (∀ (j : Nat) (l : Q.Lit), j < z.1 → r.body[j]? = some l → l.ok r.exps.length (j + 1) = true) ∧ z.2.length ≤ 1125899906842624) (fun z => r.body.length - z.1) (0, _) (fgt_intro (fgt_upd rfl (fgt_upd rfl (fgt_upd rfl (fgt_upd rfl fgt_env0)))) (fgt_updH rfl fgt_H0)) ?_ ?_
          · exact ⟨Nat.zero_le _, by show (r.head.spec r.specExps.1).1 = headText r 0; rw [litSpec_txt hhs, ho]; simp [headText], fun j l h => by simp at h, by show (r.head.spec r.specExps.1).1.length ≤ _; omega⟩
          rintro z ⟨hz1, hz2, hz3, hz4⟩
          refine T_seq ?_
          refine T_seq ?_
          refine T_region ?_
          iterate 6 refine TL_x ?_
          refine TL_split 40 rfl ?_ ?_
          ·
            intro hg40
            refine TL_want rfl rfl (lt_of_blt rfl) rfl ?_
            refine TL_o rfl rfl rfl (f_move rfl (by first | exact .d _ | exact .box _ _ | exact .asl _ _ | exact .nil | exact .lit _ _ | exact .agg _ | exact .clo _ _ | exact .fnv _ | exact .tup _ | exact .el _ _ _ | exact .mp _ | exact .junk)) ?_
            refine TL_want rfl rfl (lt_of_blt rfl) rfl ?_
            refine TL_o rfl rfl rfl (g_len_str rfl rfl Ty.str9 rfl) ?_
            refine TL_want rfl rfl (lt_of_blt rfl) rfl ?_
            refine TL_o rfl rfl rfl (g_icmp rfl rfl rfl rfl) ?_
            refine TL_x ?_
            refine TL_nil ?_
            refine EThen_n ?_
            refine T_cond rfl ?_ ?_
            ·
              intro hc
              have hlt : z.1 < r.body.length := by simpa using hg40
              obtain ⟨l, hl⟩ := get_some hlt
              have hlm : l ∈ r.lits := by simp only [Rule.lits]; exact List.mem_cons_of_mem _ (List.mem_of_getElem? hl)
              have hzl : z.2.length ≤ 3000 := by simp at hc; omega
              have hsl := litSpec_len (spec_len hok hlm)
              have hla := hsm.2.2.2.2.1 l hlm
              have hln := hsm.2.2.2.2.2.2 l hlm
              have hll : r.lits[z.1 + 1]? = some l := by simpa [Rule.lits] using hl
              refine T_skip ?_
              refine EThen_n ?_
              refine T_seq ?_
              refine T_block ?_
              refine T_seq ?_
              refine T_seq ?_
              refine T_region ?_
              iterate 2 refine TL_x ?_
              refine TL_nil ?_
              refine EThen_n ?_
              refine T_cond rfl ?_ ?_
              ·
                intro hc
                have hq0 : z.1 = 0 := by simpa using hc
                refine T_region ?_
                iterate 3 refine TL_x ?_
                refine TL_nil ?_
                refine EThen_n ?_
                refine T_seq ?_
                refine T_region ?_
                iterate 3 refine TL_x ?_
                first | refine TL_o rfl rfl rfl (g_index_sl rfl rfl rfl Ty.s33 (by omega) (get_map hl)) ?_ | refine TL_o rfl rfl rfl (g_index_lit rfl rfl rfl Ty.s33 (by omega) (get_map hl)) ?_ | refine TL_o rfl rfl rfl (g_index_asl rfl rfl rfl rfl rfl Ty.s33 (by omega) (get_map hl)) ?_
                iterate 2 refine TL_x ?_
                refine TL_o rfl rfl rfl (c_call rfl rfl Fk.ok38 (fun w F => PC_l04Lit l r.specExps.1 (spec_args hok hlm) (spec_len hok hlm) (hsm.2.2.2.2.1 _ hlm) (hsm.2.2.2.2.2.2 _ hlm) w F)) ?_
                iterate 5 refine TL_x ?_
                refine TL_nil ?_
                refine EThen_n ?_
                refine T_seq ?_
                refine T_seq ?_
                refine T_region ?_
                iterate 2 refine TL_x ?_
                refine TL_nil ?_
                refine EThen_n ?_
                refine T_cond rfl ?_ ?_
                ·
                  intro hc
                  have hbad := text_bad (r := r) (i := z.1 + 1) hll r.specExps.1 (.inl (by simpa using hc))
                  refine T_seq ?_
                  refine T_region ?_
                  refine TL_x ?_
                  refine TL_nil ?_
                  refine EThen_n ?_
                  refine T_ret ?_
                  refine EThen_ret ?_
                  refine EBlock_ret ?_
                  refine EThen_ret ?_
                  refine EThen_ret ?_
                  refine EBlock_ret ?_
                  refine EThen_ret ?_
                  refine Ret_ret ?_
                  first | (rw [hbad]; rfl) | (have h00 := hlong; exfalso; simp at hc; omega) | (rw [text_is (all_lits hok hhs hh1 hend hz3) hend hz2 hc]; done) | (rw [text_long hz1 hz2 hc]; rfl) | (rw [text_none hok]; rfl) | (rw [text_bodies (by simp at hc; omega)]; rfl)
                ·
                  intro hc
                  have hls : (l.spec r.specExps.1).2 = true := by simpa using hc
                  refine T_skip ?_
                  refine EThen_n ?_
                  refine T_region ?_
                  iterate 4 refine TL_x ?_
                  refine TL_nil ?_
                  refine EBlock_n ?_
                  refine EThen_n ?_
                  refine T_region ?_
                  iterate 3 refine TL_x ?_
                  refine TL_nil ?_
                  refine EThen_n ⟨(z.1 + 1, _), (fgt_intro (fgt_upd rfl (fgt_upd rfl (fgt_upd rfl (fgt_upd rfl fgt_env0)))) (fgt_updH rfl fgt_H0)), ?_, ?_⟩
                  · refine ⟨hlt, ?_, fun j l0 hj h0 => ?_, by simp only [List.length_append, List.length_cons, List.length_nil]; omega⟩
                    · dsimp only; rw [litSpec_txt hls, ho, hz2]; first | exact headText_succ hq0 hl | (rw [hq0]; rw [hq0] at hl; exact headText_one hl)
                    · rcases Nat.lt_succ_iff_lt_or_eq.1 hj with h | h
                      · exact hz3 j l0 h h0
                      · subst h; rw [hl] at h0; cases h0; exact lit_good hok hll hls (fun h => by omega)
                  · dsimp only; omega
              ·
                intro hc
                have hq0 : z.1 ≠ 0 := by simpa using hc
                refine T_region ?_
                iterate 3 refine TL_x ?_
                refine TL_nil ?_
                refine EThen_n ?_
                refine T_seq ?_
                refine T_region ?_
                iterate 3 refine TL_x ?_
                first | refine TL_o rfl rfl rfl (g_index_sl rfl rfl rfl Ty.s33 (by omega) (get_map hl)) ?_ | refine TL_o rfl rfl rfl (g_index_lit rfl rfl rfl Ty.s33 (by omega) (get_map hl)) ?_ | refine TL_o rfl rfl rfl (g_index_asl rfl rfl rfl rfl rfl Ty.s33 (by omega) (get_map hl)) ?_
                iterate 2 refine TL_x ?_
                refine TL_o rfl rfl rfl (c_call rfl rfl Fk.ok38 (fun w F => PC_l04Lit l r.specExps.1 (spec_args hok hlm) (spec_len hok hlm) (hsm.2.2.2.2.1 _ hlm) (hsm.2.2.2.2.2.2 _ hlm) w F)) ?_
                iterate 5 refine TL_x ?_
                refine TL_nil ?_
                refine EThen_n ?_
                refine T_seq ?_
                refine T_seq ?_
                refine T_region ?_
                iterate 2 refine TL_x ?_
                refine TL_nil ?_
                refine EThen_n ?_
                refine T_cond rfl ?_ ?_
                ·
                  intro hc
                  have hbad := text_bad (r := r) (i := z.1 + 1) hll r.specExps.1 (.inl (by simpa using hc))
                  refine T_seq ?_
                  refine T_region ?_
                  refine TL_x ?_
                  refine TL_nil ?_
                  refine EThen_n ?_
                  refine T_ret ?_
                  refine EThen_ret ?_
                  refine EBlock_ret ?_
                  refine EThen_ret ?_
                  refine EThen_ret ?_
                  refine EBlock_ret ?_
                  refine EThen_ret ?_
                  refine Ret_ret ?_
                  first | (rw [hbad]; rfl) | (have h00 := hlong; exfalso; simp at hc; omega) | (rw [text_is (all_lits hok hhs hh1 hend hz3) hend hz2 hc]; done) | (rw [text_long hz1 hz2 hc]; rfl) | (rw [text_none hok]; rfl) | (rw [text_bodies (by simp at hc; omega)]; rfl)
                ·
                  intro hc
                  have hls : (l.spec r.specExps.1).2 = true := by simpa using hc
                  refine T_skip ?_
                  refine EThen_n ?_
                  refine T_region ?_
                  iterate 4 refine TL_x ?_
                  refine TL_nil ?_
                  refine EBlock_n ?_
                  refine EThen_n ?_
                  refine T_region ?_
                  iterate 3 refine TL_x ?_
                  refine TL_nil ?_
                  refine EThen_n ⟨(z.1 + 1, _), (fgt_intro (fgt_upd rfl (fgt_upd rfl (fgt_upd rfl (fgt_upd rfl fgt_env0)))) (fgt_updH rfl fgt_H0)), ?_, ?_⟩
                  · refine ⟨hlt, ?_, fun j l0 hj h0 => ?_, by simp only [List.length_append, List.length_cons, List.length_nil]; omega⟩
                    · dsimp only; rw [litSpec_txt hls, ho, hz2]; first | exact headText_succ hq0 hl | (rw [hq0]; rw [hq0] at hl; exact headText_one hl)
                    · rcases Nat.lt_succ_iff_lt_or_eq.1 hj with h | h
                      · exact hz3 j l0 h h0
                      · subst h; rw [hl] at h0; cases h0; exact lit_good hok hll hls (fun h => by omega)
                  · dsimp only; omega
            ·
              intro hc
              have hlong : z.2.length > 3000 := by simp at hc; omega
              refine T_exit ?_
              refine EThen_exit ?_
              refine EThen_exit ?_
              refine EBlock_same ?_
              refine EThen_n ?_
              refine T_seq ?_
              refine T_region ?_
              iterate 3 refine TL_x ?_
              refine TL_nil ?_
              refine EThen_n ?_
              refine T_seq ?_
              refine T_seq ?_
              refine T_region ?_
              iterate 3 refine TL_x ?_
              refine TL_nil ?_
              refine EThen_n ?_
              refine T_cond rfl ?_ ?_
              ·
                intro hc
                refine T_seq ?_
                refine T_region ?_
                refine TL_x ?_
                refine TL_nil ?_
                refine EThen_n ?_
                refine T_ret ?_
                refine EThen_ret ?_
                refine Ret_ret ?_
                first | (rw [hbad]; rfl) | (have h00 := hlong; exfalso; simp at hc; omega) | (rw [text_is (all_lits hok hhs hh1 hend hz3) hend hz2 hc]; done) | (rw [text_long hz1 hz2 hc]; rfl) | (rw [text_none hok]; rfl) | (rw [text_bodies (by simp at hc; omega)]; rfl)
              ·
                intro hc
                refine T_skip ?_
                refine EThen_n ?_
                refine T_seq ?_
                refine T_region ?_
                iterate 2 refine TL_x ?_
                refine TL_nil ?_
                refine EThen_n ?_
                refine T_ret ?_
                refine Ret_ret ?_
                first | (rw [hbad]; rfl) | (have h00 := hlong; exfalso; simp at hc; omega) | (rw [text_is (all_lits hok hhs hh1 hend hz3) hend hz2 hc]; done) | (rw [text_long hz1 hz2 hc]; rfl) | (rw [text_none hok]; rfl) | (rw [text_bodies (by simp at hc; omega)]; rfl)
          ·
            intro hg40
            refine TL_skip rfl rfl (lt_of_blt rfl) rfl (lt_of_blt rfl) rfl rfl ?_
            refine TL_skip rfl rfl (lt_of_blt rfl) rfl (lt_of_blt rfl) rfl rfl ?_
            refine TL_skip rfl rfl (lt_of_blt rfl) rfl (lt_of_blt rfl) rfl rfl ?_
            refine TL_x ?_
            refine TL_nil ?_
            refine EThen_n ?_
            refine T_cond_f rfl ?_
            have hend : z.1 = r.body.length := by simp at hg40; omega
            refine T_exit ?_
            refine EThen_exit ?_
            refine EThen_exit ?_
            refine EBlock_same ?_
            refine EThen_n ?_
            refine T_seq ?_
            refine T_region ?_
            iterate 3 refine TL_x ?_
            refine TL_nil ?_
            refine EThen_n ?_
            refine T_seq ?_
            refine T_seq ?_
            refine T_region ?_
            iterate 3 refine TL_x ?_
            refine TL_nil ?_
            refine EThen_n ?_
            refine T_cond rfl ?_ ?_
            ·
              intro hc
              refine T_seq ?_
              refine T_region ?_
              refine TL_x ?_
              refine TL_nil ?_
              refine EThen_n ?_
              refine T_ret ?_
              refine EThen_ret ?_
              refine Ret_ret ?_
              first | (rw [hbad]; rfl) | (have h00 := hlong; exfalso; simp at hc; omega) | (rw [text_is (all_lits hok hhs hh1 hend hz3) hend hz2 hc]; done) | (rw [text_long hz1 hz2 hc]; rfl) | (rw [text_none hok]; rfl) | (rw [text_bodies (by simp at hc; omega)]; rfl)
            ·
              intro hc
              refine T_skip ?_
              refine EThen_n ?_
              refine T_seq ?_
              refine T_region ?_
              iterate 2 refine TL_x ?_
              refine TL_nil ?_
              refine EThen_n ?_
              refine T_ret ?_
              refine Ret_ret ?_
              first | (rw [hbad]; rfl) | (have h00 := hlong; exfalso; simp at hc; omega) | (rw [text_is (all_lits hok hhs hh1 hend hz3) hend hz2 hc]; done) | (rw [text_long hz1 hz2 hc]; rfl) | (rw [text_none hok]; rfl) | (rw [text_bodies (by simp at hc; omega)]; rfl)

end Go.Proofs
