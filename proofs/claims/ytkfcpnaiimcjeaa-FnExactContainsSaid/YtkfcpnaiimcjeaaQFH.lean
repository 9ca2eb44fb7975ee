/- Contracts of functions of the program, each under the conditions that its statement names. -/
import Derived.Test.YtkfcpnaiimcjeaaQFG
import Derived.Test.YtkfcpnaiimcjeaaQSet
set_option linter.unusedVariables false
set_option linter.unusedSimpArgs false
namespace Go.Proofs
open Go.Q
attribute [local irreducible] Go.Q.GStep Go.Q.SStep Go.Q.T Go.Q.TL Go.Q.PC Go.Q.DGo
set_option maxHeartbeats 4000000 in
theorem PC_isPlain1 (l : Q.Lit) (w : World) (F : Fz) : PC Try.prog 75 w F [.d (l.d)] (· = [db (decide (l.kind ≠ 1))]) := by
  refine PC_of_T' (rs := [2]) (n := 6) Try.func75 rfl rfl rfl rfl ?_
  refine T_seq ?_
  refine T_region ?_
  refine TL_box 1 ?_
  refine TL_x ?_
  refine TL_nil ?_
  refine EThen_n ?_
  refine T_seq ?_
  refine T_region ?_
  iterate 4 refine TL_x ?_
  refine TL_nil ?_
  refine EThen_n ?_
  refine T_ret ?_
  refine Ret_ret ?_
  simp

set_option maxHeartbeats 4000000 in
theorem PC_isPlain2 (e : Q.Exp) (w : World) (F : Fz) : PC Try.prog 77 w F [.d (e.d)] (· = [db (decide (e.kind ≠ 1) && decide (e.kind ≠ 3))]) := by
  refine PC_of_T' (rs := [2]) (n := 11) Try.func77 rfl rfl rfl rfl ?_
  refine T_seq ?_
  refine T_region ?_
  refine TL_box 1 ?_
  refine TL_x ?_
  refine TL_nil ?_
  refine EThen_n ?_
  refine T_seq ?_
  refine T_region ?_
  iterate 4 refine TL_x ?_
  refine TL_split 6 rfl ?_ ?_
  ·
    intro hg6
    refine TL_want rfl rfl (lt_of_blt rfl) rfl ?_
    first | refine TL_o rfl rfl rfl (g_field_box rfl rfl Ty.f82_0 rfl) ?_ | refine TL_o rfl rfl rfl (g_field_pt rfl rfl Ty.f82_0 rfl) ?_ | refine TL_o rfl rfl rfl (g_field_el rfl rfl rfl rfl Ty.f82_0 rfl) ?_
    refine TL_want rfl rfl (lt_of_blt rfl) rfl ?_
    first | refine TL_o rfl rfl rfl (g_load_box rfl rfl Ty.c3 rfl rfl) ?_ | refine TL_o rfl rfl rfl (g_load_pt rfl rfl Ty.c3 rfl) ?_ | refine TL_o rfl rfl rfl (g_load_el rfl rfl Ty.c3 rfl rfl rfl) ?_
    refine TL_want rfl rfl (lt_of_blt rfl) rfl ?_
    refine TL_o rfl rfl rfl (g_icmp rfl rfl rfl rfl) ?_
    iterate 2 refine TL_x ?_
    refine TL_nil ?_
    refine EThen_n ?_
    refine T_ret ?_
    refine Ret_ret ?_
    simp at *; simp [*]
  ·
    intro hg6
    refine TL_skip rfl rfl (lt_of_blt rfl) rfl (lt_of_blt rfl) rfl rfl ?_
    refine TL_skip rfl rfl (lt_of_blt rfl) rfl (lt_of_blt rfl) rfl rfl ?_
    refine TL_skip rfl rfl (lt_of_blt rfl) rfl (lt_of_blt rfl) rfl rfl ?_
    iterate 2 refine TL_x ?_
    refine TL_nil ?_
    refine EThen_n ?_
    refine T_ret ?_
    refine Ret_ret ?_
    simp at *; simp [*]

set_option maxHeartbeats 4000000 in
theorem PC_isPlain3 (r : Rule) (ks : List Bs) (a : Int) (e : Q.Exp) (h0 : 0 ≤ a) (he : r.exps[a.toNat]? = some e) (w : World) (F : Fz) : PC Try.prog 79 w F [.d (di a), .d (.pt r.cells 0), .d (.pt [dset ks] 0)] (· = [db (decide (e.kind = 1) && !decide (e.text ∈ ks))]) := by
  refine PC_of_T' (rs := [4]) (n := 23) Try.func79 rfl rfl rfl rfl ?_
  refine T_seq ?_
  refine T_region ?_
  refine TL_x ?_
  refine TL_nil ?_
  refine EThen_n ?_
  refine T_seq ?_
  refine T_draw 19 Ty.mixed rfl ?_
  iterate 3 refine DGo_x ?_
  first | refine DGo_one rfl rfl (.go _ rfl (g_index_sl rfl rfl rfl Ty.s39 (by omega) (get_map he))) ?_ | refine DGo_one rfl rfl (.go _ rfl (g_index_lit rfl rfl rfl Ty.s39 (by omega) (get_map he))) ?_ | refine DGo_one rfl rfl (.go _ rfl (g_index_asl rfl rfl rfl rfl rfl Ty.s39 (by omega) (get_map he))) ?_
  iterate 3 refine DGo_x ?_
  refine DGo_bool rfl rfl (.go _ rfl (f_move rfl (by first | exact .d _ | exact .box _ _ | exact .asl _ _ | exact .nil | exact .lit _ _ | exact .agg _ | exact .clo _ _ | exact .fnv _ | exact .tup _ | exact .el _ _ _ | exact .mp _ | exact .junk))) ?_ ?_
  ·
    intro hg12
    first | refine DGo_one rfl rfl (.want _ _ _ _ rfl rfl rfl rfl (g_load_box rfl rfl Ty.c121 rfl rfl)) ?_ | refine DGo_one rfl rfl (.want _ _ _ _ rfl rfl rfl rfl (g_load_pt rfl rfl Ty.c121 rfl)) ?_ | refine DGo_one rfl rfl (.want _ _ _ _ rfl rfl rfl rfl (g_load_el rfl rfl Ty.c121 rfl rfl rfl)) ?_
    first | refine DGo_one rfl rfl (.want _ _ _ _ rfl rfl rfl rfl (g_field_box rfl rfl Ty.f43_0 rfl)) ?_ | refine DGo_one rfl rfl (.want _ _ _ _ rfl rfl rfl rfl (g_field_pt rfl rfl Ty.f43_0 rfl)) ?_ | refine DGo_one rfl rfl (.want _ _ _ _ rfl rfl rfl rfl (g_field_el rfl rfl rfl rfl Ty.f43_0 rfl)) ?_
    first | refine DGo_one rfl rfl (.want _ _ _ _ rfl rfl rfl rfl (g_load_box rfl rfl Ty.c39 rfl rfl)) ?_ | refine DGo_one rfl rfl (.want _ _ _ _ rfl rfl rfl rfl (g_load_pt rfl rfl Ty.c39 rfl)) ?_ | refine DGo_one rfl rfl (.want _ _ _ _ rfl rfl rfl rfl (g_load_el rfl rfl Ty.c39 rfl rfl rfl)) ?_
    refine DGo_one rfl rfl (.want _ _ _ _ rfl rfl rfl rfl (f_move rfl (by first | exact .d _ | exact .box _ _ | exact .asl _ _ | exact .nil | exact .lit _ _ | exact .agg _ | exact .clo _ _ | exact .fnv _ | exact .tup _ | exact .el _ _ _ | exact .mp _ | exact .junk))) ?_
    first | refine DGo_one rfl rfl (.want _ _ _ _ rfl rfl rfl rfl (g_index_sl rfl rfl rfl Ty.s39 (by omega) (get_map he))) ?_ | refine DGo_one rfl rfl (.want _ _ _ _ rfl rfl rfl rfl (g_index_lit rfl rfl rfl Ty.s39 (by omega) (get_map he))) ?_ | refine DGo_one rfl rfl (.want _ _ _ _ rfl rfl rfl rfl (g_index_asl rfl rfl rfl rfl rfl Ty.s39 (by omega) (get_map he))) ?_
    first | refine DGo_one rfl rfl (.want _ _ _ _ rfl rfl rfl rfl (g_field_box rfl rfl Ty.f82_1 rfl)) ?_ | refine DGo_one rfl rfl (.want _ _ _ _ rfl rfl rfl rfl (g_field_pt rfl rfl Ty.f82_1 rfl)) ?_ | refine DGo_one rfl rfl (.want _ _ _ _ rfl rfl rfl rfl (g_field_el rfl rfl rfl rfl Ty.f82_1 rfl)) ?_
    first | refine DGo_one rfl rfl (.want _ _ _ _ rfl rfl rfl rfl (g_load_box rfl rfl Ty.c9 rfl rfl)) ?_ | refine DGo_one rfl rfl (.want _ _ _ _ rfl rfl rfl rfl (g_load_pt rfl rfl Ty.c9 rfl)) ?_ | refine DGo_one rfl rfl (.want _ _ _ _ rfl rfl rfl rfl (g_load_el rfl rfl Ty.c9 rfl rfl rfl)) ?_
    refine DGo_one rfl rfl (.want _ _ _ _ rfl rfl rfl rfl (g_lookup_d (ks := ks) (zd := db false) rfl rfl rfl Ty.k121 Ty.kz121 ⟨_, Ty.kv121, fun F w => .s _ rfl⟩ (lookR_set ks e.text))) ?_
    refine DGo_one rfl rfl (.want _ _ _ _ rfl rfl rfl rfl (g_not rfl rfl)) ?_
    iterate 2 refine DGo_x ?_
    refine DGo_nil ?_
    refine TL_nil ?_
    refine EThen_n ?_
    refine T_ret ?_
    refine Ret_ret ?_
    simp at *; simp [*]
  ·
    intro hg12
    refine DGo_skip rfl rfl rfl rfl rfl rfl rfl ?_
    refine DGo_skip rfl rfl rfl rfl rfl rfl rfl ?_
    refine DGo_skip rfl rfl rfl rfl rfl rfl rfl ?_
    refine DGo_skip rfl rfl rfl rfl rfl rfl rfl ?_
    refine DGo_skip rfl rfl rfl rfl rfl rfl rfl ?_
    refine DGo_skip rfl rfl rfl rfl rfl rfl rfl ?_
    refine DGo_skip rfl rfl rfl rfl rfl rfl rfl ?_
    refine DGo_skip rfl rfl rfl rfl rfl rfl rfl ?_
    refine DGo_skip rfl rfl rfl rfl rfl rfl rfl ?_
    iterate 2 refine DGo_x ?_
    refine DGo_nil ?_
    refine TL_nil ?_
    refine EThen_n ?_
    refine T_ret ?_
    refine Ret_ret ?_
    simp at *; simp [*]

set_option maxHeartbeats 4000000 in
theorem PC_isPlain (r : Rule) (hw : r.wt ≤ 4294967296) (w : World) (F : Fz) : PC Try.prog 48 w F [.d (r.d)] (· = [db r.plain]) := by
  have hsm := Rule.small hw
  have hs1 := hsm.1
  have hs2 := hsm.2.1
  have hsh := hsm.2.2.2.2.1 r.head (by simp [Rule.lits])
  refine PC_of_T' (rs := [2]) (n := 62) Try.func48 rfl rfl rfl rfl ?_
  refine T_seq ?_
  refine T_region ?_
  refine TL_box 1 ?_
  refine TL_x ?_
  refine TL_nil ?_
  refine EThen_n ?_
  refine T_seq ?_
  refine T_seq ?_
  refine T_region ?_
  refine TL_x ?_
  refine TL_o rfl rfl rfl (c_call rfl rfl Fk.ok73 (fun w F => PC_hasForm r hw w F)) ?_
  iterate 2 refine TL_x ?_
  refine TL_split 11 rfl ?_ ?_
  ·
    intro hg11
    refine TL_skip rfl rfl (lt_of_blt rfl) rfl (lt_of_blt rfl) rfl rfl ?_
    refine TL_skip rfl rfl (lt_of_blt rfl) rfl (lt_of_blt rfl) rfl rfl ?_
    refine TL_skip rfl rfl (lt_of_blt rfl) rfl (lt_of_blt rfl) rfl rfl ?_
    refine TL_skip rfl rfl (lt_of_blt rfl) rfl (lt_of_blt rfl) rfl rfl ?_
    iterate 2 refine TL_x ?_
    refine TL_skip rfl rfl (lt_of_blt rfl) rfl (lt_of_blt rfl) rfl rfl ?_
    refine TL_skip rfl rfl (lt_of_blt rfl) rfl (lt_of_blt rfl) rfl rfl ?_
    refine TL_skip rfl rfl (lt_of_blt rfl) rfl (lt_of_blt rfl) rfl rfl ?_
    refine TL_x ?_
    refine TL_nil ?_
    refine EThen_n ?_
    refine T_cond_t rfl ?_
    have hbad := plain_bad (r := r) (by first | exact .inl (by simpa using hg11) | exact .inr (.inl (by simp at hg17 ⊢; omega)))
    refine T_seq ?_
    refine T_region ?_
    refine TL_x ?_
    refine TL_nil ?_
    refine EThen_n ?_
    refine T_ret ?_
    refine EThen_ret ?_
    refine Ret_ret ?_
    first | rw [hbad] | (rw [plain_keys hne hb6 hb1 hE (by rw [List.take_of_length_le (by omega)]) hx2]; done)
  ·
    intro hg11
    refine TL_want rfl rfl (lt_of_blt rfl) rfl ?_
    first | refine TL_o rfl rfl rfl (g_field_box rfl rfl Ty.f43_2 rfl) ?_ | refine TL_o rfl rfl rfl (g_field_pt rfl rfl Ty.f43_2 rfl) ?_ | refine TL_o rfl rfl rfl (g_field_el rfl rfl rfl rfl Ty.f43_2 rfl) ?_
    refine TL_want rfl rfl (lt_of_blt rfl) rfl ?_
    first | refine TL_o rfl rfl rfl (g_load_box rfl rfl Ty.c41 rfl rfl) ?_ | refine TL_o rfl rfl rfl (g_load_pt rfl rfl Ty.c41 rfl) ?_ | refine TL_o rfl rfl rfl (g_load_el rfl rfl Ty.c41 rfl rfl rfl) ?_
    refine TL_want rfl rfl (lt_of_blt rfl) rfl ?_
    first | refine TL_o rfl rfl rfl (g_len_sl rfl rfl Ty.s41 rfl) ?_ | refine TL_o rfl rfl rfl (g_len_asl rfl rfl rfl rfl Ty.s41 rfl) ?_ | refine TL_o rfl rfl rfl (g_len_asl rfl rfl rfl (by simp) Ty.s41 rfl) ?_ | refine TL_o rfl rfl rfl (g_len_lit rfl rfl Ty.s41 rfl) ?_ | refine TL_o rfl rfl rfl (g_len_nil rfl rfl Ty.s41) ?_
    refine TL_want rfl rfl (lt_of_blt rfl) rfl ?_
    refine TL_o rfl rfl rfl (g_icmp rfl rfl rfl rfl) ?_
    iterate 2 refine TL_x ?_
    refine TL_split 17 rfl ?_ ?_
    ·
      intro hg17
      refine TL_skip rfl rfl (lt_of_blt rfl) rfl (lt_of_blt rfl) rfl rfl ?_
      refine TL_skip rfl rfl (lt_of_blt rfl) rfl (lt_of_blt rfl) rfl rfl ?_
      refine TL_skip rfl rfl (lt_of_blt rfl) rfl (lt_of_blt rfl) rfl rfl ?_
      refine TL_x ?_
      refine TL_nil ?_
      refine EThen_n ?_
      refine T_cond_t rfl ?_
      have hbad := plain_bad (r := r) (by first | exact .inl (by simpa using hg11) | exact .inr (.inl (by simp at hg17 ⊢; omega)))
      refine T_seq ?_
      refine T_region ?_
      refine TL_x ?_
      refine TL_nil ?_
      refine EThen_n ?_
      refine T_ret ?_
      refine EThen_ret ?_
      refine Ret_ret ?_
      first | rw [hbad] | (rw [plain_keys hne hb6 hb1 hE (by rw [List.take_of_length_le (by omega)]) hx2]; done)
    ·
      intro hg17
      refine TL_want rfl rfl (lt_of_blt rfl) rfl ?_
      first | refine TL_o rfl rfl rfl (g_field_box rfl rfl Ty.f43_2 rfl) ?_ | refine TL_o rfl rfl rfl (g_field_pt rfl rfl Ty.f43_2 rfl) ?_ | refine TL_o rfl rfl rfl (g_field_el rfl rfl rfl rfl Ty.f43_2 rfl) ?_
      refine TL_want rfl rfl (lt_of_blt rfl) rfl ?_
      first | refine TL_o rfl rfl rfl (g_load_box rfl rfl Ty.c41 rfl rfl) ?_ | refine TL_o rfl rfl rfl (g_load_pt rfl rfl Ty.c41 rfl) ?_ | refine TL_o rfl rfl rfl (g_load_el rfl rfl Ty.c41 rfl rfl rfl) ?_
      refine TL_want rfl rfl (lt_of_blt rfl) rfl ?_
      refine TL_o rfl rfl rfl (c_call rfl rfl Fk.ok74 (fun w F => PC_ContainsFunc_Lit r.body (fun l => decide (l.kind ≠ 1)) (fun ds rs => ∃ l : Q.Lit, ds = [l.d] ∧ rs = [db (decide (l.kind ≠ 1))]) (fun l _ => ⟨l, rfl, rfl⟩) (by omega) w F) (.cons (by first | exact .d (.d _) | exact .d (.nil _ _) | exact .d (.litn _ _ _) | exact .d (.lit _ _) | exact .d (.asl _ _ _ _ _ rfl rfl) | exact .d (.asln _ _ _ _ _ _ _ rfl rfl) | exact .fnv _ | exact .d (.emp _ _ _ _)) (.cons (.clo Fk.ok75 .nil (fun w F ds rs h => by obtain ⟨n, h1, h2⟩ := h; subst h1 h2; exact PC_isPlain1 n w F)) .nil))) ?_
      refine TL_x ?_
      refine TL_nil ?_
      refine EThen_n ?_
      refine T_cond rfl ?_ ?_
      ·
        intro hc
        have hbad := plain_bad (r := r) (.inr (.inr (.inl (by simp at hc ⊢; exact hc))))
        refine T_seq ?_
        refine T_region ?_
        refine TL_x ?_
        refine TL_nil ?_
        refine EThen_n ?_
        refine T_ret ?_
        refine EThen_ret ?_
        refine Ret_ret ?_
        first | rw [hbad] | (rw [plain_keys hne hb6 hb1 hE (by rw [List.take_of_length_le (by omega)]) hx2]; done)
      ·
        intro hc
        have hne : r.text ≠ [] := by simpa using hg11
        have hf := text_formed hne
        have hb6 : r.body.length ≤ 6 := by simp at hg17; omega
        have hb1 : r.body.all (fun l => decide (l.kind = 1)) = true := by simp at hc ⊢; exact hc
        refine T_skip ?_
        refine EThen_n ?_
        refine T_seq ?_
        refine T_seq ?_
        refine T_region ?_
        iterate 2 refine TL_x ?_
        refine TL_o rfl rfl rfl (c_call rfl rfl Fk.ok76 (fun w F => PC_ContainsFunc_Exp r.exps (fun e => decide (e.kind ≠ 1) && decide (e.kind ≠ 3)) (fun ds rs => ∃ e : Q.Exp, ds = [e.d] ∧ rs = [db (decide (e.kind ≠ 1) && decide (e.kind ≠ 3))]) (fun l _ => ⟨l, rfl, rfl⟩) (by omega) w F) (.cons (by first | exact .d (.d _) | exact .d (.nil _ _) | exact .d (.litn _ _ _) | exact .d (.lit _ _) | exact .d (.asl _ _ _ _ _ rfl rfl) | exact .d (.asln _ _ _ _ _ _ _ rfl rfl) | exact .fnv _ | exact .d (.emp _ _ _ _)) (.cons (.clo Fk.ok77 .nil (fun w F ds rs h => by obtain ⟨n, h1, h2⟩ := h; subst h1 h2; exact PC_isPlain2 n w F)) .nil))) ?_
        refine TL_nil ?_
        refine EThen_n ?_
        refine T_cond rfl ?_ ?_
        ·
          intro hc
          have hbad := plain_bad (r := r) (.inr (.inr (.inr (.inl (by simp at hc ⊢; exact hc)))))
          refine T_seq ?_
          refine T_region ?_
          refine TL_x ?_
          refine TL_nil ?_
          refine EThen_n ?_
          refine T_ret ?_
          refine EThen_ret ?_
          refine Ret_ret ?_
          first | rw [hbad] | (rw [plain_keys hne hb6 hb1 hE (by rw [List.take_of_length_le (by omega)]) hx2]; done)
        ·
          intro hc
          have hE := hc
          refine T_skip ?_
          refine EThen_n ?_
          refine T_seq ?_
          refine T_region ?_
          refine TL_s rfl (s_makeMap (id := 25) rfl rfl rfl rfl (by repeat (first | exact noRefE0 | exact noRefE_envOf | exact noRefE_envA rfl | refine noRefE_upd rfl ?_)) (by repeat (first | exact noRefH0 | refine noRefH_upd rfl ?_))) ?_
          refine TL_alloc 3 ?_
          refine TL_store ?_
          refine TL_nil ?_
          refine EThen_n ?_
          refine T_seq ?_
          refine T_seq ?_
          refine T_region ?_
          iterate 4 refine TL_x ?_
          refine TL_nil ?_
          refine EThen_n ?_
          refine T_block ?_
          refine T_loopF (α := Nat × List Bs) (fun x => ⟨(upd (upd (upd (upd (upd env0 1 (.box 1 0)) 3 (.box 3 0)) 27 (.d (dlits r.body))) 28 (.d (di ((r.body.map Q.Lit.d).length : Int)))) 29 (.d (di (x.1 : Int)))), (upd (upd (upd H0 1 (.box [.d (dexps r.exps), .d (di r.head.kind), .d (ds r.head.name), .d (dints r.head.args), .d (dlits r.body)])) 3 (.box [.mp 25])) 25 (.map (x.2.map fun k => D.s (str k)) (x.2.map fun _ => db true)))⟩) (fun x => x.1 ≤ r.body.length ∧ (∀ s : Bs, s ∈ x.2 ↔ ∃ k ∈ argsOf (r.body.take x.1), (expAt r k).kind = 1 ∧ (expAt r k).text = s)) (fun x => r.body.length - x.1) (0, []) (fgt_intro (fgt_upd rfl (fgt_upd rfl (fgt_upd rfl (fgt_upd rfl (fgt_upd rfl fgt_env0))))) (fgt_updH rfl (fgt_updH rfl (fgt_updH rfl fgt_H0)))) ?_ ?_
          · exact ⟨Nat.zero_le _, fun s => by simp [argsOf]⟩
          rintro x ⟨hx1, hx2⟩
          refine T_seq ?_
          refine T_region ?_
          refine TL_x ?_
          refine TL_nil ?_
          refine EThen_n ?_
          refine T_seq ?_
          refine T_cond rfl ?_ ?_
          ·
            intro hc
            have hlt : x.1 < r.body.length := by simpa using hc
            obtain ⟨l, hl⟩ := get_some hlt
            have hlm : l ∈ r.lits := by simp only [Rule.lits]; exact List.mem_cons_of_mem _ (List.mem_of_getElem? hl)
            have hla := hsm.2.2.2.2.1 l hlm
            refine T_skip ?_
            refine EThen_n ?_
            refine T_seq ?_
            refine T_block ?_
            refine T_seq ?_
            refine T_region ?_
            first | refine TL_o rfl rfl rfl (g_index_sl rfl rfl rfl Ty.s41 (by omega) (get_map hl)) ?_ | refine TL_o rfl rfl rfl (g_index_lit rfl rfl rfl Ty.s41 (by omega) (get_map hl)) ?_ | refine TL_o rfl rfl rfl (g_index_asl rfl rfl rfl rfl rfl Ty.s41 (by omega) (get_map hl)) ?_
            refine TL_x ?_
            refine TL_alloc 5 ?_
            refine TL_store ?_
            refine TL_nil ?_
            refine EThen_n ?_
            refine T_seq ?_
            refine T_region ?_
            iterate 4 refine TL_x ?_
            refine TL_nil ?_
            refine EThen_n ?_
            refine T_block ?_
            refine T_loopF (α := Nat × List Bs) (fun y => ⟨(upd (upd (upd (upd (upd (upd (upd (upd (upd env0 1 (.box 1 0)) 3 (.box 3 0)) 27 (.d (dlits r.body))) 28 (.d (di ((r.body.map Q.Lit.d).length : Int)))) 29 (.d (di (x.1 : Int)))) 5 (.box 5 0)) 34 (.d (dints l.args))) 35 (.d (di ((l.args.map di).length : Int)))) 36 (.d (di (y.1 : Int)))), (upd (upd (upd (upd H0 1 (.box [.d (dexps r.exps), .d (di r.head.kind), .d (ds r.head.name), .d (dints r.head.args), .d (dlits r.body)])) 3 (.box [.mp 25])) 25 (.map (y.2.map fun k => D.s (str k)) (y.2.map fun _ => db true))) 5 (.box [.d (di l.kind), .d (ds l.name), .d (dints l.args)]))⟩) (fun y => y.1 ≤ l.args.length ∧ (∀ s : Bs, s ∈ y.2 ↔ ∃ k ∈ (argsOf (r.body.take x.1) ++ l.args.take y.1), (expAt r k).kind = 1 ∧ (expAt r k).text = s)) (fun y => l.args.length - y.1) (0, x.2) (fgt_intro (fgt_upd rfl (fgt_upd rfl (fgt_upd rfl (fgt_upd rfl (fgt_upd rfl (fgt_upd rfl (fgt_upd rfl (fgt_upd rfl (fgt_upd rfl fgt_env0))))))))) (fgt_updH rfl (fgt_updH rfl (fgt_updH rfl (fgt_updH rfl fgt_H0))))) ?_ ?_
            · exact ⟨Nat.zero_le _, by simpa using hx2⟩
            rintro y ⟨hy1, hy2⟩
            refine T_seq ?_
            refine T_region ?_
            refine TL_x ?_
            refine TL_nil ?_
            refine EThen_n ?_
            refine T_seq ?_
            refine T_cond rfl ?_ ?_
            ·
              intro hc
              have hlt2 : y.1 < l.args.length := by simpa using hc
              obtain ⟨a, ha⟩ := get_some hlt2
              have hka := lit_exp hf hlm (List.mem_of_getElem? ha)
              obtain ⟨ea, hea⟩ := hka.2
              refine T_skip ?_
              refine EThen_n ?_
              refine T_seq ?_
              refine T_block ?_
              refine T_seq ?_
              refine T_region ?_
              first | refine TL_o rfl rfl rfl (g_index_sl rfl rfl rfl Ty.s31 (by omega) (get_map ha)) ?_ | refine TL_o rfl rfl rfl (g_index_lit rfl rfl rfl Ty.s31 (by omega) (get_map ha)) ?_ | refine TL_o rfl rfl rfl (g_index_asl rfl rfl rfl rfl rfl Ty.s31 (by omega) (get_map ha)) ?_
              iterate 2 refine TL_x ?_
              refine TL_nil ?_
              refine EThen_n ?_
              refine T_seq ?_
              refine T_region ?_
              iterate 3 refine TL_x ?_
              first | refine TL_o rfl rfl rfl (g_index_sl rfl rfl rfl Ty.s39 (by omega) (get_map hea)) ?_ | refine TL_o rfl rfl rfl (g_index_lit rfl rfl rfl Ty.s39 (by omega) (get_map hea)) ?_ | refine TL_o rfl rfl rfl (g_index_asl rfl rfl rfl rfl rfl Ty.s39 (by omega) (get_map hea)) ?_
              iterate 3 refine TL_x ?_
              refine TL_nil ?_
              refine EThen_n ?_
              refine T_cond rfl ?_ ?_
              ·
                intro hc
                have hk1 : ea.kind = 1 := by simpa using hc
                refine T_draw 7 Ty.mixed rfl ?_
                iterate 4 refine DGo_x ?_
                first | refine DGo_one rfl rfl (.go _ rfl (g_index_sl rfl rfl rfl Ty.s39 (by omega) (get_map hea))) ?_ | refine DGo_one rfl rfl (.go _ rfl (g_index_lit rfl rfl rfl Ty.s39 (by omega) (get_map hea))) ?_ | refine DGo_one rfl rfl (.go _ rfl (g_index_asl rfl rfl rfl rfl rfl Ty.s39 (by omega) (get_map hea))) ?_
                iterate 2 refine DGo_x ?_
                refine DGo_nil ?_
                refine TL_s rfl (s_mapSet rfl rfl rfl rfl (.d _) rfl Ty.k121) ?_
                refine TL_nil ?_
                refine EBlock_n ?_
                refine EThen_n ?_
                refine T_region ?_
                iterate 2 refine TL_x ?_
                refine TL_nil ?_
                refine EThen_n ⟨(y.1 + 1, putK y.2 ea.text), (fgt_intro (fgt_upd rfl (fgt_upd rfl (fgt_upd rfl (fgt_upd rfl (fgt_upd rfl (fgt_upd rfl (fgt_upd rfl (fgt_upd rfl (fgt_upd rfl fgt_env0))))))))) (fgt_updH rfl (fgt_updH rfl (fgt_updH rfl (fgt_updH rfl fgt_H0))))), ?_, ?_⟩
                · exact ⟨hlt2, keys_in (expAt_of hea) hk1 ha hy2⟩
                · dsimp only; omega
              ·
                intro hc
                have hk1 : ea.kind ≠ 1 := by simpa using hc
                refine T_skip ?_
                refine EBlock_n ?_
                refine EThen_n ?_
                refine T_region ?_
                iterate 2 refine TL_x ?_
                refine TL_nil ?_
                refine EThen_n ⟨(y.1 + 1, y.2), (fgt_intro (fgt_upd rfl (fgt_upd rfl (fgt_upd rfl (fgt_upd rfl (fgt_upd rfl (fgt_upd rfl (fgt_upd rfl (fgt_upd rfl (fgt_upd rfl fgt_env0))))))))) (fgt_updH rfl (fgt_updH rfl (fgt_updH rfl (fgt_updH rfl fgt_H0))))), ?_, ?_⟩
                · exact ⟨hlt2, keys_out (expAt_of hea) hk1 ha hy2⟩
                · dsimp only; omega
            ·
              intro hc
              have hlast2 : ¬ y.1 < l.args.length := by simpa using hc
              refine T_exit ?_
              refine EThen_exit ?_
              refine EThen_exit ?_
              refine EBlock_same ?_
              refine EBlock_n ?_
              refine EThen_n ?_
              refine T_region ?_
              iterate 2 refine TL_x ?_
              refine TL_nil ?_
              refine EThen_n ⟨(x.1 + 1, y.2), (fgt_intro (fgt_upd rfl (fgt_upd rfl (fgt_upd rfl (fgt_upd rfl (fgt_upd rfl fgt_env0))))) (fgt_updH rfl (fgt_updH rfl (fgt_updH rfl fgt_H0)))), ?_, ?_⟩
              · exact ⟨hlt, by rw [List.take_of_length_le (l := l.args) (by omega)] at hy2; have h := flat_take (fun x : Q.Lit => x.args) hl; simp only [argsOf] at *; rw [h]; exact hy2⟩
              · dsimp only; omega
          ·
            intro hc
            have hlastB : ¬ x.1 < r.body.length := by simpa using hc
            refine T_exit ?_
            refine EThen_exit ?_
            refine EThen_exit ?_
            refine EBlock_same ?_
            refine EThen_n ?_
            refine T_seq ?_
            refine T_freezeMap 3 25 (by decide) rfl rfl ?_
            refine T_freezeBox 3 3 0 rfl rfl (.cons (.d _) .nil) ?_
            refine T_freezeBox 1 1 0 rfl rfl (.cons (.d _) (.cons (.d _) (.cons (.d _) (.cons (.d _) (.cons (.d _) .nil))))) ?_
            refine T_region ?_
            iterate 4 refine TL_x ?_
            refine TL_o rfl rfl rfl (c_call rfl rfl Fk.ok78 (fun w F => PC_ContainsFunc_int r.head.args (fun a => decide ((expAt r a).kind = 1) && !decide ((expAt r a).text ∈ x.2)) (fun ds rs => ∃ (a : Int) (e : Q.Exp), 0 ≤ a ∧ r.exps[a.toNat]? = some e ∧ ds = [di a] ∧ rs = [db (decide (e.kind = 1) && !decide (e.text ∈ x.2))]) (fun a ha => by obtain ⟨h0, e, he⟩ := lit_exp hf (l := r.head) (by simp [Rule.lits]) ha; exact ⟨a, e, h0, he, rfl, by rw [expAt_of he]⟩) (Nat.le_trans hsh (by omega)) w F) (.cons (by first | exact .d (.d _) | exact .d (.nil _ _) | exact .d (.litn _ _ _) | exact .d (.lit _ _) | exact .d (.asl _ _ _ _ _ rfl rfl) | exact .d (.asln _ _ _ _ _ _ _ rfl rfl) | exact .fnv _ | exact .d (.emp _ _ _ _)) (.cons (.clo Fk.ok79 (.cons (.d _) (.cons (.d _) .nil)) (fun w F ds rs h => by obtain ⟨n, e, h0, he, h1, h2⟩ := h; subst h1 h2; exact PC_isPlain3 r x.2 n e h0 he w F)) .nil))) ?_
            iterate 2 refine TL_x ?_
            refine TL_nil ?_
            refine EThen_n ?_
            refine T_ret ?_
            refine Ret_ret ?_
            first | rw [hbad] | (rw [plain_keys hne hb6 hb1 hE (by rw [List.take_of_length_le (by omega)]) hx2]; done)

set_option maxHeartbeats 4000000 in
theorem PC_iPlainRule (r : Rule) (hw : r.wt ≤ 4294967296) (w : World) (F : Fz) : PC Try.prog 18 w F [.d (r.d)] (· = [db r.plain]) := by
  refine PC_of_T' (rs := [2]) (n := 5) Try.func18 rfl rfl rfl rfl ?_
  refine T_seq ?_
  refine T_region ?_
  refine TL_box 1 ?_
  refine TL_x ?_
  refine TL_nil ?_
  refine EThen_n ?_
  refine T_seq ?_
  refine T_region ?_
  refine TL_x ?_
  refine TL_o rfl rfl rfl (c_call rfl rfl Fk.ok48 (fun w F => PC_isPlain r hw w F)) ?_
  refine TL_x ?_
  refine TL_nil ?_
  refine EThen_n ?_
  refine T_ret ?_
  refine Ret_ret ?_
  rfl

end Go.Proofs
