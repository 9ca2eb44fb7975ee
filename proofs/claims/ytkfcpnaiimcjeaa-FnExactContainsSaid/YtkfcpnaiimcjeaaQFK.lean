/- Contracts of functions of the program, each under the conditions that its statement names. -/
import Derived.Test.YtkfcpnaiimcjeaaQFJ
import Derived.Test.YtkfcpnaiimcjeaaQEnvM
import Derived.Test.YtkfcpnaiimcjeaaQClone
set_option linter.unusedVariables false
set_option linter.unusedSimpArgs false
namespace Go.Proofs
open Go.Q
attribute [local irreducible] Go.Q.GStep Go.Q.SStep Go.Q.T Go.Q.TL Go.Q.PC Go.Q.DGo
theorem Ty.fc82_1 : FieldC Try.prog 82 1 1 := ⟨_, _, Try.underlying82, rfl, rfl, _, Try.underlying9, rfl, by kernel_rfl⟩

set_option maxHeartbeats 4000000 in
theorem PC_becomes (a b : Rule) (l o : Q.Lit) (E : Env) (ns : List Bs) (es : List D) (hns : ns = E.ns) (hes : es = E.es) (ha : LitIn a l) (hb : LitIn b o) (hal : l.args.length ≤ 4294967296) (hol : o.args.length ≤ 4294967296) : PCL Try.prog 82 [1000000] [.d a.d, .d b.d, .d l.d, .d o.d, .mp 1000000] [.map (kd ns) es] (fun cs os => cs = [.d (db (becP a b l o E).2)] ∧ os = [.map (kd (becP a b l o E).1.ns) (becP a b l o E).1.es]) := by
  subst hns; subst hes
  refine PCL_of_G (rs := [.tmp 10]) (n := 94) Try.func82 rfl rfl rfl rfl (by rintro cs os ⟨rfl, rfl⟩; rfl) (fun w F M b0 => ?_)
  refine T_seq ?_
  refine T_region ?_
  refine TL_box 5 ?_
  refine TL_box 6 ?_
  refine TL_box 7 ?_
  refine TL_box 8 ?_
  refine TL_x ?_
  refine TL_nil ?_
  refine EThen_n ?_
  refine T_seq ?_
  refine T_seq ?_
  refine T_region ?_
  iterate 6 refine TL_x ?_
  refine TL_split 22 rfl ?_ ?_
  ·
    intro hg22
    refine TL_skip rfl rfl (lt_of_blt rfl) rfl (lt_of_blt rfl) rfl rfl ?_
    refine TL_skip rfl rfl (lt_of_blt rfl) rfl (lt_of_blt rfl) rfl rfl ?_
    refine TL_skip rfl rfl (lt_of_blt rfl) rfl (lt_of_blt rfl) rfl rfl ?_
    refine TL_skip rfl rfl (lt_of_blt rfl) rfl (lt_of_blt rfl) rfl rfl ?_
    refine TL_skip rfl rfl (lt_of_blt rfl) rfl (lt_of_blt rfl) rfl rfl ?_
    refine TL_skip rfl rfl (lt_of_blt rfl) rfl (lt_of_blt rfl) rfl rfl ?_
    refine TL_skip rfl rfl (lt_of_blt rfl) rfl (lt_of_blt rfl) rfl rfl ?_
    refine TL_x ?_
    refine TL_nil ?_
    refine EThen_n ?_
    refine T_cond_t rfl ?_
    have hno := bec_no (a := a) (b := b) (E := E) (l := l) (o := o) (by intro h; simp [h.1] at hg22)
    refine T_seq ?_
    refine T_region ?_
    refine TL_x ?_
    refine TL_nil ?_
    refine EThen_n ?_
    refine T_ret ?_
    refine EThen_ret ?_
    refine RGL_ret ?_
    first | exact bec_ret hno rfl rfl rfl rfl | exact bec_ret hno rfl rfl hz4 hz5 | exact bec_ret (bec_end hyes hlast hz2) rfl rfl hz4 hz5
  ·
    intro hg22
    refine TL_want rfl rfl (lt_of_blt rfl) rfl ?_
    first | refine TL_o rfl rfl rfl (g_field_box rfl rfl Ty.f40_2 rfl) ?_ | refine TL_o rfl rfl rfl (g_field_pt rfl rfl Ty.f40_2 rfl) ?_ | refine TL_o rfl rfl rfl (g_field_el rfl rfl rfl rfl Ty.f40_2 rfl) ?_
    refine TL_want rfl rfl (lt_of_blt rfl) rfl ?_
    first | refine TL_o rfl rfl rfl (g_load_box rfl rfl Ty.c31 rfl rfl) ?_ | refine TL_o rfl rfl rfl (g_load_pt rfl rfl Ty.c31 rfl) ?_ | refine TL_o rfl rfl rfl (g_load_el rfl rfl Ty.c31 rfl rfl rfl) ?_
    refine TL_want rfl rfl (lt_of_blt rfl) rfl ?_
    first | refine TL_o rfl rfl rfl (g_len_sl rfl rfl Ty.s31 rfl) ?_ | refine TL_o rfl rfl rfl (g_len_asl rfl rfl rfl rfl Ty.s31 rfl) ?_ | refine TL_o rfl rfl rfl (g_len_asl rfl rfl rfl (by simp) Ty.s31 rfl) ?_ | refine TL_o rfl rfl rfl (g_len_lit rfl rfl Ty.s31 rfl) ?_ | refine TL_o rfl rfl rfl (g_len_nil rfl rfl Ty.s31) ?_
    refine TL_want rfl rfl (lt_of_blt rfl) rfl ?_
    first | refine TL_o rfl rfl rfl (g_field_box rfl rfl Ty.f40_2 rfl) ?_ | refine TL_o rfl rfl rfl (g_field_pt rfl rfl Ty.f40_2 rfl) ?_ | refine TL_o rfl rfl rfl (g_field_el rfl rfl rfl rfl Ty.f40_2 rfl) ?_
    refine TL_want rfl rfl (lt_of_blt rfl) rfl ?_
    first | refine TL_o rfl rfl rfl (g_load_box rfl rfl Ty.c31 rfl rfl) ?_ | refine TL_o rfl rfl rfl (g_load_pt rfl rfl Ty.c31 rfl) ?_ | refine TL_o rfl rfl rfl (g_load_el rfl rfl Ty.c31 rfl rfl rfl) ?_
    refine TL_want rfl rfl (lt_of_blt rfl) rfl ?_
    first | refine TL_o rfl rfl rfl (g_len_sl rfl rfl Ty.s31 rfl) ?_ | refine TL_o rfl rfl rfl (g_len_asl rfl rfl rfl rfl Ty.s31 rfl) ?_ | refine TL_o rfl rfl rfl (g_len_asl rfl rfl rfl (by simp) Ty.s31 rfl) ?_ | refine TL_o rfl rfl rfl (g_len_lit rfl rfl Ty.s31 rfl) ?_ | refine TL_o rfl rfl rfl (g_len_nil rfl rfl Ty.s31) ?_
    refine TL_want rfl rfl (lt_of_blt rfl) rfl ?_
    refine TL_o rfl rfl rfl (g_icmp rfl rfl rfl rfl) ?_
    refine TL_x ?_
    refine TL_nil ?_
    refine EThen_n ?_
    refine T_cond rfl ?_ ?_
    ·
      intro hc
      have hno := bec_no (a := a) (b := b) (E := E) (l := l) (o := o) (by intro h; simp [h.2] at hc)
      refine T_seq ?_
      refine T_region ?_
      refine TL_x ?_
      refine TL_nil ?_
      refine EThen_n ?_
      refine T_ret ?_
      refine EThen_ret ?_
      refine RGL_ret ?_
      first | exact bec_ret hno rfl rfl rfl rfl | exact bec_ret hno rfl rfl hz4 hz5 | exact bec_ret (bec_end hyes hlast hz2) rfl rfl hz4 hz5
    ·
      intro hc
      have hyes : l.name = o.name ∧ l.args.length = o.args.length := ⟨by simpa using hg22, by simp at hc; omega⟩
      refine T_skip ?_
      refine EThen_n ?_
      refine T_seq ?_
      refine T_seq ?_
      refine T_region ?_
      iterate 4 refine TL_x ?_
      refine TL_nil ?_
      refine EThen_n ?_
      refine T_block ?_
      refine T_loopF (α := Nat × Env × List Bs × List D) (fun z => ⟨(upd (upd (upd (upd (upd (upd (upd env0 4 (.mp 1000000)) 5 (.box 5 0)) 6 (.box 6 0)) 8 (.box 8 0)) 32 (.d (dints l.args))) 33 (.d (di ((l.args.map di).length : Int)))) 34 (.d (di (z.1 : Int)))), (upd (upd (upd (upd H0 5 (.box [.d (dexps a.exps), .d (di a.head.kind), .d (ds a.head.name), .d (dints a.head.args), .d (dlits a.body)])) 6 (.box [.d (dexps b.exps), .d (di b.head.kind), .d (ds b.head.name), .d (dints b.head.args), .d (dlits b.body)])) 8 (.box [.d (di o.kind), .d (ds o.name), .d (dints o.args)])) 1000000 (.map (kd z.2.2.1) z.2.2.2))⟩) (fun z => z.1 ≤ l.args.length ∧ putLP a b ((l.args.zip o.args).take z.1) E = (z.2.1, true) ∧ z.2.2.1 = z.2.1.ns ∧ z.2.2.2 = z.2.1.es ∧ z.2.1.length ≤ E.length + z.1) (fun z => l.args.length - z.1) (0, E, E.ns, E.es) (fgt_intro (fgt_upd rfl (fgt_upd rfl (fgt_upd rfl (fgt_upd rfl (fgt_upd rfl (fgt_upd rfl (fgt_upd rfl fgt_env0))))))) (fgt_updH rfl (fgt_updH rfl (fgt_updH rfl (fgt_updH rfl fgt_H0))))) ?_ ?_
      · exact ⟨Nat.zero_le _, rfl, rfl, rfl, Nat.le_refl _⟩
      rintro z ⟨hz1, hz2, hz4, hz5, hz6⟩
      refine T_seq ?_
      refine T_region ?_
      refine TL_x ?_
      refine TL_nil ?_
      refine EThen_n ?_
      refine T_seq ?_
      refine T_cond rfl ?_ ?_
      ·
        intro hc
        have hlt : z.1 < l.args.length := by simpa using hc
        obtain ⟨n, hn⟩ := get_some hlt
        obtain ⟨m, hm⟩ := get_some (l := o.args) (i := z.1) (by omega)
        obtain ⟨hin, ex, hex, hvx⟩ := ha n (List.mem_of_getElem? hn)
        obtain ⟨hmn, ey, hey, hvy⟩ := hb m (List.mem_of_getElem? hm)
        refine T_skip ?_
        refine EThen_n ?_
        refine T_seq ?_
        refine T_block ?_
        refine T_seq ?_
        refine T_region ?_
        refine TL_x ?_
        first | refine TL_o rfl rfl rfl (g_index_sl rfl rfl rfl Ty.s31 (by omega) (get_map hn)) ?_ | refine TL_o rfl rfl rfl (g_index_lit rfl rfl rfl Ty.s31 (by omega) (get_map hn)) ?_ | refine TL_o rfl rfl rfl (g_index_asl rfl rfl rfl rfl rfl Ty.s31 (by omega) (get_map hn)) ?_
        iterate 3 refine TL_x ?_
        refine TL_nil ?_
        refine EThen_n ?_
        refine T_seq ?_
        refine T_drawE 17 [13, 14] [13, 14] Ty.mixed rfl (by intro A hA; simp at hA; rcases hA with rfl | rfl <;> exact ⟨(by repeat (first | exact noRefE0 | exact noRefE_envOf | exact noRefE_envA rfl | refine noRefE_upd rfl ?_)), (by repeat (first | exact noRefH0 | refine noRefH_upd rfl ?_))⟩) ?_
        iterate 3 refine DE_x ?_
        first | refine DE_pure (by (repeat intro _); exact (g_index_sl rfl rfl rfl Ty.s39 hin (get_map hex))) ?_ | refine DE_pure (by (repeat intro _); exact (g_index_lit rfl rfl rfl Ty.s39 hin (get_map hex))) ?_ | refine DE_pure (by (repeat intro _); exact (g_index_asl rfl rfl rfl rfl rfl Ty.s39 hin (get_map hex))) ?_
        iterate 6 refine DE_x ?_
        first | refine DE_pure (by (repeat intro _); exact (g_index_sl rfl rfl rfl Ty.s31 (by omega) (get_map hm))) ?_ | refine DE_pure (by (repeat intro _); exact (g_index_lit rfl rfl rfl Ty.s31 (by omega) (get_map hm))) ?_ | refine DE_pure (by (repeat intro _); exact (g_index_asl rfl rfl rfl rfl rfl Ty.s31 (by omega) (get_map hm))) ?_
        refine DE_x ?_
        first | refine DE_pure (by (repeat intro _); exact (g_index_sl rfl rfl rfl Ty.s39 hmn (get_map hey))) ?_ | refine DE_pure (by (repeat intro _); exact (g_index_lit rfl rfl rfl Ty.s39 hmn (get_map hey))) ?_ | refine DE_pure (by (repeat intro _); exact (g_index_asl rfl rfl rfl rfl rfl Ty.s39 hmn (get_map hey))) ?_
        refine DE_x ?_
        refine DE_alloc 13 ?_
        refine DE_alloc 14 ?_
        refine DE_store ?_
        refine DE_nil 17 [0, 1, 0, 7, 15, 0, 32, 0, 128, 0, 896, 1920, 4064, 8160, 0, 0, 49183, 131071] ?_
        refine TL_store ?_
        refine TL_nil ?_
        refine EThen_n ?_
        refine T_seq ?_
        refine T_region ?_
        iterate 3 refine TL_x ?_
        refine TL_nil ?_
        refine EThen_n ?_
        refine T_cond rfl ?_ ?_
        ·
          intro hc
          have hk1 : ex.kind = 1 := by simpa using hc
          obtain ⟨r, hr⟩ : ∃ r, z.2.1.get ex.text = r := ⟨_, rfl⟩
          refine T_seq ?_
          refine T_region ?_
          iterate 3 refine TL_x ?_
          refine TL_o rfl rfl rfl (g_lookup_mp (ks := z.2.2.1) (zd := e0.d) rfl rfl rfl rfl Ty.k126 Ty.kz126 e0_cd ⟨_, Ty.kv126, e0_vr⟩ (lookR_env hz4 hz5 hr)) ?_
          iterate 3 refine TL_x ?_
          refine TL_alloc 15 ?_
          refine TL_store ?_
          refine TL_x ?_
          refine TL_nil ?_
          refine EThen_n ?_
          refine T_seq ?_
          refine T_region ?_
          iterate 2 refine TL_x ?_
          refine TL_nil ?_
          refine EThen_n ?_
          refine T_cond rfl ?_ ?_
          ·
            intro hc
            have hrn : r = none := by simpa using hc
            subst hrn
            have hput := put1_new (y := ey) hk1 hr
            have hnew := get_notin hz4 hr
            refine T_region ?_
            iterate 4 refine TL_x ?_
            refine TL_s rfl (s_mapNew (ks := z.2.2.1) rfl rfl rfl rfl (.d _) rfl Ty.k126 hnew (by rw [hz4, hz5]; simp [Env.ns, Env.es])) ?_
            refine TL_nil ?_
            refine EBlock_n ?_
            refine EThen_n ?_
            refine T_region ?_
            iterate 2 refine TL_x ?_
            refine TL_nil ?_
            refine EThen_n ⟨(z.1 + 1, z.2.1 ++ [(ex.text, ey)], z.2.2.1 ++ [ex.text], z.2.2.2 ++ [ey.d]), (fgt_intro (fgt_upd rfl (fgt_upd rfl (fgt_upd rfl (fgt_upd rfl (fgt_upd rfl (fgt_upd rfl (fgt_upd rfl fgt_env0))))))) (fgt_updH rfl (fgt_updH rfl (fgt_updH rfl (fgt_updH rfl fgt_H0))))), ?_, ?_⟩
            · exact ⟨hlt, bec_next hn hm (expAt_of hex) (expAt_of hey) hz2 hput, by dsimp only; rw [hz4]; simp [Env.ns], by dsimp only; rw [hz5]; simp [Env.es], by simp; omega⟩
            · dsimp only; omega
          ·
            intro hc
            obtain ⟨v, rfl⟩ := Option.isSome_iff_exists.1 (show r.isSome = true by simpa using hc)
            refine T_seq ?_
            refine T_region ?_
            iterate 6 refine TL_x ?_
            refine TL_split 74 rfl ?_ ?_
            ·
              intro hg74
              refine TL_skip rfl rfl (lt_of_blt rfl) rfl (lt_of_blt rfl) rfl rfl ?_
              refine TL_skip rfl rfl (lt_of_blt rfl) rfl (lt_of_blt rfl) rfl rfl ?_
              refine TL_skip rfl rfl (lt_of_blt rfl) rfl (lt_of_blt rfl) rfl rfl ?_
              refine TL_skip rfl rfl (lt_of_blt rfl) rfl (lt_of_blt rfl) rfl rfl ?_
              refine TL_skip rfl rfl (lt_of_blt rfl) rfl (lt_of_blt rfl) rfl rfl ?_
              refine TL_x ?_
              refine TL_nil ?_
              refine EThen_n ?_
              refine T_cond_t rfl ?_
              have hput : put1 ex ey z.2.1 = none := by
                rw [put1_oldS hk1 hr, if_neg]
                intro h; simp [h.1] at hg74
              have hno := bec_fail hyes hn hm (expAt_of hex) (expAt_of hey) hz2 hput
              refine T_seq ?_
              refine T_region ?_
              refine TL_x ?_
              refine TL_nil ?_
              refine EThen_n ?_
              refine T_ret ?_
              refine EBlock_ret ?_
              refine EThen_ret ?_
              refine EThen_ret ?_
              refine EBlock_ret ?_
              refine EThen_ret ?_
              refine RGL_ret ?_
              first | exact bec_ret hno rfl rfl rfl rfl | exact bec_ret hno rfl rfl hz4 hz5 | exact bec_ret (bec_end hyes hlast hz2) rfl rfl hz4 hz5
            ·
              intro hg74
              refine TL_want rfl rfl (lt_of_blt rfl) rfl ?_
              first | refine TL_o rfl rfl rfl (g_field_box rfl rfl Ty.f82_1 rfl) ?_ | refine TL_o rfl rfl rfl (g_field_pt rfl rfl Ty.f82_1 rfl) ?_ | refine TL_o rfl rfl rfl (g_field_el rfl rfl rfl rfl Ty.f82_1 rfl) ?_
              refine TL_want rfl rfl (lt_of_blt rfl) rfl ?_
              first | refine TL_o rfl rfl rfl (g_load_box rfl rfl Ty.c9 rfl rfl) ?_ | refine TL_o rfl rfl rfl (g_load_pt rfl rfl Ty.c9 rfl) ?_ | refine TL_o rfl rfl rfl (g_load_el rfl rfl Ty.c9 rfl rfl rfl) ?_
              refine TL_want rfl rfl (lt_of_blt rfl) rfl ?_
              first | refine TL_o rfl rfl rfl (g_field_box rfl rfl Ty.f82_1 rfl) ?_ | refine TL_o rfl rfl rfl (g_field_pt rfl rfl Ty.f82_1 rfl) ?_ | refine TL_o rfl rfl rfl (g_field_el rfl rfl rfl rfl Ty.f82_1 rfl) ?_
              refine TL_want rfl rfl (lt_of_blt rfl) rfl ?_
              first | refine TL_o rfl rfl rfl (g_load_box rfl rfl Ty.c9 rfl rfl) ?_ | refine TL_o rfl rfl rfl (g_load_pt rfl rfl Ty.c9 rfl) ?_ | refine TL_o rfl rfl rfl (g_load_el rfl rfl Ty.c9 rfl rfl rfl) ?_
              refine TL_want rfl rfl (lt_of_blt rfl) rfl ?_
              refine TL_o rfl rfl rfl (g_scmp rfl rfl rfl rfl) ?_
              refine TL_x ?_
              refine TL_nil ?_
              refine EThen_n ?_
              refine T_cond rfl ?_ ?_
              ·
                intro hc
                have hput : put1 ex ey z.2.1 = none := by
                  rw [put1_oldS hk1 hr, if_neg]
                  intro h; simp [h.2] at hc
                have hno := bec_fail hyes hn hm (expAt_of hex) (expAt_of hey) hz2 hput
                refine T_seq ?_
                refine T_region ?_
                refine TL_x ?_
                refine TL_nil ?_
                refine EThen_n ?_
                refine T_ret ?_
                refine EBlock_ret ?_
                refine EThen_ret ?_
                refine EThen_ret ?_
                refine EBlock_ret ?_
                refine EThen_ret ?_
                refine RGL_ret ?_
                first | exact bec_ret hno rfl rfl rfl rfl | exact bec_ret hno rfl rfl hz4 hz5 | exact bec_ret (bec_end hyes hlast hz2) rfl rfl hz4 hz5
              ·
                intro hc
                have hput : put1 ex ey z.2.1 = some z.2.1 := by
                  rw [put1_oldS hk1 hr, if_pos]
                  exact ⟨by simpa using hg74, by simpa using hc⟩
                refine T_skip ?_
                refine EBlock_n ?_
                refine EThen_n ?_
                refine T_region ?_
                iterate 2 refine TL_x ?_
                refine TL_nil ?_
                refine EThen_n ⟨(z.1 + 1, z.2.1, z.2.2.1, z.2.2.2), (fgt_intro (fgt_upd rfl (fgt_upd rfl (fgt_upd rfl (fgt_upd rfl (fgt_upd rfl (fgt_upd rfl (fgt_upd rfl fgt_env0))))))) (fgt_updH rfl (fgt_updH rfl (fgt_updH rfl (fgt_updH rfl fgt_H0))))), ?_, ?_⟩
                · exact ⟨hlt, bec_next hn hm (expAt_of hex) (expAt_of hey) hz2 hput, hz4, hz5, by dsimp only; omega⟩
                · dsimp only; omega
        ·
          intro hc
          have hk1 : ex.kind ≠ 1 := by simpa using hc
          refine T_seq ?_
          refine T_region ?_
          iterate 6 refine TL_x ?_
          refine TL_split 86 rfl ?_ ?_
          ·
            intro hg86
            refine TL_skip rfl rfl (lt_of_blt rfl) rfl (lt_of_blt rfl) rfl rfl ?_
            refine TL_skip rfl rfl (lt_of_blt rfl) rfl (lt_of_blt rfl) rfl rfl ?_
            refine TL_skip rfl rfl (lt_of_blt rfl) rfl (lt_of_blt rfl) rfl rfl ?_
            refine TL_skip rfl rfl (lt_of_blt rfl) rfl (lt_of_blt rfl) rfl rfl ?_
            refine TL_skip rfl rfl (lt_of_blt rfl) rfl (lt_of_blt rfl) rfl rfl ?_
            refine TL_x ?_
            refine TL_nil ?_
            refine EThen_n ?_
            refine T_cond_t rfl ?_
            have hput : put1 ex ey z.2.1 = none := by
              rw [put1_termS hk1, if_neg]
              intro h; simp [h.1] at hg86
            have hno := bec_fail hyes hn hm (expAt_of hex) (expAt_of hey) hz2 hput
            refine T_seq ?_
            refine T_region ?_
            refine TL_x ?_
            refine TL_nil ?_
            refine EThen_n ?_
            refine T_ret ?_
            refine EBlock_ret ?_
            refine EThen_ret ?_
            refine EThen_ret ?_
            refine EBlock_ret ?_
            refine EThen_ret ?_
            refine RGL_ret ?_
            first | exact bec_ret hno rfl rfl rfl rfl | exact bec_ret hno rfl rfl hz4 hz5 | exact bec_ret (bec_end hyes hlast hz2) rfl rfl hz4 hz5
          ·
            intro hg86
            refine TL_want rfl rfl (lt_of_blt rfl) rfl ?_
            first | refine TL_o rfl rfl rfl (g_field_box rfl rfl Ty.f82_1 rfl) ?_ | refine TL_o rfl rfl rfl (g_field_pt rfl rfl Ty.f82_1 rfl) ?_ | refine TL_o rfl rfl rfl (g_field_el rfl rfl rfl rfl Ty.f82_1 rfl) ?_
            refine TL_want rfl rfl (lt_of_blt rfl) rfl ?_
            first | refine TL_o rfl rfl rfl (g_load_box rfl rfl Ty.c9 rfl rfl) ?_ | refine TL_o rfl rfl rfl (g_load_pt rfl rfl Ty.c9 rfl) ?_ | refine TL_o rfl rfl rfl (g_load_el rfl rfl Ty.c9 rfl rfl rfl) ?_
            refine TL_want rfl rfl (lt_of_blt rfl) rfl ?_
            first | refine TL_o rfl rfl rfl (g_field_box rfl rfl Ty.f82_1 rfl) ?_ | refine TL_o rfl rfl rfl (g_field_pt rfl rfl Ty.f82_1 rfl) ?_ | refine TL_o rfl rfl rfl (g_field_el rfl rfl rfl rfl Ty.f82_1 rfl) ?_
            refine TL_want rfl rfl (lt_of_blt rfl) rfl ?_
            first | refine TL_o rfl rfl rfl (g_load_box rfl rfl Ty.c9 rfl rfl) ?_ | refine TL_o rfl rfl rfl (g_load_pt rfl rfl Ty.c9 rfl) ?_ | refine TL_o rfl rfl rfl (g_load_el rfl rfl Ty.c9 rfl rfl rfl) ?_
            refine TL_want rfl rfl (lt_of_blt rfl) rfl ?_
            refine TL_o rfl rfl rfl (g_scmp rfl rfl rfl rfl) ?_
            refine TL_x ?_
            refine TL_nil ?_
            refine EThen_n ?_
            refine T_cond rfl ?_ ?_
            ·
              intro hc
              have hput : put1 ex ey z.2.1 = none := by
                rw [put1_termS hk1, if_neg]
                intro h; simp [h.2] at hc
              have hno := bec_fail hyes hn hm (expAt_of hex) (expAt_of hey) hz2 hput
              refine T_seq ?_
              refine T_region ?_
              refine TL_x ?_
              refine TL_nil ?_
              refine EThen_n ?_
              refine T_ret ?_
              refine EBlock_ret ?_
              refine EThen_ret ?_
              refine EThen_ret ?_
              refine EBlock_ret ?_
              refine EThen_ret ?_
              refine RGL_ret ?_
              first | exact bec_ret hno rfl rfl rfl rfl | exact bec_ret hno rfl rfl hz4 hz5 | exact bec_ret (bec_end hyes hlast hz2) rfl rfl hz4 hz5
            ·
              intro hc
              have hput : put1 ex ey z.2.1 = some z.2.1 := by
                rw [put1_termS hk1, if_pos]
                exact ⟨by simpa using hg86, by simpa using hc⟩
              refine T_skip ?_
              refine EBlock_n ?_
              refine EThen_n ?_
              refine T_region ?_
              iterate 2 refine TL_x ?_
              refine TL_nil ?_
              refine EThen_n ⟨(z.1 + 1, z.2.1, z.2.2.1, z.2.2.2), (fgt_intro (fgt_upd rfl (fgt_upd rfl (fgt_upd rfl (fgt_upd rfl (fgt_upd rfl (fgt_upd rfl (fgt_upd rfl fgt_env0))))))) (fgt_updH rfl (fgt_updH rfl (fgt_updH rfl (fgt_updH rfl fgt_H0))))), ?_, ?_⟩
              · exact ⟨hlt, bec_next hn hm (expAt_of hex) (expAt_of hey) hz2 hput, hz4, hz5, by dsimp only; omega⟩
              · dsimp only; omega
      ·
        intro hc
        have hlast : ¬ z.1 < l.args.length := by simpa using hc
        refine T_exit ?_
        refine EThen_exit ?_
        refine EThen_exit ?_
        refine EBlock_same ?_
        refine EThen_n ?_
        refine T_seq ?_
        refine T_region ?_
        refine TL_x ?_
        refine TL_nil ?_
        refine EThen_n ?_
        refine T_ret ?_
        refine RGL_ret ?_
        first | exact bec_ret hno rfl rfl rfl rfl | exact bec_ret hno rfl rfl hz4 hz5 | exact bec_ret (bec_end hyes hlast hz2) rfl rfl hz4 hz5

set_option maxHeartbeats 4000000 in
theorem PC_carries1 (a b : Rule) (hpa : a.plain = true) (hpb : b.plain = true) (hwa : a.wt ≤ 4294967296) (hwb : b.wt ≤ 4294967296) (j : Nat) (hj : j ≤ a.body.length) (E : Env) (fv : Value) (w : World) (F : Fz) (hok : j < a.body.length → FnOk Try.prog w F fv (pk a b (j + 1))) : PC Try.prog 83 w F [.d (di (j : Int)), .d (E.md), .d (a.at), .d (b.at), .d (.pt [.s fv] 0)] (· = [mpO (way a b (a.body.drop j) E), db (way a b (a.body.drop j) E).isSome]) := by
  have hsa := Rule.small hwa
  have hsb := Rule.small hwb
  have hib := hsa.2.1
  have hbb := hsb.2.1
  refine PC_of_T' (rs := [7, 8]) (n := 51) Try.func83 rfl rfl rfl rfl ?_
  refine T_seq ?_
  refine T_region ?_
  iterate 2 refine TL_x ?_
  refine TL_nil ?_
  refine EThen_n ?_
  refine T_seq ?_
  refine T_seq ?_
  refine T_region ?_
  iterate 5 refine TL_x ?_
  refine TL_nil ?_
  refine EThen_n ?_
  refine T_cond rfl ?_ ?_
  ·
    intro hc
    have hend := wayM_over (a := a) (b := b) (E := E) (j := j) (by simp at hc; omega)
    refine T_seq ?_
    refine T_region ?_
    iterate 3 refine TL_x ?_
    refine TL_nil ?_
    refine EThen_n ?_
    refine T_ret ?_
    refine EThen_ret ?_
    refine Ret_ret ?_
    first | (rw [hend]; rfl) | (rw [hsome]; done) | (rw [hsome]; rfl) | (rw [hnone]; rfl)
  ·
    intro hc
    have hil : j < a.body.length := by simp at hc; omega
    obtain ⟨l, hl⟩ := get_some hil
    have hlm : l ∈ a.lits := by simp only [Rule.lits]; exact List.mem_cons_of_mem _ (List.mem_of_getElem? hl)
    have hla := hsa.2.2.2.2.1 l hlm
    refine T_skip ?_
    refine EThen_n ?_
    refine T_seq ?_
    refine T_seq ?_
    refine T_region ?_
    iterate 4 refine TL_x ?_
    refine TL_nil ?_
    refine EThen_n ?_
    refine T_block ?_
    refine T_loopF (α := Nat) (fun k => ⟨(upd (upd (upd (upd (upd (upd (upd (upd env0 0 (.d (di (j : Int)))) 1 (.d E.md)) 2 (.d a.at)) 3 (.d b.at)) 4 (.d (.pt [.s fv] 0))) 21 (.d (dlits b.body))) 22 (.d (di ((b.body.map Lit.d).length : Int)))) 23 (.d (di (k : Int)))), H0⟩) (fun k => k ≤ b.body.length ∧ (∀ (i : Nat) (y : Q.Lit), i < k → b.body[i]? = some y → (becomes a b l y E).bind (way a b (a.body.drop (j + 1))) = none)) (fun k => b.body.length - k) 0 (fgt_intro (fgt_upd rfl (fgt_upd rfl (fgt_upd rfl (fgt_upd rfl (fgt_upd rfl (fgt_upd rfl (fgt_upd rfl (fgt_upd rfl fgt_env0)))))))) fgt_H0) ?_ ?_
    · exact ⟨Nat.zero_le _, fun i y h => by omega⟩
    rintro k ⟨hk, hn⟩
    refine T_seq ?_
    refine T_region ?_
    refine TL_x ?_
    refine TL_nil ?_
    refine EThen_n ?_
    refine T_seq ?_
    refine T_cond rfl ?_ ?_
    ·
      intro hc
      have hlt : k < b.body.length := by simpa using hc
      obtain ⟨o, ho⟩ := get_some hlt
      have hom : o ∈ b.lits := by simp only [Rule.lits]; exact List.mem_cons_of_mem _ (List.mem_of_getElem? ho)
      have hlo := hsb.2.2.2.2.1 o hom
      refine T_skip ?_
      refine EThen_n ?_
      refine T_seq ?_
      refine T_block ?_
      refine T_seq ?_
      refine T_region ?_
      first | refine TL_o rfl rfl rfl (g_index_sl rfl rfl rfl Ty.s41 (by omega) (get_map ho)) ?_ | refine TL_o rfl rfl rfl (g_index_lit rfl rfl rfl Ty.s41 (by omega) (get_map ho)) ?_ | refine TL_o rfl rfl rfl (g_index_asl rfl rfl rfl rfl rfl Ty.s41 (by omega) (get_map ho)) ?_
      refine TL_x ?_
      refine TL_alloc 10 ?_
      refine TL_store ?_
      refine TL_nil ?_
      refine EThen_n ?_
      refine T_seq ?_
      refine T_region ?_
      refine TL_x ?_
      refine TL_s rfl (s_cloneMap (id := 1000000) rfl rfl rfl rfl Fk.ok84 clone_calls rfl (by repeat (first | exact noRefE0 | exact noRefE_envOf | exact noRefE_envA rfl | refine noRefE_upd rfl ?_)) (by repeat (first | exact noRefH0 | refine noRefH_upd rfl ?_))) ?_
      refine TL_x ?_
      refine TL_nil ?_
      refine EThen_n ?_
      refine T_seq ?_
      refine T_seq ?_
      refine T_draw 9 Ty.mixed rfl ?_
      iterate 5 refine DGo_x ?_
      first | refine DGo_one rfl rfl (.go _ rfl (g_index_sl rfl rfl rfl Ty.s41 (by omega) (get_map hl))) ?_ | refine DGo_one rfl rfl (.go _ rfl (g_index_lit rfl rfl rfl Ty.s41 (by omega) (get_map hl))) ?_ | refine DGo_one rfl rfl (.go _ rfl (g_index_asl rfl rfl rfl rfl rfl Ty.s41 (by omega) (get_map hl))) ?_
      iterate 3 refine DGo_x ?_
      refine DGo_nil ?_
      refine TL_calL (L := [1000000]) Fk.ok82 (PC_becomes a b l o E E.ns E.es rfl rfl (plain_lit hpa hlm) (plain_lit hpb hom) hla hlo) ?_
      rintro _ _ ⟨rfl, rfl⟩
      refine TL_x ?_
      refine TL_nil ?_
      refine EThen_n ?_
      refine T_cond rfl ?_ ?_
      ·
        intro hc
        have hbad : (becP a b l o E).2 = false := by simpa using hc
        refine T_exit ?_
        refine EThen_exit ?_
        refine EBlock_same ?_
        refine EThen_n ?_
        refine T_region ?_
        iterate 2 refine TL_x ?_
        refine TL_nil ?_
        refine EThen_n ⟨k + 1, (fgt_intro (fgt_upd rfl (fgt_upd rfl (fgt_upd rfl (fgt_upd rfl (fgt_upd rfl (fgt_upd rfl (fgt_upd rfl (fgt_upd rfl fgt_env0)))))))) fgt_H0), ?_, ?_⟩
        · exact ⟨hlt, way_round hn ho rfl (.inl hbad)⟩
        · omega
      ·
        intro hc
        have hgood : (becP a b l o E).2 = true := by simpa using hc
        refine T_skip ?_
        refine EThen_n ?_
        refine T_seq ?_
        refine T_region ?_
        refine TL_freezeMapT 11 1000000 rfl rfl ?_
        first | refine TL_o rfl rfl rfl (g_load_box rfl rfl Ty.c128 rfl rfl) ?_ | refine TL_o rfl rfl rfl (g_load_pt rfl rfl Ty.c128 rfl) ?_ | refine TL_o rfl rfl rfl (g_load_el rfl rfl Ty.c128 rfl rfl rfl) ?_
        iterate 3 refine TL_x ?_
        refine TL_o rfl rfl rfl (g_callS (ds := [di ((j : Int) + 1), (becP a b l o E).1.md]) (rs := [mpO (way a b (a.body.drop (j + 1)) (becP a b l o E).1), db (way a b (a.body.drop (j + 1)) (becP a b l o E).1).isSome]) rfl rfl (hok hil) ⟨(becP a b l o E).1, rfl, rfl⟩ (.cons (.d _) (.cons (.d _) .nil)) (.tup _)) ?_
        iterate 5 refine TL_x ?_
        refine TL_nil ?_
        refine EThen_n ?_
        refine T_seq ?_
        refine T_region ?_
        refine TL_x ?_
        refine TL_nil ?_
        refine EThen_n ?_
        refine T_cond rfl ?_ ?_
        ·
          intro hc
          have hfound := wayM_found hl hn ho hgood rfl hc
          rw [hfound]
          have hsome : (way a b (a.body.drop (j + 1)) (becP a b l o E).1).isSome = true := hc
          refine T_seq ?_
          refine T_region ?_
          iterate 3 refine TL_x ?_
          refine TL_nil ?_
          refine EThen_n ?_
          refine T_ret ?_
          refine EBlock_ret ?_
          refine EThen_ret ?_
          refine EThen_ret ?_
          refine EBlock_ret ?_
          refine EThen_ret ?_
          refine Ret_ret ?_
          first | (rw [hend]; rfl) | (rw [hsome]; done) | (rw [hsome]; rfl) | (rw [hnone]; rfl)
        ·
          intro hc
          have hbad : (wayR a b (a.body.drop (j + 1)) (becP a b l o E).1).2 = false := by rw [wayR_some]; exact hc
          refine T_skip ?_
          refine EBlock_n ?_
          refine EThen_n ?_
          refine T_region ?_
          iterate 2 refine TL_x ?_
          refine TL_nil ?_
          refine EThen_n ⟨k + 1, (fgt_intro (fgt_upd rfl (fgt_upd rfl (fgt_upd rfl (fgt_upd rfl (fgt_upd rfl (fgt_upd rfl (fgt_upd rfl (fgt_upd rfl fgt_env0)))))))) fgt_H0), ?_, ?_⟩
          · exact ⟨hlt, way_round hn ho rfl (.inr hbad)⟩
          · omega
    ·
      intro hc
      have hlast : ¬ k < b.body.length := by simpa using hc
      have hnone := wayM_none hl hn hlast
      refine T_exit ?_
      refine EThen_exit ?_
      refine EThen_exit ?_
      refine EBlock_same ?_
      refine EThen_n ?_
      refine T_seq ?_
      refine T_region ?_
      iterate 2 refine TL_x ?_
      refine TL_nil ?_
      refine EThen_n ?_
      refine T_ret ?_
      refine Ret_ret ?_
      first | (rw [hend]; rfl) | (rw [hsome]; done) | (rw [hsome]; rfl) | (rw [hnone]; rfl)

theorem fnok_carries1 (a b : Rule) (hpa : a.plain = true) (hpb : b.plain = true) (hwa : a.wt ≤ 4294967296) (hwb : b.wt ≤ 4294967296) : ∀ (n j : Nat), a.body.length - j = n → j ≤ a.body.length → ∀ (w : World) (F : Fz) (v pa pb pc : Value), WF F w → VR F w a.at pa → VR F w b.at pb → VR F w (.pt [.s v] 0) pc → v = .func (.func 83) #[] #[pa, pb, pc] → FnOk Try.prog w F v (pk a b j) := by
  intro n
  induction n with
  | zero =>
    intro j hn hj w F v pa pb pc hw h1 h2 h3 hv
    refine ⟨83, [pa, pb, pc], hv, Fk.ok83, fun w' F' hE hF hw' ds rs vs hp hl hvs => ?_⟩
    obtain ⟨E, rfl, rfl⟩ := hp
    match vs, hl with
    | [x, y], _ =>
      refine (PC_carries1 a b hpa hpb hwa hwb j hj E v w' F' (fun h => by omega)).at hw' [x, y, pa, pb, pc] rfl (fun i c u hc hu => ?_)
      match i with
      | 0 => simp at hc hu; subst hc; subst hu; exact hvs 0 _ _ rfl rfl
      | 1 => simp at hc hu; subst hc; subst hu; exact hvs 1 _ _ rfl rfl
      | 2 => simp at hc hu; subst hc; subst hu; exact h1.mono hE hF
      | 3 => simp at hc hu; subst hc; subst hu; exact h2.mono hE hF
      | 4 => simp at hc hu; subst hc; subst hu; exact h3.mono hE hF
      | i + 5 => simp at hc
  | succ n ih =>
    intro j hn hj w F v pa pb pc hw h1 h2 h3 hv
    refine ⟨83, [pa, pb, pc], hv, Fk.ok83, fun w' F' hE hF hw' ds rs vs hp hl hvs => ?_⟩
    obtain ⟨E, rfl, rfl⟩ := hp
    match vs, hl with
    | [x, y], _ =>
      refine (PC_carries1 a b hpa hpb hwa hwb j hj E v w' F' (fun h => ih (j + 1) (by omega) (by omega) w' F' v pa pb pc hw' (h1.mono hE hF) (h2.mono hE hF) (h3.mono hE hF) hv)).at hw' [x, y, pa, pb, pc] rfl (fun i c u hc hu => ?_)
      match i with
      | 0 => simp at hc hu; subst hc; subst hu; exact hvs 0 _ _ rfl rfl
      | 1 => simp at hc hu; subst hc; subst hu; exact hvs 1 _ _ rfl rfl
      | 2 => simp at hc hu; subst hc; subst hu; exact h1.mono hE hF
      | 3 => simp at hc hu; subst hc; subst hu; exact h2.mono hE hF
      | 4 => simp at hc hu; subst hc; subst hu; exact h3.mono hE hF
      | i + 5 => simp at hc

set_option maxHeartbeats 4000000 in
theorem PC_allVars (r : Rule) (hl : r.exps.length ≤ 4294967296) (w : World) (F : Fz)  : PC Try.prog 85 w F [.d (r.d)] (· = [dstrs r.vars]) := by
  refine PC_of_T' (rs := [2]) (n := 31) Try.func85 rfl rfl rfl rfl ?_
  refine T_seq ?_
  refine T_region ?_
  refine TL_box 1 ?_
  refine TL_x ?_
  refine TL_nil ?_
  refine EThen_n ?_
  refine T_seq ?_
  refine T_region ?_
  refine TL_s rfl (s_buildSlice (id := 6) rfl rfl rfl Ty.e48 rfl rfl rfl .nil rfl rfl rfl (by repeat (first | exact noRefE0 | exact noRefE_envOf | exact noRefE_envA rfl | refine noRefE_upd rfl ?_)) (by repeat (first | exact noRefH0 | refine noRefH_upd rfl ?_))) ?_
  refine TL_x ?_
  refine TL_nil ?_
  refine EThen_n ?_
  refine T_seq ?_
  refine T_seq ?_
  refine T_region ?_
  iterate 4 refine TL_x ?_
  refine TL_nil ?_
  refine EThen_n ?_
  refine T_block ?_
  refine T_loopF (α := Nat × List Bs) (fun x => ⟨(upd (upd (upd (upd env0 3 (.asl 6 x.2.length)) 8 (.d (dexps r.exps))) 9 (.d (di ((r.exps.map Q.Exp.d).length : Int)))) 10 (.d (di (x.1 : Int)))), (upd H0 6 (.arr true 1 9 (x.2.map ds)))⟩) (fun x => x.1 ≤ r.exps.length ∧ x.2 = varsOf (r.exps.take x.1)) (fun x => r.exps.length - x.1) (0, []) (fgt_intro (fgt_upd rfl (fgt_upd rfl (fgt_upd rfl (fgt_upd rfl fgt_env0)))) (fgt_updH rfl fgt_H0)) ?_ ?_
  · exact ⟨Nat.zero_le _, rfl⟩
  rintro x ⟨hx1, hx2⟩
  refine T_seq ?_
  refine T_region ?_
  refine TL_x ?_
  refine TL_nil ?_
  refine EThen_n ?_
  refine T_seq ?_
  refine T_cond rfl ?_ ?_
  ·
    intro hc
    have hlt : x.1 < r.exps.length := by simpa using hc
    obtain ⟨e, he⟩ := get_some hlt
    have hxl : x.2.length ≤ r.exps.length := by rw [hx2]; exact Nat.le_trans (vars_take_len _ _) (by omega)
    refine T_skip ?_
    refine EThen_n ?_
    refine T_seq ?_
    refine T_block ?_
    refine T_seq ?_
    refine T_region ?_
    first | refine TL_o rfl rfl rfl (g_index_sl rfl rfl rfl Ty.s39 (by omega) (get_map he)) ?_ | refine TL_o rfl rfl rfl (g_index_lit rfl rfl rfl Ty.s39 (by omega) (get_map he)) ?_ | refine TL_o rfl rfl rfl (g_index_asl rfl rfl rfl rfl rfl Ty.s39 (by omega) (get_map he)) ?_
    refine TL_x ?_
    refine TL_alloc 5 ?_
    refine TL_store ?_
    refine TL_nil ?_
    refine EThen_n ?_
    refine T_seq ?_
    refine T_region ?_
    iterate 4 refine TL_x ?_
    refine TL_split 17 rfl ?_ ?_
    ·
      intro hg17
      refine TL_want rfl rfl (lt_of_blt rfl) rfl ?_
      refine TL_o rfl rfl rfl (f_move rfl (by first | exact .d _ | exact .box _ _ | exact .asl _ _ | exact .nil | exact .lit _ _ | exact .agg _ | exact .clo _ _ | exact .fnv _ | exact .tup _ | exact .el _ _ _ | exact .mp _ | exact .junk)) ?_
      refine TL_want rfl rfl (lt_of_blt rfl) rfl ?_
      first | refine TL_o rfl rfl rfl (g_field_box rfl rfl Ty.f82_1 rfl) ?_ | refine TL_o rfl rfl rfl (g_field_pt rfl rfl Ty.f82_1 rfl) ?_ | refine TL_o rfl rfl rfl (g_field_el rfl rfl rfl rfl Ty.f82_1 rfl) ?_
      refine TL_want rfl rfl (lt_of_blt rfl) rfl ?_
      first | refine TL_o rfl rfl rfl (g_load_box rfl rfl Ty.c9 rfl rfl) ?_ | refine TL_o rfl rfl rfl (g_load_pt rfl rfl Ty.c9 rfl) ?_ | refine TL_o rfl rfl rfl (g_load_el rfl rfl Ty.c9 rfl rfl rfl) ?_
      refine TL_want rfl rfl (lt_of_blt rfl) rfl ?_
      refine TL_o rfl rfl rfl (g_callB (n := 2) rfl rfl Fk.ok102 rfl rfl (Frz_arr 6 rfl (Frz_refl _)) ?_ rfl (by first | exact .d _ | exact .box _ _ | exact .asl _ _ | exact .nil | exact .lit _ _ | exact .agg _ | exact .clo _ _ | exact .fnv _ | exact .tup _ | exact .el _ _ _ | exact .mp _ | exact .junk) (fun w F => PC_ContainsStr x.2 e.text (by omega) w F)) ?_
      · exact (.cons (.d (.asl _ _ _ _ _ rfl (by simp))) (.cons (by first | exact .d (.d _) | exact .d (.nil _ _) | exact .d (.litn _ _ _) | exact .d (.lit _ _) | exact .d (.asl _ _ _ _ _ rfl rfl) | exact .d (.asln _ _ _ _ _ _ _ rfl rfl) | exact .fnv _ | exact .d (.emp _ _ _ _)) .nil))
      refine TL_want rfl rfl (lt_of_blt rfl) rfl ?_
      refine TL_o rfl rfl rfl (g_not rfl rfl) ?_
      refine TL_x ?_
      refine TL_nil ?_
      refine EThen_n ?_
      refine T_cond rfl ?_ ?_
      ·
        intro hc
        have hkk : e.kind = 1 ∧ e.text ∉ x.2 := by simp at hg17 hc; exact ⟨hg17, hc⟩
        refine T_region ?_
        iterate 4 refine TL_x ?_
        refine TL_s rfl (s_append_to (l' := (x.2 ++ [e.text]).map ds) (m := (x.2 ++ [e.text]).length) rfl rfl rfl rfl rfl (by simp) (by first | exact .asl _ _ _ _ _ rfl rfl | exact .lit _ | exact .d _ _ | exact .nil) Ty.e48 (by simp) (by simp) (by simp; omega) (by unfold maxLen; simp; omega)) ?_
        refine TL_x ?_
        refine TL_nil ?_
        refine EBlock_n ?_
        refine EThen_n ?_
        refine T_region ?_
        iterate 2 refine TL_x ?_
        refine TL_nil ?_
        refine EThen_n ⟨(x.1 + 1, x.2 ++ [e.text]), (fgt_intro (fgt_upd rfl (fgt_upd rfl (fgt_upd rfl (fgt_upd rfl fgt_env0)))) (fgt_updH rfl fgt_H0)), ?_, ?_⟩
        · exact ⟨hlt, by dsimp only; rw [hx2] at hkk ⊢; exact (vars_yes he hkk).symm⟩
        · dsimp only; omega
      ·
        intro hc
        have hkk : ¬ (e.kind = 1 ∧ e.text ∉ x.2) := by simp at hg17 hc; simp [hg17, hc]
        refine T_skip ?_
        refine EBlock_n ?_
        refine EThen_n ?_
        refine T_region ?_
        iterate 2 refine TL_x ?_
        refine TL_nil ?_
        refine EThen_n ⟨(x.1 + 1, x.2), (fgt_intro (fgt_upd rfl (fgt_upd rfl (fgt_upd rfl (fgt_upd rfl fgt_env0)))) (fgt_updH rfl fgt_H0)), ?_, ?_⟩
        · exact ⟨hlt, by dsimp only; rw [hx2] at hkk ⊢; exact (vars_no he hkk).symm⟩
        · dsimp only; omega
    ·
      intro hg17
      refine TL_skip rfl rfl (lt_of_blt rfl) rfl (lt_of_blt rfl) rfl rfl ?_
      refine TL_skip rfl rfl (lt_of_blt rfl) rfl (lt_of_blt rfl) rfl rfl ?_
      refine TL_skip rfl rfl (lt_of_blt rfl) rfl (lt_of_blt rfl) rfl rfl ?_
      refine TL_skip rfl rfl (lt_of_blt rfl) rfl (lt_of_blt rfl) rfl rfl ?_
      refine TL_skip rfl rfl (lt_of_blt rfl) rfl (lt_of_blt rfl) rfl rfl ?_
      refine TL_x ?_
      refine TL_nil ?_
      refine EThen_n ?_
      refine T_cond_f rfl ?_
      have hkk : ¬ (e.kind = 1 ∧ e.text ∉ x.2) := by simp at hg17; simp [hg17]
      refine T_skip ?_
      refine EBlock_n ?_
      refine EThen_n ?_
      refine T_region ?_
      iterate 2 refine TL_x ?_
      refine TL_nil ?_
      refine EThen_n ⟨(x.1 + 1, x.2), (fgt_intro (fgt_upd rfl (fgt_upd rfl (fgt_upd rfl (fgt_upd rfl fgt_env0)))) (fgt_updH rfl fgt_H0)), ?_, ?_⟩
      · exact ⟨hlt, by dsimp only; rw [hx2] at hkk ⊢; exact (vars_no he hkk).symm⟩
      · dsimp only; omega
  ·
    intro hc
    have hlast : ¬ x.1 < r.exps.length := by simpa using hc
    refine T_exit ?_
    refine EThen_exit ?_
    refine EThen_exit ?_
    refine EBlock_same ?_
    refine EThen_n ?_
    refine T_seq ?_
    refine T_region ?_
    refine TL_freeze 6 rfl ?_
    refine TL_o rfl rfl rfl (f_move rfl (by first | exact .d _ | exact .box _ _ | exact .asl _ _ | exact .nil | exact .lit _ _ | exact .agg _ | exact .clo _ _ | exact .fnv _ | exact .tup _ | exact .el _ _ _ | exact .mp _ | exact .junk)) ?_
    refine TL_x ?_
    refine TL_nil ?_
    refine EThen_n ?_
    refine T_ret ?_
    refine RetQ_ret (.cons (by first | exact .d _ | exact .nil _ _ | exact .litn _ _ _ | exact .lit _ _ | exact .asl _ _ _ _ _ rfl rfl | exact .asln _ _ _ _ _ _ _ rfl rfl | exact .emp _ _ _ _ | exact .asl _ _ _ _ _ rfl (by simp)) .nil) ?_
    rw [vars_end hlast hx2]

set_option maxHeartbeats 4000000 in
theorem PC_iCarries (a b : Rule) (hpa : a.plain = true) (hpb : b.plain = true) (hwa : a.wt ≤ 4294967296) (hwb : b.wt ≤ 4294967296) (w : World) (F : Fz)  : PC Try.prog 52 w F [.d (a.d), .d (b.d)] (· = [mdO (Rule.carries a b), db (Rule.carries a b).isSome]) := by
  have hsa := Rule.small hwa
  have hsb := Rule.small hwb
  refine PC_of_G (rs := [.cell 4 50, .tmp 5]) (n := 59) Try.func52 rfl rfl rfl rfl ?_
  refine T_seq ?_
  refine T_region ?_
  refine TL_box 2 ?_
  refine TL_box 3 ?_
  refine TL_alloc 4 ?_
  refine TL_x ?_
  refine TL_nil ?_
  refine EThen_n ?_
  refine T_seq ?_
  refine T_region ?_
  refine TL_s rfl (s_makeMap (id := 1000000) rfl rfl rfl rfl (by repeat (first | exact noRefE0 | exact noRefE_envOf | exact noRefE_envA rfl | refine noRefE_upd rfl ?_)) (by repeat (first | exact noRefH0 | refine noRefH_upd rfl ?_))) ?_
  refine TL_x ?_
  refine TL_nil ?_
  refine EThen_n ?_
  refine T_seq ?_
  refine T_seq ?_
  refine T_region ?_
  iterate 7 refine TL_x ?_
  refine TL_calL (L := [1000000]) Fk.ok82 (PC_becomes a b a.head b.head [] [] [] rfl rfl (plain_lit hpa (by simp [Rule.lits])) (plain_lit hpb (by simp [Rule.lits])) (hsa.2.2.2.2.1 _ (by simp [Rule.lits])) (hsb.2.2.2.2.1 _ (by simp [Rule.lits]))) ?_
  rintro _ _ ⟨rfl, rfl⟩
  refine TL_x ?_
  refine TL_nil ?_
  refine EThen_n ?_
  refine T_cond rfl ?_ ?_
  ·
    intro hc
    have hno := carries_nh hpa hpb (by simpa using hc)
    refine T_seq ?_
    refine T_region ?_
    refine TL_x ?_
    refine TL_store ?_
    refine TL_x ?_
    refine TL_nil ?_
    refine EThen_n ?_
    refine T_ret ?_
    refine EThen_ret ?_
    refine RetG_ret (.cons (.row rfl rfl Ty.r50 rfl (by first | exact .d _ | exact .box _ _ | exact .asl _ _ | exact .nil | exact .lit _ _ | exact .agg _ | exact .clo _ _ | exact .fnv _ | exact .tup _ | exact .el _ _ _ | exact .mp _ | exact .junk)) (.cons (.tmp _) .nil)) (.cons (by first | exact .d _ | exact .nil _ _ | exact .litn _ _ _ | exact .lit _ _ | exact .asl _ _ _ _ _ rfl rfl | exact .asln _ _ _ _ _ _ _ rfl rfl | exact .emp _ _ _ _ | exact .ofL (.cons (.nil 1 none) (.cons (.nil 1 none) .nil)) rfl | exact .ofL (.cons (.asl _ _ _ _ _ rfl (by simp)) (.cons (.asl _ _ _ _ _ rfl (by simp)) .nil)) rfl) (.cons (by first | exact .d _ | exact .nil _ _ | exact .litn _ _ _ | exact .lit _ _ | exact .asl _ _ _ _ _ rfl rfl | exact .asln _ _ _ _ _ _ _ rfl rfl | exact .emp _ _ _ _ | exact .ofL (.cons (.nil 1 none) (.cons (.nil 1 none) .nil)) rfl | exact .ofL (.cons (.asl _ _ _ _ _ rfl (by simp)) (.cons (.asl _ _ _ _ _ rfl (by simp)) .nil)) rfl) .nil)) ?_
    first | (rw [hno]; rfl) | (rw [hyes]; simp only [mdO, mn, mv]; rw [hx3, hx2, List.take_of_length_le (by omega)]; rfl)
  ·
    intro hc
    have hh : (becP a b a.head b.head []).2 = true := by simpa using hc
    refine T_skip ?_
    refine EThen_n ?_
    refine T_seq ?_
    refine T_region ?_
    refine TL_alloc 7 ?_
    refine TL_nil ?_
    refine EThen_n ?_
    refine T_seq ?_
    refine T_region ?_
    refine TL_x ?_
    refine TL_store ?_
    refine TL_nil ?_
    refine EThen_n ?_
    refine T_seq ?_
    refine T_region ?_
    refine TL_x ?_
    refine TL_freezeMapT 6 1000000 rfl rfl ?_
    refine TL_rec 26 2 2 3 7 (la := [dexps a.exps, di a.head.kind, ds a.head.name, dints a.head.args, dlits a.body]) (lb := [dexps b.exps, di b.head.kind, ds b.head.name, dints b.head.args, dlits b.body]) (pk a b 0) rfl rfl (by decide) rfl rfl rfl (by decide) (by decide) (by decide) (by repeat (first | exact .nil | (apply RdL.cons; first | exact .d _))) (by repeat (first | exact .nil | (apply RdL.cons; first | exact .d _))) (fun w F v pa pb pc hw h1 h2 h3 h4 => fnok_carries1 a b hpa hpb hwa hwb _ 0 rfl (Nat.zero_le _) w F v pa pb pc hw h1 h2 h3 h4) ?_
    refine TL_o rfl rfl rfl (f_move rfl (by first | exact .d _ | exact .box _ _ | exact .asl _ _ | exact .nil | exact .lit _ _ | exact .agg _ | exact .clo _ _ | exact .fnv _ | exact .tup _ | exact .el _ _ _ | exact .mp _ | exact .junk)) ?_
    refine TL_o rfl rfl rfl (c_callv rfl rfl (show pk a b 0 [di 0, (becP a b a.head b.head []).1.md] [mpO (way a b (a.body.drop 0) (becP a b a.head b.head []).1), db (way a b (a.body.drop 0) (becP a b a.head b.head []).1).isSome] from ⟨_, rfl, rfl⟩)) ?_
    iterate 5 refine TL_x ?_
    refine TL_nil ?_
    refine EThen_n ?_
    refine T_seq ?_
    refine T_seq ?_
    refine T_region ?_
    iterate 2 refine TL_x ?_
    refine TL_nil ?_
    refine EThen_n ?_
    refine T_cond rfl ?_ ?_
    ·
      intro hc
      have hno := carriesM_nw hpa hpb hh (by simpa using hc)
      refine T_seq ?_
      refine T_region ?_
      refine TL_x ?_
      refine TL_store ?_
      refine TL_x ?_
      refine TL_nil ?_
      refine EThen_n ?_
      refine T_ret ?_
      refine EThen_ret ?_
      refine RetG_ret (.cons (.row rfl rfl Ty.r50 rfl (by first | exact .d _ | exact .box _ _ | exact .asl _ _ | exact .nil | exact .lit _ _ | exact .agg _ | exact .clo _ _ | exact .fnv _ | exact .tup _ | exact .el _ _ _ | exact .mp _ | exact .junk)) (.cons (.tmp _) .nil)) (.cons (by first | exact .d _ | exact .nil _ _ | exact .litn _ _ _ | exact .lit _ _ | exact .asl _ _ _ _ _ rfl rfl | exact .asln _ _ _ _ _ _ _ rfl rfl | exact .emp _ _ _ _ | exact .ofL (.cons (.nil 1 none) (.cons (.nil 1 none) .nil)) rfl | exact .ofL (.cons (.asl _ _ _ _ _ rfl (by simp)) (.cons (.asl _ _ _ _ _ rfl (by simp)) .nil)) rfl) (.cons (by first | exact .d _ | exact .nil _ _ | exact .litn _ _ _ | exact .lit _ _ | exact .asl _ _ _ _ _ rfl rfl | exact .asln _ _ _ _ _ _ _ rfl rfl | exact .emp _ _ _ _ | exact .ofL (.cons (.nil 1 none) (.cons (.nil 1 none) .nil)) rfl | exact .ofL (.cons (.asl _ _ _ _ _ rfl (by simp)) (.cons (.asl _ _ _ _ _ rfl (by simp)) .nil)) rfl) .nil)) ?_
      first | (rw [hno]; rfl) | (rw [hyes]; simp only [mdO, mn, mv]; rw [hx3, hx2, List.take_of_length_le (by omega)]; rfl)
    ·
      intro hc
      obtain ⟨E2, hE2⟩ := Option.isSome_iff_exists.1 (show (way a b (a.body.drop 0) (becP a b a.head b.head []).1).isSome = true by simpa using hc)
      rw [hE2]
      obtain ⟨hyes, hget⟩ := carriesM_yes hpa hpb hh hE2
      have hvl : a.vars.length ≤ 4294967296 := Nat.le_trans (varsOf_len a.exps) hsa.1
      refine T_skip ?_
      refine EThen_n ?_
      refine T_seq ?_
      refine T_region ?_
      refine TL_x ?_
      refine TL_alloc 10 ?_
      refine TL_store ?_
      refine TL_nil ?_
      refine EThen_n ?_
      refine T_seq ?_
      refine T_seq ?_
      refine T_thawBox 10 0 500 1 9 (by decide) rfl rfl rfl (by repeat (first | exact noRefE0 | exact noRefE_envOf | exact noRefE_envA rfl | refine noRefE_upd rfl ?_)) (by repeat (first | exact noRefH0 | refine noRefH_upd rfl ?_)) ?_
      refine T_thawBox 10 1 501 1 9 (by decide) rfl rfl rfl (by repeat (first | exact noRefE0 | exact noRefE_envOf | exact noRefE_envA rfl | refine noRefE_upd rfl ?_)) (by repeat (first | exact noRefH0 | refine noRefH_upd rfl ?_)) ?_
      refine T_region ?_
      refine TL_x ?_
      refine TL_o rfl rfl rfl (c_call rfl rfl Fk.ok85 (fun w F => PC_allVars a hsa.1 w F)) ?_
      iterate 2 refine TL_x ?_
      refine TL_nil ?_
      refine EThen_n ?_
      refine T_block ?_
      refine T_loopF (α := Nat × List Bs × List Bs) (fun x => ⟨(upd (upd (upd (upd (upd (upd env0 4 (.box 4 0)) 8 (.d E2.md)) 10 (.box 10 0)) 36 (.d (dstrs a.vars))) 37 (.d (di ((a.vars.map ds).length : Int)))) 38 (.d (di (x.1 : Int)))), (upd (upd (upd (upd H0 4 (.box [.nil, .nil])) 10 (.box [.asl 500 x.2.1.length, .asl 501 x.2.2.length])) 500 (.arr true 1 9 (x.2.1.map ds))) 501 (.arr true 1 9 (x.2.2.map ds)))⟩) (fun x => x.1 ≤ a.vars.length ∧ x.2.1 = a.vars.take x.1 ∧ x.2.2 = x.2.1.map (fun n => ((E2.get n).map (·.text)).getD [])) (fun x => a.vars.length - x.1) (0, [], []) (fgt_intro (fgt_upd rfl (fgt_upd rfl (fgt_upd rfl (fgt_upd rfl (fgt_upd rfl (fgt_upd rfl fgt_env0)))))) (fgt_updH rfl (fgt_updH rfl (fgt_updH rfl (fgt_updH rfl fgt_H0))))) ?_ ?_
      · exact ⟨Nat.zero_le _, rfl, rfl⟩
      rintro x ⟨hx1, hx2, hx3⟩
      refine T_seq ?_
      refine T_region ?_
      refine TL_x ?_
      refine TL_nil ?_
      refine EThen_n ?_
      refine T_seq ?_
      refine T_cond rfl ?_ ?_
      ·
        intro hc
        have hlt : x.1 < a.vars.length := by simpa using hc
        obtain ⟨n, hn⟩ := get_some hlt
        obtain ⟨v, hv⟩ := hget n (List.mem_of_getElem? hn)
        have hxl : x.2.1.length ≤ x.1 := by rw [hx2]; simp; omega
        have hxv : x.2.2.length = x.2.1.length := by rw [hx3]; simp
        refine T_skip ?_
        refine EThen_n ?_
        refine T_seq ?_
        refine T_block ?_
        refine T_seq ?_
        refine T_region ?_
        first | refine TL_o rfl rfl rfl (g_index_sl rfl rfl rfl Ty.s48 (by omega) (get_map hn)) ?_ | refine TL_o rfl rfl rfl (g_index_lit rfl rfl rfl Ty.s48 (by omega) (get_map hn)) ?_ | refine TL_o rfl rfl rfl (g_index_asl rfl rfl rfl rfl rfl Ty.s48 (by omega) (get_map hn)) ?_
        iterate 2 refine TL_x ?_
        refine TL_nil ?_
        refine EThen_n ?_
        refine T_seq ?_
        refine T_region ?_
        iterate 4 refine TL_x ?_
        refine TL_s rfl (s_append_to (l' := (x.2.1 ++ [n]).map ds) (m := (x.2.1 ++ [n]).length) rfl rfl rfl rfl rfl (by simp) (by first | exact .asl _ _ _ _ _ rfl rfl | exact .lit _ | exact .d _ _ | exact .nil) Ty.e48 (by simp) (by simp) (by simp; omega) (by unfold maxLen; simp; omega)) ?_
        refine TL_x ?_
        refine TL_store ?_
        refine TL_nil ?_
        refine EThen_n ?_
        refine T_region ?_
        iterate 4 refine TL_x ?_
        refine TL_o rfl rfl rfl (g_lookup_d (ks := E2.ns) (zd := e0.d) rfl rfl rfl Ty.k126 Ty.kz126 ⟨_, Ty.kv126, e0_vr⟩ (lookR_env1 hv)) ?_
        refine TL_o rfl rfl rfl (g_fieldv (l := [di v.kind, ds v.text, dints v.kids]) rfl rfl Ty.fc82_1 rfl) ?_
        refine TL_x ?_
        refine TL_s rfl (s_append_to (l' := (x.2.2 ++ [v.text]).map ds) (m := (x.2.2 ++ [v.text]).length) rfl rfl rfl rfl rfl (by simp) (by first | exact .asl _ _ _ _ _ rfl rfl | exact .lit _ | exact .d _ _ | exact .nil) Ty.e48 (by simp) (by simp) (by simp; omega) (by unfold maxLen; simp; omega)) ?_
        refine TL_x ?_
        refine TL_store ?_
        refine TL_nil ?_
        refine EBlock_n ?_
        refine EThen_n ?_
        refine T_region ?_
        iterate 2 refine TL_x ?_
        refine TL_nil ?_
        refine EThen_n ⟨(x.1 + 1, x.2.1 ++ [n], x.2.2 ++ [v.text]), (fgt_intro (fgt_upd rfl (fgt_upd rfl (fgt_upd rfl (fgt_upd rfl (fgt_upd rfl (fgt_upd rfl fgt_env0)))))) (fgt_updH rfl (fgt_updH rfl (fgt_updH rfl (fgt_updH rfl fgt_H0))))), ?_, ?_⟩
        · exact ⟨hlt, by dsimp only; rw [hx2, take_snoc hn], by dsimp only; rw [List.map_append, hx3]; simp [hv]⟩
        · dsimp only; omega
      ·
        intro hc
        have hlast : ¬ x.1 < a.vars.length := by simpa using hc
        refine T_exit ?_
        refine EThen_exit ?_
        refine EThen_exit ?_
        refine EBlock_same ?_
        refine EThen_n ?_
        refine T_seq ?_
        refine T_freeze 500 rfl ?_
        refine T_freeze 501 rfl ?_
        refine T_region ?_
        refine TL_x ?_
        refine TL_store ?_
        refine TL_x ?_
        refine TL_nil ?_
        refine EThen_n ?_
        refine T_ret ?_
        refine RetG_ret (.cons (.row rfl rfl Ty.r50 rfl (by first | exact .d _ | exact .box _ _ | exact .asl _ _ | exact .nil | exact .lit _ _ | exact .agg _ | exact .clo _ _ | exact .fnv _ | exact .tup _ | exact .el _ _ _ | exact .mp _ | exact .junk)) (.cons (.tmp _) .nil)) (.cons (by first | exact .d _ | exact .nil _ _ | exact .litn _ _ _ | exact .lit _ _ | exact .asl _ _ _ _ _ rfl rfl | exact .asln _ _ _ _ _ _ _ rfl rfl | exact .emp _ _ _ _ | exact .ofL (.cons (.nil 1 none) (.cons (.nil 1 none) .nil)) rfl | exact .ofL (.cons (.asl _ _ _ _ _ rfl (by simp)) (.cons (.asl _ _ _ _ _ rfl (by simp)) .nil)) rfl) (.cons (by first | exact .d _ | exact .nil _ _ | exact .litn _ _ _ | exact .lit _ _ | exact .asl _ _ _ _ _ rfl rfl | exact .asln _ _ _ _ _ _ _ rfl rfl | exact .emp _ _ _ _ | exact .ofL (.cons (.nil 1 none) (.cons (.nil 1 none) .nil)) rfl | exact .ofL (.cons (.asl _ _ _ _ _ rfl (by simp)) (.cons (.asl _ _ _ _ _ rfl (by simp)) .nil)) rfl) .nil)) ?_
        first | (rw [hno]; rfl) | (rw [hyes]; simp only [mdO, mn, mv]; rw [hx3, hx2, List.take_of_length_le (by omega)]; rfl)

set_option maxHeartbeats 4000000 in
theorem PC_iContains (a b : Rule) (hwa : a.wt ≤ 4294967296) (hwb : b.wt ≤ 4294967296) (w : World) (F : Fz)  : PC Try.prog 21 w F [.d (a.d), .d (b.d)] (· = [db (Rule.carries a b).isSome]) := by
  refine PC_of_T' (rs := [4]) (n := 22) Try.func21 rfl rfl rfl rfl ?_
  refine T_seq ?_
  refine T_region ?_
  refine TL_box 2 ?_
  refine TL_box 3 ?_
  refine TL_x ?_
  refine TL_nil ?_
  refine EThen_n ?_
  refine T_seq ?_
  refine T_seq ?_
  refine T_region ?_
  refine TL_x ?_
  refine TL_o rfl rfl rfl (c_call rfl rfl Fk.ok48 (fun w F => PC_isPlain a hwa w F)) ?_
  iterate 2 refine TL_x ?_
  refine TL_split 10 rfl ?_ ?_
  ·
    intro hg10
    refine TL_skip rfl rfl (lt_of_blt rfl) rfl (lt_of_blt rfl) rfl rfl ?_
    refine TL_skip rfl rfl (lt_of_blt rfl) rfl (lt_of_blt rfl) rfl rfl ?_
    refine TL_skip rfl rfl (lt_of_blt rfl) rfl (lt_of_blt rfl) rfl rfl ?_
    refine TL_x ?_
    refine TL_nil ?_
    refine EThen_n ?_
    refine T_cond_t rfl ?_
    have hno := carries_np (a := a) (b := b) (.inl (by simpa using hg10))
    refine T_seq ?_
    refine T_region ?_
    refine TL_x ?_
    refine TL_nil ?_
    refine EThen_n ?_
    refine T_ret ?_
    refine EThen_ret ?_
    refine Ret_ret ?_
    first | (rw [hno]; rfl) | rfl
  ·
    intro hg10
    refine TL_want rfl rfl (lt_of_blt rfl) rfl ?_
    first | refine TL_o rfl rfl rfl (f_load_box_row rfl rfl Ty.r43 rfl rfl (by first | exact .d _ | exact .box _ _ | exact .asl _ _ | exact .nil | exact .lit _ _ | exact .agg _ | exact .clo _ _ | exact .fnv _ | exact .tup _ | exact .el _ _ _ | exact .mp _ | exact .junk)) ?_ | refine TL_o rfl rfl rfl (f_load_pt_row rfl rfl Ty.r43 rfl (by repeat (first | exact .nil | apply SLD.cons))) ?_
    refine TL_want rfl rfl (lt_of_blt rfl) rfl ?_
    refine TL_o rfl rfl rfl (c_call rfl rfl Fk.ok48 (fun w F => PC_isPlain b hwb w F)) ?_
    refine TL_want rfl rfl (lt_of_blt rfl) rfl ?_
    refine TL_o rfl rfl rfl (g_not rfl rfl) ?_
    refine TL_x ?_
    refine TL_nil ?_
    refine EThen_n ?_
    refine T_cond rfl ?_ ?_
    ·
      intro hc
      have hno := carries_np (a := a) (b := b) (.inr (by simpa using hc))
      refine T_seq ?_
      refine T_region ?_
      refine TL_x ?_
      refine TL_nil ?_
      refine EThen_n ?_
      refine T_ret ?_
      refine EThen_ret ?_
      refine Ret_ret ?_
      first | (rw [hno]; rfl) | rfl
    ·
      intro hc
      refine T_skip ?_
      refine EThen_n ?_
      refine T_seq ?_
      refine T_region ?_
      iterate 2 refine TL_x ?_
      refine TL_o rfl rfl rfl (c_call rfl rfl Fk.ok52 (fun w F => PC_iCarries a b (by simpa using hg10) (by simpa using hc) hwa hwb w F)) ?_
      iterate 3 refine TL_x ?_
      refine TL_alloc 5 ?_
      refine TL_store ?_
      refine TL_x ?_
      refine TL_nil ?_
      refine EThen_n ?_
      refine T_seq ?_
      refine T_region ?_
      iterate 2 refine TL_x ?_
      refine TL_nil ?_
      refine EThen_n ?_
      refine T_ret ?_
      refine Ret_ret ?_
      first | (rw [hno]; rfl) | rfl

set_option maxHeartbeats 4000000 in
theorem PC_FnExactContains (a b : Rule) (hfa : a.fit) (hfb : b.fit) (w : World) (F : Fz)  : PC Try.prog 5 w F [.d (a.d), .d (b.d)] (· = [db true]) := by
  refine PC_of_T' (rs := [4]) (n := 45) Try.func5 rfl rfl rfl rfl ?_
  refine T_seq ?_
  refine T_region ?_
  refine TL_box 2 ?_
  refine TL_box 3 ?_
  refine TL_x ?_
  refine TL_nil ?_
  refine EThen_n ?_
  refine T_seq ?_
  refine T_region ?_
  refine TL_x ?_
  refine TL_nil ?_
  refine EThen_n ?_
  refine T_seq ?_
  refine T_region ?_
  iterate 2 refine TL_x ?_
  refine TL_o rfl rfl rfl (c_call rfl rfl Fk.ok15 (fun w F => PC_szRule a 1048576 (by omega) (by omega) hfa w F)) ?_
  refine TL_x ?_
  refine TL_nil ?_
  refine EThen_n ?_
  refine T_seq ?_
  refine T_seq ?_
  refine T_region ?_
  iterate 2 refine TL_x ?_
  refine TL_nil ?_
  refine EThen_n ?_
  refine T_cond rfl ?_ ?_
  ·
    intro hc
    refine T_seq ?_
    refine T_region ?_
    refine TL_x ?_
    refine TL_nil ?_
    refine EThen_n ?_
    refine T_ret ?_
    refine EThen_ret ?_
    refine Ret_ret ?_
    rfl
  ·
    intro hc
    have hwa : a.wt ≤ 4294967296 := by
      have h1 := dec_nn hc
      have h2 := szR_pos h1
      have h3 := Rule.wt_sz a
      omega
    have hla := dec_nn hc
    have hlb := Int.le_trans (szR_le (left := 1048576) (n := a.sz) (by omega)) (show (1048576 : Int) ≤ 140737488355328 by omega)
    refine T_skip ?_
    refine EThen_n ?_
    refine T_seq ?_
    refine T_region ?_
    iterate 2 refine TL_x ?_
    refine TL_o rfl rfl rfl (c_call rfl rfl Fk.ok15 (fun w F => PC_szRule b _ hla hlb hfb w F)) ?_
    refine TL_x ?_
    refine TL_nil ?_
    refine EThen_n ?_
    refine T_seq ?_
    refine T_seq ?_
    refine T_region ?_
    iterate 2 refine TL_x ?_
    refine TL_nil ?_
    refine EThen_n ?_
    refine T_cond rfl ?_ ?_
    ·
      intro hc
      refine T_seq ?_
      refine T_region ?_
      refine TL_x ?_
      refine TL_nil ?_
      refine EThen_n ?_
      refine T_ret ?_
      refine EThen_ret ?_
      refine Ret_ret ?_
      rfl
    ·
      intro hc
      have hwb : b.wt ≤ 4294967296 := by
        have h1 := dec_nn hc
        have h2 := szR_pos h1
        have h3 := Rule.wt_sz b
        have h4 := szR_le (left := 1048576) (n := a.sz) (by omega)
        omega
      refine T_skip ?_
      refine EThen_n ?_
      refine T_seq ?_
      refine T_draw 6 Ty.mixed rfl ?_
      refine DGo_x ?_
      refine DGo_one rfl rfl (.go _ rfl (c_call rfl rfl Fk.ok17 (fun w F => PC_toRule a hwa w F))) ?_
      refine DGo_x ?_
      refine DGo_one rfl rfl (.go _ rfl (c_call rfl rfl Fk.ok17 (fun w F => PC_toRule b hwb w F))) ?_
      refine DGo_one rfl rfl (.go _ rfl (c_call rfl rfl Fk.ok20 (fun w F => PC_sContains a b hwa hwb w F))) ?_
      refine DGo_x ?_
      refine DGo_nil ?_
      refine TL_nil ?_
      refine EThen_n ?_
      refine T_seq ?_
      refine T_region ?_
      refine TL_x ?_
      refine TL_o rfl rfl rfl (c_call rfl rfl Fk.ok17 (fun w F => PC_toRule a hwa w F)) ?_
      refine TL_alloc 7 ?_
      refine TL_store ?_
      refine TL_nil ?_
      refine EThen_n ?_
      refine T_seq ?_
      refine T_region ?_
      refine TL_x ?_
      refine TL_o rfl rfl rfl (c_call rfl rfl Fk.ok17 (fun w F => PC_toRule b hwb w F)) ?_
      refine TL_alloc 8 ?_
      refine TL_store ?_
      refine TL_nil ?_
      refine EThen_n ?_
      refine T_seq ?_
      refine T_region ?_
      iterate 2 refine TL_x ?_
      refine TL_o rfl rfl rfl (c_call rfl rfl Fk.ok21 (fun w F => PC_iContains a b hwa hwb w F)) ?_
      refine TL_x ?_
      refine TL_nil ?_
      refine EThen_n ?_
      refine T_seq ?_
      refine T_seq ?_
      refine T_region ?_
      iterate 3 refine TL_x ?_
      refine TL_nil ?_
      refine EThen_n ?_
      refine T_cond rfl ?_ ?_
      ·
        intro hc
        simp at hc
      ·
        intro hc
        refine T_skip ?_
        refine EThen_n ?_
        refine T_seq ?_
        refine T_seq ?_
        refine T_draw 5 Ty.mixed rfl ?_
        iterate 2 refine DGo_x ?_
        refine DGo_one rfl rfl (.go _ rfl (c_call rfl rfl Fk.ok17 (fun w F => PC_toRule a hwa w F))) ?_
        refine DGo_one rfl rfl (.go _ rfl (c_call rfl rfl Fk.ok19 (fun w F => PC_eqRule a hwa w F))) ?_
        refine DGo_x ?_
        refine DGo_nil ?_
        refine TL_nil ?_
        refine EThen_n ?_
        refine T_cond rfl ?_ ?_
        ·
          intro hc
          simp at hc
        ·
          intro hc
          refine T_skip ?_
          refine EThen_n ?_
          refine T_seq ?_
          refine T_seq ?_
          refine T_draw 5 Ty.mixed rfl ?_
          iterate 2 refine DGo_x ?_
          refine DGo_one rfl rfl (.go _ rfl (c_call rfl rfl Fk.ok17 (fun w F => PC_toRule b hwb w F))) ?_
          refine DGo_one rfl rfl (.go _ rfl (c_call rfl rfl Fk.ok19 (fun w F => PC_eqRule b hwb w F))) ?_
          refine DGo_x ?_
          refine DGo_nil ?_
          refine TL_nil ?_
          refine EThen_n ?_
          refine T_cond rfl ?_ ?_
          ·
            intro hc
            simp at hc
          ·
            intro hc
            refine T_skip ?_
            refine EThen_n ?_
            refine T_seq ?_
            refine T_region ?_
            refine TL_x ?_
            refine TL_nil ?_
            refine EThen_n ?_
            refine T_ret ?_
            refine Ret_ret ?_
            rfl

end Go.Proofs
