/- Contracts of functions of the program, each under the conditions that its statement names. -/
import Derived.Test.YtkfcpnaiimcjeaaQFI
import Derived.Test.YtkfcpnaiimcjeaaQCarry
import Derived.Test.YtkfcpnaiimcjeaaQStr
set_option linter.unusedVariables false
set_option linter.unusedSimpArgs false
namespace Go.Proofs
open Go.Q
attribute [local irreducible] Go.Q.GStep Go.Q.SStep Go.Q.T Go.Q.TL Go.Q.PC Go.Q.DGo
set_option maxHeartbeats 4000000 in
theorem PC_get (E : Env) (ns vs : List Bs) (n : Bs) (r : Option Q.Exp) (hr : E.get n = r) (hns : ns = E.ns) (hvs : vs = E.vs) (hl : ns.length ≤ 4294967296) (w : World) (F : Fz) : PC Try.prog 55 w F [.d (.agg [dstrs ns, dstrs vs]), .d (ds n)] (· = [ds (gv r), db r.isSome]) := by
  have hll : E.length = ns.length := by rw [hns]; simp [Env.ns]
  refine PC_of_T' (rs := [4, 5]) (n := 26) Try.func55 rfl rfl rfl rfl ?_
  refine T_seq ?_
  refine T_region ?_
  refine TL_box 2 ?_
  iterate 2 refine TL_x ?_
  refine TL_nil ?_
  refine EThen_n ?_
  refine T_seq ?_
  refine T_seq ?_
  refine T_region ?_
  refine TL_x ?_
  refine TL_nil ?_
  refine EThen_n ?_
  refine T_block ?_
  refine T_loopF (α := Nat) (fun k => ⟨(upd (upd (upd env0 1 (.d (ds n))) 2 (.box 2 0)) 6 (.d (di (k : Int)))), (upd H0 2 (.box [.d (dstrs ns), .d (dstrs vs)]))⟩) (fun k => k ≤ ns.length ∧ (∀ (j : Nat) (q : Bs × Q.Exp), j < k → E[j]? = some q → q.1 ≠ n)) (fun k => ns.length - k) 0 (fgt_intro (fgt_upd rfl (fgt_upd rfl (fgt_upd rfl fgt_env0))) (fgt_updH rfl fgt_H0)) ?_ ?_
  · exact ⟨Nat.zero_le _, fun j q h => by omega⟩
  rintro k ⟨hk, hn⟩
  refine T_seq ?_
  refine T_seq ?_
  refine T_region ?_
  iterate 5 refine TL_x ?_
  refine TL_nil ?_
  refine EThen_n ?_
  refine T_cond rfl ?_ ?_
  ·
    intro hc
    have hlt : k < ns.length := by simpa using hc
    obtain ⟨p, hp⟩ := get_some (l := E) (i := k) (by omega)
    have hx1 : ns[k]? = some p.1 := by rw [hns, Env.ns, List.getElem?_map, hp]; rfl
    have hx2 : vs[k]? = some (vt p.2) := by rw [hvs, Env.vs, List.getElem?_map, hp]; rfl
    refine T_skip ?_
    refine EThen_n ?_
    refine T_seq ?_
    refine T_block ?_
    refine T_seq ?_
    refine T_region ?_
    iterate 3 refine TL_x ?_
    first | refine TL_o rfl rfl rfl (g_index_sl rfl rfl rfl Ty.s48 (by omega) (get_map hx1)) ?_ | refine TL_o rfl rfl rfl (g_index_lit rfl rfl rfl Ty.s48 (by omega) (get_map hx1)) ?_ | refine TL_o rfl rfl rfl (g_index_asl rfl rfl rfl rfl rfl Ty.s48 (by omega) (get_map hx1)) ?_
    iterate 3 refine TL_x ?_
    refine TL_nil ?_
    refine EThen_n ?_
    refine T_cond rfl ?_ ?_
    ·
      intro hc
      have heq : p.1 = n := by simpa using hc
      refine T_seq ?_
      refine T_region ?_
      iterate 3 refine TL_x ?_
      first | refine TL_o rfl rfl rfl (g_index_sl rfl rfl rfl Ty.s48 (by omega) (get_map hx2)) ?_ | refine TL_o rfl rfl rfl (g_index_lit rfl rfl rfl Ty.s48 (by omega) (get_map hx2)) ?_ | refine TL_o rfl rfl rfl (g_index_asl rfl rfl rfl rfl rfl Ty.s48 (by omega) (get_map hx2)) ?_
      iterate 3 refine TL_x ?_
      refine TL_nil ?_
      refine EThen_n ?_
      refine T_ret ?_
      refine EBlock_ret ?_
      refine EThen_ret ?_
      refine EThen_ret ?_
      refine EBlock_ret ?_
      refine EThen_ret ?_
      refine Ret_ret ?_
      rw [← hr, env_at hn hp heq]; rfl
    ·
      intro hc
      have hne : p.1 ≠ n := by simpa using hc
      refine T_skip ?_
      refine EBlock_n ?_
      refine EThen_n ?_
      refine T_region ?_
      iterate 3 refine TL_x ?_
      refine TL_nil ?_
      refine EThen_n ⟨k + 1, (fgt_intro (fgt_upd rfl (fgt_upd rfl (fgt_upd rfl fgt_env0))) (fgt_updH rfl fgt_H0)), ?_, ?_⟩
      · refine ⟨hlt, fun j q hj hq => ?_⟩
        rcases Nat.lt_succ_iff_lt_or_eq.1 hj with h | h
        · exact hn j q h hq
        · subst h; rw [hp] at hq; cases hq; exact hne
      · omega
  ·
    intro hc
    have hlast : ¬ k < E.length := by rw [hll]; simpa using hc
    refine T_exit ?_
    refine EThen_exit ?_
    refine EThen_exit ?_
    refine EBlock_same ?_
    refine EThen_n ?_
    refine T_seq ?_
    refine T_region ?_
    iterate 2 refine TL_x ?_
    refine TL_nil ?_
    refine EThen_n ?_
    refine T_ret ?_
    refine Ret_ret ?_
    rw [← hr, env_out hn hlast]; rfl

set_option maxHeartbeats 4000000 in
theorem PC_with (ns vs : List Bs) (n v : Bs) (h1 : ns.length ≤ 4294967296) (h2 : vs.length ≤ 4294967296) (w : World) (F : Fz) : PC Try.prog 86 w F [.d (.agg [dstrs ns, dstrs vs]), .d (ds n), .d (ds v)] (· = [.agg [dstrs (ns ++ [n]), dstrs (vs ++ [v])]]) := by
  refine PC_of_G (rs := [.cell 6 91]) (n := 22) Try.func86 rfl rfl rfl rfl ?_
  refine T_seq ?_
  refine T_region ?_
  refine TL_box 3 ?_
  refine TL_alloc 6 ?_
  refine TL_nil ?_
  refine EThen_n ?_
  refine T_seq ?_
  refine T_drawE 15 [7, 14] [7, 14] Ty.mixed rfl (by intro A hA; simp at hA; rcases hA with rfl | rfl <;> exact ⟨(by repeat (first | exact noRefE0 | exact noRefE_envOf | exact noRefE_envA rfl | refine noRefE_upd rfl ?_)), (by repeat (first | exact noRefH0 | refine noRefH_upd rfl ?_))⟩) ?_
  refine DE_eff true (e_new0 7 rfl rfl rfl Ty.e48 rfl) ?_
  iterate 2 refine DE_x ?_
  refine DE_eff false (e_append (l2 := ns.map ds) (l' := ns.map ds) (m := ns.length) rfl rfl rfl rfl rfl rfl (fun _ => .d _ _) Ty.e48 rfl (by simp) (by first | omega | (simp; omega)) (by unfold maxLen; first | omega | (simp; omega))) ?_
  iterate 2 refine DE_x ?_
  refine DE_eff false (e_append (l2 := [ds n]) (l' := (ns ++ [n]).map ds) (m := (ns ++ [n]).length) rfl rfl rfl rfl rfl (by simp) (fun _ => .lit _) Ty.e48 (by simp) (by simp) (by first | omega | (simp; omega)) (by unfold maxLen; first | omega | (simp; omega))) ?_
  refine DE_eff true (e_new0 14 rfl rfl rfl Ty.e48 rfl) ?_
  iterate 2 refine DE_x ?_
  refine DE_eff false (e_append (l2 := vs.map ds) (l' := vs.map ds) (m := vs.length) rfl rfl rfl rfl rfl rfl (fun _ => .d _ _) Ty.e48 rfl (by simp) (by first | omega | (simp; omega)) (by unfold maxLen; first | omega | (simp; omega))) ?_
  iterate 2 refine DE_x ?_
  refine DE_eff false (e_append (l2 := [ds v]) (l' := (vs ++ [v]).map ds) (m := (vs ++ [v]).length) rfl rfl rfl rfl rfl (by simp) (fun _ => .lit _) Ty.e48 (by simp) (by simp) (by first | omega | (simp; omega)) (by unfold maxLen; first | omega | (simp; omega))) ?_
  refine DE_x ?_
  refine DE_nil 15 [0, 0, 2, 7, 0, 16, 63, 0, 0, 256, 1023, 0, 2048, 8191, 16383, 32767] ?_
  refine TL_freeze 7 rfl ?_
  refine TL_freeze 14 rfl ?_
  refine TL_store ?_
  refine TL_nil ?_
  refine EThen_n ?_
  refine T_ret ?_
  refine RetG_ret (.cons (.row rfl rfl Ty.r91 rfl (by first | exact .d _ | exact .box _ _ | exact .asl _ _ | exact .nil | exact .lit _ _ | exact .agg _ | exact .clo _ _ | exact .fnv _ | exact .tup _ | exact .el _ _ _ | exact .mp _ | exact .junk)) .nil) (.cons (by first | exact .d _ | exact .nil _ _ | exact .litn _ _ _ | exact .lit _ _ | exact .asl _ _ _ _ _ rfl rfl | exact .asln _ _ _ _ _ _ _ rfl rfl | exact .emp _ _ _ _ | exact .ofL (.cons (.asl _ _ _ _ _ rfl (by simp)) (.cons (.asl _ _ _ _ _ rfl (by simp)) .nil)) rfl) .nil) ?_
  rfl

set_option maxHeartbeats 4000000 in
theorem PC_l16Put (a b : Rule) (l o : Q.Lit) (E : Env) (ns vs : List Bs) (hns : ns = E.ns) (hvs : vs = E.vs) (ha : LitIn a l) (hb : LitIn b o) (haT : ∀ e ∈ a.exps, e.text.length ≤ 4294967296) (hbT : ∀ e ∈ b.exps, e.text.length ≤ 4294967296) (hE : E.fine) (hal : l.args.length ≤ 4294967296) (hol : o.args.length ≤ 4294967296) (hel : E.length + l.args.length ≤ 4294967296) (w : World) (F : Fz) : PC Try.prog 53 w F [.d (a.d), .d (l.d), .d (b.d), .d (o.d), .d (.agg [dstrs ns, dstrs vs])] (· = [(becP a b l o E).1.ds, db (becP a b l o E).2]) := by
  refine PC_of_G (rs := [.cell 10 91, .tmp 11]) (n := 86) Try.func53 rfl rfl rfl rfl ?_
  refine T_seq ?_
  refine T_region ?_
  refine TL_box 5 ?_
  refine TL_box 6 ?_
  refine TL_box 7 ?_
  refine TL_box 8 ?_
  refine TL_box 9 ?_
  refine TL_alloc 10 ?_
  refine TL_x ?_
  refine TL_nil ?_
  refine EThen_n ?_
  refine T_seq ?_
  refine T_seq ?_
  refine T_region ?_
  iterate 6 refine TL_x ?_
  refine TL_split 22 rfl ?_ ?_
  ·
    intro hg22
    have hno := bec_no (a := a) (b := b) (E := E) (l := l) (o := o) (by intro h; simp [h.1] at hg22)
    refine TL_skip rfl rfl (lt_of_blt rfl) rfl (lt_of_blt rfl) rfl rfl ?_
    refine TL_skip rfl rfl (lt_of_blt rfl) rfl (lt_of_blt rfl) rfl rfl ?_
    refine TL_skip rfl rfl (lt_of_blt rfl) rfl (lt_of_blt rfl) rfl rfl ?_
    refine TL_skip rfl rfl (lt_of_blt rfl) rfl (lt_of_blt rfl) rfl rfl ?_
    refine TL_skip rfl rfl (lt_of_blt rfl) rfl (lt_of_blt rfl) rfl rfl ?_
    refine TL_skip rfl rfl (lt_of_blt rfl) rfl (lt_of_blt rfl) rfl rfl ?_
    refine TL_skip rfl rfl (lt_of_blt rfl) rfl (lt_of_blt rfl) rfl rfl ?_
    refine TL_x ?_
    refine TL_nil ?_
    refine EThen_n ?_
    refine T_cond_t rfl ?_
    refine T_seq ?_
    refine T_region ?_
    refine TL_x ?_
    refine TL_store ?_
    refine TL_x ?_
    refine TL_nil ?_
    refine EThen_n ?_
    refine T_ret ?_
    refine EThen_ret ?_
    refine RG_ret ?_
    first | (rw [hno]; simp [Env.ds, hz4, hz5]; done) | (rw [hno]; simp [Env.ds, hns, hvs]; done) | (rw [bec_end hyes hlast hz2]; simp [Env.ds, hz4, hz5]; done)
  ·
    intro hg22
    refine TL_want rfl rfl (lt_of_blt rfl) rfl ?_
    first | refine TL_o rfl rfl rfl (g_field_box rfl rfl Ty.f40_2 rfl) ?_ | refine TL_o rfl rfl rfl (g_field_pt rfl rfl Ty.f40_2 rfl) ?_ | refine TL_o rfl rfl rfl (g_field_el rfl rfl rfl rfl Ty.f40_2 rfl) ?_
    refine TL_want rfl rfl (lt_of_blt rfl) rfl ?_
    first | refine TL_o rfl rfl rfl (g_load_box rfl rfl Ty.c31 rfl rfl) ?_ | refine TL_o rfl rfl rfl (g_load_pt rfl rfl Ty.c31 rfl) ?_ | refine TL_o rfl rfl rfl (g_load_el rfl rfl Ty.c31 rfl rfl rfl) ?_
    refine TL_want rfl rfl (lt_of_blt rfl) rfl ?_
    first | refine TL_o rfl rfl rfl (g_len_sl rfl rfl Ty.s31 rfl) ?_ | refine TL_o rfl rfl rfl (g_len_asl rfl rfl rfl rfl Ty.s31 rfl) ?_ | refine TL_o rfl rfl rfl (g_len_asl rfl rfl rfl (by simp) Ty.s31 rfl) ?_ | refine TL_o rfl rfl rfl (g_len_lit rfl rfl Ty.s31 rfl) ?_ | refine TL_o rfl rfl rfl (g_len_nil rfl rfl Ty.s31) ?_
    refine TL_want rfl rfl (lt_of_blt rfl) rfl ?_
    first | refine TL_o rfl rfl rfl (g_field_box rfl rfl Ty.f40_2 rfl) ?_ | refine TL_o rfl rfl rfl (g_field_pt rfl rfl Ty.f40_2 rfl) ?_ | refine TL_o rfl rfl rfl (g_field_el rfl rfl rfl rfl Ty.f40_2 rfl) ?_
    refine TL_want rfl rfl (lt_of_blt rfl) rfl ?_
    first | refine TL_o rfl rfl rfl (g_load_box rfl rfl Ty.c31 rfl rfl) ?_ | refine TL_o rfl rfl rfl (g_load_pt rfl rfl Ty.c31 rfl) ?_ | refine TL_o rfl rfl rfl (g_load_el rfl rfl Ty.c31 rfl rfl rfl) ?_
    refine TL_want rfl rfl (lt_of_blt rfl) rfl ?_
    first | refine TL_o rfl rfl rfl (g_len_sl rfl rfl Ty.s31 rfl) ?_ | refine TL_o rfl rfl rfl (g_len_asl rfl rfl rfl rfl Ty.s31 rfl) ?_ | refine TL_o rfl rfl rfl (g_len_asl rfl rfl rfl (by simp) Ty.s31 rfl) ?_ | refine TL_o rfl rfl rfl (g_len_lit rfl rfl Ty.s31 rfl) ?_ | refine TL_o rfl rfl rfl (g_len_nil rfl rfl Ty.s31) ?_
    refine TL_want rfl rfl (lt_of_blt rfl) rfl ?_
    refine TL_o rfl rfl rfl (g_icmp rfl rfl rfl rfl) ?_
    refine TL_x ?_
    refine TL_nil ?_
    refine EThen_n ?_
    refine T_cond rfl ?_ ?_
    ·
      intro hc
      have hno := bec_no (a := a) (b := b) (E := E) (l := l) (o := o) (by intro h; simp [h.2] at hc)
      refine T_seq ?_
      refine T_region ?_
      refine TL_x ?_
      refine TL_store ?_
      refine TL_x ?_
      refine TL_nil ?_
      refine EThen_n ?_
      refine T_ret ?_
      refine EThen_ret ?_
      refine RG_ret ?_
      first | (rw [hno]; simp [Env.ds, hz4, hz5]; done) | (rw [hno]; simp [Env.ds, hns, hvs]; done) | (rw [bec_end hyes hlast hz2]; simp [Env.ds, hz4, hz5]; done)
    ·
      intro hc
      have hyes : l.name = o.name ∧ l.args.length = o.args.length := ⟨by simpa using hg22, by simp at hc; omega⟩
      refine T_skip ?_
      refine EThen_n ?_
      refine T_seq ?_
      refine T_seq ?_
      refine T_region ?_
      refine TL_x ?_
      refine TL_nil ?_
      refine EThen_n ?_
      refine T_block ?_
      refine T_loopF (α := Nat × Env × List Bs × List Bs) (fun z => ⟨(upd (upd (upd (upd (upd (upd (upd env0 5 (.box 5 0)) 6 (.box 6 0)) 7 (.box 7 0)) 8 (.box 8 0)) 9 (.box 9 0)) 10 (.box 10 0)) 12 (.d (di (z.1 : Int)))), (upd (upd (upd (upd (upd (upd H0 5 (.box [.d (dexps a.exps), .d (di a.head.kind), .d (ds a.head.name), .d (dints a.head.args), .d (dlits a.body)])) 6 (.box [.d (di l.kind), .d (ds l.name), .d (dints l.args)])) 7 (.box [.d (dexps b.exps), .d (di b.head.kind), .d (ds b.head.name), .d (dints b.head.args), .d (dlits b.body)])) 8 (.box [.d (di o.kind), .d (ds o.name), .d (dints o.args)])) 9 (.box [.d (dstrs z.2.2.1), .d (dstrs z.2.2.2)])) 10 (.box [.nil, .nil]))⟩) (fun z => z.1 ≤ l.args.length ∧ putLP a b ((l.args.zip o.args).take z.1) E = (z.2.1, true) ∧ z.2.1.fine ∧ z.2.2.1 = z.2.1.ns ∧ z.2.2.2 = z.2.1.vs ∧ z.2.1.length ≤ E.length + z.1) (fun z => l.args.length - z.1) (0, E, ns, vs) (fgt_intro (fgt_upd rfl (fgt_upd rfl (fgt_upd rfl (fgt_upd rfl (fgt_upd rfl (fgt_upd rfl (fgt_upd rfl fgt_env0))))))) (fgt_updH rfl (fgt_updH rfl (fgt_updH rfl (fgt_updH rfl (fgt_updH rfl (fgt_updH rfl fgt_H0))))))) ?_ ?_
      · exact ⟨Nat.zero_le _, rfl, hE, hns, hvs, Nat.le_refl _⟩
      rintro z ⟨hz1, hz2, hz3, hz4, hz5, hz6⟩
      refine T_seq ?_
      refine T_seq ?_
      refine T_region ?_
      iterate 5 refine TL_x ?_
      refine TL_nil ?_
      refine EThen_n ?_
      refine T_cond rfl ?_ ?_
      ·
        intro hc
        have hlt : z.1 < l.args.length := by simpa using hc
        obtain ⟨n, hn⟩ := get_some hlt
        obtain ⟨m, hm⟩ := get_some (l := o.args) (i := z.1) (by omega)
        obtain ⟨hin, ex, hex, hvx⟩ := ha n (List.mem_of_getElem? hn)
        obtain ⟨hmn, ey, hey, hvy⟩ := hb m (List.mem_of_getElem? hm)
        have hxt := haT ex (List.mem_of_getElem? hex)
        have hyt := hbT ey (List.mem_of_getElem? hey)
        refine T_skip ?_
        refine EThen_n ?_
        refine T_seq ?_
        refine T_block ?_
        refine T_seq ?_
        refine T_drawE 10 [13] [13] Ty.mixed rfl (by intro A hA; simp at hA; rcases hA with rfl <;> exact ⟨(by repeat (first | exact noRefE0 | exact noRefE_envOf | exact noRefE_envA rfl | refine noRefE_upd rfl ?_)), (by repeat (first | exact noRefH0 | refine noRefH_upd rfl ?_))⟩) ?_
        iterate 5 refine DE_x ?_
        first | refine DE_pure (by (repeat intro _); exact (g_index_sl rfl rfl rfl Ty.s31 (by omega) (get_map hn))) ?_ | refine DE_pure (by (repeat intro _); exact (g_index_lit rfl rfl rfl Ty.s31 (by omega) (get_map hn))) ?_ | refine DE_pure (by (repeat intro _); exact (g_index_asl rfl rfl rfl rfl rfl Ty.s31 (by omega) (get_map hn))) ?_
        refine DE_x ?_
        first | refine DE_pure (by (repeat intro _); exact (g_index_sl rfl rfl rfl Ty.s39 hin (get_map hex))) ?_ | refine DE_pure (by (repeat intro _); exact (g_index_lit rfl rfl rfl Ty.s39 hin (get_map hex))) ?_ | refine DE_pure (by (repeat intro _); exact (g_index_asl rfl rfl rfl rfl rfl Ty.s39 hin (get_map hex))) ?_
        refine DE_x ?_
        refine DE_alloc 13 ?_
        refine DE_nil 10 [0, 1, 0, 4, 0, 28, 60, 127, 255, 0, 1023] ?_
        refine TL_store ?_
        refine TL_nil ?_
        refine EThen_n ?_
        refine T_seq ?_
        refine T_draw 8 Ty.mixed rfl ?_
        iterate 4 refine DGo_x ?_
        first | refine DGo_one rfl rfl (.go _ rfl (g_index_sl rfl rfl rfl Ty.s31 (by omega) (get_map hm))) ?_ | refine DGo_one rfl rfl (.go _ rfl (g_index_lit rfl rfl rfl Ty.s31 (by omega) (get_map hm))) ?_ | refine DGo_one rfl rfl (.go _ rfl (g_index_asl rfl rfl rfl rfl rfl Ty.s31 (by omega) (get_map hm))) ?_
        refine DGo_x ?_
        refine DGo_one rfl rfl (.go _ rfl (c_call rfl rfl Fk.ok43 (fun w F => PC_l16Text b m ey hmn hey (by omega) w F))) ?_
        refine DGo_x ?_
        refine DGo_nil ?_
        refine TL_nil ?_
        refine EThen_n ?_
        refine T_seq ?_
        refine T_seq ?_
        refine T_region ?_
        iterate 3 refine TL_x ?_
        refine TL_nil ?_
        refine EThen_n ?_
        refine T_cond rfl ?_ ?_
        ·
          intro hc
          have hk1 : ex.kind ≠ 1 := by simpa using hc
          refine T_seq ?_
          refine T_seq ?_
          refine T_region ?_
          iterate 5 refine TL_x ?_
          refine TL_nil ?_
          refine EThen_n ?_
          refine T_cond rfl ?_ ?_
          ·
            intro hc
            have hput : put1 ex ey z.2.1 = none := by
              rw [put1_term hvx hvy hk1, if_neg]
              simp [vt] at hc ⊢
              intro h1 h2
              rcases hc with h | h <;> contradiction
            have hno := bec_fail hyes hn hm (expAt_of hex) (expAt_of hey) hz2 hput
            refine T_seq ?_
            refine T_region ?_
            refine TL_x ?_
            refine TL_store ?_
            refine TL_x ?_
            refine TL_nil ?_
            refine EThen_n ?_
            refine T_ret ?_
            refine EThen_ret ?_
            refine EThen_ret ?_
            refine EBlock_ret ?_
            refine EThen_ret ?_
            refine EThen_ret ?_
            refine EBlock_ret ?_
            refine EThen_ret ?_
            refine RG_ret ?_
            first | (rw [hno]; simp [Env.ds, hz4, hz5]; done) | (rw [hno]; simp [Env.ds, hns, hvs]; done) | (rw [bec_end hyes hlast hz2]; simp [Env.ds, hz4, hz5]; done)
          ·
            intro hc
            have hput : put1 ex ey z.2.1 = some z.2.1 := by
              rw [put1_term hvx hvy hk1, if_pos]
              simpa [vt] using hc
            refine T_skip ?_
            refine EThen_n ?_
            refine T_exit ?_
            refine EThen_exit ?_
            refine EBlock_same ?_
            refine EThen_n ?_
            refine T_region ?_
            iterate 3 refine TL_x ?_
            refine TL_nil ?_
            refine EThen_n ⟨(z.1 + 1, z.2.1, z.2.2.1, z.2.2.2), (fgt_intro (fgt_upd rfl (fgt_upd rfl (fgt_upd rfl (fgt_upd rfl (fgt_upd rfl (fgt_upd rfl (fgt_upd rfl fgt_env0))))))) (fgt_updH rfl (fgt_updH rfl (fgt_updH rfl (fgt_updH rfl (fgt_updH rfl (fgt_updH rfl fgt_H0))))))), ?_, ?_⟩
            · exact ⟨hlt, bec_next hn hm (expAt_of hex) (expAt_of hey) hz2 hput, hz3, hz4, hz5, by dsimp only; omega⟩
            · dsimp only; omega
        ·
          intro hc
          have hk1 : ex.kind = 1 := by simpa using hc
          obtain ⟨r, hr⟩ : ∃ r, z.2.1.get ex.text = r := ⟨_, rfl⟩
          refine T_skip ?_
          refine EThen_n ?_
          refine T_seq ?_
          refine T_region ?_
          iterate 3 refine TL_x ?_
          refine TL_o rfl rfl rfl (c_call rfl rfl Fk.ok55 (fun w F => PC_get z.2.1 z.2.2.1 z.2.2.2 ex.text r hr hz4 hz5 (by rw [hz4]; simp [Env.ns]; omega) w F)) ?_
          iterate 5 refine TL_x ?_
          refine TL_nil ?_
          refine EThen_n ?_
          refine T_seq ?_
          refine T_seq ?_
          refine T_region ?_
          iterate 2 refine TL_x ?_
          refine TL_split 72 rfl ?_ ?_
          ·
            intro hg72
            obtain ⟨v, rfl⟩ := Option.isSome_iff_exists.1 hg72
            refine TL_want rfl rfl (lt_of_blt rfl) rfl ?_
            refine TL_o rfl rfl rfl (f_move rfl (by first | exact .d _ | exact .box _ _ | exact .asl _ _ | exact .nil | exact .lit _ _ | exact .agg _ | exact .clo _ _ | exact .fnv _ | exact .tup _ | exact .el _ _ _ | exact .mp _ | exact .junk)) ?_
            refine TL_want rfl rfl (lt_of_blt rfl) rfl ?_
            refine TL_o rfl rfl rfl (f_move rfl (by first | exact .d _ | exact .box _ _ | exact .asl _ _ | exact .nil | exact .lit _ _ | exact .agg _ | exact .clo _ _ | exact .fnv _ | exact .tup _ | exact .el _ _ _ | exact .mp _ | exact .junk)) ?_
            refine TL_want rfl rfl (lt_of_blt rfl) rfl ?_
            refine TL_o rfl rfl rfl (g_scmp rfl rfl rfl rfl) ?_
            refine TL_x ?_
            refine TL_nil ?_
            refine EThen_n ?_
            refine T_cond rfl ?_ ?_
            ·
              intro hc
              have hput : put1 ex ey z.2.1 = none := by
                rw [put1_old hz3 hvy hk1 hr, if_neg]
                simp [gv, vt] at hc ⊢
                intro h1 h2
                rcases hc with h | h <;> contradiction
              have hno := bec_fail hyes hn hm (expAt_of hex) (expAt_of hey) hz2 hput
              refine T_seq ?_
              refine T_region ?_
              refine TL_x ?_
              refine TL_store ?_
              refine TL_x ?_
              refine TL_nil ?_
              refine EThen_n ?_
              refine T_ret ?_
              refine EThen_ret ?_
              refine EBlock_ret ?_
              refine EThen_ret ?_
              refine EThen_ret ?_
              refine EBlock_ret ?_
              refine EThen_ret ?_
              refine RG_ret ?_
              first | (rw [hno]; simp [Env.ds, hz4, hz5]; done) | (rw [hno]; simp [Env.ds, hns, hvs]; done) | (rw [bec_end hyes hlast hz2]; simp [Env.ds, hz4, hz5]; done)
            ·
              intro hc
              have hput : put1 ex ey z.2.1 = some z.2.1 := by
                rw [put1_old hz3 hvy hk1 hr, if_pos]
                simpa [gv, vt] using hc
              refine T_skip ?_
              refine EThen_n ?_
              refine T_seq ?_
              refine T_region ?_
              iterate 2 refine TL_x ?_
              refine TL_nil ?_
              refine EThen_n ?_
              refine T_cond_f rfl ?_
              refine T_skip ?_
              refine EBlock_n ?_
              refine EThen_n ?_
              refine T_region ?_
              iterate 3 refine TL_x ?_
              refine TL_nil ?_
              refine EThen_n ⟨(z.1 + 1, z.2.1, z.2.2.1, z.2.2.2), (fgt_intro (fgt_upd rfl (fgt_upd rfl (fgt_upd rfl (fgt_upd rfl (fgt_upd rfl (fgt_upd rfl (fgt_upd rfl fgt_env0))))))) (fgt_updH rfl (fgt_updH rfl (fgt_updH rfl (fgt_updH rfl (fgt_updH rfl (fgt_updH rfl fgt_H0))))))), ?_, ?_⟩
              · exact ⟨hlt, bec_next hn hm (expAt_of hex) (expAt_of hey) hz2 hput, hz3, hz4, hz5, by dsimp only; omega⟩
              · dsimp only; omega
          ·
            intro hg72
            have hrn : r = none := by simpa using hg72
            subst hrn
            have hput := put1_new (y := ey) hk1 hr
            refine TL_skip rfl rfl (lt_of_blt rfl) rfl (lt_of_blt rfl) rfl rfl ?_
            refine TL_skip rfl rfl (lt_of_blt rfl) rfl (lt_of_blt rfl) rfl rfl ?_
            refine TL_skip rfl rfl (lt_of_blt rfl) rfl (lt_of_blt rfl) rfl rfl ?_
            refine TL_x ?_
            refine TL_nil ?_
            refine EThen_n ?_
            refine T_cond_f rfl ?_
            refine T_skip ?_
            refine EThen_n ?_
            refine T_seq ?_
            refine T_region ?_
            iterate 2 refine TL_x ?_
            refine TL_nil ?_
            refine EThen_n ?_
            refine T_cond_t rfl ?_
            refine T_region ?_
            iterate 4 refine TL_x ?_
            refine TL_o rfl rfl rfl (c_call rfl rfl Fk.ok86 (fun w F => PC_with z.2.2.1 z.2.2.2 ex.text (vt ey) (by rw [hz4]; simp [Env.ns]; omega) (by rw [hz5]; simp [Env.vs]; omega) w F)) ?_
            refine TL_store ?_
            refine TL_nil ?_
            refine EBlock_n ?_
            refine EThen_n ?_
            refine T_region ?_
            iterate 3 refine TL_x ?_
            refine TL_nil ?_
            refine EThen_n ⟨(z.1 + 1, z.2.1 ++ [(ex.text, ey)], z.2.2.1 ++ [ex.text], z.2.2.2 ++ [vt ey]), (fgt_intro (fgt_upd rfl (fgt_upd rfl (fgt_upd rfl (fgt_upd rfl (fgt_upd rfl (fgt_upd rfl (fgt_upd rfl fgt_env0))))))) (fgt_updH rfl (fgt_updH rfl (fgt_updH rfl (fgt_updH rfl (fgt_updH rfl (fgt_updH rfl fgt_H0))))))), ?_, ?_⟩
            · exact ⟨hlt, bec_next hn hm (expAt_of hex) (expAt_of hey) hz2 hput, fine_put hz3 hvy hput, by dsimp only; rw [hz4]; simp [Env.ns], by dsimp only; rw [hz5]; simp [Env.vs], by simp; omega⟩
            · dsimp only; omega
      ·
        intro hc
        have hlast : ¬ z.1 < l.args.length := by simpa using hc
        refine T_exit ?_
        refine EThen_exit ?_
        refine EThen_exit ?_
        refine EBlock_same ?_
        refine EThen_n ?_
        refine T_seq ?_
        refine T_region ?_
        refine TL_x ?_
        refine TL_store ?_
        refine TL_x ?_
        refine TL_nil ?_
        refine EThen_n ?_
        refine T_ret ?_
        refine RG_ret ?_
        first | (rw [hno]; simp [Env.ds, hz4, hz5]; done) | (rw [hno]; simp [Env.ds, hns, hvs]; done) | (rw [bec_end hyes hlast hz2]; simp [Env.ds, hz4, hz5]; done)

set_option maxHeartbeats 4000000 in
theorem PC_l16Way0 (a b : Rule) (hpa : a.plain = true) (hpb : b.plain = true) (hwa : a.wt ≤ 4294967296) (hwb : b.wt ≤ 4294967296) (i : Nat) (hi : i ≤ a.body.length) (E : Env) (hE : E.fine) (hel : E.length + (argsOf (a.body.drop i)).length ≤ 4294967296) (hx : i < a.body.length → ∀ (E2 : Env), E2.fine → E2.length + (argsOf (a.body.drop (i + 1))).length ≤ 4294967296 → ∀ (w : World) (F : Fz), PC Try.prog 54 w F [.d a.d, .d b.d, .d (di ((i : Int) + 1)), .d E2.ds] (· = [(wayR a b (a.body.drop (i + 1)) E2).1.ds, db (wayR a b (a.body.drop (i + 1)) E2).2])) (w : World) (F : Fz) : PC Try.prog 54 w F [.d (a.d), .d (b.d), .d (di (i : Int)), .d (E.ds)] (· = [(wayR a b (a.body.drop i) E).1.ds, db (wayR a b (a.body.drop i) E).2]) := by
  have hsa := Rule.small hwa
  have hsb := Rule.small hwb
  have haT := hsa.2.2.2.2.2.1
  have hbT := hsb.2.2.2.2.2.1
  have hib := hsa.2.1
  have hbb := hsb.2.1
  refine PC_of_G (rs := [.cell 8 91, .tmp 9]) (n := 59) Try.func54 rfl rfl rfl rfl ?_
  refine T_seq ?_
  refine T_region ?_
  refine TL_box 4 ?_
  refine TL_box 5 ?_
  refine TL_box 7 ?_
  refine TL_alloc 8 ?_
  refine TL_x ?_
  refine TL_nil ?_
  refine EThen_n ?_
  refine T_seq ?_
  refine T_seq ?_
  refine T_region ?_
  iterate 5 refine TL_x ?_
  refine TL_nil ?_
  refine EThen_n ?_
  refine T_cond rfl ?_ ?_
  ·
    intro hc
    have hend : i = a.body.length := by simp at hc; omega
    refine T_seq ?_
    refine T_region ?_
    refine TL_x ?_
    refine TL_store ?_
    refine TL_x ?_
    refine TL_nil ?_
    refine EThen_n ?_
    refine T_ret ?_
    refine EThen_ret ?_
    refine RG_ret ?_
    first | (rw [way_over hend]; rfl) | (rw [hfound]; rfl) | (rw [way_none hl hn hlast]; rfl)
  ·
    intro hc
    have hil : i < a.body.length := by simp at hc; omega
    obtain ⟨l, hl⟩ := get_some hil
    have hlm : l ∈ a.lits := by simp only [Rule.lits]; exact List.mem_cons_of_mem _ (List.mem_of_getElem? hl)
    have hla := hsa.2.2.2.2.1 l hlm
    have had := args_drop hl
    refine T_skip ?_
    refine EThen_n ?_
    refine T_seq ?_
    refine T_seq ?_
    refine T_region ?_
    refine TL_x ?_
    refine TL_nil ?_
    refine EThen_n ?_
    refine T_block ?_
    refine T_loopF (α := Nat) (fun k => ⟨(upd (upd (upd (upd (upd (upd env0 2 (.d (di (i : Int)))) 4 (.box 4 0)) 5 (.box 5 0)) 7 (.box 7 0)) 8 (.box 8 0)) 10 (.d (di (k : Int)))), (upd (upd (upd (upd H0 4 (.box [.d (dexps a.exps), .d (di a.head.kind), .d (ds a.head.name), .d (dints a.head.args), .d (dlits a.body)])) 5 (.box [.d (dexps b.exps), .d (di b.head.kind), .d (ds b.head.name), .d (dints b.head.args), .d (dlits b.body)])) 7 (.box [.d (dstrs E.ns), .d (dstrs E.vs)])) 8 (.box [.nil, .nil]))⟩) (fun k => k ≤ b.body.length ∧ (∀ (j : Nat) (y : Q.Lit), j < k → b.body[j]? = some y → (becomes a b l y E).bind (way a b (a.body.drop (i + 1))) = none)) (fun k => b.body.length - k) 0 (fgt_intro (fgt_upd rfl (fgt_upd rfl (fgt_upd rfl (fgt_upd rfl (fgt_upd rfl (fgt_upd rfl fgt_env0)))))) (fgt_updH rfl (fgt_updH rfl (fgt_updH rfl (fgt_updH rfl fgt_H0))))) ?_ ?_
    · exact ⟨Nat.zero_le _, fun j y h => by omega⟩
    rintro k ⟨hk, hn⟩
    refine T_seq ?_
    refine T_seq ?_
    refine T_region ?_
    iterate 5 refine TL_x ?_
    refine TL_nil ?_
    refine EThen_n ?_
    refine T_cond rfl ?_ ?_
    ·
      intro hc
      have hlt : k < b.body.length := by simpa using hc
      obtain ⟨o, ho⟩ := get_some hlt
      have hom : o ∈ b.lits := by simp only [Rule.lits]; exact List.mem_cons_of_mem _ (List.mem_of_getElem? ho)
      have hlo := hsb.2.2.2.2.1 o hom
      have hbf := becP_fine (a := a) (l := l) hE (plain_lit hpb hom)
      refine T_skip ?_
      refine EThen_n ?_
      refine T_seq ?_
      refine T_block ?_
      refine T_seq ?_
      refine T_drawE 19 [11] [11] Ty.mixed rfl (by intro A hA; simp at hA; rcases hA with rfl <;> exact ⟨(by repeat (first | exact noRefE0 | exact noRefE_envOf | exact noRefE_envA rfl | refine noRefE_upd rfl ?_)), (by repeat (first | exact noRefH0 | refine noRefH_upd rfl ?_))⟩) ?_
      iterate 4 refine DE_x ?_
      first | refine DE_pure (by (repeat intro _); exact (g_index_sl rfl rfl rfl Ty.s41 (by omega) (get_map hl))) ?_ | refine DE_pure (by (repeat intro _); exact (g_index_lit rfl rfl rfl Ty.s41 (by omega) (get_map hl))) ?_ | refine DE_pure (by (repeat intro _); exact (g_index_asl rfl rfl rfl rfl rfl Ty.s41 (by omega) (get_map hl))) ?_
      iterate 5 refine DE_x ?_
      first | refine DE_pure (by (repeat intro _); exact (g_index_sl rfl rfl rfl Ty.s41 (by omega) (get_map ho))) ?_ | refine DE_pure (by (repeat intro _); exact (g_index_lit rfl rfl rfl Ty.s41 (by omega) (get_map ho))) ?_ | refine DE_pure (by (repeat intro _); exact (g_index_asl rfl rfl rfl rfl rfl Ty.s41 (by omega) (get_map ho))) ?_
      iterate 2 refine DE_x ?_
      refine DE_pure (by (repeat intro _); exact (c_call rfl rfl Fk.ok53 (fun w F => PC_l16Put a b l o E E.ns E.vs rfl rfl (plain_lit hpa hlm) (plain_lit hpb hom) haT hbT hE hla hlo (by omega) w F))) ?_
      iterate 3 refine DE_x ?_
      refine DE_alloc 11 ?_
      refine DE_store ?_
      refine DE_nil 19 [0, 0, 2, 0, 14, 30, 0, 0, 128, 0, 896, 1920, 0, 8191, 16383, 32767, 32767, 0, 196607, 524287] ?_
      refine TL_x ?_
      refine TL_nil ?_
      refine EThen_n ?_
      refine T_seq ?_
      refine T_seq ?_
      refine T_region ?_
      iterate 2 refine TL_x ?_
      refine TL_nil ?_
      refine EThen_n ?_
      refine T_cond rfl ?_ ?_
      ·
        intro hc
        have hbad : (becP a b l o E).2 = false := by simpa using hc
        refine T_exit ?_
        refine EThen_exit ?_
        refine EBlock_same ?_
        refine EThen_n ?_
        refine T_region ?_
        iterate 3 refine TL_x ?_
        refine TL_nil ?_
        refine EThen_n ⟨k + 1, (fgt_intro (fgt_upd rfl (fgt_upd rfl (fgt_upd rfl (fgt_upd rfl (fgt_upd rfl (fgt_upd rfl fgt_env0)))))) (fgt_updH rfl (fgt_updH rfl (fgt_updH rfl (fgt_updH rfl fgt_H0))))), ?_, ?_⟩
        · exact ⟨hlt, way_round hn ho rfl (.inl hbad)⟩
        · omega
      ·
        intro hc
        have hgood : (becP a b l o E).2 = true := by simpa using hc
        refine T_skip ?_
        refine EThen_n ?_
        refine T_seq ?_
        refine T_region ?_
        iterate 5 refine TL_x ?_
        refine TL_o rfl rfl rfl (c_call rfl rfl Fk.ok54 (fun w F => hx hil (becP a b l o E).1 hbf.1 (by omega) w F)) ?_
        iterate 3 refine TL_x ?_
        refine TL_alloc 13 ?_
        refine TL_store ?_
        refine TL_x ?_
        refine TL_nil ?_
        refine EThen_n ?_
        refine T_seq ?_
        refine T_region ?_
        refine TL_x ?_
        refine TL_nil ?_
        refine EThen_n ?_
        refine T_cond rfl ?_ ?_
        ·
          intro hc
          have hfound := way_found hl hn ho hgood rfl hc
          refine T_seq ?_
          refine T_region ?_
          refine TL_x ?_
          refine TL_store ?_
          refine TL_x ?_
          refine TL_nil ?_
          refine EThen_n ?_
          refine T_ret ?_
          refine EBlock_ret ?_
          refine EThen_ret ?_
          refine EThen_ret ?_
          refine EBlock_ret ?_
          refine EThen_ret ?_
          refine RG_ret ?_
          first | (rw [way_over hend]; rfl) | (rw [hfound]; rfl) | (rw [way_none hl hn hlast]; rfl)
        ·
          intro hc
          have hbad : (wayR a b (a.body.drop (i + 1)) (becP a b l o E).1).2 = false := hc
          refine T_skip ?_
          refine EBlock_n ?_
          refine EThen_n ?_
          refine T_region ?_
          iterate 3 refine TL_x ?_
          refine TL_nil ?_
          refine EThen_n ⟨k + 1, (fgt_intro (fgt_upd rfl (fgt_upd rfl (fgt_upd rfl (fgt_upd rfl (fgt_upd rfl (fgt_upd rfl fgt_env0)))))) (fgt_updH rfl (fgt_updH rfl (fgt_updH rfl (fgt_updH rfl fgt_H0))))), ?_, ?_⟩
          · exact ⟨hlt, way_round hn ho rfl (.inr hbad)⟩
          · omega
    ·
      intro hc
      have hlast : ¬ k < b.body.length := by simpa using hc
      refine T_exit ?_
      refine EThen_exit ?_
      refine EThen_exit ?_
      refine EBlock_same ?_
      refine EThen_n ?_
      refine T_seq ?_
      refine T_region ?_
      refine TL_x ?_
      refine TL_store ?_
      refine TL_x ?_
      refine TL_nil ?_
      refine EThen_n ?_
      refine T_ret ?_
      refine RG_ret ?_
      first | (rw [way_over hend]; rfl) | (rw [hfound]; rfl) | (rw [way_none hl hn hlast]; rfl)

theorem PC_l16Way (a b : Rule) (hpa : a.plain = true) (hpb : b.plain = true) (hwa : a.wt ≤ 4294967296) (hwb : b.wt ≤ 4294967296) : ∀ (n i : Nat), a.body.length - i = n → i ≤ a.body.length → ∀ (E : Env), E.fine → E.length + (argsOf (a.body.drop i)).length ≤ 4294967296 → ∀ (w : World) (F : Fz), PC Try.prog 54 w F [.d a.d, .d b.d, .d (di (i : Int)), .d E.ds] (· = [(wayR a b (a.body.drop i) E).1.ds, db (wayR a b (a.body.drop i) E).2])
  | 0, i, hn, hi, E, hE, hel, w, F => PC_l16Way0 a b hpa hpb hwa hwb i hi E hE hel (fun h => by omega) w F
  | n + 1, i, hn, hi, E, hE, hel, w, F => PC_l16Way0 a b hpa hpb hwa hwb i hi E hE hel (fun h E2 hE2 hel2 w F => PC_l16Way a b hpa hpb hwa hwb n (i + 1) (by omega) (by omega) E2 hE2 hel2 w F) w F

set_option maxHeartbeats 4000000 in
theorem PC_sCarries (a b : Rule) (hwa : a.wt ≤ 4294967296) (hwb : b.wt ≤ 4294967296) (w : World) (F : Fz) : PC Try.prog 22 w F [.d (a.d), .d (b.d)] (· = [mdO (Rule.carries a b), db (Rule.carries a b).isSome]) := by
  have hsa := Rule.small hwa
  have hsb := Rule.small hwb
  have haT := hsa.2.2.2.2.2.1
  have hbT := hsb.2.2.2.2.2.1
  refine PC_of_G (rs := [.cell 4 50, .tmp 5]) (n := 102) Try.func22 rfl rfl rfl rfl ?_
  refine T_seq ?_
  refine T_region ?_
  refine TL_box 2 ?_
  refine TL_box 3 ?_
  refine TL_alloc 4 ?_
  refine TL_x ?_
  refine TL_nil ?_
  refine EThen_n ?_
  refine T_seq ?_
  refine T_seq ?_
  refine T_region ?_
  refine TL_x ?_
  refine TL_o rfl rfl rfl (c_call rfl rfl Fk.ok16 (fun w F => PC_PlainRule a hwa w F)) ?_
  iterate 2 refine TL_x ?_
  refine TL_split 15 rfl ?_ ?_
  ·
    intro hg15
    refine TL_skip rfl rfl (lt_of_blt rfl) rfl (lt_of_blt rfl) rfl rfl ?_
    refine TL_skip rfl rfl (lt_of_blt rfl) rfl (lt_of_blt rfl) rfl rfl ?_
    refine TL_skip rfl rfl (lt_of_blt rfl) rfl (lt_of_blt rfl) rfl rfl ?_
    refine TL_x ?_
    refine TL_nil ?_
    refine EThen_n ?_
    refine T_cond_t rfl ?_
    have hno := carries_np (a := a) (b := b) (.inl (by simpa using hg15))
    refine T_seq ?_
    refine T_region ?_
    refine TL_x ?_
    refine TL_store ?_
    refine TL_x ?_
    refine TL_nil ?_
    refine EThen_n ?_
    refine T_ret ?_
    refine EThen_ret ?_
    refine RetG_ret (.cons (.row rfl rfl Ty.r50 rfl (by first | exact .d _ | exact .box _ _ | exact .asl _ _ | exact .nil | exact .lit _ _ | exact .agg _ | exact .clo _ _ | exact .fnv _ | exact .tup _ | exact .el _ _ _ | exact .mp _ | exact .junk)) (.cons (.tmp _) .nil)) (.cons (by first | exact .d _ | exact .nil _ _ | exact .litn _ _ _ | exact .lit _ _ | exact .asl _ _ _ _ _ rfl rfl | exact .asln _ _ _ _ _ _ _ rfl rfl | exact .emp _ _ _ _ | exact .ofL (.cons (.nil 1 none) (.cons (.nil 1 none) .nil)) rfl | exact .ofL (.cons (.asl _ _ _ _ _ rfl (by simp)) (.cons (.asl _ _ _ _ _ rfl (by simp)) .nil)) rfl) (.cons (by first | exact .d _ | exact .nil _ _ | exact .litn _ _ _ | exact .lit _ _ | exact .asl _ _ _ _ _ rfl rfl | exact .asln _ _ _ _ _ _ _ rfl rfl | exact .emp _ _ _ _ | exact .ofL (.cons (.nil 1 none) (.cons (.nil 1 none) .nil)) rfl | exact .ofL (.cons (.asl _ _ _ _ _ rfl (by simp)) (.cons (.asl _ _ _ _ _ rfl (by simp)) .nil)) rfl) .nil)) ?_
    first | (rw [hno]; rfl) | (rw [hyes, ← vars_end hlast hx2, ← hx3]; rfl)
  ·
    intro hg15
    refine TL_want rfl rfl (lt_of_blt rfl) rfl ?_
    first | refine TL_o rfl rfl rfl (f_load_box_row rfl rfl Ty.r43 rfl rfl (by first | exact .d _ | exact .box _ _ | exact .asl _ _ | exact .nil | exact .lit _ _ | exact .agg _ | exact .clo _ _ | exact .fnv _ | exact .tup _ | exact .el _ _ _ | exact .mp _ | exact .junk)) ?_ | refine TL_o rfl rfl rfl (f_load_pt_row rfl rfl Ty.r43 rfl (by repeat (first | exact .nil | apply SLD.cons))) ?_
    refine TL_want rfl rfl (lt_of_blt rfl) rfl ?_
    refine TL_o rfl rfl rfl (c_call rfl rfl Fk.ok16 (fun w F => PC_PlainRule b hwb w F)) ?_
    refine TL_want rfl rfl (lt_of_blt rfl) rfl ?_
    refine TL_o rfl rfl rfl (g_not rfl rfl) ?_
    refine TL_x ?_
    refine TL_nil ?_
    refine EThen_n ?_
    refine T_cond rfl ?_ ?_
    ·
      intro hc
      have hno := carries_np (a := a) (b := b) (.inr (by simpa using hc))
      refine T_seq ?_
      refine T_region ?_
      refine TL_x ?_
      refine TL_store ?_
      refine TL_x ?_
      refine TL_nil ?_
      refine EThen_n ?_
      refine T_ret ?_
      refine EThen_ret ?_
      refine RetG_ret (.cons (.row rfl rfl Ty.r50 rfl (by first | exact .d _ | exact .box _ _ | exact .asl _ _ | exact .nil | exact .lit _ _ | exact .agg _ | exact .clo _ _ | exact .fnv _ | exact .tup _ | exact .el _ _ _ | exact .mp _ | exact .junk)) (.cons (.tmp _) .nil)) (.cons (by first | exact .d _ | exact .nil _ _ | exact .litn _ _ _ | exact .lit _ _ | exact .asl _ _ _ _ _ rfl rfl | exact .asln _ _ _ _ _ _ _ rfl rfl | exact .emp _ _ _ _ | exact .ofL (.cons (.nil 1 none) (.cons (.nil 1 none) .nil)) rfl | exact .ofL (.cons (.asl _ _ _ _ _ rfl (by simp)) (.cons (.asl _ _ _ _ _ rfl (by simp)) .nil)) rfl) (.cons (by first | exact .d _ | exact .nil _ _ | exact .litn _ _ _ | exact .lit _ _ | exact .asl _ _ _ _ _ rfl rfl | exact .asln _ _ _ _ _ _ _ rfl rfl | exact .emp _ _ _ _ | exact .ofL (.cons (.nil 1 none) (.cons (.nil 1 none) .nil)) rfl | exact .ofL (.cons (.asl _ _ _ _ _ rfl (by simp)) (.cons (.asl _ _ _ _ _ rfl (by simp)) .nil)) rfl) .nil)) ?_
      first | (rw [hno]; rfl) | (rw [hyes, ← vars_end hlast hx2, ← hx3]; rfl)
    ·
      intro hc
      have hpa : a.plain = true := by simpa using hg15
      have hpb : b.plain = true := by simpa using hc
      have hf1 := becP_fine (a := a) (b := b) (l := a.head) (o := b.head) (E := []) (fun p hp => by cases hp) (plain_lit hpb (by simp [Rule.lits]))
      have hf2 : (becP a b a.head b.head []).1.length + (argsOf (a.body.drop 0)).length ≤ 4294967296 := by
        have h1 := hf1.2; have h2 := hsa.2.2.1
        simp [Rule.uses, Rule.lits, argsOf] at h1 h2 ⊢; omega
      refine T_skip ?_
      refine EThen_n ?_
      refine T_seq ?_
      refine T_region ?_
      iterate 7 refine TL_x ?_
      refine TL_o rfl rfl rfl (c_call rfl rfl Fk.ok53 (fun w F => PC_l16Put a b a.head b.head [] [] [] rfl rfl (plain_lit hpa (by simp [Rule.lits])) (plain_lit hpb (by simp [Rule.lits])) haT hbT (fun p hp => by cases hp) (hsa.2.2.2.2.1 _ (by simp [Rule.lits])) (hsb.2.2.2.2.1 _ (by simp [Rule.lits])) (by have := hsa.2.2.2.2.1 a.head (by simp [Rule.lits]); simpa using this) w F) (.cons (by first | exact .d (.d _) | exact .d (.nil _ _) | exact .d (.litn _ _ _) | exact .d (.lit _ _) | exact .d (.asl _ _ _ _ _ rfl rfl) | exact .d (.asln _ _ _ _ _ _ _ rfl rfl) | exact .fnv _ | exact .d (.emp _ _ _ _)) (.cons (by first | exact .d (.d _) | exact .d (.nil _ _) | exact .d (.litn _ _ _) | exact .d (.lit _ _) | exact .d (.asl _ _ _ _ _ rfl rfl) | exact .d (.asln _ _ _ _ _ _ _ rfl rfl) | exact .fnv _ | exact .d (.emp _ _ _ _)) (.cons (by first | exact .d (.d _) | exact .d (.nil _ _) | exact .d (.litn _ _ _) | exact .d (.lit _ _) | exact .d (.asl _ _ _ _ _ rfl rfl) | exact .d (.asln _ _ _ _ _ _ _ rfl rfl) | exact .fnv _ | exact .d (.emp _ _ _ _)) (.cons (by first | exact .d (.d _) | exact .d (.nil _ _) | exact .d (.litn _ _ _) | exact .d (.lit _ _) | exact .d (.asl _ _ _ _ _ rfl rfl) | exact .d (.asln _ _ _ _ _ _ _ rfl rfl) | exact .fnv _ | exact .d (.emp _ _ _ _)) (.cons (.d (.ofL (.cons (.nil 1 none) (.cons (.nil 1 none) .nil)) rfl)) .nil)))))) ?_
      iterate 3 refine TL_x ?_
      refine TL_alloc 6 ?_
      refine TL_store ?_
      refine TL_x ?_
      refine TL_nil ?_
      refine EThen_n ?_
      refine T_seq ?_
      refine T_seq ?_
      refine T_region ?_
      iterate 2 refine TL_x ?_
      refine TL_nil ?_
      refine EThen_n ?_
      refine T_cond rfl ?_ ?_
      ·
        intro hc
        have hno := carries_nh hpa hpb (by simpa using hc)
        refine T_seq ?_
        refine T_region ?_
        refine TL_x ?_
        refine TL_store ?_
        refine TL_x ?_
        refine TL_nil ?_
        refine EThen_n ?_
        refine T_ret ?_
        refine EThen_ret ?_
        refine RetG_ret (.cons (.row rfl rfl Ty.r50 rfl (by first | exact .d _ | exact .box _ _ | exact .asl _ _ | exact .nil | exact .lit _ _ | exact .agg _ | exact .clo _ _ | exact .fnv _ | exact .tup _ | exact .el _ _ _ | exact .mp _ | exact .junk)) (.cons (.tmp _) .nil)) (.cons (by first | exact .d _ | exact .nil _ _ | exact .litn _ _ _ | exact .lit _ _ | exact .asl _ _ _ _ _ rfl rfl | exact .asln _ _ _ _ _ _ _ rfl rfl | exact .emp _ _ _ _ | exact .ofL (.cons (.nil 1 none) (.cons (.nil 1 none) .nil)) rfl | exact .ofL (.cons (.asl _ _ _ _ _ rfl (by simp)) (.cons (.asl _ _ _ _ _ rfl (by simp)) .nil)) rfl) (.cons (by first | exact .d _ | exact .nil _ _ | exact .litn _ _ _ | exact .lit _ _ | exact .asl _ _ _ _ _ rfl rfl | exact .asln _ _ _ _ _ _ _ rfl rfl | exact .emp _ _ _ _ | exact .ofL (.cons (.nil 1 none) (.cons (.nil 1 none) .nil)) rfl | exact .ofL (.cons (.asl _ _ _ _ _ rfl (by simp)) (.cons (.asl _ _ _ _ _ rfl (by simp)) .nil)) rfl) .nil)) ?_
        first | (rw [hno]; rfl) | (rw [hyes, ← vars_end hlast hx2, ← hx3]; rfl)
      ·
        intro hc
        have hh : (becP a b a.head b.head []).2 = true := by simpa using hc
        refine T_skip ?_
        refine EThen_n ?_
        refine T_seq ?_
        refine T_region ?_
        iterate 3 refine TL_x ?_
        refine TL_o rfl rfl rfl (c_call rfl rfl Fk.ok54 (fun w F => PC_l16Way a b hpa hpb hwa hwb a.body.length 0 rfl (Nat.zero_le _) _ hf1.1 hf2 w F)) ?_
        iterate 3 refine TL_x ?_
        refine TL_store ?_
        refine TL_x ?_
        refine TL_nil ?_
        refine EThen_n ?_
        refine T_seq ?_
        refine T_seq ?_
        refine T_region ?_
        iterate 2 refine TL_x ?_
        refine TL_nil ?_
        refine EThen_n ?_
        refine T_cond rfl ?_ ?_
        ·
          intro hc
          have hno := carries_nw hpa hpb hh (by simpa using hc)
          refine T_seq ?_
          refine T_region ?_
          refine TL_x ?_
          refine TL_store ?_
          refine TL_x ?_
          refine TL_nil ?_
          refine EThen_n ?_
          refine T_ret ?_
          refine EThen_ret ?_
          refine RetG_ret (.cons (.row rfl rfl Ty.r50 rfl (by first | exact .d _ | exact .box _ _ | exact .asl _ _ | exact .nil | exact .lit _ _ | exact .agg _ | exact .clo _ _ | exact .fnv _ | exact .tup _ | exact .el _ _ _ | exact .mp _ | exact .junk)) (.cons (.tmp _) .nil)) (.cons (by first | exact .d _ | exact .nil _ _ | exact .litn _ _ _ | exact .lit _ _ | exact .asl _ _ _ _ _ rfl rfl | exact .asln _ _ _ _ _ _ _ rfl rfl | exact .emp _ _ _ _ | exact .ofL (.cons (.nil 1 none) (.cons (.nil 1 none) .nil)) rfl | exact .ofL (.cons (.asl _ _ _ _ _ rfl (by simp)) (.cons (.asl _ _ _ _ _ rfl (by simp)) .nil)) rfl) (.cons (by first | exact .d _ | exact .nil _ _ | exact .litn _ _ _ | exact .lit _ _ | exact .asl _ _ _ _ _ rfl rfl | exact .asln _ _ _ _ _ _ _ rfl rfl | exact .emp _ _ _ _ | exact .ofL (.cons (.nil 1 none) (.cons (.nil 1 none) .nil)) rfl | exact .ofL (.cons (.asl _ _ _ _ _ rfl (by simp)) (.cons (.asl _ _ _ _ _ rfl (by simp)) .nil)) rfl) .nil)) ?_
          first | (rw [hno]; rfl) | (rw [hyes, ← vars_end hlast hx2, ← hx3]; rfl)
        ·
          intro hc
          have hw2 : (wayR a b (a.body.drop 0) (becP a b a.head b.head []).1).2 = true := by simpa using hc
          obtain ⟨E2, hE2⟩ : ∃ E2, (wayR a b (a.body.drop 0) (becP a b a.head b.head []).1).1 = E2 := ⟨_, rfl⟩
          rw [hE2]
          obtain ⟨hyes, hget⟩ := carries_yes hpa hpb hh hw2 hE2
          have hE2l : E2.ns.length ≤ 4294967296 := way_len hpa hpb hf1.1 hf2 hE2
          refine T_skip ?_
          refine EThen_n ?_
          refine T_seq ?_
          refine T_region ?_
          refine TL_x ?_
          refine TL_alloc 8 ?_
          refine TL_store ?_
          refine TL_nil ?_
          refine EThen_n ?_
          refine T_seq ?_
          refine T_seq ?_
          refine T_thawBox 8 0 500 1 9 (by decide) rfl rfl rfl (by repeat (first | exact noRefE0 | exact noRefE_envOf | refine noRefE_upd rfl ?_)) (by repeat (first | exact noRefH0 | refine noRefH_upd rfl ?_)) ?_
          refine T_thawBox 8 1 501 1 9 (by decide) rfl rfl rfl (by repeat (first | exact noRefE0 | exact noRefE_envOf | refine noRefE_upd rfl ?_)) (by repeat (first | exact noRefH0 | refine noRefH_upd rfl ?_)) ?_
          refine T_region ?_
          refine TL_x ?_
          refine TL_nil ?_
          refine EThen_n ?_
          refine T_block ?_
          refine T_loopF (α := Nat × List Bs × List Bs) (fun x => ⟨(upd (upd (upd (upd (upd env0 2 (.box 2 0)) 4 (.box 4 0)) 6 (.box 6 0)) 8 (.box 8 0)) 9 (.d (di (x.1 : Int)))), (upd (upd (upd (upd (upd (upd H0 2 (.box [.d (dexps a.exps), .d (di a.head.kind), .d (ds a.head.name), .d (dints a.head.args), .d (dlits a.body)])) 4 (.box [.nil, .nil])) 6 (.box [.d (dstrs E2.ns), .d (dstrs E2.vs)])) 8 (.box [.asl 500 x.2.1.length, .asl 501 x.2.2.length])) 500 (.arr true 1 9 (x.2.1.map ds))) 501 (.arr true 1 9 (x.2.2.map ds)))⟩) (fun x => x.1 ≤ a.exps.length ∧ x.2.1 = varsOf (a.exps.take x.1) ∧ x.2.2 = x.2.1.map (fun n => ((E2.get n).map (·.text)).getD [])) (fun x => a.exps.length - x.1) (0, [], []) (fgt_intro (fgt_upd rfl (fgt_upd rfl (fgt_upd rfl (fgt_upd rfl (fgt_upd rfl fgt_env0))))) (fgt_updH rfl (fgt_updH rfl (fgt_updH rfl (fgt_updH rfl (fgt_updH rfl (fgt_updH rfl fgt_H0))))))) ?_ ?_
          · exact ⟨Nat.zero_le _, rfl, rfl⟩
          rintro x ⟨hx1, hx2, hx3⟩
          refine T_seq ?_
          refine T_seq ?_
          refine T_region ?_
          iterate 5 refine TL_x ?_
          refine TL_nil ?_
          refine EThen_n ?_
          refine T_cond rfl ?_ ?_
          ·
            intro hc
            have hlt : x.1 < a.exps.length := by simpa using hc
            obtain ⟨e, he⟩ := get_some hlt
            have het := haT e (List.mem_of_getElem? he)
            have hxl : x.2.1.length ≤ a.exps.length := by rw [hx2]; exact Nat.le_trans (vars_take_len _ _) (by omega)
            have hxv : x.2.2.length = x.2.1.length := by rw [hx3]; simp
            refine T_skip ?_
            refine EThen_n ?_
            refine T_seq ?_
            refine T_block ?_
            refine T_seq ?_
            refine T_draw 19 Ty.mixed rfl ?_
            iterate 3 refine DGo_x ?_
            first | refine DGo_one rfl rfl (.go _ rfl (g_index_sl rfl rfl rfl Ty.s39 (by omega) (get_map he))) ?_ | refine DGo_one rfl rfl (.go _ rfl (g_index_lit rfl rfl rfl Ty.s39 (by omega) (get_map he))) ?_ | refine DGo_one rfl rfl (.go _ rfl (g_index_asl rfl rfl rfl rfl rfl Ty.s39 (by omega) (get_map he))) ?_
            iterate 3 refine DGo_x ?_
            refine DGo_bool rfl rfl (.go _ rfl (f_move rfl (by first | exact .d _ | exact .box _ _ | exact .asl _ _ | exact .nil | exact .lit _ _ | exact .agg _ | exact .clo _ _ | exact .fnv _ | exact .tup _ | exact .el _ _ _ | exact .mp _ | exact .junk))) ?_ ?_
            ·
              intro hg60
              first | refine DGo_one rfl rfl (.want _ _ _ _ rfl rfl rfl rfl (g_field_box rfl rfl Ty.f50_0 rfl)) ?_ | refine DGo_one rfl rfl (.want _ _ _ _ rfl rfl rfl rfl (g_field_pt rfl rfl Ty.f50_0 rfl)) ?_ | refine DGo_one rfl rfl (.want _ _ _ _ rfl rfl rfl rfl (g_field_el rfl rfl rfl rfl Ty.f50_0 rfl)) ?_
              first | refine DGo_one rfl rfl (.want _ _ _ _ rfl rfl rfl rfl (g_load_box rfl rfl Ty.c48 rfl rfl)) ?_ | refine DGo_one rfl rfl (.want _ _ _ _ rfl rfl rfl rfl (g_load_pt rfl rfl Ty.c48 rfl)) ?_ | refine DGo_one rfl rfl (.want _ _ _ _ rfl rfl rfl rfl (g_load_el rfl rfl Ty.c48 rfl rfl rfl)) ?_
              first | refine DGo_one rfl rfl (.want _ _ _ _ rfl rfl rfl rfl (g_field_box rfl rfl Ty.f43_0 rfl)) ?_ | refine DGo_one rfl rfl (.want _ _ _ _ rfl rfl rfl rfl (g_field_pt rfl rfl Ty.f43_0 rfl)) ?_ | refine DGo_one rfl rfl (.want _ _ _ _ rfl rfl rfl rfl (g_field_el rfl rfl rfl rfl Ty.f43_0 rfl)) ?_
              first | refine DGo_one rfl rfl (.want _ _ _ _ rfl rfl rfl rfl (g_load_box rfl rfl Ty.c39 rfl rfl)) ?_ | refine DGo_one rfl rfl (.want _ _ _ _ rfl rfl rfl rfl (g_load_pt rfl rfl Ty.c39 rfl)) ?_ | refine DGo_one rfl rfl (.want _ _ _ _ rfl rfl rfl rfl (g_load_el rfl rfl Ty.c39 rfl rfl rfl)) ?_
              refine DGo_one rfl rfl (.want _ _ _ _ rfl rfl rfl rfl (f_move rfl (by first | exact .d _ | exact .box _ _ | exact .asl _ _ | exact .nil | exact .lit _ _ | exact .agg _ | exact .clo _ _ | exact .fnv _ | exact .tup _ | exact .el _ _ _ | exact .mp _ | exact .junk))) ?_
              first | refine DGo_one rfl rfl (.want _ _ _ _ rfl rfl rfl rfl (g_index_sl rfl rfl rfl Ty.s39 (by omega) (get_map he))) ?_ | refine DGo_one rfl rfl (.want _ _ _ _ rfl rfl rfl rfl (g_index_lit rfl rfl rfl Ty.s39 (by omega) (get_map he))) ?_ | refine DGo_one rfl rfl (.want _ _ _ _ rfl rfl rfl rfl (g_index_asl rfl rfl rfl rfl rfl Ty.s39 (by omega) (get_map he))) ?_
              first | refine DGo_one rfl rfl (.want _ _ _ _ rfl rfl rfl rfl (g_field_box rfl rfl Ty.f82_1 rfl)) ?_ | refine DGo_one rfl rfl (.want _ _ _ _ rfl rfl rfl rfl (g_field_pt rfl rfl Ty.f82_1 rfl)) ?_ | refine DGo_one rfl rfl (.want _ _ _ _ rfl rfl rfl rfl (g_field_el rfl rfl rfl rfl Ty.f82_1 rfl)) ?_
              first | refine DGo_one rfl rfl (.want _ _ _ _ rfl rfl rfl rfl (g_load_box rfl rfl Ty.c9 rfl rfl)) ?_ | refine DGo_one rfl rfl (.want _ _ _ _ rfl rfl rfl rfl (g_load_pt rfl rfl Ty.c9 rfl)) ?_ | refine DGo_one rfl rfl (.want _ _ _ _ rfl rfl rfl rfl (g_load_el rfl rfl Ty.c9 rfl rfl rfl)) ?_
              refine DGo_one rfl rfl (.want _ _ _ _ rfl rfl rfl rfl (g_callB (n := 2) rfl rfl Fk.ok44 rfl rfl (Frz_arr 500 rfl (Frz_refl _)) ?_ rfl (by first | exact .d _ | exact .box _ _ | exact .asl _ _ | exact .nil | exact .lit _ _ | exact .agg _ | exact .clo _ _ | exact .fnv _ | exact .tup _ | exact .el _ _ _ | exact .mp _ | exact .junk) (fun w F => PC_l05In x.2.1 e.text (by omega) w F))) ?_
              · exact (.cons (.d (.asl _ _ _ _ _ rfl (by simp))) (.cons (by first | exact .d (.d _) | exact .d (.nil _ _) | exact .d (.litn _ _ _) | exact .d (.lit _ _) | exact .d (.asl _ _ _ _ _ rfl rfl) | exact .d (.asln _ _ _ _ _ _ _ rfl rfl) | exact .fnv _ | exact .d (.emp _ _ _ _)) .nil))
              refine DGo_one rfl rfl (.want _ _ _ _ rfl rfl rfl rfl (g_not rfl rfl)) ?_
              refine DGo_x ?_
              refine DGo_nil ?_
              refine TL_nil ?_
              refine EThen_n ?_
              refine T_cond rfl ?_ ?_
              ·
                intro hc
                have hkk : e.kind = 1 ∧ e.text ∉ x.2.1 := by simp at hg60 hc; exact ⟨hg60, hc⟩
                obtain ⟨v, hv⟩ := hget e.text (vars_mem.2 ⟨e, List.mem_of_getElem? he, hkk.1, rfl⟩)
                refine T_seq ?_
                refine T_draw 13 Ty.mixed rfl ?_
                iterate 4 refine DGo_x ?_
                first | refine DGo_one rfl rfl (.go _ rfl (g_index_sl rfl rfl rfl Ty.s39 (by omega) (get_map he))) ?_ | refine DGo_one rfl rfl (.go _ rfl (g_index_lit rfl rfl rfl Ty.s39 (by omega) (get_map he))) ?_ | refine DGo_one rfl rfl (.go _ rfl (g_index_asl rfl rfl rfl rfl rfl Ty.s39 (by omega) (get_map he))) ?_
                iterate 2 refine DGo_x ?_
                refine DGo_one rfl rfl (.go _ rfl (c_call rfl rfl Fk.ok55 (fun w F => PC_get E2 E2.ns E2.vs e.text (some v) hv rfl rfl hE2l w F))) ?_
                iterate 5 refine DGo_x ?_
                refine DGo_nil ?_
                refine TL_nil ?_
                refine EThen_n ?_
                refine T_seq ?_
                refine T_drawE 11 [500] [] Ty.mixed rfl (by intro A hA; cases hA) ?_
                iterate 5 refine DE_x ?_
                first | refine DE_pure (by (repeat intro _); exact (g_index_sl rfl rfl rfl Ty.s39 (by omega) (get_map he))) ?_ | refine DE_pure (by (repeat intro _); exact (g_index_lit rfl rfl rfl Ty.s39 (by omega) (get_map he))) ?_ | refine DE_pure (by (repeat intro _); exact (g_index_asl rfl rfl rfl rfl rfl Ty.s39 (by omega) (get_map he))) ?_
                iterate 3 refine DE_x ?_
                refine DE_eff false (e_append (l2 := [ds e.text]) (l' := (x.2.1 ++ [e.text]).map ds) (m := (x.2.1 ++ [e.text]).length) rfl rfl rfl rfl rfl (by simp) (fun _ => .lit _) Ty.e48 (by simp) (by simp) (by first | omega | (simp; omega)) (by unfold maxLen; first | omega | (simp; omega))) ?_
                refine DE_x ?_
                refine DE_nil 11 [0, 1, 0, 4, 0, 28, 60, 124, 252, 511, 1023, 2047] ?_
                refine TL_store ?_
                refine TL_nil ?_
                refine EThen_n ?_
                refine T_drawE 7 [501] [] Ty.mixed rfl (by intro A hA; cases hA) ?_
                iterate 3 refine DE_x ?_
                refine DE_pure (by intro _; exact g_sslice_eq (r := v.text) rfl rfl Ty.str9 (.none _) (.some _ rfl (by decide)) (vt_one v).1 (Nat.le_refl _) (vt_one v).2) ?_
                refine DE_x ?_
                refine DE_eff false (e_append (l2 := [ds v.text]) (l' := (x.2.2 ++ [v.text]).map ds) (m := (x.2.2 ++ [v.text]).length) rfl rfl rfl rfl rfl (by simp) (fun _ => .lit _) Ty.e48 (by simp) (by simp) (by first | omega | (simp; omega)) (by unfold maxLen; first | omega | (simp; omega))) ?_
                refine DE_x ?_
                refine DE_nil 7 [0, 1, 0, 4, 12, 31, 63, 127] ?_
                refine TL_store ?_
                refine TL_nil ?_
                refine EBlock_n ?_
                refine EThen_n ?_
                refine T_region ?_
                iterate 3 refine TL_x ?_
                refine TL_nil ?_
                refine EThen_n ⟨(x.1 + 1, x.2.1 ++ [e.text], x.2.2 ++ [v.text]), (fgt_intro (fgt_upd rfl (fgt_upd rfl (fgt_upd rfl (fgt_upd rfl (fgt_upd rfl fgt_env0))))) (fgt_updH rfl (fgt_updH rfl (fgt_updH rfl (fgt_updH rfl (fgt_updH rfl (fgt_updH rfl fgt_H0))))))), ?_, ?_⟩
                · exact ⟨hlt, by dsimp only; rw [hx2] at hkk ⊢; exact (vars_yes he hkk).symm, by dsimp only; rw [List.map_append, hx3]; simp [hv]⟩
                · dsimp only; omega
              ·
                intro hc
                have hkk : ¬ (e.kind = 1 ∧ e.text ∉ x.2.1) := by simp at hg60 hc; simp [hg60, hc]
                refine T_skip ?_
                refine EBlock_n ?_
                refine EThen_n ?_
                refine T_region ?_
                iterate 3 refine TL_x ?_
                refine TL_nil ?_
                refine EThen_n ⟨(x.1 + 1, x.2.1, x.2.2), (fgt_intro (fgt_upd rfl (fgt_upd rfl (fgt_upd rfl (fgt_upd rfl (fgt_upd rfl fgt_env0))))) (fgt_updH rfl (fgt_updH rfl (fgt_updH rfl (fgt_updH rfl (fgt_updH rfl (fgt_updH rfl fgt_H0))))))), ?_, ?_⟩
                · exact ⟨hlt, by dsimp only; rw [hx2] at hkk ⊢; exact (vars_no he hkk).symm, hx3⟩
                · dsimp only; omega
            ·
              intro hg60
              refine DGo_skip rfl rfl rfl rfl rfl rfl rfl ?_
              refine DGo_skip rfl rfl rfl rfl rfl rfl rfl ?_
              refine DGo_skip rfl rfl rfl rfl rfl rfl rfl ?_
              refine DGo_skip rfl rfl rfl rfl rfl rfl rfl ?_
              refine DGo_skip rfl rfl rfl rfl rfl rfl rfl ?_
              refine DGo_skip rfl rfl rfl rfl rfl rfl rfl ?_
              refine DGo_skip rfl rfl rfl rfl rfl rfl rfl ?_
              refine DGo_skip rfl rfl rfl rfl rfl rfl rfl ?_
              refine DGo_skip rfl rfl rfl rfl rfl rfl rfl ?_
              refine DGo_skip rfl rfl rfl rfl rfl rfl rfl ?_
              refine DGo_x ?_
              refine DGo_nil ?_
              refine TL_nil ?_
              refine EThen_n ?_
              refine T_cond_f rfl ?_
              have hkk : ¬ (e.kind = 1 ∧ e.text ∉ x.2.1) := by simp at hg60; simp [hg60]
              refine T_skip ?_
              refine EBlock_n ?_
              refine EThen_n ?_
              refine T_region ?_
              iterate 3 refine TL_x ?_
              refine TL_nil ?_
              refine EThen_n ⟨(x.1 + 1, x.2.1, x.2.2), (fgt_intro (fgt_upd rfl (fgt_upd rfl (fgt_upd rfl (fgt_upd rfl (fgt_upd rfl fgt_env0))))) (fgt_updH rfl (fgt_updH rfl (fgt_updH rfl (fgt_updH rfl (fgt_updH rfl (fgt_updH rfl fgt_H0))))))), ?_, ?_⟩
              · exact ⟨hlt, by dsimp only; rw [hx2] at hkk ⊢; exact (vars_no he hkk).symm, hx3⟩
              · dsimp only; omega
          ·
            intro hc
            have hlast : ¬ x.1 < a.exps.length := by simpa using hc
            refine T_exit ?_
            refine EThen_exit ?_
            refine EThen_exit ?_
            refine EBlock_same ?_
            refine EThen_n ?_
            refine T_seq ?_
            refine T_freeze 500 rfl ?_
            refine T_freeze 501 rfl ?_
            refine T_region ?_
            refine TL_x ?_
            refine TL_store ?_
            refine TL_x ?_
            refine TL_nil ?_
            refine EThen_n ?_
            refine T_ret ?_
            refine RetG_ret (.cons (.row rfl rfl Ty.r50 rfl (by first | exact .d _ | exact .box _ _ | exact .asl _ _ | exact .nil | exact .lit _ _ | exact .agg _ | exact .clo _ _ | exact .fnv _ | exact .tup _ | exact .el _ _ _ | exact .mp _ | exact .junk)) (.cons (.tmp _) .nil)) (.cons (by first | exact .d _ | exact .nil _ _ | exact .litn _ _ _ | exact .lit _ _ | exact .asl _ _ _ _ _ rfl rfl | exact .asln _ _ _ _ _ _ _ rfl rfl | exact .emp _ _ _ _ | exact .ofL (.cons (.nil 1 none) (.cons (.nil 1 none) .nil)) rfl | exact .ofL (.cons (.asl _ _ _ _ _ rfl (by simp)) (.cons (.asl _ _ _ _ _ rfl (by simp)) .nil)) rfl) (.cons (by first | exact .d _ | exact .nil _ _ | exact .litn _ _ _ | exact .lit _ _ | exact .asl _ _ _ _ _ rfl rfl | exact .asln _ _ _ _ _ _ _ rfl rfl | exact .emp _ _ _ _ | exact .ofL (.cons (.nil 1 none) (.cons (.nil 1 none) .nil)) rfl | exact .ofL (.cons (.asl _ _ _ _ _ rfl (by simp)) (.cons (.asl _ _ _ _ _ rfl (by simp)) .nil)) rfl) .nil)) ?_
            first | (rw [hno]; rfl) | (rw [hyes, ← vars_end hlast hx2, ← hx3]; rfl)

set_option maxHeartbeats 4000000 in
theorem PC_sContains (a b : Rule) (hwa : a.wt ≤ 4294967296) (hwb : b.wt ≤ 4294967296) (w : World) (F : Fz) : PC Try.prog 20 w F [.d (a.d), .d (b.d)] (· = [db (Rule.carries a b).isSome]) := by
  refine PC_of_T' (rs := [4]) (n := 14) Try.func20 rfl rfl rfl rfl ?_
  refine T_seq ?_
  refine T_region ?_
  refine TL_box 2 ?_
  refine TL_box 3 ?_
  refine TL_x ?_
  refine TL_nil ?_
  refine EThen_n ?_
  refine T_seq ?_
  refine T_region ?_
  iterate 2 refine TL_x ?_
  refine TL_o rfl rfl rfl (c_call rfl rfl Fk.ok22 (fun w F => PC_sCarries a b hwa hwb w F)) ?_
  iterate 3 refine TL_x ?_
  refine TL_alloc 5 ?_
  refine TL_store ?_
  refine TL_x ?_
  refine TL_nil ?_
  refine EThen_n ?_
  refine T_seq ?_
  refine T_region ?_
  iterate 2 refine TL_x ?_
  refine TL_nil ?_
  refine EThen_n ?_
  refine T_ret ?_
  refine Ret_ret ?_
  rfl

end Go.Proofs
