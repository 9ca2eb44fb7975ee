/- Contracts of functions of the program, each under the conditions that its statement names. -/
import Derived.Test.YtkfcpnaiimcjeaaDoorQFD
import Derived.Test.YtkfcpnaiimcjeaaDoorQSpec
set_option linter.unusedVariables false
set_option linter.unusedSimpArgs false
namespace Go.Proofs
open Go.Q
attribute [local irreducible] Go.Q.GStep Go.Q.SStep Go.Q.T Go.Q.TL Go.Q.PC Go.Q.DGo
set_option maxHeartbeats 4000000 in
theorem PC_l04Side (r : Rule) (o o2 : List Bs) (n : Int) (e : Q.Exp) (h0 : 0 ≤ n) (he : r.exps[n.toNat]? = some e) (ho : o[n.toNat]? = some (at_ o2 n)) (hb : (at_ o2 n).length ≤ 4611686018427387904) (w : World) (F : Fz)  : PC Tryd.prog 63 w F [.d (r.d), .d (dstrs o), .d (di n)] (· = [ds (side r.exps o2 n)]) := by
  refine PC_of_T' (rs := [6]) (n := 24) Tryd.func63 rfl rfl rfl rfl ?_
  refine T_seq ?_
  refine T_region ?_
  refine TL_box 3 ?_
  refine TL_x ?_
  refine TL_nil ?_
  refine EThen_n ?_
  refine T_seq ?_
  refine T_seq ?_
  refine T_region ?_
  iterate 3 refine TL_x ?_
  first | refine TL_o rfl rfl rfl (g_index_sl rfl rfl rfl Ty.s31 (by omega) (get_map he)) ?_ | refine TL_o rfl rfl rfl (g_index_lit rfl rfl rfl Ty.s31 (by omega) (get_map he)) ?_ | refine TL_o rfl rfl rfl (g_index_asl rfl rfl rfl rfl rfl Ty.s31 (by omega) (get_map he)) ?_
  iterate 2 refine TL_x ?_
  refine TL_o rfl rfl rfl (c_call rfl rfl Fk.ok62 (fun w F => PC_l01Between e.kind 5 7 w F)) ?_
  refine TL_nil ?_
  refine EThen_n ?_
  refine T_cond rfl ?_ ?_
  ·
    intro hc
    refine T_seq ?_
    refine T_region ?_
    iterate 2 refine TL_x ?_
    first | refine TL_o rfl rfl rfl (g_index_sl rfl rfl rfl Ty.s60 (by omega) (get_map ho)) ?_ | refine TL_o rfl rfl rfl (g_index_lit rfl rfl rfl Ty.s60 (by omega) (get_map ho)) ?_ | refine TL_o rfl rfl rfl (g_index_asl rfl rfl rfl rfl rfl Ty.s60 (by omega) (get_map ho)) ?_
    iterate 4 refine TL_x ?_
    refine TL_nil ?_
    refine EThen_n ?_
    refine T_ret ?_
    refine EThen_ret ?_
    refine Ret_ret ?_
    have h1 : Q.isSum e.kind = true := hc
    simp [side, kindAt, he, h1]
  ·
    intro hc
    refine T_skip ?_
    refine EThen_n ?_
    refine T_seq ?_
    refine T_region ?_
    iterate 2 refine TL_x ?_
    first | refine TL_o rfl rfl rfl (g_index_sl rfl rfl rfl Ty.s60 (by omega) (get_map ho)) ?_ | refine TL_o rfl rfl rfl (g_index_lit rfl rfl rfl Ty.s60 (by omega) (get_map ho)) ?_ | refine TL_o rfl rfl rfl (g_index_asl rfl rfl rfl rfl rfl Ty.s60 (by omega) (get_map ho)) ?_
    iterate 2 refine TL_x ?_
    refine TL_nil ?_
    refine EThen_n ?_
    refine T_ret ?_
    refine Ret_ret ?_
    have h1 : Q.isSum e.kind = false := hc
    simp [side, kindAt, he, h1]

set_option maxHeartbeats 4000000 in
theorem PC_l04Exps (r : Rule) (hl : r.exps.length ≤ 4294967296) (hb : r.body.length ≤ 4294967296) (hu : r.uses.length ≤ 4294967296) (hk : ∀ e ∈ r.exps, e.kids.length ≤ 4294967296) (hk2 : ∀ e ∈ r.lits, e.args.length ≤ 4294967296) (ht : ∀ e ∈ r.exps, e.text.length ≤ 4294967296) (w : World) (F : Fz)  : PC Tryd.prog 37 w F [.d (r.d)] (· = [dstrs r.specExps.1, db r.specExps.2]) := by
  refine PC_of_T' (rs := [2, 3]) (n := 224) Tryd.func37 rfl rfl rfl rfl ?_
  refine T_seq ?_
  have hll : r.lits.length ≤ 4294967297 := by simp [Rule.lits]; omega
  refine T_region ?_
  refine TL_box 1 ?_
  try refine TL_freeze 28 rfl ?_
  refine TL_o rfl rfl rfl (f_assign rfl (by first | exact .d _ | exact .box _ _ | exact .asl _ _ | exact .nil | exact .lit _ _ | exact .agg _ | exact .clo _ _ | exact .fnv _ | exact .tup _ | exact .el _ _ _ | exact .mp _ | exact .junk)) ?_
  refine TL_x ?_
  refine TL_nil ?_
  refine EThen_n ?_
  refine T_seq ?_
  refine T_seq ?_
  refine T_region ?_
  iterate 4 refine TL_x ?_
  refine TL_nil ?_
  refine EThen_n ?_
  refine T_cond rfl ?_ ?_
  ·
    intro hc
    refine T_seq ?_
    refine T_region ?_
    refine TL_x ?_
    try refine TL_freeze 28 rfl ?_
    refine TL_o rfl rfl rfl (f_assign rfl (by first | exact .d _ | exact .box _ _ | exact .asl _ _ | exact .nil | exact .lit _ _ | exact .agg _ | exact .clo _ _ | exact .fnv _ | exact .tup _ | exact .el _ _ _ | exact .mp _ | exact .junk)) ?_
    refine TL_x ?_
    refine TL_nil ?_
    refine EThen_n ?_
    refine T_ret ?_
    refine EThen_ret ?_
    refine RetQ_ret (.cons (by first | exact .d _ | exact .nil _ _ | exact .litn _ _ _ | exact .lit _ _ | exact .asl _ _ _ _ _ rfl rfl | exact .asln _ _ _ _ _ _ _ rfl rfl | exact .emp _ _ _ _ | exact .asl _ _ _ _ _ rfl (by simp [pad_len hx1])) (.cons (by first | exact .d _ | exact .nil _ _ | exact .litn _ _ _ | exact .lit _ _ | exact .asl _ _ _ _ _ rfl rfl | exact .asln _ _ _ _ _ _ _ rfl rfl | exact .emp _ _ _ _ | exact .asl _ _ _ _ _ rfl (by simp [pad_len hx1])) .nil)) ?_
    first | rw [spec_fail h60 hx3 he hff] | (rw [spec_big (by simp at hc; omega)]; rfl) | (rw [spec_end (b := false) h60 hxx hx3 (by rw [hao]; rfl)]) | (rw [spec_end (b := false) h60 hxx hx3 (by rw [hao, ← huse, any_bad hlt3 (by simp at hc; omega)]; rfl)]) | (rw [spec_end (b := true) h60 hxx hx3 (by rw [hao, ← huse, any_good (fun p hp => hp2 p (by omega))]; rfl)])
  ·
    intro hc
    have h60 : ¬ r.exps.length > 60 := by simp at hc; omega
    refine T_skip ?_
    refine EThen_n ?_
    refine T_seq ?_
    refine T_region ?_
    iterate 3 refine TL_x ?_
    refine TL_s rfl (s_makeSlice1 (f := di) (zx := 0) (id := 24) rfl rfl rfl rfl rfl Ty.e23 Ty.z3 (.s _ rfl) di_cells (by simp; omega) (by unfold maxLen; simp; omega) (cnt_nil _) (by repeat (first | exact noRefE0 | exact noRefE_envOf | refine noRefE_upd rfl ?_)) (by repeat (first | exact noRefH0 | refine noRefH_upd rfl ?_))) ?_
    refine TL_x ?_
    refine TL_nil ?_
    refine EThen_n ?_
    refine T_seq ?_
    refine T_region ?_
    iterate 3 refine TL_x ?_
    refine TL_s rfl (s_makeSlice1 (f := ds) (zx := []) (id := 28) rfl rfl rfl rfl rfl Ty.e60 Ty.z9 (.s _ rfl) ds_cells (by simp; omega) (by unfold maxLen; simp; omega) (show _ = r.pad 0 by rw [List.length_map]; exact pad_zero r) (by repeat (first | exact noRefE0 | exact noRefE_envOf | refine noRefE_upd rfl ?_)) (by repeat (first | exact noRefH0 | refine noRefH_upd rfl ?_))) ?_
    refine TL_x ?_
    refine TL_nil ?_
    refine EThen_n ?_
    refine T_seq ?_
    refine T_seq ?_
    refine T_region ?_
    refine TL_x ?_
    refine TL_nil ?_
    refine EThen_n ?_
    refine T_block ?_
    refine T_loopF (α := Nat × List Int) (fun x => ⟨(upd (upd (upd (upd env0 1 (.box 1 0)) 4 (.asl 24 (r.exps.map Q.Exp.d).length)) 5 (.asl 28 (r.exps.map Q.Exp.d).length)) 6 (.d (di (x.1 : Int)))), (upd (upd (upd H0 1 (.box [.d (dexps r.exps), .d (di r.head.kind), .d (ds r.head.name), .d (dints r.head.args), .d (dlits r.body)])) 24 (.arr true 1 3 ((cnt (r.exps.map Q.Exp.d).length x.2).map di))) 28 (.arr true 1 9 ((r.pad x.1).map ds)))⟩) (fun x => x.1 ≤ r.exps.length ∧ x.2 = kidsOf (r.exps.take x.1) ∧ (∀ (j : Nat) (e : Q.Exp), j < x.1 → r.exps[j]? = some e → e.fine r j = true)) (fun x => r.exps.length - x.1) (0, []) (fgt_intro (fgt_upd rfl (fgt_upd rfl (fgt_upd rfl (fgt_upd rfl fgt_env0)))) (fgt_updH rfl (fgt_updH rfl (fgt_updH rfl fgt_H0)))) ?_ ?_
    · exact ⟨Nat.zero_le _, rfl, fun j e h => by simp at h⟩
    rintro x ⟨hx1, hx2, hx3⟩
    refine T_seq ?_
    refine T_seq ?_
    refine T_region ?_
    iterate 5 refine TL_x ?_
    refine TL_nil ?_
    refine EThen_n ?_
    refine T_cond rfl ?_ ?_
    ·
      intro hc
      have hlt : x.1 < r.exps.length := by simpa using hc
      obtain ⟨e, he⟩ := get_some hlt
      have hke := hk e (List.mem_of_getElem? he)
      have hte := ht e (List.mem_of_getElem? he)
      refine T_skip ?_
      refine EThen_n ?_
      refine T_seq ?_
      refine T_block ?_
      refine T_seq ?_
      refine T_region ?_
      iterate 3 refine TL_x ?_
      first | refine TL_o rfl rfl rfl (g_index_sl rfl rfl rfl Ty.s31 (by omega) (get_map he)) ?_ | refine TL_o rfl rfl rfl (g_index_lit rfl rfl rfl Ty.s31 (by omega) (get_map he)) ?_ | refine TL_o rfl rfl rfl (g_index_asl rfl rfl rfl rfl rfl Ty.s31 (by omega) (get_map he)) ?_
      refine TL_x ?_
      refine TL_alloc 7 ?_
      refine TL_store ?_
      refine TL_nil ?_
      refine EThen_n ?_
      refine T_seq ?_
      refine T_seq ?_
      refine T_region ?_
      refine TL_x ?_
      refine TL_nil ?_
      refine EThen_n ?_
      refine T_block ?_
      refine T_loopF (α := Nat × List Int) (fun y => ⟨(upd (upd (upd (upd (upd (upd env0 1 (.box 1 0)) 4 (.asl 24 (r.exps.map Q.Exp.d).length)) 5 (.asl 28 (r.exps.map Q.Exp.d).length)) 6 (.d (di (x.1 : Int)))) 7 (.box 7 0)) 8 (.d (di (y.1 : Int)))), (upd (upd (upd (upd H0 1 (.box [.d (dexps r.exps), .d (di r.head.kind), .d (ds r.head.name), .d (dints r.head.args), .d (dlits r.body)])) 24 (.arr true 1 3 ((cnt (r.exps.map Q.Exp.d).length y.2).map di))) 28 (.arr true 1 9 ((r.pad x.1).map ds))) 7 (.box [.d (di e.kind), .d (ds e.text), .d (dints e.kids)]))⟩) (fun y => y.1 ≤ e.kids.length ∧ y.2 = x.2 ++ e.kids.take y.1 ∧ (∀ j a, j < y.1 → e.kids[j]? = some a → inR a 0 ((x.1 : Int) - 1) = true)) (fun y => e.kids.length - y.1) (0, x.2) (fgt_intro (fgt_upd rfl (fgt_upd rfl (fgt_upd rfl (fgt_upd rfl (fgt_upd rfl (fgt_upd rfl fgt_env0)))))) (fgt_updH rfl (fgt_updH rfl (fgt_updH rfl (fgt_updH rfl fgt_H0))))) ?_ ?_
      · exact ⟨Nat.zero_le _, by simp, fun j e h => by simp at h⟩
      rintro y ⟨hy1, hy2, hy3⟩
      refine T_seq ?_
      refine T_seq ?_
      refine T_region ?_
      iterate 5 refine TL_x ?_
      refine TL_nil ?_
      refine EThen_n ?_
      refine T_cond rfl ?_ ?_
      ·
        intro hc
        have hlt2 : y.1 < e.kids.length := by simpa using hc
        obtain ⟨a, ha⟩ := get_some hlt2
        refine T_skip ?_
        refine EThen_n ?_
        refine T_seq ?_
        refine T_block ?_
        refine T_seq ?_
        refine T_seq ?_
        refine T_region ?_
        iterate 3 refine TL_x ?_
        first | refine TL_o rfl rfl rfl (g_index_sl rfl rfl rfl Ty.s23 (by omega) (get_map ha)) ?_ | refine TL_o rfl rfl rfl (g_index_lit rfl rfl rfl Ty.s23 (by omega) (get_map ha)) ?_ | refine TL_o rfl rfl rfl (g_index_asl rfl rfl rfl rfl rfl Ty.s23 (by omega) (get_map ha)) ?_
        iterate 3 refine TL_x ?_
        refine TL_o rfl rfl rfl (c_call rfl rfl Fk.ok62 (fun w F => PC_l01Between a 0 ((x.1 : Int) - 1) w F)) ?_
        refine TL_x ?_
        refine TL_nil ?_
        refine EThen_n ?_
        refine T_cond rfl ?_ ?_
        ·
          intro hc
          have hff : e.fine r x.1 = false := by
            have hna : e.kids.all (fun k => inR k 0 ((x.1 : Int) - 1)) = false := not_all ha (by unfold inR; simpa only [Bool.not_eq_true'] using hc)
            simp [Exp.fine, Exp.ok, hna]
          refine T_seq ?_
          refine T_region ?_
          refine TL_x ?_
          try refine TL_freeze 28 rfl ?_
          refine TL_o rfl rfl rfl (f_assign rfl (by first | exact .d _ | exact .box _ _ | exact .asl _ _ | exact .nil | exact .lit _ _ | exact .agg _ | exact .clo _ _ | exact .fnv _ | exact .tup _ | exact .el _ _ _ | exact .mp _ | exact .junk)) ?_
          refine TL_x ?_
          refine TL_nil ?_
          refine EThen_n ?_
          refine T_ret ?_
          refine EThen_ret ?_
          refine EBlock_ret ?_
          refine EThen_ret ?_
          refine EThen_ret ?_
          refine EBlock_ret ?_
          refine EThen_ret ?_
          refine EBlock_ret ?_
          refine EThen_ret ?_
          refine EThen_ret ?_
          refine EBlock_ret ?_
          refine EThen_ret ?_
          refine RetQ_ret (.cons (by first | exact .d _ | exact .nil _ _ | exact .litn _ _ _ | exact .lit _ _ | exact .asl _ _ _ _ _ rfl rfl | exact .asln _ _ _ _ _ _ _ rfl rfl | exact .emp _ _ _ _ | exact .asl _ _ _ _ _ rfl (by simp [pad_len hx1])) (.cons (by first | exact .d _ | exact .nil _ _ | exact .litn _ _ _ | exact .lit _ _ | exact .asl _ _ _ _ _ rfl rfl | exact .asln _ _ _ _ _ _ _ rfl rfl | exact .emp _ _ _ _ | exact .asl _ _ _ _ _ rfl (by simp [pad_len hx1])) .nil)) ?_
          first | rw [spec_fail h60 hx3 he hff] | (rw [spec_big (by simp at hc; omega)]; rfl) | (rw [spec_end (b := false) h60 hxx hx3 (by rw [hao]; rfl)]) | (rw [spec_end (b := false) h60 hxx hx3 (by rw [hao, ← huse, any_bad hlt3 (by simp at hc; omega)]; rfl)]) | (rw [spec_end (b := true) h60 hxx hx3 (by rw [hao, ← huse, any_good (fun p hp => hp2 p (by omega))]; rfl)])
        ·
          intro hc
          have har : inR a 0 ((x.1 : Int) - 1) = true := by simpa [inR] using hc
          have ha0 : 0 ≤ a := by simp [inR] at har; exact har.1
          have ha1 : a < r.exps.length := by simp [inR] at har; omega
          have hp : y.2 <+: r.uses := uses_pre1 hx2 he hy2
          refine T_skip ?_
          refine EThen_n ?_
          refine T_region ?_
          iterate 4 refine TL_x ?_
          first | refine TL_o rfl rfl rfl (g_index_sl rfl rfl rfl Ty.s23 (by omega) (get_map ha)) ?_ | refine TL_o rfl rfl rfl (g_index_lit rfl rfl rfl Ty.s23 (by omega) (get_map ha)) ?_ | refine TL_o rfl rfl rfl (g_index_asl rfl rfl rfl rfl rfl Ty.s23 (by omega) (get_map ha)) ?_
          refine TL_x ?_
          refine TL_o rfl rfl rfl (g_index_el1 rfl rfl rfl rfl Ty.s23 (by simp [cnt]) ha0 (by simp [cnt]; omega)) ?_
          refine TL_o rfl rfl rfl (g_load_el1 (f := di) rfl rfl Ty.c3 rfl di_cells (by simp [cnt]) (cnt_get ha0 (by simp; omega))) ?_
          refine TL_o rfl rfl rfl (g_add rfl rfl rfl (wr64 _ (by have := cnt_le hu hp a; omega))) ?_
          refine TL_o rfl rfl rfl (g_index_el1 rfl rfl rfl rfl Ty.s23 (by simp [cnt]) ha0 (by simp [cnt]; omega)) ?_
          refine TL_s rfl (s_store_el1 (f := di) rfl rfl rfl rfl (.d _) (.d _) Ty.n3 di_cells (by simp [cnt]) (by simp [cnt]; omega) (cnt_set ha0 (by simp; omega))) ?_
          refine TL_nil ?_
          refine EBlock_n ?_
          refine EThen_n ?_
          refine T_region ?_
          iterate 3 refine TL_x ?_
          refine TL_nil ?_
          refine EThen_n ⟨(y.1 + 1, y.2 ++ [a]), (fgt_intro (fgt_upd rfl (fgt_upd rfl (fgt_upd rfl (fgt_upd rfl (fgt_upd rfl (fgt_upd rfl fgt_env0)))))) (fgt_updH rfl (fgt_updH rfl (fgt_updH rfl (fgt_updH rfl fgt_H0))))), ?_, ?_⟩
          · exact inner_next (q := fun a => inR a 0 ((x.1 : Int) - 1)) hy1 hy2 hy3 ha har
          · dsimp only; omega
      ·
        intro hc
        have hlast : ¬ y.1 < e.kids.length := by simpa using hc
        have hall := all_of hlast hy3
        have hkin := kids_in2 hall
        have hV : y.2 = kidsOf (r.exps.take (x.1 + 1)) := by rw [hy2, hx2, List.take_of_length_le (l := e.kids) (by omega)]; exact (flat_take _ he).symm
        have hfl : ∀ k ∈ e.kids, (at_ r.outs k).length ≤ 3000 := fun k hk => fine_len hx3 (hkin k hk).1 (hkin k hk).2 hx1
        refine T_exit ?_
        refine EThen_exit ?_
        refine EThen_exit ?_
        refine EBlock_same ?_
        refine EThen_n ?_
        refine T_seq ?_
        refine T_region ?_
        refine TL_x ?_
        refine TL_nil ?_
        refine EThen_n ?_
        refine T_cut (α := Bs) (fun s => ⟨(upd (upd (upd (upd (upd (upd env0 1 (.box 1 0)) 4 (.asl 24 (r.exps.map Q.Exp.d).length)) 5 (.asl 28 (r.exps.map Q.Exp.d).length)) 6 (.d (di (x.1 : Int)))) 7 (.box 7 0)) 9 (.d (ds s))), (upd (upd (upd (upd H0 1 (.box [.d (dexps r.exps), .d (di r.head.kind), .d (ds r.head.name), .d (dints r.head.args), .d (dlits r.body)])) 24 (.arr true 1 3 ((cnt (r.exps.map Q.Exp.d).length y.2).map di))) 28 (.arr true 1 9 ((r.pad x.1).map ds))) 7 (.box [.d (di e.kind), .d (ds e.text), .d (dints e.kids)]))⟩) (fun s => s = e.txt r.exps r.outs ∧ inR e.kind 1 7 = true ∧ (Q.isSum e.kind = true → e.kids.length = 2)) ?_ ?_
        ·
          refine T_seq ?_
          refine T_region ?_
          iterate 2 refine TL_x ?_
          refine TL_nil ?_
          refine EThen_n ?_
          refine T_block ?_
          refine T_seq ?_
          refine T_seq ?_
          refine T_region ?_
          iterate 2 refine TL_x ?_
          refine TL_nil ?_
          refine EThen_n ?_
          refine T_cond rfl ?_ ?_
          ·
            intro hc
            have hck71 := hc
            refine T_skip ?_
            refine EThen_n ?_
            refine T_cond_ht rfl hck71 ?_
            have hk13 : e.kind = 1 ∨ e.kind = 3 := by first | (left; simpa using hck71) | (right; simpa using hck71)
            refine T_region ?_
            iterate 3 refine TL_x ?_
            refine TL_nil ?_
            refine EBlock_n ?_
            refine EThen_n ⟨_, (fgt_intro (fgt_upd rfl (fgt_upd rfl (fgt_upd rfl (fgt_upd rfl (fgt_upd rfl (fgt_upd rfl fgt_env0)))))) (fgt_updH rfl (fgt_updH rfl (fgt_updH rfl (fgt_updH rfl fgt_H0))))), ?_⟩
            · first | (rcases hk13 with h | h <;> exact ⟨by simp [Exp.txt, h, Q.isSum, inR], by simp [h, inR], by simp [h, Q.isSum, inR]⟩) | (have h00 := hk2'; exact ⟨by simp [Exp.txt, hk2'], by simp [hk2', inR], by simp [hk2', Q.isSum, inR]⟩) | (have h00 := hsum; exact ⟨by rw [txt_sum hsum hab], by simp [Q.isSum, inR] at hsum ⊢; omega, fun _ => hk22⟩) | (have h00 := hkT; exact ⟨by rw [hq2]; exact kids_full_t hk4 hql hkT, by simp [hk4, inR], by simp [hk4, Q.isSum, inR]⟩) | (have h00 := hkF; exact ⟨by rw [hq2]; exact kids_full_f hk4 hql hkF, by simp [hk4, inR], by simp [hk4, Q.isSum, inR]⟩)
          ·
            intro hc
            have hck71 := hc
            refine T_region ?_
            iterate 2 refine TL_x ?_
            refine TL_nil ?_
            refine EThen_n ?_
            refine T_cond rfl ?_ ?_
            ·
              intro hc
              have hck71 := hc
              have hk13 : e.kind = 1 ∨ e.kind = 3 := by first | (left; simpa using hck71) | (right; simpa using hck71)
              refine T_region ?_
              iterate 3 refine TL_x ?_
              refine TL_nil ?_
              refine EBlock_n ?_
              refine EThen_n ⟨_, (fgt_intro (fgt_upd rfl (fgt_upd rfl (fgt_upd rfl (fgt_upd rfl (fgt_upd rfl (fgt_upd rfl fgt_env0)))))) (fgt_updH rfl (fgt_updH rfl (fgt_updH rfl (fgt_updH rfl fgt_H0))))), ?_⟩
              · first | (rcases hk13 with h | h <;> exact ⟨by simp [Exp.txt, h, Q.isSum, inR], by simp [h, inR], by simp [h, Q.isSum, inR]⟩) | (have h00 := hk2'; exact ⟨by simp [Exp.txt, hk2'], by simp [hk2', inR], by simp [hk2', Q.isSum, inR]⟩) | (have h00 := hsum; exact ⟨by rw [txt_sum hsum hab], by simp [Q.isSum, inR] at hsum ⊢; omega, fun _ => hk22⟩) | (have h00 := hkT; exact ⟨by rw [hq2]; exact kids_full_t hk4 hql hkT, by simp [hk4, inR], by simp [hk4, Q.isSum, inR]⟩) | (have h00 := hkF; exact ⟨by rw [hq2]; exact kids_full_f hk4 hql hkF, by simp [hk4, inR], by simp [hk4, Q.isSum, inR]⟩)
            ·
              intro hc
              have hck71 := hc
              refine T_seq ?_
              refine T_region ?_
              iterate 2 refine TL_x ?_
              refine TL_nil ?_
              refine EThen_n ?_
              refine T_cond rfl ?_ ?_
              ·
                intro hc
                have hk2' : e.kind = 2 := by simpa using hc
                refine T_region ?_
                refine TL_x ?_
                refine TL_nil ?_
                refine EBlock_n ?_
                refine EThen_n ⟨_, (fgt_intro (fgt_upd rfl (fgt_upd rfl (fgt_upd rfl (fgt_upd rfl (fgt_upd rfl (fgt_upd rfl fgt_env0)))))) (fgt_updH rfl (fgt_updH rfl (fgt_updH rfl (fgt_updH rfl fgt_H0))))), ?_⟩
                · first | (rcases hk13 with h | h <;> exact ⟨by simp [Exp.txt, h, Q.isSum, inR], by simp [h, inR], by simp [h, Q.isSum, inR]⟩) | (have h00 := hk2'; exact ⟨by simp [Exp.txt, hk2'], by simp [hk2', inR], by simp [hk2', Q.isSum, inR]⟩) | (have h00 := hsum; exact ⟨by rw [txt_sum hsum hab], by simp [Q.isSum, inR] at hsum ⊢; omega, fun _ => hk22⟩) | (have h00 := hkT; exact ⟨by rw [hq2]; exact kids_full_t hk4 hql hkT, by simp [hk4, inR], by simp [hk4, Q.isSum, inR]⟩) | (have h00 := hkF; exact ⟨by rw [hq2]; exact kids_full_f hk4 hql hkF, by simp [hk4, inR], by simp [hk4, Q.isSum, inR]⟩)
              ·
                intro hc
                refine T_seq ?_
                refine T_region ?_
                iterate 2 refine TL_x ?_
                refine TL_nil ?_
                refine EThen_n ?_
                refine T_cond rfl ?_ ?_
                ·
                  intro hc
                  refine T_seq ?_
                  have hk4 : e.kind = 4 := by simpa using hc
                  refine T_region ?_
                  iterate 3 refine TL_x ?_
                  refine TL_nil ?_
                  refine EThen_n ?_
                  refine T_seq ?_
                  refine T_seq ?_
                  refine T_region ?_
                  refine TL_x ?_
                  refine TL_nil ?_
                  refine EThen_n ?_
                  refine T_block ?_
                  refine T_loopF (α := Nat × Bs) (fun z => ⟨(upd (upd (upd (upd (upd (upd (upd env0 1 (.box 1 0)) 4 (.asl 24 (r.exps.map Q.Exp.d).length)) 5 (.asl 28 (r.exps.map Q.Exp.d).length)) 6 (.d (di (x.1 : Int)))) 7 (.box 7 0)) 9 (.d (ds z.2))) 10 (.d (di (z.1 : Int)))), (upd (upd (upd (upd H0 1 (.box [.d (dexps r.exps), .d (di r.head.kind), .d (ds r.head.name), .d (dints r.head.args), .d (dlits r.body)])) 24 (.arr true 1 3 ((cnt (r.exps.map Q.Exp.d).length y.2).map di))) 28 (.arr true 1 9 ((r.pad x.1).map ds))) 7 (.box [.d (di e.kind), .d (ds e.text), .d (dints e.kids)]))⟩) (fun z => z.1 ≤ e.kids.length ∧ z.2 = kidsText r.outs e z.1) (fun z => e.kids.length - z.1) (0, e.text) (fgt_intro (fgt_upd rfl (fgt_upd rfl (fgt_upd rfl (fgt_upd rfl (fgt_upd rfl (fgt_upd rfl (fgt_upd rfl fgt_env0))))))) (fgt_updH rfl (fgt_updH rfl (fgt_updH rfl (fgt_updH rfl fgt_H0))))) ?_ ?_
                  · exact ⟨Nat.zero_le _, kidsText_zero _ _⟩
                  rintro z ⟨hq1, hq2⟩
                  refine T_seq ?_
                  refine T_seq ?_
                  refine T_region ?_
                  iterate 5 refine TL_x ?_
                  refine TL_nil ?_
                  refine EThen_n ?_
                  refine T_cond rfl ?_ ?_
                  ·
                    intro hc
                    have hlt5 : z.1 < e.kids.length := by simpa using hc
                    obtain ⟨a, ha⟩ := get_some hlt5
                    have ha0 := (hkin a (List.mem_of_getElem? ha)).1
                    have hax := (hkin a (List.mem_of_getElem? ha)).2
                    have hal := hfl a (List.mem_of_getElem? ha)
                    have hkt := kidsText_len (q := z.1) hfl
                    rw [← hq2] at hkt
                    refine T_skip ?_
                    refine EThen_n ?_
                    refine T_seq ?_
                    refine T_block ?_
                    refine T_seq ?_
                    refine T_seq ?_
                    refine T_region ?_
                    iterate 2 refine TL_x ?_
                    refine TL_nil ?_
                    refine EThen_n ?_
                    refine T_cond rfl ?_ ?_
                    ·
                      intro hc
                      have hq0 : z.1 = 0 := by simpa using hc
                      refine T_region ?_
                      iterate 3 refine TL_x ?_
                      refine TL_nil ?_
                      refine EThen_n ?_
                      refine T_region ?_
                      iterate 5 refine TL_x ?_
                      first | refine TL_o rfl rfl rfl (g_index_sl rfl rfl rfl Ty.s23 (by omega) (get_map ha)) ?_ | refine TL_o rfl rfl rfl (g_index_lit rfl rfl rfl Ty.s23 (by omega) (get_map ha)) ?_ | refine TL_o rfl rfl rfl (g_index_asl rfl rfl rfl rfl rfl Ty.s23 (by omega) (get_map ha)) ?_
                      refine TL_x ?_
                      refine TL_o rfl rfl rfl (g_index_el1 rfl rfl rfl rfl Ty.s60 (by simp [pad_len hx1]) ha0 (by simp [pad_len hx1]; omega)) ?_
                      refine TL_o rfl rfl rfl (g_load_el1 (f := ds) rfl rfl Ty.c9 rfl ds_cells (by simp [pad_len hx1]) (pad_get ha0 hax hx1)) ?_
                      iterate 2 refine TL_x ?_
                      refine TL_nil ?_
                      refine EBlock_n ?_
                      refine EThen_n ?_
                      refine T_region ?_
                      iterate 3 refine TL_x ?_
                      refine TL_nil ?_
                      refine EThen_n ⟨(z.1 + 1, _), (fgt_intro (fgt_upd rfl (fgt_upd rfl (fgt_upd rfl (fgt_upd rfl (fgt_upd rfl (fgt_upd rfl (fgt_upd rfl fgt_env0))))))) (fgt_updH rfl (fgt_updH rfl (fgt_updH rfl (fgt_updH rfl fgt_H0))))), ?_, ?_⟩
                      · exact ⟨hlt5, by first | (rw [hq2]; exact kidsText_succ hq0 ha) | (rw [hq2, hq0]; rw [hq0] at ha; exact kidsText_one ha)⟩
                      · dsimp only; omega
                    ·
                      intro hc
                      have hq0 : z.1 ≠ 0 := by simpa using hc
                      refine T_region ?_
                      iterate 3 refine TL_x ?_
                      refine TL_nil ?_
                      refine EThen_n ?_
                      refine T_region ?_
                      iterate 5 refine TL_x ?_
                      first | refine TL_o rfl rfl rfl (g_index_sl rfl rfl rfl Ty.s23 (by omega) (get_map ha)) ?_ | refine TL_o rfl rfl rfl (g_index_lit rfl rfl rfl Ty.s23 (by omega) (get_map ha)) ?_ | refine TL_o rfl rfl rfl (g_index_asl rfl rfl rfl rfl rfl Ty.s23 (by omega) (get_map ha)) ?_
                      refine TL_x ?_
                      refine TL_o rfl rfl rfl (g_index_el1 rfl rfl rfl rfl Ty.s60 (by simp [pad_len hx1]) ha0 (by simp [pad_len hx1]; omega)) ?_
                      refine TL_o rfl rfl rfl (g_load_el1 (f := ds) rfl rfl Ty.c9 rfl ds_cells (by simp [pad_len hx1]) (pad_get ha0 hax hx1)) ?_
                      iterate 2 refine TL_x ?_
                      refine TL_nil ?_
                      refine EBlock_n ?_
                      refine EThen_n ?_
                      refine T_region ?_
                      iterate 3 refine TL_x ?_
                      refine TL_nil ?_
                      refine EThen_n ⟨(z.1 + 1, _), (fgt_intro (fgt_upd rfl (fgt_upd rfl (fgt_upd rfl (fgt_upd rfl (fgt_upd rfl (fgt_upd rfl (fgt_upd rfl fgt_env0))))))) (fgt_updH rfl (fgt_updH rfl (fgt_updH rfl (fgt_updH rfl fgt_H0))))), ?_, ?_⟩
                      · exact ⟨hlt5, by first | (rw [hq2]; exact kidsText_succ hq0 ha) | (rw [hq2, hq0]; rw [hq0] at ha; exact kidsText_one ha)⟩
                      · dsimp only; omega
                  ·
                    intro hc
                    have hql : z.1 = e.kids.length := by simp at hc; omega
                    have hkt := kidsText_len (q := z.1) hfl
                    rw [← hq2] at hkt
                    refine T_exit ?_
                    refine EThen_exit ?_
                    refine EThen_exit ?_
                    refine EBlock_same ?_
                    refine EThen_n ?_
                    refine T_seq ?_
                    refine T_region ?_
                    iterate 4 refine TL_x ?_
                    refine TL_nil ?_
                    refine EThen_n ?_
                    refine T_cond rfl ?_ ?_
                    ·
                      intro hc
                      have hkT : 0 < e.kids.length := by simpa using hc
                      refine T_region ?_
                      iterate 3 refine TL_x ?_
                      refine TL_nil ?_
                      refine EBlock_n ?_
                      refine EThen_n ⟨_, (fgt_intro (fgt_upd rfl (fgt_upd rfl (fgt_upd rfl (fgt_upd rfl (fgt_upd rfl (fgt_upd rfl fgt_env0)))))) (fgt_updH rfl (fgt_updH rfl (fgt_updH rfl (fgt_updH rfl fgt_H0))))), ?_⟩
                      · first | (rcases hk13 with h | h <;> exact ⟨by simp [Exp.txt, h, Q.isSum, inR], by simp [h, inR], by simp [h, Q.isSum, inR]⟩) | (have h00 := hk2'; exact ⟨by simp [Exp.txt, hk2'], by simp [hk2', inR], by simp [hk2', Q.isSum, inR]⟩) | (have h00 := hsum; exact ⟨by rw [txt_sum hsum hab], by simp [Q.isSum, inR] at hsum ⊢; omega, fun _ => hk22⟩) | (have h00 := hkT; exact ⟨by rw [hq2]; exact kids_full_t hk4 hql hkT, by simp [hk4, inR], by simp [hk4, Q.isSum, inR]⟩) | (have h00 := hkF; exact ⟨by rw [hq2]; exact kids_full_f hk4 hql hkF, by simp [hk4, inR], by simp [hk4, Q.isSum, inR]⟩)
                    ·
                      intro hc
                      have hkF : e.kids.length = 0 := by simp at hc; simp [hc]
                      refine T_skip ?_
                      refine EBlock_n ?_
                      refine EThen_n ⟨_, (fgt_intro (fgt_upd rfl (fgt_upd rfl (fgt_upd rfl (fgt_upd rfl (fgt_upd rfl (fgt_upd rfl fgt_env0)))))) (fgt_updH rfl (fgt_updH rfl (fgt_updH rfl (fgt_updH rfl fgt_H0))))), ?_⟩
                      · first | (rcases hk13 with h | h <;> exact ⟨by simp [Exp.txt, h, Q.isSum, inR], by simp [h, inR], by simp [h, Q.isSum, inR]⟩) | (have h00 := hk2'; exact ⟨by simp [Exp.txt, hk2'], by simp [hk2', inR], by simp [hk2', Q.isSum, inR]⟩) | (have h00 := hsum; exact ⟨by rw [txt_sum hsum hab], by simp [Q.isSum, inR] at hsum ⊢; omega, fun _ => hk22⟩) | (have h00 := hkT; exact ⟨by rw [hq2]; exact kids_full_t hk4 hql hkT, by simp [hk4, inR], by simp [hk4, Q.isSum, inR]⟩) | (have h00 := hkF; exact ⟨by rw [hq2]; exact kids_full_f hk4 hql hkF, by simp [hk4, inR], by simp [hk4, Q.isSum, inR]⟩)
                ·
                  intro hc
                  refine T_seq ?_
                  refine T_seq ?_
                  refine T_region ?_
                  iterate 2 refine TL_x ?_
                  refine TL_nil ?_
                  refine EThen_n ?_
                  refine T_cond rfl ?_ ?_
                  ·
                    intro hc
                    have hck111 := hc
                    refine T_skip ?_
                    refine EThen_n ?_
                    refine T_cond_ht rfl hck111 ?_
                    refine T_seq ?_
                    refine T_seq ?_
                    have hsum : Q.isSum e.kind = true := by simp [Q.isSum, inR]; simp at hck111; omega
                    refine T_region ?_
                    iterate 4 refine TL_x ?_
                    refine TL_nil ?_
                    refine EThen_n ?_
                    refine T_cond rfl ?_ ?_
                    ·
                      intro hc
                      have hff : e.fine r x.1 = false := by
                        have hbad : e.badKind = true := by simp at hc; simp [Exp.badKind, hsum, hc]
                        simp [Exp.fine, Exp.ok, hbad]
                      refine T_seq ?_
                      refine T_region ?_
                      refine TL_x ?_
                      try refine TL_freeze 28 rfl ?_
                      refine TL_o rfl rfl rfl (f_assign rfl (by first | exact .d _ | exact .box _ _ | exact .asl _ _ | exact .nil | exact .lit _ _ | exact .agg _ | exact .clo _ _ | exact .fnv _ | exact .tup _ | exact .el _ _ _ | exact .mp _ | exact .junk)) ?_
                      refine TL_x ?_
                      refine TL_nil ?_
                      refine EThen_n ?_
                      refine T_ret ?_
                      refine EThen_ret ?_
                      refine EBlock_ret ?_
                      refine EThen_ret ?_
                      refine EBlock_ret ?_
                      refine EThen_ret ?_
                      refine EThen_ret ?_
                      refine EBlock_ret ?_
                      refine EThen_ret ?_
                      refine RetQ_ret (.cons (by first | exact .d _ | exact .nil _ _ | exact .litn _ _ _ | exact .lit _ _ | exact .asl _ _ _ _ _ rfl rfl | exact .asln _ _ _ _ _ _ _ rfl rfl | exact .emp _ _ _ _ | exact .asl _ _ _ _ _ rfl (by simp [pad_len hx1])) (.cons (by first | exact .d _ | exact .nil _ _ | exact .litn _ _ _ | exact .lit _ _ | exact .asl _ _ _ _ _ rfl rfl | exact .asln _ _ _ _ _ _ _ rfl rfl | exact .emp _ _ _ _ | exact .asl _ _ _ _ _ rfl (by simp [pad_len hx1])) .nil)) ?_
                      first | rw [spec_fail h60 hx3 he hff] | (rw [spec_big (by simp at hc; omega)]; rfl) | (rw [spec_end (b := false) h60 hxx hx3 (by rw [hao]; rfl)]) | (rw [spec_end (b := false) h60 hxx hx3 (by rw [hao, ← huse, any_bad hlt3 (by simp at hc; omega)]; rfl)]) | (rw [spec_end (b := true) h60 hxx hx3 (by rw [hao, ← huse, any_good (fun p hp => hp2 p (by omega))]; rfl)])
                    ·
                      intro hc
                      have hk22 : e.kids.length = 2 := by simp at hc; omega
                      obtain ⟨a, b, hab⟩ : ∃ a b, e.kids = [a, b] := by match hkk : e.kids, hk22 with | [a, b], _ => exact ⟨a, b, rfl⟩
                      have hka := hkin a (by rw [hab]; simp)
                      have hkb := hkin b (by rw [hab]; simp)
                      have hla := hfl a (by rw [hab]; simp)
                      have hlb := hfl b (by rw [hab]; simp)
                      obtain ⟨ea, hea⟩ := get_some (l := r.exps) (i := a.toNat) (by omega)
                      obtain ⟨eb, heb⟩ := get_some (l := r.exps) (i := b.toNat) (by omega)
                      have hop := opB_len e.kind
                      have hsa := side_len r.exps r.outs a
                      have hsb := side_len r.exps r.outs b
                      refine T_skip ?_
                      refine EThen_n ?_
                      refine T_seq ?_
                      refine T_region ?_
                      iterate 3 refine TL_x ?_
                      refine TL_o rfl rfl rfl (g_sub rfl rfl rfl (wr64 _ (by have h := hsum; simp [Q.isSum, inR] at h; omega))) ?_
                      first | refine TL_o rfl rfl rfl (g_index_sl rfl rfl rfl Ty.s60 (op_get' hsum).1 (op_get' hsum).2) ?_ | refine TL_o rfl rfl rfl (g_index_lit rfl rfl rfl Ty.s60 (op_get' hsum).1 (op_get' hsum).2) ?_ | refine TL_o rfl rfl rfl (g_index_asl rfl rfl rfl rfl rfl Ty.s60 (op_get' hsum).1 (op_get' hsum).2) ?_
                      iterate 2 refine TL_x ?_
                      refine TL_nil ?_
                      refine EThen_n ?_
                      refine T_draw 18 Ty.mixed rfl ?_
                      iterate 4 refine DGo_x ?_
                      first | refine DGo_one rfl rfl (.go _ rfl (g_index_sl rfl rfl rfl Ty.s23 (by omega) (get_map (by rw [hab]; rfl)))) ?_ | refine DGo_one rfl rfl (.go _ rfl (g_index_lit rfl rfl rfl Ty.s23 (by omega) (get_map (by rw [hab]; rfl)))) ?_ | refine DGo_one rfl rfl (.go _ rfl (g_index_asl rfl rfl rfl rfl rfl Ty.s23 (by omega) (get_map (by rw [hab]; rfl)))) ?_
                      refine DGo_x ?_
                      refine DGo_one rfl rfl (.go _ rfl (g_callB (n := 3) rfl rfl Fk.ok63 rfl rfl (Frz_arr 28 rfl (Frz_refl _)) ?_ rfl (by first | exact .d _ | exact .box _ _ | exact .asl _ _ | exact .nil | exact .lit _ _ | exact .agg _ | exact .clo _ _ | exact .fnv _ | exact .tup _ | exact .el _ _ _ | exact .mp _ | exact .junk) (fun w F => PC_l04Side r (r.pad x.1) r.outs a ea hka.1 hea (pad_get hka.1 hka.2 hx1) (by omega) w F))) ?_
                      · exact (.cons (by first | exact .d (.d _) | exact .d (.nil _ _) | exact .d (.litn _ _ _) | exact .d (.lit _ _) | exact .d (.asl _ _ _ _ _ rfl rfl) | exact .d (.asln _ _ _ _ _ _ _ rfl rfl) | exact .fnv _ | exact .d (.emp _ _ _ _)) (.cons (.d (.asl _ _ _ _ _ rfl (by simp [pad_len hx1]))) (.cons (by first | exact .d (.d _) | exact .d (.nil _ _) | exact .d (.litn _ _ _) | exact .d (.lit _ _) | exact .d (.asl _ _ _ _ _ rfl rfl) | exact .d (.asln _ _ _ _ _ _ _ rfl rfl) | exact .fnv _ | exact .d (.emp _ _ _ _)) .nil)))
                      iterate 6 refine DGo_x ?_
                      first | refine DGo_one rfl rfl (.go _ rfl (g_index_sl rfl rfl rfl Ty.s23 (by omega) (get_map (by rw [hab]; rfl)))) ?_ | refine DGo_one rfl rfl (.go _ rfl (g_index_lit rfl rfl rfl Ty.s23 (by omega) (get_map (by rw [hab]; rfl)))) ?_ | refine DGo_one rfl rfl (.go _ rfl (g_index_asl rfl rfl rfl rfl rfl Ty.s23 (by omega) (get_map (by rw [hab]; rfl)))) ?_
                      refine DGo_x ?_
                      refine DGo_one rfl rfl (.go _ rfl (g_callB (n := 3) rfl rfl Fk.ok63 rfl rfl (Frz_arr 28 rfl (Frz_refl _)) ?_ rfl (by first | exact .d _ | exact .box _ _ | exact .asl _ _ | exact .nil | exact .lit _ _ | exact .agg _ | exact .clo _ _ | exact .fnv _ | exact .tup _ | exact .el _ _ _ | exact .mp _ | exact .junk) (fun w F => PC_l04Side r (r.pad x.1) r.outs b eb hkb.1 heb (pad_get hkb.1 hkb.2 hx1) (by omega) w F))) ?_
                      · exact (.cons (by first | exact .d (.d _) | exact .d (.nil _ _) | exact .d (.litn _ _ _) | exact .d (.lit _ _) | exact .d (.asl _ _ _ _ _ rfl rfl) | exact .d (.asln _ _ _ _ _ _ _ rfl rfl) | exact .fnv _ | exact .d (.emp _ _ _ _)) (.cons (.d (.asl _ _ _ _ _ rfl (by simp [pad_len hx1]))) (.cons (by first | exact .d (.d _) | exact .d (.nil _ _) | exact .d (.litn _ _ _) | exact .d (.lit _ _) | exact .d (.asl _ _ _ _ _ rfl rfl) | exact .d (.asln _ _ _ _ _ _ _ rfl rfl) | exact .fnv _ | exact .d (.emp _ _ _ _)) .nil)))
                      iterate 2 refine DGo_x ?_
                      refine DGo_nil ?_
                      refine TL_nil ?_
                      refine EBlock_n ?_
                      refine EThen_n ⟨_, (fgt_intro (fgt_upd rfl (fgt_upd rfl (fgt_upd rfl (fgt_upd rfl (fgt_upd rfl (fgt_upd rfl fgt_env0)))))) (fgt_updH rfl (fgt_updH rfl (fgt_updH rfl (fgt_updH rfl fgt_H0))))), ?_⟩
                      · first | (rcases hk13 with h | h <;> exact ⟨by simp [Exp.txt, h, Q.isSum, inR], by simp [h, inR], by simp [h, Q.isSum, inR]⟩) | (have h00 := hk2'; exact ⟨by simp [Exp.txt, hk2'], by simp [hk2', inR], by simp [hk2', Q.isSum, inR]⟩) | (have h00 := hsum; exact ⟨by rw [txt_sum hsum hab], by simp [Q.isSum, inR] at hsum ⊢; omega, fun _ => hk22⟩) | (have h00 := hkT; exact ⟨by rw [hq2]; exact kids_full_t hk4 hql hkT, by simp [hk4, inR], by simp [hk4, Q.isSum, inR]⟩) | (have h00 := hkF; exact ⟨by rw [hq2]; exact kids_full_f hk4 hql hkF, by simp [hk4, inR], by simp [hk4, Q.isSum, inR]⟩)
                  ·
                    intro hc
                    have hck111 := hc
                    refine T_seq ?_
                    refine T_region ?_
                    iterate 2 refine TL_x ?_
                    refine TL_nil ?_
                    refine EThen_n ?_
                    refine T_cond rfl ?_ ?_
                    ·
                      intro hc
                      have hck111 := hc
                      refine T_skip ?_
                      refine EThen_n ?_
                      refine T_cond_ht rfl hck111 ?_
                      refine T_seq ?_
                      refine T_seq ?_
                      have hsum : Q.isSum e.kind = true := by simp [Q.isSum, inR]; simp at hck111; omega
                      refine T_region ?_
                      iterate 4 refine TL_x ?_
                      refine TL_nil ?_
                      refine EThen_n ?_
                      refine T_cond rfl ?_ ?_
                      ·
                        intro hc
                        have hff : e.fine r x.1 = false := by
                          have hbad : e.badKind = true := by simp at hc; simp [Exp.badKind, hsum, hc]
                          simp [Exp.fine, Exp.ok, hbad]
                        refine T_seq ?_
                        refine T_region ?_
                        refine TL_x ?_
                        try refine TL_freeze 28 rfl ?_
                        refine TL_o rfl rfl rfl (f_assign rfl (by first | exact .d _ | exact .box _ _ | exact .asl _ _ | exact .nil | exact .lit _ _ | exact .agg _ | exact .clo _ _ | exact .fnv _ | exact .tup _ | exact .el _ _ _ | exact .mp _ | exact .junk)) ?_
                        refine TL_x ?_
                        refine TL_nil ?_
                        refine EThen_n ?_
                        refine T_ret ?_
                        refine EThen_ret ?_
                        refine EBlock_ret ?_
                        refine EThen_ret ?_
                        refine EBlock_ret ?_
                        refine EThen_ret ?_
                        refine EThen_ret ?_
                        refine EBlock_ret ?_
                        refine EThen_ret ?_
                        refine RetQ_ret (.cons (by first | exact .d _ | exact .nil _ _ | exact .litn _ _ _ | exact .lit _ _ | exact .asl _ _ _ _ _ rfl rfl | exact .asln _ _ _ _ _ _ _ rfl rfl | exact .emp _ _ _ _ | exact .asl _ _ _ _ _ rfl (by simp [pad_len hx1])) (.cons (by first | exact .d _ | exact .nil _ _ | exact .litn _ _ _ | exact .lit _ _ | exact .asl _ _ _ _ _ rfl rfl | exact .asln _ _ _ _ _ _ _ rfl rfl | exact .emp _ _ _ _ | exact .asl _ _ _ _ _ rfl (by simp [pad_len hx1])) .nil)) ?_
                        first | rw [spec_fail h60 hx3 he hff] | (rw [spec_big (by simp at hc; omega)]; rfl) | (rw [spec_end (b := false) h60 hxx hx3 (by rw [hao]; rfl)]) | (rw [spec_end (b := false) h60 hxx hx3 (by rw [hao, ← huse, any_bad hlt3 (by simp at hc; omega)]; rfl)]) | (rw [spec_end (b := true) h60 hxx hx3 (by rw [hao, ← huse, any_good (fun p hp => hp2 p (by omega))]; rfl)])
                      ·
                        intro hc
                        have hk22 : e.kids.length = 2 := by simp at hc; omega
                        obtain ⟨a, b, hab⟩ : ∃ a b, e.kids = [a, b] := by match hkk : e.kids, hk22 with | [a, b], _ => exact ⟨a, b, rfl⟩
                        have hka := hkin a (by rw [hab]; simp)
                        have hkb := hkin b (by rw [hab]; simp)
                        have hla := hfl a (by rw [hab]; simp)
                        have hlb := hfl b (by rw [hab]; simp)
                        obtain ⟨ea, hea⟩ := get_some (l := r.exps) (i := a.toNat) (by omega)
                        obtain ⟨eb, heb⟩ := get_some (l := r.exps) (i := b.toNat) (by omega)
                        have hop := opB_len e.kind
                        have hsa := side_len r.exps r.outs a
                        have hsb := side_len r.exps r.outs b
                        refine T_skip ?_
                        refine EThen_n ?_
                        refine T_seq ?_
                        refine T_region ?_
                        iterate 3 refine TL_x ?_
                        refine TL_o rfl rfl rfl (g_sub rfl rfl rfl (wr64 _ (by have h := hsum; simp [Q.isSum, inR] at h; omega))) ?_
                        first | refine TL_o rfl rfl rfl (g_index_sl rfl rfl rfl Ty.s60 (op_get' hsum).1 (op_get' hsum).2) ?_ | refine TL_o rfl rfl rfl (g_index_lit rfl rfl rfl Ty.s60 (op_get' hsum).1 (op_get' hsum).2) ?_ | refine TL_o rfl rfl rfl (g_index_asl rfl rfl rfl rfl rfl Ty.s60 (op_get' hsum).1 (op_get' hsum).2) ?_
                        iterate 2 refine TL_x ?_
                        refine TL_nil ?_
                        refine EThen_n ?_
                        refine T_draw 18 Ty.mixed rfl ?_
                        iterate 4 refine DGo_x ?_
                        first | refine DGo_one rfl rfl (.go _ rfl (g_index_sl rfl rfl rfl Ty.s23 (by omega) (get_map (by rw [hab]; rfl)))) ?_ | refine DGo_one rfl rfl (.go _ rfl (g_index_lit rfl rfl rfl Ty.s23 (by omega) (get_map (by rw [hab]; rfl)))) ?_ | refine DGo_one rfl rfl (.go _ rfl (g_index_asl rfl rfl rfl rfl rfl Ty.s23 (by omega) (get_map (by rw [hab]; rfl)))) ?_
                        refine DGo_x ?_
                        refine DGo_one rfl rfl (.go _ rfl (g_callB (n := 3) rfl rfl Fk.ok63 rfl rfl (Frz_arr 28 rfl (Frz_refl _)) ?_ rfl (by first | exact .d _ | exact .box _ _ | exact .asl _ _ | exact .nil | exact .lit _ _ | exact .agg _ | exact .clo _ _ | exact .fnv _ | exact .tup _ | exact .el _ _ _ | exact .mp _ | exact .junk) (fun w F => PC_l04Side r (r.pad x.1) r.outs a ea hka.1 hea (pad_get hka.1 hka.2 hx1) (by omega) w F))) ?_
                        · exact (.cons (by first | exact .d (.d _) | exact .d (.nil _ _) | exact .d (.litn _ _ _) | exact .d (.lit _ _) | exact .d (.asl _ _ _ _ _ rfl rfl) | exact .d (.asln _ _ _ _ _ _ _ rfl rfl) | exact .fnv _ | exact .d (.emp _ _ _ _)) (.cons (.d (.asl _ _ _ _ _ rfl (by simp [pad_len hx1]))) (.cons (by first | exact .d (.d _) | exact .d (.nil _ _) | exact .d (.litn _ _ _) | exact .d (.lit _ _) | exact .d (.asl _ _ _ _ _ rfl rfl) | exact .d (.asln _ _ _ _ _ _ _ rfl rfl) | exact .fnv _ | exact .d (.emp _ _ _ _)) .nil)))
                        iterate 6 refine DGo_x ?_
                        first | refine DGo_one rfl rfl (.go _ rfl (g_index_sl rfl rfl rfl Ty.s23 (by omega) (get_map (by rw [hab]; rfl)))) ?_ | refine DGo_one rfl rfl (.go _ rfl (g_index_lit rfl rfl rfl Ty.s23 (by omega) (get_map (by rw [hab]; rfl)))) ?_ | refine DGo_one rfl rfl (.go _ rfl (g_index_asl rfl rfl rfl rfl rfl Ty.s23 (by omega) (get_map (by rw [hab]; rfl)))) ?_
                        refine DGo_x ?_
                        refine DGo_one rfl rfl (.go _ rfl (g_callB (n := 3) rfl rfl Fk.ok63 rfl rfl (Frz_arr 28 rfl (Frz_refl _)) ?_ rfl (by first | exact .d _ | exact .box _ _ | exact .asl _ _ | exact .nil | exact .lit _ _ | exact .agg _ | exact .clo _ _ | exact .fnv _ | exact .tup _ | exact .el _ _ _ | exact .mp _ | exact .junk) (fun w F => PC_l04Side r (r.pad x.1) r.outs b eb hkb.1 heb (pad_get hkb.1 hkb.2 hx1) (by omega) w F))) ?_
                        · exact (.cons (by first | exact .d (.d _) | exact .d (.nil _ _) | exact .d (.litn _ _ _) | exact .d (.lit _ _) | exact .d (.asl _ _ _ _ _ rfl rfl) | exact .d (.asln _ _ _ _ _ _ _ rfl rfl) | exact .fnv _ | exact .d (.emp _ _ _ _)) (.cons (.d (.asl _ _ _ _ _ rfl (by simp [pad_len hx1]))) (.cons (by first | exact .d (.d _) | exact .d (.nil _ _) | exact .d (.litn _ _ _) | exact .d (.lit _ _) | exact .d (.asl _ _ _ _ _ rfl rfl) | exact .d (.asln _ _ _ _ _ _ _ rfl rfl) | exact .fnv _ | exact .d (.emp _ _ _ _)) .nil)))
                        iterate 2 refine DGo_x ?_
                        refine DGo_nil ?_
                        refine TL_nil ?_
                        refine EBlock_n ?_
                        refine EThen_n ⟨_, (fgt_intro (fgt_upd rfl (fgt_upd rfl (fgt_upd rfl (fgt_upd rfl (fgt_upd rfl (fgt_upd rfl fgt_env0)))))) (fgt_updH rfl (fgt_updH rfl (fgt_updH rfl (fgt_updH rfl fgt_H0))))), ?_⟩
                        · first | (rcases hk13 with h | h <;> exact ⟨by simp [Exp.txt, h, Q.isSum, inR], by simp [h, inR], by simp [h, Q.isSum, inR]⟩) | (have h00 := hk2'; exact ⟨by simp [Exp.txt, hk2'], by simp [hk2', inR], by simp [hk2', Q.isSum, inR]⟩) | (have h00 := hsum; exact ⟨by rw [txt_sum hsum hab], by simp [Q.isSum, inR] at hsum ⊢; omega, fun _ => hk22⟩) | (have h00 := hkT; exact ⟨by rw [hq2]; exact kids_full_t hk4 hql hkT, by simp [hk4, inR], by simp [hk4, Q.isSum, inR]⟩) | (have h00 := hkF; exact ⟨by rw [hq2]; exact kids_full_f hk4 hql hkF, by simp [hk4, inR], by simp [hk4, Q.isSum, inR]⟩)
                    ·
                      intro hc
                      have hck111 := hc
                      refine T_region ?_
                      iterate 2 refine TL_x ?_
                      refine TL_nil ?_
                      refine EThen_n ?_
                      refine T_cond rfl ?_ ?_
                      ·
                        intro hc
                        have hck111 := hc
                        refine T_seq ?_
                        refine T_seq ?_
                        have hsum : Q.isSum e.kind = true := by simp [Q.isSum, inR]; simp at hck111; omega
                        refine T_region ?_
                        iterate 4 refine TL_x ?_
                        refine TL_nil ?_
                        refine EThen_n ?_
                        refine T_cond rfl ?_ ?_
                        ·
                          intro hc
                          have hff : e.fine r x.1 = false := by
                            have hbad : e.badKind = true := by simp at hc; simp [Exp.badKind, hsum, hc]
                            simp [Exp.fine, Exp.ok, hbad]
                          refine T_seq ?_
                          refine T_region ?_
                          refine TL_x ?_
                          try refine TL_freeze 28 rfl ?_
                          refine TL_o rfl rfl rfl (f_assign rfl (by first | exact .d _ | exact .box _ _ | exact .asl _ _ | exact .nil | exact .lit _ _ | exact .agg _ | exact .clo _ _ | exact .fnv _ | exact .tup _ | exact .el _ _ _ | exact .mp _ | exact .junk)) ?_
                          refine TL_x ?_
                          refine TL_nil ?_
                          refine EThen_n ?_
                          refine T_ret ?_
                          refine EThen_ret ?_
                          refine EBlock_ret ?_
                          refine EThen_ret ?_
                          refine EBlock_ret ?_
                          refine EThen_ret ?_
                          refine EThen_ret ?_
                          refine EBlock_ret ?_
                          refine EThen_ret ?_
                          refine RetQ_ret (.cons (by first | exact .d _ | exact .nil _ _ | exact .litn _ _ _ | exact .lit _ _ | exact .asl _ _ _ _ _ rfl rfl | exact .asln _ _ _ _ _ _ _ rfl rfl | exact .emp _ _ _ _ | exact .asl _ _ _ _ _ rfl (by simp [pad_len hx1])) (.cons (by first | exact .d _ | exact .nil _ _ | exact .litn _ _ _ | exact .lit _ _ | exact .asl _ _ _ _ _ rfl rfl | exact .asln _ _ _ _ _ _ _ rfl rfl | exact .emp _ _ _ _ | exact .asl _ _ _ _ _ rfl (by simp [pad_len hx1])) .nil)) ?_
                          first | rw [spec_fail h60 hx3 he hff] | (rw [spec_big (by simp at hc; omega)]; rfl) | (rw [spec_end (b := false) h60 hxx hx3 (by rw [hao]; rfl)]) | (rw [spec_end (b := false) h60 hxx hx3 (by rw [hao, ← huse, any_bad hlt3 (by simp at hc; omega)]; rfl)]) | (rw [spec_end (b := true) h60 hxx hx3 (by rw [hao, ← huse, any_good (fun p hp => hp2 p (by omega))]; rfl)])
                        ·
                          intro hc
                          have hk22 : e.kids.length = 2 := by simp at hc; omega
                          obtain ⟨a, b, hab⟩ : ∃ a b, e.kids = [a, b] := by match hkk : e.kids, hk22 with | [a, b], _ => exact ⟨a, b, rfl⟩
                          have hka := hkin a (by rw [hab]; simp)
                          have hkb := hkin b (by rw [hab]; simp)
                          have hla := hfl a (by rw [hab]; simp)
                          have hlb := hfl b (by rw [hab]; simp)
                          obtain ⟨ea, hea⟩ := get_some (l := r.exps) (i := a.toNat) (by omega)
                          obtain ⟨eb, heb⟩ := get_some (l := r.exps) (i := b.toNat) (by omega)
                          have hop := opB_len e.kind
                          have hsa := side_len r.exps r.outs a
                          have hsb := side_len r.exps r.outs b
                          refine T_skip ?_
                          refine EThen_n ?_
                          refine T_seq ?_
                          refine T_region ?_
                          iterate 3 refine TL_x ?_
                          refine TL_o rfl rfl rfl (g_sub rfl rfl rfl (wr64 _ (by have h := hsum; simp [Q.isSum, inR] at h; omega))) ?_
                          first | refine TL_o rfl rfl rfl (g_index_sl rfl rfl rfl Ty.s60 (op_get' hsum).1 (op_get' hsum).2) ?_ | refine TL_o rfl rfl rfl (g_index_lit rfl rfl rfl Ty.s60 (op_get' hsum).1 (op_get' hsum).2) ?_ | refine TL_o rfl rfl rfl (g_index_asl rfl rfl rfl rfl rfl Ty.s60 (op_get' hsum).1 (op_get' hsum).2) ?_
                          iterate 2 refine TL_x ?_
                          refine TL_nil ?_
                          refine EThen_n ?_
                          refine T_draw 18 Ty.mixed rfl ?_
                          iterate 4 refine DGo_x ?_
                          first | refine DGo_one rfl rfl (.go _ rfl (g_index_sl rfl rfl rfl Ty.s23 (by omega) (get_map (by rw [hab]; rfl)))) ?_ | refine DGo_one rfl rfl (.go _ rfl (g_index_lit rfl rfl rfl Ty.s23 (by omega) (get_map (by rw [hab]; rfl)))) ?_ | refine DGo_one rfl rfl (.go _ rfl (g_index_asl rfl rfl rfl rfl rfl Ty.s23 (by omega) (get_map (by rw [hab]; rfl)))) ?_
                          refine DGo_x ?_
                          refine DGo_one rfl rfl (.go _ rfl (g_callB (n := 3) rfl rfl Fk.ok63 rfl rfl (Frz_arr 28 rfl (Frz_refl _)) ?_ rfl (by first | exact .d _ | exact .box _ _ | exact .asl _ _ | exact .nil | exact .lit _ _ | exact .agg _ | exact .clo _ _ | exact .fnv _ | exact .tup _ | exact .el _ _ _ | exact .mp _ | exact .junk) (fun w F => PC_l04Side r (r.pad x.1) r.outs a ea hka.1 hea (pad_get hka.1 hka.2 hx1) (by omega) w F))) ?_
                          · exact (.cons (by first | exact .d (.d _) | exact .d (.nil _ _) | exact .d (.litn _ _ _) | exact .d (.lit _ _) | exact .d (.asl _ _ _ _ _ rfl rfl) | exact .d (.asln _ _ _ _ _ _ _ rfl rfl) | exact .fnv _ | exact .d (.emp _ _ _ _)) (.cons (.d (.asl _ _ _ _ _ rfl (by simp [pad_len hx1]))) (.cons (by first | exact .d (.d _) | exact .d (.nil _ _) | exact .d (.litn _ _ _) | exact .d (.lit _ _) | exact .d (.asl _ _ _ _ _ rfl rfl) | exact .d (.asln _ _ _ _ _ _ _ rfl rfl) | exact .fnv _ | exact .d (.emp _ _ _ _)) .nil)))
                          iterate 6 refine DGo_x ?_
                          first | refine DGo_one rfl rfl (.go _ rfl (g_index_sl rfl rfl rfl Ty.s23 (by omega) (get_map (by rw [hab]; rfl)))) ?_ | refine DGo_one rfl rfl (.go _ rfl (g_index_lit rfl rfl rfl Ty.s23 (by omega) (get_map (by rw [hab]; rfl)))) ?_ | refine DGo_one rfl rfl (.go _ rfl (g_index_asl rfl rfl rfl rfl rfl Ty.s23 (by omega) (get_map (by rw [hab]; rfl)))) ?_
                          refine DGo_x ?_
                          refine DGo_one rfl rfl (.go _ rfl (g_callB (n := 3) rfl rfl Fk.ok63 rfl rfl (Frz_arr 28 rfl (Frz_refl _)) ?_ rfl (by first | exact .d _ | exact .box _ _ | exact .asl _ _ | exact .nil | exact .lit _ _ | exact .agg _ | exact .clo _ _ | exact .fnv _ | exact .tup _ | exact .el _ _ _ | exact .mp _ | exact .junk) (fun w F => PC_l04Side r (r.pad x.1) r.outs b eb hkb.1 heb (pad_get hkb.1 hkb.2 hx1) (by omega) w F))) ?_
                          · exact (.cons (by first | exact .d (.d _) | exact .d (.nil _ _) | exact .d (.litn _ _ _) | exact .d (.lit _ _) | exact .d (.asl _ _ _ _ _ rfl rfl) | exact .d (.asln _ _ _ _ _ _ _ rfl rfl) | exact .fnv _ | exact .d (.emp _ _ _ _)) (.cons (.d (.asl _ _ _ _ _ rfl (by simp [pad_len hx1]))) (.cons (by first | exact .d (.d _) | exact .d (.nil _ _) | exact .d (.litn _ _ _) | exact .d (.lit _ _) | exact .d (.asl _ _ _ _ _ rfl rfl) | exact .d (.asln _ _ _ _ _ _ _ rfl rfl) | exact .fnv _ | exact .d (.emp _ _ _ _)) .nil)))
                          iterate 2 refine DGo_x ?_
                          refine DGo_nil ?_
                          refine TL_nil ?_
                          refine EBlock_n ?_
                          refine EThen_n ⟨_, (fgt_intro (fgt_upd rfl (fgt_upd rfl (fgt_upd rfl (fgt_upd rfl (fgt_upd rfl (fgt_upd rfl fgt_env0)))))) (fgt_updH rfl (fgt_updH rfl (fgt_updH rfl (fgt_updH rfl fgt_H0))))), ?_⟩
                          · first | (rcases hk13 with h | h <;> exact ⟨by simp [Exp.txt, h, Q.isSum, inR], by simp [h, inR], by simp [h, Q.isSum, inR]⟩) | (have h00 := hk2'; exact ⟨by simp [Exp.txt, hk2'], by simp [hk2', inR], by simp [hk2', Q.isSum, inR]⟩) | (have h00 := hsum; exact ⟨by rw [txt_sum hsum hab], by simp [Q.isSum, inR] at hsum ⊢; omega, fun _ => hk22⟩) | (have h00 := hkT; exact ⟨by rw [hq2]; exact kids_full_t hk4 hql hkT, by simp [hk4, inR], by simp [hk4, Q.isSum, inR]⟩) | (have h00 := hkF; exact ⟨by rw [hq2]; exact kids_full_f hk4 hql hkF, by simp [hk4, inR], by simp [hk4, Q.isSum, inR]⟩)
                      ·
                        intro hc
                        have hck111 := hc
                        refine T_seq ?_
                        have hff : e.fine r x.1 = false := by
                          have hbad : e.badKind = true := by (clear hx3 hfl hkin hy3; simp at *; simp [Exp.badKind, Q.isSum, inR]; omega)
                          simp [Exp.fine, Exp.ok, hbad]
                        refine T_region ?_
                        refine TL_x ?_
                        try refine TL_freeze 28 rfl ?_
                        refine TL_o rfl rfl rfl (f_assign rfl (by first | exact .d _ | exact .box _ _ | exact .asl _ _ | exact .nil | exact .lit _ _ | exact .agg _ | exact .clo _ _ | exact .fnv _ | exact .tup _ | exact .el _ _ _ | exact .mp _ | exact .junk)) ?_
                        refine TL_x ?_
                        refine TL_nil ?_
                        refine EThen_n ?_
                        refine T_ret ?_
                        refine EBlock_ret ?_
                        refine EThen_ret ?_
                        refine EBlock_ret ?_
                        refine EThen_ret ?_
                        refine EThen_ret ?_
                        refine EBlock_ret ?_
                        refine EThen_ret ?_
                        refine RetQ_ret (.cons (by first | exact .d _ | exact .nil _ _ | exact .litn _ _ _ | exact .lit _ _ | exact .asl _ _ _ _ _ rfl rfl | exact .asln _ _ _ _ _ _ _ rfl rfl | exact .emp _ _ _ _ | exact .asl _ _ _ _ _ rfl (by simp [pad_len hx1])) (.cons (by first | exact .d _ | exact .nil _ _ | exact .litn _ _ _ | exact .lit _ _ | exact .asl _ _ _ _ _ rfl rfl | exact .asln _ _ _ _ _ _ _ rfl rfl | exact .emp _ _ _ _ | exact .asl _ _ _ _ _ rfl (by simp [pad_len hx1])) .nil)) ?_
                        first | rw [spec_fail h60 hx3 he hff] | (rw [spec_big (by simp at hc; omega)]; rfl) | (rw [spec_end (b := false) h60 hxx hx3 (by rw [hao]; rfl)]) | (rw [spec_end (b := false) h60 hxx hx3 (by rw [hao, ← huse, any_bad hlt3 (by simp at hc; omega)]; rfl)]) | (rw [spec_end (b := true) h60 hxx hx3 (by rw [hao, ← huse, any_good (fun p hp => hp2 p (by omega))]; rfl)])
        ·
          rintro s ⟨hs1, hs2, hs3⟩
          refine T_seq ?_
          refine T_seq ?_
          refine T_region ?_
          iterate 4 refine TL_x ?_
          refine TL_split 146 rfl ?_ ?_
          ·
            intro hg146
            refine TL_want rfl rfl (lt_of_blt rfl) rfl ?_
            first | refine TL_o rfl rfl rfl (g_field_box rfl rfl Ty.f65_2 rfl) ?_ | refine TL_o rfl rfl rfl (g_field_pt rfl rfl Ty.f65_2 rfl) ?_ | refine TL_o rfl rfl rfl (g_field_el rfl rfl rfl rfl Ty.f65_2 rfl) ?_
            refine TL_want rfl rfl (lt_of_blt rfl) rfl ?_
            first | refine TL_o rfl rfl rfl (g_load_box rfl rfl Ty.c23 rfl rfl) ?_ | refine TL_o rfl rfl rfl (g_load_pt rfl rfl Ty.c23 rfl) ?_ | refine TL_o rfl rfl rfl (g_load_el rfl rfl Ty.c23 rfl rfl rfl) ?_
            refine TL_want rfl rfl (lt_of_blt rfl) rfl ?_
            first | refine TL_o rfl rfl rfl (g_len_sl rfl rfl Ty.s23 rfl) ?_ | refine TL_o rfl rfl rfl (g_len_asl rfl rfl rfl rfl Ty.s23 rfl) ?_ | refine TL_o rfl rfl rfl (g_len_asl rfl rfl rfl (by simp) Ty.s23 rfl) ?_ | refine TL_o rfl rfl rfl (g_len_lit rfl rfl Ty.s23 rfl) ?_ | refine TL_o rfl rfl rfl (g_len_nil rfl rfl Ty.s23) ?_
            refine TL_want rfl rfl (lt_of_blt rfl) rfl ?_
            refine TL_o rfl rfl rfl (g_icmp rfl rfl rfl rfl) ?_
            iterate 2 refine TL_x ?_
            refine TL_split 152 rfl ?_ ?_
            ·
              intro hg152
              refine TL_skip rfl rfl (lt_of_blt rfl) rfl (lt_of_blt rfl) rfl rfl ?_
              refine TL_skip rfl rfl (lt_of_blt rfl) rfl (lt_of_blt rfl) rfl rfl ?_
              refine TL_skip rfl rfl (lt_of_blt rfl) rfl (lt_of_blt rfl) rfl rfl ?_
              refine TL_x ?_
              refine TL_nil ?_
              refine EThen_n ?_
              refine T_cond_t rfl ?_
              have hff : e.fine r x.1 = false := by first | exact fine_big hs1 hc | exact fine_few hs2 hg146 (by simpa using hg152)
              refine T_seq ?_
              refine T_region ?_
              refine TL_x ?_
              try refine TL_freeze 28 rfl ?_
              refine TL_o rfl rfl rfl (f_assign rfl (by first | exact .d _ | exact .box _ _ | exact .asl _ _ | exact .nil | exact .lit _ _ | exact .agg _ | exact .clo _ _ | exact .fnv _ | exact .tup _ | exact .el _ _ _ | exact .mp _ | exact .junk)) ?_
              refine TL_x ?_
              refine TL_nil ?_
              refine EThen_n ?_
              refine T_ret ?_
              refine EThen_ret ?_
              refine EBlock_ret ?_
              refine EThen_ret ?_
              refine EThen_ret ?_
              refine EBlock_ret ?_
              refine EThen_ret ?_
              refine RetQ_ret (.cons (by first | exact .d _ | exact .nil _ _ | exact .litn _ _ _ | exact .lit _ _ | exact .asl _ _ _ _ _ rfl rfl | exact .asln _ _ _ _ _ _ _ rfl rfl | exact .emp _ _ _ _ | exact .asl _ _ _ _ _ rfl (by simp [pad_len hx1])) (.cons (by first | exact .d _ | exact .nil _ _ | exact .litn _ _ _ | exact .lit _ _ | exact .asl _ _ _ _ _ rfl rfl | exact .asln _ _ _ _ _ _ _ rfl rfl | exact .emp _ _ _ _ | exact .asl _ _ _ _ _ rfl (by simp [pad_len hx1])) .nil)) ?_
              first | rw [spec_fail h60 hx3 he hff] | (rw [spec_big (by simp at hc; omega)]; rfl) | (rw [spec_end (b := false) h60 hxx hx3 (by rw [hao]; rfl)]) | (rw [spec_end (b := false) h60 hxx hx3 (by rw [hao, ← huse, any_bad hlt3 (by simp at hc; omega)]; rfl)]) | (rw [spec_end (b := true) h60 hxx hx3 (by rw [hao, ← huse, any_good (fun p hp => hp2 p (by omega))]; rfl)])
            ·
              intro hg152
              refine TL_want rfl rfl (lt_of_blt rfl) rfl ?_
              refine TL_o rfl rfl rfl (f_move rfl (by first | exact .d _ | exact .box _ _ | exact .asl _ _ | exact .nil | exact .lit _ _ | exact .agg _ | exact .clo _ _ | exact .fnv _ | exact .tup _ | exact .el _ _ _ | exact .mp _ | exact .junk)) ?_
              refine TL_want rfl rfl (lt_of_blt rfl) rfl ?_
              refine TL_o rfl rfl rfl (g_len_str rfl rfl Ty.str9 rfl) ?_
              refine TL_want rfl rfl (lt_of_blt rfl) rfl ?_
              refine TL_o rfl rfl rfl (g_icmp rfl rfl rfl rfl) ?_
              refine TL_x ?_
              refine TL_nil ?_
              refine EThen_n ?_
              refine T_cond rfl ?_ ?_
              ·
                intro hc
                have hff : e.fine r x.1 = false := by first | exact fine_big hs1 hc | exact fine_few hs2 hg146 (by simpa using hg152)
                refine T_seq ?_
                refine T_region ?_
                refine TL_x ?_
                try refine TL_freeze 28 rfl ?_
                refine TL_o rfl rfl rfl (f_assign rfl (by first | exact .d _ | exact .box _ _ | exact .asl _ _ | exact .nil | exact .lit _ _ | exact .agg _ | exact .clo _ _ | exact .fnv _ | exact .tup _ | exact .el _ _ _ | exact .mp _ | exact .junk)) ?_
                refine TL_x ?_
                refine TL_nil ?_
                refine EThen_n ?_
                refine T_ret ?_
                refine EThen_ret ?_
                refine EBlock_ret ?_
                refine EThen_ret ?_
                refine EThen_ret ?_
                refine EBlock_ret ?_
                refine EThen_ret ?_
                refine RetQ_ret (.cons (by first | exact .d _ | exact .nil _ _ | exact .litn _ _ _ | exact .lit _ _ | exact .asl _ _ _ _ _ rfl rfl | exact .asln _ _ _ _ _ _ _ rfl rfl | exact .emp _ _ _ _ | exact .asl _ _ _ _ _ rfl (by simp [pad_len hx1])) (.cons (by first | exact .d _ | exact .nil _ _ | exact .litn _ _ _ | exact .lit _ _ | exact .asl _ _ _ _ _ rfl rfl | exact .asln _ _ _ _ _ _ _ rfl rfl | exact .emp _ _ _ _ | exact .asl _ _ _ _ _ rfl (by simp [pad_len hx1])) .nil)) ?_
                first | rw [spec_fail h60 hx3 he hff] | (rw [spec_big (by simp at hc; omega)]; rfl) | (rw [spec_end (b := false) h60 hxx hx3 (by rw [hao]; rfl)]) | (rw [spec_end (b := false) h60 hxx hx3 (by rw [hao, ← huse, any_bad hlt3 (by simp at hc; omega)]; rfl)]) | (rw [spec_end (b := true) h60 hxx hx3 (by rw [hao, ← huse, any_good (fun p hp => hp2 p (by omega))]; rfl)])
              ·
                intro hc
                have hfine : e.fine r x.1 = true := by exact fine_ok hall hs1 hc hs2 hs3 (fun h => by first | (have h0 := hg152; simp at h0; simp [h0]; done) | (simp at hg146; omega))
                have hok : e.ok x.1 = true := by simp only [Exp.fine, Bool.and_eq_true] at hfine; exact hfine.1
                refine T_skip ?_
                refine EThen_n ?_
                refine T_region ?_
                iterate 3 refine TL_x ?_
                refine TL_o rfl rfl rfl (g_index_el1 rfl rfl rfl rfl Ty.s60 (by simp [pad_len hx1]) (Int.natCast_nonneg x.1) (by simp [pad_len hx1]; omega)) ?_
                refine TL_s rfl (s_store_el1 (f := ds) rfl rfl rfl rfl (.d _) (.d _) Ty.n9 ds_cells (by simp [pad_len hx1]) (by rw [pad_len hx1]; simpa using hlt) (show (r.pad x.1).set _ s = r.pad (x.1 + 1) by rw [hs1]; simpa using pad_set hok he)) ?_
                refine TL_nil ?_
                refine EBlock_n ?_
                refine EThen_n ?_
                refine T_region ?_
                iterate 3 refine TL_x ?_
                refine TL_nil ?_
                refine EThen_n ⟨(x.1 + 1, y.2), (fgt_intro (fgt_upd rfl (fgt_upd rfl (fgt_upd rfl (fgt_upd rfl fgt_env0)))) (fgt_updH rfl (fgt_updH rfl (fgt_updH rfl fgt_H0)))), ?_, ?_⟩
                · exact ⟨hlt, hV, fun j e0 hj h0 => by
                    rcases Nat.lt_succ_iff_lt_or_eq.1 hj with h | h
                    · exact hx3 j e0 h h0
                    · subst h; rw [he] at h0; cases h0; exact hfine⟩
                · dsimp only; omega
          ·
            intro hg146
            refine TL_skip rfl rfl (lt_of_blt rfl) rfl (lt_of_blt rfl) rfl rfl ?_
            refine TL_skip rfl rfl (lt_of_blt rfl) rfl (lt_of_blt rfl) rfl rfl ?_
            refine TL_skip rfl rfl (lt_of_blt rfl) rfl (lt_of_blt rfl) rfl rfl ?_
            refine TL_skip rfl rfl (lt_of_blt rfl) rfl (lt_of_blt rfl) rfl rfl ?_
            iterate 2 refine TL_x ?_
            refine TL_want rfl rfl (lt_of_blt rfl) rfl ?_
            refine TL_o rfl rfl rfl (f_move rfl (by first | exact .d _ | exact .box _ _ | exact .asl _ _ | exact .nil | exact .lit _ _ | exact .agg _ | exact .clo _ _ | exact .fnv _ | exact .tup _ | exact .el _ _ _ | exact .mp _ | exact .junk)) ?_
            refine TL_want rfl rfl (lt_of_blt rfl) rfl ?_
            refine TL_o rfl rfl rfl (g_len_str rfl rfl Ty.str9 rfl) ?_
            refine TL_want rfl rfl (lt_of_blt rfl) rfl ?_
            refine TL_o rfl rfl rfl (g_icmp rfl rfl rfl rfl) ?_
            refine TL_x ?_
            refine TL_nil ?_
            refine EThen_n ?_
            refine T_cond rfl ?_ ?_
            ·
              intro hc
              have hff : e.fine r x.1 = false := by first | exact fine_big hs1 hc | exact fine_few hs2 hg146 (by simpa using hg152)
              refine T_seq ?_
              refine T_region ?_
              refine TL_x ?_
              try refine TL_freeze 28 rfl ?_
              refine TL_o rfl rfl rfl (f_assign rfl (by first | exact .d _ | exact .box _ _ | exact .asl _ _ | exact .nil | exact .lit _ _ | exact .agg _ | exact .clo _ _ | exact .fnv _ | exact .tup _ | exact .el _ _ _ | exact .mp _ | exact .junk)) ?_
              refine TL_x ?_
              refine TL_nil ?_
              refine EThen_n ?_
              refine T_ret ?_
              refine EThen_ret ?_
              refine EBlock_ret ?_
              refine EThen_ret ?_
              refine EThen_ret ?_
              refine EBlock_ret ?_
              refine EThen_ret ?_
              refine RetQ_ret (.cons (by first | exact .d _ | exact .nil _ _ | exact .litn _ _ _ | exact .lit _ _ | exact .asl _ _ _ _ _ rfl rfl | exact .asln _ _ _ _ _ _ _ rfl rfl | exact .emp _ _ _ _ | exact .asl _ _ _ _ _ rfl (by simp [pad_len hx1])) (.cons (by first | exact .d _ | exact .nil _ _ | exact .litn _ _ _ | exact .lit _ _ | exact .asl _ _ _ _ _ rfl rfl | exact .asln _ _ _ _ _ _ _ rfl rfl | exact .emp _ _ _ _ | exact .asl _ _ _ _ _ rfl (by simp [pad_len hx1])) .nil)) ?_
              first | rw [spec_fail h60 hx3 he hff] | (rw [spec_big (by simp at hc; omega)]; rfl) | (rw [spec_end (b := false) h60 hxx hx3 (by rw [hao]; rfl)]) | (rw [spec_end (b := false) h60 hxx hx3 (by rw [hao, ← huse, any_bad hlt3 (by simp at hc; omega)]; rfl)]) | (rw [spec_end (b := true) h60 hxx hx3 (by rw [hao, ← huse, any_good (fun p hp => hp2 p (by omega))]; rfl)])
            ·
              intro hc
              have hfine : e.fine r x.1 = true := by exact fine_ok hall hs1 hc hs2 hs3 (fun h => by first | (have h0 := hg152; simp at h0; simp [h0]; done) | (simp at hg146; omega))
              have hok : e.ok x.1 = true := by simp only [Exp.fine, Bool.and_eq_true] at hfine; exact hfine.1
              refine T_skip ?_
              refine EThen_n ?_
              refine T_region ?_
              iterate 3 refine TL_x ?_
              refine TL_o rfl rfl rfl (g_index_el1 rfl rfl rfl rfl Ty.s60 (by simp [pad_len hx1]) (Int.natCast_nonneg x.1) (by simp [pad_len hx1]; omega)) ?_
              refine TL_s rfl (s_store_el1 (f := ds) rfl rfl rfl rfl (.d _) (.d _) Ty.n9 ds_cells (by simp [pad_len hx1]) (by rw [pad_len hx1]; simpa using hlt) (show (r.pad x.1).set _ s = r.pad (x.1 + 1) by rw [hs1]; simpa using pad_set hok he)) ?_
              refine TL_nil ?_
              refine EBlock_n ?_
              refine EThen_n ?_
              refine T_region ?_
              iterate 3 refine TL_x ?_
              refine TL_nil ?_
              refine EThen_n ⟨(x.1 + 1, y.2), (fgt_intro (fgt_upd rfl (fgt_upd rfl (fgt_upd rfl (fgt_upd rfl fgt_env0)))) (fgt_updH rfl (fgt_updH rfl (fgt_updH rfl fgt_H0)))), ?_, ?_⟩
              · exact ⟨hlt, hV, fun j e0 hj h0 => by
                  rcases Nat.lt_succ_iff_lt_or_eq.1 hj with h | h
                  · exact hx3 j e0 h h0
                  · subst h; rw [he] at h0; cases h0; exact hfine⟩
              · dsimp only; omega
    ·
      intro hc
      have hxx : x.1 = r.exps.length := by simp at hc; omega
      refine T_exit ?_
      refine EThen_exit ?_
      refine EThen_exit ?_
      refine EBlock_same ?_
      refine EThen_n ?_
      refine T_seq ?_
      refine T_region ?_
      iterate 2 refine TL_x ?_
      refine TL_s rfl (s_buildSlice (id := 164) rfl rfl rfl Ty.e33 rfl rfl rfl (.cons (by first | exact .d _ | exact .nil _ _ | exact .litn _ _ _ | exact .lit _ _ | exact .asl _ _ _ _ _ rfl rfl | exact .asln _ _ _ _ _ _ _ rfl rfl | exact .emp _ _ _ _) .nil) rfl rfl rfl (by repeat (first | exact noRefE0 | exact noRefE_envOf | exact noRefE_envA rfl | refine noRefE_upd rfl ?_)) (by repeat (first | exact noRefH0 | refine noRefH_upd rfl ?_))) ?_
      iterate 2 refine TL_x ?_
      refine TL_s rfl (s_append rfl rfl (lt_of_blt rfl) rfl rfl rfl (by first | exact .asl _ _ _ _ _ rfl rfl | exact .lit _ | exact .d _ _ | exact .nil) Ty.e33 rfl (by simp; omega) (by unfold maxLen; simp; omega)) ?_
      refine TL_x ?_
      refine TL_nil ?_
      refine EThen_n ?_
      refine T_seq ?_
      refine T_seq ?_
      refine T_freeze 164 rfl ?_
      refine T_region ?_
      refine TL_x ?_
      refine TL_nil ?_
      refine EThen_n ?_
      refine T_block ?_
      refine T_loopF (α := Nat × List Int) (fun y => ⟨(upd (upd (upd (upd (upd env0 1 (.box 1 0)) 4 (.asl 24 (r.exps.map Q.Exp.d).length)) 5 (.asl 28 (r.exps.map Q.Exp.d).length)) 12 (.asl 164 (r.lits.map Q.Lit.d).length)) 13 (.d (di (y.1 : Int)))), (upd (upd (upd (upd H0 1 (.box [.d (dexps r.exps), .d (di r.head.kind), .d (ds r.head.name), .d (dints r.head.args), .d (dlits r.body)])) 24 (.arr true 1 3 ((cnt (r.exps.map Q.Exp.d).length y.2).map di))) 28 (.arr true 1 9 ((r.pad x.1).map ds))) 164 (.arr false 3 32 (r.lits.map Q.Lit.d)))⟩) (fun y => y.1 ≤ r.lits.length ∧ y.2 = x.2 ++ argsOf (r.lits.take y.1) ∧ (∀ (j : Nat) (l : Q.Lit), j < y.1 → r.lits[j]? = some l → (l.args.all fun k => inR k 0 ((r.exps.length : Int) - 1)) = true)) (fun y => r.lits.length - y.1) (0, x.2) (fgt_intro (fgt_upd rfl (fgt_upd rfl (fgt_upd rfl (fgt_upd rfl (fgt_upd rfl fgt_env0))))) (fgt_updH rfl (fgt_updH rfl (fgt_updH rfl (fgt_updH rfl fgt_H0))))) ?_ ?_
      · exact ⟨Nat.zero_le _, by simp [argsOf], fun j e h => by simp at h⟩
      rintro y ⟨hy1, hy2, hy3⟩
      refine T_seq ?_
      refine T_seq ?_
      refine T_region ?_
      iterate 4 refine TL_x ?_
      refine TL_nil ?_
      refine EThen_n ?_
      refine T_cond rfl ?_ ?_
      ·
        intro hc
        have hlt : y.1 < r.lits.length := by simpa using hc
        obtain ⟨l, hl'⟩ := get_some hlt
        have hke := hk2 l (List.mem_of_getElem? hl')
        refine T_skip ?_
        refine EThen_n ?_
        refine T_seq ?_
        refine T_block ?_
        refine T_seq ?_
        refine T_region ?_
        refine TL_x ?_
        refine TL_nil ?_
        refine EThen_n ?_
        refine T_block ?_
        refine T_loopF (α := Nat × List Int) (fun z => ⟨(upd (upd (upd (upd (upd (upd env0 1 (.box 1 0)) 4 (.asl 24 (r.exps.map Q.Exp.d).length)) 5 (.asl 28 (r.exps.map Q.Exp.d).length)) 12 (.asl 164 (r.lits.map Q.Lit.d).length)) 13 (.d (di (y.1 : Int)))) 14 (.d (di (z.1 : Int)))), (upd (upd (upd (upd H0 1 (.box [.d (dexps r.exps), .d (di r.head.kind), .d (ds r.head.name), .d (dints r.head.args), .d (dlits r.body)])) 24 (.arr true 1 3 ((cnt (r.exps.map Q.Exp.d).length z.2).map di))) 28 (.arr true 1 9 ((r.pad x.1).map ds))) 164 (.arr false 3 32 (r.lits.map Q.Lit.d)))⟩) (fun z => z.1 ≤ l.args.length ∧ z.2 = y.2 ++ l.args.take z.1 ∧ (∀ j a, j < z.1 → l.args[j]? = some a → inR a 0 ((r.exps.length : Int) - 1) = true)) (fun z => l.args.length - z.1) (0, y.2) (fgt_intro (fgt_upd rfl (fgt_upd rfl (fgt_upd rfl (fgt_upd rfl (fgt_upd rfl (fgt_upd rfl fgt_env0)))))) (fgt_updH rfl (fgt_updH rfl (fgt_updH rfl (fgt_updH rfl fgt_H0))))) ?_ ?_
        · exact ⟨Nat.zero_le _, by simp, fun j e h => by simp at h⟩
        rintro z ⟨hz1, hz2, hz3⟩
        refine T_seq ?_
        refine T_seq ?_
        refine T_region ?_
        iterate 3 refine TL_x ?_
        first | refine TL_o rfl rfl rfl (g_index_sl rfl rfl rfl Ty.s33 (by omega) (get_map hl')) ?_ | refine TL_o rfl rfl rfl (g_index_lit rfl rfl rfl Ty.s33 (by omega) (get_map hl')) ?_ | refine TL_o rfl rfl rfl (g_index_asl rfl rfl rfl rfl rfl Ty.s33 (by omega) (get_map hl')) ?_
        iterate 4 refine TL_x ?_
        refine TL_nil ?_
        refine EThen_n ?_
        refine T_cond rfl ?_ ?_
        ·
          intro hc
          have hlt2 : z.1 < l.args.length := by simpa using hc
          obtain ⟨a, ha⟩ := get_some hlt2
          refine T_skip ?_
          refine EThen_n ?_
          refine T_seq ?_
          refine T_block ?_
          refine T_seq ?_
          refine T_seq ?_
          refine T_region ?_
          iterate 2 refine TL_x ?_
          first | refine TL_o rfl rfl rfl (g_index_sl rfl rfl rfl Ty.s33 (by omega) (get_map hl')) ?_ | refine TL_o rfl rfl rfl (g_index_lit rfl rfl rfl Ty.s33 (by omega) (get_map hl')) ?_ | refine TL_o rfl rfl rfl (g_index_asl rfl rfl rfl rfl rfl Ty.s33 (by omega) (get_map hl')) ?_
          iterate 3 refine TL_x ?_
          first | refine TL_o rfl rfl rfl (g_index_sl rfl rfl rfl Ty.s23 (by omega) (get_map ha)) ?_ | refine TL_o rfl rfl rfl (g_index_lit rfl rfl rfl Ty.s23 (by omega) (get_map ha)) ?_ | refine TL_o rfl rfl rfl (g_index_asl rfl rfl rfl rfl rfl Ty.s23 (by omega) (get_map ha)) ?_
          iterate 2 refine TL_x ?_
          refine TL_o rfl rfl rfl (g_len_asl (m := ((r.exps.map Q.Exp.d).length : Int)) rfl rfl rfl (by simp [cnt]) Ty.s23 (by simp [cnt])) ?_
          refine TL_x ?_
          refine TL_o rfl rfl rfl (c_call rfl rfl Fk.ok62 (fun w F => PC_l01Between a 0 (((r.exps.map Q.Exp.d).length : Int) - 1) w F)) ?_
          refine TL_x ?_
          refine TL_nil ?_
          refine EThen_n ?_
          refine T_cond rfl ?_ ?_
          ·
            intro hc
            have hao : argsOk r.exps.length r.lits = false := args_bad hl' (not_all ha (by rw [List.length_map] at hc; unfold inR; simpa only [Bool.not_eq_true'] using hc))
            refine T_seq ?_
            refine T_region ?_
            refine TL_x ?_
            try refine TL_freeze 28 rfl ?_
            refine TL_o rfl rfl rfl (f_assign rfl (by first | exact .d _ | exact .box _ _ | exact .asl _ _ | exact .nil | exact .lit _ _ | exact .agg _ | exact .clo _ _ | exact .fnv _ | exact .tup _ | exact .el _ _ _ | exact .mp _ | exact .junk)) ?_
            refine TL_x ?_
            refine TL_nil ?_
            refine EThen_n ?_
            refine T_ret ?_
            refine EThen_ret ?_
            refine EBlock_ret ?_
            refine EThen_ret ?_
            refine EThen_ret ?_
            refine EBlock_ret ?_
            refine EBlock_ret ?_
            refine EThen_ret ?_
            refine EThen_ret ?_
            refine EBlock_ret ?_
            refine EThen_ret ?_
            refine RetQ_ret (.cons (by first | exact .d _ | exact .nil _ _ | exact .litn _ _ _ | exact .lit _ _ | exact .asl _ _ _ _ _ rfl rfl | exact .asln _ _ _ _ _ _ _ rfl rfl | exact .emp _ _ _ _ | exact .asl _ _ _ _ _ rfl (by simp [pad_len hx1])) (.cons (by first | exact .d _ | exact .nil _ _ | exact .litn _ _ _ | exact .lit _ _ | exact .asl _ _ _ _ _ rfl rfl | exact .asln _ _ _ _ _ _ _ rfl rfl | exact .emp _ _ _ _ | exact .asl _ _ _ _ _ rfl (by simp [pad_len hx1])) .nil)) ?_
            first | rw [spec_fail h60 hx3 he hff] | (rw [spec_big (by simp at hc; omega)]; rfl) | (rw [spec_end (b := false) h60 hxx hx3 (by rw [hao]; rfl)]) | (rw [spec_end (b := false) h60 hxx hx3 (by rw [hao, ← huse, any_bad hlt3 (by simp at hc; omega)]; rfl)]) | (rw [spec_end (b := true) h60 hxx hx3 (by rw [hao, ← huse, any_good (fun p hp => hp2 p (by omega))]; rfl)])
          ·
            intro hc
            have har : inR a 0 ((r.exps.length : Int) - 1) = true := by simpa [inR] using hc
            have ha0 : 0 ≤ a := by simp [inR] at har; exact har.1
            have ha1 : a < r.exps.length := by simp [inR] at har; omega
            have hp : z.2 <+: r.uses := uses_pre2 hxx hx2 hl' hy2 hz2
            refine T_skip ?_
            refine EThen_n ?_
            refine T_region ?_
            iterate 3 refine TL_x ?_
            first | refine TL_o rfl rfl rfl (g_index_sl rfl rfl rfl Ty.s33 (by omega) (get_map hl')) ?_ | refine TL_o rfl rfl rfl (g_index_lit rfl rfl rfl Ty.s33 (by omega) (get_map hl')) ?_ | refine TL_o rfl rfl rfl (g_index_asl rfl rfl rfl rfl rfl Ty.s33 (by omega) (get_map hl')) ?_
            iterate 3 refine TL_x ?_
            first | refine TL_o rfl rfl rfl (g_index_sl rfl rfl rfl Ty.s23 (by omega) (get_map ha)) ?_ | refine TL_o rfl rfl rfl (g_index_lit rfl rfl rfl Ty.s23 (by omega) (get_map ha)) ?_ | refine TL_o rfl rfl rfl (g_index_asl rfl rfl rfl rfl rfl Ty.s23 (by omega) (get_map ha)) ?_
            refine TL_x ?_
            refine TL_o rfl rfl rfl (g_index_el1 rfl rfl rfl rfl Ty.s23 (by simp [cnt]) ha0 (by simp [cnt]; omega)) ?_
            refine TL_o rfl rfl rfl (g_load_el1 (f := di) rfl rfl Ty.c3 rfl di_cells (by simp [cnt]) (cnt_get ha0 (by simp; omega))) ?_
            refine TL_o rfl rfl rfl (g_add rfl rfl rfl (wr64 _ (by have := cnt_le hu hp a; omega))) ?_
            refine TL_o rfl rfl rfl (g_index_el1 rfl rfl rfl rfl Ty.s23 (by simp [cnt]) ha0 (by simp [cnt]; omega)) ?_
            refine TL_s rfl (s_store_el1 (f := di) rfl rfl rfl rfl (.d _) (.d _) Ty.n3 di_cells (by simp [cnt]) (by simp [cnt]; omega) (cnt_set ha0 (by simp; omega))) ?_
            refine TL_nil ?_
            refine EBlock_n ?_
            refine EThen_n ?_
            refine T_region ?_
            iterate 3 refine TL_x ?_
            refine TL_nil ?_
            refine EThen_n ⟨(z.1 + 1, z.2 ++ [a]), (fgt_intro (fgt_upd rfl (fgt_upd rfl (fgt_upd rfl (fgt_upd rfl (fgt_upd rfl (fgt_upd rfl fgt_env0)))))) (fgt_updH rfl (fgt_updH rfl (fgt_updH rfl (fgt_updH rfl fgt_H0))))), ?_, ?_⟩
            · exact inner_next (q := fun a => inR a 0 ((r.exps.length : Int) - 1)) hz1 hz2 hz3 ha har
            · dsimp only; omega
        ·
          intro hc
          have hlast : ¬ z.1 < l.args.length := by simpa using hc
          refine T_exit ?_
          refine EThen_exit ?_
          refine EThen_exit ?_
          refine EBlock_same ?_
          refine EBlock_n ?_
          refine EThen_n ?_
          refine T_region ?_
          iterate 3 refine TL_x ?_
          refine TL_nil ?_
          refine EThen_n ⟨(y.1 + 1, z.2), (fgt_intro (fgt_upd rfl (fgt_upd rfl (fgt_upd rfl (fgt_upd rfl (fgt_upd rfl fgt_env0))))) (fgt_updH rfl (fgt_updH rfl (fgt_updH rfl (fgt_updH rfl fgt_H0))))), ?_, ?_⟩
          · exact lits_next hy1 hy2 hy3 hl' hz2 hlast (all_of hlast hz3)
          · dsimp only; omega
      ·
        intro hc
        have hlastL : ¬ y.1 < r.lits.length := by simpa using hc
        have huse : y.2 = r.uses := uses_end hxx hx2 hlastL hy2
        have hao : argsOk r.exps.length r.lits = true := all_of hlastL hy3
        refine T_exit ?_
        refine EThen_exit ?_
        refine EThen_exit ?_
        refine EBlock_same ?_
        refine EThen_n ?_
        refine T_seq ?_
        refine T_seq ?_
        refine T_region ?_
        refine TL_x ?_
        refine TL_nil ?_
        refine EThen_n ?_
        refine T_block ?_
        refine T_loopF (α := Nat) (fun p => ⟨(upd (upd (upd (upd env0 1 (.box 1 0)) 4 (.asl 24 (r.exps.map Q.Exp.d).length)) 5 (.asl 28 (r.exps.map Q.Exp.d).length)) 15 (.d (di (p : Int)))), (upd (upd (upd H0 1 (.box [.d (dexps r.exps), .d (di r.head.kind), .d (ds r.head.name), .d (dints r.head.args), .d (dlits r.body)])) 24 (.arr true 1 3 ((cnt (r.exps.map Q.Exp.d).length y.2).map di))) 28 (.arr true 1 9 ((r.pad x.1).map ds)))⟩) (fun p => p ≤ r.exps.length ∧ ∀ j, j < p → y.2.count (j : Int) = 1) (fun p => r.exps.length - p) 0 (fgt_intro (fgt_upd rfl (fgt_upd rfl (fgt_upd rfl (fgt_upd rfl fgt_env0)))) (fgt_updH rfl (fgt_updH rfl (fgt_updH rfl fgt_H0)))) ?_ ?_
        · exact ⟨Nat.zero_le _, fun j h => by omega⟩
        rintro p ⟨hp1, hp2⟩
        refine T_seq ?_
        refine T_seq ?_
        refine T_region ?_
        iterate 2 refine TL_x ?_
        refine TL_o rfl rfl rfl (g_len_asl (m := ((r.exps.map Q.Exp.d).length : Int)) rfl rfl rfl (by simp [cnt]) Ty.s23 (by simp [cnt])) ?_
        refine TL_x ?_
        refine TL_nil ?_
        refine EThen_n ?_
        refine T_cond rfl ?_ ?_
        ·
          intro hc
          have hlt3 : p < r.exps.length := by simpa using hc
          have ha0 : (0 : Int) ≤ (p : Int) := by omega
          refine T_skip ?_
          refine EThen_n ?_
          refine T_seq ?_
          refine T_block ?_
          refine T_seq ?_
          refine T_region ?_
          iterate 2 refine TL_x ?_
          refine TL_o rfl rfl rfl (g_index_el1 rfl rfl rfl rfl Ty.s23 (by simp [cnt]) ha0 (by simp [cnt]; omega)) ?_
          refine TL_o rfl rfl rfl (g_load_el1 (f := di) rfl rfl Ty.c3 rfl di_cells (by simp [cnt]) (cnt_get ha0 (by simp; omega))) ?_
          refine TL_x ?_
          refine TL_nil ?_
          refine EThen_n ?_
          refine T_cond rfl ?_ ?_
          ·
            intro hc
            refine T_seq ?_
            refine T_region ?_
            refine TL_x ?_
            try refine TL_freeze 28 rfl ?_
            refine TL_o rfl rfl rfl (f_assign rfl (by first | exact .d _ | exact .box _ _ | exact .asl _ _ | exact .nil | exact .lit _ _ | exact .agg _ | exact .clo _ _ | exact .fnv _ | exact .tup _ | exact .el _ _ _ | exact .mp _ | exact .junk)) ?_
            refine TL_x ?_
            refine TL_nil ?_
            refine EThen_n ?_
            refine T_ret ?_
            refine EBlock_ret ?_
            refine EThen_ret ?_
            refine EThen_ret ?_
            refine EBlock_ret ?_
            refine EThen_ret ?_
            refine RetQ_ret (.cons (by first | exact .d _ | exact .nil _ _ | exact .litn _ _ _ | exact .lit _ _ | exact .asl _ _ _ _ _ rfl rfl | exact .asln _ _ _ _ _ _ _ rfl rfl | exact .emp _ _ _ _ | exact .asl _ _ _ _ _ rfl (by simp [pad_len hx1])) (.cons (by first | exact .d _ | exact .nil _ _ | exact .litn _ _ _ | exact .lit _ _ | exact .asl _ _ _ _ _ rfl rfl | exact .asln _ _ _ _ _ _ _ rfl rfl | exact .emp _ _ _ _ | exact .asl _ _ _ _ _ rfl (by simp [pad_len hx1])) .nil)) ?_
            first | rw [spec_fail h60 hx3 he hff] | (rw [spec_big (by simp at hc; omega)]; rfl) | (rw [spec_end (b := false) h60 hxx hx3 (by rw [hao]; rfl)]) | (rw [spec_end (b := false) h60 hxx hx3 (by rw [hao, ← huse, any_bad hlt3 (by simp at hc; omega)]; rfl)]) | (rw [spec_end (b := true) h60 hxx hx3 (by rw [hao, ← huse, any_good (fun p hp => hp2 p (by omega))]; rfl)])
          ·
            intro hc
            refine T_skip ?_
            refine EBlock_n ?_
            refine EThen_n ?_
            refine T_region ?_
            iterate 3 refine TL_x ?_
            refine TL_nil ?_
            refine EThen_n ⟨p + 1, (fgt_intro (fgt_upd rfl (fgt_upd rfl (fgt_upd rfl (fgt_upd rfl fgt_env0)))) (fgt_updH rfl (fgt_updH rfl (fgt_updH rfl fgt_H0)))), ?_, ?_⟩
            · exact ⟨hlt3, fun j hj => by
                rcases Nat.lt_succ_iff_lt_or_eq.1 hj with h | h
                · exact hp2 j h
                · subst h; simp at hc; omega⟩
            · omega
        ·
          intro hc
          have hpp : p = r.exps.length := by simp at hc; omega
          refine T_exit ?_
          refine EThen_exit ?_
          refine EThen_exit ?_
          refine EBlock_same ?_
          refine EThen_n ?_
          refine T_seq ?_
          refine T_region ?_
          refine TL_x ?_
          try refine TL_freeze 28 rfl ?_
          refine TL_o rfl rfl rfl (f_assign rfl (by first | exact .d _ | exact .box _ _ | exact .asl _ _ | exact .nil | exact .lit _ _ | exact .agg _ | exact .clo _ _ | exact .fnv _ | exact .tup _ | exact .el _ _ _ | exact .mp _ | exact .junk)) ?_
          refine TL_x ?_
          refine TL_nil ?_
          refine EThen_n ?_
          refine T_ret ?_
          refine RetQ_ret (.cons (by first | exact .d _ | exact .nil _ _ | exact .litn _ _ _ | exact .lit _ _ | exact .asl _ _ _ _ _ rfl rfl | exact .asln _ _ _ _ _ _ _ rfl rfl | exact .emp _ _ _ _ | exact .asl _ _ _ _ _ rfl (by simp [pad_len hx1])) (.cons (by first | exact .d _ | exact .nil _ _ | exact .litn _ _ _ | exact .lit _ _ | exact .asl _ _ _ _ _ rfl rfl | exact .asln _ _ _ _ _ _ _ rfl rfl | exact .emp _ _ _ _ | exact .asl _ _ _ _ _ rfl (by simp [pad_len hx1])) .nil)) ?_
          first | rw [spec_fail h60 hx3 he hff] | (rw [spec_big (by simp at hc; omega)]; rfl) | (rw [spec_end (b := false) h60 hxx hx3 (by rw [hao]; rfl)]) | (rw [spec_end (b := false) h60 hxx hx3 (by rw [hao, ← huse, any_bad hlt3 (by simp at hc; omega)]; rfl)]) | (rw [spec_end (b := true) h60 hxx hx3 (by rw [hao, ← huse, any_good (fun p hp => hp2 p (by omega))]; rfl)])

set_option maxHeartbeats 4000000 in
theorem PC_l04Lit (l : Q.Lit) (o : List Bs) (hin : ∀ k ∈ l.args, 0 ≤ k ∧ k < (o.length : Int)) (hfl : ∀ k ∈ l.args, (at_ o k).length ≤ 3000) (hka : l.args.length ≤ 4294967296) (hkn : l.name.length ≤ 4294967296) (w : World) (F : Fz)  : PC Tryd.prog 38 w F [.d (l.d), .d (dstrs o)] (· = [ds (l.spec o).1, db (l.spec o).2]) := by
  have hget : ∀ k ∈ l.args, o[k.toNat]? = some (at_ o k) := fun k hk => by
    have h1 := hin k hk
    have h2 : k.toNat < o.length := by omega
    simp [at_, List.getD_eq_getElem?_getD, h2]
  refine PC_of_T' (rs := [4, 5]) (n := 74) Tryd.func38 rfl rfl rfl rfl ?_
  refine T_seq ?_
  refine T_region ?_
  refine TL_box 2 ?_
  iterate 2 refine TL_x ?_
  refine TL_nil ?_
  refine EThen_n ?_
  refine T_seq ?_
  refine T_seq ?_
  refine T_region ?_
  iterate 3 refine TL_x ?_
  refine TL_nil ?_
  refine EThen_n ?_
  refine T_cond rfl ?_ ?_
  ·
    intro hc
    have h3 : l.kind = 3 := by simpa using hc
    refine T_seq ?_
    refine T_seq ?_
    refine T_region ?_
    iterate 4 refine TL_x ?_
    refine TL_nil ?_
    refine EThen_n ?_
    refine T_cond rfl ?_ ?_
    ·
      intro hc
      refine T_seq ?_
      refine T_region ?_
      iterate 2 refine TL_x ?_
      refine TL_nil ?_
      refine EThen_n ?_
      refine T_ret ?_
      refine EThen_ret ?_
      refine EThen_ret ?_
      refine Ret_ret ?_
      first | (have h00 := hab; rw [litSpec_two h3 hab]; done) | (have h00 := hql; rw [litSpec_else h3 hz2 hql rfl, hg69]; try rfl) | (rw [litSpec_few h3 (by simp at hc; omega)]; rfl)
    ·
      intro hc
      obtain ⟨a, b, hab⟩ : ∃ a b, l.args = [a, b] := by
        have hl : l.args.length = 2 := by simp at hc; omega
        match hkk : l.args, hl with
        | [a, b], _ => exact ⟨a, b, rfl⟩
      have hga := hget a (by rw [hab]; simp)
      have hgb := hget b (by rw [hab]; simp)
      have hia := hin a (by rw [hab]; simp)
      have hib := hin b (by rw [hab]; simp)
      have hfa := hfl a (by rw [hab]; simp)
      have hfb := hfl b (by rw [hab]; simp)
      refine T_skip ?_
      refine EThen_n ?_
      refine T_seq ?_
      refine T_draw 22 Ty.mixed rfl ?_
      iterate 3 refine DGo_x ?_
      first | refine DGo_one rfl rfl (.go _ rfl (g_index_sl rfl rfl rfl Ty.s23 (by omega) (get_map (by rw [hab]; rfl)))) ?_ | refine DGo_one rfl rfl (.go _ rfl (g_index_lit rfl rfl rfl Ty.s23 (by omega) (get_map (by rw [hab]; rfl)))) ?_ | refine DGo_one rfl rfl (.go _ rfl (g_index_asl rfl rfl rfl rfl rfl Ty.s23 (by omega) (get_map (by rw [hab]; rfl)))) ?_
      refine DGo_x ?_
      first | refine DGo_one rfl rfl (.go _ rfl (g_index_sl rfl rfl rfl Ty.s60 (by omega) (get_map hga))) ?_ | refine DGo_one rfl rfl (.go _ rfl (g_index_lit rfl rfl rfl Ty.s60 (by omega) (get_map hga))) ?_ | refine DGo_one rfl rfl (.go _ rfl (g_index_asl rfl rfl rfl rfl rfl Ty.s60 (by omega) (get_map hga))) ?_
      iterate 9 refine DGo_x ?_
      first | refine DGo_one rfl rfl (.go _ rfl (g_index_sl rfl rfl rfl Ty.s23 (by omega) (get_map (by rw [hab]; rfl)))) ?_ | refine DGo_one rfl rfl (.go _ rfl (g_index_lit rfl rfl rfl Ty.s23 (by omega) (get_map (by rw [hab]; rfl)))) ?_ | refine DGo_one rfl rfl (.go _ rfl (g_index_asl rfl rfl rfl rfl rfl Ty.s23 (by omega) (get_map (by rw [hab]; rfl)))) ?_
      refine DGo_x ?_
      first | refine DGo_one rfl rfl (.go _ rfl (g_index_sl rfl rfl rfl Ty.s60 (by omega) (get_map hgb))) ?_ | refine DGo_one rfl rfl (.go _ rfl (g_index_lit rfl rfl rfl Ty.s60 (by omega) (get_map hgb))) ?_ | refine DGo_one rfl rfl (.go _ rfl (g_index_asl rfl rfl rfl rfl rfl Ty.s60 (by omega) (get_map hgb))) ?_
      iterate 4 refine DGo_x ?_
      refine DGo_nil ?_
      refine TL_nil ?_
      refine EThen_n ?_
      refine T_ret ?_
      refine EThen_ret ?_
      refine Ret_ret ?_
      first | (have h00 := hab; rw [litSpec_two h3 hab]; done) | (have h00 := hql; rw [litSpec_else h3 hz2 hql rfl, hg69]; try rfl) | (rw [litSpec_few h3 (by simp at hc; omega)]; rfl)
  ·
    intro hc
    have h3 : l.kind ≠ 3 := by simpa using hc
    refine T_skip ?_
    refine EThen_n ?_
    refine T_seq ?_
    refine T_region ?_
    iterate 4 refine TL_x ?_
    refine TL_nil ?_
    refine EThen_n ?_
    refine T_seq ?_
    refine T_seq ?_
    refine T_region ?_
    iterate 3 refine TL_x ?_
    refine TL_nil ?_
    refine EThen_n ?_
    refine T_cond rfl ?_ ?_
    ·
      intro hc
      have h2 : l.kind = 2 := by simpa using hc
      refine T_region ?_
      iterate 3 refine TL_x ?_
      refine TL_nil ?_
      refine EThen_n ?_
      refine T_seq ?_
      refine T_seq ?_
      refine T_region ?_
      refine TL_x ?_
      refine TL_nil ?_
      refine EThen_n ?_
      refine T_block ?_
      refine T_loopF (α := Nat × Bs) (fun z => ⟨(upd (upd (upd (upd env0 2 (.box 2 0)) 1 (.d (dstrs o))) 6 (.d (ds z.2))) 7 (.d (di (z.1 : Int)))), (upd H0 2 (.box [.d (di l.kind), .d (ds l.name), .d (dints l.args)]))⟩) (fun z => z.1 ≤ l.args.length ∧ z.2 = argsText o l z.1) (fun z => l.args.length - z.1) (0, _) (fgt_intro (fgt_upd rfl (fgt_upd rfl (fgt_upd rfl (fgt_upd rfl fgt_env0)))) (fgt_updH rfl fgt_H0)) ?_ ?_
      · exact ⟨Nat.zero_le _, by first | exact argsText_zero2 o l h2 | exact argsText_zero o l h2⟩
      rintro z ⟨hz1, hz2⟩
      refine T_seq ?_
      refine T_seq ?_
      refine T_region ?_
      iterate 5 refine TL_x ?_
      refine TL_nil ?_
      refine EThen_n ?_
      refine T_cond rfl ?_ ?_
      ·
        intro hc
        have hlt : z.1 < l.args.length := by simpa using hc
        obtain ⟨a, ha⟩ := get_some hlt
        have hga := hget a (List.mem_of_getElem? ha)
        have hia := hin a (List.mem_of_getElem? ha)
        have hfa := hfl a (List.mem_of_getElem? ha)
        have hzl := argsText_len (q := z.1) hfl
        rw [← hz2] at hzl
        refine T_skip ?_
        refine EThen_n ?_
        refine T_seq ?_
        refine T_block ?_
        refine T_seq ?_
        refine T_seq ?_
        refine T_region ?_
        iterate 2 refine TL_x ?_
        refine TL_nil ?_
        refine EThen_n ?_
        refine T_cond rfl ?_ ?_
        ·
          intro hc
          have hq0 : z.1 ≠ 0 := by simp at hc; omega
          refine T_region ?_
          iterate 3 refine TL_x ?_
          refine TL_nil ?_
          refine EThen_n ?_
          refine T_region ?_
          iterate 5 refine TL_x ?_
          first | refine TL_o rfl rfl rfl (g_index_sl rfl rfl rfl Ty.s23 (by omega) (get_map ha)) ?_ | refine TL_o rfl rfl rfl (g_index_lit rfl rfl rfl Ty.s23 (by omega) (get_map ha)) ?_ | refine TL_o rfl rfl rfl (g_index_asl rfl rfl rfl rfl rfl Ty.s23 (by omega) (get_map ha)) ?_
          refine TL_x ?_
          first | refine TL_o rfl rfl rfl (g_index_sl rfl rfl rfl Ty.s60 (by omega) (get_map hga)) ?_ | refine TL_o rfl rfl rfl (g_index_lit rfl rfl rfl Ty.s60 (by omega) (get_map hga)) ?_ | refine TL_o rfl rfl rfl (g_index_asl rfl rfl rfl rfl rfl Ty.s60 (by omega) (get_map hga)) ?_
          iterate 3 refine TL_x ?_
          refine TL_nil ?_
          refine EBlock_n ?_
          refine EThen_n ?_
          refine T_region ?_
          iterate 3 refine TL_x ?_
          refine TL_nil ?_
          refine EThen_n ⟨(z.1 + 1, _), (fgt_intro (fgt_upd rfl (fgt_upd rfl (fgt_upd rfl (fgt_upd rfl fgt_env0)))) (fgt_updH rfl fgt_H0)), ?_, ?_⟩
          · exact ⟨hlt, by first | (rw [hz2]; exact argsText_succ hq0 ha) | (rw [hz2, hq0]; rw [hq0] at ha; exact argsText_one ha)⟩
          · dsimp only; omega
        ·
          intro hc
          have hq0 : z.1 = 0 := by simp at hc; omega
          refine T_skip ?_
          refine EThen_n ?_
          refine T_region ?_
          iterate 5 refine TL_x ?_
          first | refine TL_o rfl rfl rfl (g_index_sl rfl rfl rfl Ty.s23 (by omega) (get_map ha)) ?_ | refine TL_o rfl rfl rfl (g_index_lit rfl rfl rfl Ty.s23 (by omega) (get_map ha)) ?_ | refine TL_o rfl rfl rfl (g_index_asl rfl rfl rfl rfl rfl Ty.s23 (by omega) (get_map ha)) ?_
          refine TL_x ?_
          first | refine TL_o rfl rfl rfl (g_index_sl rfl rfl rfl Ty.s60 (by omega) (get_map hga)) ?_ | refine TL_o rfl rfl rfl (g_index_lit rfl rfl rfl Ty.s60 (by omega) (get_map hga)) ?_ | refine TL_o rfl rfl rfl (g_index_asl rfl rfl rfl rfl rfl Ty.s60 (by omega) (get_map hga)) ?_
          iterate 3 refine TL_x ?_
          refine TL_nil ?_
          refine EBlock_n ?_
          refine EThen_n ?_
          refine T_region ?_
          iterate 3 refine TL_x ?_
          refine TL_nil ?_
          refine EThen_n ⟨(z.1 + 1, _), (fgt_intro (fgt_upd rfl (fgt_upd rfl (fgt_upd rfl (fgt_upd rfl fgt_env0)))) (fgt_updH rfl fgt_H0)), ?_, ?_⟩
          · exact ⟨hlt, by first | (rw [hz2]; exact argsText_succ hq0 ha) | (rw [hz2, hq0]; rw [hq0] at ha; exact argsText_one ha)⟩
          · dsimp only; omega
      ·
        intro hc
        have hql : z.1 = l.args.length := by simp at hc; omega
        have hzl := argsText_len (q := z.1) hfl
        rw [← hz2] at hzl
        refine T_exit ?_
        refine EThen_exit ?_
        refine EThen_exit ?_
        refine EBlock_same ?_
        refine EThen_n ?_
        refine T_seq ?_
        refine T_draw 12 Ty.mixed rfl ?_
        iterate 5 refine DGo_x ?_
        refine DGo_bool rfl rfl (.go _ rfl (f_move rfl (by first | exact .d _ | exact .box _ _ | exact .asl _ _ | exact .nil | exact .lit _ _ | exact .agg _ | exact .clo _ _ | exact .fnv _ | exact .tup _ | exact .el _ _ _ | exact .mp _ | exact .junk))) ?_ ?_
        ·
          intro hg69
          refine DGo_skip rfl rfl rfl rfl rfl rfl rfl ?_
          refine DGo_skip rfl rfl rfl rfl rfl rfl rfl ?_
          refine DGo_skip rfl rfl rfl rfl rfl rfl rfl ?_
          iterate 3 refine DGo_x ?_
          refine DGo_nil ?_
          refine TL_nil ?_
          refine EThen_n ?_
          refine T_ret ?_
          refine Ret_ret ?_
          first | (have h00 := hab; rw [litSpec_two h3 hab]; done) | (have h00 := hql; rw [litSpec_else h3 hz2 hql rfl, hg69]; try rfl) | (rw [litSpec_few h3 (by simp at hc; omega)]; rfl)
        ·
          intro hg69
          first | refine DGo_one rfl rfl (.want _ _ _ _ rfl rfl rfl rfl (g_field_box rfl rfl Ty.f32_0 rfl)) ?_ | refine DGo_one rfl rfl (.want _ _ _ _ rfl rfl rfl rfl (g_field_pt rfl rfl Ty.f32_0 rfl)) ?_ | refine DGo_one rfl rfl (.want _ _ _ _ rfl rfl rfl rfl (g_field_el rfl rfl rfl rfl Ty.f32_0 rfl)) ?_
          first | refine DGo_one rfl rfl (.want _ _ _ _ rfl rfl rfl rfl (g_load_box rfl rfl Ty.c3 rfl rfl)) ?_ | refine DGo_one rfl rfl (.want _ _ _ _ rfl rfl rfl rfl (g_load_pt rfl rfl Ty.c3 rfl)) ?_ | refine DGo_one rfl rfl (.want _ _ _ _ rfl rfl rfl rfl (g_load_el rfl rfl Ty.c3 rfl rfl rfl)) ?_
          refine DGo_one rfl rfl (.want _ _ _ _ rfl rfl rfl rfl (g_icmp rfl rfl rfl rfl)) ?_
          iterate 3 refine DGo_x ?_
          refine DGo_nil ?_
          refine TL_nil ?_
          refine EThen_n ?_
          refine T_ret ?_
          refine Ret_ret ?_
          first | (have h00 := hab; rw [litSpec_two h3 hab]; done) | (have h00 := hql; rw [litSpec_else h3 hz2 hql rfl, hg69]; try rfl) | (rw [litSpec_few h3 (by simp at hc; omega)]; rfl)
    ·
      intro hc
      have h2 : l.kind ≠ 2 := by simpa using hc
      refine T_skip ?_
      refine EThen_n ?_
      refine T_seq ?_
      refine T_seq ?_
      refine T_region ?_
      refine TL_x ?_
      refine TL_nil ?_
      refine EThen_n ?_
      refine T_block ?_
      refine T_loopF (α := Nat × Bs) (fun z => ⟨(upd (upd (upd (upd env0 2 (.box 2 0)) 1 (.d (dstrs o))) 6 (.d (ds z.2))) 7 (.d (di (z.1 : Int)))), (upd H0 2 (.box [.d (di l.kind), .d (ds l.name), .d (dints l.args)]))⟩) (fun z => z.1 ≤ l.args.length ∧ z.2 = argsText o l z.1) (fun z => l.args.length - z.1) (0, _) (fgt_intro (fgt_upd rfl (fgt_upd rfl (fgt_upd rfl (fgt_upd rfl fgt_env0)))) (fgt_updH rfl fgt_H0)) ?_ ?_
      · exact ⟨Nat.zero_le _, by first | exact argsText_zero2 o l h2 | exact argsText_zero o l h2⟩
      rintro z ⟨hz1, hz2⟩
      refine T_seq ?_
      refine T_seq ?_
      refine T_region ?_
      iterate 5 refine TL_x ?_
      refine TL_nil ?_
      refine EThen_n ?_
      refine T_cond rfl ?_ ?_
      ·
        intro hc
        have hlt : z.1 < l.args.length := by simpa using hc
        obtain ⟨a, ha⟩ := get_some hlt
        have hga := hget a (List.mem_of_getElem? ha)
        have hia := hin a (List.mem_of_getElem? ha)
        have hfa := hfl a (List.mem_of_getElem? ha)
        have hzl := argsText_len (q := z.1) hfl
        rw [← hz2] at hzl
        refine T_skip ?_
        refine EThen_n ?_
        refine T_seq ?_
        refine T_block ?_
        refine T_seq ?_
        refine T_seq ?_
        refine T_region ?_
        iterate 2 refine TL_x ?_
        refine TL_nil ?_
        refine EThen_n ?_
        refine T_cond rfl ?_ ?_
        ·
          intro hc
          have hq0 : z.1 ≠ 0 := by simp at hc; omega
          refine T_region ?_
          iterate 3 refine TL_x ?_
          refine TL_nil ?_
          refine EThen_n ?_
          refine T_region ?_
          iterate 5 refine TL_x ?_
          first | refine TL_o rfl rfl rfl (g_index_sl rfl rfl rfl Ty.s23 (by omega) (get_map ha)) ?_ | refine TL_o rfl rfl rfl (g_index_lit rfl rfl rfl Ty.s23 (by omega) (get_map ha)) ?_ | refine TL_o rfl rfl rfl (g_index_asl rfl rfl rfl rfl rfl Ty.s23 (by omega) (get_map ha)) ?_
          refine TL_x ?_
          first | refine TL_o rfl rfl rfl (g_index_sl rfl rfl rfl Ty.s60 (by omega) (get_map hga)) ?_ | refine TL_o rfl rfl rfl (g_index_lit rfl rfl rfl Ty.s60 (by omega) (get_map hga)) ?_ | refine TL_o rfl rfl rfl (g_index_asl rfl rfl rfl rfl rfl Ty.s60 (by omega) (get_map hga)) ?_
          iterate 3 refine TL_x ?_
          refine TL_nil ?_
          refine EBlock_n ?_
          refine EThen_n ?_
          refine T_region ?_
          iterate 3 refine TL_x ?_
          refine TL_nil ?_
          refine EThen_n ⟨(z.1 + 1, _), (fgt_intro (fgt_upd rfl (fgt_upd rfl (fgt_upd rfl (fgt_upd rfl fgt_env0)))) (fgt_updH rfl fgt_H0)), ?_, ?_⟩
          · exact ⟨hlt, by first | (rw [hz2]; exact argsText_succ hq0 ha) | (rw [hz2, hq0]; rw [hq0] at ha; exact argsText_one ha)⟩
          · dsimp only; omega
        ·
          intro hc
          have hq0 : z.1 = 0 := by simp at hc; omega
          refine T_skip ?_
          refine EThen_n ?_
          refine T_region ?_
          iterate 5 refine TL_x ?_
          first | refine TL_o rfl rfl rfl (g_index_sl rfl rfl rfl Ty.s23 (by omega) (get_map ha)) ?_ | refine TL_o rfl rfl rfl (g_index_lit rfl rfl rfl Ty.s23 (by omega) (get_map ha)) ?_ | refine TL_o rfl rfl rfl (g_index_asl rfl rfl rfl rfl rfl Ty.s23 (by omega) (get_map ha)) ?_
          refine TL_x ?_
          first | refine TL_o rfl rfl rfl (g_index_sl rfl rfl rfl Ty.s60 (by omega) (get_map hga)) ?_ | refine TL_o rfl rfl rfl (g_index_lit rfl rfl rfl Ty.s60 (by omega) (get_map hga)) ?_ | refine TL_o rfl rfl rfl (g_index_asl rfl rfl rfl rfl rfl Ty.s60 (by omega) (get_map hga)) ?_
          iterate 3 refine TL_x ?_
          refine TL_nil ?_
          refine EBlock_n ?_
          refine EThen_n ?_
          refine T_region ?_
          iterate 3 refine TL_x ?_
          refine TL_nil ?_
          refine EThen_n ⟨(z.1 + 1, _), (fgt_intro (fgt_upd rfl (fgt_upd rfl (fgt_upd rfl (fgt_upd rfl fgt_env0)))) (fgt_updH rfl fgt_H0)), ?_, ?_⟩
          · exact ⟨hlt, by first | (rw [hz2]; exact argsText_succ hq0 ha) | (rw [hz2, hq0]; rw [hq0] at ha; exact argsText_one ha)⟩
          · dsimp only; omega
      ·
        intro hc
        have hql : z.1 = l.args.length := by simp at hc; omega
        have hzl := argsText_len (q := z.1) hfl
        rw [← hz2] at hzl
        refine T_exit ?_
        refine EThen_exit ?_
        refine EThen_exit ?_
        refine EBlock_same ?_
        refine EThen_n ?_
        refine T_seq ?_
        refine T_draw 12 Ty.mixed rfl ?_
        iterate 5 refine DGo_x ?_
        refine DGo_bool rfl rfl (.go _ rfl (f_move rfl (by first | exact .d _ | exact .box _ _ | exact .asl _ _ | exact .nil | exact .lit _ _ | exact .agg _ | exact .clo _ _ | exact .fnv _ | exact .tup _ | exact .el _ _ _ | exact .mp _ | exact .junk))) ?_ ?_
        ·
          intro hg69
          refine DGo_skip rfl rfl rfl rfl rfl rfl rfl ?_
          refine DGo_skip rfl rfl rfl rfl rfl rfl rfl ?_
          refine DGo_skip rfl rfl rfl rfl rfl rfl rfl ?_
          iterate 3 refine DGo_x ?_
          refine DGo_nil ?_
          refine TL_nil ?_
          refine EThen_n ?_
          refine T_ret ?_
          refine Ret_ret ?_
          first | (have h00 := hab; rw [litSpec_two h3 hab]; done) | (have h00 := hql; rw [litSpec_else h3 hz2 hql rfl, hg69]; try rfl) | (rw [litSpec_few h3 (by simp at hc; omega)]; rfl)
        ·
          intro hg69
          first | refine DGo_one rfl rfl (.want _ _ _ _ rfl rfl rfl rfl (g_field_box rfl rfl Ty.f32_0 rfl)) ?_ | refine DGo_one rfl rfl (.want _ _ _ _ rfl rfl rfl rfl (g_field_pt rfl rfl Ty.f32_0 rfl)) ?_ | refine DGo_one rfl rfl (.want _ _ _ _ rfl rfl rfl rfl (g_field_el rfl rfl rfl rfl Ty.f32_0 rfl)) ?_
          first | refine DGo_one rfl rfl (.want _ _ _ _ rfl rfl rfl rfl (g_load_box rfl rfl Ty.c3 rfl rfl)) ?_ | refine DGo_one rfl rfl (.want _ _ _ _ rfl rfl rfl rfl (g_load_pt rfl rfl Ty.c3 rfl)) ?_ | refine DGo_one rfl rfl (.want _ _ _ _ rfl rfl rfl rfl (g_load_el rfl rfl Ty.c3 rfl rfl rfl)) ?_
          refine DGo_one rfl rfl (.want _ _ _ _ rfl rfl rfl rfl (g_icmp rfl rfl rfl rfl)) ?_
          iterate 3 refine DGo_x ?_
          refine DGo_nil ?_
          refine TL_nil ?_
          refine EThen_n ?_
          refine T_ret ?_
          refine Ret_ret ?_
          first | (have h00 := hab; rw [litSpec_two h3 hab]; done) | (have h00 := hql; rw [litSpec_else h3 hz2 hql rfl, hg69]; try rfl) | (rw [litSpec_few h3 (by simp at hc; omega)]; rfl)

end Go.Proofs
