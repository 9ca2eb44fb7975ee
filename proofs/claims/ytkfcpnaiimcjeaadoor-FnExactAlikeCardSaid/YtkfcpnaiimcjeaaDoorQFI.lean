/- Contracts of functions of the program, each under the conditions that its statement names. -/
import Derived.Test.YtkfcpnaiimcjeaaDoorQFF
import Derived.Test.YtkfcpnaiimcjeaaDoorQLaws
set_option linter.unusedVariables false
set_option linter.unusedSimpArgs false
namespace Go.Proofs
open Go.Q
attribute [local irreducible] Go.Q.GStep Go.Q.SStep Go.Q.T Go.Q.TL Go.Q.PC Go.Q.DGo
set_option maxHeartbeats 4000000 in
theorem PC_szIntS (l : List Int) (left : Int) (h0 : 0 ≤ left) (h1 : left ≤ 140737488355328) (hl : l.length ≤ 140737488355328) (w : World) (F : Fz)  : PC Tryd.prog 36 w F [.d (dints l), .d (di left)] (· = [di (szR left l.length)]) := by
  refine PC_of_T' (rs := [4]) (n := 12) Tryd.func36 rfl rfl rfl rfl ?_
  refine T_seq ?_
  refine T_region ?_
  refine TL_x ?_
  refine TL_nil ?_
  refine EThen_n ?_
  refine T_seq ?_
  refine T_region ?_
  iterate 5 refine TL_x ?_
  refine TL_nil ?_
  refine EThen_n ?_
  refine T_seq ?_
  refine T_seq ?_
  refine T_region ?_
  iterate 2 refine TL_x ?_
  refine TL_nil ?_
  refine EThen_n ?_
  refine T_cond rfl ?_ ?_
  ·
    intro hc
    refine T_seq ?_
    refine T_region ?_
    refine TL_x ?_
    refine TL_nil ?_
    refine EThen_n ?_
    refine T_ret ?_
    refine EThen_ret ?_
    refine Ret_ret ?_
    rw [szR_out (by have := dec_neg hc; simp at this; omega)]
  ·
    intro hc
    refine T_skip ?_
    refine EThen_n ?_
    refine T_seq ?_
    refine T_region ?_
    iterate 2 refine TL_x ?_
    refine TL_nil ?_
    refine EThen_n ?_
    refine T_ret ?_
    refine Ret_ret ?_
    rw [← szR_len (by have := dec_nn hc; simpa using this)]; simp

set_option maxHeartbeats 4000000 in
theorem PC_szExp (e : Q.Exp) (left : Int) (h0 : 0 ≤ left) (h1 : left ≤ 140737488355328) (hf : e.fit) (w : World) (F : Fz)  : PC Tryd.prog 35 w F [.d (e.d), .d (di left)] (· = [di (szR left e.sz)]) := by
  have hf1 := hf.1
  have hf2 := hf.2
  refine PC_of_T' (rs := [4]) (n := 19) Tryd.func35 rfl rfl rfl rfl ?_
  refine T_seq ?_
  refine T_region ?_
  refine TL_box 2 ?_
  refine TL_x ?_
  refine TL_nil ?_
  refine EThen_n ?_
  refine T_seq ?_
  refine T_region ?_
  iterate 6 refine TL_x ?_
  refine TL_nil ?_
  refine EThen_n ?_
  refine T_seq ?_
  refine T_seq ?_
  refine T_region ?_
  iterate 2 refine TL_x ?_
  refine TL_nil ?_
  refine EThen_n ?_
  refine T_cond rfl ?_ ?_
  ·
    intro hc
    refine T_seq ?_
    refine T_region ?_
    refine TL_x ?_
    refine TL_nil ?_
    refine EThen_n ?_
    refine T_ret ?_
    refine EThen_ret ?_
    refine Ret_ret ?_
    rw [Q.Exp.sz, szR_sub_bad (dec_neg hc)]
  ·
    intro hc
    have hck11 := hc
    refine T_skip ?_
    refine EThen_n ?_
    refine T_seq ?_
    refine T_region ?_
    iterate 3 refine TL_x ?_
    refine TL_o rfl rfl rfl (c_call rfl rfl Fk.ok36 (fun w F => PC_szIntS e.kids (left - e.text.length) (dec_nn hc) (by omega) hf2 w F)) ?_
    refine TL_x ?_
    refine TL_nil ?_
    refine EThen_n ?_
    refine T_seq ?_
    refine T_seq ?_
    refine T_region ?_
    iterate 2 refine TL_x ?_
    refine TL_nil ?_
    refine EThen_n ?_
    refine T_cond rfl ?_ ?_
    ·
      intro hc
      refine T_seq ?_
      refine T_region ?_
      refine TL_x ?_
      refine TL_nil ?_
      refine EThen_n ?_
      refine T_ret ?_
      refine EThen_ret ?_
      refine Ret_ret ?_
      rw [Q.Exp.sz, ← szR_sub (dec_nn hck11)]; exact congrArg (fun z => [di z]) (szR_out (szR_neg (dec_neg hc))).symm
    ·
      intro hc
      refine T_skip ?_
      refine EThen_n ?_
      refine T_seq ?_
      refine T_region ?_
      iterate 2 refine TL_x ?_
      refine TL_nil ?_
      refine EThen_n ?_
      refine T_ret ?_
      refine Ret_ret ?_
      rw [Q.Exp.sz, ← szR_sub (dec_nn hck11)]

set_option maxHeartbeats 4000000 in
theorem PC_szExpS (l : List Q.Exp) (left : Int) (h0 : 0 ≤ left) (h1 : left ≤ 140737488355328) (hl : l.length ≤ 140737488355328) (hs : ∀ x ∈ l, Q.Exp.fit x) (w : World) (F : Fz)  : PC Tryd.prog 14 w F [.d (.sl 3 none (l.map Q.Exp.d)), .d (di left)] (· = [di (szR left (wS Q.Exp.sz l))]) := by
  refine PC_of_T' (rs := [4]) (n := 27) Tryd.func14 rfl rfl rfl rfl ?_
  refine T_seq ?_
  refine T_region ?_
  refine TL_x ?_
  refine TL_nil ?_
  refine EThen_n ?_
  refine T_seq ?_
  refine T_region ?_
  iterate 5 refine TL_x ?_
  refine TL_nil ?_
  refine EThen_n ?_
  refine T_seq ?_
  refine T_seq ?_
  refine T_region ?_
  iterate 2 refine TL_x ?_
  refine TL_nil ?_
  refine EThen_n ?_
  refine T_cond rfl ?_ ?_
  ·
    intro hc
    have hn0 := sz_none (f := Q.Exp.sz) (l := l) (left := left) (by simpa using hc)
    refine T_seq ?_
    refine T_region ?_
    refine TL_x ?_
    refine TL_nil ?_
    refine EThen_n ?_
    refine T_ret ?_
    refine EThen_ret ?_
    refine Ret_ret ?_
    rw [hn0]
  ·
    intro hc
    have hp0 : 0 ≤ left - (l.length : Int) := by simpa using hc
    refine T_skip ?_
    refine EThen_n ?_
    refine T_seq ?_
    refine T_seq ?_
    refine T_region ?_
    refine TL_x ?_
    refine TL_nil ?_
    refine EThen_n ?_
    refine T_block ?_
    refine T_loopF (α := Nat × Int) (fun x => ⟨(upd (upd (upd env0 0 (.d (.sl 3 none (l.map Q.Exp.d)))) 1 (.d (di x.2))) 5 (.d (di (x.1 : Int)))), H0⟩) (fun x => x.1 ≤ l.length ∧ x.2 + ((l.take x.1).map Q.Exp.sz).sum + l.length = left ∧ 0 ≤ x.2) (fun x => l.length - x.1) (0, left - ((l.map Q.Exp.d).length : Int)) (fgt_intro (fgt_upd rfl (fgt_upd rfl (fgt_upd rfl fgt_env0))) fgt_H0) ?_ ?_
    · exact ⟨Nat.zero_le _, by simp, by simpa using hp0⟩
    rintro x ⟨hx1, hx2, hx3⟩
    refine T_seq ?_
    refine T_seq ?_
    refine T_region ?_
    iterate 4 refine TL_x ?_
    refine TL_nil ?_
    refine EThen_n ?_
    refine T_cond rfl ?_ ?_
    ·
      intro hc
      have hlt : x.1 < l.length := by simpa using hc
      obtain ⟨a, ha⟩ := get_some hlt
      have hfa := hs a (List.mem_of_getElem? ha)
      have hb2 : x.2 ≤ left := by omega
      refine T_skip ?_
      refine EThen_n ?_
      refine T_seq ?_
      refine T_block ?_
      refine T_seq ?_
      refine T_region ?_
      iterate 2 refine TL_x ?_
      first | refine TL_o rfl rfl rfl (g_index_sl rfl rfl rfl Ty.s22 (by omega) (get_map ha)) ?_ | refine TL_o rfl rfl rfl (g_index_lit rfl rfl rfl Ty.s22 (by omega) (get_map ha)) ?_ | refine TL_o rfl rfl rfl (g_index_asl rfl rfl rfl rfl rfl Ty.s22 (by omega) (get_map ha)) ?_
      iterate 2 refine TL_x ?_
      refine TL_o rfl rfl rfl (c_call rfl rfl Fk.ok35 (fun w F => PC_szExp a x.2 hx3 (Int.le_trans hb2 h1) hfa w F)) ?_
      refine TL_x ?_
      refine TL_nil ?_
      refine EThen_n ?_
      refine T_seq ?_
      refine T_region ?_
      iterate 2 refine TL_x ?_
      refine TL_nil ?_
      refine EThen_n ?_
      refine T_cond rfl ?_ ?_
      ·
        intro hc
        have hbad := sz_bad ha hx2 (dec_neg hc)
        refine T_seq ?_
        refine T_region ?_
        refine TL_x ?_
        refine TL_nil ?_
        refine EThen_n ?_
        refine T_ret ?_
        refine EBlock_ret ?_
        refine EThen_ret ?_
        refine EThen_ret ?_
        refine EBlock_ret ?_
        refine EThen_ret ?_
        refine Ret_ret ?_
        rw [hbad]
      ·
        intro hc
        have hpp := dec_nn hc
        refine T_skip ?_
        refine EBlock_n ?_
        refine EThen_n ?_
        refine T_region ?_
        iterate 3 refine TL_x ?_
        refine TL_nil ?_
        refine EThen_n ⟨(x.1 + 1, szR x.2 (Q.Exp.sz a)), (fgt_intro (fgt_upd rfl (fgt_upd rfl (fgt_upd rfl fgt_env0))) fgt_H0), ?_, ?_⟩
        · exact ⟨hlt, sz_next ha hx2 hpp, hpp⟩
        · dsimp only; omega
    ·
      intro hc
      have hlast : ¬ x.1 < l.length := by simpa using hc
      refine T_exit ?_
      refine EThen_exit ?_
      refine EThen_exit ?_
      refine EBlock_same ?_
      refine EThen_n ?_
      refine T_seq ?_
      refine T_region ?_
      iterate 2 refine TL_x ?_
      refine TL_nil ?_
      refine EThen_n ?_
      refine T_ret ?_
      refine Ret_ret ?_
      rw [← sz_end hlast hx2 hx3]

set_option maxHeartbeats 4000000 in
theorem PC_szLit (e : Q.Lit) (left : Int) (h0 : 0 ≤ left) (h1 : left ≤ 140737488355328) (hf : e.fit) (w : World) (F : Fz)  : PC Tryd.prog 15 w F [.d (e.d), .d (di left)] (· = [di (szR left e.sz)]) := by
  have hf1 := hf.1
  have hf2 := hf.2
  refine PC_of_T' (rs := [4]) (n := 19) Tryd.func15 rfl rfl rfl rfl ?_
  refine T_seq ?_
  refine T_region ?_
  refine TL_box 2 ?_
  refine TL_x ?_
  refine TL_nil ?_
  refine EThen_n ?_
  refine T_seq ?_
  refine T_region ?_
  iterate 6 refine TL_x ?_
  refine TL_nil ?_
  refine EThen_n ?_
  refine T_seq ?_
  refine T_seq ?_
  refine T_region ?_
  iterate 2 refine TL_x ?_
  refine TL_nil ?_
  refine EThen_n ?_
  refine T_cond rfl ?_ ?_
  ·
    intro hc
    refine T_seq ?_
    refine T_region ?_
    refine TL_x ?_
    refine TL_nil ?_
    refine EThen_n ?_
    refine T_ret ?_
    refine EThen_ret ?_
    refine Ret_ret ?_
    rw [Q.Lit.sz, szR_sub_bad (dec_neg hc)]
  ·
    intro hc
    have hck11 := hc
    refine T_skip ?_
    refine EThen_n ?_
    refine T_seq ?_
    refine T_region ?_
    iterate 3 refine TL_x ?_
    refine TL_o rfl rfl rfl (c_call rfl rfl Fk.ok36 (fun w F => PC_szIntS e.args (left - e.name.length) (dec_nn hc) (by omega) hf2 w F)) ?_
    refine TL_x ?_
    refine TL_nil ?_
    refine EThen_n ?_
    refine T_seq ?_
    refine T_seq ?_
    refine T_region ?_
    iterate 2 refine TL_x ?_
    refine TL_nil ?_
    refine EThen_n ?_
    refine T_cond rfl ?_ ?_
    ·
      intro hc
      refine T_seq ?_
      refine T_region ?_
      refine TL_x ?_
      refine TL_nil ?_
      refine EThen_n ?_
      refine T_ret ?_
      refine EThen_ret ?_
      refine Ret_ret ?_
      rw [Q.Lit.sz, ← szR_sub (dec_nn hck11)]; exact congrArg (fun z => [di z]) (szR_out (szR_neg (dec_neg hc))).symm
    ·
      intro hc
      refine T_skip ?_
      refine EThen_n ?_
      refine T_seq ?_
      refine T_region ?_
      iterate 2 refine TL_x ?_
      refine TL_nil ?_
      refine EThen_n ?_
      refine T_ret ?_
      refine Ret_ret ?_
      rw [Q.Lit.sz, ← szR_sub (dec_nn hck11)]

set_option maxHeartbeats 4000000 in
theorem PC_szLitS (l : List Q.Lit) (left : Int) (h0 : 0 ≤ left) (h1 : left ≤ 140737488355328) (hl : l.length ≤ 140737488355328) (hs : ∀ x ∈ l, Q.Lit.fit x) (w : World) (F : Fz)  : PC Tryd.prog 16 w F [.d (.sl 3 none (l.map Q.Lit.d)), .d (di left)] (· = [di (szR left (wS Q.Lit.sz l))]) := by
  refine PC_of_T' (rs := [4]) (n := 27) Tryd.func16 rfl rfl rfl rfl ?_
  refine T_seq ?_
  refine T_region ?_
  refine TL_x ?_
  refine TL_nil ?_
  refine EThen_n ?_
  refine T_seq ?_
  refine T_region ?_
  iterate 5 refine TL_x ?_
  refine TL_nil ?_
  refine EThen_n ?_
  refine T_seq ?_
  refine T_seq ?_
  refine T_region ?_
  iterate 2 refine TL_x ?_
  refine TL_nil ?_
  refine EThen_n ?_
  refine T_cond rfl ?_ ?_
  ·
    intro hc
    have hn0 := sz_none (f := Q.Lit.sz) (l := l) (left := left) (by simpa using hc)
    refine T_seq ?_
    refine T_region ?_
    refine TL_x ?_
    refine TL_nil ?_
    refine EThen_n ?_
    refine T_ret ?_
    refine EThen_ret ?_
    refine Ret_ret ?_
    rw [hn0]
  ·
    intro hc
    have hp0 : 0 ≤ left - (l.length : Int) := by simpa using hc
    refine T_skip ?_
    refine EThen_n ?_
    refine T_seq ?_
    refine T_seq ?_
    refine T_region ?_
    refine TL_x ?_
    refine TL_nil ?_
    refine EThen_n ?_
    refine T_block ?_
    refine T_loopF (α := Nat × Int) (fun x => ⟨(upd (upd (upd env0 0 (.d (.sl 3 none (l.map Q.Lit.d)))) 1 (.d (di x.2))) 5 (.d (di (x.1 : Int)))), H0⟩) (fun x => x.1 ≤ l.length ∧ x.2 + ((l.take x.1).map Q.Lit.sz).sum + l.length = left ∧ 0 ≤ x.2) (fun x => l.length - x.1) (0, left - ((l.map Q.Lit.d).length : Int)) (fgt_intro (fgt_upd rfl (fgt_upd rfl (fgt_upd rfl fgt_env0))) fgt_H0) ?_ ?_
    · exact ⟨Nat.zero_le _, by simp, by simpa using hp0⟩
    rintro x ⟨hx1, hx2, hx3⟩
    refine T_seq ?_
    refine T_seq ?_
    refine T_region ?_
    iterate 4 refine TL_x ?_
    refine TL_nil ?_
    refine EThen_n ?_
    refine T_cond rfl ?_ ?_
    ·
      intro hc
      have hlt : x.1 < l.length := by simpa using hc
      obtain ⟨a, ha⟩ := get_some hlt
      have hfa := hs a (List.mem_of_getElem? ha)
      have hb2 : x.2 ≤ left := by omega
      refine T_skip ?_
      refine EThen_n ?_
      refine T_seq ?_
      refine T_block ?_
      refine T_seq ?_
      refine T_region ?_
      iterate 2 refine TL_x ?_
      first | refine TL_o rfl rfl rfl (g_index_sl rfl rfl rfl Ty.s26 (by omega) (get_map ha)) ?_ | refine TL_o rfl rfl rfl (g_index_lit rfl rfl rfl Ty.s26 (by omega) (get_map ha)) ?_ | refine TL_o rfl rfl rfl (g_index_asl rfl rfl rfl rfl rfl Ty.s26 (by omega) (get_map ha)) ?_
      iterate 2 refine TL_x ?_
      refine TL_o rfl rfl rfl (c_call rfl rfl Fk.ok15 (fun w F => PC_szLit a x.2 hx3 (Int.le_trans hb2 h1) hfa w F)) ?_
      refine TL_x ?_
      refine TL_nil ?_
      refine EThen_n ?_
      refine T_seq ?_
      refine T_region ?_
      iterate 2 refine TL_x ?_
      refine TL_nil ?_
      refine EThen_n ?_
      refine T_cond rfl ?_ ?_
      ·
        intro hc
        have hbad := sz_bad ha hx2 (dec_neg hc)
        refine T_seq ?_
        refine T_region ?_
        refine TL_x ?_
        refine TL_nil ?_
        refine EThen_n ?_
        refine T_ret ?_
        refine EBlock_ret ?_
        refine EThen_ret ?_
        refine EThen_ret ?_
        refine EBlock_ret ?_
        refine EThen_ret ?_
        refine Ret_ret ?_
        rw [hbad]
      ·
        intro hc
        have hpp := dec_nn hc
        refine T_skip ?_
        refine EBlock_n ?_
        refine EThen_n ?_
        refine T_region ?_
        iterate 3 refine TL_x ?_
        refine TL_nil ?_
        refine EThen_n ⟨(x.1 + 1, szR x.2 (Q.Lit.sz a)), (fgt_intro (fgt_upd rfl (fgt_upd rfl (fgt_upd rfl fgt_env0))) fgt_H0), ?_, ?_⟩
        · exact ⟨hlt, sz_next ha hx2 hpp, hpp⟩
        · dsimp only; omega
    ·
      intro hc
      have hlast : ¬ x.1 < l.length := by simpa using hc
      refine T_exit ?_
      refine EThen_exit ?_
      refine EThen_exit ?_
      refine EBlock_same ?_
      refine EThen_n ?_
      refine T_seq ?_
      refine T_region ?_
      iterate 2 refine TL_x ?_
      refine TL_nil ?_
      refine EThen_n ?_
      refine T_ret ?_
      refine Ret_ret ?_
      rw [← sz_end hlast hx2 hx3]

set_option maxHeartbeats 4000000 in
theorem PC_szRule (r : Rule) (left : Int) (h0 : 0 ≤ left) (h1 : left ≤ 140737488355328) (hf : r.fit) (w : World) (F : Fz)  : PC Tryd.prog 5 w F [.d (r.d), .d (di left)] (· = [di (szR left r.sz)]) := by
  refine PC_of_T' (rs := [4]) (n := 24) Tryd.func5 rfl rfl rfl rfl ?_
  refine T_seq ?_
  refine T_region ?_
  refine TL_box 2 ?_
  refine TL_x ?_
  refine TL_nil ?_
  refine EThen_n ?_
  refine T_seq ?_
  refine T_region ?_
  iterate 3 refine TL_x ?_
  refine TL_o rfl rfl rfl (c_call rfl rfl Fk.ok14 (fun w F => PC_szExpS r.exps left h0 h1 hf.1.1 hf.1.2 w F)) ?_
  refine TL_x ?_
  refine TL_nil ?_
  refine EThen_n ?_
  refine T_seq ?_
  refine T_seq ?_
  refine T_region ?_
  iterate 2 refine TL_x ?_
  refine TL_nil ?_
  refine EThen_n ?_
  refine T_cond rfl ?_ ?_
  ·
    intro hc
    refine T_seq ?_
    refine T_region ?_
    refine TL_x ?_
    refine TL_nil ?_
    refine EThen_n ?_
    refine T_ret ?_
    refine EThen_ret ?_
    refine Ret_ret ?_
    rw [Rule.sz, Nat.add_assoc, szR_bad (dec_neg hc)]
  ·
    intro hc
    have hp0 := dec_nn hc
    refine T_skip ?_
    refine EThen_n ?_
    refine T_seq ?_
    refine T_region ?_
    iterate 3 refine TL_x ?_
    refine TL_o rfl rfl rfl (c_call rfl rfl Fk.ok15 (fun w F => PC_szLit r.head _ hp0 (Int.le_trans (szR_le h0) h1) hf.2.1 w F)) ?_
    refine TL_x ?_
    refine TL_nil ?_
    refine EThen_n ?_
    refine T_seq ?_
    refine T_seq ?_
    refine T_region ?_
    iterate 2 refine TL_x ?_
    refine TL_nil ?_
    refine EThen_n ?_
    refine T_cond rfl ?_ ?_
    ·
      intro hc
      refine T_seq ?_
      refine T_region ?_
      refine TL_x ?_
      refine TL_nil ?_
      refine EThen_n ?_
      refine T_ret ?_
      refine EThen_ret ?_
      refine Ret_ret ?_
      rw [Rule.sz, Nat.add_assoc, ← szR_two hp0, szR_bad (dec_neg hc)]
    ·
      intro hc
      have hp1 := dec_nn hc
      refine T_skip ?_
      refine EThen_n ?_
      refine T_seq ?_
      refine T_region ?_
      iterate 3 refine TL_x ?_
      refine TL_o rfl rfl rfl (c_call rfl rfl Fk.ok16 (fun w F => PC_szLitS r.body _ hp1 (Int.le_trans (szR_le hp0) (Int.le_trans (szR_le h0) h1)) hf.2.2.1 hf.2.2.2 w F)) ?_
      refine TL_x ?_
      refine TL_nil ?_
      refine EThen_n ?_
      refine T_seq ?_
      refine T_seq ?_
      refine T_region ?_
      iterate 2 refine TL_x ?_
      refine TL_nil ?_
      refine EThen_n ?_
      refine T_cond rfl ?_ ?_
      ·
        intro hc
        refine T_seq ?_
        refine T_region ?_
        refine TL_x ?_
        refine TL_nil ?_
        refine EThen_n ?_
        refine T_ret ?_
        refine EThen_ret ?_
        refine Ret_ret ?_
        rw [Rule.sz, Nat.add_assoc, ← szR_two hp0, ← szR_two hp1]; exact congrArg (fun z => [di z]) (szR_out (szR_neg (dec_neg hc))).symm
      ·
        intro hc
        refine T_skip ?_
        refine EThen_n ?_
        refine T_seq ?_
        refine T_region ?_
        iterate 2 refine TL_x ?_
        refine TL_nil ?_
        refine EThen_n ?_
        refine T_ret ?_
        refine Ret_ret ?_
        rw [Rule.sz, Nat.add_assoc, ← szR_two hp0, ← szR_two hp1]

set_option maxHeartbeats 4000000 in
theorem PC_toIntS (l : List Int) (hl : l.length ≤ 4294967296) (w : World) (F : Fz)  : PC Tryd.prog 45 w F [.d (.sl 1 none (l.map di))] (· = [.sl 1 none (l.map di)]) := by
  refine PC_of_T' (rs := [2]) (n := 22) Tryd.func45 rfl rfl rfl rfl ?_
  refine T_seq ?_
  refine T_region ?_
  try refine TL_freeze 7 rfl ?_
  refine TL_o rfl rfl rfl (f_assign rfl (by first | exact .d _ | exact .box _ _ | exact .asl _ _ | exact .nil | exact .lit _ _ | exact .agg _ | exact .clo _ _ | exact .fnv _ | exact .tup _ | exact .el _ _ _ | exact .mp _ | exact .junk)) ?_
  refine TL_nil ?_
  refine EThen_n ?_
  refine T_seq ?_
  refine T_region ?_
  iterate 2 refine TL_x ?_
  refine TL_s rfl (s_makeSlice1 (f := di) (zx := 0) (id := 7) rfl rfl rfl rfl rfl Ty.e23 Ty.z3 (.s _ rfl) di_cells (by simp; omega) (by unfold maxLen; simp; omega) (show _ = fill 0 l 0 by rw [List.length_map]; exact fill_zero _ l) (by repeat (first | exact noRefE0 | exact noRefE_envOf | exact noRefE_envA rfl | refine noRefE_upd rfl ?_)) (by repeat (first | exact noRefH0 | refine noRefH_upd rfl ?_))) ?_
  refine TL_x ?_
  refine TL_nil ?_
  refine EThen_n ?_
  refine T_seq ?_
  refine T_seq ?_
  refine T_region ?_
  refine TL_x ?_
  refine TL_nil ?_
  refine EThen_n ?_
  refine T_block ?_
  refine T_loopF (α := Nat) (fun k => ⟨(upd (upd (upd env0 0 (.d (.sl 1 none (l.map di)))) 3 (.asl 7 (l.map di).length)) 4 (.d (di (k : Int)))), (upd H0 7 (.arr true 1 3 ((fill 0 l k).map di)))⟩) (fun k => k ≤ l.length) (fun k => l.length - k) 0 (fgt_intro (fgt_upd rfl (fgt_upd rfl (fgt_upd rfl fgt_env0))) (fgt_updH rfl fgt_H0)) ?_ ?_
  · exact Nat.zero_le _
  rintro k hk
  refine T_seq ?_
  refine T_seq ?_
  refine T_region ?_
  iterate 4 refine TL_x ?_
  refine TL_nil ?_
  refine EThen_n ?_
  refine T_cond rfl ?_ ?_
  ·
    intro hc
    have hlt : k < l.length := by simpa using hc
    obtain ⟨x, hx⟩ := get_some hlt
    refine T_skip ?_
    refine EThen_n ?_
    refine T_seq ?_
    refine T_block ?_
    refine T_region ?_
    iterate 4 refine TL_x ?_
    first | refine TL_o rfl rfl rfl (g_index_sl rfl rfl rfl Ty.s23 (by omega) (get_map hx)) ?_ | refine TL_o rfl rfl rfl (g_index_lit rfl rfl rfl Ty.s23 (by omega) (get_map hx)) ?_ | refine TL_o rfl rfl rfl (g_index_asl rfl rfl rfl rfl rfl Ty.s23 (by omega) (get_map hx)) ?_
    refine TL_x ?_
    refine TL_o rfl rfl rfl (g_index_el1 rfl rfl rfl rfl Ty.s23 (by simp [fill_len hk]) (Int.natCast_nonneg k) (by simp [fill_len hk]; omega)) ?_
    refine TL_s rfl (s_store_el1 (f := di) rfl rfl rfl rfl (.d _) (.d _) Ty.n3 di_cells (by simp [fill_len hk]) (by simp [fill_len hk]; omega) (show (fill 0 l k).set _ x = fill 0 l (k + 1) by simpa using fill_set hx)) ?_
    refine TL_nil ?_
    refine EBlock_n ?_
    refine EThen_n ?_
    refine T_region ?_
    iterate 3 refine TL_x ?_
    refine TL_nil ?_
    refine EThen_n ⟨k + 1, (fgt_intro (fgt_upd rfl (fgt_upd rfl (fgt_upd rfl fgt_env0))) (fgt_updH rfl fgt_H0)), ?_, ?_⟩
    · exact hlt
    · omega
  ·
    intro hc
    have hlast : ¬ k < l.length := by simpa using hc
    refine T_exit ?_
    refine EThen_exit ?_
    refine EThen_exit ?_
    refine EBlock_same ?_
    refine EThen_n ?_
    refine T_seq ?_
    refine T_region ?_
    refine TL_x ?_
    try refine TL_freeze 7 rfl ?_
    refine TL_o rfl rfl rfl (f_assign rfl (by first | exact .d _ | exact .box _ _ | exact .asl _ _ | exact .nil | exact .lit _ _ | exact .agg _ | exact .clo _ _ | exact .fnv _ | exact .tup _ | exact .el _ _ _ | exact .mp _ | exact .junk)) ?_
    refine TL_nil ?_
    refine EThen_n ?_
    refine T_ret ?_
    refine RetQ_ret (.cons (by first | exact .d _ | exact .nil _ _ | exact .litn _ _ _ | exact .lit _ _ | exact .asl _ _ _ _ _ rfl rfl | exact .asln _ _ _ _ _ _ _ rfl rfl | exact .emp _ _ _ _ | exact .asl _ _ _ _ _ rfl (by simp [fill_len hk])) .nil) ?_
    rw [fill_full hlast]

set_option maxHeartbeats 4000000 in
theorem PC_toExp (e : Q.Exp) (hk : e.kids.length ≤ 4294967296) (w : World) (F : Fz)  : PC Tryd.prog 44 w F [.d (e.d)] (· = [e.d]) := by
  refine PC_of_G (rs := [.cell 2 65]) (n := 15) Tryd.func44 rfl rfl rfl rfl ?_
  refine T_seq ?_
  refine T_region ?_
  refine TL_box 1 ?_
  refine TL_alloc 2 ?_
  refine TL_nil ?_
  refine EThen_n ?_
  refine T_seq ?_
  refine T_region ?_
  refine TL_alloc 3 ?_
  refine TL_nil ?_
  refine EThen_n ?_
  refine T_seq ?_
  refine T_region ?_
  iterate 3 refine TL_x ?_
  refine TL_store ?_
  refine TL_nil ?_
  refine EThen_n ?_
  refine T_seq ?_
  refine T_region ?_
  iterate 3 refine TL_x ?_
  refine TL_store ?_
  refine TL_nil ?_
  refine EThen_n ?_
  refine T_seq ?_
  refine T_region ?_
  iterate 2 refine TL_x ?_
  refine TL_o rfl rfl rfl (c_call rfl rfl Fk.ok45 (fun w F => PC_toIntS e.kids hk w F)) ?_
  refine TL_x ?_
  refine TL_store ?_
  refine TL_nil ?_
  refine EThen_n ?_
  refine T_seq ?_
  refine T_region ?_
  refine TL_x ?_
  refine TL_store ?_
  refine TL_nil ?_
  refine EThen_n ?_
  refine T_ret ?_
  refine RG_ret ?_
  rfl

set_option maxHeartbeats 4000000 in
theorem PC_toExpS (l : List Q.Exp) (hl : l.length ≤ 4294967296) (hk2 : ∀ e ∈ l, e.kids.length ≤ 4294967296) (w : World) (F : Fz)  : PC Tryd.prog 20 w F [.d (.sl 3 none (l.map Q.Exp.d))] (· = [.sl 3 none (l.map Q.Exp.d)]) := by
  refine PC_of_T' (rs := [2]) (n := 23) Tryd.func20 rfl rfl rfl rfl ?_
  refine T_seq ?_
  refine T_region ?_
  try refine TL_freeze 7 rfl ?_
  refine TL_o rfl rfl rfl (f_assign rfl (by first | exact .d _ | exact .box _ _ | exact .asl _ _ | exact .nil | exact .lit _ _ | exact .agg _ | exact .clo _ _ | exact .fnv _ | exact .tup _ | exact .el _ _ _ | exact .mp _ | exact .junk)) ?_
  refine TL_nil ?_
  refine EThen_n ?_
  refine T_seq ?_
  refine T_region ?_
  iterate 2 refine TL_x ?_
  refine TL_s rfl (s_makeSliceN (f := Q.Exp.d) (zx := (⟨0, [], []⟩ : Q.Exp)) (id := 7) rfl rfl rfl rfl rfl Ty.e31 Ty.z65 rfl (.cons (.s _ rfl) (.cons (.s _ rfl) (.cons (.sl 1 none) .nil))) (by simp; omega) (by unfold maxLen; simp; omega) (show _ = fill (⟨0, [], []⟩ : Q.Exp) l 0 by rw [List.length_map]; exact fill_zero _ l) (by repeat (first | exact noRefE0 | exact noRefE_envOf | exact noRefE_envA rfl | refine noRefE_upd rfl ?_)) (by repeat (first | exact noRefH0 | refine noRefH_upd rfl ?_))) ?_
  refine TL_x ?_
  refine TL_nil ?_
  refine EThen_n ?_
  refine T_seq ?_
  refine T_seq ?_
  refine T_region ?_
  refine TL_x ?_
  refine TL_nil ?_
  refine EThen_n ?_
  refine T_block ?_
  refine T_loopF (α := Nat) (fun k => ⟨(upd (upd (upd env0 0 (.d (.sl 3 none (l.map Q.Exp.d)))) 3 (.asl 7 (l.map Q.Exp.d).length)) 4 (.d (di (k : Int)))), (upd H0 7 (.arr true 3 65 ((fill (⟨0, [], []⟩ : Q.Exp) l k).map Q.Exp.d)))⟩) (fun k => k ≤ l.length) (fun k => l.length - k) 0 (fgt_intro (fgt_upd rfl (fgt_upd rfl (fgt_upd rfl fgt_env0))) (fgt_updH rfl fgt_H0)) ?_ ?_
  · exact Nat.zero_le _
  rintro k hk
  refine T_seq ?_
  refine T_seq ?_
  refine T_region ?_
  iterate 4 refine TL_x ?_
  refine TL_nil ?_
  refine EThen_n ?_
  refine T_cond rfl ?_ ?_
  ·
    intro hc
    have hlt : k < l.length := by simpa using hc
    obtain ⟨x, hx⟩ := get_some hlt
    refine T_skip ?_
    refine EThen_n ?_
    refine T_seq ?_
    refine T_block ?_
    refine T_region ?_
    iterate 4 refine TL_x ?_
    first | refine TL_o rfl rfl rfl (g_index_sl rfl rfl rfl Ty.s22 (by omega) (get_map hx)) ?_ | refine TL_o rfl rfl rfl (g_index_lit rfl rfl rfl Ty.s22 (by omega) (get_map hx)) ?_ | refine TL_o rfl rfl rfl (g_index_asl rfl rfl rfl rfl rfl Ty.s22 (by omega) (get_map hx)) ?_
    refine TL_x ?_
    refine TL_o rfl rfl rfl (c_call rfl rfl Fk.ok44 (fun w F => PC_toExp x (hk2 x (List.mem_of_getElem? hx)) w F)) ?_
    refine TL_o rfl rfl rfl (g_index_el rfl rfl rfl (by simp [fill_len hk]) rfl Ty.s31 (Int.natCast_nonneg k) (by simp [fill_len hk]; omega) rfl) ?_
    refine TL_s rfl (s_store_elN (f := Q.Exp.d) (a := x) (i := k) rfl rfl rfl (by simp) rfl (.d _) rfl (.cons (.d _) (.cons (.d _) (.cons (.d _) .nil))) Ty.n65 rfl (fun _ => rfl) (by simp [fill_len hk]) (by simp [fill_len hk]; omega) (show (fill (⟨0, [], []⟩ : Q.Exp) l k).set _ x = fill (⟨0, [], []⟩ : Q.Exp) l (k + 1) by simpa using fill_set hx)) ?_
    refine TL_nil ?_
    refine EBlock_n ?_
    refine EThen_n ?_
    refine T_region ?_
    iterate 3 refine TL_x ?_
    refine TL_nil ?_
    refine EThen_n ⟨k + 1, (fgt_intro (fgt_upd rfl (fgt_upd rfl (fgt_upd rfl fgt_env0))) (fgt_updH rfl fgt_H0)), ?_, ?_⟩
    · exact hlt
    · omega
  ·
    intro hc
    have hlast : ¬ k < l.length := by simpa using hc
    refine T_exit ?_
    refine EThen_exit ?_
    refine EThen_exit ?_
    refine EBlock_same ?_
    refine EThen_n ?_
    refine T_seq ?_
    refine T_region ?_
    refine TL_x ?_
    try refine TL_freeze 7 rfl ?_
    refine TL_o rfl rfl rfl (f_assign rfl (by first | exact .d _ | exact .box _ _ | exact .asl _ _ | exact .nil | exact .lit _ _ | exact .agg _ | exact .clo _ _ | exact .fnv _ | exact .tup _ | exact .el _ _ _ | exact .mp _ | exact .junk)) ?_
    refine TL_nil ?_
    refine EThen_n ?_
    refine T_ret ?_
    refine RetQ_ret (.cons (by first | exact .d _ | exact .nil _ _ | exact .litn _ _ _ | exact .lit _ _ | exact .asl _ _ _ _ _ rfl rfl | exact .asln _ _ _ _ _ _ _ rfl rfl | exact .emp _ _ _ _ | exact .asl _ _ _ _ _ rfl (by simp [fill_len hk])) .nil) ?_
    rw [fill_full hlast]

set_option maxHeartbeats 4000000 in
theorem PC_toLit (e : Q.Lit) (hk : e.args.length ≤ 4294967296) (w : World) (F : Fz)  : PC Tryd.prog 21 w F [.d (e.d)] (· = [e.d]) := by
  refine PC_of_G (rs := [.cell 2 32]) (n := 15) Tryd.func21 rfl rfl rfl rfl ?_
  refine T_seq ?_
  refine T_region ?_
  refine TL_box 1 ?_
  refine TL_alloc 2 ?_
  refine TL_nil ?_
  refine EThen_n ?_
  refine T_seq ?_
  refine T_region ?_
  refine TL_alloc 3 ?_
  refine TL_nil ?_
  refine EThen_n ?_
  refine T_seq ?_
  refine T_region ?_
  iterate 3 refine TL_x ?_
  refine TL_store ?_
  refine TL_nil ?_
  refine EThen_n ?_
  refine T_seq ?_
  refine T_region ?_
  iterate 3 refine TL_x ?_
  refine TL_store ?_
  refine TL_nil ?_
  refine EThen_n ?_
  refine T_seq ?_
  refine T_region ?_
  iterate 2 refine TL_x ?_
  refine TL_o rfl rfl rfl (c_call rfl rfl Fk.ok45 (fun w F => PC_toIntS e.args hk w F)) ?_
  refine TL_x ?_
  refine TL_store ?_
  refine TL_nil ?_
  refine EThen_n ?_
  refine T_seq ?_
  refine T_region ?_
  refine TL_x ?_
  refine TL_store ?_
  refine TL_nil ?_
  refine EThen_n ?_
  refine T_ret ?_
  refine RG_ret ?_
  rfl

set_option maxHeartbeats 4000000 in
theorem PC_toLitS (l : List Q.Lit) (hl : l.length ≤ 4294967296) (hk2 : ∀ e ∈ l, e.args.length ≤ 4294967296) (w : World) (F : Fz)  : PC Tryd.prog 22 w F [.d (.sl 3 none (l.map Q.Lit.d))] (· = [.sl 3 none (l.map Q.Lit.d)]) := by
  refine PC_of_T' (rs := [2]) (n := 23) Tryd.func22 rfl rfl rfl rfl ?_
  refine T_seq ?_
  refine T_region ?_
  try refine TL_freeze 7 rfl ?_
  refine TL_o rfl rfl rfl (f_assign rfl (by first | exact .d _ | exact .box _ _ | exact .asl _ _ | exact .nil | exact .lit _ _ | exact .agg _ | exact .clo _ _ | exact .fnv _ | exact .tup _ | exact .el _ _ _ | exact .mp _ | exact .junk)) ?_
  refine TL_nil ?_
  refine EThen_n ?_
  refine T_seq ?_
  refine T_region ?_
  iterate 2 refine TL_x ?_
  refine TL_s rfl (s_makeSliceN (f := Q.Lit.d) (zx := (⟨0, [], []⟩ : Q.Lit)) (id := 7) rfl rfl rfl rfl rfl Ty.e33 Ty.z32 rfl (.cons (.s _ rfl) (.cons (.s _ rfl) (.cons (.sl 1 none) .nil))) (by simp; omega) (by unfold maxLen; simp; omega) (show _ = fill (⟨0, [], []⟩ : Q.Lit) l 0 by rw [List.length_map]; exact fill_zero _ l) (by repeat (first | exact noRefE0 | exact noRefE_envOf | exact noRefE_envA rfl | refine noRefE_upd rfl ?_)) (by repeat (first | exact noRefH0 | refine noRefH_upd rfl ?_))) ?_
  refine TL_x ?_
  refine TL_nil ?_
  refine EThen_n ?_
  refine T_seq ?_
  refine T_seq ?_
  refine T_region ?_
  refine TL_x ?_
  refine TL_nil ?_
  refine EThen_n ?_
  refine T_block ?_
  refine T_loopF (α := Nat) (fun k => ⟨(upd (upd (upd env0 0 (.d (.sl 3 none (l.map Q.Lit.d)))) 3 (.asl 7 (l.map Q.Lit.d).length)) 4 (.d (di (k : Int)))), (upd H0 7 (.arr true 3 32 ((fill (⟨0, [], []⟩ : Q.Lit) l k).map Q.Lit.d)))⟩) (fun k => k ≤ l.length) (fun k => l.length - k) 0 (fgt_intro (fgt_upd rfl (fgt_upd rfl (fgt_upd rfl fgt_env0))) (fgt_updH rfl fgt_H0)) ?_ ?_
  · exact Nat.zero_le _
  rintro k hk
  refine T_seq ?_
  refine T_seq ?_
  refine T_region ?_
  iterate 4 refine TL_x ?_
  refine TL_nil ?_
  refine EThen_n ?_
  refine T_cond rfl ?_ ?_
  ·
    intro hc
    have hlt : k < l.length := by simpa using hc
    obtain ⟨x, hx⟩ := get_some hlt
    refine T_skip ?_
    refine EThen_n ?_
    refine T_seq ?_
    refine T_block ?_
    refine T_region ?_
    iterate 4 refine TL_x ?_
    first | refine TL_o rfl rfl rfl (g_index_sl rfl rfl rfl Ty.s26 (by omega) (get_map hx)) ?_ | refine TL_o rfl rfl rfl (g_index_lit rfl rfl rfl Ty.s26 (by omega) (get_map hx)) ?_ | refine TL_o rfl rfl rfl (g_index_asl rfl rfl rfl rfl rfl Ty.s26 (by omega) (get_map hx)) ?_
    refine TL_x ?_
    refine TL_o rfl rfl rfl (c_call rfl rfl Fk.ok21 (fun w F => PC_toLit x (hk2 x (List.mem_of_getElem? hx)) w F)) ?_
    refine TL_o rfl rfl rfl (g_index_el rfl rfl rfl (by simp [fill_len hk]) rfl Ty.s33 (Int.natCast_nonneg k) (by simp [fill_len hk]; omega) rfl) ?_
    refine TL_s rfl (s_store_elN (f := Q.Lit.d) (a := x) (i := k) rfl rfl rfl (by simp) rfl (.d _) rfl (.cons (.d _) (.cons (.d _) (.cons (.d _) .nil))) Ty.n32 rfl (fun _ => rfl) (by simp [fill_len hk]) (by simp [fill_len hk]; omega) (show (fill (⟨0, [], []⟩ : Q.Lit) l k).set _ x = fill (⟨0, [], []⟩ : Q.Lit) l (k + 1) by simpa using fill_set hx)) ?_
    refine TL_nil ?_
    refine EBlock_n ?_
    refine EThen_n ?_
    refine T_region ?_
    iterate 3 refine TL_x ?_
    refine TL_nil ?_
    refine EThen_n ⟨k + 1, (fgt_intro (fgt_upd rfl (fgt_upd rfl (fgt_upd rfl fgt_env0))) (fgt_updH rfl fgt_H0)), ?_, ?_⟩
    · exact hlt
    · omega
  ·
    intro hc
    have hlast : ¬ k < l.length := by simpa using hc
    refine T_exit ?_
    refine EThen_exit ?_
    refine EThen_exit ?_
    refine EBlock_same ?_
    refine EThen_n ?_
    refine T_seq ?_
    refine T_region ?_
    refine TL_x ?_
    try refine TL_freeze 7 rfl ?_
    refine TL_o rfl rfl rfl (f_assign rfl (by first | exact .d _ | exact .box _ _ | exact .asl _ _ | exact .nil | exact .lit _ _ | exact .agg _ | exact .clo _ _ | exact .fnv _ | exact .tup _ | exact .el _ _ _ | exact .mp _ | exact .junk)) ?_
    refine TL_nil ?_
    refine EThen_n ?_
    refine T_ret ?_
    refine RetQ_ret (.cons (by first | exact .d _ | exact .nil _ _ | exact .litn _ _ _ | exact .lit _ _ | exact .asl _ _ _ _ _ rfl rfl | exact .asln _ _ _ _ _ _ _ rfl rfl | exact .emp _ _ _ _ | exact .asl _ _ _ _ _ rfl (by simp [fill_len hk])) .nil) ?_
    rw [fill_full hlast]

set_option maxHeartbeats 4000000 in
theorem PC_toRule (r : Rule) (hw : r.wt ≤ 4294967296) (w : World) (F : Fz)  : PC Tryd.prog 7 w F [.d (r.d)] (· = [r.d]) := by
  have hsm := Rule.small hw
  refine PC_of_G (rs := [.cell 2 35]) (n := 17) Tryd.func7 rfl rfl rfl rfl ?_
  refine T_seq ?_
  refine T_region ?_
  refine TL_box 1 ?_
  refine TL_alloc 2 ?_
  refine TL_nil ?_
  refine EThen_n ?_
  refine T_seq ?_
  refine T_region ?_
  refine TL_alloc 3 ?_
  refine TL_nil ?_
  refine EThen_n ?_
  refine T_seq ?_
  refine T_region ?_
  iterate 2 refine TL_x ?_
  refine TL_o rfl rfl rfl (c_call rfl rfl Fk.ok20 (fun w F => PC_toExpS r.exps hsm.1 hsm.2.2.2.1 w F)) ?_
  refine TL_x ?_
  refine TL_store ?_
  refine TL_nil ?_
  refine EThen_n ?_
  refine T_seq ?_
  refine T_region ?_
  iterate 2 refine TL_x ?_
  refine TL_o rfl rfl rfl (c_call rfl rfl Fk.ok21 (fun w F => PC_toLit r.head (hsm.2.2.2.2.1 _ (by simp [Rule.lits])) w F)) ?_
  refine TL_x ?_
  refine TL_store ?_
  refine TL_nil ?_
  refine EThen_n ?_
  refine T_seq ?_
  refine T_region ?_
  iterate 2 refine TL_x ?_
  refine TL_o rfl rfl rfl (c_call rfl rfl Fk.ok22 (fun w F => PC_toLitS r.body hsm.2.1 (fun e he => hsm.2.2.2.2.1 e (by simp [Rule.lits, he])) w F)) ?_
  refine TL_x ?_
  refine TL_store ?_
  refine TL_nil ?_
  refine EThen_n ?_
  refine T_seq ?_
  refine T_region ?_
  refine TL_x ?_
  refine TL_store ?_
  refine TL_nil ?_
  refine EThen_n ?_
  refine T_ret ?_
  refine RG_ret ?_
  rfl

set_option maxHeartbeats 4000000 in
theorem PC_eqIntS (l : List Int) (hl : l.length ≤ 140737488355328) (w : World) (F : Fz)  : PC Tryd.prog 58 w F [.d (.sl 1 none (l.map di)), .d (.sl 1 none (l.map di))] (· = [db true]) := by
  refine PC_of_T' (rs := [4]) (n := 26) Tryd.func58 rfl rfl rfl rfl ?_
  refine T_seq ?_
  refine T_region ?_
  refine TL_x ?_
  refine TL_nil ?_
  refine EThen_n ?_
  refine T_seq ?_
  refine T_seq ?_
  refine T_region ?_
  iterate 5 refine TL_x ?_
  refine TL_nil ?_
  refine EThen_n ?_
  refine T_cond rfl ?_ ?_
  ·
    intro hc
    simp at hc
  ·
    intro hc
    refine T_skip ?_
    refine EThen_n ?_
    refine T_seq ?_
    refine T_seq ?_
    refine T_region ?_
    refine TL_x ?_
    refine TL_nil ?_
    refine EThen_n ?_
    refine T_block ?_
    refine T_loopF (α := Nat) (fun k => ⟨(upd (upd (upd env0 0 (.d (.sl 1 none (l.map di)))) 1 (.d (.sl 1 none (l.map di)))) 5 (.d (di (k : Int)))), H0⟩) (fun k => k ≤ l.length) (fun k => l.length - k) 0 (fgt_intro (fgt_upd rfl (fgt_upd rfl (fgt_upd rfl fgt_env0))) fgt_H0) ?_ ?_
    · exact Nat.zero_le _
    rintro k hk
    refine T_seq ?_
    refine T_seq ?_
    refine T_region ?_
    iterate 4 refine TL_x ?_
    refine TL_nil ?_
    refine EThen_n ?_
    refine T_cond rfl ?_ ?_
    ·
      intro hc
      have hlt : k < l.length := by simpa using hc
      obtain ⟨x, hx⟩ := get_some hlt
      refine T_skip ?_
      refine EThen_n ?_
      refine T_seq ?_
      refine T_block ?_
      refine T_seq ?_
      refine T_draw 9 Ty.mixed rfl ?_
      iterate 2 refine DGo_x ?_
      first | refine DGo_one rfl rfl (.go _ rfl (g_index_sl rfl rfl rfl Ty.s23 (by omega) (get_map hx))) ?_ | refine DGo_one rfl rfl (.go _ rfl (g_index_lit rfl rfl rfl Ty.s23 (by omega) (get_map hx))) ?_ | refine DGo_one rfl rfl (.go _ rfl (g_index_asl rfl rfl rfl rfl rfl Ty.s23 (by omega) (get_map hx))) ?_
      iterate 3 refine DGo_x ?_
      first | refine DGo_one rfl rfl (.go _ rfl (g_index_sl rfl rfl rfl Ty.s23 (by omega) (get_map hx))) ?_ | refine DGo_one rfl rfl (.go _ rfl (g_index_lit rfl rfl rfl Ty.s23 (by omega) (get_map hx))) ?_ | refine DGo_one rfl rfl (.go _ rfl (g_index_asl rfl rfl rfl rfl rfl Ty.s23 (by omega) (get_map hx))) ?_
      iterate 2 refine DGo_x ?_
      refine DGo_nil ?_
      refine TL_nil ?_
      refine EThen_n ?_
      refine T_cond rfl ?_ ?_
      ·
        intro hc
        simp at hc
      ·
        intro hc
        refine T_skip ?_
        refine EBlock_n ?_
        refine EThen_n ?_
        refine T_region ?_
        iterate 3 refine TL_x ?_
        refine TL_nil ?_
        refine EThen_n ⟨k + 1, (fgt_intro (fgt_upd rfl (fgt_upd rfl (fgt_upd rfl fgt_env0))) fgt_H0), ?_, ?_⟩
        · exact hlt
        · omega
    ·
      intro hc
      refine T_exit ?_
      refine EThen_exit ?_
      refine EThen_exit ?_
      refine EBlock_same ?_
      refine EThen_n ?_
      refine T_seq ?_
      refine T_region ?_
      refine TL_x ?_
      refine TL_nil ?_
      refine EThen_n ?_
      refine T_ret ?_
      refine Ret_ret ?_
      rfl

set_option maxHeartbeats 4000000 in
theorem PC_eqExp (e : Q.Exp) (hk : e.kids.length ≤ 140737488355328) (w : World) (F : Fz)  : PC Tryd.prog 57 w F [.d (e.d), .d (e.d)] (· = [db true]) := by
  refine PC_of_T' (rs := [4]) (n := 21) Tryd.func57 rfl rfl rfl rfl ?_
  refine T_seq ?_
  refine T_region ?_
  refine TL_box 2 ?_
  refine TL_box 3 ?_
  refine TL_x ?_
  refine TL_nil ?_
  refine EThen_n ?_
  refine T_seq ?_
  refine T_seq ?_
  refine T_region ?_
  iterate 5 refine TL_x ?_
  refine TL_nil ?_
  refine EThen_n ?_
  refine T_cond rfl ?_ ?_
  ·
    intro hc
    simp at hc
  ·
    intro hc
    refine T_skip ?_
    refine EThen_n ?_
    refine T_seq ?_
    refine T_seq ?_
    refine T_region ?_
    iterate 5 refine TL_x ?_
    refine TL_nil ?_
    refine EThen_n ?_
    refine T_cond rfl ?_ ?_
    ·
      intro hc
      simp at hc
    ·
      intro hc
      refine T_skip ?_
      refine EThen_n ?_
      refine T_seq ?_
      refine T_seq ?_
      refine T_region ?_
      iterate 4 refine TL_x ?_
      refine TL_o rfl rfl rfl (c_call rfl rfl Fk.ok58 (fun w F => PC_eqIntS e.kids hk w F)) ?_
      refine TL_x ?_
      refine TL_nil ?_
      refine EThen_n ?_
      refine T_cond rfl ?_ ?_
      ·
        intro hc
        simp at hc
      ·
        intro hc
        refine T_skip ?_
        refine EThen_n ?_
        refine T_seq ?_
        refine T_region ?_
        refine TL_x ?_
        refine TL_nil ?_
        refine EThen_n ?_
        refine T_ret ?_
        refine Ret_ret ?_
        rfl

set_option maxHeartbeats 4000000 in
theorem PC_eqExpS (l : List Q.Exp) (hl : l.length ≤ 140737488355328) (hk2 : ∀ e ∈ l, e.kids.length ≤ 140737488355328) (w : World) (F : Fz)  : PC Tryd.prog 26 w F [.d (.sl 3 none (l.map Q.Exp.d)), .d (.sl 3 none (l.map Q.Exp.d))] (· = [db true]) := by
  refine PC_of_T' (rs := [4]) (n := 27) Tryd.func26 rfl rfl rfl rfl ?_
  refine T_seq ?_
  refine T_region ?_
  refine TL_x ?_
  refine TL_nil ?_
  refine EThen_n ?_
  refine T_seq ?_
  refine T_seq ?_
  refine T_region ?_
  iterate 5 refine TL_x ?_
  refine TL_nil ?_
  refine EThen_n ?_
  refine T_cond rfl ?_ ?_
  ·
    intro hc
    simp at hc
  ·
    intro hc
    refine T_skip ?_
    refine EThen_n ?_
    refine T_seq ?_
    refine T_seq ?_
    refine T_region ?_
    refine TL_x ?_
    refine TL_nil ?_
    refine EThen_n ?_
    refine T_block ?_
    refine T_loopF (α := Nat) (fun k => ⟨(upd (upd (upd env0 0 (.d (.sl 3 none (l.map Q.Exp.d)))) 1 (.d (.sl 3 none (l.map Q.Exp.d)))) 5 (.d (di (k : Int)))), H0⟩) (fun k => k ≤ l.length) (fun k => l.length - k) 0 (fgt_intro (fgt_upd rfl (fgt_upd rfl (fgt_upd rfl fgt_env0))) fgt_H0) ?_ ?_
    · exact Nat.zero_le _
    rintro k hk
    refine T_seq ?_
    refine T_seq ?_
    refine T_region ?_
    iterate 4 refine TL_x ?_
    refine TL_nil ?_
    refine EThen_n ?_
    refine T_cond rfl ?_ ?_
    ·
      intro hc
      have hlt : k < l.length := by simpa using hc
      obtain ⟨x, hx⟩ := get_some hlt
      refine T_skip ?_
      refine EThen_n ?_
      refine T_seq ?_
      refine T_block ?_
      refine T_seq ?_
      refine T_draw 10 Ty.mixed rfl ?_
      iterate 2 refine DGo_x ?_
      first | refine DGo_one rfl rfl (.go _ rfl (g_index_sl rfl rfl rfl Ty.s31 (by omega) (get_map hx))) ?_ | refine DGo_one rfl rfl (.go _ rfl (g_index_lit rfl rfl rfl Ty.s31 (by omega) (get_map hx))) ?_ | refine DGo_one rfl rfl (.go _ rfl (g_index_asl rfl rfl rfl rfl rfl Ty.s31 (by omega) (get_map hx))) ?_
      iterate 3 refine DGo_x ?_
      first | refine DGo_one rfl rfl (.go _ rfl (g_index_sl rfl rfl rfl Ty.s31 (by omega) (get_map hx))) ?_ | refine DGo_one rfl rfl (.go _ rfl (g_index_lit rfl rfl rfl Ty.s31 (by omega) (get_map hx))) ?_ | refine DGo_one rfl rfl (.go _ rfl (g_index_asl rfl rfl rfl rfl rfl Ty.s31 (by omega) (get_map hx))) ?_
      refine DGo_x ?_
      refine DGo_one rfl rfl (.go _ rfl (c_call rfl rfl Fk.ok57 (fun w F => PC_eqExp x (hk2 x (List.mem_of_getElem? hx)) w F))) ?_
      refine DGo_x ?_
      refine DGo_nil ?_
      refine TL_nil ?_
      refine EThen_n ?_
      refine T_cond rfl ?_ ?_
      ·
        intro hc
        simp at hc
      ·
        intro hc
        refine T_skip ?_
        refine EBlock_n ?_
        refine EThen_n ?_
        refine T_region ?_
        iterate 3 refine TL_x ?_
        refine TL_nil ?_
        refine EThen_n ⟨k + 1, (fgt_intro (fgt_upd rfl (fgt_upd rfl (fgt_upd rfl fgt_env0))) fgt_H0), ?_, ?_⟩
        · exact hlt
        · omega
    ·
      intro hc
      refine T_exit ?_
      refine EThen_exit ?_
      refine EThen_exit ?_
      refine EBlock_same ?_
      refine EThen_n ?_
      refine T_seq ?_
      refine T_region ?_
      refine TL_x ?_
      refine TL_nil ?_
      refine EThen_n ?_
      refine T_ret ?_
      refine Ret_ret ?_
      rfl

set_option maxHeartbeats 4000000 in
theorem PC_eqLit (e : Q.Lit) (hk : e.args.length ≤ 140737488355328) (w : World) (F : Fz)  : PC Tryd.prog 27 w F [.d (e.d), .d (e.d)] (· = [db true]) := by
  refine PC_of_T' (rs := [4]) (n := 21) Tryd.func27 rfl rfl rfl rfl ?_
  refine T_seq ?_
  refine T_region ?_
  refine TL_box 2 ?_
  refine TL_box 3 ?_
  refine TL_x ?_
  refine TL_nil ?_
  refine EThen_n ?_
  refine T_seq ?_
  refine T_seq ?_
  refine T_region ?_
  iterate 5 refine TL_x ?_
  refine TL_nil ?_
  refine EThen_n ?_
  refine T_cond rfl ?_ ?_
  ·
    intro hc
    simp at hc
  ·
    intro hc
    refine T_skip ?_
    refine EThen_n ?_
    refine T_seq ?_
    refine T_seq ?_
    refine T_region ?_
    iterate 5 refine TL_x ?_
    refine TL_nil ?_
    refine EThen_n ?_
    refine T_cond rfl ?_ ?_
    ·
      intro hc
      simp at hc
    ·
      intro hc
      refine T_skip ?_
      refine EThen_n ?_
      refine T_seq ?_
      refine T_seq ?_
      refine T_region ?_
      iterate 4 refine TL_x ?_
      refine TL_o rfl rfl rfl (c_call rfl rfl Fk.ok58 (fun w F => PC_eqIntS e.args hk w F)) ?_
      refine TL_x ?_
      refine TL_nil ?_
      refine EThen_n ?_
      refine T_cond rfl ?_ ?_
      ·
        intro hc
        simp at hc
      ·
        intro hc
        refine T_skip ?_
        refine EThen_n ?_
        refine T_seq ?_
        refine T_region ?_
        refine TL_x ?_
        refine TL_nil ?_
        refine EThen_n ?_
        refine T_ret ?_
        refine Ret_ret ?_
        rfl

set_option maxHeartbeats 4000000 in
theorem PC_eqLitS (l : List Q.Lit) (hl : l.length ≤ 140737488355328) (hk2 : ∀ e ∈ l, e.args.length ≤ 140737488355328) (w : World) (F : Fz)  : PC Tryd.prog 28 w F [.d (.sl 3 none (l.map Q.Lit.d)), .d (.sl 3 none (l.map Q.Lit.d))] (· = [db true]) := by
  refine PC_of_T' (rs := [4]) (n := 27) Tryd.func28 rfl rfl rfl rfl ?_
  refine T_seq ?_
  refine T_region ?_
  refine TL_x ?_
  refine TL_nil ?_
  refine EThen_n ?_
  refine T_seq ?_
  refine T_seq ?_
  refine T_region ?_
  iterate 5 refine TL_x ?_
  refine TL_nil ?_
  refine EThen_n ?_
  refine T_cond rfl ?_ ?_
  ·
    intro hc
    simp at hc
  ·
    intro hc
    refine T_skip ?_
    refine EThen_n ?_
    refine T_seq ?_
    refine T_seq ?_
    refine T_region ?_
    refine TL_x ?_
    refine TL_nil ?_
    refine EThen_n ?_
    refine T_block ?_
    refine T_loopF (α := Nat) (fun k => ⟨(upd (upd (upd env0 0 (.d (.sl 3 none (l.map Q.Lit.d)))) 1 (.d (.sl 3 none (l.map Q.Lit.d)))) 5 (.d (di (k : Int)))), H0⟩) (fun k => k ≤ l.length) (fun k => l.length - k) 0 (fgt_intro (fgt_upd rfl (fgt_upd rfl (fgt_upd rfl fgt_env0))) fgt_H0) ?_ ?_
    · exact Nat.zero_le _
    rintro k hk
    refine T_seq ?_
    refine T_seq ?_
    refine T_region ?_
    iterate 4 refine TL_x ?_
    refine TL_nil ?_
    refine EThen_n ?_
    refine T_cond rfl ?_ ?_
    ·
      intro hc
      have hlt : k < l.length := by simpa using hc
      obtain ⟨x, hx⟩ := get_some hlt
      refine T_skip ?_
      refine EThen_n ?_
      refine T_seq ?_
      refine T_block ?_
      refine T_seq ?_
      refine T_draw 10 Ty.mixed rfl ?_
      iterate 2 refine DGo_x ?_
      first | refine DGo_one rfl rfl (.go _ rfl (g_index_sl rfl rfl rfl Ty.s33 (by omega) (get_map hx))) ?_ | refine DGo_one rfl rfl (.go _ rfl (g_index_lit rfl rfl rfl Ty.s33 (by omega) (get_map hx))) ?_ | refine DGo_one rfl rfl (.go _ rfl (g_index_asl rfl rfl rfl rfl rfl Ty.s33 (by omega) (get_map hx))) ?_
      iterate 3 refine DGo_x ?_
      first | refine DGo_one rfl rfl (.go _ rfl (g_index_sl rfl rfl rfl Ty.s33 (by omega) (get_map hx))) ?_ | refine DGo_one rfl rfl (.go _ rfl (g_index_lit rfl rfl rfl Ty.s33 (by omega) (get_map hx))) ?_ | refine DGo_one rfl rfl (.go _ rfl (g_index_asl rfl rfl rfl rfl rfl Ty.s33 (by omega) (get_map hx))) ?_
      refine DGo_x ?_
      refine DGo_one rfl rfl (.go _ rfl (c_call rfl rfl Fk.ok27 (fun w F => PC_eqLit x (hk2 x (List.mem_of_getElem? hx)) w F))) ?_
      refine DGo_x ?_
      refine DGo_nil ?_
      refine TL_nil ?_
      refine EThen_n ?_
      refine T_cond rfl ?_ ?_
      ·
        intro hc
        simp at hc
      ·
        intro hc
        refine T_skip ?_
        refine EBlock_n ?_
        refine EThen_n ?_
        refine T_region ?_
        iterate 3 refine TL_x ?_
        refine TL_nil ?_
        refine EThen_n ⟨k + 1, (fgt_intro (fgt_upd rfl (fgt_upd rfl (fgt_upd rfl fgt_env0))) fgt_H0), ?_, ?_⟩
        · exact hlt
        · omega
    ·
      intro hc
      refine T_exit ?_
      refine EThen_exit ?_
      refine EThen_exit ?_
      refine EBlock_same ?_
      refine EThen_n ?_
      refine T_seq ?_
      refine T_region ?_
      refine TL_x ?_
      refine TL_nil ?_
      refine EThen_n ?_
      refine T_ret ?_
      refine Ret_ret ?_
      rfl

set_option maxHeartbeats 4000000 in
theorem PC_eqRule (r : Rule) (hw : r.wt ≤ 4294967296) (w : World) (F : Fz)  : PC Tryd.prog 9 w F [.d (r.d), .d (r.d)] (· = [db true]) := by
  have hsm := Rule.small hw
  refine PC_of_T' (rs := [4]) (n := 23) Tryd.func9 rfl rfl rfl rfl ?_
  refine T_seq ?_
  refine T_region ?_
  refine TL_box 2 ?_
  refine TL_box 3 ?_
  refine TL_x ?_
  refine TL_nil ?_
  refine EThen_n ?_
  refine T_seq ?_
  refine T_seq ?_
  refine T_region ?_
  iterate 4 refine TL_x ?_
  refine TL_o rfl rfl rfl (c_call rfl rfl Fk.ok26 (fun w F => PC_eqExpS r.exps (Nat.le_trans hsm.1 (by omega)) (fun e he => Nat.le_trans (hsm.2.2.2.1 e he) (by omega)) w F)) ?_
  refine TL_x ?_
  refine TL_nil ?_
  refine EThen_n ?_
  refine T_cond rfl ?_ ?_
  ·
    intro hc
    simp at hc
  ·
    intro hc
    refine T_skip ?_
    refine EThen_n ?_
    refine T_seq ?_
    refine T_seq ?_
    refine T_region ?_
    iterate 4 refine TL_x ?_
    refine TL_o rfl rfl rfl (c_call rfl rfl Fk.ok27 (fun w F => PC_eqLit r.head (Nat.le_trans (hsm.2.2.2.2.1 _ (by simp [Rule.lits])) (by omega)) w F)) ?_
    refine TL_x ?_
    refine TL_nil ?_
    refine EThen_n ?_
    refine T_cond rfl ?_ ?_
    ·
      intro hc
      simp at hc
    ·
      intro hc
      refine T_skip ?_
      refine EThen_n ?_
      refine T_seq ?_
      refine T_seq ?_
      refine T_region ?_
      iterate 4 refine TL_x ?_
      refine TL_o rfl rfl rfl (c_call rfl rfl Fk.ok28 (fun w F => PC_eqLitS r.body (Nat.le_trans hsm.2.1 (by omega)) (fun e he => Nat.le_trans (hsm.2.2.2.2.1 e (by simp [Rule.lits, he])) (by omega)) w F)) ?_
      refine TL_x ?_
      refine TL_nil ?_
      refine EThen_n ?_
      refine T_cond rfl ?_ ?_
      ·
        intro hc
        simp at hc
      ·
        intro hc
        refine T_skip ?_
        refine EThen_n ?_
        refine T_seq ?_
        refine T_region ?_
        refine TL_x ?_
        refine TL_nil ?_
        refine EThen_n ?_
        refine T_ret ?_
        refine Ret_ret ?_
        rfl

end Go.Proofs
