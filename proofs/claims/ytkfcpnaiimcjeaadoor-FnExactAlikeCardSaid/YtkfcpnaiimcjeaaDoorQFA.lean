/- Contracts of functions of the program, each under the conditions that its statement names. -/
import Derived.Test.YtkfcpnaiimcjeaaDoorQTy
set_option linter.unusedVariables false
set_option linter.unusedSimpArgs false
namespace Go.Proofs
open Go.Q
attribute [local irreducible] Go.Q.GStep Go.Q.SStep Go.Q.T Go.Q.TL Go.Q.PC Go.Q.DGo
set_option maxHeartbeats 4000000 in
theorem PC_in (n lo hi : Int) (w : World) (F : Fz)  : PC Tryd.prog 70 w F [.d (di n), .d (di lo), .d (di hi)] (· = [db (decide (lo ≤ n) && decide (n ≤ hi))]) := by
  refine PC_of_T' (rs := [6]) (n := 15) Tryd.func70 rfl rfl rfl rfl ?_
  refine T_seq ?_
  refine T_region ?_
  refine TL_x ?_
  refine TL_nil ?_
  refine EThen_n ?_
  refine T_seq ?_
  refine T_region ?_
  iterate 4 refine TL_x ?_
  refine TL_split 10 rfl ?_ ?_
  ·
    intro hg10
    refine TL_want rfl rfl (lt_of_blt rfl) rfl ?_
    refine TL_o rfl rfl rfl (f_move rfl (by first | exact .d _ | exact .box _ _ | exact .asl _ _ | exact .nil | exact .lit _ _ | exact .agg _ | exact .clo _ _ | exact .fnv _ | exact .tup _ | exact .el _ _ _ | exact .mp _ | exact .junk)) ?_
    refine TL_want rfl rfl (lt_of_blt rfl) rfl ?_
    refine TL_o rfl rfl rfl (f_move rfl (by first | exact .d _ | exact .box _ _ | exact .asl _ _ | exact .nil | exact .lit _ _ | exact .agg _ | exact .clo _ _ | exact .fnv _ | exact .tup _ | exact .el _ _ _ | exact .mp _ | exact .junk)) ?_
    refine TL_want rfl rfl (lt_of_blt rfl) rfl ?_
    refine TL_o rfl rfl rfl (g_icmp rfl rfl rfl rfl) ?_
    iterate 2 refine TL_x ?_
    refine TL_nil ?_
    refine EThen_n ?_
    refine T_ret ?_
    refine Ret_ret ?_
    simp [*]
  ·
    intro hg10
    refine TL_skip rfl rfl (lt_of_blt rfl) rfl (lt_of_blt rfl) rfl rfl ?_
    refine TL_skip rfl rfl (lt_of_blt rfl) rfl (lt_of_blt rfl) rfl rfl ?_
    refine TL_skip rfl rfl (lt_of_blt rfl) rfl (lt_of_blt rfl) rfl rfl ?_
    iterate 2 refine TL_x ?_
    refine TL_nil ?_
    refine EThen_n ?_
    refine T_ret ?_
    refine Ret_ret ?_
    simp [*]

set_option maxHeartbeats 4000000 in
theorem PC_l01Between (n lo hi : Int) (w : World) (F : Fz)  : PC Tryd.prog 62 w F [.d (di n), .d (di lo), .d (di hi)] (· = [db (decide (lo ≤ n) && decide (n ≤ hi))]) := by
  refine PC_of_T' (rs := [6]) (n := 15) Tryd.func62 rfl rfl rfl rfl ?_
  refine T_seq ?_
  refine T_region ?_
  refine TL_x ?_
  refine TL_nil ?_
  refine EThen_n ?_
  refine T_seq ?_
  refine T_region ?_
  iterate 4 refine TL_x ?_
  refine TL_split 10 rfl ?_ ?_
  ·
    intro hg10
    refine TL_want rfl rfl (lt_of_blt rfl) rfl ?_
    refine TL_o rfl rfl rfl (f_move rfl (by first | exact .d _ | exact .box _ _ | exact .asl _ _ | exact .nil | exact .lit _ _ | exact .agg _ | exact .clo _ _ | exact .fnv _ | exact .tup _ | exact .el _ _ _ | exact .mp _ | exact .junk)) ?_
    refine TL_want rfl rfl (lt_of_blt rfl) rfl ?_
    refine TL_o rfl rfl rfl (f_move rfl (by first | exact .d _ | exact .box _ _ | exact .asl _ _ | exact .nil | exact .lit _ _ | exact .agg _ | exact .clo _ _ | exact .fnv _ | exact .tup _ | exact .el _ _ _ | exact .mp _ | exact .junk)) ?_
    refine TL_want rfl rfl (lt_of_blt rfl) rfl ?_
    refine TL_o rfl rfl rfl (g_icmp rfl rfl rfl rfl) ?_
    iterate 2 refine TL_x ?_
    refine TL_nil ?_
    refine EThen_n ?_
    refine T_ret ?_
    refine Ret_ret ?_
    simp [*]
  ·
    intro hg10
    refine TL_skip rfl rfl (lt_of_blt rfl) rfl (lt_of_blt rfl) rfl rfl ?_
    refine TL_skip rfl rfl (lt_of_blt rfl) rfl (lt_of_blt rfl) rfl rfl ?_
    refine TL_skip rfl rfl (lt_of_blt rfl) rfl (lt_of_blt rfl) rfl rfl ?_
    iterate 2 refine TL_x ?_
    refine TL_nil ?_
    refine EThen_n ?_
    refine T_ret ?_
    refine Ret_ret ?_
    simp [*]

set_option maxHeartbeats 4000000 in
theorem PC_l05In (l : List Bs) (s : Bs) (hl : l.length ≤ 4611686018427387904) (w : World) (F : Fz)  : PC Tryd.prog 42 w F [.d (dstrs l), .d (ds s)] (· = [db (l.contains s)]) := by
  refine PC_of_T' (rs := [4]) (n := 18) Tryd.func42 rfl rfl rfl rfl ?_
  refine T_seq ?_
  refine T_region ?_
  refine TL_x ?_
  refine TL_nil ?_
  refine EThen_n ?_
  refine T_seq ?_
  refine T_seq ?_
  refine T_region ?_
  refine TL_x ?_
  refine TL_nil ?_
  refine EThen_n ?_
  refine T_block ?_
  refine T_loopF (α := Nat) (fun k => ⟨(upd (upd (upd env0 0 (.d (dstrs l))) 1 (.d (ds s))) 5 (.d (di (k : Int)))), H0⟩) (fun k => k ≤ l.length ∧ s ∉ l.take k) (fun k => l.length - k) 0 (fgt_intro (fgt_upd rfl (fgt_upd rfl (fgt_upd rfl fgt_env0))) fgt_H0) ?_ ?_
  · exact ⟨Nat.zero_le _, by simp⟩
  rintro k ⟨hk, hn⟩
  refine T_seq ?_
  refine T_seq ?_
  refine T_region ?_
  iterate 4 refine TL_x ?_
  refine TL_nil ?_
  refine EThen_n ?_
  refine T_cond rfl ?_ ?_
  ·
    intro hc
    have hlt : k < l.length := by simpa using hc
    obtain ⟨x, hx⟩ := get_some hlt
    refine T_skip ?_
    refine EThen_n ?_
    refine T_seq ?_
    refine T_block ?_
    refine T_seq ?_
    refine T_region ?_
    iterate 2 refine TL_x ?_
    first | refine TL_o rfl rfl rfl (g_index_sl rfl rfl rfl Ty.s60 (by omega) (get_map (by assumption))) ?_ | refine TL_o rfl rfl rfl (g_index_lit rfl rfl rfl Ty.s60 (by omega) (get_map (by assumption))) ?_ | refine TL_o rfl rfl rfl (g_index_asl rfl rfl rfl rfl rfl Ty.s60 (by omega) (get_map (by assumption))) ?_
    iterate 3 refine TL_x ?_
    refine TL_nil ?_
    refine EThen_n ?_
    refine T_cond rfl ?_ ?_
    ·
      intro hc
      refine T_seq ?_
      refine T_region ?_
      refine TL_x ?_
      refine TL_nil ?_
      refine EThen_n ?_
      refine T_ret ?_
      refine EBlock_ret ?_
      refine EThen_ret ?_
      refine EThen_ret ?_
      refine EBlock_ret ?_
      refine EThen_ret ?_
      refine Ret_ret ?_
      simp at hc; subst hc; have := List.mem_of_getElem? hx; simp [this]
    ·
      intro hc
      refine T_skip ?_
      refine EBlock_n ?_
      refine EThen_n ?_
      refine T_region ?_
      iterate 3 refine TL_x ?_
      refine TL_nil ?_
      refine EThen_n ⟨k + 1, (fgt_intro (fgt_upd rfl (fgt_upd rfl (fgt_upd rfl fgt_env0))) fgt_H0), ?_, ?_⟩
      · exact ⟨by omega, by rw [List.take_succ_eq_append_getElem (by omega)]; intro hm; rcases List.mem_append.1 hm with h | h; exact hn h; have := (List.getElem?_eq_some_iff.1 hx).2; simp at h; simp_all⟩
      · omega
  ·
    intro hc
    refine T_exit ?_
    refine EThen_exit ?_
    refine EThen_exit ?_
    refine EBlock_same ?_
    refine EThen_n ?_
    refine T_seq ?_
    refine T_region ?_
    refine TL_x ?_
    refine TL_nil ?_
    refine EThen_n ?_
    refine T_ret ?_
    refine Ret_ret ?_
    have hlt : ¬ k < l.length := by simpa using hc
    rw [List.take_of_length_le (by omega)] at hn; simp [hn]

end Go.Proofs
