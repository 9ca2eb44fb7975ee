/- Contracts of functions of the program, each under the conditions that its statement names. -/
import Derived.Test.YtkfcpnaiimcjeaaDoorQFI
import Derived.Test.YtkfcpnaiimcjeaaDoorQSame
import Derived.Test.YtkfcpnaiimcjeaaDoorQNum
import Derived.Test.YtkfcpnaiimcjeaaDoorQItoa
set_option linter.unusedVariables false
set_option linter.unusedSimpArgs false
namespace Go.Proofs
open Go.Q
attribute [local irreducible] Go.Q.GStep Go.Q.SStep Go.Q.T Go.Q.TL Go.Q.PC Go.Q.DGo
set_option maxHeartbeats 4000000 in
theorem PC_l04Ints (a b : List Int) (hl : a.length ≤ 4294967296) (hm : b.length ≤ 4294967296) (w : World) (F : Fz)  : PC Tryd.prog 40 w F [.d (dints a), .d (dints b)] (· = [db (decide (a = b))]) := by
  refine PC_of_T' (rs := [4]) (n := 26) Tryd.func40 rfl rfl rfl rfl ?_
  refine T_seq ?_
  refine T_region ?_
  refine TL_x ?_
  refine TL_nil ?_
  refine EThen_n ?_
  refine T_seq ?_
  refine T_seq ?_
  refine T_region ?_
  iterate 5 refine TL_x ?_
  refine TL_nil ?_
  refine EThen_n ?_
  refine T_cond rfl ?_ ?_
  ·
    intro hc
    have hbad := deq_len (a := a) (b := b) (by simp at hc; omega)
    refine T_seq ?_
    refine T_region ?_
    refine TL_x ?_
    refine TL_nil ?_
    refine EThen_n ?_
    refine T_ret ?_
    refine EThen_ret ?_
    refine Ret_ret ?_
    first | (rw [hbad]; done) | (rw [hbad]; rfl) | (rw [hgood]; done) | (rw [hgood]; rfl)
  ·
    intro hc
    have hll : a.length = b.length := by simp at hc; omega
    refine T_skip ?_
    refine EThen_n ?_
    refine T_seq ?_
    refine T_seq ?_
    refine T_region ?_
    refine TL_x ?_
    refine TL_nil ?_
    refine EThen_n ?_
    refine T_block ?_
    refine T_loopF (α := Nat) (fun k => ⟨(upd (upd (upd env0 0 (.d (dints a))) 1 (.d (dints b))) 5 (.d (di (k : Int)))), H0⟩) (fun k => k ≤ a.length ∧ ∀ j, j < k → a[j]? = b[j]?) (fun k => a.length - k) 0 (fgt_intro (fgt_upd rfl (fgt_upd rfl (fgt_upd rfl fgt_env0))) fgt_H0) ?_ ?_
    · exact ⟨Nat.zero_le _, fun j h => by omega⟩
    rintro k ⟨hk1, hk2⟩
    refine T_seq ?_
    refine T_seq ?_
    refine T_region ?_
    iterate 4 refine TL_x ?_
    refine TL_nil ?_
    refine EThen_n ?_
    refine T_cond rfl ?_ ?_
    ·
      intro hc
      have hlt : k < a.length := by simpa using hc
      obtain ⟨x, hx⟩ := get_some hlt
      obtain ⟨y, hy⟩ := get_some (l := b) (i := k) (by omega)
      refine T_skip ?_
      refine EThen_n ?_
      refine T_seq ?_
      refine T_block ?_
      refine T_seq ?_
      refine T_draw 9 Ty.mixed rfl ?_
      iterate 2 refine DGo_x ?_
      first | refine DGo_one rfl rfl (.go _ rfl (g_index_sl rfl rfl rfl Ty.s23 (by omega) (get_map hx))) ?_ | refine DGo_one rfl rfl (.go _ rfl (g_index_lit rfl rfl rfl Ty.s23 (by omega) (get_map hx))) ?_ | refine DGo_one rfl rfl (.go _ rfl (g_index_asl rfl rfl rfl rfl rfl Ty.s23 (by omega) (get_map hx))) ?_
      iterate 3 refine DGo_x ?_
      first | refine DGo_one rfl rfl (.go _ rfl (g_index_sl rfl rfl rfl Ty.s23 (by omega) (get_map hy))) ?_ | refine DGo_one rfl rfl (.go _ rfl (g_index_lit rfl rfl rfl Ty.s23 (by omega) (get_map hy))) ?_ | refine DGo_one rfl rfl (.go _ rfl (g_index_asl rfl rfl rfl rfl rfl Ty.s23 (by omega) (get_map hy))) ?_
      iterate 2 refine DGo_x ?_
      refine DGo_nil ?_
      refine TL_nil ?_
      refine EThen_n ?_
      refine T_cond rfl ?_ ?_
      ·
        intro hc
        have hbad := deq_bad hx hy (by simpa using hc)
        refine T_seq ?_
        refine T_region ?_
        refine TL_x ?_
        refine TL_nil ?_
        refine EThen_n ?_
        refine T_ret ?_
        refine EBlock_ret ?_
        refine EThen_ret ?_
        refine EThen_ret ?_
        refine EBlock_ret ?_
        refine EThen_ret ?_
        refine Ret_ret ?_
        first | (rw [hbad]; done) | (rw [hbad]; rfl) | (rw [hgood]; done) | (rw [hgood]; rfl)
      ·
        intro hc
        have hxy : x = y := by simpa using hc
        refine T_skip ?_
        refine EBlock_n ?_
        refine EThen_n ?_
        refine T_region ?_
        iterate 3 refine TL_x ?_
        refine TL_nil ?_
        refine EThen_n ⟨k + 1, (fgt_intro (fgt_upd rfl (fgt_upd rfl (fgt_upd rfl fgt_env0))) fgt_H0), ?_, ?_⟩
        · exact ⟨hlt, deq_next hk2 hx hy hxy⟩
        · omega
    ·
      intro hc
      have hlast : ¬ k < a.length := by simpa using hc
      have hgood := deq_all hll hk2 hlast
      refine T_exit ?_
      refine EThen_exit ?_
      refine EThen_exit ?_
      refine EBlock_same ?_
      refine EThen_n ?_
      refine T_seq ?_
      refine T_region ?_
      refine TL_x ?_
      refine TL_nil ?_
      refine EThen_n ?_
      refine T_ret ?_
      refine Ret_ret ?_
      first | (rw [hbad]; done) | (rw [hbad]; rfl) | (rw [hgood]; done) | (rw [hgood]; rfl)

set_option maxHeartbeats 4000000 in
theorem PC_EqualInt (a b : List Int) (hl : a.length ≤ 4294967296) (hm : b.length ≤ 4294967296) (w : World) (F : Fz)  : PC Tryd.prog 51 w F [.d (dints a), .d (dints b)] (· = [db (decide (a = b))]) := by
  refine PC_of_T' (rs := [4]) (n := 26) Tryd.func51 rfl rfl rfl rfl ?_
  refine T_seq ?_
  refine T_region ?_
  refine TL_x ?_
  refine TL_nil ?_
  refine EThen_n ?_
  refine T_seq ?_
  refine T_seq ?_
  refine T_region ?_
  iterate 5 refine TL_x ?_
  refine TL_nil ?_
  refine EThen_n ?_
  refine T_cond rfl ?_ ?_
  ·
    intro hc
    have hbad := deq_len (a := a) (b := b) (by simp at hc; omega)
    refine T_seq ?_
    refine T_region ?_
    refine TL_x ?_
    refine TL_nil ?_
    refine EThen_n ?_
    refine T_ret ?_
    refine EThen_ret ?_
    refine Ret_ret ?_
    first | (rw [hbad]; done) | (rw [hbad]; rfl) | (rw [hgood]; done) | (rw [hgood]; rfl)
  ·
    intro hc
    have hll : a.length = b.length := by simp at hc; omega
    refine T_skip ?_
    refine EThen_n ?_
    refine T_seq ?_
    refine T_seq ?_
    refine T_region ?_
    iterate 3 refine TL_x ?_
    refine TL_nil ?_
    refine EThen_n ?_
    refine T_block ?_
    refine T_loopF (α := Nat) (fun k => ⟨(upd (upd (upd (upd (upd env0 0 (.d (dints a))) 1 (.d (dints b))) 11 (.d (dints a))) 12 (.d (di ((a.map di).length : Int)))) 13 (.d (di (k : Int)))), H0⟩) (fun k => k ≤ a.length ∧ ∀ j, j < k → a[j]? = b[j]?) (fun k => a.length - k) 0 (fgt_intro (fgt_upd rfl (fgt_upd rfl (fgt_upd rfl (fgt_upd rfl (fgt_upd rfl fgt_env0))))) fgt_H0) ?_ ?_
    · exact ⟨Nat.zero_le _, fun j h => by omega⟩
    rintro k ⟨hk1, hk2⟩
    refine T_seq ?_
    refine T_region ?_
    refine TL_x ?_
    refine TL_nil ?_
    refine EThen_n ?_
    refine T_seq ?_
    refine T_cond rfl ?_ ?_
    ·
      intro hc
      have hlt : k < a.length := by simpa using hc
      obtain ⟨x, hx⟩ := get_some hlt
      obtain ⟨y, hy⟩ := get_some (l := b) (i := k) (by omega)
      refine T_skip ?_
      refine EThen_n ?_
      refine T_seq ?_
      refine T_block ?_
      refine T_seq ?_
      refine T_region ?_
      iterate 2 refine TL_x ?_
      refine TL_nil ?_
      refine EThen_n ?_
      refine T_seq ?_
      refine T_draw 9 Ty.mixed rfl ?_
      iterate 2 refine DGo_x ?_
      first | refine DGo_one rfl rfl (.go _ rfl (g_index_sl rfl rfl rfl Ty.s23 (by omega) (get_map hx))) ?_ | refine DGo_one rfl rfl (.go _ rfl (g_index_lit rfl rfl rfl Ty.s23 (by omega) (get_map hx))) ?_ | refine DGo_one rfl rfl (.go _ rfl (g_index_asl rfl rfl rfl rfl rfl Ty.s23 (by omega) (get_map hx))) ?_
      iterate 3 refine DGo_x ?_
      first | refine DGo_one rfl rfl (.go _ rfl (g_index_sl rfl rfl rfl Ty.s23 (by omega) (get_map hy))) ?_ | refine DGo_one rfl rfl (.go _ rfl (g_index_lit rfl rfl rfl Ty.s23 (by omega) (get_map hy))) ?_ | refine DGo_one rfl rfl (.go _ rfl (g_index_asl rfl rfl rfl rfl rfl Ty.s23 (by omega) (get_map hy))) ?_
      iterate 2 refine DGo_x ?_
      refine DGo_nil ?_
      refine TL_nil ?_
      refine EThen_n ?_
      refine T_cond rfl ?_ ?_
      ·
        intro hc
        have hbad := deq_bad hx hy (by simpa using hc)
        refine T_seq ?_
        refine T_region ?_
        refine TL_x ?_
        refine TL_nil ?_
        refine EThen_n ?_
        refine T_ret ?_
        refine EBlock_ret ?_
        refine EThen_ret ?_
        refine EThen_ret ?_
        refine EBlock_ret ?_
        refine EThen_ret ?_
        refine Ret_ret ?_
        first | (rw [hbad]; done) | (rw [hbad]; rfl) | (rw [hgood]; done) | (rw [hgood]; rfl)
      ·
        intro hc
        have hxy : x = y := by simpa using hc
        refine T_skip ?_
        refine EBlock_n ?_
        refine EThen_n ?_
        refine T_region ?_
        iterate 2 refine TL_x ?_
        refine TL_nil ?_
        refine EThen_n ⟨k + 1, (fgt_intro (fgt_upd rfl (fgt_upd rfl (fgt_upd rfl (fgt_upd rfl (fgt_upd rfl fgt_env0))))) fgt_H0), ?_, ?_⟩
        · exact ⟨hlt, deq_next hk2 hx hy hxy⟩
        · omega
    ·
      intro hc
      have hlast : ¬ k < a.length := by simpa using hc
      have hgood := deq_all hll hk2 hlast
      refine T_exit ?_
      refine EThen_exit ?_
      refine EThen_exit ?_
      refine EBlock_same ?_
      refine EThen_n ?_
      refine T_seq ?_
      refine T_region ?_
      refine TL_x ?_
      refine TL_nil ?_
      refine EThen_n ?_
      refine T_ret ?_
      refine Ret_ret ?_
      first | (rw [hbad]; done) | (rw [hbad]; rfl) | (rw [hgood]; done) | (rw [hgood]; rfl)

set_option maxHeartbeats 4000000 in
theorem PC_l04SameLit (a b : Q.Lit) (ha : a.args.length ≤ 4294967296) (hb : b.args.length ≤ 4294967296) (w : World) (F : Fz)  : PC Tryd.prog 39 w F [.d (a.d), .d (b.d)] (· = [db (decide (a = b))]) := by
  refine PC_of_T' (rs := [4]) (n := 24) Tryd.func39 rfl rfl rfl rfl ?_
  refine T_seq ?_
  refine T_region ?_
  refine TL_box 2 ?_
  refine TL_box 3 ?_
  refine TL_x ?_
  refine TL_nil ?_
  refine EThen_n ?_
  refine T_seq ?_
  refine T_region ?_
  iterate 6 refine TL_x ?_
  refine TL_split 10 rfl ?_ ?_
  ·
    intro hg10
    refine TL_want rfl rfl (lt_of_blt rfl) rfl ?_
    first | refine TL_o rfl rfl rfl (g_field_box rfl rfl Ty.f32_1 rfl) ?_ | refine TL_o rfl rfl rfl (g_field_pt rfl rfl Ty.f32_1 rfl) ?_ | refine TL_o rfl rfl rfl (g_field_el rfl rfl rfl rfl Ty.f32_1 rfl) ?_
    refine TL_want rfl rfl (lt_of_blt rfl) rfl ?_
    first | refine TL_o rfl rfl rfl (g_load_box rfl rfl Ty.c9 rfl rfl) ?_ | refine TL_o rfl rfl rfl (g_load_pt rfl rfl Ty.c9 rfl) ?_ | refine TL_o rfl rfl rfl (g_load_el rfl rfl Ty.c9 rfl rfl rfl) ?_
    refine TL_want rfl rfl (lt_of_blt rfl) rfl ?_
    first | refine TL_o rfl rfl rfl (g_field_box rfl rfl Ty.f32_1 rfl) ?_ | refine TL_o rfl rfl rfl (g_field_pt rfl rfl Ty.f32_1 rfl) ?_ | refine TL_o rfl rfl rfl (g_field_el rfl rfl rfl rfl Ty.f32_1 rfl) ?_
    refine TL_want rfl rfl (lt_of_blt rfl) rfl ?_
    first | refine TL_o rfl rfl rfl (g_load_box rfl rfl Ty.c9 rfl rfl) ?_ | refine TL_o rfl rfl rfl (g_load_pt rfl rfl Ty.c9 rfl) ?_ | refine TL_o rfl rfl rfl (g_load_el rfl rfl Ty.c9 rfl rfl rfl) ?_
    refine TL_want rfl rfl (lt_of_blt rfl) rfl ?_
    refine TL_o rfl rfl rfl (g_scmp rfl rfl rfl rfl) ?_
    iterate 2 refine TL_x ?_
    refine TL_split 17 rfl ?_ ?_
    ·
      intro hg17
      refine TL_want rfl rfl (lt_of_blt rfl) rfl ?_
      first | refine TL_o rfl rfl rfl (g_field_box rfl rfl Ty.f32_2 rfl) ?_ | refine TL_o rfl rfl rfl (g_field_pt rfl rfl Ty.f32_2 rfl) ?_ | refine TL_o rfl rfl rfl (g_field_el rfl rfl rfl rfl Ty.f32_2 rfl) ?_
      refine TL_want rfl rfl (lt_of_blt rfl) rfl ?_
      first | refine TL_o rfl rfl rfl (g_load_box rfl rfl Ty.c23 rfl rfl) ?_ | refine TL_o rfl rfl rfl (g_load_pt rfl rfl Ty.c23 rfl) ?_ | refine TL_o rfl rfl rfl (g_load_el rfl rfl Ty.c23 rfl rfl rfl) ?_
      refine TL_want rfl rfl (lt_of_blt rfl) rfl ?_
      first | refine TL_o rfl rfl rfl (g_field_box rfl rfl Ty.f32_2 rfl) ?_ | refine TL_o rfl rfl rfl (g_field_pt rfl rfl Ty.f32_2 rfl) ?_ | refine TL_o rfl rfl rfl (g_field_el rfl rfl rfl rfl Ty.f32_2 rfl) ?_
      refine TL_want rfl rfl (lt_of_blt rfl) rfl ?_
      first | refine TL_o rfl rfl rfl (g_load_box rfl rfl Ty.c23 rfl rfl) ?_ | refine TL_o rfl rfl rfl (g_load_pt rfl rfl Ty.c23 rfl) ?_ | refine TL_o rfl rfl rfl (g_load_el rfl rfl Ty.c23 rfl rfl rfl) ?_
      refine TL_want rfl rfl (lt_of_blt rfl) rfl ?_
      refine TL_o rfl rfl rfl (c_call rfl rfl Fk.ok40 (fun w F => PC_l04Ints a.args b.args ha hb w F)) ?_
      iterate 2 refine TL_x ?_
      refine TL_nil ?_
      refine EThen_n ?_
      refine T_ret ?_
      refine Ret_ret ?_
      rw [lit_eq]; simp at *; simp [*]
    ·
      intro hg17
      refine TL_skip rfl rfl (lt_of_blt rfl) rfl (lt_of_blt rfl) rfl rfl ?_
      refine TL_skip rfl rfl (lt_of_blt rfl) rfl (lt_of_blt rfl) rfl rfl ?_
      refine TL_skip rfl rfl (lt_of_blt rfl) rfl (lt_of_blt rfl) rfl rfl ?_
      refine TL_skip rfl rfl (lt_of_blt rfl) rfl (lt_of_blt rfl) rfl rfl ?_
      refine TL_skip rfl rfl (lt_of_blt rfl) rfl (lt_of_blt rfl) rfl rfl ?_
      iterate 2 refine TL_x ?_
      refine TL_nil ?_
      refine EThen_n ?_
      refine T_ret ?_
      refine Ret_ret ?_
      rw [lit_eq]; simp at *; simp [*]
  ·
    intro hg10
    refine TL_skip rfl rfl (lt_of_blt rfl) rfl (lt_of_blt rfl) rfl rfl ?_
    refine TL_skip rfl rfl (lt_of_blt rfl) rfl (lt_of_blt rfl) rfl rfl ?_
    refine TL_skip rfl rfl (lt_of_blt rfl) rfl (lt_of_blt rfl) rfl rfl ?_
    refine TL_skip rfl rfl (lt_of_blt rfl) rfl (lt_of_blt rfl) rfl rfl ?_
    refine TL_skip rfl rfl (lt_of_blt rfl) rfl (lt_of_blt rfl) rfl rfl ?_
    iterate 2 refine TL_x ?_
    refine TL_skip rfl rfl (lt_of_blt rfl) rfl (lt_of_blt rfl) rfl rfl ?_
    refine TL_skip rfl rfl (lt_of_blt rfl) rfl (lt_of_blt rfl) rfl rfl ?_
    refine TL_skip rfl rfl (lt_of_blt rfl) rfl (lt_of_blt rfl) rfl rfl ?_
    refine TL_skip rfl rfl (lt_of_blt rfl) rfl (lt_of_blt rfl) rfl rfl ?_
    refine TL_skip rfl rfl (lt_of_blt rfl) rfl (lt_of_blt rfl) rfl rfl ?_
    iterate 2 refine TL_x ?_
    refine TL_nil ?_
    refine EThen_n ?_
    refine T_ret ?_
    refine Ret_ret ?_
    rw [lit_eq]; simp at *; simp [*]

set_option maxHeartbeats 4000000 in
theorem PC_sameLit (a b : Q.Lit) (ha : a.args.length ≤ 4294967296) (hb : b.args.length ≤ 4294967296) (w : World) (F : Fz)  : PC Tryd.prog 47 w F [.d (a.d), .d (b.d)] (· = [db (decide (a = b))]) := by
  refine PC_of_T' (rs := [4]) (n := 24) Tryd.func47 rfl rfl rfl rfl ?_
  refine T_seq ?_
  refine T_region ?_
  refine TL_box 2 ?_
  refine TL_box 3 ?_
  refine TL_x ?_
  refine TL_nil ?_
  refine EThen_n ?_
  refine T_seq ?_
  refine T_region ?_
  iterate 6 refine TL_x ?_
  refine TL_split 10 rfl ?_ ?_
  ·
    intro hg10
    refine TL_want rfl rfl (lt_of_blt rfl) rfl ?_
    first | refine TL_o rfl rfl rfl (g_field_box rfl rfl Ty.f32_1 rfl) ?_ | refine TL_o rfl rfl rfl (g_field_pt rfl rfl Ty.f32_1 rfl) ?_ | refine TL_o rfl rfl rfl (g_field_el rfl rfl rfl rfl Ty.f32_1 rfl) ?_
    refine TL_want rfl rfl (lt_of_blt rfl) rfl ?_
    first | refine TL_o rfl rfl rfl (g_load_box rfl rfl Ty.c9 rfl rfl) ?_ | refine TL_o rfl rfl rfl (g_load_pt rfl rfl Ty.c9 rfl) ?_ | refine TL_o rfl rfl rfl (g_load_el rfl rfl Ty.c9 rfl rfl rfl) ?_
    refine TL_want rfl rfl (lt_of_blt rfl) rfl ?_
    first | refine TL_o rfl rfl rfl (g_field_box rfl rfl Ty.f32_1 rfl) ?_ | refine TL_o rfl rfl rfl (g_field_pt rfl rfl Ty.f32_1 rfl) ?_ | refine TL_o rfl rfl rfl (g_field_el rfl rfl rfl rfl Ty.f32_1 rfl) ?_
    refine TL_want rfl rfl (lt_of_blt rfl) rfl ?_
    first | refine TL_o rfl rfl rfl (g_load_box rfl rfl Ty.c9 rfl rfl) ?_ | refine TL_o rfl rfl rfl (g_load_pt rfl rfl Ty.c9 rfl) ?_ | refine TL_o rfl rfl rfl (g_load_el rfl rfl Ty.c9 rfl rfl rfl) ?_
    refine TL_want rfl rfl (lt_of_blt rfl) rfl ?_
    refine TL_o rfl rfl rfl (g_scmp rfl rfl rfl rfl) ?_
    iterate 2 refine TL_x ?_
    refine TL_split 17 rfl ?_ ?_
    ·
      intro hg17
      refine TL_want rfl rfl (lt_of_blt rfl) rfl ?_
      first | refine TL_o rfl rfl rfl (g_field_box rfl rfl Ty.f32_2 rfl) ?_ | refine TL_o rfl rfl rfl (g_field_pt rfl rfl Ty.f32_2 rfl) ?_ | refine TL_o rfl rfl rfl (g_field_el rfl rfl rfl rfl Ty.f32_2 rfl) ?_
      refine TL_want rfl rfl (lt_of_blt rfl) rfl ?_
      first | refine TL_o rfl rfl rfl (g_load_box rfl rfl Ty.c23 rfl rfl) ?_ | refine TL_o rfl rfl rfl (g_load_pt rfl rfl Ty.c23 rfl) ?_ | refine TL_o rfl rfl rfl (g_load_el rfl rfl Ty.c23 rfl rfl rfl) ?_
      refine TL_want rfl rfl (lt_of_blt rfl) rfl ?_
      first | refine TL_o rfl rfl rfl (g_field_box rfl rfl Ty.f32_2 rfl) ?_ | refine TL_o rfl rfl rfl (g_field_pt rfl rfl Ty.f32_2 rfl) ?_ | refine TL_o rfl rfl rfl (g_field_el rfl rfl rfl rfl Ty.f32_2 rfl) ?_
      refine TL_want rfl rfl (lt_of_blt rfl) rfl ?_
      first | refine TL_o rfl rfl rfl (g_load_box rfl rfl Ty.c23 rfl rfl) ?_ | refine TL_o rfl rfl rfl (g_load_pt rfl rfl Ty.c23 rfl) ?_ | refine TL_o rfl rfl rfl (g_load_el rfl rfl Ty.c23 rfl rfl rfl) ?_
      refine TL_want rfl rfl (lt_of_blt rfl) rfl ?_
      refine TL_o rfl rfl rfl (c_call rfl rfl Fk.ok51 (fun w F => PC_EqualInt a.args b.args ha hb w F)) ?_
      iterate 2 refine TL_x ?_
      refine TL_nil ?_
      refine EThen_n ?_
      refine T_ret ?_
      refine Ret_ret ?_
      rw [lit_eq]; simp at *; simp [*]
    ·
      intro hg17
      refine TL_skip rfl rfl (lt_of_blt rfl) rfl (lt_of_blt rfl) rfl rfl ?_
      refine TL_skip rfl rfl (lt_of_blt rfl) rfl (lt_of_blt rfl) rfl rfl ?_
      refine TL_skip rfl rfl (lt_of_blt rfl) rfl (lt_of_blt rfl) rfl rfl ?_
      refine TL_skip rfl rfl (lt_of_blt rfl) rfl (lt_of_blt rfl) rfl rfl ?_
      refine TL_skip rfl rfl (lt_of_blt rfl) rfl (lt_of_blt rfl) rfl rfl ?_
      iterate 2 refine TL_x ?_
      refine TL_nil ?_
      refine EThen_n ?_
      refine T_ret ?_
      refine Ret_ret ?_
      rw [lit_eq]; simp at *; simp [*]
  ·
    intro hg10
    refine TL_skip rfl rfl (lt_of_blt rfl) rfl (lt_of_blt rfl) rfl rfl ?_
    refine TL_skip rfl rfl (lt_of_blt rfl) rfl (lt_of_blt rfl) rfl rfl ?_
    refine TL_skip rfl rfl (lt_of_blt rfl) rfl (lt_of_blt rfl) rfl rfl ?_
    refine TL_skip rfl rfl (lt_of_blt rfl) rfl (lt_of_blt rfl) rfl rfl ?_
    refine TL_skip rfl rfl (lt_of_blt rfl) rfl (lt_of_blt rfl) rfl rfl ?_
    iterate 2 refine TL_x ?_
    refine TL_skip rfl rfl (lt_of_blt rfl) rfl (lt_of_blt rfl) rfl rfl ?_
    refine TL_skip rfl rfl (lt_of_blt rfl) rfl (lt_of_blt rfl) rfl rfl ?_
    refine TL_skip rfl rfl (lt_of_blt rfl) rfl (lt_of_blt rfl) rfl rfl ?_
    refine TL_skip rfl rfl (lt_of_blt rfl) rfl (lt_of_blt rfl) rfl rfl ?_
    refine TL_skip rfl rfl (lt_of_blt rfl) rfl (lt_of_blt rfl) rfl rfl ?_
    iterate 2 refine TL_x ?_
    refine TL_nil ?_
    refine EThen_n ?_
    refine T_ret ?_
    refine Ret_ret ?_
    rw [lit_eq]; simp at *; simp [*]

set_option maxHeartbeats 4000000 in
theorem PC_sameRule1 (a b : Q.Exp) (ha : a.kids.length ≤ 4294967296) (hb : b.kids.length ≤ 4294967296) (w : World) (F : Fz)  : PC Tryd.prog 50 w F [.d (a.d), .d (b.d)] (· = [db (decide (a = b))]) := by
  refine PC_of_T' (rs := [4]) (n := 24) Tryd.func50 rfl rfl rfl rfl ?_
  refine T_seq ?_
  refine T_region ?_
  refine TL_box 2 ?_
  refine TL_box 3 ?_
  refine TL_x ?_
  refine TL_nil ?_
  refine EThen_n ?_
  refine T_seq ?_
  refine T_region ?_
  iterate 6 refine TL_x ?_
  refine TL_split 10 rfl ?_ ?_
  ·
    intro hg10
    refine TL_want rfl rfl (lt_of_blt rfl) rfl ?_
    first | refine TL_o rfl rfl rfl (g_field_box rfl rfl Ty.f65_1 rfl) ?_ | refine TL_o rfl rfl rfl (g_field_pt rfl rfl Ty.f65_1 rfl) ?_ | refine TL_o rfl rfl rfl (g_field_el rfl rfl rfl rfl Ty.f65_1 rfl) ?_
    refine TL_want rfl rfl (lt_of_blt rfl) rfl ?_
    first | refine TL_o rfl rfl rfl (g_load_box rfl rfl Ty.c9 rfl rfl) ?_ | refine TL_o rfl rfl rfl (g_load_pt rfl rfl Ty.c9 rfl) ?_ | refine TL_o rfl rfl rfl (g_load_el rfl rfl Ty.c9 rfl rfl rfl) ?_
    refine TL_want rfl rfl (lt_of_blt rfl) rfl ?_
    first | refine TL_o rfl rfl rfl (g_field_box rfl rfl Ty.f65_1 rfl) ?_ | refine TL_o rfl rfl rfl (g_field_pt rfl rfl Ty.f65_1 rfl) ?_ | refine TL_o rfl rfl rfl (g_field_el rfl rfl rfl rfl Ty.f65_1 rfl) ?_
    refine TL_want rfl rfl (lt_of_blt rfl) rfl ?_
    first | refine TL_o rfl rfl rfl (g_load_box rfl rfl Ty.c9 rfl rfl) ?_ | refine TL_o rfl rfl rfl (g_load_pt rfl rfl Ty.c9 rfl) ?_ | refine TL_o rfl rfl rfl (g_load_el rfl rfl Ty.c9 rfl rfl rfl) ?_
    refine TL_want rfl rfl (lt_of_blt rfl) rfl ?_
    refine TL_o rfl rfl rfl (g_scmp rfl rfl rfl rfl) ?_
    iterate 2 refine TL_x ?_
    refine TL_split 17 rfl ?_ ?_
    ·
      intro hg17
      refine TL_want rfl rfl (lt_of_blt rfl) rfl ?_
      first | refine TL_o rfl rfl rfl (g_field_box rfl rfl Ty.f65_2 rfl) ?_ | refine TL_o rfl rfl rfl (g_field_pt rfl rfl Ty.f65_2 rfl) ?_ | refine TL_o rfl rfl rfl (g_field_el rfl rfl rfl rfl Ty.f65_2 rfl) ?_
      refine TL_want rfl rfl (lt_of_blt rfl) rfl ?_
      first | refine TL_o rfl rfl rfl (g_load_box rfl rfl Ty.c23 rfl rfl) ?_ | refine TL_o rfl rfl rfl (g_load_pt rfl rfl Ty.c23 rfl) ?_ | refine TL_o rfl rfl rfl (g_load_el rfl rfl Ty.c23 rfl rfl rfl) ?_
      refine TL_want rfl rfl (lt_of_blt rfl) rfl ?_
      first | refine TL_o rfl rfl rfl (g_field_box rfl rfl Ty.f65_2 rfl) ?_ | refine TL_o rfl rfl rfl (g_field_pt rfl rfl Ty.f65_2 rfl) ?_ | refine TL_o rfl rfl rfl (g_field_el rfl rfl rfl rfl Ty.f65_2 rfl) ?_
      refine TL_want rfl rfl (lt_of_blt rfl) rfl ?_
      first | refine TL_o rfl rfl rfl (g_load_box rfl rfl Ty.c23 rfl rfl) ?_ | refine TL_o rfl rfl rfl (g_load_pt rfl rfl Ty.c23 rfl) ?_ | refine TL_o rfl rfl rfl (g_load_el rfl rfl Ty.c23 rfl rfl rfl) ?_
      refine TL_want rfl rfl (lt_of_blt rfl) rfl ?_
      refine TL_o rfl rfl rfl (c_call rfl rfl Fk.ok51 (fun w F => PC_EqualInt a.kids b.kids ha hb w F)) ?_
      iterate 2 refine TL_x ?_
      refine TL_nil ?_
      refine EThen_n ?_
      refine T_ret ?_
      refine Ret_ret ?_
      rw [exp_eq]; simp at *; simp [*]
    ·
      intro hg17
      refine TL_skip rfl rfl (lt_of_blt rfl) rfl (lt_of_blt rfl) rfl rfl ?_
      refine TL_skip rfl rfl (lt_of_blt rfl) rfl (lt_of_blt rfl) rfl rfl ?_
      refine TL_skip rfl rfl (lt_of_blt rfl) rfl (lt_of_blt rfl) rfl rfl ?_
      refine TL_skip rfl rfl (lt_of_blt rfl) rfl (lt_of_blt rfl) rfl rfl ?_
      refine TL_skip rfl rfl (lt_of_blt rfl) rfl (lt_of_blt rfl) rfl rfl ?_
      iterate 2 refine TL_x ?_
      refine TL_nil ?_
      refine EThen_n ?_
      refine T_ret ?_
      refine Ret_ret ?_
      rw [exp_eq]; simp at *; simp [*]
  ·
    intro hg10
    refine TL_skip rfl rfl (lt_of_blt rfl) rfl (lt_of_blt rfl) rfl rfl ?_
    refine TL_skip rfl rfl (lt_of_blt rfl) rfl (lt_of_blt rfl) rfl rfl ?_
    refine TL_skip rfl rfl (lt_of_blt rfl) rfl (lt_of_blt rfl) rfl rfl ?_
    refine TL_skip rfl rfl (lt_of_blt rfl) rfl (lt_of_blt rfl) rfl rfl ?_
    refine TL_skip rfl rfl (lt_of_blt rfl) rfl (lt_of_blt rfl) rfl rfl ?_
    iterate 2 refine TL_x ?_
    refine TL_skip rfl rfl (lt_of_blt rfl) rfl (lt_of_blt rfl) rfl rfl ?_
    refine TL_skip rfl rfl (lt_of_blt rfl) rfl (lt_of_blt rfl) rfl rfl ?_
    refine TL_skip rfl rfl (lt_of_blt rfl) rfl (lt_of_blt rfl) rfl rfl ?_
    refine TL_skip rfl rfl (lt_of_blt rfl) rfl (lt_of_blt rfl) rfl rfl ?_
    refine TL_skip rfl rfl (lt_of_blt rfl) rfl (lt_of_blt rfl) rfl rfl ?_
    iterate 2 refine TL_x ?_
    refine TL_nil ?_
    refine EThen_n ?_
    refine T_ret ?_
    refine Ret_ret ?_
    rw [exp_eq]; simp at *; simp [*]

set_option maxHeartbeats 4000000 in
theorem PC_EqualFunc_Lit (a b : List Q.Lit) (p : List D → List D → Prop) (hp : ∀ x ∈ a, ∀ y ∈ b, p [x.d, y.d] [db (decide (x = y))]) (hl : a.length ≤ 4294967296) (hm : b.length ≤ 4294967296) (w : World) (F : Fz)  : PC Tryd.prog 48 w F [.d (.sl 3 none (a.map Q.Lit.d)), .d (.sl 3 none (b.map Q.Lit.d)), .fn p] (· = [db (decide (a = b))]) := by
  refine PC_of_T' (rs := [6]) (n := 32) Tryd.func48 rfl rfl rfl rfl ?_
  refine T_seq ?_
  refine T_region ?_
  refine TL_x ?_
  refine TL_nil ?_
  refine EThen_n ?_
  refine T_seq ?_
  refine T_seq ?_
  refine T_region ?_
  iterate 5 refine TL_x ?_
  refine TL_nil ?_
  refine EThen_n ?_
  refine T_cond rfl ?_ ?_
  ·
    intro hc
    have hbad := deq_len (a := a) (b := b) (by simp at hc; omega)
    refine T_seq ?_
    refine T_region ?_
    refine TL_x ?_
    refine TL_nil ?_
    refine EThen_n ?_
    refine T_ret ?_
    refine EThen_ret ?_
    refine Ret_ret ?_
    first | (rw [hbad]; done) | (rw [hbad]; rfl) | (rw [hgood]; done) | (rw [hgood]; rfl)
  ·
    intro hc
    have hll : a.length = b.length := by simp at hc; omega
    refine T_skip ?_
    refine EThen_n ?_
    refine T_seq ?_
    refine T_seq ?_
    refine T_region ?_
    iterate 3 refine TL_x ?_
    refine TL_nil ?_
    refine EThen_n ?_
    refine T_block ?_
    refine T_loopF (α := Nat) (fun k => ⟨(upd (upd (upd (upd (upd (upd env0 0 (.d (.sl 3 none (a.map Q.Lit.d)))) 1 (.d (.sl 3 none (b.map Q.Lit.d)))) 2 (.fnv p)) 15 (.d (.sl 3 none (a.map Q.Lit.d)))) 16 (.d (di ((a.map Q.Lit.d).length : Int)))) 17 (.d (di (k : Int)))), H0⟩) (fun k => k ≤ a.length ∧ ∀ j, j < k → a[j]? = b[j]?) (fun k => a.length - k) 0 (fgt_intro (fgt_upd rfl (fgt_upd rfl (fgt_upd rfl (fgt_upd rfl (fgt_upd rfl (fgt_upd rfl fgt_env0)))))) fgt_H0) ?_ ?_
    · exact ⟨Nat.zero_le _, fun j h => by omega⟩
    rintro k ⟨hk1, hk2⟩
    refine T_seq ?_
    refine T_region ?_
    refine TL_x ?_
    refine TL_nil ?_
    refine EThen_n ?_
    refine T_seq ?_
    refine T_cond rfl ?_ ?_
    ·
      intro hc
      have hlt : k < a.length := by simpa using hc
      obtain ⟨x, hx⟩ := get_some hlt
      obtain ⟨y, hy⟩ := get_some (l := b) (i := k) (by omega)
      have hpx := hp x (List.mem_of_getElem? hx) y (List.mem_of_getElem? hy)
      refine T_skip ?_
      refine EThen_n ?_
      refine T_seq ?_
      refine T_block ?_
      refine T_seq ?_
      refine T_region ?_
      refine TL_x ?_
      first | refine TL_o rfl rfl rfl (g_index_sl rfl rfl rfl Ty.s33 (by omega) (get_map hx)) ?_ | refine TL_o rfl rfl rfl (g_index_lit rfl rfl rfl Ty.s33 (by omega) (get_map hx)) ?_ | refine TL_o rfl rfl rfl (g_index_asl rfl rfl rfl rfl rfl Ty.s33 (by omega) (get_map hx)) ?_
      refine TL_x ?_
      refine TL_alloc 8 ?_
      refine TL_x ?_
      refine TL_store ?_
      refine TL_nil ?_
      refine EThen_n ?_
      refine T_seq ?_
      refine T_region ?_
      iterate 2 refine TL_x ?_
      first | refine TL_o rfl rfl rfl (g_index_sl rfl rfl rfl Ty.s33 (by omega) (get_map hy)) ?_ | refine TL_o rfl rfl rfl (g_index_lit rfl rfl rfl Ty.s33 (by omega) (get_map hy)) ?_ | refine TL_o rfl rfl rfl (g_index_asl rfl rfl rfl rfl rfl Ty.s33 (by omega) (get_map hy)) ?_
      refine TL_x ?_
      refine TL_alloc 9 ?_
      refine TL_store ?_
      refine TL_nil ?_
      refine EThen_n ?_
      refine T_seq ?_
      refine T_region ?_
      iterate 3 refine TL_x ?_
      refine TL_o rfl rfl rfl (c_callv rfl rfl hpx) ?_
      refine TL_x ?_
      refine TL_nil ?_
      refine EThen_n ?_
      refine T_cond rfl ?_ ?_
      ·
        intro hc
        have hbad := deq_bad hx hy (by simpa using hc)
        refine T_seq ?_
        refine T_region ?_
        refine TL_x ?_
        refine TL_nil ?_
        refine EThen_n ?_
        refine T_ret ?_
        refine EBlock_ret ?_
        refine EThen_ret ?_
        refine EThen_ret ?_
        refine EBlock_ret ?_
        refine EThen_ret ?_
        refine Ret_ret ?_
        first | (rw [hbad]; done) | (rw [hbad]; rfl) | (rw [hgood]; done) | (rw [hgood]; rfl)
      ·
        intro hc
        have hxy : x = y := by simpa using hc
        refine T_skip ?_
        refine EBlock_n ?_
        refine EThen_n ?_
        refine T_region ?_
        iterate 2 refine TL_x ?_
        refine TL_nil ?_
        refine EThen_n ⟨k + 1, (fgt_intro (fgt_upd rfl (fgt_upd rfl (fgt_upd rfl (fgt_upd rfl (fgt_upd rfl (fgt_upd rfl fgt_env0)))))) fgt_H0), ?_, ?_⟩
        · exact ⟨hlt, deq_next hk2 hx hy hxy⟩
        · omega
    ·
      intro hc
      have hlast : ¬ k < a.length := by simpa using hc
      have hgood := deq_all hll hk2 hlast
      refine T_exit ?_
      refine EThen_exit ?_
      refine EThen_exit ?_
      refine EBlock_same ?_
      refine EThen_n ?_
      refine T_seq ?_
      refine T_region ?_
      refine TL_x ?_
      refine TL_nil ?_
      refine EThen_n ?_
      refine T_ret ?_
      refine Ret_ret ?_
      first | (rw [hbad]; done) | (rw [hbad]; rfl) | (rw [hgood]; done) | (rw [hgood]; rfl)

set_option maxHeartbeats 4000000 in
theorem PC_EqualFunc_Exp (a b : List Q.Exp) (p : List D → List D → Prop) (hp : ∀ x ∈ a, ∀ y ∈ b, p [x.d, y.d] [db (decide (x = y))]) (hl : a.length ≤ 4294967296) (hm : b.length ≤ 4294967296) (w : World) (F : Fz)  : PC Tryd.prog 49 w F [.d (.sl 3 none (a.map Q.Exp.d)), .d (.sl 3 none (b.map Q.Exp.d)), .fn p] (· = [db (decide (a = b))]) := by
  refine PC_of_T' (rs := [6]) (n := 32) Tryd.func49 rfl rfl rfl rfl ?_
  refine T_seq ?_
  refine T_region ?_
  refine TL_x ?_
  refine TL_nil ?_
  refine EThen_n ?_
  refine T_seq ?_
  refine T_seq ?_
  refine T_region ?_
  iterate 5 refine TL_x ?_
  refine TL_nil ?_
  refine EThen_n ?_
  refine T_cond rfl ?_ ?_
  ·
    intro hc
    have hbad := deq_len (a := a) (b := b) (by simp at hc; omega)
    refine T_seq ?_
    refine T_region ?_
    refine TL_x ?_
    refine TL_nil ?_
    refine EThen_n ?_
    refine T_ret ?_
    refine EThen_ret ?_
    refine Ret_ret ?_
    first | (rw [hbad]; done) | (rw [hbad]; rfl) | (rw [hgood]; done) | (rw [hgood]; rfl)
  ·
    intro hc
    have hll : a.length = b.length := by simp at hc; omega
    refine T_skip ?_
    refine EThen_n ?_
    refine T_seq ?_
    refine T_seq ?_
    refine T_region ?_
    iterate 3 refine TL_x ?_
    refine TL_nil ?_
    refine EThen_n ?_
    refine T_block ?_
    refine T_loopF (α := Nat) (fun k => ⟨(upd (upd (upd (upd (upd (upd env0 0 (.d (.sl 3 none (a.map Q.Exp.d)))) 1 (.d (.sl 3 none (b.map Q.Exp.d)))) 2 (.fnv p)) 15 (.d (.sl 3 none (a.map Q.Exp.d)))) 16 (.d (di ((a.map Q.Exp.d).length : Int)))) 17 (.d (di (k : Int)))), H0⟩) (fun k => k ≤ a.length ∧ ∀ j, j < k → a[j]? = b[j]?) (fun k => a.length - k) 0 (fgt_intro (fgt_upd rfl (fgt_upd rfl (fgt_upd rfl (fgt_upd rfl (fgt_upd rfl (fgt_upd rfl fgt_env0)))))) fgt_H0) ?_ ?_
    · exact ⟨Nat.zero_le _, fun j h => by omega⟩
    rintro k ⟨hk1, hk2⟩
    refine T_seq ?_
    refine T_region ?_
    refine TL_x ?_
    refine TL_nil ?_
    refine EThen_n ?_
    refine T_seq ?_
    refine T_cond rfl ?_ ?_
    ·
      intro hc
      have hlt : k < a.length := by simpa using hc
      obtain ⟨x, hx⟩ := get_some hlt
      obtain ⟨y, hy⟩ := get_some (l := b) (i := k) (by omega)
      have hpx := hp x (List.mem_of_getElem? hx) y (List.mem_of_getElem? hy)
      refine T_skip ?_
      refine EThen_n ?_
      refine T_seq ?_
      refine T_block ?_
      refine T_seq ?_
      refine T_region ?_
      refine TL_x ?_
      first | refine TL_o rfl rfl rfl (g_index_sl rfl rfl rfl Ty.s31 (by omega) (get_map hx)) ?_ | refine TL_o rfl rfl rfl (g_index_lit rfl rfl rfl Ty.s31 (by omega) (get_map hx)) ?_ | refine TL_o rfl rfl rfl (g_index_asl rfl rfl rfl rfl rfl Ty.s31 (by omega) (get_map hx)) ?_
      refine TL_x ?_
      refine TL_alloc 8 ?_
      refine TL_x ?_
      refine TL_store ?_
      refine TL_nil ?_
      refine EThen_n ?_
      refine T_seq ?_
      refine T_region ?_
      iterate 2 refine TL_x ?_
      first | refine TL_o rfl rfl rfl (g_index_sl rfl rfl rfl Ty.s31 (by omega) (get_map hy)) ?_ | refine TL_o rfl rfl rfl (g_index_lit rfl rfl rfl Ty.s31 (by omega) (get_map hy)) ?_ | refine TL_o rfl rfl rfl (g_index_asl rfl rfl rfl rfl rfl Ty.s31 (by omega) (get_map hy)) ?_
      refine TL_x ?_
      refine TL_alloc 9 ?_
      refine TL_store ?_
      refine TL_nil ?_
      refine EThen_n ?_
      refine T_seq ?_
      refine T_region ?_
      iterate 3 refine TL_x ?_
      refine TL_o rfl rfl rfl (c_callv rfl rfl hpx) ?_
      refine TL_x ?_
      refine TL_nil ?_
      refine EThen_n ?_
      refine T_cond rfl ?_ ?_
      ·
        intro hc
        have hbad := deq_bad hx hy (by simpa using hc)
        refine T_seq ?_
        refine T_region ?_
        refine TL_x ?_
        refine TL_nil ?_
        refine EThen_n ?_
        refine T_ret ?_
        refine EBlock_ret ?_
        refine EThen_ret ?_
        refine EThen_ret ?_
        refine EBlock_ret ?_
        refine EThen_ret ?_
        refine Ret_ret ?_
        first | (rw [hbad]; done) | (rw [hbad]; rfl) | (rw [hgood]; done) | (rw [hgood]; rfl)
      ·
        intro hc
        have hxy : x = y := by simpa using hc
        refine T_skip ?_
        refine EBlock_n ?_
        refine EThen_n ?_
        refine T_region ?_
        iterate 2 refine TL_x ?_
        refine TL_nil ?_
        refine EThen_n ⟨k + 1, (fgt_intro (fgt_upd rfl (fgt_upd rfl (fgt_upd rfl (fgt_upd rfl (fgt_upd rfl (fgt_upd rfl fgt_env0)))))) fgt_H0), ?_, ?_⟩
        · exact ⟨hlt, deq_next hk2 hx hy hxy⟩
        · omega
    ·
      intro hc
      have hlast : ¬ k < a.length := by simpa using hc
      have hgood := deq_all hll hk2 hlast
      refine T_exit ?_
      refine EThen_exit ?_
      refine EThen_exit ?_
      refine EBlock_same ?_
      refine EThen_n ?_
      refine T_seq ?_
      refine T_region ?_
      refine TL_x ?_
      refine TL_nil ?_
      refine EThen_n ?_
      refine T_ret ?_
      refine Ret_ret ?_
      first | (rw [hbad]; done) | (rw [hbad]; rfl) | (rw [hgood]; done) | (rw [hgood]; rfl)

set_option maxHeartbeats 4000000 in
theorem PC_sameRule (a b : Rule) (ha : a.Lim) (hb : b.Lim) (w : World) (F : Fz)  : PC Tryd.prog 24 w F [.d (a.d), .d (b.d)] (· = [db (decide (a = b))]) := by
  refine PC_of_T' (rs := [4]) (n := 24) Tryd.func24 rfl rfl rfl rfl ?_
  refine T_seq ?_
  refine T_region ?_
  refine TL_box 2 ?_
  refine TL_box 3 ?_
  refine TL_x ?_
  refine TL_nil ?_
  refine EThen_n ?_
  refine T_seq ?_
  refine T_region ?_
  iterate 4 refine TL_x ?_
  refine TL_o rfl rfl rfl (c_call rfl rfl Fk.ok47 (fun w F => PC_sameLit a.head b.head ha.h hb.h w F)) ?_
  refine TL_x ?_
  refine TL_split 10 rfl ?_ ?_
  ·
    intro hg10
    refine TL_want rfl rfl (lt_of_blt rfl) rfl ?_
    first | refine TL_o rfl rfl rfl (g_field_box rfl rfl Ty.f35_2 rfl) ?_ | refine TL_o rfl rfl rfl (g_field_pt rfl rfl Ty.f35_2 rfl) ?_ | refine TL_o rfl rfl rfl (g_field_el rfl rfl rfl rfl Ty.f35_2 rfl) ?_
    refine TL_want rfl rfl (lt_of_blt rfl) rfl ?_
    first | refine TL_o rfl rfl rfl (g_load_box rfl rfl Ty.c33 rfl rfl) ?_ | refine TL_o rfl rfl rfl (g_load_pt rfl rfl Ty.c33 rfl) ?_ | refine TL_o rfl rfl rfl (g_load_el rfl rfl Ty.c33 rfl rfl rfl) ?_
    refine TL_want rfl rfl (lt_of_blt rfl) rfl ?_
    first | refine TL_o rfl rfl rfl (g_field_box rfl rfl Ty.f35_2 rfl) ?_ | refine TL_o rfl rfl rfl (g_field_pt rfl rfl Ty.f35_2 rfl) ?_ | refine TL_o rfl rfl rfl (g_field_el rfl rfl rfl rfl Ty.f35_2 rfl) ?_
    refine TL_want rfl rfl (lt_of_blt rfl) rfl ?_
    first | refine TL_o rfl rfl rfl (g_load_box rfl rfl Ty.c33 rfl rfl) ?_ | refine TL_o rfl rfl rfl (g_load_pt rfl rfl Ty.c33 rfl) ?_ | refine TL_o rfl rfl rfl (g_load_el rfl rfl Ty.c33 rfl rfl rfl) ?_
    refine TL_want rfl rfl (lt_of_blt rfl) rfl ?_
    refine TL_o rfl rfl rfl (c_call rfl rfl Fk.ok48 (fun w F => PC_EqualFunc_Lit a.body b.body (fun ds rs => ∃ x y, x ∈ a.body ∧ y ∈ b.body ∧ ds = [x.d, y.d] ∧ rs = [db (decide (x = y))]) (fun x hx y hy => ⟨x, y, hx, hy, rfl, rfl⟩) ha.b hb.b w F) (.cons (by first | exact .d (.d _) | exact .d (.nil _ _) | exact .d (.litn _ _ _) | exact .d (.lit _ _) | exact .d (.asl _ _ _ _ _ rfl rfl) | exact .d (.asln _ _ _ _ _ _ _ rfl rfl) | exact .fnv _ | exact .d (.emp _ _ _ _)) (.cons (by first | exact .d (.d _) | exact .d (.nil _ _) | exact .d (.litn _ _ _) | exact .d (.lit _ _) | exact .d (.asl _ _ _ _ _ rfl rfl) | exact .d (.asln _ _ _ _ _ _ _ rfl rfl) | exact .fnv _ | exact .d (.emp _ _ _ _)) (.cons (.clo Fk.ok47 .nil (fun w F ds rs h => by obtain ⟨x, y, hx, hy, h1, h2⟩ := h; subst h1 h2; exact PC_sameLit x y (ha.a x hx) (hb.a y hy) w F)) .nil)))) ?_
    iterate 2 refine TL_x ?_
    refine TL_split 17 rfl ?_ ?_
    ·
      intro hg17
      refine TL_want rfl rfl (lt_of_blt rfl) rfl ?_
      first | refine TL_o rfl rfl rfl (g_field_box rfl rfl Ty.f35_0 rfl) ?_ | refine TL_o rfl rfl rfl (g_field_pt rfl rfl Ty.f35_0 rfl) ?_ | refine TL_o rfl rfl rfl (g_field_el rfl rfl rfl rfl Ty.f35_0 rfl) ?_
      refine TL_want rfl rfl (lt_of_blt rfl) rfl ?_
      first | refine TL_o rfl rfl rfl (g_load_box rfl rfl Ty.c31 rfl rfl) ?_ | refine TL_o rfl rfl rfl (g_load_pt rfl rfl Ty.c31 rfl) ?_ | refine TL_o rfl rfl rfl (g_load_el rfl rfl Ty.c31 rfl rfl rfl) ?_
      refine TL_want rfl rfl (lt_of_blt rfl) rfl ?_
      first | refine TL_o rfl rfl rfl (g_field_box rfl rfl Ty.f35_0 rfl) ?_ | refine TL_o rfl rfl rfl (g_field_pt rfl rfl Ty.f35_0 rfl) ?_ | refine TL_o rfl rfl rfl (g_field_el rfl rfl rfl rfl Ty.f35_0 rfl) ?_
      refine TL_want rfl rfl (lt_of_blt rfl) rfl ?_
      first | refine TL_o rfl rfl rfl (g_load_box rfl rfl Ty.c31 rfl rfl) ?_ | refine TL_o rfl rfl rfl (g_load_pt rfl rfl Ty.c31 rfl) ?_ | refine TL_o rfl rfl rfl (g_load_el rfl rfl Ty.c31 rfl rfl rfl) ?_
      refine TL_want rfl rfl (lt_of_blt rfl) rfl ?_
      refine TL_o rfl rfl rfl (c_call rfl rfl Fk.ok49 (fun w F => PC_EqualFunc_Exp a.exps b.exps (fun ds rs => ∃ x y, x ∈ a.exps ∧ y ∈ b.exps ∧ ds = [x.d, y.d] ∧ rs = [db (decide (x = y))]) (fun x hx y hy => ⟨x, y, hx, hy, rfl, rfl⟩) ha.e hb.e w F) (.cons (by first | exact .d (.d _) | exact .d (.nil _ _) | exact .d (.litn _ _ _) | exact .d (.lit _ _) | exact .d (.asl _ _ _ _ _ rfl rfl) | exact .d (.asln _ _ _ _ _ _ _ rfl rfl) | exact .fnv _ | exact .d (.emp _ _ _ _)) (.cons (by first | exact .d (.d _) | exact .d (.nil _ _) | exact .d (.litn _ _ _) | exact .d (.lit _ _) | exact .d (.asl _ _ _ _ _ rfl rfl) | exact .d (.asln _ _ _ _ _ _ _ rfl rfl) | exact .fnv _ | exact .d (.emp _ _ _ _)) (.cons (.clo Fk.ok50 .nil (fun w F ds rs h => by obtain ⟨x, y, hx, hy, h1, h2⟩ := h; subst h1 h2; exact PC_sameRule1 x y (ha.k x hx) (hb.k y hy) w F)) .nil)))) ?_
      iterate 2 refine TL_x ?_
      refine TL_nil ?_
      refine EThen_n ?_
      refine T_ret ?_
      refine Ret_ret ?_
      rw [rule_eq]; simp at *; simp [*]
    ·
      intro hg17
      refine TL_skip rfl rfl (lt_of_blt rfl) rfl (lt_of_blt rfl) rfl rfl ?_
      refine TL_skip rfl rfl (lt_of_blt rfl) rfl (lt_of_blt rfl) rfl rfl ?_
      refine TL_skip rfl rfl (lt_of_blt rfl) rfl (lt_of_blt rfl) rfl rfl ?_
      refine TL_skip rfl rfl (lt_of_blt rfl) rfl (lt_of_blt rfl) rfl rfl ?_
      refine TL_skip rfl rfl (lt_of_blt rfl) rfl (lt_of_blt rfl) rfl rfl ?_
      iterate 2 refine TL_x ?_
      refine TL_nil ?_
      refine EThen_n ?_
      refine T_ret ?_
      refine Ret_ret ?_
      rw [rule_eq]; simp at *; simp [*]
  ·
    intro hg10
    refine TL_skip rfl rfl (lt_of_blt rfl) rfl (lt_of_blt rfl) rfl rfl ?_
    refine TL_skip rfl rfl (lt_of_blt rfl) rfl (lt_of_blt rfl) rfl rfl ?_
    refine TL_skip rfl rfl (lt_of_blt rfl) rfl (lt_of_blt rfl) rfl rfl ?_
    refine TL_skip rfl rfl (lt_of_blt rfl) rfl (lt_of_blt rfl) rfl rfl ?_
    refine TL_skip rfl rfl (lt_of_blt rfl) rfl (lt_of_blt rfl) rfl rfl ?_
    iterate 2 refine TL_x ?_
    refine TL_skip rfl rfl (lt_of_blt rfl) rfl (lt_of_blt rfl) rfl rfl ?_
    refine TL_skip rfl rfl (lt_of_blt rfl) rfl (lt_of_blt rfl) rfl rfl ?_
    refine TL_skip rfl rfl (lt_of_blt rfl) rfl (lt_of_blt rfl) rfl rfl ?_
    refine TL_skip rfl rfl (lt_of_blt rfl) rfl (lt_of_blt rfl) rfl rfl ?_
    refine TL_skip rfl rfl (lt_of_blt rfl) rfl (lt_of_blt rfl) rfl rfl ?_
    iterate 2 refine TL_x ?_
    refine TL_nil ?_
    refine EThen_n ?_
    refine T_ret ?_
    refine Ret_ret ?_
    rw [rule_eq]; simp at *; simp [*]

set_option maxHeartbeats 4000000 in
theorem PC_l04SameRule (a b : Rule) (ha : a.Lim) (hb : b.Lim) (w : World) (F : Fz)  : PC Tryd.prog 18 w F [.d (a.d), .d (b.d)] (· = [db (decide (a = b))]) := by
  have hae := ha.e
  have hbe := hb.e
  have hab := ha.b
  have hbb := hb.b
  refine PC_of_T' (rs := [4]) (n := 101) Tryd.func18 rfl rfl rfl rfl ?_
  refine T_seq ?_
  refine T_region ?_
  refine TL_box 2 ?_
  refine TL_box 3 ?_
  refine TL_x ?_
  refine TL_nil ?_
  refine EThen_n ?_
  refine T_seq ?_
  refine T_seq ?_
  refine T_region ?_
  iterate 8 refine TL_x ?_
  refine TL_split 14 rfl ?_ ?_
  ·
    intro hg14
    have hbad := rule_bad_e (a := a) (b := b) (len_ne (by simp at hg14; omega))
    refine TL_skip rfl rfl (lt_of_blt rfl) rfl (lt_of_blt rfl) rfl rfl ?_
    refine TL_skip rfl rfl (lt_of_blt rfl) rfl (lt_of_blt rfl) rfl rfl ?_
    refine TL_skip rfl rfl (lt_of_blt rfl) rfl (lt_of_blt rfl) rfl rfl ?_
    refine TL_skip rfl rfl (lt_of_blt rfl) rfl (lt_of_blt rfl) rfl rfl ?_
    refine TL_skip rfl rfl (lt_of_blt rfl) rfl (lt_of_blt rfl) rfl rfl ?_
    refine TL_skip rfl rfl (lt_of_blt rfl) rfl (lt_of_blt rfl) rfl rfl ?_
    refine TL_skip rfl rfl (lt_of_blt rfl) rfl (lt_of_blt rfl) rfl rfl ?_
    iterate 2 refine TL_x ?_
    refine TL_skip rfl rfl (lt_of_blt rfl) rfl (lt_of_blt rfl) rfl rfl ?_
    refine TL_skip rfl rfl (lt_of_blt rfl) rfl (lt_of_blt rfl) rfl rfl ?_
    refine TL_skip rfl rfl (lt_of_blt rfl) rfl (lt_of_blt rfl) rfl rfl ?_
    refine TL_skip rfl rfl (lt_of_blt rfl) rfl (lt_of_blt rfl) rfl rfl ?_
    refine TL_skip rfl rfl (lt_of_blt rfl) rfl (lt_of_blt rfl) rfl rfl ?_
    refine TL_skip rfl rfl (lt_of_blt rfl) rfl (lt_of_blt rfl) rfl rfl ?_
    refine TL_x ?_
    refine TL_nil ?_
    refine EThen_n ?_
    refine T_cond_t rfl ?_
    refine T_seq ?_
    refine T_region ?_
    refine TL_x ?_
    refine TL_nil ?_
    refine EThen_n ?_
    refine T_ret ?_
    refine EThen_ret ?_
    refine Ret_ret ?_
    first | (rw [hbad]; done) | (rw [hbad]; rfl) | (rw [hgood]; done) | (rw [hgood]; rfl)
  ·
    intro hg14
    have hle : a.exps.length = b.exps.length := by simp at hg14; omega
    refine TL_want rfl rfl (lt_of_blt rfl) rfl ?_
    first | refine TL_o rfl rfl rfl (g_field_box rfl rfl Ty.f35_2 rfl) ?_ | refine TL_o rfl rfl rfl (g_field_pt rfl rfl Ty.f35_2 rfl) ?_ | refine TL_o rfl rfl rfl (g_field_el rfl rfl rfl rfl Ty.f35_2 rfl) ?_
    refine TL_want rfl rfl (lt_of_blt rfl) rfl ?_
    first | refine TL_o rfl rfl rfl (g_load_box rfl rfl Ty.c33 rfl rfl) ?_ | refine TL_o rfl rfl rfl (g_load_pt rfl rfl Ty.c33 rfl) ?_ | refine TL_o rfl rfl rfl (g_load_el rfl rfl Ty.c33 rfl rfl rfl) ?_
    refine TL_want rfl rfl (lt_of_blt rfl) rfl ?_
    first | refine TL_o rfl rfl rfl (g_len_sl rfl rfl Ty.s33 rfl) ?_ | refine TL_o rfl rfl rfl (g_len_asl rfl rfl rfl rfl Ty.s33 rfl) ?_ | refine TL_o rfl rfl rfl (g_len_asl rfl rfl rfl (by simp) Ty.s33 rfl) ?_ | refine TL_o rfl rfl rfl (g_len_lit rfl rfl Ty.s33 rfl) ?_ | refine TL_o rfl rfl rfl (g_len_nil rfl rfl Ty.s33) ?_
    refine TL_want rfl rfl (lt_of_blt rfl) rfl ?_
    first | refine TL_o rfl rfl rfl (g_field_box rfl rfl Ty.f35_2 rfl) ?_ | refine TL_o rfl rfl rfl (g_field_pt rfl rfl Ty.f35_2 rfl) ?_ | refine TL_o rfl rfl rfl (g_field_el rfl rfl rfl rfl Ty.f35_2 rfl) ?_
    refine TL_want rfl rfl (lt_of_blt rfl) rfl ?_
    first | refine TL_o rfl rfl rfl (g_load_box rfl rfl Ty.c33 rfl rfl) ?_ | refine TL_o rfl rfl rfl (g_load_pt rfl rfl Ty.c33 rfl) ?_ | refine TL_o rfl rfl rfl (g_load_el rfl rfl Ty.c33 rfl rfl rfl) ?_
    refine TL_want rfl rfl (lt_of_blt rfl) rfl ?_
    first | refine TL_o rfl rfl rfl (g_len_sl rfl rfl Ty.s33 rfl) ?_ | refine TL_o rfl rfl rfl (g_len_asl rfl rfl rfl rfl Ty.s33 rfl) ?_ | refine TL_o rfl rfl rfl (g_len_asl rfl rfl rfl (by simp) Ty.s33 rfl) ?_ | refine TL_o rfl rfl rfl (g_len_lit rfl rfl Ty.s33 rfl) ?_ | refine TL_o rfl rfl rfl (g_len_nil rfl rfl Ty.s33) ?_
    refine TL_want rfl rfl (lt_of_blt rfl) rfl ?_
    refine TL_o rfl rfl rfl (g_icmp rfl rfl rfl rfl) ?_
    iterate 2 refine TL_x ?_
    refine TL_split 23 rfl ?_ ?_
    ·
      intro hg23
      have hbad := rule_bad_b (a := a) (b := b) (len_ne (by simp at hg23; omega))
      refine TL_skip rfl rfl (lt_of_blt rfl) rfl (lt_of_blt rfl) rfl rfl ?_
      refine TL_skip rfl rfl (lt_of_blt rfl) rfl (lt_of_blt rfl) rfl rfl ?_
      refine TL_skip rfl rfl (lt_of_blt rfl) rfl (lt_of_blt rfl) rfl rfl ?_
      refine TL_skip rfl rfl (lt_of_blt rfl) rfl (lt_of_blt rfl) rfl rfl ?_
      refine TL_skip rfl rfl (lt_of_blt rfl) rfl (lt_of_blt rfl) rfl rfl ?_
      refine TL_skip rfl rfl (lt_of_blt rfl) rfl (lt_of_blt rfl) rfl rfl ?_
      refine TL_x ?_
      refine TL_nil ?_
      refine EThen_n ?_
      refine T_cond_t rfl ?_
      refine T_seq ?_
      refine T_region ?_
      refine TL_x ?_
      refine TL_nil ?_
      refine EThen_n ?_
      refine T_ret ?_
      refine EThen_ret ?_
      refine Ret_ret ?_
      first | (rw [hbad]; done) | (rw [hbad]; rfl) | (rw [hgood]; done) | (rw [hgood]; rfl)
    ·
      intro hg23
      have hlb : a.body.length = b.body.length := by simp at hg23; omega
      refine TL_want rfl rfl (lt_of_blt rfl) rfl ?_
      first | refine TL_o rfl rfl rfl (g_field_box rfl rfl Ty.f35_1 rfl) ?_ | refine TL_o rfl rfl rfl (g_field_pt rfl rfl Ty.f35_1 rfl) ?_ | refine TL_o rfl rfl rfl (g_field_el rfl rfl rfl rfl Ty.f35_1 rfl) ?_
      refine TL_want rfl rfl (lt_of_blt rfl) rfl ?_
      first | refine TL_o rfl rfl rfl (f_load_box_row rfl rfl Ty.r32 rfl rfl (by first | exact .d _ | exact .box _ _ | exact .asl _ _ | exact .nil | exact .lit _ _ | exact .agg _ | exact .clo _ _ | exact .fnv _ | exact .tup _ | exact .el _ _ _ | exact .mp _ | exact .junk)) ?_ | refine TL_o rfl rfl rfl (f_load_pt_row rfl rfl Ty.r32 rfl (by repeat (first | exact .nil | apply SLD.cons))) ?_
      refine TL_want rfl rfl (lt_of_blt rfl) rfl ?_
      first | refine TL_o rfl rfl rfl (g_field_box rfl rfl Ty.f35_1 rfl) ?_ | refine TL_o rfl rfl rfl (g_field_pt rfl rfl Ty.f35_1 rfl) ?_ | refine TL_o rfl rfl rfl (g_field_el rfl rfl rfl rfl Ty.f35_1 rfl) ?_
      refine TL_want rfl rfl (lt_of_blt rfl) rfl ?_
      first | refine TL_o rfl rfl rfl (f_load_box_row rfl rfl Ty.r32 rfl rfl (by first | exact .d _ | exact .box _ _ | exact .asl _ _ | exact .nil | exact .lit _ _ | exact .agg _ | exact .clo _ _ | exact .fnv _ | exact .tup _ | exact .el _ _ _ | exact .mp _ | exact .junk)) ?_ | refine TL_o rfl rfl rfl (f_load_pt_row rfl rfl Ty.r32 rfl (by repeat (first | exact .nil | apply SLD.cons))) ?_
      refine TL_want rfl rfl (lt_of_blt rfl) rfl ?_
      refine TL_o rfl rfl rfl (c_call rfl rfl Fk.ok39 (fun w F => PC_l04SameLit a.head b.head ha.h hb.h w F)) ?_
      refine TL_want rfl rfl (lt_of_blt rfl) rfl ?_
      refine TL_o rfl rfl rfl (g_not rfl rfl) ?_
      refine TL_x ?_
      refine TL_nil ?_
      refine EThen_n ?_
      refine T_cond rfl ?_ ?_
      ·
        intro hc
        have hbad := rule_bad_h (a := a) (b := b) (by simpa using hc)
        refine T_seq ?_
        refine T_region ?_
        refine TL_x ?_
        refine TL_nil ?_
        refine EThen_n ?_
        refine T_ret ?_
        refine EThen_ret ?_
        refine Ret_ret ?_
        first | (rw [hbad]; done) | (rw [hbad]; rfl) | (rw [hgood]; done) | (rw [hgood]; rfl)
      ·
        intro hc
        have hhd : a.head = b.head := by simpa using hc
        refine T_skip ?_
        refine EThen_n ?_
        refine T_seq ?_
        refine T_seq ?_
        refine T_region ?_
        refine TL_x ?_
        refine TL_nil ?_
        refine EThen_n ?_
        refine T_block ?_
        refine T_loopF (α := Nat) (fun k => ⟨(upd (upd (upd env0 2 (.box 2 0)) 3 (.box 3 0)) 5 (.d (di (k : Int)))), (upd (upd H0 2 (.box [.d (dexps a.exps), .d (di a.head.kind), .d (ds a.head.name), .d (dints a.head.args), .d (dlits a.body)])) 3 (.box [.d (dexps b.exps), .d (di b.head.kind), .d (ds b.head.name), .d (dints b.head.args), .d (dlits b.body)]))⟩) (fun k => k ≤ a.exps.length ∧ ∀ j, j < k → a.exps[j]? = b.exps[j]?) (fun k => a.exps.length - k) 0 (fgt_intro (fgt_upd rfl (fgt_upd rfl (fgt_upd rfl fgt_env0))) (fgt_updH rfl (fgt_updH rfl fgt_H0))) ?_ ?_
        · exact ⟨Nat.zero_le _, fun j h => by omega⟩
        rintro k ⟨hk1, hk2⟩
        refine T_seq ?_
        refine T_seq ?_
        refine T_region ?_
        iterate 5 refine TL_x ?_
        refine TL_nil ?_
        refine EThen_n ?_
        refine T_cond rfl ?_ ?_
        ·
          intro hc
          have hlt : k < a.exps.length := by simpa using hc
          obtain ⟨x, hx⟩ := get_some hlt
          obtain ⟨y, hy⟩ := get_some (l := b.exps) (i := k) (by omega)
          refine T_skip ?_
          refine EThen_n ?_
          refine T_seq ?_
          refine T_block ?_
          refine T_seq ?_
          refine T_draw 44 Ty.mixed rfl ?_
          iterate 3 refine DGo_x ?_
          first | refine DGo_one rfl rfl (.go _ rfl (g_index_sl rfl rfl rfl Ty.s31 (by omega) (get_map hx))) ?_ | refine DGo_one rfl rfl (.go _ rfl (g_index_lit rfl rfl rfl Ty.s31 (by omega) (get_map hx))) ?_ | refine DGo_one rfl rfl (.go _ rfl (g_index_asl rfl rfl rfl rfl rfl Ty.s31 (by omega) (get_map hx))) ?_
          iterate 5 refine DGo_x ?_
          first | refine DGo_one rfl rfl (.go _ rfl (g_index_sl rfl rfl rfl Ty.s31 (by omega) (get_map hy))) ?_ | refine DGo_one rfl rfl (.go _ rfl (g_index_lit rfl rfl rfl Ty.s31 (by omega) (get_map hy))) ?_ | refine DGo_one rfl rfl (.go _ rfl (g_index_asl rfl rfl rfl rfl rfl Ty.s31 (by omega) (get_map hy))) ?_
          iterate 3 refine DGo_x ?_
          refine DGo_bool rfl rfl (.go _ rfl (f_move rfl (by first | exact .d _ | exact .box _ _ | exact .asl _ _ | exact .nil | exact .lit _ _ | exact .agg _ | exact .clo _ _ | exact .fnv _ | exact .tup _ | exact .el _ _ _ | exact .mp _ | exact .junk))) ?_ ?_
          ·
            intro hg51
            have hbad := rule_bad_e (a := a) (b := b) (list_ne hx hy (fun e => by subst e; simp at hg51))
            refine DGo_skip rfl rfl rfl rfl rfl rfl rfl ?_
            refine DGo_skip rfl rfl rfl rfl rfl rfl rfl ?_
            refine DGo_skip rfl rfl rfl rfl rfl rfl rfl ?_
            refine DGo_skip rfl rfl rfl rfl rfl rfl rfl ?_
            refine DGo_skip rfl rfl rfl rfl rfl rfl rfl ?_
            refine DGo_skip rfl rfl rfl rfl rfl rfl rfl ?_
            refine DGo_skip rfl rfl rfl rfl rfl rfl rfl ?_
            refine DGo_skip rfl rfl rfl rfl rfl rfl rfl ?_
            refine DGo_skip rfl rfl rfl rfl rfl rfl rfl ?_
            refine DGo_skip rfl rfl rfl rfl rfl rfl rfl ?_
            refine DGo_skip rfl rfl rfl rfl rfl rfl rfl ?_
            refine DGo_skip rfl rfl rfl rfl rfl rfl rfl ?_
            refine DGo_skip rfl rfl rfl rfl rfl rfl rfl ?_
            refine DGo_x ?_
            refine DGo_one rfl rfl (.go _ rfl (f_move rfl (by first | exact .d _ | exact .box _ _ | exact .asl _ _ | exact .nil | exact .lit _ _ | exact .agg _ | exact .clo _ _ | exact .fnv _ | exact .tup _ | exact .el _ _ _ | exact .mp _ | exact .junk))) ?_
            refine DGo_skip rfl rfl rfl rfl rfl rfl rfl ?_
            refine DGo_skip rfl rfl rfl rfl rfl rfl rfl ?_
            refine DGo_skip rfl rfl rfl rfl rfl rfl rfl ?_
            refine DGo_skip rfl rfl rfl rfl rfl rfl rfl ?_
            refine DGo_skip rfl rfl rfl rfl rfl rfl rfl ?_
            refine DGo_skip rfl rfl rfl rfl rfl rfl rfl ?_
            refine DGo_skip rfl rfl rfl rfl rfl rfl rfl ?_
            refine DGo_skip rfl rfl rfl rfl rfl rfl rfl ?_
            refine DGo_skip rfl rfl rfl rfl rfl rfl rfl ?_
            refine DGo_skip rfl rfl rfl rfl rfl rfl rfl ?_
            refine DGo_skip rfl rfl rfl rfl rfl rfl rfl ?_
            refine DGo_skip rfl rfl rfl rfl rfl rfl rfl ?_
            refine DGo_skip rfl rfl rfl rfl rfl rfl rfl ?_
            refine DGo_skip rfl rfl rfl rfl rfl rfl rfl ?_
            refine DGo_x ?_
            refine DGo_nil ?_
            refine TL_nil ?_
            refine EThen_n ?_
            refine T_cond_t rfl ?_
            refine T_seq ?_
            refine T_region ?_
            refine TL_x ?_
            refine TL_nil ?_
            refine EThen_n ?_
            refine T_ret ?_
            refine EBlock_ret ?_
            refine EThen_ret ?_
            refine EThen_ret ?_
            refine EBlock_ret ?_
            refine EThen_ret ?_
            refine Ret_ret ?_
            first | (rw [hbad]; done) | (rw [hbad]; rfl) | (rw [hgood]; done) | (rw [hgood]; rfl)
          ·
            intro hg51
            first | refine DGo_one rfl rfl (.want _ _ _ _ rfl rfl rfl rfl (g_field_box rfl rfl Ty.f35_0 rfl)) ?_ | refine DGo_one rfl rfl (.want _ _ _ _ rfl rfl rfl rfl (g_field_pt rfl rfl Ty.f35_0 rfl)) ?_ | refine DGo_one rfl rfl (.want _ _ _ _ rfl rfl rfl rfl (g_field_el rfl rfl rfl rfl Ty.f35_0 rfl)) ?_
            first | refine DGo_one rfl rfl (.want _ _ _ _ rfl rfl rfl rfl (g_load_box rfl rfl Ty.c31 rfl rfl)) ?_ | refine DGo_one rfl rfl (.want _ _ _ _ rfl rfl rfl rfl (g_load_pt rfl rfl Ty.c31 rfl)) ?_ | refine DGo_one rfl rfl (.want _ _ _ _ rfl rfl rfl rfl (g_load_el rfl rfl Ty.c31 rfl rfl rfl)) ?_
            refine DGo_one rfl rfl (.want _ _ _ _ rfl rfl rfl rfl (f_move rfl (by first | exact .d _ | exact .box _ _ | exact .asl _ _ | exact .nil | exact .lit _ _ | exact .agg _ | exact .clo _ _ | exact .fnv _ | exact .tup _ | exact .el _ _ _ | exact .mp _ | exact .junk))) ?_
            first | refine DGo_one rfl rfl (.want _ _ _ _ rfl rfl rfl rfl (g_index_sl rfl rfl rfl Ty.s31 (by omega) (get_map hx))) ?_ | refine DGo_one rfl rfl (.want _ _ _ _ rfl rfl rfl rfl (g_index_lit rfl rfl rfl Ty.s31 (by omega) (get_map hx))) ?_ | refine DGo_one rfl rfl (.want _ _ _ _ rfl rfl rfl rfl (g_index_asl rfl rfl rfl rfl rfl Ty.s31 (by omega) (get_map hx))) ?_
            first | refine DGo_one rfl rfl (.want _ _ _ _ rfl rfl rfl rfl (g_field_box rfl rfl Ty.f65_1 rfl)) ?_ | refine DGo_one rfl rfl (.want _ _ _ _ rfl rfl rfl rfl (g_field_pt rfl rfl Ty.f65_1 rfl)) ?_ | refine DGo_one rfl rfl (.want _ _ _ _ rfl rfl rfl rfl (g_field_el rfl rfl rfl rfl Ty.f65_1 rfl)) ?_
            first | refine DGo_one rfl rfl (.want _ _ _ _ rfl rfl rfl rfl (g_load_box rfl rfl Ty.c9 rfl rfl)) ?_ | refine DGo_one rfl rfl (.want _ _ _ _ rfl rfl rfl rfl (g_load_pt rfl rfl Ty.c9 rfl)) ?_ | refine DGo_one rfl rfl (.want _ _ _ _ rfl rfl rfl rfl (g_load_el rfl rfl Ty.c9 rfl rfl rfl)) ?_
            first | refine DGo_one rfl rfl (.want _ _ _ _ rfl rfl rfl rfl (g_field_box rfl rfl Ty.f35_0 rfl)) ?_ | refine DGo_one rfl rfl (.want _ _ _ _ rfl rfl rfl rfl (g_field_pt rfl rfl Ty.f35_0 rfl)) ?_ | refine DGo_one rfl rfl (.want _ _ _ _ rfl rfl rfl rfl (g_field_el rfl rfl rfl rfl Ty.f35_0 rfl)) ?_
            first | refine DGo_one rfl rfl (.want _ _ _ _ rfl rfl rfl rfl (g_load_box rfl rfl Ty.c31 rfl rfl)) ?_ | refine DGo_one rfl rfl (.want _ _ _ _ rfl rfl rfl rfl (g_load_pt rfl rfl Ty.c31 rfl)) ?_ | refine DGo_one rfl rfl (.want _ _ _ _ rfl rfl rfl rfl (g_load_el rfl rfl Ty.c31 rfl rfl rfl)) ?_
            refine DGo_one rfl rfl (.want _ _ _ _ rfl rfl rfl rfl (f_move rfl (by first | exact .d _ | exact .box _ _ | exact .asl _ _ | exact .nil | exact .lit _ _ | exact .agg _ | exact .clo _ _ | exact .fnv _ | exact .tup _ | exact .el _ _ _ | exact .mp _ | exact .junk))) ?_
            first | refine DGo_one rfl rfl (.want _ _ _ _ rfl rfl rfl rfl (g_index_sl rfl rfl rfl Ty.s31 (by omega) (get_map hy))) ?_ | refine DGo_one rfl rfl (.want _ _ _ _ rfl rfl rfl rfl (g_index_lit rfl rfl rfl Ty.s31 (by omega) (get_map hy))) ?_ | refine DGo_one rfl rfl (.want _ _ _ _ rfl rfl rfl rfl (g_index_asl rfl rfl rfl rfl rfl Ty.s31 (by omega) (get_map hy))) ?_
            first | refine DGo_one rfl rfl (.want _ _ _ _ rfl rfl rfl rfl (g_field_box rfl rfl Ty.f65_1 rfl)) ?_ | refine DGo_one rfl rfl (.want _ _ _ _ rfl rfl rfl rfl (g_field_pt rfl rfl Ty.f65_1 rfl)) ?_ | refine DGo_one rfl rfl (.want _ _ _ _ rfl rfl rfl rfl (g_field_el rfl rfl rfl rfl Ty.f65_1 rfl)) ?_
            first | refine DGo_one rfl rfl (.want _ _ _ _ rfl rfl rfl rfl (g_load_box rfl rfl Ty.c9 rfl rfl)) ?_ | refine DGo_one rfl rfl (.want _ _ _ _ rfl rfl rfl rfl (g_load_pt rfl rfl Ty.c9 rfl)) ?_ | refine DGo_one rfl rfl (.want _ _ _ _ rfl rfl rfl rfl (g_load_el rfl rfl Ty.c9 rfl rfl rfl)) ?_
            refine DGo_one rfl rfl (.want _ _ _ _ rfl rfl rfl rfl (g_scmp rfl rfl rfl rfl)) ?_
            refine DGo_x ?_
            refine DGo_bool rfl rfl (.go _ rfl (f_move rfl (by first | exact .d _ | exact .box _ _ | exact .asl _ _ | exact .nil | exact .lit _ _ | exact .agg _ | exact .clo _ _ | exact .fnv _ | exact .tup _ | exact .el _ _ _ | exact .mp _ | exact .junk))) ?_ ?_
            ·
              intro hg66
              have hbad := rule_bad_e (a := a) (b := b) (list_ne hx hy (fun e => by subst e; simp at hg66))
              refine DGo_skip rfl rfl rfl rfl rfl rfl rfl ?_
              refine DGo_skip rfl rfl rfl rfl rfl rfl rfl ?_
              refine DGo_skip rfl rfl rfl rfl rfl rfl rfl ?_
              refine DGo_skip rfl rfl rfl rfl rfl rfl rfl ?_
              refine DGo_skip rfl rfl rfl rfl rfl rfl rfl ?_
              refine DGo_skip rfl rfl rfl rfl rfl rfl rfl ?_
              refine DGo_skip rfl rfl rfl rfl rfl rfl rfl ?_
              refine DGo_skip rfl rfl rfl rfl rfl rfl rfl ?_
              refine DGo_skip rfl rfl rfl rfl rfl rfl rfl ?_
              refine DGo_skip rfl rfl rfl rfl rfl rfl rfl ?_
              refine DGo_skip rfl rfl rfl rfl rfl rfl rfl ?_
              refine DGo_skip rfl rfl rfl rfl rfl rfl rfl ?_
              refine DGo_skip rfl rfl rfl rfl rfl rfl rfl ?_
              refine DGo_skip rfl rfl rfl rfl rfl rfl rfl ?_
              refine DGo_x ?_
              refine DGo_nil ?_
              refine TL_nil ?_
              refine EThen_n ?_
              refine T_cond_t rfl ?_
              refine T_seq ?_
              refine T_region ?_
              refine TL_x ?_
              refine TL_nil ?_
              refine EThen_n ?_
              refine T_ret ?_
              refine EBlock_ret ?_
              refine EThen_ret ?_
              refine EThen_ret ?_
              refine EBlock_ret ?_
              refine EThen_ret ?_
              refine Ret_ret ?_
              first | (rw [hbad]; done) | (rw [hbad]; rfl) | (rw [hgood]; done) | (rw [hgood]; rfl)
            ·
              intro hg66
              first | refine DGo_one rfl rfl (.want _ _ _ _ rfl rfl rfl rfl (g_field_box rfl rfl Ty.f35_0 rfl)) ?_ | refine DGo_one rfl rfl (.want _ _ _ _ rfl rfl rfl rfl (g_field_pt rfl rfl Ty.f35_0 rfl)) ?_ | refine DGo_one rfl rfl (.want _ _ _ _ rfl rfl rfl rfl (g_field_el rfl rfl rfl rfl Ty.f35_0 rfl)) ?_
              first | refine DGo_one rfl rfl (.want _ _ _ _ rfl rfl rfl rfl (g_load_box rfl rfl Ty.c31 rfl rfl)) ?_ | refine DGo_one rfl rfl (.want _ _ _ _ rfl rfl rfl rfl (g_load_pt rfl rfl Ty.c31 rfl)) ?_ | refine DGo_one rfl rfl (.want _ _ _ _ rfl rfl rfl rfl (g_load_el rfl rfl Ty.c31 rfl rfl rfl)) ?_
              refine DGo_one rfl rfl (.want _ _ _ _ rfl rfl rfl rfl (f_move rfl (by first | exact .d _ | exact .box _ _ | exact .asl _ _ | exact .nil | exact .lit _ _ | exact .agg _ | exact .clo _ _ | exact .fnv _ | exact .tup _ | exact .el _ _ _ | exact .mp _ | exact .junk))) ?_
              first | refine DGo_one rfl rfl (.want _ _ _ _ rfl rfl rfl rfl (g_index_sl rfl rfl rfl Ty.s31 (by omega) (get_map hx))) ?_ | refine DGo_one rfl rfl (.want _ _ _ _ rfl rfl rfl rfl (g_index_lit rfl rfl rfl Ty.s31 (by omega) (get_map hx))) ?_ | refine DGo_one rfl rfl (.want _ _ _ _ rfl rfl rfl rfl (g_index_asl rfl rfl rfl rfl rfl Ty.s31 (by omega) (get_map hx))) ?_
              first | refine DGo_one rfl rfl (.want _ _ _ _ rfl rfl rfl rfl (g_field_box rfl rfl Ty.f65_2 rfl)) ?_ | refine DGo_one rfl rfl (.want _ _ _ _ rfl rfl rfl rfl (g_field_pt rfl rfl Ty.f65_2 rfl)) ?_ | refine DGo_one rfl rfl (.want _ _ _ _ rfl rfl rfl rfl (g_field_el rfl rfl rfl rfl Ty.f65_2 rfl)) ?_
              first | refine DGo_one rfl rfl (.want _ _ _ _ rfl rfl rfl rfl (g_load_box rfl rfl Ty.c23 rfl rfl)) ?_ | refine DGo_one rfl rfl (.want _ _ _ _ rfl rfl rfl rfl (g_load_pt rfl rfl Ty.c23 rfl)) ?_ | refine DGo_one rfl rfl (.want _ _ _ _ rfl rfl rfl rfl (g_load_el rfl rfl Ty.c23 rfl rfl rfl)) ?_
              first | refine DGo_one rfl rfl (.want _ _ _ _ rfl rfl rfl rfl (g_field_box rfl rfl Ty.f35_0 rfl)) ?_ | refine DGo_one rfl rfl (.want _ _ _ _ rfl rfl rfl rfl (g_field_pt rfl rfl Ty.f35_0 rfl)) ?_ | refine DGo_one rfl rfl (.want _ _ _ _ rfl rfl rfl rfl (g_field_el rfl rfl rfl rfl Ty.f35_0 rfl)) ?_
              first | refine DGo_one rfl rfl (.want _ _ _ _ rfl rfl rfl rfl (g_load_box rfl rfl Ty.c31 rfl rfl)) ?_ | refine DGo_one rfl rfl (.want _ _ _ _ rfl rfl rfl rfl (g_load_pt rfl rfl Ty.c31 rfl)) ?_ | refine DGo_one rfl rfl (.want _ _ _ _ rfl rfl rfl rfl (g_load_el rfl rfl Ty.c31 rfl rfl rfl)) ?_
              refine DGo_one rfl rfl (.want _ _ _ _ rfl rfl rfl rfl (f_move rfl (by first | exact .d _ | exact .box _ _ | exact .asl _ _ | exact .nil | exact .lit _ _ | exact .agg _ | exact .clo _ _ | exact .fnv _ | exact .tup _ | exact .el _ _ _ | exact .mp _ | exact .junk))) ?_
              first | refine DGo_one rfl rfl (.want _ _ _ _ rfl rfl rfl rfl (g_index_sl rfl rfl rfl Ty.s31 (by omega) (get_map hy))) ?_ | refine DGo_one rfl rfl (.want _ _ _ _ rfl rfl rfl rfl (g_index_lit rfl rfl rfl Ty.s31 (by omega) (get_map hy))) ?_ | refine DGo_one rfl rfl (.want _ _ _ _ rfl rfl rfl rfl (g_index_asl rfl rfl rfl rfl rfl Ty.s31 (by omega) (get_map hy))) ?_
              first | refine DGo_one rfl rfl (.want _ _ _ _ rfl rfl rfl rfl (g_field_box rfl rfl Ty.f65_2 rfl)) ?_ | refine DGo_one rfl rfl (.want _ _ _ _ rfl rfl rfl rfl (g_field_pt rfl rfl Ty.f65_2 rfl)) ?_ | refine DGo_one rfl rfl (.want _ _ _ _ rfl rfl rfl rfl (g_field_el rfl rfl rfl rfl Ty.f65_2 rfl)) ?_
              first | refine DGo_one rfl rfl (.want _ _ _ _ rfl rfl rfl rfl (g_load_box rfl rfl Ty.c23 rfl rfl)) ?_ | refine DGo_one rfl rfl (.want _ _ _ _ rfl rfl rfl rfl (g_load_pt rfl rfl Ty.c23 rfl)) ?_ | refine DGo_one rfl rfl (.want _ _ _ _ rfl rfl rfl rfl (g_load_el rfl rfl Ty.c23 rfl rfl rfl)) ?_
              refine DGo_one rfl rfl (.want _ _ _ _ rfl rfl rfl rfl (c_call rfl rfl Fk.ok40 (fun w F => PC_l04Ints x.kids y.kids (ha.k x (List.mem_of_getElem? hx)) (hb.k y (List.mem_of_getElem? hy)) w F))) ?_
              refine DGo_one rfl rfl (.want _ _ _ _ rfl rfl rfl rfl (g_not rfl rfl)) ?_
              refine DGo_x ?_
              refine DGo_nil ?_
              refine TL_nil ?_
              refine EThen_n ?_
              refine T_cond rfl ?_ ?_
              ·
                intro hc
                have hbad := rule_bad_e (a := a) (b := b) (list_ne hx hy (fun e => by subst e; simp at hc))
                refine T_seq ?_
                refine T_region ?_
                refine TL_x ?_
                refine TL_nil ?_
                refine EThen_n ?_
                refine T_ret ?_
                refine EBlock_ret ?_
                refine EThen_ret ?_
                refine EThen_ret ?_
                refine EBlock_ret ?_
                refine EThen_ret ?_
                refine Ret_ret ?_
                first | (rw [hbad]; done) | (rw [hbad]; rfl) | (rw [hgood]; done) | (rw [hgood]; rfl)
              ·
                intro hc
                have hxy : x = y := exp_same (by simpa using hg51) (by simpa using hg66) (by simpa using hc)
                refine T_skip ?_
                refine EBlock_n ?_
                refine EThen_n ?_
                refine T_region ?_
                iterate 3 refine TL_x ?_
                refine TL_nil ?_
                refine EThen_n ⟨k + 1, (fgt_intro (fgt_upd rfl (fgt_upd rfl (fgt_upd rfl fgt_env0))) (fgt_updH rfl (fgt_updH rfl fgt_H0))), ?_, ?_⟩
                · exact ⟨hlt, deq_next hk2 hx hy hxy⟩
                · omega
        ·
          intro hc
          have hex := list_all hle hk2 (by simpa using hc)
          refine T_exit ?_
          refine EThen_exit ?_
          refine EThen_exit ?_
          refine EBlock_same ?_
          refine EThen_n ?_
          refine T_seq ?_
          refine T_seq ?_
          refine T_region ?_
          refine TL_x ?_
          refine TL_nil ?_
          refine EThen_n ?_
          refine T_block ?_
          refine T_loopF (α := Nat) (fun k => ⟨(upd (upd (upd env0 2 (.box 2 0)) 3 (.box 3 0)) 6 (.d (di (k : Int)))), (upd (upd H0 2 (.box [.d (dexps a.exps), .d (di a.head.kind), .d (ds a.head.name), .d (dints a.head.args), .d (dlits a.body)])) 3 (.box [.d (dexps b.exps), .d (di b.head.kind), .d (ds b.head.name), .d (dints b.head.args), .d (dlits b.body)]))⟩) (fun k => k ≤ a.body.length ∧ ∀ j, j < k → a.body[j]? = b.body[j]?) (fun k => a.body.length - k) 0 (fgt_intro (fgt_upd rfl (fgt_upd rfl (fgt_upd rfl fgt_env0))) (fgt_updH rfl (fgt_updH rfl fgt_H0))) ?_ ?_
          · exact ⟨Nat.zero_le _, fun j h => by omega⟩
          rintro k ⟨hk3, hk4⟩
          refine T_seq ?_
          refine T_seq ?_
          refine T_region ?_
          iterate 5 refine TL_x ?_
          refine TL_nil ?_
          refine EThen_n ?_
          refine T_cond rfl ?_ ?_
          ·
            intro hc
            have hlt : k < a.body.length := by simpa using hc
            obtain ⟨x, hx⟩ := get_some hlt
            obtain ⟨y, hy⟩ := get_some (l := b.body) (i := k) (by omega)
            refine T_skip ?_
            refine EThen_n ?_
            refine T_seq ?_
            refine T_block ?_
            refine T_seq ?_
            refine T_draw 12 Ty.mixed rfl ?_
            iterate 3 refine DGo_x ?_
            first | refine DGo_one rfl rfl (.go _ rfl (g_index_sl rfl rfl rfl Ty.s33 (by omega) (get_map hx))) ?_ | refine DGo_one rfl rfl (.go _ rfl (g_index_lit rfl rfl rfl Ty.s33 (by omega) (get_map hx))) ?_ | refine DGo_one rfl rfl (.go _ rfl (g_index_asl rfl rfl rfl rfl rfl Ty.s33 (by omega) (get_map hx))) ?_
            iterate 4 refine DGo_x ?_
            first | refine DGo_one rfl rfl (.go _ rfl (g_index_sl rfl rfl rfl Ty.s33 (by omega) (get_map hy))) ?_ | refine DGo_one rfl rfl (.go _ rfl (g_index_lit rfl rfl rfl Ty.s33 (by omega) (get_map hy))) ?_ | refine DGo_one rfl rfl (.go _ rfl (g_index_asl rfl rfl rfl rfl rfl Ty.s33 (by omega) (get_map hy))) ?_
            refine DGo_x ?_
            refine DGo_one rfl rfl (.go _ rfl (c_call rfl rfl Fk.ok39 (fun w F => PC_l04SameLit x y (ha.a x (List.mem_of_getElem? hx)) (hb.a y (List.mem_of_getElem? hy)) w F))) ?_
            refine DGo_x ?_
            refine DGo_nil ?_
            refine TL_nil ?_
            refine EThen_n ?_
            refine T_cond rfl ?_ ?_
            ·
              intro hc
              have hbad := rule_bad_b (a := a) (b := b) (list_ne hx hy (by simpa using hc))
              refine T_seq ?_
              refine T_region ?_
              refine TL_x ?_
              refine TL_nil ?_
              refine EThen_n ?_
              refine T_ret ?_
              refine EBlock_ret ?_
              refine EThen_ret ?_
              refine EThen_ret ?_
              refine EBlock_ret ?_
              refine EThen_ret ?_
              refine Ret_ret ?_
              first | (rw [hbad]; done) | (rw [hbad]; rfl) | (rw [hgood]; done) | (rw [hgood]; rfl)
            ·
              intro hc
              have hxy : x = y := by simpa using hc
              refine T_skip ?_
              refine EBlock_n ?_
              refine EThen_n ?_
              refine T_region ?_
              iterate 3 refine TL_x ?_
              refine TL_nil ?_
              refine EThen_n ⟨k + 1, (fgt_intro (fgt_upd rfl (fgt_upd rfl (fgt_upd rfl fgt_env0))) (fgt_updH rfl (fgt_updH rfl fgt_H0))), ?_, ?_⟩
              · exact ⟨hlt, deq_next hk4 hx hy hxy⟩
              · omega
          ·
            intro hc
            have hgood := rule_good hex hhd (list_all hlb hk4 (by simpa using hc))
            refine T_exit ?_
            refine EThen_exit ?_
            refine EThen_exit ?_
            refine EBlock_same ?_
            refine EThen_n ?_
            refine T_seq ?_
            refine T_region ?_
            refine TL_x ?_
            refine TL_nil ?_
            refine EThen_n ?_
            refine T_ret ?_
            refine Ret_ret ?_
            first | (rw [hbad]; done) | (rw [hbad]; rfl) | (rw [hgood]; done) | (rw [hgood]; rfl)

set_option maxHeartbeats 4000000 in
theorem PC_NumText (n : Nat) (hn : n < 1000) (w : World) (F : Fz)  : PC Tryd.prog 43 w F [.d (di (n : Int))] (· = [ds (Lib.decDigits n)]) := by
  have hdl := dig_len 2 n (by omega)
  refine PC_of_T' (rs := [2]) (n := 33) Tryd.func43 rfl rfl rfl rfl ?_
  refine T_seq ?_
  refine T_region ?_
  refine TL_x ?_
  refine TL_nil ?_
  refine EThen_n ?_
  refine T_seq ?_
  refine T_seq ?_
  refine T_region ?_
  iterate 2 refine TL_x ?_
  refine TL_nil ?_
  refine EThen_n ?_
  refine T_cond rfl ?_ ?_
  ·
    intro hc
    have hn0 : n = 0 := by simpa using hc
    refine T_seq ?_
    refine T_region ?_
    refine TL_x ?_
    refine TL_nil ?_
    refine EThen_n ?_
    refine T_ret ?_
    refine EThen_ret ?_
    refine Ret_ret ?_
    first | (rw [hout]; done) | (rw [hn0, dig_last (by omega)]; rfl)
  ·
    intro hc
    have hn0 : n ≠ 0 := by simpa using hc
    refine T_skip ?_
    refine EThen_n ?_
    refine T_seq ?_
    refine T_region ?_
    iterate 2 refine TL_x ?_
    refine TL_nil ?_
    refine EThen_n ?_
    refine T_seq ?_
    refine T_seq ?_
    refine T_region ?_
    refine TL_rd 3 (.lit _ _) ?_
    refine TL_o rfl rfl rfl (f_move rfl (by first | exact .d _ | exact .box _ _ | exact .asl _ _ | exact .nil | exact .lit _ _ | exact .agg _ | exact .clo _ _ | exact .fnv _ | exact .tup _ | exact .el _ _ _ | exact .mp _ | exact .junk)) ?_
    refine TL_x ?_
    refine TL_nil ?_
    refine EThen_n ?_
    refine T_block ?_
    refine T_loopF (α := Nat × Bs) (fun x => ⟨(upd (upd (upd env0 0 (.d (di (n : Int)))) 3 (.d (dbytes x.2))) 4 (.d (di (x.1 : Int)))), H0⟩) (fun x => NumI n x.1 x.2 ∧ x.1 ≤ n) (fun x => x.1) (n, []) (fgt_intro (fgt_upd rfl (fgt_upd rfl (fgt_upd rfl fgt_env0))) fgt_H0) ?_ ?_
    · exact ⟨numI0 hn0, Nat.le_refl _⟩
    rintro x ⟨hx1, hx2⟩
    refine T_seq ?_
    refine T_seq ?_
    refine T_region ?_
    iterate 2 refine TL_x ?_
    refine TL_nil ?_
    refine EThen_n ?_
    refine T_cond rfl ?_ ?_
    ·
      intro hc
      have hm : x.1 ≠ 0 := by simpa using hc
      have hol : x.2.length ≤ 3 := by have h := congrArg List.length (hx1.2 hm); simp at h; omega
      refine T_skip ?_
      refine EThen_n ?_
      refine T_seq ?_
      refine T_block ?_
      refine T_seq ?_
      refine T_region ?_
      refine TL_x ?_
      refine TL_o rfl rfl rfl (g_rem rfl rfl rfl (by omega) (show (x.1 : Int).tmod 10 = ((x.1 % 10 : Nat) : Int) by have h := Int.tmod_eq_emod_of_nonneg (a := (x.1 : Int)) (b := 10) (by omega); omega)) ?_
      refine TL_x ?_
      refine TL_nil ?_
      refine EThen_n ?_
      refine T_seq ?_
      refine T_seq ?_
      refine T_region ?_
      iterate 2 refine TL_x ?_
      refine TL_nil ?_
      refine EThen_n ?_
      refine T_cond rfl ?_ ?_
      ·
        intro hc
        have h0 := of_decide_eq_true hc; omega
      ·
        intro hc
        refine T_skip ?_
        refine EThen_n ?_
        refine T_region ?_
        iterate 2 refine TL_x ?_
        refine TL_o rfl rfl rfl (g_conv_u8 (b := 48 + x.1 % 10) rfl rfl (by rw [Tryd.underlying3]; rfl) Tryd.underlying5 (by omega) (by omega)) ?_
        refine TL_s rfl (s_buildSlice (id := 23) rfl rfl rfl Ty.e80 rfl rfl rfl (.cons (by first | exact .d _ | exact .nil _ _ | exact .litn _ _ _ | exact .lit _ _ | exact .asl _ _ _ _ _ rfl rfl | exact .asln _ _ _ _ _ _ _ rfl rfl | exact .emp _ _ _ _) .nil) rfl rfl rfl (by repeat (first | exact noRefE0 | exact noRefE_envOf | exact noRefE_envA rfl | refine noRefE_upd rfl ?_)) (by repeat (first | exact noRefH0 | refine noRefH_upd rfl ?_))) ?_
        refine TL_x ?_
        refine TL_s rfl (s_append_to (l' := (UInt8.ofNat (48 + x.1 % 10) :: x.2).map fun b => D.s (.int .u8 b.toNat)) (m := (UInt8.ofNat (48 + x.1 % 10) :: x.2).length) rfl rfl rfl rfl rfl (by simp) (by first | exact .asl _ _ _ _ _ rfl rfl | exact .lit _ | exact .d _ _ | exact .nil) Ty.e80 rfl (by simp) (by simp; omega) (by unfold maxLen; simp; omega)) ?_
        refine TL_x ?_
        refine TL_nil ?_
        refine EBlock_n ?_
        refine EThen_n ?_
        refine T_region ?_
        refine TL_freeze 23 rfl ?_
        refine TL_rd 3 (.asl _ _ _ _ _ rfl (by simp)) ?_
        refine TL_o rfl rfl rfl (f_move rfl (by first | exact .d _ | exact .box _ _ | exact .asl _ _ | exact .nil | exact .lit _ _ | exact .agg _ | exact .clo _ _ | exact .fnv _ | exact .tup _ | exact .el _ _ _ | exact .mp _ | exact .junk)) ?_
        refine TL_o rfl rfl rfl (g_quo rfl rfl rfl (by omega) (show IntKind.wrap .i64 ((x.1 : Int).tdiv 10) = ((x.1 / 10 : Nat) : Int) by rw [Int.tdiv_eq_ediv_of_nonneg (by omega), wr64 _ (by omega)]; omega)) ?_
        refine TL_x ?_
        refine TL_nil ?_
        refine EThen_n ⟨(x.1 / 10, UInt8.ofNat (48 + x.1 % 10) :: x.2), (fgt_intro (fgt_upd rfl (fgt_upd rfl (fgt_upd rfl fgt_env0))) fgt_H0), ?_, ?_⟩
        · exact ⟨numI_next hx1 hm, by dsimp only; omega⟩
        · dsimp only; omega
    ·
      intro hc
      have hm : x.1 = 0 := by simpa using hc
      have hout := hx1.1 hm
      have hne : x.2 ≠ [] := by rw [hout]; exact dig_ne n
      refine T_exit ?_
      refine EThen_exit ?_
      refine EThen_exit ?_
      refine EBlock_same ?_
      refine EThen_n ?_
      refine T_seq ?_
      refine T_seq ?_
      refine T_region ?_
      iterate 2 refine TL_x ?_
      refine TL_nil ?_
      refine EThen_n ?_
      refine T_cond rfl ?_ ?_
      ·
        intro hc
        have h0 := of_decide_eq_true hc; omega
      ·
        intro hc
        refine T_skip ?_
        refine EThen_n ?_
        refine T_seq ?_
        refine T_region ?_
        refine TL_x ?_
        refine TL_o rfl rfl rfl (g_conv_str rfl rfl hne Tryd.underlying80 Tryd.underlying5 Tryd.underlying9) ?_
        refine TL_x ?_
        refine TL_nil ?_
        refine EThen_n ?_
        refine T_ret ?_
        refine Ret_ret ?_
        first | (rw [hout]; done) | (rw [hn0, dig_last (by omega)]; rfl)

set_option maxHeartbeats 4000000 in
theorem PC_copyLit (l : Q.Lit) (hl : l.args.length ≤ 4294967296) (w : World) (F : Fz)  : PC Tryd.prog 68 w F [.d (l.d)] (· = [l.d]) := by
  refine PC_of_G (rs := [.cell 2 32]) (n := 12) Tryd.func68 rfl rfl rfl rfl ?_
  refine T_seq ?_
  refine T_region ?_
  refine TL_box 1 ?_
  refine TL_alloc 2 ?_
  refine TL_nil ?_
  refine EThen_n ?_
  refine T_seq ?_
  refine T_drawE 8 [7] [7] Ty.mixed rfl (by intro A hA; simp at hA; rcases hA with rfl <;> exact ⟨(by repeat (first | exact noRefE0 | exact noRefE_envOf | exact noRefE_envA rfl | refine noRefE_upd rfl ?_)), (by repeat (first | exact noRefH0 | refine noRefH_upd rfl ?_))⟩) ?_
  iterate 4 refine DE_x ?_
  refine DE_eff true (e_new0 7 rfl rfl rfl Ty.e23 rfl) ?_
  iterate 2 refine DE_x ?_
  refine DE_eff false (e_append (l2 := l.args.map di) (l' := l.args.map di) (m := l.args.length) rfl rfl rfl rfl rfl rfl (fun _ => .d _ _) Ty.e23 rfl (by simp) (by first | omega | (simp; omega)) (by unfold maxLen; first | omega | (simp; omega))) ?_
  refine DE_nil 8 [0, 1, 0, 4, 0, 0, 32, 112, 255, 511] ?_
  refine TL_x ?_
  refine TL_freeze 7 rfl ?_
  refine TL_store ?_
  refine TL_nil ?_
  refine EThen_n ?_
  refine T_ret ?_
  refine RetG_ret (.cons (.row rfl rfl Ty.r32 rfl (by first | exact .d _ | exact .box _ _ | exact .asl _ _ | exact .nil | exact .lit _ _ | exact .agg _ | exact .clo _ _ | exact .fnv _ | exact .tup _ | exact .el _ _ _ | exact .mp _ | exact .junk)) .nil) (.cons (by first | exact .d _ | exact .nil _ _ | exact .litn _ _ _ | exact .lit _ _ | exact .asl _ _ _ _ _ rfl rfl | exact .asln _ _ _ _ _ _ _ rfl rfl | exact .emp _ _ _ _ | exact .ofL (.cons (.d _) (.cons (.d _) (.cons (.asl _ _ _ _ _ rfl (by simp)) .nil))) rfl) .nil) ?_
  rfl

set_option maxHeartbeats 4000000 in
theorem PC_canon1 (i : Int) (e : Q.Exp) (vs : List Bs) (h : e.kind = 1 → e.text ∈ vs) (hv : vs.length ≤ 60) (w : World) (F : Fz)  : PC Tryd.prog 54 w F [.d (di i), .d (e.d), .d (.pt [dstrs vs] 0)] (· = [(e.ren vs).d]) := by
  refine PC_of_G (rs := [.cell 5 65]) (n := 18) Tryd.func54 rfl rfl rfl rfl ?_
  refine T_seq ?_
  refine T_region ?_
  refine TL_box 4 ?_
  refine TL_alloc 5 ?_
  refine TL_nil ?_
  refine EThen_n ?_
  refine T_seq ?_
  refine T_seq ?_
  refine T_region ?_
  iterate 3 refine TL_x ?_
  refine TL_nil ?_
  refine EThen_n ?_
  refine T_cond rfl ?_ ?_
  ·
    intro hc
    have hk : e.kind = 1 := by simpa using hc
    have hm := h hk
    have hix := (List.getElem?_eq_some_iff.1 (idx_at hm).1).1
    have hdl := dig_len 1 (vs.idxOf e.text + 1) (by omega)
    refine T_region ?_
    iterate 3 refine TL_x ?_
    refine TL_o rfl rfl rfl (c_call rfl rfl Fk.ok56 (fun w F => PC_IndexStr vs e.text hm (by omega) w F)) ?_
    refine TL_x ?_
    refine TL_o rfl rfl rfl (c_call rfl rfl Fk.ok55 (fun w F => PC_Itoa (((vs.idxOf e.text : Nat) : Int) + 1) (vs.idxOf e.text + 1) (by simp) (by omega) w F)) ?_
    refine TL_o rfl rfl rfl (g_sadd rfl rfl rfl (by simp; omega)) ?_
    refine TL_x ?_
    refine TL_store ?_
    refine TL_nil ?_
    refine EThen_n ?_
    refine T_seq ?_
    refine T_region ?_
    refine TL_x ?_
    refine TL_store ?_
    refine TL_nil ?_
    refine EThen_n ?_
    refine T_ret ?_
    refine RG_ret ?_
    first | (rw [ren_yes hk]; rfl) | (rw [ren_no hk]; rfl)
  ·
    intro hc
    have hk : e.kind ≠ 1 := by simpa using hc
    refine T_skip ?_
    refine EThen_n ?_
    refine T_seq ?_
    refine T_region ?_
    refine TL_x ?_
    refine TL_store ?_
    refine TL_nil ?_
    refine EThen_n ?_
    refine T_ret ?_
    refine RG_ret ?_
    first | (rw [ren_yes hk]; rfl) | (rw [ren_no hk]; rfl)

set_option maxHeartbeats 4000000 in
theorem PC_renamed (r : Rule) (g : Q.Exp → Q.Exp) (p : List D → List D → Prop) (hp : ∀ (i : Int) (e : Q.Exp), e ∈ r.exps → p [di i, e.d] [(g e).d]) (hr : r.Lim) (w : World) (F : Fz)  : PC Tryd.prog 53 w F [.d (r.d), .fn p] (· = [(Rule.mk (r.exps.map g) r.head r.body).d]) := by
  have hre := hr.e
  have hrb := hr.b
  refine PC_of_G (rs := [.cell 4 35]) (n := 53) Tryd.func53 rfl rfl rfl rfl ?_
  refine T_seq ?_
  refine T_region ?_
  refine TL_box 2 ?_
  refine TL_alloc 4 ?_
  refine TL_nil ?_
  refine EThen_n ?_
  refine T_seq ?_
  refine T_region ?_
  iterate 2 refine TL_x ?_
  refine TL_o rfl rfl rfl (c_call rfl rfl Fk.ok68 (fun w F => PC_copyLit r.head hr.h w F)) ?_
  refine TL_x ?_
  refine TL_alloc 5 ?_
  refine TL_store ?_
  refine TL_nil ?_
  refine EThen_n ?_
  refine T_seq ?_
  refine T_seq ?_
  refine T_thawBox 5 0 500 3 65 (by decide) rfl rfl rfl (by repeat (first | exact noRefE0 | exact noRefE_envOf | exact noRefE_envA rfl | refine noRefE_upd rfl ?_)) (by repeat (first | exact noRefH0 | refine noRefH_upd rfl ?_)) ?_
  refine T_thawBox 5 4 501 3 32 (by decide) rfl rfl rfl (by repeat (first | exact noRefE0 | exact noRefE_envOf | exact noRefE_envA rfl | refine noRefE_upd rfl ?_)) (by repeat (first | exact noRefH0 | refine noRefH_upd rfl ?_)) ?_
  refine T_region ?_
  iterate 4 refine TL_x ?_
  refine TL_nil ?_
  refine EThen_n ?_
  refine T_block ?_
  refine T_loopF (α := Nat × List Q.Exp) (fun x => ⟨(upd (upd (upd (upd (upd (upd (upd env0 1 (.fnv p)) 2 (.box 2 0)) 4 (.box 4 0)) 5 (.box 5 0)) 15 (.d (dexps r.exps))) 16 (.d (di ((r.exps.map Q.Exp.d).length : Int)))) 17 (.d (di (x.1 : Int)))), (upd (upd (upd (upd (upd H0 2 (.box [.d (dexps r.exps), .d (di r.head.kind), .d (ds r.head.name), .d (dints r.head.args), .d (dlits r.body)])) 4 (.box [.nil, .d (di 0), .d (ds []), .nil, .nil])) 5 (.box [.asl 500 x.2.length, .d (di r.head.kind), .d (ds r.head.name), .d (dints r.head.args), .asl 501 0])) 500 (.arr true 3 65 (x.2.map Q.Exp.d))) 501 (.arr true 3 32 []))⟩) (fun x => x.1 ≤ r.exps.length ∧ x.2 = (r.exps.take x.1).map g) (fun x => r.exps.length - x.1) (0, []) (fgt_intro (fgt_upd rfl (fgt_upd rfl (fgt_upd rfl (fgt_upd rfl (fgt_upd rfl (fgt_upd rfl (fgt_upd rfl fgt_env0))))))) (fgt_updH rfl (fgt_updH rfl (fgt_updH rfl (fgt_updH rfl (fgt_updH rfl fgt_H0)))))) ?_ ?_
  · exact ⟨Nat.zero_le _, rfl⟩
  rintro x ⟨hx1, hx2⟩
  refine T_seq ?_
  refine T_region ?_
  refine TL_x ?_
  refine TL_nil ?_
  refine EThen_n ?_
  refine T_seq ?_
  refine T_cond rfl ?_ ?_
  ·
    intro hc
    have hlt : x.1 < r.exps.length := by simpa using hc
    obtain ⟨e, he⟩ := get_some hlt
    have hpe := hp (x.1 : Int) e (List.mem_of_getElem? he)
    have hxl : x.2.length ≤ x.1 := by rw [hx2]; simp; omega
    refine T_skip ?_
    refine EThen_n ?_
    refine T_seq ?_
    refine T_block ?_
    refine T_seq ?_
    refine T_region ?_
    refine TL_x ?_
    first | refine TL_o rfl rfl rfl (g_index_sl rfl rfl rfl Ty.s31 (by omega) (get_map he)) ?_ | refine TL_o rfl rfl rfl (g_index_lit rfl rfl rfl Ty.s31 (by omega) (get_map he)) ?_ | refine TL_o rfl rfl rfl (g_index_asl rfl rfl rfl rfl rfl Ty.s31 (by omega) (get_map he)) ?_
    refine TL_x ?_
    refine TL_alloc 7 ?_
    refine TL_x ?_
    refine TL_store ?_
    refine TL_nil ?_
    refine EThen_n ?_
    refine T_seq ?_
    refine T_region ?_
    refine TL_s rfl (s_buildSlice (id := 22) rfl rfl rfl Ty.e23 rfl rfl rfl .nil rfl rfl rfl (by repeat (first | exact noRefE0 | exact noRefE_envOf | exact noRefE_envA rfl | refine noRefE_upd rfl ?_)) (by repeat (first | exact noRefH0 | refine noRefH_upd rfl ?_))) ?_
    iterate 2 refine TL_x ?_
    refine TL_s rfl (s_append_to (l' := e.kids.map di) (m := e.kids.length) rfl rfl rfl rfl rfl rfl (by first | exact .asl _ _ _ _ _ rfl rfl | exact .lit _ | exact .d _ _ | exact .nil) Ty.e23 (by simp) (by simp) (by have := hr.k e (List.mem_of_getElem? he); omega) (by have := hr.k e (List.mem_of_getElem? he); unfold maxLen; omega)) ?_
    refine TL_x ?_
    refine TL_store ?_
    refine TL_nil ?_
    refine EThen_n ?_
    refine T_freeze 22 rfl ?_
    refine T_drawE 8 [500] [] Ty.mixed rfl (by intro A hA; cases hA) ?_
    iterate 5 refine DE_x ?_
    refine DE_pure (by (repeat intro _); exact c_callv rfl rfl hpe (.cons (.d _) (.cons (.ofL (.cons (.d _) (.cons (.d _) (.cons (.asl _ _ _ _ _ rfl (by simp)) .nil))) rfl) .nil))) ?_
    refine DE_x ?_
    refine DE_eff false (e_append (l2 := [(g e).d]) (l' := (x.2 ++ [g e]).map Q.Exp.d) (m := (x.2 ++ [g e]).length) rfl rfl rfl rfl rfl (by simp) (fun _ => .lit _) Ty.e31 (by simp) (by simp) (by first | omega | (simp; omega)) (by unfold maxLen; first | omega | (simp; omega))) ?_
    refine DE_nil 8 [0, 1, 0, 0, 0, 28, 60, 127, 255, 511] ?_
    refine TL_x ?_
    refine TL_store ?_
    refine TL_nil ?_
    refine EBlock_n ?_
    refine EThen_n ?_
    refine T_region ?_
    iterate 2 refine TL_x ?_
    refine TL_nil ?_
    refine EThen_n ⟨(x.1 + 1, x.2 ++ [g e]), (fgt_intro (fgt_upd rfl (fgt_upd rfl (fgt_upd rfl (fgt_upd rfl (fgt_upd rfl (fgt_upd rfl (fgt_upd rfl fgt_env0))))))) (fgt_updH rfl (fgt_updH rfl (fgt_updH rfl (fgt_updH rfl (fgt_updH rfl fgt_H0)))))), ?_, ?_⟩
    · exact ⟨hlt, by dsimp only; rw [hx2, take_snoc he]; simp⟩
    · dsimp only; omega
  ·
    intro hc
    have hxe : x.2 = r.exps.map g := by rw [hx2, List.take_of_length_le (by simp at hc; omega)]
    refine T_exit ?_
    refine EThen_exit ?_
    refine EThen_exit ?_
    refine EBlock_same ?_
    refine EThen_n ?_
    refine T_seq ?_
    refine T_seq ?_
    refine T_region ?_
    iterate 4 refine TL_x ?_
    refine TL_nil ?_
    refine EThen_n ?_
    refine T_block ?_
    refine T_loopF (α := Nat × List Q.Lit) (fun y => ⟨(upd (upd (upd (upd (upd (upd env0 2 (.box 2 0)) 4 (.box 4 0)) 5 (.box 5 0)) 38 (.d (dlits r.body))) 39 (.d (di ((r.body.map Q.Lit.d).length : Int)))) 40 (.d (di (y.1 : Int)))), (upd (upd (upd (upd (upd H0 2 (.box [.d (dexps r.exps), .d (di r.head.kind), .d (ds r.head.name), .d (dints r.head.args), .d (dlits r.body)])) 4 (.box [.nil, .d (di 0), .d (ds []), .nil, .nil])) 5 (.box [.asl 500 x.2.length, .d (di r.head.kind), .d (ds r.head.name), .d (dints r.head.args), .asl 501 y.2.length])) 500 (.arr true 3 65 (x.2.map Q.Exp.d))) 501 (.arr true 3 32 (y.2.map Q.Lit.d)))⟩) (fun y => y.1 ≤ r.body.length ∧ y.2 = r.body.take y.1) (fun y => r.body.length - y.1) (0, []) (fgt_intro (fgt_upd rfl (fgt_upd rfl (fgt_upd rfl (fgt_upd rfl (fgt_upd rfl (fgt_upd rfl fgt_env0)))))) (fgt_updH rfl (fgt_updH rfl (fgt_updH rfl (fgt_updH rfl (fgt_updH rfl fgt_H0)))))) ?_ ?_
    · exact ⟨Nat.zero_le _, rfl⟩
    rintro y ⟨hy1, hy2⟩
    refine T_seq ?_
    refine T_region ?_
    refine TL_x ?_
    refine TL_nil ?_
    refine EThen_n ?_
    refine T_seq ?_
    refine T_cond rfl ?_ ?_
    ·
      intro hc
      have hlt : y.1 < r.body.length := by simpa using hc
      obtain ⟨l, hl⟩ := get_some hlt
      have hyl : y.2.length ≤ y.1 := by rw [hy2]; simp; omega
      refine T_skip ?_
      refine EThen_n ?_
      refine T_seq ?_
      refine T_block ?_
      refine T_seq ?_
      refine T_region ?_
      first | refine TL_o rfl rfl rfl (g_index_sl rfl rfl rfl Ty.s33 (by omega) (get_map hl)) ?_ | refine TL_o rfl rfl rfl (g_index_lit rfl rfl rfl Ty.s33 (by omega) (get_map hl)) ?_ | refine TL_o rfl rfl rfl (g_index_asl rfl rfl rfl rfl rfl Ty.s33 (by omega) (get_map hl)) ?_
      refine TL_x ?_
      refine TL_alloc 9 ?_
      refine TL_store ?_
      refine TL_nil ?_
      refine EThen_n ?_
      refine T_drawE 6 [501] [] Ty.mixed rfl (by intro A hA; cases hA) ?_
      iterate 3 refine DE_x ?_
      refine DE_pure (by (repeat intro _); exact (c_call rfl rfl Fk.ok68 (fun w F => PC_copyLit l (hr.a l (List.mem_of_getElem? hl)) w F))) ?_
      refine DE_x ?_
      refine DE_eff false (e_append (l2 := [l.d]) (l' := (y.2 ++ [l]).map Q.Lit.d) (m := (y.2 ++ [l]).length) rfl rfl rfl rfl rfl (by simp) (fun _ => .lit _) Ty.e33 (by simp) (by simp) (by first | omega | (simp; omega)) (by unfold maxLen; first | omega | (simp; omega))) ?_
      refine DE_nil 6 [0, 1, 0, 4, 12, 31, 63, 127] ?_
      refine TL_x ?_
      refine TL_store ?_
      refine TL_nil ?_
      refine EBlock_n ?_
      refine EThen_n ?_
      refine T_region ?_
      iterate 2 refine TL_x ?_
      refine TL_nil ?_
      refine EThen_n ⟨(y.1 + 1, y.2 ++ [l]), (fgt_intro (fgt_upd rfl (fgt_upd rfl (fgt_upd rfl (fgt_upd rfl (fgt_upd rfl (fgt_upd rfl fgt_env0)))))) (fgt_updH rfl (fgt_updH rfl (fgt_updH rfl (fgt_updH rfl (fgt_updH rfl fgt_H0)))))), ?_, ?_⟩
      · exact ⟨hlt, by dsimp only; rw [hy2, take_snoc hl]⟩
      · dsimp only; omega
    ·
      intro hc
      have hye : y.2 = r.body := by rw [hy2, List.take_of_length_le (by simp at hc; omega)]
      refine T_exit ?_
      refine EThen_exit ?_
      refine EThen_exit ?_
      refine EBlock_same ?_
      refine EThen_n ?_
      refine T_seq ?_
      refine T_freeze 500 rfl ?_
      refine T_freeze 501 rfl ?_
      refine T_region ?_
      refine TL_x ?_
      refine TL_store ?_
      refine TL_nil ?_
      refine EThen_n ?_
      refine T_ret ?_
      refine RetG_ret (.cons (.row rfl rfl Ty.r35 rfl (by first | exact .d _ | exact .box _ _ | exact .asl _ _ | exact .nil | exact .lit _ _ | exact .agg _ | exact .clo _ _ | exact .fnv _ | exact .tup _ | exact .el _ _ _ | exact .mp _ | exact .junk)) .nil) (.cons (by first | exact .d _ | exact .nil _ _ | exact .litn _ _ _ | exact .lit _ _ | exact .asl _ _ _ _ _ rfl rfl | exact .asln _ _ _ _ _ _ _ rfl rfl | exact .emp _ _ _ _ | exact .ofL (.cons (.asl _ _ _ _ _ rfl (by simp)) (.cons (.d _) (.cons (.d _) (.cons (.d _) (.cons (.asl _ _ _ _ _ rfl (by simp)) .nil))))) rfl) .nil) ?_
      rw [hxe, hye]; rfl

set_option maxHeartbeats 4000000 in
theorem PC_allVars (r : Rule) (hl : r.exps.length ≤ 4294967296) (w : World) (F : Fz)  : PC Tryd.prog 52 w F [.d (r.d)] (· = [dstrs r.vars]) := by
  refine PC_of_T' (rs := [2]) (n := 31) Tryd.func52 rfl rfl rfl rfl ?_
  refine T_seq ?_
  refine T_region ?_
  refine TL_box 1 ?_
  refine TL_x ?_
  refine TL_nil ?_
  refine EThen_n ?_
  refine T_seq ?_
  refine T_region ?_
  refine TL_s rfl (s_buildSlice (id := 6) rfl rfl rfl Ty.e60 rfl rfl rfl .nil rfl rfl rfl (by repeat (first | exact noRefE0 | exact noRefE_envOf | exact noRefE_envA rfl | refine noRefE_upd rfl ?_)) (by repeat (first | exact noRefH0 | refine noRefH_upd rfl ?_))) ?_
  refine TL_x ?_
  refine TL_nil ?_
  refine EThen_n ?_
  refine T_seq ?_
  refine T_seq ?_
  refine T_region ?_
  iterate 4 refine TL_x ?_
  refine TL_nil ?_
  refine EThen_n ?_
  refine T_block ?_
  refine T_loopF (α := Nat × List Bs) (fun x => ⟨(upd (upd (upd (upd env0 3 (.asl 6 x.2.length)) 8 (.d (dexps r.exps))) 9 (.d (di ((r.exps.map Q.Exp.d).length : Int)))) 10 (.d (di (x.1 : Int)))), (upd H0 6 (.arr true 1 9 (x.2.map ds)))⟩) (fun x => x.1 ≤ r.exps.length ∧ x.2 = varsOf (r.exps.take x.1)) (fun x => r.exps.length - x.1) (0, []) (fgt_intro (fgt_upd rfl (fgt_upd rfl (fgt_upd rfl (fgt_upd rfl fgt_env0)))) (fgt_updH rfl fgt_H0)) ?_ ?_
  · exact ⟨Nat.zero_le _, rfl⟩
  rintro x ⟨hx1, hx2⟩
  refine T_seq ?_
  refine T_region ?_
  refine TL_x ?_
  refine TL_nil ?_
  refine EThen_n ?_
  refine T_seq ?_
  refine T_cond rfl ?_ ?_
  ·
    intro hc
    have hlt : x.1 < r.exps.length := by simpa using hc
    obtain ⟨e, he⟩ := get_some hlt
    have hxl : x.2.length ≤ r.exps.length := by rw [hx2]; exact Nat.le_trans (vars_take_len _ _) (by omega)
    refine T_skip ?_
    refine EThen_n ?_
    refine T_seq ?_
    refine T_block ?_
    refine T_seq ?_
    refine T_region ?_
    first | refine TL_o rfl rfl rfl (g_index_sl rfl rfl rfl Ty.s31 (by omega) (get_map he)) ?_ | refine TL_o rfl rfl rfl (g_index_lit rfl rfl rfl Ty.s31 (by omega) (get_map he)) ?_ | refine TL_o rfl rfl rfl (g_index_asl rfl rfl rfl rfl rfl Ty.s31 (by omega) (get_map he)) ?_
    refine TL_x ?_
    refine TL_alloc 5 ?_
    refine TL_store ?_
    refine TL_nil ?_
    refine EThen_n ?_
    refine T_seq ?_
    refine T_region ?_
    iterate 4 refine TL_x ?_
    refine TL_split 17 rfl ?_ ?_
    ·
      intro hg17
      refine TL_want rfl rfl (lt_of_blt rfl) rfl ?_
      refine TL_o rfl rfl rfl (f_move rfl (by first | exact .d _ | exact .box _ _ | exact .asl _ _ | exact .nil | exact .lit _ _ | exact .agg _ | exact .clo _ _ | exact .fnv _ | exact .tup _ | exact .el _ _ _ | exact .mp _ | exact .junk)) ?_
      refine TL_want rfl rfl (lt_of_blt rfl) rfl ?_
      first | refine TL_o rfl rfl rfl (g_field_box rfl rfl Ty.f65_1 rfl) ?_ | refine TL_o rfl rfl rfl (g_field_pt rfl rfl Ty.f65_1 rfl) ?_ | refine TL_o rfl rfl rfl (g_field_el rfl rfl rfl rfl Ty.f65_1 rfl) ?_
      refine TL_want rfl rfl (lt_of_blt rfl) rfl ?_
      first | refine TL_o rfl rfl rfl (g_load_box rfl rfl Ty.c9 rfl rfl) ?_ | refine TL_o rfl rfl rfl (g_load_pt rfl rfl Ty.c9 rfl) ?_ | refine TL_o rfl rfl rfl (g_load_el rfl rfl Ty.c9 rfl rfl rfl) ?_
      refine TL_want rfl rfl (lt_of_blt rfl) rfl ?_
      refine TL_o rfl rfl rfl (g_callB (n := 2) rfl rfl Fk.ok67 rfl rfl (Frz_arr 6 rfl (Frz_refl _)) ?_ rfl (by first | exact .d _ | exact .box _ _ | exact .asl _ _ | exact .nil | exact .lit _ _ | exact .agg _ | exact .clo _ _ | exact .fnv _ | exact .tup _ | exact .el _ _ _ | exact .mp _ | exact .junk) (fun w F => PC_ContainsStr x.2 e.text (by omega) w F)) ?_
      · exact (.cons (.d (.asl _ _ _ _ _ rfl (by simp))) (.cons (by first | exact .d (.d _) | exact .d (.nil _ _) | exact .d (.litn _ _ _) | exact .d (.lit _ _) | exact .d (.asl _ _ _ _ _ rfl rfl) | exact .d (.asln _ _ _ _ _ _ _ rfl rfl) | exact .fnv _ | exact .d (.emp _ _ _ _)) .nil))
      refine TL_want rfl rfl (lt_of_blt rfl) rfl ?_
      refine TL_o rfl rfl rfl (g_not rfl rfl) ?_
      refine TL_x ?_
      refine TL_nil ?_
      refine EThen_n ?_
      refine T_cond rfl ?_ ?_
      ·
        intro hc
        have hkk : e.kind = 1 ∧ e.text ∉ x.2 := by simp at hg17 hc; exact ⟨hg17, hc⟩
        refine T_region ?_
        iterate 4 refine TL_x ?_
        refine TL_s rfl (s_append_to (l' := (x.2 ++ [e.text]).map ds) (m := (x.2 ++ [e.text]).length) rfl rfl rfl rfl rfl (by simp) (by first | exact .asl _ _ _ _ _ rfl rfl | exact .lit _ | exact .d _ _ | exact .nil) Ty.e60 (by simp) (by simp) (by simp; omega) (by unfold maxLen; simp; omega)) ?_
        refine TL_x ?_
        refine TL_nil ?_
        refine EBlock_n ?_
        refine EThen_n ?_
        refine T_region ?_
        iterate 2 refine TL_x ?_
        refine TL_nil ?_
        refine EThen_n ⟨(x.1 + 1, x.2 ++ [e.text]), (fgt_intro (fgt_upd rfl (fgt_upd rfl (fgt_upd rfl (fgt_upd rfl fgt_env0)))) (fgt_updH rfl fgt_H0)), ?_, ?_⟩
        · exact ⟨hlt, by dsimp only; rw [hx2] at hkk ⊢; exact (vars_yes he hkk).symm⟩
        · dsimp only; omega
      ·
        intro hc
        have hkk : ¬ (e.kind = 1 ∧ e.text ∉ x.2) := by simp at hg17 hc; simp [hg17, hc]
        refine T_skip ?_
        refine EBlock_n ?_
        refine EThen_n ?_
        refine T_region ?_
        iterate 2 refine TL_x ?_
        refine TL_nil ?_
        refine EThen_n ⟨(x.1 + 1, x.2), (fgt_intro (fgt_upd rfl (fgt_upd rfl (fgt_upd rfl (fgt_upd rfl fgt_env0)))) (fgt_updH rfl fgt_H0)), ?_, ?_⟩
        · exact ⟨hlt, by dsimp only; rw [hx2] at hkk ⊢; exact (vars_no he hkk).symm⟩
        · dsimp only; omega
    ·
      intro hg17
      refine TL_skip rfl rfl (lt_of_blt rfl) rfl (lt_of_blt rfl) rfl rfl ?_
      refine TL_skip rfl rfl (lt_of_blt rfl) rfl (lt_of_blt rfl) rfl rfl ?_
      refine TL_skip rfl rfl (lt_of_blt rfl) rfl (lt_of_blt rfl) rfl rfl ?_
      refine TL_skip rfl rfl (lt_of_blt rfl) rfl (lt_of_blt rfl) rfl rfl ?_
      refine TL_skip rfl rfl (lt_of_blt rfl) rfl (lt_of_blt rfl) rfl rfl ?_
      refine TL_x ?_
      refine TL_nil ?_
      refine EThen_n ?_
      refine T_cond_f rfl ?_
      have hkk : ¬ (e.kind = 1 ∧ e.text ∉ x.2) := by simp at hg17; simp [hg17]
      refine T_skip ?_
      refine EBlock_n ?_
      refine EThen_n ?_
      refine T_region ?_
      iterate 2 refine TL_x ?_
      refine TL_nil ?_
      refine EThen_n ⟨(x.1 + 1, x.2), (fgt_intro (fgt_upd rfl (fgt_upd rfl (fgt_upd rfl (fgt_upd rfl fgt_env0)))) (fgt_updH rfl fgt_H0)), ?_, ?_⟩
      · exact ⟨hlt, by dsimp only; rw [hx2] at hkk ⊢; exact (vars_no he hkk).symm⟩
      · dsimp only; omega
  ·
    intro hc
    have hlast : ¬ x.1 < r.exps.length := by simpa using hc
    refine T_exit ?_
    refine EThen_exit ?_
    refine EThen_exit ?_
    refine EBlock_same ?_
    refine EThen_n ?_
    refine T_seq ?_
    refine T_region ?_
    refine TL_freeze 6 rfl ?_
    refine TL_o rfl rfl rfl (f_move rfl (by first | exact .d _ | exact .box _ _ | exact .asl _ _ | exact .nil | exact .lit _ _ | exact .agg _ | exact .clo _ _ | exact .fnv _ | exact .tup _ | exact .el _ _ _ | exact .mp _ | exact .junk)) ?_
    refine TL_x ?_
    refine TL_nil ?_
    refine EThen_n ?_
    refine T_ret ?_
    refine RetQ_ret (.cons (by first | exact .d _ | exact .nil _ _ | exact .litn _ _ _ | exact .lit _ _ | exact .asl _ _ _ _ _ rfl rfl | exact .asln _ _ _ _ _ _ _ rfl rfl | exact .emp _ _ _ _ | exact .asl _ _ _ _ _ rfl (by simp)) .nil) ?_
    rw [vars_end hlast hx2]

set_option maxHeartbeats 4000000 in
theorem PC_canon (r : Rule) (hr : r.Lim) (h60 : r.exps.length ≤ 60) (w : World) (F : Fz)  : PC Tryd.prog 25 w F [.d (r.d)] (· = [r.canon.d]) := by
  have hv : r.vars.length ≤ 60 := Nat.le_trans (varsOf_len r.exps) h60
  refine PC_of_G (rs := [.cell 2 35]) (n := 9) Tryd.func25 rfl rfl rfl rfl ?_
  refine T_seq ?_
  refine T_region ?_
  refine TL_box 1 ?_
  refine TL_alloc 2 ?_
  refine TL_nil ?_
  refine EThen_n ?_
  refine T_seq ?_
  refine T_region ?_
  refine TL_x ?_
  refine TL_o rfl rfl rfl (c_call rfl rfl Fk.ok52 (fun w F => PC_allVars r hr.e w F)) ?_
  refine TL_alloc 3 ?_
  refine TL_store ?_
  refine TL_nil ?_
  refine EThen_n ?_
  refine T_seq ?_
  refine T_region ?_
  refine TL_freezeBox 3 3 0 rfl rfl (.cons (.d _) .nil) ?_
  first | refine TL_o rfl rfl rfl (f_load_box_row rfl rfl Ty.r35 rfl rfl (by first | exact .d _ | exact .box _ _ | exact .asl _ _ | exact .nil | exact .lit _ _ | exact .agg _ | exact .clo _ _ | exact .fnv _ | exact .tup _ | exact .el _ _ _ | exact .mp _ | exact .junk)) ?_ | refine TL_o rfl rfl rfl (f_load_pt_row rfl rfl Ty.r35 rfl (by repeat (first | exact .nil | apply SLD.cons))) ?_
  refine TL_x ?_
  refine TL_o rfl rfl rfl (c_call rfl rfl Fk.ok53 (fun w F => PC_renamed r (Q.Exp.ren r.vars) (fun ds rs => ∃ (i : Int) (e : Q.Exp), e ∈ r.exps ∧ ds = [di i, e.d] ∧ rs = [(e.ren r.vars).d]) (fun i e he => ⟨i, e, he, rfl, rfl⟩) hr w F) (.cons (by first | exact .d (.d _) | exact .d (.nil _ _) | exact .d (.litn _ _ _) | exact .d (.lit _ _) | exact .d (.asl _ _ _ _ _ rfl rfl) | exact .d (.asln _ _ _ _ _ _ _ rfl rfl) | exact .fnv _ | exact .d (.emp _ _ _ _)) (.cons (.clo Fk.ok54 (.cons (.d _) .nil) (fun w F ds rs h => by obtain ⟨i, e, he, h1, h2⟩ := h; subst h1 h2; exact PC_canon1 i e r.vars (fun hk => vars_mem.2 ⟨e, he, hk, rfl⟩) hv w F)) .nil))) ?_
  refine TL_store ?_
  refine TL_nil ?_
  refine EThen_n ?_
  refine T_ret ?_
  refine RG_ret ?_
  rfl

set_option maxHeartbeats 4000000 in
theorem PC_iAlike (a b : Rule) (hwa : a.wt ≤ 4294967296) (hwb : b.wt ≤ 4294967296) (w : World) (F : Fz)  : PC Tryd.prog 8 w F [.d (a.d), .d (b.d)] (· = [db (Rule.alike a b)]) := by
  have hla := Rule.lim_of hwa
  have hlb := Rule.lim_of hwb
  refine PC_of_T' (rs := [4]) (n := 18) Tryd.func8 rfl rfl rfl rfl ?_
  refine T_seq ?_
  refine T_region ?_
  refine TL_box 2 ?_
  refine TL_box 3 ?_
  refine TL_x ?_
  refine TL_nil ?_
  refine EThen_n ?_
  refine T_seq ?_
  refine T_draw 14 Ty.mixed rfl ?_
  refine DGo_x ?_
  refine DGo_one rfl rfl (.go _ rfl (c_call rfl rfl Fk.ok23 (fun w F => PC_hasForm a hwa w F))) ?_
  refine DGo_bool rfl rfl (.go _ rfl (f_move rfl (by first | exact .d _ | exact .box _ _ | exact .asl _ _ | exact .nil | exact .lit _ _ | exact .agg _ | exact .clo _ _ | exact .fnv _ | exact .tup _ | exact .el _ _ _ | exact .mp _ | exact .junk))) ?_ ?_
  ·
    intro hg7
    have hta : a.text ≠ [] := by simpa using hg7
    have ha60 := text_60 hta
    first | refine DGo_one rfl rfl (.want _ _ _ _ rfl rfl rfl rfl (f_load_box_row rfl rfl Ty.r35 rfl rfl (by first | exact .d _ | exact .box _ _ | exact .asl _ _ | exact .nil | exact .lit _ _ | exact .agg _ | exact .clo _ _ | exact .fnv _ | exact .tup _ | exact .el _ _ _ | exact .mp _ | exact .junk))) ?_ | refine DGo_one rfl rfl (.want _ _ _ _ rfl rfl rfl rfl (f_load_pt_row rfl rfl Ty.r35 rfl (by repeat (first | exact .nil | apply SLD.cons)))) ?_
    refine DGo_one rfl rfl (.want _ _ _ _ rfl rfl rfl rfl (c_call rfl rfl Fk.ok23 (fun w F => PC_hasForm b hwb w F))) ?_
    refine DGo_x ?_
    refine DGo_bool rfl rfl (.go _ rfl (f_move rfl (by first | exact .d _ | exact .box _ _ | exact .asl _ _ | exact .nil | exact .lit _ _ | exact .agg _ | exact .clo _ _ | exact .fnv _ | exact .tup _ | exact .el _ _ _ | exact .mp _ | exact .junk))) ?_ ?_
    ·
      intro hg11
      have htb : b.text ≠ [] := by simpa using hg11
      have hb60 := text_60 htb
      first | refine DGo_one rfl rfl (.want _ _ _ _ rfl rfl rfl rfl (f_load_box_row rfl rfl Ty.r35 rfl rfl (by first | exact .d _ | exact .box _ _ | exact .asl _ _ | exact .nil | exact .lit _ _ | exact .agg _ | exact .clo _ _ | exact .fnv _ | exact .tup _ | exact .el _ _ _ | exact .mp _ | exact .junk))) ?_ | refine DGo_one rfl rfl (.want _ _ _ _ rfl rfl rfl rfl (f_load_pt_row rfl rfl Ty.r35 rfl (by repeat (first | exact .nil | apply SLD.cons)))) ?_
      refine DGo_one rfl rfl (.want _ _ _ _ rfl rfl rfl rfl (c_call rfl rfl Fk.ok25 (fun w F => PC_canon a hla ha60 w F))) ?_
      first | refine DGo_one rfl rfl (.want _ _ _ _ rfl rfl rfl rfl (f_load_box_row rfl rfl Ty.r35 rfl rfl (by first | exact .d _ | exact .box _ _ | exact .asl _ _ | exact .nil | exact .lit _ _ | exact .agg _ | exact .clo _ _ | exact .fnv _ | exact .tup _ | exact .el _ _ _ | exact .mp _ | exact .junk))) ?_ | refine DGo_one rfl rfl (.want _ _ _ _ rfl rfl rfl rfl (f_load_pt_row rfl rfl Ty.r35 rfl (by repeat (first | exact .nil | apply SLD.cons)))) ?_
      refine DGo_one rfl rfl (.want _ _ _ _ rfl rfl rfl rfl (c_call rfl rfl Fk.ok25 (fun w F => PC_canon b hlb hb60 w F))) ?_
      refine DGo_one rfl rfl (.want _ _ _ _ rfl rfl rfl rfl (c_call rfl rfl Fk.ok24 (fun w F => PC_sameRule a.canon b.canon (Rule.canon_lim hla) (Rule.canon_lim hlb) w F))) ?_
      iterate 2 refine DGo_x ?_
      refine DGo_nil ?_
      refine TL_nil ?_
      refine EThen_n ?_
      refine T_ret ?_
      refine Ret_ret ?_
      unfold Rule.alike; first | (simp [hta, htb]; done) | (simp [hta]; done) | (simp [htb]; done)
    ·
      intro hg11
      have htb : ¬ b.text ≠ [] := by simpa using hg11
      refine DGo_skip rfl rfl rfl rfl rfl rfl rfl ?_
      refine DGo_skip rfl rfl rfl rfl rfl rfl rfl ?_
      refine DGo_skip rfl rfl rfl rfl rfl rfl rfl ?_
      refine DGo_skip rfl rfl rfl rfl rfl rfl rfl ?_
      refine DGo_skip rfl rfl rfl rfl rfl rfl rfl ?_
      iterate 2 refine DGo_x ?_
      refine DGo_nil ?_
      refine TL_nil ?_
      refine EThen_n ?_
      refine T_ret ?_
      refine Ret_ret ?_
      unfold Rule.alike; first | (simp [hta, htb]; done) | (simp [hta]; done) | (simp [htb]; done)
  ·
    intro hg7
    have hta : ¬ a.text ≠ [] := by simpa using hg7
    refine DGo_skip rfl rfl rfl rfl rfl rfl rfl ?_
    refine DGo_skip rfl rfl rfl rfl rfl rfl rfl ?_
    refine DGo_x ?_
    refine DGo_one rfl rfl (.go _ rfl (f_move rfl (by first | exact .d _ | exact .box _ _ | exact .asl _ _ | exact .nil | exact .lit _ _ | exact .agg _ | exact .clo _ _ | exact .fnv _ | exact .tup _ | exact .el _ _ _ | exact .mp _ | exact .junk))) ?_
    refine DGo_skip rfl rfl rfl rfl rfl rfl rfl ?_
    refine DGo_skip rfl rfl rfl rfl rfl rfl rfl ?_
    refine DGo_skip rfl rfl rfl rfl rfl rfl rfl ?_
    refine DGo_skip rfl rfl rfl rfl rfl rfl rfl ?_
    refine DGo_skip rfl rfl rfl rfl rfl rfl rfl ?_
    iterate 2 refine DGo_x ?_
    refine DGo_nil ?_
    refine TL_nil ?_
    refine EThen_n ?_
    refine T_ret ?_
    refine Ret_ret ?_
    unfold Rule.alike; first | (simp [hta, htb]; done) | (simp [hta]; done) | (simp [htb]; done)

set_option maxHeartbeats 4000000 in
theorem PC_l13Copy (r : Rule) (hr : r.Lim) : PCL Tryd.prog 41 [1000000] [.d r.d] [.arr true 3 65 []] (fun cs os => cs = [.agg [.asl 1000000 r.exps.length, .d (di r.head.kind), .d (ds r.head.name), .d (dints r.head.args), .d (dlits r.body)]] ∧ os = [.arr true 3 65 (r.exps.map Q.Exp.d)]) := by
  have hre := hr.e
  have hrb := hr.b
  refine PCL_of_G (rs := [.cell 2 35]) (n := 86) Tryd.func41 rfl rfl rfl rfl (by rintro cs os ⟨rfl, rfl⟩; rfl) (fun w F M b0 => ?_)
  refine T_seq ?_
  refine T_region ?_
  refine TL_box 1 ?_
  refine TL_alloc 2 ?_
  refine TL_nil ?_
  refine EThen_n ?_
  refine T_seq ?_
  refine T_drawE 14 [3] [3] Ty.mixed rfl (by intro A hA; simp at hA; rcases hA with rfl <;> exact ⟨(by repeat (first | exact noRefE0 | exact noRefE_envOf | exact noRefE_envA rfl | refine noRefE_upd rfl ?_)), (by repeat (first | exact noRefH0 | refine noRefH_upd rfl ?_))⟩) ?_
  iterate 10 refine DE_x ?_
  refine DE_pure (by (repeat intro _); exact (g_append_lit rfl rfl (.d _ _) Ty.e23 rfl (by have := hr.h; simp; omega) (by have := hr.h; unfold maxLen; simp; omega))) ?_
  iterate 2 refine DE_x ?_
  refine DE_alloc 3 ?_
  refine DE_nil 14 [0, 1, 3, 0, 8, 24, 0, 0, 128, 384, 960, 2047, 4095, 0, 16383] ?_
  refine TL_store ?_
  refine TL_nil ?_
  refine EThen_n ?_
  refine T_seq ?_
  refine T_seq ?_
  refine T_thawBox 3 0 1000000 3 65 (by decide) rfl rfl rfl (by repeat (first | exact noRefE0 | exact noRefE_envOf | exact noRefE_envA rfl | refine noRefE_upd rfl ?_)) (by repeat (first | exact noRefH0 | refine noRefH_upd rfl ?_)) ?_
  refine T_thawBox 3 4 501 3 32 (by decide) rfl rfl rfl (by repeat (first | exact noRefE0 | exact noRefE_envOf | exact noRefE_envA rfl | refine noRefE_upd rfl ?_)) (by repeat (first | exact noRefH0 | refine noRefH_upd rfl ?_)) ?_
  refine T_region ?_
  refine TL_x ?_
  refine TL_nil ?_
  refine EThen_n ?_
  refine T_block ?_
  refine T_loopF (α := Nat × List Q.Exp) (fun x => ⟨(upd (upd (upd (upd env0 1 (.box 1 0)) 2 (.box 2 0)) 3 (.box 3 0)) 4 (.d (di (x.1 : Int)))), (upd (upd (upd (upd (upd H0 1 (.box [.d (dexps r.exps), .d (di r.head.kind), .d (ds r.head.name), .d (dints r.head.args), .d (dlits r.body)])) 2 (.box [.nil, .d (di 0), .d (ds []), .nil, .nil])) 3 (.box [.asl 1000000 x.2.length, .d (di r.head.kind), .d (ds r.head.name), .d (dints r.head.args), .asl 501 0])) 1000000 (.arr true 3 65 (x.2.map Q.Exp.d))) 501 (.arr true 3 32 []))⟩) (fun x => x.1 ≤ r.exps.length ∧ x.2 = r.exps.take x.1) (fun x => r.exps.length - x.1) (0, []) (fgt_intro (fgt_upd rfl (fgt_upd rfl (fgt_upd rfl (fgt_upd rfl fgt_env0)))) (fgt_updH rfl (fgt_updH rfl (fgt_updH rfl (fgt_updH rfl (fgt_updH rfl fgt_H0)))))) ?_ ?_
  · exact ⟨Nat.zero_le _, rfl⟩
  rintro x ⟨hx1, hx2⟩
  refine T_seq ?_
  refine T_seq ?_
  refine T_region ?_
  iterate 5 refine TL_x ?_
  refine TL_nil ?_
  refine EThen_n ?_
  refine T_cond rfl ?_ ?_
  ·
    intro hc
    have hlt : x.1 < r.exps.length := by simpa using hc
    obtain ⟨e, he⟩ := get_some hlt
    have hxl : x.2.length ≤ x.1 := by rw [hx2]; simp; omega
    refine T_skip ?_
    refine EThen_n ?_
    refine T_seq ?_
    refine T_block ?_
    refine T_draw 24 Ty.mixed rfl ?_
    iterate 5 refine DGo_x ?_
    first | refine DGo_one rfl rfl (.go _ rfl (g_index_sl rfl rfl rfl Ty.s31 (by omega) (get_map he))) ?_ | refine DGo_one rfl rfl (.go _ rfl (g_index_lit rfl rfl rfl Ty.s31 (by omega) (get_map he))) ?_ | refine DGo_one rfl rfl (.go _ rfl (g_index_asl rfl rfl rfl rfl rfl Ty.s31 (by omega) (get_map he))) ?_
    iterate 5 refine DGo_x ?_
    first | refine DGo_one rfl rfl (.go _ rfl (g_index_sl rfl rfl rfl Ty.s31 (by omega) (get_map he))) ?_ | refine DGo_one rfl rfl (.go _ rfl (g_index_lit rfl rfl rfl Ty.s31 (by omega) (get_map he))) ?_ | refine DGo_one rfl rfl (.go _ rfl (g_index_asl rfl rfl rfl rfl rfl Ty.s31 (by omega) (get_map he))) ?_
    iterate 6 refine DGo_x ?_
    first | refine DGo_one rfl rfl (.go _ rfl (g_index_sl rfl rfl rfl Ty.s31 (by omega) (get_map he))) ?_ | refine DGo_one rfl rfl (.go _ rfl (g_index_lit rfl rfl rfl Ty.s31 (by omega) (get_map he))) ?_ | refine DGo_one rfl rfl (.go _ rfl (g_index_asl rfl rfl rfl rfl rfl Ty.s31 (by omega) (get_map he))) ?_
    iterate 2 refine DGo_x ?_
    refine DGo_one rfl rfl (.go _ rfl (g_append_lit rfl rfl (.d _ _) Ty.e23 rfl (by have := hr.k e (List.mem_of_getElem? he); simp; omega) (by have := hr.k e (List.mem_of_getElem? he); unfold maxLen; simp; omega))) ?_
    iterate 2 refine DGo_x ?_
    refine DGo_nil ?_
    refine TL_s rfl (s_append_to (l' := (x.2 ++ [e]).map Q.Exp.d) (m := (x.2 ++ [e]).length) rfl rfl rfl rfl rfl (by simp) (by first | exact .asl _ _ _ _ _ rfl rfl | exact .lit _ | exact .d _ _ | exact .nil) Ty.e31 (by simp; rfl) (by simp) (by simp; omega) (by unfold maxLen; simp; omega)) ?_
    refine TL_x ?_
    refine TL_store ?_
    refine TL_nil ?_
    refine EBlock_n ?_
    refine EThen_n ?_
    refine T_region ?_
    iterate 3 refine TL_x ?_
    refine TL_nil ?_
    refine EThen_n ⟨(x.1 + 1, x.2 ++ [e]), (fgt_intro (fgt_upd rfl (fgt_upd rfl (fgt_upd rfl (fgt_upd rfl fgt_env0)))) (fgt_updH rfl (fgt_updH rfl (fgt_updH rfl (fgt_updH rfl (fgt_updH rfl fgt_H0)))))), ?_, ?_⟩
    · exact ⟨hlt, by dsimp only; rw [hx2, take_snoc he]⟩
    · dsimp only; omega
  ·
    intro hc
    have hxe : x.2 = r.exps := by rw [hx2, List.take_of_length_le (by simp at hc; omega)]
    refine T_exit ?_
    refine EThen_exit ?_
    refine EThen_exit ?_
    refine EBlock_same ?_
    refine EThen_n ?_
    refine T_seq ?_
    refine T_seq ?_
    refine T_region ?_
    refine TL_x ?_
    refine TL_nil ?_
    refine EThen_n ?_
    refine T_block ?_
    refine T_loopF (α := Nat × List Q.Lit) (fun y => ⟨(upd (upd (upd (upd env0 1 (.box 1 0)) 2 (.box 2 0)) 3 (.box 3 0)) 5 (.d (di (y.1 : Int)))), (upd (upd (upd (upd (upd H0 1 (.box [.d (dexps r.exps), .d (di r.head.kind), .d (ds r.head.name), .d (dints r.head.args), .d (dlits r.body)])) 2 (.box [.nil, .d (di 0), .d (ds []), .nil, .nil])) 3 (.box [.asl 1000000 x.2.length, .d (di r.head.kind), .d (ds r.head.name), .d (dints r.head.args), .asl 501 y.2.length])) 1000000 (.arr true 3 65 (x.2.map Q.Exp.d))) 501 (.arr true 3 32 (y.2.map Q.Lit.d)))⟩) (fun y => y.1 ≤ r.body.length ∧ y.2 = r.body.take y.1) (fun y => r.body.length - y.1) (0, []) (fgt_intro (fgt_upd rfl (fgt_upd rfl (fgt_upd rfl (fgt_upd rfl fgt_env0)))) (fgt_updH rfl (fgt_updH rfl (fgt_updH rfl (fgt_updH rfl (fgt_updH rfl fgt_H0)))))) ?_ ?_
    · exact ⟨Nat.zero_le _, rfl⟩
    rintro y ⟨hy1, hy2⟩
    refine T_seq ?_
    refine T_seq ?_
    refine T_region ?_
    iterate 5 refine TL_x ?_
    refine TL_nil ?_
    refine EThen_n ?_
    refine T_cond rfl ?_ ?_
    ·
      intro hc
      have hlt : y.1 < r.body.length := by simpa using hc
      obtain ⟨l, hl⟩ := get_some hlt
      have hyl : y.2.length ≤ y.1 := by rw [hy2]; simp; omega
      refine T_skip ?_
      refine EThen_n ?_
      refine T_seq ?_
      refine T_block ?_
      refine T_draw 24 Ty.mixed rfl ?_
      iterate 5 refine DGo_x ?_
      first | refine DGo_one rfl rfl (.go _ rfl (g_index_sl rfl rfl rfl Ty.s33 (by omega) (get_map hl))) ?_ | refine DGo_one rfl rfl (.go _ rfl (g_index_lit rfl rfl rfl Ty.s33 (by omega) (get_map hl))) ?_ | refine DGo_one rfl rfl (.go _ rfl (g_index_asl rfl rfl rfl rfl rfl Ty.s33 (by omega) (get_map hl))) ?_
      iterate 5 refine DGo_x ?_
      first | refine DGo_one rfl rfl (.go _ rfl (g_index_sl rfl rfl rfl Ty.s33 (by omega) (get_map hl))) ?_ | refine DGo_one rfl rfl (.go _ rfl (g_index_lit rfl rfl rfl Ty.s33 (by omega) (get_map hl))) ?_ | refine DGo_one rfl rfl (.go _ rfl (g_index_asl rfl rfl rfl rfl rfl Ty.s33 (by omega) (get_map hl))) ?_
      iterate 6 refine DGo_x ?_
      first | refine DGo_one rfl rfl (.go _ rfl (g_index_sl rfl rfl rfl Ty.s33 (by omega) (get_map hl))) ?_ | refine DGo_one rfl rfl (.go _ rfl (g_index_lit rfl rfl rfl Ty.s33 (by omega) (get_map hl))) ?_ | refine DGo_one rfl rfl (.go _ rfl (g_index_asl rfl rfl rfl rfl rfl Ty.s33 (by omega) (get_map hl))) ?_
      iterate 2 refine DGo_x ?_
      refine DGo_one rfl rfl (.go _ rfl (g_append_lit rfl rfl (.d _ _) Ty.e23 rfl (by have := hr.a l (List.mem_of_getElem? hl); simp; omega) (by have := hr.a l (List.mem_of_getElem? hl); unfold maxLen; simp; omega))) ?_
      iterate 2 refine DGo_x ?_
      refine DGo_nil ?_
      refine TL_s rfl (s_append_to (l' := (y.2 ++ [l]).map Q.Lit.d) (m := (y.2 ++ [l]).length) rfl rfl rfl rfl rfl (by simp) (by first | exact .asl _ _ _ _ _ rfl rfl | exact .lit _ | exact .d _ _ | exact .nil) Ty.e33 (by simp; rfl) (by simp) (by simp; omega) (by unfold maxLen; simp; omega)) ?_
      refine TL_x ?_
      refine TL_store ?_
      refine TL_nil ?_
      refine EBlock_n ?_
      refine EThen_n ?_
      refine T_region ?_
      iterate 3 refine TL_x ?_
      refine TL_nil ?_
      refine EThen_n ⟨(y.1 + 1, y.2 ++ [l]), (fgt_intro (fgt_upd rfl (fgt_upd rfl (fgt_upd rfl (fgt_upd rfl fgt_env0)))) (fgt_updH rfl (fgt_updH rfl (fgt_updH rfl (fgt_updH rfl (fgt_updH rfl fgt_H0)))))), ?_, ?_⟩
      · exact ⟨hlt, by dsimp only; rw [hy2, take_snoc hl]⟩
      · dsimp only; omega
    ·
      intro hc
      have hye : y.2 = r.body := by rw [hy2, List.take_of_length_le (by simp at hc; omega)]
      refine T_exit ?_
      refine EThen_exit ?_
      refine EThen_exit ?_
      refine EBlock_same ?_
      refine EThen_n ?_
      refine T_seq ?_
      refine T_freeze 501 rfl ?_
      refine T_rdBox 3 rfl (.cons (.same _) (.cons (.same _) (.cons (.same _) (.cons (.same _) (.cons (.d (.asl _ _ _ _ _ rfl (by simp))) .nil))))) rfl ?_
      refine T_region ?_
      refine TL_x ?_
      refine TL_store ?_
      refine TL_nil ?_
      refine EThen_n ?_
      refine T_ret ?_
      refine RGL_ret ?_
      rw [hxe, hye]; exact ⟨rfl, rfl⟩

set_option maxHeartbeats 4000000 in
theorem PC_l15Canon (r : Rule) (hr : r.Lim) (h60 : r.exps.length ≤ 60) (w : World) (F : Fz)  : PC Tryd.prog 19 w F [.d (r.d)] (· = [r.canon.d]) := by
  have hre := hr.e
  refine PC_of_G (rs := [.cell 2 35]) (n := 69) Tryd.func19 rfl rfl rfl rfl ?_
  refine T_seq ?_
  refine T_region ?_
  refine TL_box 1 ?_
  refine TL_alloc 2 ?_
  refine TL_nil ?_
  refine EThen_n ?_
  refine T_seq ?_
  refine T_region ?_
  refine TL_x ?_
  refine TL_thaw0 1000000 3 65 rfl (by repeat (first | exact noRefE0 | exact noRefE_envOf | exact noRefE_envA rfl | refine noRefE_upd rfl ?_)) (by repeat (first | exact noRefH0 | refine noRefH_upd rfl ?_)) ?_
  refine TL_callL (L := [1000000]) rfl rfl rfl rfl rfl Fk.ok41 rfl (.cons (by first | exact .d (.d _) | exact .d (.nil _ _) | exact .d (.litn _ _ _) | exact .d (.lit _ _) | exact .d (.asl _ _ _ _ _ rfl rfl) | exact .d (.asln _ _ _ _ _ _ _ rfl rfl) | exact .d (.emp _ _ _ _) | exact .same _) .nil) (fun j hj _ => by have hj' : j = 1000000 := (by simpa using hj); subst hj'; exact ⟨(by repeat (first | exact noRefE0 | exact noRefE_envOf | exact noRefE_envA rfl | refine noRefE_upd rfl ?_)), fun i _ => ((by repeat (first | exact noRefH0 | refine noRefH_upd rfl ?_)) : NoRefH 1000000 _) i⟩) (PC_l13Copy r hr) ?_
  rintro _ _ ⟨rfl, rfl⟩
  refine TL_alloc 3 ?_
  refine TL_store ?_
  refine TL_nil ?_
  refine EThen_n ?_
  refine T_seq ?_
  refine T_region ?_
  refine TL_s rfl (s_buildSlice (id := 9) rfl rfl rfl Ty.e60 rfl rfl rfl .nil rfl rfl rfl (by repeat (first | exact noRefE0 | exact noRefE_envOf | exact noRefE_envA rfl | refine noRefE_upd rfl ?_)) (by repeat (first | exact noRefH0 | refine noRefH_upd rfl ?_))) ?_
  refine TL_x ?_
  refine TL_nil ?_
  refine EThen_n ?_
  refine T_seq ?_
  refine T_seq ?_
  refine T_freeze 9 rfl ?_
  refine T_region ?_
  refine TL_x ?_
  refine TL_nil ?_
  refine EThen_n ?_
  refine T_block ?_
  refine T_loopF (α := Nat × List Bs) (fun x => ⟨(upd (upd (upd (upd (upd env0 1 (.box 1 0)) 2 (.box 2 0)) 3 (.box 3 0)) 4 (.asl 9 x.2.length)) 5 (.d (di (x.1 : Int)))), (upd (upd (upd (upd (upd H0 1 (.box [.d (dexps r.exps), .d (di r.head.kind), .d (ds r.head.name), .d (dints r.head.args), .d (dlits r.body)])) 2 (.box [.nil, .d (di 0), .d (ds []), .nil, .nil])) 3 (.box [.asl 1000000 r.exps.length, .d (di r.head.kind), .d (ds r.head.name), .d (dints r.head.args), .d (dlits r.body)])) 9 (.arr false 1 9 (x.2.map ds))) 1000000 (.arr true 3 65 ((canI (Q.Exp.ren r.vars) r.exps x.1).map Q.Exp.d)))⟩) (fun x => x.1 ≤ r.exps.length ∧ x.2 = varsOf (r.exps.take x.1)) (fun x => r.exps.length - x.1) (0, []) (fgt_intro (fgt_upd rfl (fgt_upd rfl (fgt_upd rfl (fgt_upd rfl (fgt_upd rfl fgt_env0))))) (fgt_updH rfl (fgt_updH rfl (fgt_updH rfl (fgt_updH rfl (fgt_updH rfl fgt_H0)))))) ?_ ?_
  · exact ⟨Nat.zero_le _, rfl⟩
  rintro x ⟨hx1, hx2⟩
  refine T_seq ?_
  refine T_seq ?_
  refine T_region ?_
  iterate 5 refine TL_x ?_
  refine TL_nil ?_
  refine EThen_n ?_
  refine T_cond rfl ?_ ?_
  ·
    intro hc
    have hlt : x.1 < r.exps.length := by simpa using hc
    obtain ⟨e, he⟩ := get_some hlt
    have hxl : x.2.length ≤ x.1 := by rw [hx2]; exact vars_take_len _ _
    refine T_skip ?_
    refine EThen_n ?_
    refine T_seq ?_
    refine T_block ?_
    refine T_seq ?_
    refine T_seq ?_
    refine T_region ?_
    iterate 3 refine TL_x ?_
    first | refine TL_o rfl rfl rfl (g_index_sl rfl rfl rfl Ty.s31 (by omega) (get_map he)) ?_ | refine TL_o rfl rfl rfl (g_index_lit rfl rfl rfl Ty.s31 (by omega) (get_map he)) ?_ | refine TL_o rfl rfl rfl (g_index_asl rfl rfl rfl rfl rfl Ty.s31 (by omega) (get_map he)) ?_
    iterate 3 refine TL_x ?_
    refine TL_nil ?_
    refine EThen_n ?_
    refine T_cond rfl ?_ ?_
    ·
      intro hc
      have hk1 : e.kind ≠ 1 := by simpa using hc
      refine T_exit ?_
      refine EThen_exit ?_
      refine EBlock_same ?_
      refine EThen_n ?_
      refine T_region ?_
      iterate 3 refine TL_x ?_
      refine TL_nil ?_
      rw [canI_skip he (ren_no hk1)]
      refine EThen_n ⟨(x.1 + 1, x.2), (fgt_intro (fgt_upd rfl (fgt_upd rfl (fgt_upd rfl (fgt_upd rfl (fgt_upd rfl fgt_env0))))) (fgt_updH rfl (fgt_updH rfl (fgt_updH rfl (fgt_updH rfl (fgt_updH rfl fgt_H0)))))), ?_, ?_⟩
      · exact ⟨hlt, by dsimp only; rw [hx2]; exact (vars_no he (fun h => hk1 h.1)).symm⟩
      · dsimp only; omega
    ·
      intro hc
      have hk1 : e.kind = 1 := by simpa using hc
      refine T_skip ?_
      refine EThen_n ?_
      refine T_seq ?_
      refine T_seq ?_
      refine T_region ?_
      iterate 4 refine TL_x ?_
      first | refine TL_o rfl rfl rfl (g_index_sl rfl rfl rfl Ty.s31 (by omega) (get_map he)) ?_ | refine TL_o rfl rfl rfl (g_index_lit rfl rfl rfl Ty.s31 (by omega) (get_map he)) ?_ | refine TL_o rfl rfl rfl (g_index_asl rfl rfl rfl rfl rfl Ty.s31 (by omega) (get_map he)) ?_
      iterate 2 refine TL_x ?_
      refine TL_o rfl rfl rfl (c_call rfl rfl Fk.ok42 (fun w F => PC_l05In x.2 e.text (by omega) w F) (.cons (.d (.asl _ _ _ _ _ rfl (by simp))) (.cons (by first | exact .d (.d _) | exact .d (.nil _ _) | exact .d (.litn _ _ _) | exact .d (.lit _ _) | exact .d (.asl _ _ _ _ _ rfl rfl) | exact .d (.asln _ _ _ _ _ _ _ rfl rfl) | exact .fnv _ | exact .d (.emp _ _ _ _)) .nil))) ?_
      refine TL_x ?_
      refine TL_nil ?_
      refine EThen_n ?_
      refine T_cond rfl ?_ ?_
      ·
        intro hc
        have hkk : e.kind = 1 ∧ e.text ∉ x.2 := ⟨hk1, by simpa using hc⟩
        have hnew : x.2 ++ [e.text] = varsOf (r.exps.take (x.1 + 1)) := by rw [hx2] at hkk ⊢; exact (vars_yes he hkk).symm
        have hmem : e.text ∈ x.2 ++ [e.text] := by simp
        refine T_region ?_
        iterate 4 refine TL_x ?_
        first | refine TL_o rfl rfl rfl (g_index_sl rfl rfl rfl Ty.s31 (by omega) (get_map he)) ?_ | refine TL_o rfl rfl rfl (g_index_lit rfl rfl rfl Ty.s31 (by omega) (get_map he)) ?_ | refine TL_o rfl rfl rfl (g_index_asl rfl rfl rfl rfl rfl Ty.s31 (by omega) (get_map he)) ?_
        iterate 3 refine TL_x ?_
        refine TL_s rfl (s_append_to (l' := (x.2 ++ [e.text]).map ds) (m := (x.2 ++ [e.text]).length) rfl rfl rfl rfl rfl (by simp) (by first | exact .asl _ _ _ _ _ rfl rfl | exact .lit _ | exact .d _ _ | exact .nil) Ty.e60 (by simp) (by simp) (by simp; omega) (by unfold maxLen; simp; omega)) ?_
        refine TL_x ?_
        refine TL_nil ?_
        refine EThen_n ?_
        refine T_seq ?_
        refine T_region ?_
        refine TL_x ?_
        refine TL_nil ?_
        refine EThen_n ?_
        refine T_block ?_
        rw [show canI (Q.Exp.ren r.vars) r.exps x.1 = canZ (Q.Exp.ren r.vars) r.exps x.1 (r.vars.idxOf e.text) e 0 from (if_pos (Nat.zero_le _)).symm]
        refine T_loopF (α := Nat × List Bs) (fun z => ⟨(upd (upd (upd (upd (upd (upd env0 1 (.box 1 0)) 2 (.box 2 0)) 3 (.box 3 0)) 4 (.asl 9 z.2.length)) 5 (.d (di (x.1 : Int)))) 6 (.d (di (z.1 : Int)))), (upd (upd (upd (upd (upd H0 1 (.box [.d (dexps r.exps), .d (di r.head.kind), .d (ds r.head.name), .d (dints r.head.args), .d (dlits r.body)])) 2 (.box [.nil, .d (di 0), .d (ds []), .nil, .nil])) 3 (.box [.asl 1000000 r.exps.length, .d (di r.head.kind), .d (ds r.head.name), .d (dints r.head.args), .d (dlits r.body)])) 9 (.arr false 1 9 (z.2.map ds))) 1000000 (.arr true 3 65 ((canZ (Q.Exp.ren r.vars) r.exps x.1 (r.vars.idxOf e.text) e z.1).map Q.Exp.d)))⟩) (fun z => z.1 ≤ z.2.length ∧ z.2 = varsOf (r.exps.take (x.1 + 1)) ∧ e.text ∈ z.2) (fun z => z.2.length - z.1) (0, _) (fgt_intro (fgt_upd rfl (fgt_upd rfl (fgt_upd rfl (fgt_upd rfl (fgt_upd rfl (fgt_upd rfl fgt_env0)))))) (fgt_updH rfl (fgt_updH rfl (fgt_updH rfl (fgt_updH rfl (fgt_updH rfl fgt_H0)))))) ?_ ?_
        · exact ⟨Nat.zero_le _, hnew, hmem⟩
        rintro z ⟨hz1, hz2, hz3⟩
        refine T_seq ?_
        refine T_seq ?_
        refine T_region ?_
        iterate 4 refine TL_x ?_
        refine TL_nil ?_
        refine EThen_n ?_
        refine T_cond rfl ?_ ?_
        ·
          intro hc
          have hlt2 : z.1 < z.2.length := by simpa using hc
          obtain ⟨n, hn⟩ := get_some hlt2
          have hzn : z.2.length ≤ x.1 + 1 := by rw [hz2]; exact vars_take_len _ _
          have hzl : (canZ (Q.Exp.ren r.vars) r.exps x.1 (r.vars.idxOf e.text) e z.1).length = r.exps.length := canZ_len hx1
          have hdl := dig_len 2 (z.1 + 1) (by omega)
          refine T_skip ?_
          refine EThen_n ?_
          refine T_seq ?_
          refine T_block ?_
          refine T_seq ?_
          refine T_draw 11 Ty.mixed rfl ?_
          iterate 2 refine DGo_x ?_
          refine DGo_one rfl rfl (.go _ rfl (g_index_asl rfl rfl rfl (by simp) rfl Ty.s60 (by omega) (get_map hn))) ?_
          iterate 4 refine DGo_x ?_
          first | refine DGo_one rfl rfl (.go _ rfl (g_index_sl rfl rfl rfl Ty.s31 (by omega) (get_map he))) ?_ | refine DGo_one rfl rfl (.go _ rfl (g_index_lit rfl rfl rfl Ty.s31 (by omega) (get_map he))) ?_ | refine DGo_one rfl rfl (.go _ rfl (g_index_asl rfl rfl rfl rfl rfl Ty.s31 (by omega) (get_map he))) ?_
          iterate 3 refine DGo_x ?_
          refine DGo_nil ?_
          refine TL_nil ?_
          refine EThen_n ?_
          refine T_cond rfl ?_ ?_
          ·
            intro hc
            have hne : n = e.text := by simpa using hc
            have hp : z.1 = r.vars.idxOf e.text := (name_at hz2 (hne ▸ hn)).symm
            refine T_draw 9 Ty.mixed rfl ?_
            iterate 5 refine DGo_x ?_
            refine DGo_one rfl rfl (.go _ rfl (c_call rfl rfl Fk.ok43 (fun w F => PC_NumText (z.1 + 1) (by omega) w F))) ?_
            refine DGo_one rfl rfl (.go _ rfl (g_sadd rfl rfl rfl (by simp; omega))) ?_
            refine DGo_one rfl rfl (.go _ rfl (g_index_el rfl rfl rfl (by simp [hzl]) rfl Ty.s31 (by omega) (by simp [hzl]; omega) rfl)) ?_
            refine DGo_one rfl rfl (.go _ rfl (g_field_el rfl rfl rfl (by simp [hzl]) Ty.f65_1 rfl)) ?_
            refine DGo_nil ?_
            refine TL_s rfl (s_store_text (i := x.1) (e0 := e) (s := vname (z.1 + 1)) (es' := (canZ (Q.Exp.ren r.vars) r.exps x.1 (r.vars.idxOf e.text) e z.1).set x.1 (e.ren r.vars)) rfl rfl rfl (by simp) rfl rfl Ty.n9 hzl.symm (by rw [hp]; exact canZ_get he) (by rw [ren_yes hk1, hp])) ?_
            refine TL_nil ?_
            refine EBlock_n ?_
            refine EThen_n ?_
            refine T_region ?_
            iterate 3 refine TL_x ?_
            refine TL_nil ?_
            rw [canZ_hit hp]
            refine EThen_n ⟨(z.1 + 1, z.2), (fgt_intro (fgt_upd rfl (fgt_upd rfl (fgt_upd rfl (fgt_upd rfl (fgt_upd rfl (fgt_upd rfl fgt_env0)))))) (fgt_updH rfl (fgt_updH rfl (fgt_updH rfl (fgt_updH rfl (fgt_updH rfl fgt_H0)))))), ?_, ?_⟩
            · exact ⟨hlt2, hz2, hz3⟩
            · dsimp only; omega
          ·
            intro hc
            have hne : z.1 ≠ r.vars.idxOf e.text := fun h => by
              have h1 := name_in hz2 hz3
              obtain ⟨j, hj⟩ := List.getElem?_of_mem hz3
              have h2 := name_at hz2 hj
              have h3 : z.1 = j := h.trans h2
              subst h3
              rw [hn] at hj
              cases hj
              simp at hc
            refine T_skip ?_
            refine EBlock_n ?_
            refine EThen_n ?_
            refine T_region ?_
            iterate 3 refine TL_x ?_
            refine TL_nil ?_
            rw [canZ_same hne]
            refine EThen_n ⟨(z.1 + 1, z.2), (fgt_intro (fgt_upd rfl (fgt_upd rfl (fgt_upd rfl (fgt_upd rfl (fgt_upd rfl (fgt_upd rfl fgt_env0)))))) (fgt_updH rfl (fgt_updH rfl (fgt_updH rfl (fgt_updH rfl (fgt_updH rfl fgt_H0)))))), ?_, ?_⟩
            · exact ⟨hlt2, hz2, hz3⟩
            · dsimp only; omega
        ·
          intro hc
          have hge2 : z.2.length ≤ z.1 := by simp at hc; omega
          refine T_exit ?_
          refine EThen_exit ?_
          refine EThen_exit ?_
          refine EBlock_same ?_
          refine EBlock_n ?_
          refine EThen_n ?_
          refine T_region ?_
          iterate 3 refine TL_x ?_
          refine TL_nil ?_
          rw [canZ_end he (show r.vars.idxOf e.text < z.1 from Nat.lt_of_lt_of_le (name_in hz2 hz3) hge2)]
          refine EThen_n ⟨(x.1 + 1, z.2), (fgt_intro (fgt_upd rfl (fgt_upd rfl (fgt_upd rfl (fgt_upd rfl (fgt_upd rfl fgt_env0))))) (fgt_updH rfl (fgt_updH rfl (fgt_updH rfl (fgt_updH rfl (fgt_updH rfl fgt_H0)))))), ?_, ?_⟩
          · exact ⟨hlt, hz2⟩
          · dsimp only; omega
      ·
        intro hc
        have hmem : e.text ∈ x.2 := by simpa using hc
        have hnew : x.2 = varsOf (r.exps.take (x.1 + 1)) := by rw [hx2] at hmem ⊢; exact (vars_no he (fun h => h.2 hmem)).symm
        refine T_skip ?_
        refine EThen_n ?_
        refine T_seq ?_
        refine T_region ?_
        refine TL_x ?_
        refine TL_nil ?_
        refine EThen_n ?_
        refine T_block ?_
        rw [show canI (Q.Exp.ren r.vars) r.exps x.1 = canZ (Q.Exp.ren r.vars) r.exps x.1 (r.vars.idxOf e.text) e 0 from (if_pos (Nat.zero_le _)).symm]
        refine T_loopF (α := Nat × List Bs) (fun z => ⟨(upd (upd (upd (upd (upd (upd env0 1 (.box 1 0)) 2 (.box 2 0)) 3 (.box 3 0)) 4 (.asl 9 z.2.length)) 5 (.d (di (x.1 : Int)))) 6 (.d (di (z.1 : Int)))), (upd (upd (upd (upd (upd H0 1 (.box [.d (dexps r.exps), .d (di r.head.kind), .d (ds r.head.name), .d (dints r.head.args), .d (dlits r.body)])) 2 (.box [.nil, .d (di 0), .d (ds []), .nil, .nil])) 3 (.box [.asl 1000000 r.exps.length, .d (di r.head.kind), .d (ds r.head.name), .d (dints r.head.args), .d (dlits r.body)])) 9 (.arr false 1 9 (z.2.map ds))) 1000000 (.arr true 3 65 ((canZ (Q.Exp.ren r.vars) r.exps x.1 (r.vars.idxOf e.text) e z.1).map Q.Exp.d)))⟩) (fun z => z.1 ≤ z.2.length ∧ z.2 = varsOf (r.exps.take (x.1 + 1)) ∧ e.text ∈ z.2) (fun z => z.2.length - z.1) (0, _) (fgt_intro (fgt_upd rfl (fgt_upd rfl (fgt_upd rfl (fgt_upd rfl (fgt_upd rfl (fgt_upd rfl fgt_env0)))))) (fgt_updH rfl (fgt_updH rfl (fgt_updH rfl (fgt_updH rfl (fgt_updH rfl fgt_H0)))))) ?_ ?_
        · exact ⟨Nat.zero_le _, hnew, hmem⟩
        rintro z ⟨hz1, hz2, hz3⟩
        refine T_seq ?_
        refine T_seq ?_
        refine T_region ?_
        iterate 4 refine TL_x ?_
        refine TL_nil ?_
        refine EThen_n ?_
        refine T_cond rfl ?_ ?_
        ·
          intro hc
          have hlt2 : z.1 < z.2.length := by simpa using hc
          obtain ⟨n, hn⟩ := get_some hlt2
          have hzn : z.2.length ≤ x.1 + 1 := by rw [hz2]; exact vars_take_len _ _
          have hzl : (canZ (Q.Exp.ren r.vars) r.exps x.1 (r.vars.idxOf e.text) e z.1).length = r.exps.length := canZ_len hx1
          have hdl := dig_len 2 (z.1 + 1) (by omega)
          refine T_skip ?_
          refine EThen_n ?_
          refine T_seq ?_
          refine T_block ?_
          refine T_seq ?_
          refine T_draw 11 Ty.mixed rfl ?_
          iterate 2 refine DGo_x ?_
          refine DGo_one rfl rfl (.go _ rfl (g_index_asl rfl rfl rfl (by simp) rfl Ty.s60 (by omega) (get_map hn))) ?_
          iterate 4 refine DGo_x ?_
          first | refine DGo_one rfl rfl (.go _ rfl (g_index_sl rfl rfl rfl Ty.s31 (by omega) (get_map he))) ?_ | refine DGo_one rfl rfl (.go _ rfl (g_index_lit rfl rfl rfl Ty.s31 (by omega) (get_map he))) ?_ | refine DGo_one rfl rfl (.go _ rfl (g_index_asl rfl rfl rfl rfl rfl Ty.s31 (by omega) (get_map he))) ?_
          iterate 3 refine DGo_x ?_
          refine DGo_nil ?_
          refine TL_nil ?_
          refine EThen_n ?_
          refine T_cond rfl ?_ ?_
          ·
            intro hc
            have hne : n = e.text := by simpa using hc
            have hp : z.1 = r.vars.idxOf e.text := (name_at hz2 (hne ▸ hn)).symm
            refine T_draw 9 Ty.mixed rfl ?_
            iterate 5 refine DGo_x ?_
            refine DGo_one rfl rfl (.go _ rfl (c_call rfl rfl Fk.ok43 (fun w F => PC_NumText (z.1 + 1) (by omega) w F))) ?_
            refine DGo_one rfl rfl (.go _ rfl (g_sadd rfl rfl rfl (by simp; omega))) ?_
            refine DGo_one rfl rfl (.go _ rfl (g_index_el rfl rfl rfl (by simp [hzl]) rfl Ty.s31 (by omega) (by simp [hzl]; omega) rfl)) ?_
            refine DGo_one rfl rfl (.go _ rfl (g_field_el rfl rfl rfl (by simp [hzl]) Ty.f65_1 rfl)) ?_
            refine DGo_nil ?_
            refine TL_s rfl (s_store_text (i := x.1) (e0 := e) (s := vname (z.1 + 1)) (es' := (canZ (Q.Exp.ren r.vars) r.exps x.1 (r.vars.idxOf e.text) e z.1).set x.1 (e.ren r.vars)) rfl rfl rfl (by simp) rfl rfl Ty.n9 hzl.symm (by rw [hp]; exact canZ_get he) (by rw [ren_yes hk1, hp])) ?_
            refine TL_nil ?_
            refine EBlock_n ?_
            refine EThen_n ?_
            refine T_region ?_
            iterate 3 refine TL_x ?_
            refine TL_nil ?_
            rw [canZ_hit hp]
            refine EThen_n ⟨(z.1 + 1, z.2), (fgt_intro (fgt_upd rfl (fgt_upd rfl (fgt_upd rfl (fgt_upd rfl (fgt_upd rfl (fgt_upd rfl fgt_env0)))))) (fgt_updH rfl (fgt_updH rfl (fgt_updH rfl (fgt_updH rfl (fgt_updH rfl fgt_H0)))))), ?_, ?_⟩
            · exact ⟨hlt2, hz2, hz3⟩
            · dsimp only; omega
          ·
            intro hc
            have hne : z.1 ≠ r.vars.idxOf e.text := fun h => by
              have h1 := name_in hz2 hz3
              obtain ⟨j, hj⟩ := List.getElem?_of_mem hz3
              have h2 := name_at hz2 hj
              have h3 : z.1 = j := h.trans h2
              subst h3
              rw [hn] at hj
              cases hj
              simp at hc
            refine T_skip ?_
            refine EBlock_n ?_
            refine EThen_n ?_
            refine T_region ?_
            iterate 3 refine TL_x ?_
            refine TL_nil ?_
            rw [canZ_same hne]
            refine EThen_n ⟨(z.1 + 1, z.2), (fgt_intro (fgt_upd rfl (fgt_upd rfl (fgt_upd rfl (fgt_upd rfl (fgt_upd rfl (fgt_upd rfl fgt_env0)))))) (fgt_updH rfl (fgt_updH rfl (fgt_updH rfl (fgt_updH rfl (fgt_updH rfl fgt_H0)))))), ?_, ?_⟩
            · exact ⟨hlt2, hz2, hz3⟩
            · dsimp only; omega
        ·
          intro hc
          have hge2 : z.2.length ≤ z.1 := by simp at hc; omega
          refine T_exit ?_
          refine EThen_exit ?_
          refine EThen_exit ?_
          refine EBlock_same ?_
          refine EBlock_n ?_
          refine EThen_n ?_
          refine T_region ?_
          iterate 3 refine TL_x ?_
          refine TL_nil ?_
          rw [canZ_end he (show r.vars.idxOf e.text < z.1 from Nat.lt_of_lt_of_le (name_in hz2 hz3) hge2)]
          refine EThen_n ⟨(x.1 + 1, z.2), (fgt_intro (fgt_upd rfl (fgt_upd rfl (fgt_upd rfl (fgt_upd rfl (fgt_upd rfl fgt_env0))))) (fgt_updH rfl (fgt_updH rfl (fgt_updH rfl (fgt_updH rfl (fgt_updH rfl fgt_H0)))))), ?_, ?_⟩
          · exact ⟨hlt, hz2⟩
          · dsimp only; omega
  ·
    intro hc
    have hxe := canI_end (g := (Q.Exp.ren r.vars)) (es := r.exps) (i := x.1) (by simpa using hc)
    rw [hxe]
    refine T_exit ?_
    refine EThen_exit ?_
    refine EThen_exit ?_
    refine EBlock_same ?_
    refine EThen_n ?_
    refine T_seq ?_
    refine T_freeze 1000000 rfl ?_
    refine T_region ?_
    refine TL_x ?_
    refine TL_store ?_
    refine TL_nil ?_
    refine EThen_n ?_
    refine T_ret ?_
    refine RetG_ret (.cons (.row rfl rfl Ty.r35 rfl (by first | exact .d _ | exact .box _ _ | exact .asl _ _ | exact .nil | exact .lit _ _ | exact .agg _ | exact .clo _ _ | exact .fnv _ | exact .tup _ | exact .el _ _ _ | exact .mp _ | exact .junk)) .nil) (.cons (by first | exact .d _ | exact .nil _ _ | exact .litn _ _ _ | exact .lit _ _ | exact .asl _ _ _ _ _ rfl rfl | exact .asln _ _ _ _ _ _ _ rfl rfl | exact .emp _ _ _ _ | exact .ofL (.cons (.asl _ _ _ _ _ rfl (by simp)) (.cons (.d _) (.cons (.d _) (.cons (.d _) (.cons (.d _) .nil))))) rfl) .nil) ?_
    rfl

set_option maxHeartbeats 4000000 in
theorem PC_sAlike (a b : Rule) (hwa : a.wt ≤ 4294967296) (hwb : b.wt ≤ 4294967296) (w : World) (F : Fz)  : PC Tryd.prog 6 w F [.d (a.d), .d (b.d)] (· = [db (Rule.alike a b)]) := by
  have hla := Rule.lim_of hwa
  have hlb := Rule.lim_of hwb
  refine PC_of_T' (rs := [4]) (n := 20) Tryd.func6 rfl rfl rfl rfl ?_
  refine T_seq ?_
  refine T_region ?_
  refine TL_box 2 ?_
  refine TL_box 3 ?_
  refine TL_x ?_
  refine TL_nil ?_
  refine EThen_n ?_
  refine T_seq ?_
  refine T_draw 16 Ty.mixed rfl ?_
  refine DGo_x ?_
  refine DGo_one rfl rfl (.go _ rfl (c_call rfl rfl Fk.ok17 (fun w F => PC_RuleText a hwa w F))) ?_
  refine DGo_x ?_
  refine DGo_bool rfl rfl (.go _ rfl (f_move rfl (by first | exact .d _ | exact .box _ _ | exact .asl _ _ | exact .nil | exact .lit _ _ | exact .agg _ | exact .clo _ _ | exact .fnv _ | exact .tup _ | exact .el _ _ _ | exact .mp _ | exact .junk))) ?_ ?_
  ·
    intro hg8
    have hta : a.text ≠ [] := by simpa using hg8
    have ha60 := text_60 hta
    first | refine DGo_one rfl rfl (.want _ _ _ _ rfl rfl rfl rfl (f_load_box_row rfl rfl Ty.r35 rfl rfl (by first | exact .d _ | exact .box _ _ | exact .asl _ _ | exact .nil | exact .lit _ _ | exact .agg _ | exact .clo _ _ | exact .fnv _ | exact .tup _ | exact .el _ _ _ | exact .mp _ | exact .junk))) ?_ | refine DGo_one rfl rfl (.want _ _ _ _ rfl rfl rfl rfl (f_load_pt_row rfl rfl Ty.r35 rfl (by repeat (first | exact .nil | apply SLD.cons)))) ?_
    refine DGo_one rfl rfl (.want _ _ _ _ rfl rfl rfl rfl (c_call rfl rfl Fk.ok17 (fun w F => PC_RuleText b hwb w F))) ?_
    refine DGo_one rfl rfl (.want _ _ _ _ rfl rfl rfl rfl (g_scmp rfl rfl rfl rfl)) ?_
    refine DGo_x ?_
    refine DGo_bool rfl rfl (.go _ rfl (f_move rfl (by first | exact .d _ | exact .box _ _ | exact .asl _ _ | exact .nil | exact .lit _ _ | exact .agg _ | exact .clo _ _ | exact .fnv _ | exact .tup _ | exact .el _ _ _ | exact .mp _ | exact .junk))) ?_ ?_
    ·
      intro hg13
      have htb : b.text ≠ [] := by simpa using hg13
      have hb60 := text_60 htb
      first | refine DGo_one rfl rfl (.want _ _ _ _ rfl rfl rfl rfl (f_load_box_row rfl rfl Ty.r35 rfl rfl (by first | exact .d _ | exact .box _ _ | exact .asl _ _ | exact .nil | exact .lit _ _ | exact .agg _ | exact .clo _ _ | exact .fnv _ | exact .tup _ | exact .el _ _ _ | exact .mp _ | exact .junk))) ?_ | refine DGo_one rfl rfl (.want _ _ _ _ rfl rfl rfl rfl (f_load_pt_row rfl rfl Ty.r35 rfl (by repeat (first | exact .nil | apply SLD.cons)))) ?_
      refine DGo_one rfl rfl (.want _ _ _ _ rfl rfl rfl rfl (c_call rfl rfl Fk.ok19 (fun w F => PC_l15Canon a hla ha60 w F))) ?_
      first | refine DGo_one rfl rfl (.want _ _ _ _ rfl rfl rfl rfl (f_load_box_row rfl rfl Ty.r35 rfl rfl (by first | exact .d _ | exact .box _ _ | exact .asl _ _ | exact .nil | exact .lit _ _ | exact .agg _ | exact .clo _ _ | exact .fnv _ | exact .tup _ | exact .el _ _ _ | exact .mp _ | exact .junk))) ?_ | refine DGo_one rfl rfl (.want _ _ _ _ rfl rfl rfl rfl (f_load_pt_row rfl rfl Ty.r35 rfl (by repeat (first | exact .nil | apply SLD.cons)))) ?_
      refine DGo_one rfl rfl (.want _ _ _ _ rfl rfl rfl rfl (c_call rfl rfl Fk.ok19 (fun w F => PC_l15Canon b hlb hb60 w F))) ?_
      refine DGo_one rfl rfl (.want _ _ _ _ rfl rfl rfl rfl (c_call rfl rfl Fk.ok18 (fun w F => PC_l04SameRule a.canon b.canon (Rule.canon_lim hla) (Rule.canon_lim hlb) w F))) ?_
      iterate 2 refine DGo_x ?_
      refine DGo_nil ?_
      refine TL_nil ?_
      refine EThen_n ?_
      refine T_ret ?_
      refine Ret_ret ?_
      unfold Rule.alike; first | (simp [hta, htb]; done) | (simp [hta]; done) | (simp [htb]; done)
    ·
      intro hg13
      have htb : ¬ b.text ≠ [] := by simpa using hg13
      refine DGo_skip rfl rfl rfl rfl rfl rfl rfl ?_
      refine DGo_skip rfl rfl rfl rfl rfl rfl rfl ?_
      refine DGo_skip rfl rfl rfl rfl rfl rfl rfl ?_
      refine DGo_skip rfl rfl rfl rfl rfl rfl rfl ?_
      refine DGo_skip rfl rfl rfl rfl rfl rfl rfl ?_
      iterate 2 refine DGo_x ?_
      refine DGo_nil ?_
      refine TL_nil ?_
      refine EThen_n ?_
      refine T_ret ?_
      refine Ret_ret ?_
      unfold Rule.alike; first | (simp [hta, htb]; done) | (simp [hta]; done) | (simp [htb]; done)
  ·
    intro hg8
    have hta : ¬ a.text ≠ [] := by simpa using hg8
    refine DGo_skip rfl rfl rfl rfl rfl rfl rfl ?_
    refine DGo_skip rfl rfl rfl rfl rfl rfl rfl ?_
    refine DGo_skip rfl rfl rfl rfl rfl rfl rfl ?_
    refine DGo_x ?_
    refine DGo_one rfl rfl (.go _ rfl (f_move rfl (by first | exact .d _ | exact .box _ _ | exact .asl _ _ | exact .nil | exact .lit _ _ | exact .agg _ | exact .clo _ _ | exact .fnv _ | exact .tup _ | exact .el _ _ _ | exact .mp _ | exact .junk))) ?_
    refine DGo_skip rfl rfl rfl rfl rfl rfl rfl ?_
    refine DGo_skip rfl rfl rfl rfl rfl rfl rfl ?_
    refine DGo_skip rfl rfl rfl rfl rfl rfl rfl ?_
    refine DGo_skip rfl rfl rfl rfl rfl rfl rfl ?_
    refine DGo_skip rfl rfl rfl rfl rfl rfl rfl ?_
    iterate 2 refine DGo_x ?_
    refine DGo_nil ?_
    refine TL_nil ?_
    refine EThen_n ?_
    refine T_ret ?_
    refine Ret_ret ?_
    unfold Rule.alike; first | (simp [hta, htb]; done) | (simp [hta]; done) | (simp [htb]; done)

set_option maxHeartbeats 4000000 in
theorem PC_FnExactAlike (a b : Rule) (hfa : a.fit) (hfb : b.fit) (w : World) (F : Fz)  : PC Tryd.prog 3 w F [.d (a.d), .d (b.d)] (· = [db true]) := by
  refine PC_of_T' (rs := [4]) (n := 45) Tryd.func3 rfl rfl rfl rfl ?_
  refine T_seq ?_
  refine T_region ?_
  refine TL_box 2 ?_
  refine TL_box 3 ?_
  refine TL_x ?_
  refine TL_nil ?_
  refine EThen_n ?_
  refine T_seq ?_
  refine T_region ?_
  refine TL_x ?_
  refine TL_nil ?_
  refine EThen_n ?_
  refine T_seq ?_
  refine T_region ?_
  iterate 2 refine TL_x ?_
  refine TL_o rfl rfl rfl (c_call rfl rfl Fk.ok5 (fun w F => PC_szRule a 1048576 (by omega) (by omega) hfa w F)) ?_
  refine TL_x ?_
  refine TL_nil ?_
  refine EThen_n ?_
  refine T_seq ?_
  refine T_seq ?_
  refine T_region ?_
  iterate 2 refine TL_x ?_
  refine TL_nil ?_
  refine EThen_n ?_
  refine T_cond rfl ?_ ?_
  ·
    intro hc
    refine T_seq ?_
    refine T_region ?_
    refine TL_x ?_
    refine TL_nil ?_
    refine EThen_n ?_
    refine T_ret ?_
    refine EThen_ret ?_
    refine Ret_ret ?_
    rfl
  ·
    intro hc
    have hwa : a.wt ≤ 4294967296 := by
      have h1 := dec_nn hc
      have h2 := szR_pos h1
      have h3 := Rule.wt_sz a
      omega
    have hla := dec_nn hc
    have hlb := Int.le_trans (szR_le (left := 1048576) (n := a.sz) (by omega)) (show (1048576 : Int) ≤ 140737488355328 by omega)
    refine T_skip ?_
    refine EThen_n ?_
    refine T_seq ?_
    refine T_region ?_
    iterate 2 refine TL_x ?_
    refine TL_o rfl rfl rfl (c_call rfl rfl Fk.ok5 (fun w F => PC_szRule b _ hla hlb hfb w F)) ?_
    refine TL_x ?_
    refine TL_nil ?_
    refine EThen_n ?_
    refine T_seq ?_
    refine T_seq ?_
    refine T_region ?_
    iterate 2 refine TL_x ?_
    refine TL_nil ?_
    refine EThen_n ?_
    refine T_cond rfl ?_ ?_
    ·
      intro hc
      refine T_seq ?_
      refine T_region ?_
      refine TL_x ?_
      refine TL_nil ?_
      refine EThen_n ?_
      refine T_ret ?_
      refine EThen_ret ?_
      refine Ret_ret ?_
      rfl
    ·
      intro hc
      have hwb : b.wt ≤ 4294967296 := by
        have h1 := dec_nn hc
        have h2 := szR_pos h1
        have h3 := Rule.wt_sz b
        have h4 := szR_le (left := 1048576) (n := a.sz) (by omega)
        omega
      refine T_skip ?_
      refine EThen_n ?_
      refine T_seq ?_
      refine T_draw 6 Ty.mixed rfl ?_
      refine DGo_x ?_
      refine DGo_one rfl rfl (.go _ rfl (c_call rfl rfl Fk.ok7 (fun w F => PC_toRule a hwa w F))) ?_
      refine DGo_x ?_
      refine DGo_one rfl rfl (.go _ rfl (c_call rfl rfl Fk.ok7 (fun w F => PC_toRule b hwb w F))) ?_
      refine DGo_one rfl rfl (.go _ rfl (c_call rfl rfl Fk.ok6 (fun w F => PC_sAlike a b hwa hwb w F))) ?_
      refine DGo_x ?_
      refine DGo_nil ?_
      refine TL_nil ?_
      refine EThen_n ?_
      refine T_seq ?_
      refine T_region ?_
      refine TL_x ?_
      refine TL_o rfl rfl rfl (c_call rfl rfl Fk.ok7 (fun w F => PC_toRule a hwa w F)) ?_
      refine TL_alloc 7 ?_
      refine TL_store ?_
      refine TL_nil ?_
      refine EThen_n ?_
      refine T_seq ?_
      refine T_region ?_
      refine TL_x ?_
      refine TL_o rfl rfl rfl (c_call rfl rfl Fk.ok7 (fun w F => PC_toRule b hwb w F)) ?_
      refine TL_alloc 8 ?_
      refine TL_store ?_
      refine TL_nil ?_
      refine EThen_n ?_
      refine T_seq ?_
      refine T_region ?_
      iterate 2 refine TL_x ?_
      refine TL_o rfl rfl rfl (c_call rfl rfl Fk.ok8 (fun w F => PC_iAlike a b hwa hwb w F)) ?_
      refine TL_x ?_
      refine TL_nil ?_
      refine EThen_n ?_
      refine T_seq ?_
      refine T_seq ?_
      refine T_region ?_
      iterate 3 refine TL_x ?_
      refine TL_nil ?_
      refine EThen_n ?_
      refine T_cond rfl ?_ ?_
      ·
        intro hc
        simp at hc
      ·
        intro hc
        refine T_skip ?_
        refine EThen_n ?_
        refine T_seq ?_
        refine T_seq ?_
        refine T_draw 5 Ty.mixed rfl ?_
        iterate 2 refine DGo_x ?_
        refine DGo_one rfl rfl (.go _ rfl (c_call rfl rfl Fk.ok7 (fun w F => PC_toRule a hwa w F))) ?_
        refine DGo_one rfl rfl (.go _ rfl (c_call rfl rfl Fk.ok9 (fun w F => PC_eqRule a hwa w F))) ?_
        refine DGo_x ?_
        refine DGo_nil ?_
        refine TL_nil ?_
        refine EThen_n ?_
        refine T_cond rfl ?_ ?_
        ·
          intro hc
          simp at hc
        ·
          intro hc
          refine T_skip ?_
          refine EThen_n ?_
          refine T_seq ?_
          refine T_seq ?_
          refine T_draw 5 Ty.mixed rfl ?_
          iterate 2 refine DGo_x ?_
          refine DGo_one rfl rfl (.go _ rfl (c_call rfl rfl Fk.ok7 (fun w F => PC_toRule b hwb w F))) ?_
          refine DGo_one rfl rfl (.go _ rfl (c_call rfl rfl Fk.ok9 (fun w F => PC_eqRule b hwb w F))) ?_
          refine DGo_x ?_
          refine DGo_nil ?_
          refine TL_nil ?_
          refine EThen_n ?_
          refine T_cond rfl ?_ ?_
          ·
            intro hc
            simp at hc
          ·
            intro hc
            refine T_skip ?_
            refine EThen_n ?_
            refine T_seq ?_
            refine T_region ?_
            refine TL_x ?_
            refine TL_nil ?_
            refine EThen_n ?_
            refine T_ret ?_
            refine Ret_ret ?_
            rfl

end Go.Proofs
