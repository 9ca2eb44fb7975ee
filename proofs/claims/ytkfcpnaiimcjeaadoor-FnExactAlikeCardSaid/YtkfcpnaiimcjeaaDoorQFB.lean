/- Contracts of functions of the program, each under the conditions that its statement names. -/
import Derived.Test.YtkfcpnaiimcjeaaDoorQFA
set_option linter.unusedVariables false
set_option linter.unusedSimpArgs false
namespace Go.Proofs
open Go.Q
attribute [local irreducible] Go.Q.GStep Go.Q.SStep Go.Q.T Go.Q.TL Go.Q.PC Go.Q.DGo
set_option maxHeartbeats 4000000 in
theorem PC_IndexFunc_int (xs : List Int) (q : Int → Bool) (p : List D → List D → Prop) (hp : ∀ x ∈ xs, p [di x] [db (q x)]) (hl : xs.length ≤ 4611686018427387904) (w : World) (F : Fz)  : PC Tryd.prog 81 w F [.d (.sl 1 none (xs.map di)), .fn p] (· = [di (match xs.findIdx? q with | some i => (i : Int) | none => -1)]) := by
  refine PC_of_T' (rs := [4]) (n := 19) Tryd.func81 rfl rfl rfl rfl ?_
  refine T_seq ?_
  refine T_region ?_
  refine TL_x ?_
  refine TL_nil ?_
  refine EThen_n ?_
  refine T_seq ?_
  refine T_seq ?_
  refine T_region ?_
  iterate 3 refine TL_x ?_
  refine TL_nil ?_
  refine EThen_n ?_
  refine T_block ?_
  refine T_loopF (α := Nat) (fun k => ⟨(upd (upd (upd (upd env0 0 (.d (.sl 1 none (xs.map di)))) 1 (.fnv p)) 7 (.d (di ((xs.map di).length : Int)))) 8 (.d (di (k : Int)))), H0⟩) (fun k => k ≤ xs.length ∧ ∀ j x, j < k → xs[j]? = some x → q x = false) (fun k => xs.length - k) 0 (fgt_intro (fgt_upd rfl (fgt_upd rfl (fgt_upd rfl (fgt_upd rfl fgt_env0)))) fgt_H0) ?_ ?_
  · exact ⟨Nat.zero_le _, fun j x h => by omega⟩
  rintro k ⟨hk, hn⟩
  refine T_seq ?_
  refine T_region ?_
  refine TL_x ?_
  refine TL_nil ?_
  refine EThen_n ?_
  refine T_seq ?_
  refine T_cond rfl ?_ ?_
  ·
    intro hc
    have hlt : k < xs.length := by simpa using hc
    obtain ⟨x, hx⟩ := get_some hlt
    have hpx := hp x (List.mem_of_getElem? hx)
    refine T_skip ?_
    refine EThen_n ?_
    refine T_seq ?_
    refine T_block ?_
    refine T_seq ?_
    refine T_region ?_
    iterate 2 refine TL_x ?_
    refine TL_nil ?_
    refine EThen_n ?_
    refine T_seq ?_
    refine T_region ?_
    iterate 3 refine TL_x ?_
    first | refine TL_o rfl rfl rfl (g_index_sl rfl rfl rfl Ty.s23 (by omega) (get_map hx)) ?_ | refine TL_o rfl rfl rfl (g_index_lit rfl rfl rfl Ty.s23 (by omega) (get_map hx)) ?_ | refine TL_o rfl rfl rfl (g_index_asl rfl rfl rfl rfl rfl Ty.s23 (by omega) (get_map hx)) ?_
    refine TL_x ?_
    refine TL_o rfl rfl rfl (c_callv rfl rfl hpx) ?_
    refine TL_nil ?_
    refine EThen_n ?_
    refine T_cond rfl ?_ ?_
    ·
      intro hc
      refine T_seq ?_
      refine T_region ?_
      iterate 2 refine TL_x ?_
      refine TL_nil ?_
      refine EThen_n ?_
      refine T_ret ?_
      refine EBlock_ret ?_
      refine EThen_ret ?_
      refine EThen_ret ?_
      refine EBlock_ret ?_
      refine EThen_ret ?_
      refine Ret_ret ?_
      have h1 : xs.findIdx? q = some k := by
        rw [List.findIdx?_eq_some_iff_getElem]
        refine ⟨hlt, ?_, fun j hj => ?_⟩
        · have := (List.getElem?_eq_some_iff.1 hx).2; rw [this]; exact hc
        · have := hn j _ hj (List.getElem?_eq_getElem (by omega)); simp [this]
      rw [h1]
    ·
      intro hc
      refine T_skip ?_
      refine EBlock_n ?_
      refine EThen_n ?_
      refine T_region ?_
      iterate 2 refine TL_x ?_
      refine TL_nil ?_
      refine EThen_n ⟨k + 1, (fgt_intro (fgt_upd rfl (fgt_upd rfl (fgt_upd rfl (fgt_upd rfl fgt_env0)))) fgt_H0), ?_, ?_⟩
      · exact ⟨by omega, fun j y hj hy => by
          rcases Nat.lt_succ_iff_lt_or_eq.1 hj with h | h
          · exact hn j y h hy
          · rw [h, hx] at hy; cases hy; exact hc⟩
      · omega
  ·
    intro hc
    refine T_exit ?_
    refine EThen_exit ?_
    refine EThen_exit ?_
    refine EBlock_same ?_
    refine EThen_n ?_
    refine T_seq ?_
    refine T_region ?_
    refine TL_x ?_
    refine TL_nil ?_
    refine EThen_n ?_
    refine T_ret ?_
    refine Ret_ret ?_
    have hlt : ¬ k < xs.length := by simpa using hc
    have h1 : xs.findIdx? q = none := by
      rw [List.findIdx?_eq_none_iff]
      intro x hx
      obtain ⟨j, hj⟩ := List.getElem?_of_mem hx
      have := (List.getElem?_eq_some_iff.1 hj).1
      exact hn j x (by omega) hj
    rw [h1]

set_option maxHeartbeats 4000000 in
theorem PC_ContainsFunc_int (xs : List Int) (q : Int → Bool) (p : List D → List D → Prop) (hp : ∀ x ∈ xs, p [di x] [db (q x)]) (hl : xs.length ≤ 4611686018427387904) (w : World) (F : Fz)  : PC Tryd.prog 73 w F [.d (.sl 1 none (xs.map di)), .fn p] (· = [db (xs.any q)]) := by
  refine PC_of_T' (rs := [4]) (n := 9) Tryd.func73 rfl rfl rfl rfl ?_
  refine T_seq ?_
  refine T_region ?_
  refine TL_x ?_
  refine TL_nil ?_
  refine EThen_n ?_
  refine T_seq ?_
  refine T_region ?_
  iterate 2 refine TL_x ?_
  refine TL_o rfl rfl rfl (c_call rfl rfl Fk.ok81 (fun w F => PC_IndexFunc_int xs q p hp hl w F)) ?_
  iterate 2 refine TL_x ?_
  refine TL_nil ?_
  refine EThen_n ?_
  refine T_ret ?_
  refine Ret_ret ?_
  have h1 : (decide ((0 : Int) ≤ match xs.findIdx? q with | some i => (i : Int) | none => -1)) = xs.any q := by
    cases h : xs.findIdx? q with
    | none => simp; rw [List.findIdx?_eq_none_iff] at h; intro x hx; simpa using h x hx
    | some i => simp; rw [List.findIdx?_eq_some_iff_getElem] at h; obtain ⟨h1, h2, _⟩ := h; exact ⟨_, List.getElem_mem h1, h2⟩
  exact congrArg (fun b => [db b]) h1

end Go.Proofs
