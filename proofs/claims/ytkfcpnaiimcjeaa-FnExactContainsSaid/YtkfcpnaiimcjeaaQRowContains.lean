/- The row of the law FnExactContains: for every input the call returns true, and the input reads afterwards as it read before. No condition. -/
import Derived.Test.YtkfcpnaiimcjeaaRows
import Derived.Test.YtkfcpnaiimcjeaaQArg
import Derived.Test.YtkfcpnaiimcjeaaQFK
set_option linter.unusedVariables false
namespace Go.Proofs.Ytkfcpnaiimcjeaa.fnExactContains
open Go.ChangeShapes Go.WideShapes Go.ChangeAt Go.RowKit Go.Q
theorem own : ownKnob Try.prog.godebug = none := by kernel_rfl
theorem laidOut : laidOutB Try.prog = true := by kernel_rfl
set_option maxRecDepth 100000 in
theorem lifted (os : Os) (started : os.Started) (H : Type) (enc : TypeId × Value → H) :
    ReturnsInHanded {} Try.checked os 5 .any (Rows.fnExactContainsSpec.pre6 enc Try.prog Try.f5 Rows.fnExactContainsRow.domain false) (Rows.fnExactContainsSpec.post enc Try.prog Try.f5 false true false false) := by
  refine returnsInHanded_of_change_sized (C := Try.checked) own started (by kernel_rfl) Try.func5
    (ChangeSpec.witness6 (enc := enc) (C := Try.checked) false ⟨#[], #[.agg #[.slice none 0 0, .int .i64 0, .string ByteArray.empty, .slice none 0 0, .slice none 0 0], .agg #[.slice none 0 0, .int .i64 0, .string ByteArray.empty, .slice none 0 0, .slice none 0 0]], []⟩ 8 (by kernel_rfl) (by kernel_rfl) (by kernel_rfl) (by kernel_rfl)) ?_
  intro W base args ds gs before hval0 hW hcnd hsz0 _
  have hsz : (DataW.weightsEach Try.prog (Try.f5.params.toList ++ Rows.fnExactContainsSpec.plain.varTypes Try.prog) (ds ++ gs)).all (· ≤ reachBytes) = true := hsz0
  have hval : ∀ (j : Nat) t v, Try.f5.params[j]? = some t → args[j]? = some v → Value.okWide Try.prog W .any base t v := hval0
  have hW' := hW
  obtain ⟨p, q, hA0, hV, rfl, hfz, hnd⟩ := hW
  have hA : DataW.TrodAll enc Try.prog W 0 (fun _ => true) true Try.f5.params.toList args.toList ds p := hA0
  rw [Try.params5] at hA hval hsz
  obtain ⟨v0, vs0, d0, ds0, p0, q0, hargs, rfl, rfl, h0, r0⟩ := trodAll_cons hA
  obtain ⟨v1, vs1, d1, ds1, p1, q1, rfl, rfl, rfl, h1, r1⟩ := trodAll_cons r0
  obtain ⟨rfl, rfl, rfl⟩ := trodAll_nil r1
  obtain rfl : args = #[v0, v1] := by cases args; simp_all
  obtain ⟨rfl, rfl⟩ := trodVars_none hV
  have w0 := weightsEach_get hsz 0 36 d0 rfl rfl
  obtain ⟨a0, f0, e0⟩ := Ty.oRule.arg Try.underlying36 (hval 0 36 v0 rfl rfl) h0 w0
  have lt0 : ∀ x ∈ p0, x.block < W.heap.size := by obtain ⟨m, hm⟩ := h0; exact DataW.trod_lt m _ _ _ hm
  have w1 := weightsEach_get hsz 1 36 d1 rfl rfl
  obtain ⟨a1, f1, e1⟩ := Ty.oRule.arg Try.underlying36 (hval 1 36 v1 rfl rfl) h1 w1
  have lt1 : ∀ x ∈ p1, x.block < W.heap.size := by obtain ⟨m, hm⟩ := h1; exact DataW.trod_lt m _ _ _ hm
  have hc := PC_FnExactContains a0 a1 f0 f1 W (allF W) (allF_wf W) [v0, v1] rfl (by
    intro i c v h1 h2
    match i with
    | 0 => simp at h1 h2; subst h1; subst h2; exact e0
    | 1 => simp at h1 h2; subst h1; subst h2; exact e1
    | i + 2 => simp at h1)
  refine (show Calls Try.prog 5 #[v0, v1] W _ from hc).mono fun e W' he => ?_
  obtain ⟨v, F', ds', rfl, rfl, hk, _, hres⟩ := he
  have bel := hk.below
  obtain rfl : v = .bool true := by cases hres; rfl
  exact ⟨_, rfl, _, _, _, [], _, [], hW', trodAll_mk1 (shut_bool Try.underlying4 _), (trodAll_cons_mk (Below.trod laidOut (by kernel_rfl) (of_decide_eq_true (by kernel_rfl)) h0 bel lt0) (trodAll_cons_mk (Below.trod laidOut (by kernel_rfl) (of_decide_eq_true (by kernel_rfl)) h1 bel lt1) trodAll_mk0)), rfl, bel.frame _, fun h => by cases h⟩
theorem over : Rows.fnExactContainsRow.holds Try.pinned (OpenSpec.ofChange Rows.fnExactContainsSpec) :=
  OpenClaim.holds_of_wide 5 Try.f5 rfl rfl rfl rfl rfl rfl rfl ⟨rfl, rfl, rfl, rfl, rfl⟩ rfl rfl rfl rfl rfl (by kernel_rfl) Try.func5 (by kernel_rfl)
    (of_decide_eq_true (by kernel_rfl)) (by unfold Func.isWrapper; first | (rw [if_pos (by decide +kernel)]; kernel_rfl) | (rw [if_neg (by decide +kernel)]; exact ⟨rfl, rfl⟩))
    (fun os started H enc _ => lifted os started H enc)
theorem proved : Rows.FnExactContainsSaid := over
end Go.Proofs.Ytkfcpnaiimcjeaa.fnExactContains
namespace Go.Proofs.Ytkfcpnaiimcjeaa
/-- The law's statement, under a short name, for the claim. -/
theorem fnExactContains_holds : Rows.FnExactContainsSaid := fnExactContains.proved
end Go.Proofs.Ytkfcpnaiimcjeaa
#print axioms Go.Proofs.Ytkfcpnaiimcjeaa.fnExactContains_holds
