/- maps.Clone at this program: a map of its own with the same entries. No condition. -/
import Derived.Test.YtkfcpnaiimcjeaaQTy
import Derived.WalkKit
import Derived.WalkSpells
import Derived.Laws.Externs
set_option linter.unusedVariables false
namespace Go.Proofs
open Go.RowKit Go.Q
theorem map_nil (w : World) (b : Nat) : (binOp .eql 126 (.map (some b)) (.map none)).run Try.prog w = .ok (.bool false) w := by
  have h1 : ∀ n, (Op.equalIn (n + 1) 126 (.map (some b)) (.map none)).run Try.prog w = .ok false w := by
    intro n
    simp [Op.equalIn, run_underlying Try.underlying126]
  have h2 : (Op.equal 126 (.map (some b)) (.map none)).run Try.prog w = .ok false w := h1 9999
  simp only [binOp, Sem.run_bind, h2, Result.andThen_ok, Sem.run_pure]
theorem map_iface (w : World) (v : Value) : (Instr.makeInterface 126 v).run Try.prog w = .ok (.iface 126 v) w := by
  simp [Instr.makeInterface, run_underlying Try.underlying126]
theorem map_assert (w : World) (v : Value) : (Instr.typeAssert (.iface 126 v) 20 126 false).run Try.prog w = .ok v w := by
  simp [Instr.typeAssert, run_underlying Try.underlying126]
theorem map_clone (w : World) (b : Nat) (es : Array MapEntry) (c : Nat) (hb : w.heap[b]? = some (.map es c)) : (callFunc 101 #[.iface 126 (.map (some b))]).run Try.prog w = .ok (.value (.iface 126 (.map (some w.heap.size)))) (w.alloc (.map es c)) := by
  rw [run_callFunc_extern (e := Extern.MapsClone.clone) Try.func101 (by kernel_rfl) (by kernel_rfl) (by kernel_rfl) (by kernel_rfl)]
  have : (Extern.MapsClone.clone #[.iface 126 (.map (some b))]).run Try.prog w = .ok (.iface 126 (.map (some w.heap.size))) (w.alloc (.map es c)) := by
    have e : Extern.MapsClone.clone #[.iface 126 (.map (some b))] = (getObj b >>= fun o => match o with
      | .map entries clock => (newObj (.map entries clock) >>= fun r => pure (Value.iface 126 (.map (some r))))
      | _ => stuck "maps.clone: a map expected") := rfl
    rw [e]
    simp [getObj, newObj, Sem.run, hb]
  rw [this]; rfl
set_option maxRecDepth 100000 in
set_option maxHeartbeats 4000000 in
theorem clone_calls (w : World) (b : Nat) (es : Array MapEntry) (c : Nat) (hb : w.heap[b]? = some (.map es c)) : Calls Try.prog 84 #[.map (some b)] w fun e w' => e = .returned (.map (some w.heap.size)) ∧ w' = w.alloc (.map es c) := by
  have h1 := map_nil
  have h2 := map_iface
  have h3 := map_assert
  have h4 := map_clone w b es c hb
  go_enter Try.func84, Try.ntmps84
  go_wp2
  go_ret
  exact ⟨rfl, rfl⟩
end Go.Proofs
