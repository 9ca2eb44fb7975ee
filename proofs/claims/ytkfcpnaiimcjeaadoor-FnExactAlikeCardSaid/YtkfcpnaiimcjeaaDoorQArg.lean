/- The arguments of this seat's laws, opened. No condition. -/
import Derived.Test.YtkfcpnaiimcjeaaDoorQOpen
import Derived.Test.YtkfcpnaiimcjeaaDoorQTy
import Derived.KernelRfl
set_option linter.unusedVariables false
namespace Go.Proofs
open Go.Q
theorem Ty.oInts : Opn Tryd.prog 23 (fun l : List Int => [dints l]) (fun l => l.length ≤ 140737488355328 ∧ ∀ a ∈ l, -9223372036854775808 ≤ a ∧ a ≤ 9223372036854775807) :=
  opn_slice (enc := fun n : Int => [di n]) (pk := di) Tryd.underlying23 (opn_int Tryd.underlying3) (by kernel_rfl) (by decide) (of_decide_eq_true (by kernel_rfl)) (fun _ => rfl) (fun _ => rfl)
theorem Ty.oExp : Opn Tryd.prog 58 (fun e : Q.Exp => [di e.kind, ds e.text, dints e.kids]) Exp.fit :=
  (opn_struct (fl := [(3, 0, 1), (9, 1, 1), (23, 2, 1)]) Tryd.underlying58 (by kernel_rfl) rfl (by kernel_rfl) (opnAt_cons (opn_int Tryd.underlying3) (opnAt_cons (opn_str Tryd.underlying9) (opnAt_cons Ty.oInts opnAt_nil)))).map
    (fun p => ⟨p.1, p.2.1, p.2.2.1⟩) (fun p => rfl) (fun p h => ⟨h.2.1, h.2.2.1.1⟩)
theorem Ty.oLit : Opn Tryd.prog 25 (fun e : Q.Lit => [di e.kind, ds e.name, dints e.args]) Lit.fit :=
  (opn_struct (fl := [(3, 0, 1), (9, 1, 1), (23, 2, 1)]) Tryd.underlying25 (by kernel_rfl) rfl (by kernel_rfl) (opnAt_cons (opn_int Tryd.underlying3) (opnAt_cons (opn_str Tryd.underlying9) (opnAt_cons Ty.oInts opnAt_nil)))).map
    (fun p => ⟨p.1, p.2.1, p.2.2.1⟩) (fun p => rfl) (fun p h => ⟨h.2.1, h.2.2.1.1⟩)
theorem Ty.oExps : Opn Tryd.prog 22 (fun l : List Q.Exp => [dexps l]) (fun l => l.length ≤ 140737488355328 ∧ ∀ a ∈ l, a.fit) :=
  opn_slice (pk := Q.Exp.d) Tryd.underlying22 Ty.oExp (by kernel_rfl) (by decide) (of_decide_eq_true (by kernel_rfl)) (fun _ => rfl) (fun _ => rfl)
theorem Ty.oLits : Opn Tryd.prog 26 (fun l : List Q.Lit => [dlits l]) (fun l => l.length ≤ 140737488355328 ∧ ∀ a ∈ l, a.fit) :=
  opn_slice (pk := Q.Lit.d) Tryd.underlying26 Ty.oLit (by kernel_rfl) (by decide) (of_decide_eq_true (by kernel_rfl)) (fun _ => rfl) (fun _ => rfl)
theorem Ty.oRule : Opn Tryd.prog 28 Rule.cells Rule.fit :=
  (opn_struct (fl := [(22, 0, 1), (25, 1, 3), (26, 4, 1)]) Tryd.underlying28 (by kernel_rfl) rfl (by kernel_rfl) (opnAt_cons Ty.oExps (opnAt_cons Ty.oLit (opnAt_cons Ty.oLits opnAt_nil)))).map
    (fun p => (⟨p.1, p.2.1, p.2.2.1⟩ : Rule)) (fun p => rfl) (fun p h => ⟨h.1, h.2.1, h.2.2.1.1, h.2.2.1.2⟩)
end Go.Proofs
