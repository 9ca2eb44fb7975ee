/- The arguments of this seat's laws, opened. No condition. -/
import Derived.Test.YtkfcpnaiimcjeaaQOpen
import Derived.Test.YtkfcpnaiimcjeaaQTy
import Derived.KernelRfl
set_option linter.unusedVariables false
namespace Go.Proofs
open Go.Q
theorem Ty.oInts : Opn Try.prog 31 (fun l : List Int => [dints l]) (fun l => l.length ≤ 140737488355328 ∧ ∀ a ∈ l, -9223372036854775808 ≤ a ∧ a ≤ 9223372036854775807) :=
  opn_slice (enc := fun n : Int => [di n]) (pk := di) Try.underlying31 (opn_int Try.underlying3) (by kernel_rfl) (by decide) (of_decide_eq_true (by kernel_rfl)) (fun _ => rfl) (fun _ => rfl)
theorem Ty.oExp : Opn Try.prog 110 (fun e : Q.Exp => [di e.kind, ds e.text, dints e.kids]) Exp.fit :=
  (opn_struct (fl := [(3, 0, 1), (9, 1, 1), (31, 2, 1)]) Try.underlying110 (by kernel_rfl) rfl (by kernel_rfl) (opnAt_cons (opn_int Try.underlying3) (opnAt_cons (opn_str Try.underlying9) (opnAt_cons Ty.oInts opnAt_nil)))).map
    (fun p => ⟨p.1, p.2.1, p.2.2.1⟩) (fun p => rfl) (fun p h => ⟨h.2.1, h.2.2.1.1⟩)
theorem Ty.oLit : Opn Try.prog 33 (fun e : Q.Lit => [di e.kind, ds e.name, dints e.args]) Lit.fit :=
  (opn_struct (fl := [(3, 0, 1), (9, 1, 1), (31, 2, 1)]) Try.underlying33 (by kernel_rfl) rfl (by kernel_rfl) (opnAt_cons (opn_int Try.underlying3) (opnAt_cons (opn_str Try.underlying9) (opnAt_cons Ty.oInts opnAt_nil)))).map
    (fun p => ⟨p.1, p.2.1, p.2.2.1⟩) (fun p => rfl) (fun p h => ⟨h.2.1, h.2.2.1.1⟩)
theorem Ty.oExps : Opn Try.prog 30 (fun l : List Q.Exp => [dexps l]) (fun l => l.length ≤ 140737488355328 ∧ ∀ a ∈ l, a.fit) :=
  opn_slice (pk := Q.Exp.d) Try.underlying30 Ty.oExp (by kernel_rfl) (by decide) (of_decide_eq_true (by kernel_rfl)) (fun _ => rfl) (fun _ => rfl)
theorem Ty.oLits : Opn Try.prog 34 (fun l : List Q.Lit => [dlits l]) (fun l => l.length ≤ 140737488355328 ∧ ∀ a ∈ l, a.fit) :=
  opn_slice (pk := Q.Lit.d) Try.underlying34 Ty.oLit (by kernel_rfl) (by decide) (of_decide_eq_true (by kernel_rfl)) (fun _ => rfl) (fun _ => rfl)
theorem Ty.oRule : Opn Try.prog 36 Rule.cells Rule.fit :=
  (opn_struct (fl := [(30, 0, 1), (33, 1, 3), (34, 4, 1)]) Try.underlying36 (by kernel_rfl) rfl (by kernel_rfl) (opnAt_cons Ty.oExps (opnAt_cons Ty.oLit (opnAt_cons Ty.oLits opnAt_nil)))).map
    (fun p => (⟨p.1, p.2.1, p.2.2.1⟩ : Rule)) (fun p => rfl) (fun p h => ⟨h.1, h.2.1, h.2.2.1.1, h.2.2.1.2⟩)
end Go.Proofs
