/- Slices of strings. No condition. -/
import Derived.Test.YtkfcpnaiimcjeaaQDrawE
set_option linter.unusedVariables false
set_option linter.unusedSimpArgs false
namespace Go.Q
open Go.RowKit
variable {P : Program} {β : Base} {H : Nat → Obj} {o : Oper} {ev : Operand → AVal}
inductive BndV (ev : Operand → AVal) : Option Operand → Nat → Nat → Prop
  | none (d : Nat) : BndV ev none d d
  | some (d : Nat) {x : Operand} {k : IntKind} {i : Int} (hx : ev x = .d (.s (.int k i))) (h0 : 0 ≤ i) : BndV ev (some x) d i.toNat
theorem bytes_extract (s : List UInt8) (l h : Nat) (hl : l ≤ h) : (⟨s.toArray⟩ : ByteArray).extract l h = ⟨((s.drop l).take (h - l)).toArray⟩ := by
  apply ByteArray.ext
  rw [ByteArray.data_extract]
  simp [List.extract_eq_take_drop]
theorem g_sslice {t : Nat} {x : Operand} {lo hi : Option Operand} {s : List UInt8} {l h : Nat} (ho : o.op = .slice t x lo hi none) (hx : ev x = .d (.s (str s))) (ht : P.underlying t = some .string) (h1 : BndV ev hi s.length h) (h2 : BndV ev lo 0 l) (hle : l ≤ h) (hh : h ≤ s.length) : GStep P β H o ev (.d (.s (str ((s.drop l).take (h - l))))) := by
  refine .val fun F ρ w hr evc he => ⟨str ((s.drop l).take (h - l)), ?_, .d _ _ (.s _ rfl)⟩
  have e1 := he x (by simp [ho, Op.operands])
  rw [hx] at e1
  have hsz : (⟨s.toArray⟩ : ByteArray).size = s.length := by simp [ByteArray.size]
  have key : (Instr.slice t (str s) (lo.map evc) (hi.map evc) none).run P w = .ok (str ((s.drop l).take (h - l))) w := by
    have hfin : (Value.string ((⟨s.toArray⟩ : ByteArray).extract l h)) = str ((s.drop l).take (h - l)) := by rw [bytes_extract s l h hle]; rfl
    rw [← hfin]
    cases h1 with
    | none =>
      cases h2 with
      | none =>
        simp only [Instr.slice, str, Instr.sliceBounds, Sem.run_bind, Sem.run_pure, Result.andThen_ok, run_underlying ht, Option.map_none, Option.isSome_none, hsz]
        rfl
      | some _ hy h0 =>
        rename_i y k i
        have e2 := he y (by simp [ho, Op.operands])
        rw [hy] at e2
        have hb : 0 ≤ i ∧ i ≤ (s.length : Int) := by omega
        simp only [Instr.slice, str, Instr.sliceBounds, Sem.run_bind, Sem.run_pure, Result.andThen_ok, run_underlying ht, Option.map_none, Option.map_some, Option.isSome_none, hsz, e2.s_inv, Instr.sliceBound, asIntOf, hb, and_self, if_true]
        simp [hb]
    | some _ hz h9 =>
      rename_i z k' j
      have e3 := he z (by simp [ho, Op.operands])
      rw [hz] at e3
      have hb' : 0 ≤ j ∧ j ≤ (s.length : Int) := by omega
      cases h2 with
      | none =>
        simp only [Instr.slice, str, Instr.sliceBounds, Sem.run_bind, Sem.run_pure, Result.andThen_ok, run_underlying ht, Option.map_none, Option.map_some, Option.isSome_none, hsz, e3.s_inv, Instr.sliceBound, asIntOf, hb', and_self, if_true]
        simp [hb']
      | some _ hy h0 =>
        rename_i y k i
        have e2 := he y (by simp [ho, Op.operands])
        rw [hy] at e2
        have hb : 0 ≤ i ∧ i ≤ (j.toNat : Int) := by omega
        simp only [Instr.slice, str, Instr.sliceBounds, Sem.run_bind, Sem.run_pure, Result.andThen_ok, run_underlying ht, Option.map_none, Option.map_some, Option.isSome_none, hsz, e2.s_inv, e3.s_inv, Instr.sliceBound, asIntOf, hb, hb', and_self, if_true]
        simp [hb, hb']
        intro h; omega
  have key2 : (Instr.sliceAt t (str s) (lo.map evc) (hi.map evc) none).run P w = .ok (str ((s.drop l).take (h - l))) w := by
    rw [← key]; simp only [Instr.sliceAt, str, Sem.run_bind, run_underlying ht, Result.andThen_ok]
  simp only [execOp, ho, e1.s_inv, Option.map_none, key2, Sem.run_bind, Sem.run_pure, Result.andThen_ok]
theorem g_sslice_eq {t : Nat} {x : Operand} {lo hi : Option Operand} {s r : List UInt8} {l h : Nat} (ho : o.op = .slice t x lo hi none) (hx : ev x = .d (.s (str s))) (ht : P.underlying t = some .string) (h1 : BndV ev hi s.length h) (h2 : BndV ev lo 0 l) (hle : l ≤ h) (hh : h ≤ s.length) (hr : (s.drop l).take (h - l) = r) : GStep P β H o ev (.d (.s (str r))) := hr ▸ g_sslice ho hx ht h1 h2 hle hh
end Go.Q
