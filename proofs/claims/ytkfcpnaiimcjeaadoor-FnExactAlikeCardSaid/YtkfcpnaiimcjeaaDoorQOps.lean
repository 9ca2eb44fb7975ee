/- The rules of a program logic over abstract states, second part: operations that yield a value out of their operands. No condition. -/
import Derived.Test.YtkfcpnaiimcjeaaDoorQRules
set_option linter.unusedVariables false
set_option linter.unusedSimpArgs false
namespace Go.Q
open Go.RowKit
variable {P : Program} {β : Base} {H : Nat → Obj} {o : Oper} {ev : Operand → AVal}

/-! ### Types, as a rule asks for them -/
def CellT (P : Program) (t : TypeId) : Prop := ∃ d, P.underlying t = some d ∧ d.isRow = false ∧ (P.info? t).map (·.size) = some 1
def RowT (P : Program) (t : TypeId) (n : Nat) : Prop := ∃ d, P.underlying t = some d ∧ d.isRow = true ∧ (P.info? t).map (·.size) = some n
def SizeT (P : Program) (t : TypeId) (n : Nat) : Prop := (P.info? t).map (·.size) = some n
def FieldT (P : Program) (s f off n : Nat) : Prop := ∃ fs fl, P.underlying s = some (.struct fs) ∧ fs[f]? = some fl ∧ fl.offset = off ∧ SizeT P fl.type n ∧ 0 < n
def SliceT (P : Program) (t e n : Nat) : Prop := P.underlying t = some (.slice e) ∧ SizeT P e n
def ZeroT (P : Program) (t : TypeId) (cs : List Value) : Prop := ∃ z, (P.info? t).bind (·.zero) = some z ∧ z.cells = cs.toArray ∧ SizeT P t cs.length

theorem run_sizeOf {t n : Nat} (h : SizeT P t n) (w : World) : (sizeOf t).run P w = .ok n w := by
  unfold SizeT at h
  cases hq : P.info? t with
  | none => simp [hq] at h
  | some i => simp [hq] at h; simp [sizeOf, typeInfo, hq, h]

theorem run_zeroValue {t : Nat} {z : Value} (h : (P.info? t).bind (·.zero) = some z) (w : World) : (zeroValue t).run P w = .ok z w := by
  cases hq : P.info? t with
  | none => simp [hq] at h
  | some i => simp [hq] at h; simp [zeroValue, typeInfo, hq, h]

theorem run_isAgg {t : Nat} {d : TypeDesc} (h : P.underlying t = some d) (w : World) : (isAgg t).run P w = .ok d.isRow w := by
  unfold isAgg
  rw [Sem.run_bind, run_underlying h w]
  cases d <;> rfl

/-! ### Reading back what a value must be -/
theorem VR.s_inv {F : Fz} {w : World} {v x : Value} (h : VR F w (.s v) x) : x = v := by cases h; rfl
theorem AVR.s_inv {F : Fz} {ρ : Gh} {w : World} {v x : Value} (h : AVR P β F ρ H w (.d (.s v)) x) : x = v := by cases h with | d _ _ h => exact h.s_inv

theorem GStep.val {c : AVal} (h : ∀ F ρ w, RelH P β F ρ H w → ∀ evc : Operand → Value, (∀ x ∈ o.op.operands, AVR P β F ρ H w (ev x) (evc x)) →
    ∃ v, (execOp evc o).run P w = .ok (.value v) w ∧ AVR P β F ρ H w c v) : GStep P β H o ev c := by
  intro F ρ w hr evc he K hK
  obtain ⟨v, h1, h2⟩ := h F ρ w hr evc he
  unfold goes
  rw [h1]
  exact hK v w F (Kept.refl _ _ _) hr.wf h2

/-! ### Copies, choices -/
theorem g_move {x : Operand} (ho : o.op = .move x) : GStep P β H o ev (ev x) :=
  .val fun F ρ w hr evc he => ⟨evc x, by simp only [execOp, ho]; rfl, he x (by simp [ho, Op.operands])⟩
theorem g_assign {x : Operand} (ho : o.op = .assign x) : GStep P β H o ev (ev x) :=
  .val fun F ρ w hr evc he => ⟨evc x, by simp only [execOp, ho]; rfl, he x (by simp [ho, Op.operands])⟩
theorem g_pick {c x y : Operand} {b : Bool} {r : AVal} (ho : o.op = .pick c x y) (hc : ev c = .d (.s (.bool b))) (hr' : (if b = true then ev x else ev y) = r) : GStep P β H o ev r := by
  subst hr'
  refine .val fun F ρ w hr evc he => ?_
  have h1 := he c (by simp [ho, Op.operands])
  rw [hc] at h1
  have h1 := h1.s_inv
  refine ⟨if b = true then evc x else evc y, ?_, ?_⟩
  · simp only [execOp, ho, h1]
    cases b <;> rfl
  · cases b
    · exact he y (by simp [ho, Op.operands])
    · exact he x (by simp [ho, Op.operands])

theorem g_not {t : TypeId} {x : Operand} {b : Bool} (ho : o.op = .unOp .not t x) (hx : ev x = .d (.s (.bool b))) : GStep P β H o ev (.d (.s (.bool (!b)))) := by
  refine .val fun F ρ w hr evc he => ⟨.bool (!b), ?_, .d _ _ (.s _ rfl)⟩
  have h1 := he x (by simp [ho, Op.operands])
  rw [hx] at h1
  simp only [execOp, ho, h1.s_inv]
  rfl
theorem g_neg {t : TypeId} {x : Operand} {k : IntKind} {n : Int} (ho : o.op = .unOp .neg t x) (hx : ev x = .d (.s (.int k n))) {c : Int} (hc : k.wrap (-n) = c) : GStep P β H o ev (.d (.s (.int k c))) := by
  refine .val fun F ρ w hr evc he => ⟨.int k c, ?_, .d _ _ (.s _ rfl)⟩
  have h1 := he x (by simp [ho, Op.operands])
  rw [hx] at h1
  simp [execOp, ho, h1.s_inv, ← hc, Op.unary, Op.intArith]

theorem g_nilCheck_box {x : Operand} {id off : Nat} (ho : o.op = .nilCheck x) (hx : ev x = .box id off) : GStep P β H o ev (.box id off) := by
  refine .val fun F ρ w hr evc he => ?_
  have h1 := he x (by simp [ho, Op.operands])
  rw [hx] at h1
  refine ⟨evc x, ?_, h1⟩
  generalize hv : evc x = v at h1
  cases h1
  simp only [execOp, ho, hv]
  rfl
theorem g_nilCheck_pt {x : Operand} {l : List D} {off : Nat} (ho : o.op = .nilCheck x) (hx : ev x = .d (.pt l off)) : GStep P β H o ev (.d (.pt l off)) := by
  refine .val fun F ρ w hr evc he => ?_
  have h1 := he x (by simp [ho, Op.operands])
  rw [hx] at h1
  refine ⟨evc x, ?_, h1⟩
  generalize hv : evc x = v at h1
  cases h1 with
  | d _ _ h1 =>
    cases h1
    simp only [execOp, ho, hv]
    rfl
/-! ### Numbers, strings, truth values -/
theorem run_eqGuard_s {op : BinOp} {t : TypeId} {x y : Operand} {a b : Value} (w : World) (ha : a.oneCell' = true) (hi : a ≠ .nilIface) : (eqGuard op t x y a b).run P w = .ok () w := by
  cases a <;> cases op <;> first | rfl | exact absurd rfl hi | cases ha

theorem g_bin {op : BinOp} {t t' : TypeId} {x y : Operand} {a b r : Value} (ho : o.op = .binOp op t x y t') (hx : ev x = .d (.s a)) (hy : ev y = .d (.s b))
    (ha : a.oneCell' = true) (hi : a ≠ .nilIface) (hr1 : r.oneCell' = true) (hb : ∀ w, (binOp op t a b).run P w = .ok r w) : GStep P β H o ev (.d (.s r)) := by
  refine .val fun F ρ w hr evc he => ⟨r, ?_, .d _ _ (.s _ hr1)⟩
  have h1 := he x (by simp [ho, Op.operands])
  have h2 := he y (by simp [ho, Op.operands])
  rw [hx] at h1
  rw [hy] at h2
  simp only [execOp, ho, h1.s_inv, h2.s_inv, Sem.run_bind, run_eqGuard_s w ha hi, Result.andThen_ok, hb, Sem.run_pure]

theorem g_add {t t' : TypeId} {x y : Operand} {k : IntKind} {a b c : Int} (ho : o.op = .binOp .add t x y t') (hx : ev x = .d (.s (.int k a))) (hy : ev y = .d (.s (.int k b))) (hc : k.wrap (a + b) = c) : GStep P β H o ev (.d (.s (.int k c))) :=
  g_bin ho hx hy rfl (by simp) rfl fun w => by simp [binOp, Op.intArith, ← hc]
theorem g_sub {t t' : TypeId} {x y : Operand} {k : IntKind} {a b c : Int} (ho : o.op = .binOp .sub t x y t') (hx : ev x = .d (.s (.int k a))) (hy : ev y = .d (.s (.int k b))) (hc : k.wrap (a - b) = c) : GStep P β H o ev (.d (.s (.int k c))) :=
  g_bin ho hx hy rfl (by simp) rfl fun w => by simp [binOp, Op.intArith, ← hc]
theorem g_mul {t t' : TypeId} {x y : Operand} {k : IntKind} {a b c : Int} (ho : o.op = .binOp .mul t x y t') (hx : ev x = .d (.s (.int k a))) (hy : ev y = .d (.s (.int k b))) (hc : k.wrap (a * b) = c) : GStep P β H o ev (.d (.s (.int k c))) :=
  g_bin ho hx hy rfl (by simp) rfl fun w => by simp [binOp, Op.intArith, ← hc]
theorem g_quo {t t' : TypeId} {x y : Operand} {k : IntKind} {a b c : Int} (ho : o.op = .binOp .quo t x y t') (hx : ev x = .d (.s (.int k a))) (hy : ev y = .d (.s (.int k b))) (h0 : b ≠ 0) (hc : k.wrap (a.tdiv b) = c) : GStep P β H o ev (.d (.s (.int k c))) :=
  g_bin ho hx hy rfl (by simp) rfl fun w => by simp [binOp, Op.intDiv, h0, ← hc]
theorem g_rem {t t' : TypeId} {x y : Operand} {k : IntKind} {a b c : Int} (ho : o.op = .binOp .rem t x y t') (hx : ev x = .d (.s (.int k a))) (hy : ev y = .d (.s (.int k b))) (h0 : b ≠ 0) (hc : a.tmod b = c) : GStep P β H o ev (.d (.s (.int k c))) :=
  g_bin ho hx hy rfl (by simp) rfl fun w => by simp [binOp, Op.intDiv, h0, ← hc]

def icmp : BinOp → Int → Int → Option Bool
  | .lss, a, b => some (decide (a < b))
  | .leq, a, b => some (decide (a ≤ b))
  | .gtr, a, b => some (decide (b < a))
  | .geq, a, b => some (decide (b ≤ a))
  | .eql, a, b => some (decide (a = b))
  | .neq, a, b => some (!decide (a = b))
  | _, _, _ => none
theorem g_icmp {op : BinOp} {t t' : TypeId} {x y : Operand} {k : IntKind} {a b : Int} {r : Bool} (ho : o.op = .binOp op t x y t') (hx : ev x = .d (.s (.int k a))) (hy : ev y = .d (.s (.int k b))) (hc : icmp op a b = some r) : GStep P β H o ev (.d (.s (.bool r))) :=
  g_bin ho hx hy rfl (by simp) rfl fun w => by
    cases op <;> simp only [icmp, Option.some.injEq, reduceCtorEq] at hc <;> subst hc <;> (simp [binOp, Op.intCmp]; try (rw [Bool.eq_iff_iff]; simp))

/-- A string, by its bytes. -/
def str (l : List UInt8) : Value := .string ⟨l.toArray⟩
theorem toList_mk (l : List UInt8) : (⟨l.toArray⟩ : ByteArray).toList = l := by simp
theorem g_sadd {t t' : TypeId} {x y : Operand} {a b : List UInt8} (ho : o.op = .binOp .add t x y t') (hx : ev x = .d (.s (str a))) (hy : ev y = .d (.s (str b))) (hb : a.length + b.length ≤ 9223372036854775807) : GStep P β H o ev (.d (.s (str (a ++ b)))) :=
  g_bin ho hx hy rfl (by simp [str]) rfl fun w => by
    have h2 : ¬ (9223372036854775807 : Int) < ((a.length + b.length : Nat) : Int) := by omega
    have h3 : (⟨a.toArray⟩ : ByteArray) ++ ⟨b.toArray⟩ = ⟨(a ++ b).toArray⟩ := by
      apply ByteArray.ext
      simp
    have h4 : IntKind.i64.max = 9223372036854775807 := by decide
    have h5 : ∀ l : List UInt8, (⟨l.toArray⟩ : ByteArray).size = l.length := fun l => by simp [ByteArray.size]
    simp only [binOp, Op.stringOp, str, h5, h4, h3]
    rw [if_neg h2]
    rfl
def scmp : BinOp → List UInt8 → List UInt8 → Option Bool
  | .eql, a, b => some (a == b)
  | .neq, a, b => some (!(a == b))
  | .lss, a, b => some (Op.bytesLess a b)
  | .gtr, a, b => some (!(Op.bytesLess a b || a == b))
  | .leq, a, b => some (Op.bytesLess a b || a == b)
  | .geq, a, b => some (!(Op.bytesLess a b))
  | _, _, _ => none
theorem g_scmp {op : BinOp} {t t' : TypeId} {x y : Operand} {a b : List UInt8} {r : Bool} (ho : o.op = .binOp op t x y t') (hx : ev x = .d (.s (str a))) (hy : ev y = .d (.s (str b))) (hc : scmp op a b = some r) : GStep P β H o ev (.d (.s (.bool r))) :=
  g_bin ho hx hy rfl (by simp [str]) rfl fun w => by
    cases op <;> simp only [scmp, Option.some.injEq, reduceCtorEq] at hc <;> subst hc <;> simp [binOp, Op.stringOp, str]

end Go.Q
