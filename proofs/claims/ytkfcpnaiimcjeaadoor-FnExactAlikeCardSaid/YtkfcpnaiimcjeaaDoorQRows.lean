/- Rows whose elements have several cells: made, written element by element. No condition. -/
import Derived.Test.YtkfcpnaiimcjeaaDoorQRet
set_option linter.unusedVariables false
set_option linter.unusedSimpArgs false
namespace Go.Q
variable {P : Program} {β : Base}
theorem flat_set {α : Type} {f : α → D} {sz : Nat} (hf : ∀ x, (f x).cells.length = sz) (a : α) : ∀ (xs : List α) (i : Nat), i < xs.length → splice (flat (xs.map f)) (i * sz) (f a).cells = flat ((xs.set i a).map f)
  | [], i, h => by simp at h
  | x :: xs, 0, h => by
    simp only [splice, List.map_cons, flat_cons, List.set_cons_zero, Nat.zero_mul, List.take_zero, List.nil_append, Nat.zero_add, hf]
    rw [List.drop_append, hf, Nat.sub_self, List.drop_of_length_le (by rw [hf]; exact Nat.le_refl _)]; simp
  | x :: xs, i + 1, h => by
    have ih := flat_set hf a xs i (by simpa using h)
    have e : (i + 1) * sz = (f x).cells.length + i * sz := by rw [hf, Nat.succ_mul, Nat.add_comm]
    simp only [List.map_cons, flat_cons, List.set_cons_succ]
    rw [e, ← ih]
    simp only [splice, hf, List.take_append, List.drop_append]
    rw [List.take_of_length_le (by rw [hf]; omega), List.drop_of_length_le (by rw [hf]; omega)]
    rw [show sz + i * sz - sz = i * sz by omega, show sz + i * sz + sz - sz = i * sz + sz by omega]
    simp
theorem s_store_elN {α : Type} {f : α → D} {σ : St} {o : Oper} {t id m k e sz : Nat} {x y : Operand} {xs xs' : List α} {a : α} {i : Nat} {c : AVal} (ho : o.op = .store t x y) (hd : o.dst = none) (hx : aev σ x = .el id m k) (hk : k = i * sz) (hH : σ.H id = .arr true sz e (xs.map f)) (hy : IsA (aev σ y) c) (hv : c.isVal = true) (hc : RdL σ.H c.cells (f a).cells) (ht : SizeT P t sz) (h0 : Nat.blt 0 sz = true) (hf : ∀ x, (f x).cells.length = sz) (hm : m = xs.length) (hi : i < xs.length) (hs : xs.set i a = xs') :
    SStep P β σ o (σ.setH id (.arr true sz e (xs'.map f))) := by
  subst hs; subst hk
  have hfl : (flat (xs.map f)).length = xs.length * sz := by rw [flat_length (sz := sz) (by intro d hd; obtain ⟨z, _, rfl⟩ := List.mem_map.1 hd; exact hf z)]; simp
  refine s_store_el (ds := (f a).cells) ho hd hx hH (by simpa using hm) hy hv ht (lt_of_blt h0) hc (hf a) ?_ (flat_set hf a xs i hi).symm (by simp) ?_
  · rw [hfl, ← Nat.succ_mul]; exact Nat.mul_le_mul_right _ hi
  · intro d hd
    obtain ⟨z, _, rfl⟩ := List.mem_map.1 hd
    exact hf z
theorem s_makeSliceN {α : Type} {f : α → D} {σ : St} {o : Oper} {t e sz by_ id dst : Nat} {x y : Operand} {m : Nat} {zs : List Value} {zx : α} {xs : List α} (ho : o.op = .makeSlice t x y) (hd : o.dst = some dst) (hdn : Nat.blt dst β.n = true) (hx : aev σ x = .d (.s (.int .i64 m))) (hy : aev σ y = .d (.s (.int .i64 m)))
    (ht : ElemT P t e sz by_) (hz : ZeroT P e zs) (h0 : Nat.blt 0 sz = true) (hzd : CDL zs (f zx).cells) (hb : m * by_ ≤ 281474976710656) (hc63 : m ≤ maxLen) (hl : List.replicate m zx = xs) (h1 : NoRefE id σ.env) (h2 : NoRefH id σ.H) :
    SStep P β σ o ((σ.setH id (.arr true sz e (xs.map f))).put dst (.asl id m)) := by
  subst hl
  rw [List.map_replicate]
  exact s_makeSlice (n := 0) ho hd hdn hx hy ht hz h0 hzd (Nat.le_refl _) hb hc63 h1 h2
end Go.Q
