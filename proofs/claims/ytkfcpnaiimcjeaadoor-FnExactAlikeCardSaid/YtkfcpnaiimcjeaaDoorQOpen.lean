/- The arguments of a law, read as data, read as plain Lean data in a part of memory that stays: all of it. No condition. -/
import Derived.Test.YtkfcpnaiimcjeaaDoorQLaws
import Derived.WalkKit
import Derived.ProofKit
import Derived.OpenShut
import Derived.ShutString
import Derived.ChangeOld
import Derived.Below
import Derived.SizedLaws
import Derived.Carry
set_option linter.unusedVariables false
set_option linter.unusedSimpArgs false
namespace Go.Q
open Go.RowKit
variable {P : Program}

/-- All memory that is there stays. -/
def allF (W : World) : Fz := fun b => match W.heap[b]? with
  | some (.cells vs _ _) => vs.size
  | some _ => 1
  | none => 0
theorem allF_wf (W : World) : WF (allF W) W := by
  intro b hb
  unfold allF
  rw [Array.getElem?_eq_none hb]
theorem allF_cell {W : World} {b o : Nat} {v : Value} (h : W.cell? ⟨b, o, none⟩ = some v) : o + 1 ≤ allF W b := by
  unfold World.cell? at h
  unfold allF
  split at h
  · rename_i c _ _ hc
    rw [hc]
    simp at h
    have := (Array.getElem?_eq_some_iff.1 h).1
    exact this
  · cases h
theorem allF_range {W : World} {b o : Nat} {cs : List Value} (h : W.rangeAt b o cs) (hne : cs ≠ []) : o + cs.length ≤ allF W b := by
  have hl := List.length_pos_iff.2 hne
  have := allF_cell (h (cs.length - 1) _ (List.getElem?_eq_getElem (by omega)))
  omega

/-- What a type's data open as. -/
def Opn (P : Program) (t : TypeId) {α : Type} (enc : α → List D) (fit : α → Prop) : Prop :=
  ∀ (H : Type) (en : TypeId × Value → H) (W : World) (fuel : Nat) (cs : List Value) (x : DataW H × List MemPlace), DataW.trod en P W 0 (fun _ => true) true fuel t cs = some x → (x.1.weights P t).all (· ≤ reachBytes) = true →
    ∃ a : α, fit a ∧ (enc a).length = cs.length ∧ (∀ d ∈ enc a, d.isCell = true) ∧ ∀ (i : Nat) (d : D) (v : Value), (enc a)[i]? = some d → cs[i]? = some v → VR (allF W) W d v

theorem opn_int {t : TypeId} (ht : P.underlying t = some (.int .i64)) : Opn P t (fun n : Int => [di n]) (fun n => -9223372036854775808 ≤ n ∧ n ≤ 9223372036854775807) := by
  intro H en W fuel cs x h hw
  obtain ⟨n, rfl, rfl, hwf⟩ := DataW.trod_int ht h
  refine ⟨n, ?_, rfl, by simp [D.isCell], fun i d v hd hv => ?_⟩
  · simp only [Lit.wf, Bool.and_eq_true, decide_eq_true_eq] at hwf
    have e1 : IntKind.i64.min = -9223372036854775808 := by decide
    have e2 : IntKind.i64.max = 9223372036854775807 := by decide
    rw [e1, e2] at hwf
    exact hwf
  · match i with
    | 0 => simp at hd hv; subst hd; subst hv; exact .s _ rfl
    | i + 1 => simp at hd
theorem opn_bool {t : TypeId} (ht : P.underlying t = some .bool) : Opn P t (fun b : Bool => [db b]) (fun _ => True) := by
  intro H en W fuel cs x h hw
  obtain ⟨n, rfl, rfl⟩ := DataW.trod_bool ht h
  refine ⟨n, trivial, rfl, by simp [D.isCell], fun i d v hd hv => ?_⟩
  match i with
  | 0 => simp at hd hv; subst hd; subst hv; exact .s _ rfl
  | i + 1 => simp at hd
theorem opn_str {t : TypeId} (ht : P.underlying t = some .string) : Opn P t (fun b : Bs => [Q.ds b]) (fun b => b.length ≤ 140737488355328) := by
  intro H en W fuel cs x h hw
  obtain ⟨n, rfl, rfl, hl⟩ := DataW.trod_string ht h
  refine ⟨n.data.toList, ?_, rfl, by simp [D.isCell], fun i d v hd hv => ?_⟩
  · have h1 : n.data.toList.length ≤ reachBytes := by simpa [DataW.weights] using hw
    unfold reachBytes at h1
    exact Nat.le_trans h1 (by decide)
  · match i with
    | 0 =>
      simp at hd hv; subst hd; subst hv
      have : Value.string n = str n.data.toList := by simp [str]
      rw [this]
      exact .s _ rfl
    | i + 1 => simp at hd
theorem Opn.map {t : TypeId} {α γ : Type} {enc : α → List D} {fit : α → Prop} (h : Opn P t enc fit) (g : α → γ) {enc' : γ → List D} {fit' : γ → Prop} (he : ∀ a, enc' (g a) = enc a) (hf : ∀ a, fit a → fit' (g a)) : Opn P t enc' fit' := by
  intro H en W fuel cs x h1 h2
  obtain ⟨a, h3, h4, h5, h6⟩ := h H en W fuel cs x h1 h2
  exact ⟨g a, hf a h3, by rw [he]; exact h4, by rw [he]; exact h5, by rw [he]; exact h6⟩

theorem weightsAll_mem {H : Type} {P : Program} {e : TypeId} : ∀ {l : List (DataW H)}, (DataW.weightsAll P e l).all (· ≤ reachBytes) = true → ∀ d ∈ l, (d.weights P e).all (· ≤ reachBytes) = true
  | x :: l, h, d, hd => by
    simp only [DataW.weightsAll, List.all_append, Bool.and_eq_true] at h
    rcases List.mem_cons.1 hd with rfl | hd
    · exact h.1
    · exact weightsAll_mem h.2 d hd

theorem opn_slice {t e sz : Nat} {α : Type} {enc : α → List D} {fit : α → Prop} {pk : α → D} (ht : P.underlying t = some (.slice e)) (he : Opn P e enc fit) (hsz : P.cellsOf e = sz) (h0 : 0 < sz) (hb : 1 ≤ P.bytesOf e) (hl : ∀ a, (enc a).length = sz) (hpk : ∀ a, (pk a).cells = enc a) :
    Opn P t (fun l : List α => [.sl sz none (l.map pk)]) (fun l => l.length ≤ 140737488355328 ∧ ∀ a ∈ l, fit a) := by
  intro H en W fuel cs x h hw
  rcases DataW.trod_slice ht h with ⟨rfl, rfl⟩ | ⟨a, len, cap, elems, rest, n, _, rfl, rfl, hba, hlc, hcm, hlen, hel, _, _⟩
  · refine ⟨[], ⟨by simp, by simp⟩, rfl, by simp [D.isCell], fun i d v hd hv => ?_⟩
    match i with
    | 0 => simp at hd hv; subst hd; subst hv; exact .sl0 sz none none 0 (Nat.zero_le _)
    | i + 1 => simp at hd
  · have hwl : (elems.length + rest.length) * P.bytesOf e ≤ reachBytes ∧ (DataW.weightsAll P e (elems.map (·.1))).all (· ≤ reachBytes) = true := by
      simp only [DataW.weights, ht, List.all_cons, List.all_append, Bool.and_eq_true, decide_eq_true_eq, List.length_map] at hw
      exact ⟨hw.1, hw.2.1⟩
    have hlen47 : elems.length ≤ 140737488355328 := by
      have h1 : elems.length + rest.length ≤ (elems.length + rest.length) * P.bytesOf e := Nat.le_mul_of_pos_right _ hb
      have h2 := hwl.1
      simp only [reachBytes] at h2
      omega
    rw [hsz] at hel
    have hch : ∀ i, i < len → ∃ (q : α) (cs' : List Value), fit q ∧ W.cells? 0 (a.add (i * sz)) sz = some cs' ∧ cs'.length = sz ∧ (∀ d ∈ enc q, d.isCell = true) ∧ ∀ (j : Nat) (d : D) (v : Value), (enc q)[j]? = some d → cs'[j]? = some v → VR (allF W) W d v := by
      intro i hi
      have h1 := hel i hi
      have hie : elems[i]? = some (elems[i]'(by omega)) := List.getElem?_eq_getElem (by omega)
      rw [hie, Option.bind_eq_some_iff] at h1
      obtain ⟨cs', h2, h3⟩ := h1
      obtain ⟨q, q1, q2, q3, q4⟩ := he H en W n cs' _ h3 (weightsAll_mem hwl.2 _ (List.mem_map_of_mem (List.getElem_mem _)))
      exact ⟨q, cs', q1, h2, by rw [← q2, hl], q3, q4⟩
    have key : ∀ m, m ≤ len → ∃ (qs : List α) (vs : List Value), qs.length = m ∧ vs.length = m * sz ∧ (∀ q ∈ qs, fit q) ∧ (∀ d ∈ flat (qs.map pk), d.isCell = true) ∧ (∀ j v, vs[j]? = some v → W.cell? (a.add j) = some v) ∧
        ∀ (j : Nat) (d : D) (v : Value), (flat (qs.map pk))[j]? = some d → vs[j]? = some v → VR (allF W) W d v := by
      intro m
      induction m with
      | zero => intro _; exact ⟨[], [], rfl, by simp, by simp, by simp [flat], by simp, by simp [flat]⟩
      | succ m ih =>
        intro hm
        obtain ⟨qs, vs, k1, k2, k3, k4, k5, k6⟩ := ih (by omega)
        obtain ⟨q, cs', q1, q2, q3, q4, q5⟩ := hch m (by omega)
        have hfl : (flat (qs.map pk)).length = vs.length := by
          rw [flat_length (sz := sz) (by intro d hd; obtain ⟨z, _, rfl⟩ := List.mem_map.1 hd; rw [hpk, hl]), k2, List.length_map, k1]
        have hfa : flat ((qs ++ [q]).map pk) = flat (qs.map pk) ++ enc q := by
          rw [List.map_append, flat_append, List.map_singleton, flat_cons, flat_nil, List.append_nil, hpk]
        refine ⟨qs ++ [q], vs ++ cs', by simp [k1], by rw [List.length_append, k2, q3, Nat.succ_mul], ?_, ?_, ?_, ?_⟩
        · intro z hz
          rcases List.mem_append.1 hz with hz | hz
          · exact k3 z hz
          · simp at hz; subst hz; exact q1
        · rw [hfa]
          intro d hd
          rcases List.mem_append.1 hd with hd | hd
          · exact k4 d hd
          · exact q4 d hd
        · intro j v hj
          rw [List.getElem?_append] at hj
          split at hj
          · exact k5 j v hj
          · rename_i hjl
            have hjm := (List.getElem?_eq_some_iff.1 hj).1
            rw [World.cells?, if_pos (Nat.zero_le _)] at q2
            have := mapM_some_get q2 (j - vs.length) (j - vs.length) (by rw [List.getElem?_range (by omega)])
            rw [hj] at this
            rw [← this]
            congr 1
            unfold Addr.add
            rw [k2] at hjl ⊢
            by_cases e1 : m * sz = 0
            · rw [if_pos e1, e1, Nat.sub_zero]
            · have e3 : j ≠ 0 := by omega
              rw [if_neg e1, if_neg e3]
              by_cases e2 : j - m * sz = 0
              · rw [if_pos e2]; congr 1; omega
              · rw [if_neg e2]; congr 1; dsimp only; omega
        · intro j d v hd hv
          rw [hfa, List.getElem?_append] at hd
          rw [List.getElem?_append, ← hfl] at hv
          split at hd
          · rename_i hj; rw [if_pos hj] at hv; exact k6 j d v hd hv
          · rename_i hj; rw [if_neg hj] at hv; exact q5 _ d v hd hv
    obtain ⟨qs, vs, k1, k2, k3, k4, k5, k6⟩ := key len (Nat.le_refl _)
    refine ⟨qs, ⟨by omega, k3⟩, rfl, by simp [D.isCell], fun i d v hd hv => ?_⟩
    match i with
    | i + 1 => simp at hd
    | 0 =>
      simp at hd hv; subst hd; subst hv
      by_cases hz : len = 0
      · have : qs = [] := List.eq_nil_of_length_eq_zero (by omega)
        subst this; subst hz
        exact .sl0 sz none (some a) cap hcm
      · have hpos : 0 < vs.length := by rw [k2]; exact Nat.mul_pos (by omega) h0
        have hspot : a.spot = none := by
          have h1 := k5 0 _ (List.getElem?_eq_getElem hpos)
          unfold Addr.add at h1
          rw [if_pos rfl] at h1
          unfold World.cell? at h1
          split at h1
          · cases hs : a.spot with
            | none => rfl
            | some s => rw [hs] at h1; simp at h1
          · cases h1
        obtain ⟨b, off, sp⟩ := a
        simp at hspot
        subst hspot
        have hr : W.rangeAt b off vs := by
          intro j v hj
          have := k5 j v hj
          unfold Addr.add at this
          by_cases hj0 : j = 0
          · subst hj0; simpa using this
          · rw [if_neg hj0] at this; exact this
        have hfl : vs.length = (flat (qs.map pk)).length := by
          rw [flat_length (sz := sz) (by intro d hd; obtain ⟨z, _, rfl⟩ := List.mem_map.1 hd; rw [hpk, hl]), k2, List.length_map, k1]
        have := VR.sl (F := allF W) (w := W) sz none (qs.map pk) b off cap vs (by intro e; rw [List.map_eq_nil_iff] at e; subst e; simp at k1; omega) h0 (by intro d hd; obtain ⟨z, _, rfl⟩ := List.mem_map.1 hd; rw [hpk, hl]) k4 (by simp; omega) hcm hr hfl (allF_range hr (by intro e; rw [e] at hpos; simp at hpos)) (by intro x hx; cases hx) k6
        rwa [List.length_map, k1] at this

/-! ### Structs -/
/-- What lies in a run of cells. -/
def OpnAt (P : Program) (fs : List (TypeId × Nat × Nat)) {α : Type} (enc : α → List D) (fit : α → Prop) : Prop :=
  ∀ (H : Type) (en : TypeId × Value → H) (W : World) (n : Nat) (cs : List Value) (xs : List (DataW H × List MemPlace)), xs.length = fs.length →
    (∀ (i : Nat) (f : TypeId × Nat × Nat) (x : DataW H × List MemPlace), fs[i]? = some f → xs[i]? = some x → DataW.trod en P W 0 (fun _ => true) true n f.1 ((cs.drop f.2.1).take f.2.2) = some x ∧ (x.1.weights P f.1).all (· ≤ reachBytes) = true) →
    ∃ a : α, fit a ∧ (enc a).length = (fs.map fun f => ((cs.drop f.2.1).take f.2.2).length).sum ∧ (∀ d ∈ enc a, d.isCell = true) ∧ ∀ (i : Nat) (d : D) (v : Value), (enc a)[i]? = some d → (fs.flatMap fun f => (cs.drop f.2.1).take f.2.2)[i]? = some v → VR (allF W) W d v
theorem opnAt_nil : OpnAt P [] (fun _ : Unit => []) (fun _ => True) := by
  intro H en W n cs xs _ _
  exact ⟨(), trivial, rfl, by simp, by simp⟩
theorem opnAt_cons {t off k : Nat} {fs : List (TypeId × Nat × Nat)} {α γ : Type} {enc : α → List D} {fit : α → Prop} {enc' : γ → List D} {fit' : γ → Prop} (h : Opn P t enc fit) (hr : OpnAt P fs enc' fit') : OpnAt P ((t, off, k) :: fs) (fun p : α × γ => enc p.1 ++ enc' p.2) (fun p => fit p.1 ∧ fit' p.2) := by
  intro H en W n cs xs hl hx
  match xs, hl with
  | x :: xs, hl =>
    obtain ⟨h1, h2⟩ := hx 0 _ x rfl rfl
    obtain ⟨a, a1, a2, a3, a4⟩ := h H en W n _ x h1 h2
    obtain ⟨b, b1, b2, b3, b4⟩ := hr H en W n cs xs (by simpa using hl) (fun i f y hf hy => hx (i + 1) f y (by simpa using hf) (by simpa using hy))
    refine ⟨(a, b), ⟨a1, b1⟩, by simp only [List.length_append, a2, b2, List.map_cons, List.sum_cons], ?_, fun i d v hd hv => ?_⟩
    · intro d hd
      rcases List.mem_append.1 hd with hd | hd
      · exact a3 d hd
      · exact b3 d hd
    · dsimp only at hd
      rw [List.getElem?_append] at hd
      rw [List.flatMap_cons, List.getElem?_append, ← a2] at hv
      split at hd
      · rename_i hi; rw [if_pos hi] at hv; exact a4 i d v hd hv
      · rename_i hi; rw [if_neg hi] at hv; exact b4 _ d v hd hv

theorem weightsEach_get {H : Type} {P : Program} : ∀ {ts : List TypeId} {l : List (DataW H)}, (DataW.weightsEach P ts l).all (· ≤ reachBytes) = true → ∀ (i : Nat) (t : TypeId) (d : DataW H), ts[i]? = some t → l[i]? = some d → (d.weights P t).all (· ≤ reachBytes) = true
  | t :: ts, x :: l, h, 0, t', d, h1, h2 => by
    simp only [DataW.weightsEach, List.all_append, Bool.and_eq_true] at h
    simp at h1 h2; subst h1; subst h2; exact h.1
  | t :: ts, x :: l, h, i + 1, t', d, h1, h2 => by
    simp only [DataW.weightsEach, List.all_append, Bool.and_eq_true] at h
    exact weightsEach_get h.2 i t' d (by simpa using h1) (by simpa using h2)
  | [], l, h, i, t', d, h1, h2 => by simp at h1
  | t :: ts, [], h, i, t', d, h1, h2 => by simp at h2

/-- fields that lie one behind the other -/
def runs : Nat → List (TypeId × Nat × Nat) → Bool
  | _, [] => true
  | k, f :: fs => Nat.beq f.2.1 k && runs (k + f.2.2) fs
theorem runs_flat {cs : List Value} : ∀ {fs : List (TypeId × Nat × Nat)} {k : Nat}, runs k fs = true → k + (fs.map (·.2.2)).sum = cs.length → (fs.flatMap fun f => (cs.drop f.2.1).take f.2.2) = cs.drop k ∧ (fs.map fun f => ((cs.drop f.2.1).take f.2.2).length).sum = (fs.map (·.2.2)).sum
  | [], k, _, h => by
    simp at h
    simp; omega
  | f :: fs, k, hr, h => by
    simp only [runs, Bool.and_eq_true] at hr
    have hk := Nat.eq_of_beq_eq_true hr.1
    simp only [List.map_cons, List.sum_cons] at h
    obtain ⟨i1, i2⟩ := runs_flat (cs := cs) hr.2 (by omega)
    constructor
    · rw [List.flatMap_cons, i1, hk, ← List.drop_drop, List.take_append_drop]
    · rw [List.map_cons, List.sum_cons, List.map_cons, List.sum_cons, i2]
      simp; omega

theorem opn_struct {t : TypeId} {fs : Array Field} {fl : List (TypeId × Nat × Nat)} {α : Type} {enc : α → List D} {fit : α → Prop} (ht : P.underlying t = some (.struct fs)) (hfl : fs.toList.map (fun f => (f.type, f.offset, P.cellsOf f.type)) = fl) (hr : runs 0 fl = true) (hs : (fl.map (·.2.2)).sum = P.cellsOf t) (h : OpnAt P fl enc fit) : Opn P t enc fit := by
  subst hfl
  intro H en W fuel cs x hx hw
  obtain ⟨xs, n, _, rfl, hl, hlx, hf⟩ := DataW.trod_struct ht hx
  have hw' : (DataW.weightsEach P (fs.toList.map (·.type)) (xs.map (·.1))).all (· ≤ reachBytes) = true := by
    simpa [DataW.weights, ht] using hw
  obtain ⟨a, a1, a2, a3, a4⟩ := h H en W n cs xs (by simpa using hlx) (fun i f y hfi hy => by
    rw [List.getElem?_map, Option.map_eq_some_iff] at hfi
    obtain ⟨g, hg, rfl⟩ := hfi
    have h1 := hf i g (by simpa using hg)
    rw [hy] at h1
    exact ⟨h1, weightsEach_get hw' i g.type y.1 (by rw [List.getElem?_map, hg]; rfl) (by rw [List.getElem?_map, hy]; rfl)⟩)
  obtain ⟨r1, r2⟩ := runs_flat (cs := cs) hr (by rw [hs, hl]; simp)
  refine ⟨a, a1, ?_, a3, fun i d v hd hv => a4 i d v hd (by rw [r1]; simpa using hv)⟩
  rw [a2, r2, hs, hl]

/-! ### An argument -/
theorem Opn.arg {t : TypeId} {α : Type} {enc : α → List D} {fit : α → Prop} (h : Opn P t enc fit) {fs : Array Field} (ht : P.underlying t = some (.struct fs)) {H : Type} {en : TypeId × Value → H} {W : World} {base : Nat} {v : Value} {d : DataW H} {p : List MemPlace}
    (hv : Value.okWide P W .any base t v) (hd : DataW.Trod en P W 0 (fun _ => true) true t v d p) (hw : (d.weights P t).all (· ≤ reachBytes) = true) : ∃ a, fit a ∧ VR (allF W) W (.agg (enc a)) v := by
  obtain ⟨fuel, hf⟩ := hd
  obtain ⟨a, h1, h2, h3, h4⟩ := h H en W fuel _ _ hf hw
  simp only [Value.okWide, ht] at hv
  obtain ⟨cs, rfl, _, _⟩ := hv
  refine ⟨a, h1, ?_⟩
  have := VR.agg (F := allF W) (w := W) (enc a) cs.toList (by rw [h2]; rfl) h3 (fun i d v hd hv => h4 i d v hd hv)
  simpa using this
theorem Opn.argS {t e : TypeId} {α : Type} {enc : α → D} {fit : α → Prop} (h : Opn P t (fun a => [enc a]) fit) (ht : P.underlying t = some (.slice e)) {H : Type} {en : TypeId × Value → H} {W : World} {base : Nat} {v : Value} {d : DataW H} {p : List MemPlace}
    (hv : Value.okWide P W .any base t v) (hd : DataW.Trod en P W 0 (fun _ => true) true t v d p) (hw : (d.weights P t).all (· ≤ reachBytes) = true) : ∃ a, fit a ∧ VR (allF W) W (enc a) v := by
  obtain ⟨fuel, hf⟩ := hd
  obtain ⟨a, h1, h2, h3, h4⟩ := h H en W fuel _ _ hf hw
  obtain ⟨x, len, cap, rfl⟩ := WideShapes.okWide_slice ht hv
  exact ⟨a, h1, h4 0 _ _ rfl (by simp [Value.cells])⟩
theorem Kept.below {W W' : World} {F F' : Fz} (h : Kept noM W F W' F') : Below W.heap.size W W' := ⟨h.os, h.tape, h.output, h.size, fun k hk => (h.blk k hk (fun hn => hn)).1⟩
end Go.Q
