/- Regions that draw their order, in which own objects are made and grown: each object's operations are in order. No condition. -/
import Derived.Test.YtkfcpnaiimcjeaaDoorQRun
import Derived.Test.YtkfcpnaiimcjeaaDoorQTxt
set_option linter.unusedVariables false
set_option linter.unusedSimpArgs false
namespace Go.Q
open Go.RowKit
variable {P : Program} {β : Base}

structure EOp where
  d : Option Nat
  c : AVal
  fx : Option (Nat × Obj)
  cr : Bool
def putO (env : Nat → AVal) (d : Option Nat) (c : AVal) : Nat → AVal := match d with
  | some d => upd env d c
  | none => env
def EOp.on (e : EOp) (A : Nat) : Bool := match e.fx with
  | some (B, _) => Nat.beq A B
  | none => false
def AllH : List Nat → (Nat → Obj) → ((Nat → Obj) → Prop) → Prop
  | [], H, p => p H
  | A :: l, H, p => ∀ o, AllH l (upd H A o) p
theorem AllH_use : ∀ {ids : List Nat} {H H' : Nat → Obj} {p : (Nat → Obj) → Prop}, AllH ids H p → (∀ id, ids.contains id = false → H' id = H id) → p H'
  | [], H, H', p, h, hh => by
    have : H' = H := funext fun i => hh i rfl
    rw [this]; exact h
  | A :: l, H, H', p, h, hh => by
    refine AllH_use (h (H' A)) (fun id hid => ?_)
    by_cases e : id = A
    · subst e; rw [upd_same]
    · rw [upd_ne _ _ e]
      refine hh id ?_
      rw [List.contains_cons, hid]
      simp [e]

/-- The operations of the region's first part, in the order of the text. -/
inductive ES (P : Program) (β : Base) (ids : List Nat) : List Oper → St → List EOp → St → Prop
  | nil (σ : St) : ES P β ids [] σ [] σ
  | pure {o : Oper} {l : List Oper} {σ σ' : St} {es : List EOp} {d : Nat} {c : AVal} (hd : o.dst = some d) (hn : Nat.blt d β.n = true) (hg : o.guard = none) (h : AllH ids σ.H fun H => GStep P β H o (aev σ) c) (t : ES P β ids l (σ.put d c) es σ') : ES P β ids (o :: l) σ (⟨some d, c, none, false⟩ :: es) σ'
  | eff {o : Oper} {l : List Oper} {σ σ' : St} {es : List EOp} {d : Option Nat} {A : Nat} {c : AVal} {o2 : Obj} {cr : Bool} (hd : o.dst = d) (hg : o.guard = none) (hA : ids.contains A = true)
      (h : ∀ env H, (∀ x ∈ o.op.operands, aev ⟨env, H⟩ x = aev σ x) → H A = σ.H A → (cr = true → NoRefE A env ∧ NoRefH A H) → SStep P β ⟨env, H⟩ o ⟨putO env d c, upd H A o2⟩)
      (t : ES P β ids l ⟨putO σ.env d c, upd σ.H A o2⟩ es σ') : ES P β ids (o :: l) σ (⟨d, c, some (A, o2), cr⟩ :: es) σ'

def EA (S : Nat → Bool) : Nat → List EOp → (Nat → AVal) → (Nat → AVal)
  | _, [], env => env
  | k, e :: es, env => EA S (k + 1) es (if S k then putO env e.d e.c else env)
def HA (S : Nat → Bool) : Nat → List EOp → (Nat → Obj) → (Nat → Obj)
  | _, [], H => H
  | k, e :: es, H => HA S (k + 1) es (if S k then (match e.fx with | some (A, o) => upd H A o | none => H) else H)

theorem EA_congr {S S' : Nat → Bool} {t : Nat} : ∀ (es : List EOp) (k : Nat) (env env' : Nat → AVal), env t = env' t → (∀ (j : Nat) (e : EOp), es[j]? = some e → e.d = some t → S (k + j) = S' (k + j)) → EA S k es env t = EA S' k es env' t
  | [], k, env, env', h, _ => h
  | e :: es, k, env, env', h, hS => by
    refine EA_congr es (k + 1) _ _ ?_ (fun j e' he hd => by have := hS (j + 1) e' (by simpa using he) hd; rwa [show k + (j + 1) = k + 1 + j by omega] at this)
    by_cases hd : e.d = some t
    · have := hS 0 e rfl hd
      rw [Nat.add_zero] at this
      rw [← this]
      cases S k with
      | true => simp [hd, putO, upd_same]
      | false => simpa using h
    · have key : ∀ (b : Bool) (f : Nat → AVal), (if b then putO f e.d e.c else f) t = f t := by
        intro b f; cases b
        · rfl
        · cases hq : e.d with
          | none => simp [putO]
          | some d =>
            have : t ≠ d := fun x => hd (by rw [hq, x])
            simp [putO, upd_ne _ _ this]
      rw [key, key]; exact h
theorem EA_last {S : Nat → Bool} {t i : Nat} {e0 : EOp} : ∀ (es : List EOp) (k : Nat) (env : Nat → AVal), es[i]? = some e0 → e0.d = some t → S (k + i) = true → (∀ (j : Nat) (e : EOp), i < j → es[j]? = some e → e.d = some t → False) → EA S k es env t = e0.c := by
  induction i with
  | zero =>
    intro es k env he hd hS hl
    cases es with
    | nil => simp at he
    | cons e es =>
      simp at he; subst he
      have : S k = true := by simpa using hS
      simp only [EA, this, if_true]
      rw [EA_congr (S' := fun _ => false) (t := t) es (k + 1) _ _ rfl (fun j e' he' hd' => (hl (j + 1) e' (by omega) (by simpa using he') hd').elim)]
      have : ∀ (es : List EOp) (k : Nat) (env : Nat → AVal), EA (fun _ => false) k es env = env := by
        intro es; induction es with
        | nil => intro k env; rfl
        | cons e es ih => intro k env; simp only [EA]; exact ih _ _
      rw [this, hd]; simp [putO, upd_same]
  | succ i ih =>
    intro es k env he hd hS hl
    cases es with
    | nil => simp at he
    | cons e es =>
      simp only [EA]
      exact ih es (k + 1) _ (by simpa using he) hd (by rw [show k + 1 + i = k + (i + 1) by omega]; exact hS) (fun j e' hj he' hd' => hl (j + 1) e' (by omega) (by simpa using he') hd')
theorem HA_congr {S S' : Nat → Bool} {A : Nat} : ∀ (es : List EOp) (k : Nat) (H H' : Nat → Obj), H A = H' A → (∀ (j : Nat) (e : EOp), es[j]? = some e → e.on A = true → S (k + j) = S' (k + j)) → HA S k es H A = HA S' k es H' A
  | [], k, H, H', h, _ => h
  | e :: es, k, H, H', h, hS => by
    refine HA_congr es (k + 1) _ _ ?_ (fun j e' he hd => by have := hS (j + 1) e' (by simpa using he) hd; rwa [show k + (j + 1) = k + 1 + j by omega] at this)
    by_cases hd : e.on A = true
    · have := hS 0 e rfl hd
      rw [Nat.add_zero] at this
      rw [← this]
      unfold EOp.on at hd
      cases S k with
      | true =>
        cases hf : e.fx with
        | none => rw [hf] at hd; cases hd
        | some p =>
          obtain ⟨B, o⟩ := p
          rw [hf] at hd
          have hB := Nat.eq_of_beq_eq_true hd
          subst hB
          simp [upd_same]
      | false => simpa using h
    · have key : ∀ (b : Bool) (f : Nat → Obj), (if b then (match e.fx with | some (A, o) => upd f A o | none => f) else f) A = f A := by
        intro b f; cases b
        · rfl
        · unfold EOp.on at hd
          cases hf : e.fx with
          | none => rfl
          | some p =>
            obtain ⟨B, o⟩ := p
            rw [hf] at hd
            have : A ≠ B := fun x => hd (by subst x; simp)
            simp [upd_ne _ _ this]
      rw [key, key]; exact h
theorem HA_last {S : Nat → Bool} {A i : Nat} {e0 : EOp} {o : Obj} : ∀ (es : List EOp) (k : Nat) (H : Nat → Obj), es[i]? = some e0 → e0.fx = some (A, o) → S (k + i) = true → (∀ (j : Nat) (e : EOp), i < j → es[j]? = some e → e.on A = true → S (k + j) = false) → HA S k es H A = o := by
  induction i with
  | zero =>
    intro es k H he hd hS hl
    cases es with
    | nil => simp at he
    | cons e es =>
      simp at he; subst he
      have : S k = true := by simpa using hS
      simp only [HA, this, if_true, hd]
      rw [HA_congr (S' := fun _ => false) (A := A) es (k + 1) _ _ rfl (fun j e' he' hd' => by have := hl (j + 1) e' (by omega) (by simpa using he') hd'; rwa [show k + (j + 1) = k + 1 + j by omega] at this)]
      have : ∀ (es : List EOp) (k : Nat) (H : Nat → Obj), HA (fun _ => false) k es H = H := by
        intro es; induction es with
        | nil => intro k H; rfl
        | cons e es ih => intro k H; simp only [HA]; exact ih _ _
      rw [this, upd_same]
  | succ i ih =>
    intro es k H he hd hS hl
    cases es with
    | nil => simp at he
    | cons e es =>
      simp only [HA]
      exact ih es (k + 1) _ (by simpa using he) hd (by rw [show k + 1 + i = k + (i + 1) by omega]; exact hS) (fun j e' hj he' hd' => by have := hl (j + 1) e' (by omega) (by simpa using he') hd'; rwa [show k + (j + 1) = k + 1 + j by omega] at this)

/-- Each operation at its state in the order of the text. -/
structure EAt (P : Program) (β : Base) (ids : List Nat) (σ : St) (es : List EOp) (i : Nat) (o : Oper) (e : EOp) : Prop where
  hd : o.dst = e.d
  hg : o.guard = none
  inn : ∀ A, e.on A = true → ids.contains A = true
  step : (∃ d, e.d = some d ∧ Nat.blt d β.n = true ∧ e.fx = none ∧ AllH ids (HA (fun j => decide (j < i)) 0 es σ.H) fun H => GStep P β H o (aev ⟨EA (fun j => decide (j < i)) 0 es σ.env, HA (fun j => decide (j < i)) 0 es σ.H⟩) e.c) ∨
    ∃ A o2, e.fx = some (A, o2) ∧ ∀ env H, (∀ x ∈ o.op.operands, aev ⟨env, H⟩ x = aev ⟨EA (fun j => decide (j < i)) 0 es σ.env, HA (fun j => decide (j < i)) 0 es σ.H⟩ x) → H A = HA (fun j => decide (j < i)) 0 es σ.H A → (e.cr = true → NoRefE A env ∧ NoRefH A H) → SStep P β ⟨env, H⟩ o ⟨putO env e.d e.c, upd H A o2⟩

theorem EA_zero (es : List EOp) (k : Nat) (env : Nat → AVal) : EA (fun j => decide (j < k)) k es env = env := by
  funext t
  have : ∀ (es : List EOp) (k : Nat) (env : Nat → AVal), EA (fun _ => false) k es env = env := by
    intro es; induction es with
    | nil => intro k env; rfl
    | cons e es ih => intro k env; simp only [EA]; exact ih _ _
  rw [EA_congr (S' := fun _ => false) (t := t) es k _ _ rfl (fun j e _ _ => by simp), this]
theorem HA_zero (es : List EOp) (k : Nat) (H : Nat → Obj) : HA (fun j => decide (j < k)) k es H = H := by
  funext t
  have : ∀ (es : List EOp) (k : Nat) (H : Nat → Obj), HA (fun _ => false) k es H = H := by
    intro es; induction es with
    | nil => intro k H; rfl
    | cons e es ih => intro k H; simp only [HA]; exact ih _ _
  rw [HA_congr (S' := fun _ => false) (A := t) es k _ _ rfl (fun j e _ _ => by simp), this]
theorem EA_shift {i k : Nat} (es : List EOp) (env : Nat → AVal) : EA (fun j => decide (j < i + 1)) (k + 1) es env = EA (fun j => decide (j < i)) k es env := by
  induction es generalizing k env with
  | nil => rfl
  | cons e es ih =>
    simp only [EA]
    have : (if decide (k + 1 < i + 1) = true then putO env e.d e.c else env) = (if decide (k < i) = true then putO env e.d e.c else env) := by simp
    rw [this]; exact ih _
theorem HA_shift {i k : Nat} (es : List EOp) (H : Nat → Obj) : HA (fun j => decide (j < i + 1)) (k + 1) es H = HA (fun j => decide (j < i)) k es H := by
  induction es generalizing k H with
  | nil => rfl
  | cons e es ih =>
    simp only [HA]
    have : ∀ X : Nat → Obj, (if decide (k + 1 < i + 1) = true then X else H) = (if decide (k < i) = true then X else H) := by intro X; simp
    rw [this]; exact ih _

theorem ES.at_ {ids : List Nat} {l : List Oper} {σ σ' : St} {es : List EOp} (h : ES P β ids l σ es σ') : es.length = l.length ∧ (∀ i o, l[i]? = some o → ∃ e, es[i]? = some e ∧ EAt P β ids σ es i o e) ∧ σ' = ⟨EA (fun j => decide (j < l.length)) 0 es σ.env, HA (fun j => decide (j < l.length)) 0 es σ.H⟩ := by
  induction h with
  | nil σ => exact ⟨rfl, fun i o ho => by simp at ho, rfl⟩
  | pure hd hn hg h t ih =>
    rename_i o l σ σ' es d c
    obtain ⟨ih1, ih2, ih3⟩ := ih
    refine ⟨by simp [ih1], fun i o' ho => ?_, ?_⟩
    · cases i with
      | zero =>
        simp at ho; subst ho
        refine ⟨_, rfl, hd, hg, fun A hA => (by cases hA), .inl ⟨d, rfl, hn, rfl, ?_⟩⟩
        rw [HA_zero, EA_zero]; exact h
      | succ i =>
        obtain ⟨e, he, hat⟩ := ih2 i o' (by simpa using ho)
        refine ⟨e, by simpa using he, hat.hd, hat.hg, hat.inn, ?_⟩
        have h1 : EA (fun j => decide (j < i + 1)) 0 (⟨some d, c, none, false⟩ :: es) σ.env = EA (fun j => decide (j < i)) 0 es (σ.put d c).env := by
          simp only [EA]; rw [EA_shift]; simp [St.put, putO]
        have h2 : HA (fun j => decide (j < i + 1)) 0 (⟨some d, c, none, false⟩ :: es) σ.H = HA (fun j => decide (j < i)) 0 es (σ.put d c).H := by
          simp only [HA]; rw [HA_shift]; simp [St.put]
        rw [h1, h2]; exact hat.step
    · rw [ih3]
      have h1 : EA (fun j => decide (j < (o :: l).length)) 0 (⟨some d, c, none, false⟩ :: es) σ.env = EA (fun j => decide (j < l.length)) 0 es (σ.put d c).env := by
        simp only [EA, List.length_cons]; rw [EA_shift]; simp [St.put, putO]
      have h2 : HA (fun j => decide (j < (o :: l).length)) 0 (⟨some d, c, none, false⟩ :: es) σ.H = HA (fun j => decide (j < l.length)) 0 es (σ.put d c).H := by
        simp only [HA, List.length_cons]; rw [HA_shift]; simp [St.put]
      rw [h1, h2]
  | eff hd hg hA h t ih =>
    rename_i o l σ σ' es d A c o2 cr
    obtain ⟨ih1, ih2, ih3⟩ := ih
    refine ⟨by simp [ih1], fun i o' ho => ?_, ?_⟩
    · cases i with
      | zero =>
        simp at ho; subst ho
        refine ⟨_, rfl, hd, hg, fun B hB => ?_, .inr ⟨A, o2, rfl, ?_⟩⟩
        · have := Nat.eq_of_beq_eq_true (show Nat.beq B A = true from hB); subst this; exact hA
        · rw [HA_zero, EA_zero]; exact h
      | succ i =>
        obtain ⟨e, he, hat⟩ := ih2 i o' (by simpa using ho)
        refine ⟨e, by simpa using he, hat.hd, hat.hg, hat.inn, ?_⟩
        have h1 : EA (fun j => decide (j < i + 1)) 0 (⟨d, c, some (A, o2), cr⟩ :: es) σ.env = EA (fun j => decide (j < i)) 0 es (putO σ.env d c) := by
          simp only [EA]; rw [EA_shift]; simp
        have h2 : HA (fun j => decide (j < i + 1)) 0 (⟨d, c, some (A, o2), cr⟩ :: es) σ.H = HA (fun j => decide (j < i)) 0 es (upd σ.H A o2) := by
          simp only [HA]; rw [HA_shift]; simp
        rw [h1, h2]; exact hat.step
    · rw [ih3]
      have h1 : EA (fun j => decide (j < (o :: l).length)) 0 (⟨d, c, some (A, o2), cr⟩ :: es) σ.env = EA (fun j => decide (j < l.length)) 0 es (putO σ.env d c) := by
        simp only [EA, List.length_cons]; rw [EA_shift]; simp
      have h2 : HA (fun j => decide (j < (o :: l).length)) 0 (⟨d, c, some (A, o2), cr⟩ :: es) σ.H = HA (fun j => decide (j < l.length)) 0 es (upd σ.H A o2) := by
        simp only [HA, List.length_cons]; rw [HA_shift]; simp
      rw [h1, h2]

/-! ### What is checked -/
def bit (m i : Nat) : Bool := Nat.beq (m / 2 ^ i % 2) 1
theorem bit_test (m i : Nat) : bit m i = m.testBit i := by
  rw [Nat.testBit_eq_decide_div_mod_eq, bit]
  by_cases h : m / 2 ^ i % 2 = 1
  · simp [h]
  · have : Nat.beq (m / 2 ^ i % 2) 1 = false := by
      cases hb : Nat.beq (m / 2 ^ i % 2) 1 with
      | false => rfl
      | true => exact absurd (Nat.eq_of_beq_eq_true hb) h
    simp [h, this]
def effPair (M : List Nat) (A i : Nat) (cr : Bool) : Nat → List EOp → Bool
  | j + 1, q :: l => ((!q.on A || Nat.beq i j || cond (Nat.blt i j) (bit (M.getD j 0) i) (bit (M.getD i 0) j)) &&
      (match q.fx with | some (_, o') => o'.noRef A | none => true) &&
      (!cr || bit (M.getD j 0) i || Nat.beq i j || q.c.noRef A)) && effPair M A i cr j l
  | _, _ => true
def effAll (M : List Nat) (n : Nat) (es : List EOp) : Nat → List EOp → Bool
  | i + 1, p :: l => (match p.fx with | none => true | some (A, _) => effPair M A i p.cr n es) && effAll M n es i l
  | _, _ => true
def effOk (ops : Array Oper) (es : List EOp) : Bool := effAll (masks ops.toList []) es.length es.reverse es.length es.reverse
theorem effPair_get {M : List Nat} {A i : Nat} {cr : Bool} : ∀ {n : Nat} {l : List EOp}, l.length = n → effPair M A i cr n l = true → ∀ (l1 : List EOp) (q : EOp) (l2 : List EOp), l = l1 ++ q :: l2 → ((!q.on A || Nat.beq i l2.length || cond (Nat.blt i l2.length) (bit (M.getD l2.length 0) i) (bit (M.getD i 0) l2.length)) &&
      (match q.fx with | some (_, o') => o'.noRef A | none => true) && (!cr || bit (M.getD l2.length 0) i || Nat.beq i l2.length || q.c.noRef A)) = true
  | n + 1, x :: l, hn, h, [], q, l2, e => by
    simp at e
    obtain ⟨rfl, rfl⟩ := e
    simp only [effPair] at h
    rw [Bool.and_eq_true] at h
    have : x = x := rfl
    simp at hn
    rw [hn]
    exact h.1
  | n + 1, x :: l, hn, h, y :: l1, q, l2, e => by
    simp at e
    simp only [effPair] at h
    rw [Bool.and_eq_true] at h
    exact effPair_get (by simpa using hn) h.2 l1 q l2 e.2
  | _, [], _, h, l1, q, l2, e => by simp at e
  | 0, x :: l, hn, h, l1, q, l2, e => by simp at hn
theorem effAll_get {M : List Nat} {N : Nat} {es : List EOp} : ∀ {n : Nat} {l : List EOp}, l.length = n → effAll M N es n l = true → ∀ (l1 : List EOp) (p : EOp) (l2 : List EOp) (A : Nat) (o : Obj), l = l1 ++ p :: l2 → p.fx = some (A, o) → effPair M A l2.length p.cr N es = true
  | n + 1, x :: l, hn, h, [], p, l2, A, o, e, hf => by
    simp at e
    obtain ⟨rfl, rfl⟩ := e
    simp only [effAll] at h
    rw [Bool.and_eq_true] at h
    have := h.1
    rw [hf] at this
    simp at hn
    rw [hn]
    exact this
  | n + 1, x :: l, hn, h, y :: l1, p, l2, A, o, e, hf => by
    simp at e
    simp only [effAll] at h
    rw [Bool.and_eq_true] at h
    exact effAll_get (by simpa using hn) h.2 l1 p l2 A o e.2 hf
  | _, [], _, h, l1, p, l2, A, o, e, hf => by simp at e
  | 0, x :: l, hn, h, l1, p, l2, A, o, e, hf => by simp at hn
theorem rev_split {α : Type} {es : List α} {i : Nat} {e : α} (h : es[i]? = some e) : ∃ l1 l2, es.reverse = l1 ++ e :: l2 ∧ l2.length = i := by
  obtain ⟨hi, he⟩ := List.getElem?_eq_some_iff.1 h
  refine ⟨(es.drop (i + 1)).reverse, (es.take i).reverse, ?_, by simp; omega⟩
  conv => lhs; rw [← List.take_append_drop i es, List.drop_eq_getElem_cons hi, he]
  simp
theorem effOk_spec {ops : Array Oper} {es : List EOp} (h : effOk ops es = true) {i : Nat} {e : EOp} {A : Nat} {o : Obj} (he : es[i]? = some e) (hf : e.fx = some (A, o)) {j : Nat} {e' : EOp} (he' : es[j]? = some e') :
    (e'.on A = true → i < j → ((masks ops.toList []).getD j 0).testBit i = true) ∧ (e'.on A = true → j < i → ((masks ops.toList []).getD i 0).testBit j = true) ∧ (∀ B o', e'.fx = some (B, o') → o'.noRef A = true) ∧ (e.cr = true → ((masks ops.toList []).getD j 0).testBit i = true ∨ i = j ∨ e'.c.noRef A = true) := by
  obtain ⟨l1, l2, hs1, hs2⟩ := rev_split he
  obtain ⟨m1, m2, hs3, hs4⟩ := rev_split he'
  have h1 := effAll_get (by simp) h l1 e l2 A o hs1 hf
  have h2 := effPair_get (by simp) h1 m1 e' m2 hs3
  rw [hs2, hs4] at h2
  simp only [Bool.and_eq_true, Bool.or_eq_true, Bool.not_eq_true', bit_test] at h2
  obtain ⟨⟨h3, h4⟩, h5⟩ := h2
  refine ⟨fun hon hij => ?_, fun hon hij => ?_, fun B o' hf' => ?_, fun hcr => ?_⟩
  · rw [hon] at h3
    rcases h3 with (h3 | h3) | h3
    · cases h3
    · have := Nat.eq_of_beq_eq_true h3; omega
    · have hb : Nat.blt i j = true := by simpa [Nat.blt_eq] using hij
      rw [hb] at h3; exact h3
  · rw [hon] at h3
    rcases h3 with (h3 | h3) | h3
    · cases h3
    · have := Nat.eq_of_beq_eq_true h3; omega
    · have hb : Nat.blt i j = false := by
        cases hq : Nat.blt i j with
        | false => rfl
        | true => exact absurd (lt_of_blt hq) (by omega)
      rw [hb] at h3; exact h3
  · rw [hf'] at h4; exact h4
  · rw [hcr] at h5
    rcases h5 with ((h5 | h5) | h5) | h5
    · cases h5
    · exact .inl h5
    · exact .inr (.inl (Nat.eq_of_beq_eq_true h5))
    · exact .inr (.inr h5)

def SL (listed : Array Bool) : Nat → Bool := fun j => listed.getD j false
theorem SL_lst {listed : Array Bool} {j : Nat} : SL listed j = true ↔ Lst listed j := by
  unfold SL Lst
  rw [Array.getD_eq_getD_getElem?]
  cases listed[j]? with
  | none => simp
  | some b => simp
theorem SL_set {listed : Array Bool} {i : Nat} (hi : i < listed.size) (j : Nat) : SL (listed.setIfInBounds i true) j = (decide (j = i) || SL listed j) := by
  unfold SL
  simp only [Array.getD_eq_getD_getElem?, Array.getElem?_setIfInBounds]
  by_cases h : i = j
  · subst h; simp [hi]
  · have : ¬ j = i := fun e => h e.symm
    simp [h, this]

def EInv (P : Program) (β : Base) (σ : St) (es : List EOp) (listed : Array Bool) (a : Act) (w : World) : Prop :=
  ∃ F ρ, Rel P β F ρ ⟨EA (SL listed) 0 es σ.env, HA (SL listed) 0 es σ.H⟩ a w

theorem aev_congr {σ σ' : St} {x : Operand} (h : ∀ t, x = .tmp t → σ.env t = σ'.env t) : aev σ x = aev σ' x := by
  cases x with
  | tmp t => exact h t rfl
  | const v => rfl
  | global g => rfl
  | func f => rfl

theorem draw_stepE {ops : Array Oper} {m : Nat} {ids : List Nat} {σ σ' : St} {es : List EOp} (hok : DrawOk ops m) (hs : ES P β ids (ops.toList.take m) σ es σ') (hef : effOk ops es = true) (hcr : ∀ e ∈ es, e.cr = true → ∀ A, e.on A = true → NoRefE A σ.env ∧ NoRefH A σ.H)
    {listed : Array Bool} (hls : listed.size = ops.size) (hcl : ∀ i o, ops[i]? = some o → Lst listed i → ∀ j ∈ edges o, Lst listed j) {i : Nat} {o : Oper} (him : i < m) (ho : ops[i]? = some o) (hl : listed[i]? = some false) (he : ∀ j ∈ edges o, Lst listed j)
    {a : Act} {w : World} (hI : EInv P β σ es listed a w) {K : Act → World → Prop} {Q : Exit → Act → World → Prop} (hK : ∀ a' w', EInv P β σ es (listed.setIfInBounds i true) a' w' → K a' w') : wpOp P ops Q i K a w := by
  have hlen : (ops.toList.take m).length = m := by rw [List.length_take, Array.length_toList]; have := hok.le; omega
  have hget : ∀ j, j < m → (ops.toList.take m)[j]? = ops[j]? := fun j hj => by rw [List.getElem?_take, if_pos hj]; simp
  obtain ⟨hel, hat, _⟩ := hs.at_
  rw [hlen] at hel
  obtain ⟨e, hei, hE⟩ := hat i o (by rw [hget i him]; exact ho)
  have hp := hok.pure i o him ho
  unfold pureOk at hp
  simp only [Bool.and_eq_true] at hp
  obtain ⟨⟨_, hp2⟩, _⟩ := hp
  obtain ⟨F, ρ, hr⟩ := hI
  have hisz : i < listed.size := by rw [hls]; have := hok.le; omega
  have hdst : ∀ (j : Nat) (e' : EOp), es[j]? = some e' → j < m ∧ (ops[j]?).bind (·.dst) = e'.d := by
    intro j e' hj
    have hjm : j < m := by rw [← hel]; exact (List.getElem?_eq_some_iff.1 hj).1
    have hjs : j < ops.size := by have := hok.le; omega
    have hoj : ops[j]? = some ops[j] := Array.getElem?_eq_getElem hjs
    obtain ⟨e2, he2, hE2⟩ := hat j ops[j] (by rw [hget j hjm]; exact hoj)
    rw [hj] at he2; cases he2
    exact ⟨hjm, by rw [hoj]; exact hE2.hd⟩
  have hnodup : ∀ (j k : Nat) (e1 e2 : EOp) (d : Nat), es[j]? = some e1 → es[k]? = some e2 → e1.d = some d → e2.d = some d → j = k := by
    intro j k e1 e2 d h1 h2 hd1 hd2
    have a1 := hdst j e1 h1
    have a2 := hdst k e2 h2
    exact nodup_dst hok.nd j k d (by rw [hget j a1.1, ← hd1]; exact a1.2) (by rw [hget k a2.1, ← hd2]; exact a2.2)
  have hsl : SL listed i = false := by
    unfold SL; rw [Array.getD_eq_getD_getElem?, hl]; rfl
  have hop : ∀ (H : Nat → Obj), ∀ x ∈ o.op.operands, aev ⟨EA (SL listed) 0 es σ.env, H⟩ x = aev ⟨EA (fun j => decide (j < i)) 0 es σ.env, HA (fun j => decide (j < i)) 0 es σ.H⟩ x := by
    intro H x hx
    refine aev_congr (fun t ht => ?_)
    subst ht
    refine EA_congr es 0 _ _ rfl (fun j e' hj hd => ?_)
    obtain ⟨hjm, hjd⟩ := hdst j e' hj
    have := List.all_eq_true.1 hp2 j (by simpa using hjm)
    rw [hjd, hd] at this
    simp only [Bool.or_eq_true, Bool.not_eq_true', List.contains_eq_mem, decide_eq_false_iff_not, decide_eq_true_eq] at this
    rcases this with h | h
    · exact absurd (tmp_mem hx) h
    · rw [Nat.zero_add, SL_lst.2 (he j h)]
      have := hok.lt i o ho j h
      simp [this]
  have hmask : ∀ (k : Nat) (ok : Oper), ops[k]? = some ok → (∀ j ∈ edges ok, Lst listed j) → ∀ j, ((masks ops.toList []).getD k 0).testBit j = true → Lst listed j := masks_listed hok.lt hcl
  have henv : EA (SL (listed.setIfInBounds i true)) 0 es σ.env = putO (EA (SL listed) 0 es σ.env) e.d e.c := by
    funext t
    by_cases ht : e.d = some t
    · rw [ht]
      simp only [putO, upd_same]
      exact EA_last es 0 _ hei ht (by rw [Nat.zero_add, SL_set hisz]; simp) (fun j e' hj he' hd => by have := hnodup i j e e' t hei he' ht hd; omega)
    · have h1 : putO (EA (SL listed) 0 es σ.env) e.d e.c t = EA (SL listed) 0 es σ.env t := by
        cases hq : e.d with
        | none => rfl
        | some d =>
          have : t ≠ d := fun x => ht (by rw [hq, x])
          simp [putO, upd_ne _ _ this]
      rw [h1]
      refine EA_congr es 0 _ _ rfl (fun j e' hj hd => ?_)
      rw [Nat.zero_add, SL_set hisz]
      by_cases hji : j = i
      · subst hji; rw [hei] at hj; cases hj; exact absurd hd ht
      · simp [hji]
  unfold wpOp
  simp only [ho]
  rw [if_pos (by simp [Region.wanted, hE.hg])]
  refine .inl (wp_of_goes ?_)
  rcases hE.step with ⟨dd, hdd, hdn, hfx, hG⟩ | ⟨A, o2, hfx, hS⟩
  · have hH : HA (SL (listed.setIfInBounds i true)) 0 es σ.H = HA (SL listed) 0 es σ.H := by
      funext id
      refine HA_congr es 0 _ _ rfl (fun j e' hj hon => ?_)
      rw [Nat.zero_add, SL_set hisz]
      by_cases hji : j = i
      · subst hji; rw [hei] at hj; cases hj; unfold EOp.on at hon; rw [hfx] at hon; cases hon
      · simp [hji]
    have hg := AllH_use hG (H' := HA (SL listed) 0 es σ.H) (fun id hid => HA_congr es 0 _ _ rfl (fun j e' hj hon => by
      obtain ⟨hjm, _⟩ := hdst j e' hj
      have hjs : j < ops.size := by have := hok.le; omega
      obtain ⟨e2, he2, hE2⟩ := hat j ops[j] (by rw [hget j hjm]; exact Array.getElem?_eq_getElem hjs)
      rw [hj] at he2; cases he2
      rw [hE2.inn id hon] at hid; cases hid))
    refine hg F ρ w hr.h a.eval (fun x hx => ?_) _ (fun v w' F' hk hw hc => hK _ _ ?_)
    · rw [← hop (HA (SL listed) 0 es σ.H) x hx]; exact hr.ev x
    · rw [hE.hd, hdd]
      refine ⟨F', ρ, ?_⟩
      rw [henv, hH, hdd]
      exact (hr.grow hk hw).put (lt_of_blt hdn) hc
  · have hlater : ∀ (j : Nat) (e' : EOp), i < j → es[j]? = some e' → e'.on A = true → SL listed j = false := by
      intro j e' hij hj hon
      have hb := (effOk_spec hef hei hfx hj).1 hon hij
      cases hq : SL listed j with
      | false => rfl
      | true =>
        exfalso
        have hlj := SL_lst.1 hq
        obtain ⟨hjm, _⟩ := hdst j e' hj
        have hjs : j < ops.size := by have := hok.le; omega
        have hoj : ops[j]? = some ops[j] := Array.getElem?_eq_getElem hjs
        have := hmask j _ hoj (hcl j _ hoj hlj) i hb
        unfold Lst at this
        rw [hl] at this; cases this
    have hearlier : ∀ (j : Nat) (e' : EOp), j < i → es[j]? = some e' → e'.on A = true → SL listed j = true := by
      intro j e' hij hj hon
      have hb := (effOk_spec hef hei hfx hj).2.1 hon hij
      exact SL_lst.2 (hmask i o ho he j hb)
    have honA : e.on A = true := by unfold EOp.on; rw [hfx]; simp
    have hHA : HA (SL listed) 0 es σ.H A = HA (fun j => decide (j < i)) 0 es σ.H A := by
      refine HA_congr es 0 _ _ rfl (fun j e' hj hon => ?_)
      rw [Nat.zero_add]
      by_cases h1 : j < i
      · rw [hearlier j e' h1 hj hon]; simp [h1]
      · by_cases h2 : i < j
        · rw [hlater j e' h2 hj hon]; simp [h1]
        · have : j = i := by omega
          subst this; rw [hsl]; simp
    have hH : HA (SL (listed.setIfInBounds i true)) 0 es σ.H = upd (HA (SL listed) 0 es σ.H) A o2 := by
      funext id
      by_cases hid : id = A
      · subst hid
        rw [upd_same]
        refine HA_last es 0 _ hei hfx (by rw [Nat.zero_add, SL_set hisz]; simp) (fun j e' hij hj hon => ?_)
        rw [Nat.zero_add, SL_set hisz, hlater j e' hij hj hon]
        simp; omega
      · rw [upd_ne _ _ hid]
        refine HA_congr es 0 _ _ rfl (fun j e' hj hon => ?_)
        rw [Nat.zero_add, SL_set hisz]
        by_cases hji : j = i
        · subst hji; rw [hei] at hj; cases hj
          unfold EOp.on at hon; rw [hfx] at hon
          exact absurd (Nat.eq_of_beq_eq_true hon) hid
        · simp [hji]
    have hnr : e.cr = true → NoRefE A (EA (SL listed) 0 es σ.env) ∧ NoRefH A (HA (SL listed) 0 es σ.H) := by
      intro hc
      obtain ⟨hr1, hr2⟩ := hcr e (List.mem_of_getElem? hei) hc A honA
      have gE : ∀ (l : List EOp) (k : Nat) (env : Nat → AVal), NoRefE A env → (∀ (j : Nat) (e' : EOp), l[j]? = some e' → SL listed (k + j) = true → e'.c.noRef A = true) → NoRefE A (EA (SL listed) k l env) := by
        intro l
        induction l with
        | nil => intro k env h _; exact h
        | cons x l ih =>
          intro k env h hx
          simp only [EA]
          refine ih (k + 1) _ ?_ (fun j e' hj hs => hx (j + 1) e' (by simpa using hj) (by rw [show k + (j + 1) = k + 1 + j by omega]; exact hs))
          cases hk : SL listed k with
          | false => exact h
          | true =>
            cases hq : x.d with
            | none => simpa [putO] using h
            | some d => simpa [putO] using noRefE_upd (hx 0 x rfl (by simpa using hk)) h
      have gH : ∀ (l : List EOp) (k : Nat) (H : Nat → Obj), NoRefH A H → (∀ (j : Nat) (e' : EOp) (B : Nat) (o' : Obj), l[j]? = some e' → e'.fx = some (B, o') → o'.noRef A = true) → NoRefH A (HA (SL listed) k l H) := by
        intro l
        induction l with
        | nil => intro k env h _; exact h
        | cons x l ih =>
          intro k env h hx
          simp only [HA]
          refine ih (k + 1) _ ?_ (fun j e' B o' hj hs => hx (j + 1) e' B o' (by simpa using hj) hs)
          cases hk : SL listed k with
          | false => exact h
          | true =>
            cases hf : x.fx with
            | none => exact h
            | some p => exact noRefH_upd (hx 0 x p.1 p.2 rfl hf) h
      refine ⟨gE es 0 _ hr1 (fun j e' hj hs => ?_), gH es 0 _ hr2 (fun j e' B o' hj hf => (effOk_spec hef hei hfx hj).2.2.1 B o' hf)⟩
      rw [Nat.zero_add] at hs
      rcases (effOk_spec hef hei hfx hj).2.2.2 hc with h | h | h
      · exfalso
        have hlj := SL_lst.1 hs
        obtain ⟨hjm, _⟩ := hdst j e' hj
        have hjs : j < ops.size := by have := hok.le; omega
        have hoj : ops[j]? = some ops[j] := Array.getElem?_eq_getElem hjs
        have := hmask j _ hoj (hcl j _ hoj hlj) i h
        unfold Lst at this
        rw [hl] at this; cases this
      · subst h; rw [hsl] at hs; cases hs
      · exact h
    have := hS (EA (SL listed) 0 es σ.env) (HA (SL listed) 0 es σ.H) (hop _) hHA hnr F ρ a w hr
    unfold goes at this ⊢
    generalize (execOp a.eval o).run P w = r at this
    have fin : ∀ v w', (∃ F' ρ', Rel P β F' ρ' ⟨putO (EA (SL listed) 0 es σ.env) e.d e.c, upd (HA (SL listed) 0 es σ.H) A o2⟩ (a.put o.dst v) w') → K (a.put o.dst v) w' := by
      rintro v w' ⟨F', ρ', hr'⟩
      refine hK _ _ ⟨F', ρ', ?_⟩
      rw [henv, hH]; exact hr'
    cases r with
    | halt _ _ => exact this.elim
    | ok x w' =>
      cases x with
      | value v => exact fin v w' this
      | skip => exact fin undef w' this
      | enter f args => exact Calls.mono this fun e w'' ⟨v, he, h⟩ => ⟨v, he, fin v w'' h⟩
      | _ => exact this.elim

theorem draw_allE {ops : Array Oper} {m : Nat} {ids : List Nat} {σ σ' : St} {es : List EOp} (hok : DrawOk ops m) (hs : ES P β ids (ops.toList.take m) σ es σ') (hef : effOk ops es = true) (hcr : ∀ e ∈ es, e.cr = true → ∀ A, e.on A = true → NoRefE A σ.env ∧ NoRefH A σ.H) {Q : Exit → St → Prop} (htail : TL P β ops Q (ops.toList.drop m) σ') :
    ∀ (fuel : Nat) (listed : Array Bool) (a : Act) (w : World), listed.size = ops.size → listed.toList.count false = fuel → (∀ i o, ops[i]? = some o → Lst listed i → ∀ j ∈ edges o, Lst listed j) → (∀ i, m ≤ i → i < ops.size → listed[i]? = some false) →
      EInv P β σ es listed a w → wpAny P .any ops (Lift P β Q) fuel listed a w := by
  have hlen : (ops.toList.take m).length = m := by rw [List.length_take, Array.length_toList]; have := hok.le; omega
  obtain ⟨hel, _, hfin⟩ := hs.at_
  rw [hlen] at hel hfin
  have draw_fin : ∀ (listed : Array Bool) (a : Act) (w : World), (∀ i, i < m → Lst listed i) → EInv P β σ es listed a w → ∃ F ρ, Rel P β F ρ σ' a w := by
    rintro listed a w hall ⟨F, ρ, hr⟩
    refine ⟨F, ρ, ?_⟩
    have e1 : EA (SL listed) 0 es σ.env = EA (fun j => decide (j < m)) 0 es σ.env := by
      funext t
      refine EA_congr es 0 _ _ rfl (fun j e hj _ => ?_)
      have hjm : j < m := by rw [← hel]; exact (List.getElem?_eq_some_iff.1 hj).1
      rw [Nat.zero_add, SL_lst.2 (hall j hjm)]; simp [hjm]
    have e2 : HA (SL listed) 0 es σ.H = HA (fun j => decide (j < m)) 0 es σ.H := by
      funext t
      refine HA_congr es 0 _ _ rfl (fun j e hj _ => ?_)
      have hjm : j < m := by rw [← hel]; exact (List.getElem?_eq_some_iff.1 hj).1
      rw [Nat.zero_add, SL_lst.2 (hall j hjm)]; simp [hjm]
    rw [e1, e2, ← hfin] at hr
    exact hr
  intro fuel
  induction fuel with
  | zero =>
    intro listed a w hls hcnt hcl hhi hI
    have hmn : m = ops.size := by
      by_cases h : m < ops.size
      · have := hhi m (Nat.le_refl _) h
        have h2 := count_set this
        omega
      · have := hok.le; omega
    have hall : ∀ i, i < ops.size → Lst listed i := by
      intro i hi
      unfold Lst
      cases hq : listed[i]? with
      | none => rw [Array.getElem?_eq_none_iff] at hq; omega
      | some b =>
        cases b with
        | true => rfl
        | false => have := count_set hq; omega
    have hup : Upto listed m := fun i hi => by rw [hall i (by omega)]; simp; omega
    obtain ⟨F, ρ, hrel⟩ := draw_fin listed a w (fun i hi => hall i (by omega)) hI
    exact draw_tail (m := m) hok 0 m listed a w (Nat.le_refl _) (by omega) hls hup (htail F ρ a w hrel)
  | succ fuel ih =>
    intro listed a w hls hcnt hcl hhi hI
    by_cases hex : ∃ i, i < m ∧ listed[i]? = some false
    · have hle := hok.le
      have hleast : ∃ i, i < m ∧ listed[i]? = some false ∧ ∀ j, j < i → Lst listed j := by
        obtain ⟨i, hi, hf⟩ := hex
        induction i using Nat.strongRecOn with
        | _ i ih2 =>
          by_cases h : ∃ j, j < i ∧ listed[j]? = some false
          · obtain ⟨j, hj, hjf⟩ := h
            exact ih2 j hj (by omega) hjf
          · refine ⟨i, hi, hf, fun j hj => ?_⟩
            unfold Lst
            cases hq : listed[j]? with
            | none => rw [Array.getElem?_eq_none_iff] at hq; omega
            | some b =>
              cases b with
              | true => rfl
              | false => exact absurd ⟨j, hj, hq⟩ h
      obtain ⟨i0, hi0, hf0, hlow⟩ := hleast
      have ho0 : ops[i0]? = some (ops[i0]'(by omega)) := Array.getElem?_eq_getElem (by omega)
      have hmem0 : i0 ∈ Region.ready .any ops listed := (ready_mem hls).2 ⟨_, ho0, hf0, fun j hj => hlow j (hok.lt i0 _ ho0 j hj)⟩
      refine ⟨fun hnil => (by rw [hnil] at hmem0; cases hmem0), fun i hi => ?_⟩
      obtain ⟨o, ho, hl, he⟩ := (ready_mem hls).1 hi
      have hin : i < ops.size := (Array.getElem?_eq_some_iff.1 ho).1
      by_cases him : i < m
      · refine draw_stepE hok hs hef hcr hls hcl him ho hl he hI (fun a' w' hI' => ih _ a' w' (by simpa using hls) (by have := count_set hl; omega) ?_ ?_ hI')
        · intro j oj hj hlj x hx
          have hisz : i < listed.size := by omega
          refine (lst_set hisz).2 (.inr ?_)
          rcases (lst_set hisz).1 hlj with e | h
          · subst e; rw [ho] at hj; cases hj; exact he x hx
          · exact hcl j oj hj h x hx
        · intro j hmj hjn
          rw [Array.getElem?_setIfInBounds, if_neg (by omega)]
          exact hhi j hmj hjn
      · have hall := masks_listed hok.lt hcl i o ho he i0
        rw [hok.msk i hin (by omega), Nat.testBit_two_pow_sub_one] at hall
        have := hall (by simp; omega)
        unfold Lst at this
        rw [hf0] at this
        cases this
    · have hup : Upto listed m := by
        intro i hi
        by_cases him : i < m
        · cases hq : listed[i]? with
          | none => rw [Array.getElem?_eq_none_iff] at hq; omega
          | some b =>
            cases b with
            | true => simp [him]
            | false => exact absurd ⟨i, him, hq⟩ hex
        · rw [hhi i (by omega) (by omega)]; simp [him]
      have hfuel : ∀ (l : List Bool) (k : Nat), (∀ i, i < l.length → l[i]? = some (decide (i < k))) → l.count false = l.length - k := by
        intro l
        induction l with
        | nil => intro k _; simp
        | cons b l ih =>
          intro k h
          have h0 := h 0 (by simp)
          simp at h0
          cases k with
          | zero =>
            have := ih 0 (fun i hi => by have := h (i + 1) (by simpa using hi); simpa using this)
            simp [h0, List.count_cons, this]
          | succ k =>
            have := ih k (fun i hi => by have := h (i + 1) (by simpa using hi); simpa using this)
            simp [h0, List.count_cons, this]
      have hc := hfuel listed.toList m (fun i hi => by have := hup i (by simpa using hi); simpa using this)
      rw [hcnt, Array.length_toList, hls] at hc
      have hle := hok.le
      have hall : ∀ i, i < m → Lst listed i := fun i hi => (upto_lst hup (by omega)).2 hi
      obtain ⟨F, ρ, hrel⟩ := draw_fin listed a w hall hI
      exact draw_tail (m := m) hok (fuel + 1) m listed a w (Nat.le_refl _) (by omega) hls hup (htail F ρ a w hrel)

/-! ### Its use -/
def DGoE (P : Program) (β : Base) (ops : Array Oper) (ids cids : List Nat) (Q : Exit → St → Prop) (tail : List Oper) (acc : List EOp) (l : List Oper) (σ : St) : Prop := ∃ es σ', ES P β ids l σ es σ' ∧ effOk ops (acc.reverse ++ es) = true ∧ TL P β ops Q tail σ' ∧ ∀ e ∈ es, e.cr = true → ∀ A, e.on A = true → cids.contains A = true
theorem DE_nil (n : Nat) (M : List Nat) {ops : Array Oper} {ids cids : List Nat} {Q : Exit → St → Prop} {tail : List Oper} {acc : List EOp} {σ : St} (h : TL P β ops Q tail σ) (hM : masks ops.toList [] = M := by rfl) (hn : acc.length = n := by rfl) (he : effAll M n acc n acc = true := by rfl) : DGoE P β ops ids cids Q tail acc [] σ := ⟨[], σ, .nil σ, by subst hM; subst hn; simpa [effOk] using he, h, by simp⟩
theorem DE_pure {ops : Array Oper} {ids cids : List Nat} {Q : Exit → St → Prop} {tail l : List Oper} {acc : List EOp} {σ : St} {o : Oper} {d : Nat} {c : AVal} (h : AllH ids σ.H fun H => GStep P β H o (aev σ) c) (k : DGoE P β ops ids cids Q tail (⟨some d, c, none, false⟩ :: acc) l (σ.put d c)) (hd : o.dst = some d := by rfl) (hn : Nat.blt d β.n = true := by rfl) (hg : o.guard = none := by rfl) : DGoE P β ops ids cids Q tail acc (o :: l) σ := by
  obtain ⟨es, σ', h1, h2, h3, h4⟩ := k
  refine ⟨_ :: es, σ', .pure hd hn hg h h1, by simpa using h2, h3, fun e he hc => ?_⟩
  rcases List.mem_cons.1 he with rfl | he
  · cases hc
  · exact h4 e he hc
theorem DE_eff {ops : Array Oper} {ids cids : List Nat} {Q : Exit → St → Prop} {tail l : List Oper} {acc : List EOp} {σ : St} {o : Oper} {d : Option Nat} {A : Nat} {c : AVal} {o2 : Obj} (cr : Bool) (h : ∀ env H, (∀ x ∈ o.op.operands, aev ⟨env, H⟩ x = aev σ x) → H A = σ.H A → (cr = true → NoRefE A env ∧ NoRefH A H) → SStep P β ⟨env, H⟩ o ⟨putO env d c, upd H A o2⟩)
    (k : DGoE P β ops ids cids Q tail (⟨d, c, some (A, o2), cr⟩ :: acc) l ⟨putO σ.env d c, upd σ.H A o2⟩) (hd : o.dst = d := by rfl) (hg : o.guard = none := by rfl) (hA : ids.contains A = true := by rfl) (hcc : (!cr || cids.contains A) = true := by rfl) : DGoE P β ops ids cids Q tail acc (o :: l) σ := by
  obtain ⟨es, σ', h1, h2, h3, h4⟩ := k
  refine ⟨_ :: es, σ', .eff hd hg hA h h1, by simpa using h2, h3, fun e he hc B hB => ?_⟩
  rcases List.mem_cons.1 he with rfl | he
  · have := Nat.eq_of_beq_eq_true (show Nat.beq B A = true from hB)
    subst this
    dsimp only at hc
    rw [hc] at hcc
    simpa using hcc
  · exact h4 e he hc B hB
theorem T_drawE {id : Nat} {ops : List Oper} {Q : Exit → St → Prop} {σ : St} (m : Nat) (ids cids : List Nat) (hm : P.follows .mixedOrders = true) (hok : drawOk ops.toArray m = true) (hcr : ∀ A, cids.contains A = true → NoRefE A σ.env ∧ NoRefH A σ.H) (h : DGoE P β ops.toArray ids cids Q (ops.drop m) [] (ops.take m) σ) : T P β (.region id ops.toArray true) Q σ := by
  intro F ρ a w hr
  obtain ⟨es, σ', hs, hef, htail, hcc⟩ := h
  refine wp_region_any hm ?_
  have hr' : Rel P β F ρ σ a { w with drawn := w.drawn + 1 } := hr.drew
  refine draw_allE (m := m) (drawOk_spec hok) (σ' := σ') (es := es) (σ := σ) (ids := ids) (by simpa using hs) (by simpa using hef) (fun e he hc A hA => hcr A (hcc e he hc A hA)) (by simpa using htail) _ _ _ _ (by simp) (by simp) ?_ ?_ ?_
  · intro i o ho hl
    unfold Lst at hl
    rw [Array.getElem?_replicate] at hl
    split at hl <;> cases hl
  · intro i _ hi
    rw [Array.getElem?_replicate, if_pos hi]
  · refine ⟨F, ρ, ?_⟩
    have hS : ∀ j, SL (Array.replicate ops.toArray.size false) j = false := by
      intro j
      unfold SL
      rw [Array.getD_eq_getD_getElem?, Array.getElem?_replicate]
      split <;> rfl
    have e1 : EA (SL (Array.replicate ops.toArray.size false)) 0 es σ.env = σ.env := by
      rw [← EA_zero es 0 σ.env]
      funext t
      rw [EA_zero]
      have h2 := EA_congr (S := SL (Array.replicate ops.toArray.size false)) (S' := fun j => decide (j < 0)) (t := t) es 0 σ.env σ.env rfl (fun j e _ _ => by rw [hS]; simp)
      rw [h2, EA_zero]
    have e2 : HA (SL (Array.replicate ops.toArray.size false)) 0 es σ.H = σ.H := by
      funext t
      have h2 := HA_congr (S := SL (Array.replicate ops.toArray.size false)) (S' := fun j => decide (j < 0)) (A := t) es 0 σ.H σ.H rfl (fun j e _ _ => by rw [hS]; simp)
      rw [h2, HA_zero]
    rw [e1, e2]
    exact hr'
theorem DE_x {ops : Array Oper} {ids cids : List Nat} {Q : Exit → St → Prop} {tail l : List Oper} {acc : List EOp} {σ : St} {o : Oper} {d : Nat} {c : AVal} (k : DGoE P β ops ids cids Q tail (⟨some d, c, none, false⟩ :: acc) l (σ.put d c))
    (h : AllH ids σ.H fun H => GStep P β H o (aev σ) c := by
      repeat intro _
      first
        | exact f_move rfl
        | exact f_assign rfl
        | exact g_icmp rfl rfl rfl rfl
        | exact g_len_sl rfl rfl CSlice.o rfl
        | exact g_len_str rfl rfl CStr.o rfl
        | exact g_len_asl rfl rfl rfl rfl CSlice.o rfl
        | exact g_len_asl rfl rfl rfl (by simp) CSlice.o rfl
        | exact g_len_lit rfl rfl CSlice.o rfl
        | exact g_len_nil rfl rfl CSlice.o
        | exact g_field_box rfl rfl CField.o rfl
        | exact g_field_pt rfl rfl CField.o rfl
        | exact g_field_el rfl rfl rfl rfl CField.o rfl
        | exact g_load_box rfl rfl CCell.o rfl rfl
        | exact g_load_pt rfl rfl CCell.o rfl
        | exact f_load_box_row rfl rfl CRow.o rfl rfl
        | exact f_load_pt_row rfl rfl CRow.o rfl
        | exact g_load_el rfl rfl CCell.o rfl rfl rfl
        | exact g_scmp rfl rfl rfl rfl
        | exact g_not rfl rfl
        | exact f_pick rfl rfl
        | exact g_extract rfl rfl rfl
        | exact g_add rfl rfl rfl (wr64 _ (by first | omega | (simp only [List.length_map]; omega)))
        | exact g_sub rfl rfl rfl (wr64 _ (by first | omega | (simp only [List.length_map]; omega)))
        | exact g_bcmp rfl rfl rfl CBool.o rfl
        | exact g_nilCheck_box rfl rfl
        | exact g_nilCheck_pt rfl rfl
        | exact f_makeFunc rfl
        | exact g_buildSlice rfl CElem.o rfl rfl rfl (by repeat (first | exact .nil | (apply RdL.cons; first | exact .d _ | exact .nil _ _ | exact .litn _ _ _ | exact .lit _ _ | exact .asl _ _ _ _ _ rfl rfl | exact .asln _ _ _ _ _ _ _ rfl rfl | exact .emp _ _ _ _))) rfl rfl rfl
        | exact g_build rfl CBuild.o rfl rfl rfl rfl (by first | exact .d _ | exact .agg _)
        | exact g_sadd rfl rfl rfl (by first | omega | (simp; omega))
        | exact g_index_sl rfl rfl rfl CSlice.o (by omega) (get_map (by assumption))
        | exact g_index_str rfl rfl rfl CStr.o (by omega) (by assumption)) (hd : o.dst = some d := by rfl) (hn : Nat.blt d β.n = true := by rfl) (hg : o.guard = none := by rfl) : DGoE P β ops ids cids Q tail acc (o :: l) σ := DE_pure h k hd hn hg
theorem e_new0 {σ : St} {o : Oper} {t e sz by_ dst : Nat} (A : Nat) (ho : o.op = .buildSlice t 0 #[]) (hdst : o.dst = some dst) (hdn : Nat.blt dst β.n = true) (ht : ElemT P t e sz by_) (h0 : Nat.blt 0 sz = true) : ∀ env H, (∀ x ∈ o.op.operands, aev ⟨env, H⟩ x = aev σ x) → H A = σ.H A → (true = true → NoRefE A env ∧ NoRefH A H) → SStep P β ⟨env, H⟩ o ⟨putO env (some dst) (.asl A 0), upd H A (.arr true sz e [])⟩ := by
  intro env H _ _ hn
  obtain ⟨h1, h2⟩ := hn rfl
  exact s_buildSlice (σ := ⟨env, H⟩) (id := A) (l := []) ho hdst hdn ht h0 rfl rfl .nil rfl rfl (by simp) h1 h2
theorem e_append {σ : St} {o : Oper} {t e sz by_ dst A n m : Nat} {mu : Bool} {x y : Operand} {l l2 l' : List D} (ho : o.op = .call { callee := .builtin .append, args := #[x, y], argTypes := #[t, t] }) (hd : o.dst = some dst) (hdn : Nat.blt dst β.n = true)
    (hx : aev σ x = .asl A n) (hH : σ.H A = .arr mu sz e l) (hn : n = l.length) (hy : ∀ H, IsSl H sz (aev σ y) l2) (ht : ElemT P t e sz by_) (hl' : l ++ l2 = l') (hm : l'.length = m) (hb : m * by_ ≤ 140737488355328) (hml : m ≤ maxLen) :
    ∀ env H, (∀ x ∈ o.op.operands, aev ⟨env, H⟩ x = aev σ x) → H A = σ.H A → (false = true → NoRefE A env ∧ NoRefH A H) → SStep P β ⟨env, H⟩ o ⟨putO env (some dst) (.asl A m), upd H A (.arr mu sz e l')⟩ := by
  intro env H hag hA _
  refine s_append_to (σ := ⟨env, H⟩) (id := A) ho hd hdn ?_ (by dsimp only; rw [hA]; exact hH) hn ?_ ht hl' hm hb hml
  · rw [hag x (by simp [ho, Op.operands, Call.operands])]; exact hx
  · rw [hag y (by simp [ho, Op.operands, Call.operands])]; exact hy H
theorem e_alloc {σ : St} {o : Oper} {t dst : Nat} {zs : List Value} {cs : List AVal} (A : Nat) (ho : o.op = .alloc t) (hd : o.dst = some dst) (hdn : Nat.blt dst β.n = true) (hz : ZeroT P t zs) (hz1 : zs.all (fun v => v.oneCell') = true) (hc : SLA (zs.map constC) cs) (hx0 : β.fx A = false) (h3 : noRefL A cs = true) :
    ∀ env H, (∀ x ∈ o.op.operands, aev ⟨env, H⟩ x = aev σ x) → H A = σ.H A → (true = true → NoRefE A env ∧ NoRefH A H) → SStep P β ⟨env, H⟩ o ⟨putO env (some dst) (.box A 0), upd H A (.box cs)⟩ := by
  intro env H _ _ hn
  obtain ⟨h1, h2⟩ := hn rfl
  exact fs_alloc (σ := ⟨env, H⟩) (id := A) ho hd hdn hz hz1 hc hx0 h1 h2 h3
theorem e_store {σ : St} {o : Oper} {t A k n : Nat} {x y : Operand} {c : AVal} {cs cs' : List AVal} (ho : o.op = .store t x y) (hd : o.dst = none) (hx : aev σ x = .box A k) (hH : σ.H A = .box cs) (hy : IsA (aev σ y) c) (hv : c.isVal = true) (ht : SizeT P t n) (hn : c.cells.length = n) (hk : Nat.ble (k + n) cs.length = true) (hc : SLA (splice cs k c.cells) cs') :
    ∀ env H, (∀ x ∈ o.op.operands, aev ⟨env, H⟩ x = aev σ x) → H A = σ.H A → (false = true → NoRefE A env ∧ NoRefH A H) → SStep P β ⟨env, H⟩ o ⟨putO env none .junk, upd H A (.box cs')⟩ := by
  intro env H hag hA _
  refine fs_store_box (σ := ⟨env, H⟩) (id := A) ho hd ?_ (by dsimp only; rw [hA]; exact hH) ?_ hv ht hn hk hc
  · rw [hag x (by simp [ho, Op.operands])]; exact hx
  · rw [hag y (by simp [ho, Op.operands])]; exact hy
theorem DE_alloc (A : Nat) {ops : Array Oper} {ids cids : List Nat} {Q : Exit → St → Prop} {tail l : List Oper} {acc : List EOp} {σ : St} {o : Oper} {t dst : Nat} {zs : List Value} {cs : List AVal} (k : DGoE P β ops ids cids Q tail (⟨some dst, .box A 0, some (A, .box cs), true⟩ :: acc) l ⟨putO σ.env (some dst) (.box A 0), upd σ.H A (.box cs)⟩)
    (ho : o.op = .alloc t := by rfl) (hz : CZero P t zs := by infer_instance) (hg : o.guard = none := by rfl) (hd : o.dst = some dst := by rfl) (hn : Nat.blt dst β.n = true := by rfl) (hz1 : zs.all (fun v => v.oneCell') = true := by rfl) (hc : SLA (zs.map constC) cs := by repeat (first | exact .nil | (apply SLA.cons; first | exact .d _ | exact .nil)))
    (hx0 : β.fx A = false := by rfl) (h3 : noRefL A cs = true := by rfl) (hA : ids.contains A = true := by rfl) (hcc : (!true || cids.contains A) = true := by rfl) : DGoE P β ops ids cids Q tail acc (o :: l) σ := DE_eff true (e_alloc A ho hd hn hz.o hz1 hc hx0 h3) k hd hg hA hcc
theorem DE_store {ops : Array Oper} {ids cids : List Nat} {Q : Exit → St → Prop} {tail l : List Oper} {acc : List EOp} {σ : St} {o : Oper} {t A p n : Nat} {x y : Operand} {c : AVal} {cs cs' : List AVal} (k : DGoE P β ops ids cids Q tail (⟨none, .junk, some (A, .box cs'), false⟩ :: acc) l ⟨putO σ.env none .junk, upd σ.H A (.box cs')⟩)
    (ho : o.op = .store t x y := by rfl) (ht : CSize P t n := by infer_instance) (hg : o.guard = none := by rfl) (hd : o.dst = none := by rfl) (hx : aev σ x = .box A p := by rfl) (hH : σ.H A = .box cs := by rfl)
    (hy : IsA (aev σ y) c := by first | exact .d _ | exact .box _ _ | exact .asl _ _ | exact .nil | exact .lit _ _ | exact .agg _ | exact .clo _ _ | exact .fnv _ | exact .el _ _ _ | exact .mp _)
    (hv : c.isVal = true := by rfl) (hn : c.cells.length = n := by rfl) (hk : Nat.ble (p + n) cs.length = true := by rfl)
    (hc : SLA (splice cs p c.cells) cs' := by repeat (first | exact .nil | (apply SLA.cons; first | exact .d _ | exact .box _ _ | exact .asl _ _ | exact .nil | exact .lit _ _ | exact .clo _ _ | exact .fnv _ | exact .el _ _ _ | exact .mp _))) (hA : ids.contains A = true := by rfl) : DGoE P β ops ids cids Q tail acc (o :: l) σ := DE_eff false (e_store ho hd hx hH hy hv ht.o hn hk hc) k hd hg hA
end Go.Q
