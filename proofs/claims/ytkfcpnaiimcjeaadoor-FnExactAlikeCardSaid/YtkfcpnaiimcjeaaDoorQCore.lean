/- The words of a program logic over abstract states: pure data, what a Go value reads as, and what a state of a call reads as. No condition. -/
import Derived.Deep.MidRow
import Derived.OwnWalk
import Derived.Below
import Derived.WalkKit
set_option linter.unusedVariables false
namespace Go.Q
open Go.RowKit

/-! ### Pure data -/
inductive D where
  | s (v : Value)
  | sl (sz : Nat) (o : Option Nat) (l : List D)
  | agg (l : List D)
  | pt (l : List D) (off : Nat)
  | mp (ks vs : List D)
  deriving Inhabited

def D.cells : D → List D
  | .agg l => l
  | d => [d]
def D.isCell : D → Bool
  | .agg _ => false
  | _ => true
def flat (l : List D) : List D := l.flatMap D.cells

theorem flat_cons (d : D) (l : List D) : flat (d :: l) = d.cells ++ flat l := by simp [flat]
theorem flat_nil : flat [] = [] := rfl
theorem flat_append (l m : List D) : flat (l ++ m) = flat l ++ flat m := by simp [flat]
theorem flat_length {sz : Nat} : ∀ {l : List D}, (∀ d ∈ l, d.cells.length = sz) → (flat l).length = l.length * sz
  | [], _ => by simp [flat]
  | d :: l, h => by
    rw [flat_cons, List.length_append, h d (by simp), flat_length (fun d hd => h d (by simp [hd])), List.length_cons, Nat.succ_mul]
    omega

abbrev Fz := Nat → Nat

def fr? (w : World) (b : Nat) : Option (TypeId × Nat × Nat) :=
  match w.heap[b]? with
  | some (.cells _ e fr) => some (e, fr)
  | _ => none

/-- What a value reads as; what is read lies in the part of memory that stays. -/
inductive VR (F : Fz) (w : World) : D → Value → Prop
  | s (v : Value) (h : v.oneCell' = true) : VR F w (.s v) v
  | agg (l : List D) (vs : List Value) (hl : vs.length = l.length) (hc : ∀ d ∈ l, d.isCell = true)
      (h : ∀ (i : Nat) (d : D) (v : Value), l[i]? = some d → vs[i]? = some v → VR F w d v) : VR F w (.agg l) (.agg vs.toArray)
  | sl0 (sz : Nat) (o : Option Nat) (a : Option Addr) (cap : Nat) (h : cap ≤ maxLen) : VR F w (.sl sz o []) (.slice a 0 cap)
  | sl (sz : Nat) (o : Option Nat) (l : List D) (b off cap : Nat) (cs : List Value) (hne : l ≠ []) (h0 : 0 < sz) (hsz : ∀ d ∈ l, d.cells.length = sz)
      (hc : ∀ d ∈ flat l, d.isCell = true) (hcap : l.length ≤ cap) (hmax : cap ≤ maxLen) (hr : w.rangeAt b off cs) (hl : cs.length = (flat l).length)
      (hF : off + cs.length ≤ F b) (ho : ∀ x, o = some x → x = b ∧ off = 0 ∧ ∃ e, fr? w b = some (e, 0, 0))
      (h : ∀ (i : Nat) (d : D) (v : Value), (flat l)[i]? = some d → cs[i]? = some v → VR F w d v) : VR F w (.sl sz o l) (.slice (some ⟨b, off, none⟩) l.length cap)
  | pt (l : List D) (off b o : Nat) (cs : List Value) (hc : ∀ d ∈ l, d.isCell = true) (hr : w.rangeAt b o cs) (hl : cs.length = l.length) (hF : o + cs.length ≤ F b)
      (h : ∀ (i : Nat) (d : D) (v : Value), l[i]? = some d → cs[i]? = some v → VR F w d v) : VR F w (.pt l off) (.pointer (some ⟨b, o + off, none⟩))
  | mp (ks vs : List D) (b : Nat) (es : Array MapEntry) (c : Nat) (hb : w.heap[b]? = some (.map es c)) (hF : 0 < F b) (hk : ks.length = es.size) (hv : vs.length = es.size)
      (h1 : ∀ (i : Nat) (d : D) (e : MapEntry), ks[i]? = some d → es[i]? = some e → VR F w d e.key) (h2 : ∀ (i : Nat) (d : D) (e : MapEntry), vs[i]? = some d → es[i]? = some e → VR F w d e.val) : VR F w (.mp ks vs) (.map (some b))

/-- The part of memory that stays, stays. -/
structure Ext (F : Fz) (w w' : World) : Prop where
  cell : ∀ b o, o < F b → w'.cell? ⟨b, o, none⟩ = w.cell? ⟨b, o, none⟩
  fr : ∀ b, 0 < F b → fr? w' b = fr? w b
  mp : ∀ b es c, 0 < F b → w.heap[b]? = some (.map es c) → w'.heap[b]? = some (.map es c)

theorem rangeAt_ext {F : Fz} {w w' : World} (hE : Ext F w w') {b o : Nat} {cs : List Value} (hr : w.rangeAt b o cs) (hF : o + cs.length ≤ F b) : w'.rangeAt b o cs := by
  intro j v hj
  have hl := (List.getElem?_eq_some_iff.1 hj).1
  rw [hE.cell b (o + j) (by omega)]
  exact hr j v hj

theorem VR.mono {F F' : Fz} {w w' : World} (hE : Ext F w w') (hF : ∀ b, F b ≤ F' b) {d : D} {v : Value} (h : VR F w d v) : VR F' w' d v := by
  induction h with
  | s v h => exact .s v h
  | agg l vs hl hc h ih => exact .agg l vs hl hc ih
  | sl0 sz o a cap h => exact .sl0 sz o a cap h
  | sl sz o l b off cap cs hne h0 hsz hc hcap hmax hr hl hFb ho h ih =>
    have hpos : 0 < F b := by
      have h1 : 0 < l.length := List.length_pos_iff.2 hne
      have h2 : 0 < l.length * sz := Nat.mul_pos h1 h0
      rw [← flat_length hsz, ← hl] at h2
      omega
    refine .sl sz o l b off cap cs hne h0 hsz hc hcap hmax (rangeAt_ext hE hr hFb) hl (Nat.le_trans hFb (hF b)) ?_ ih
    intro x hx
    obtain ⟨h1, h2, e, h3⟩ := ho x hx
    exact ⟨h1, h2, e, by rw [hE.fr b hpos]; exact h3⟩
  | pt l off b o cs hc hr hl hFb h ih => exact .pt l off b o cs hc (rangeAt_ext hE hr hFb) hl (Nat.le_trans hFb (hF b)) ih
  | mp ks vs b es c hb hFb hk hv h1 h2 ih1 ih2 => exact .mp ks vs b es c (hE.mp b es c hFb hb) (Nat.lt_of_lt_of_le hFb (hF b)) hk hv ih1 ih2

theorem VR.oneCell {F : Fz} {w : World} {d : D} {v : Value} (h : VR F w d v) (hd : d.isCell = true) : v.oneCell' = true := by
  cases h <;> first | assumption | rfl | cases hd

theorem Ext.refl (F : Fz) (w : World) : Ext F w w := ⟨fun _ _ _ => rfl, fun _ _ => rfl, fun _ _ _ _ h => h⟩

/-! ### The frame of a call -/
/-- What a call leaves as it was: all blocks that were there, but for those of M; of these the part that stays. -/
structure Kept (M : Nat → Prop) (w0 : World) (F0 : Fz) (w : World) (F : Fz) : Prop where
  os : w.os = w0.os
  tape : w.tape = w0.tape
  output : w.output = w0.output
  size : w0.heap.size ≤ w.heap.size
  blk : ∀ b, b < w0.heap.size → ¬ M b → w.heap[b]? = w0.heap[b]? ∧ F b = F0 b
  fz : ∀ b, b < w0.heap.size → M b → F0 b ≤ F b ∧ (∀ o, o < F0 b → w.cell? ⟨b, o, none⟩ = w0.cell? ⟨b, o, none⟩) ∧ fr? w b = fr? w0 b ∧ (∀ es c, 0 < F0 b → w0.heap[b]? = some (.map es c) → w.heap[b]? = some (.map es c))

/-- Nothing is called staying that isn't there yet. -/
def WF (F : Fz) (w : World) : Prop := ∀ b, w.heap.size ≤ b → F b = 0

theorem Kept.refl (M : Nat → Prop) (w : World) (F : Fz) : Kept M w F w F :=
  ⟨rfl, rfl, rfl, Nat.le_refl _, fun _ _ _ => ⟨rfl, rfl⟩, fun _ _ _ => ⟨Nat.le_refl _, fun _ _ => rfl, rfl, fun _ _ _ h => h⟩⟩

theorem cell_of_blk {w w' : World} {b : Nat} (h : w'.heap[b]? = w.heap[b]?) (o : Nat) : w'.cell? ⟨b, o, none⟩ = w.cell? ⟨b, o, none⟩ := by simp [World.cell?, h]
theorem fr_of_blk {w w' : World} {b : Nat} (h : w'.heap[b]? = w.heap[b]?) : fr? w' b = fr? w b := by simp [fr?, h]

theorem Kept.ext {M : Nat → Prop} {w0 w : World} {F0 F : Fz} (h : Kept M w0 F0 w F) (hw : WF F0 w0) : Ext F0 w0 w := by
  constructor
  · intro b o ho
    by_cases hb : b < w0.heap.size
    · by_cases hM : M b
      · exact (h.fz b hb hM).2.1 o ho
      · exact cell_of_blk (h.blk b hb hM).1 o
    · rw [hw b (by omega)] at ho; omega
  · intro b ho
    by_cases hb : b < w0.heap.size
    · by_cases hM : M b
      · exact (h.fz b hb hM).2.2.1
      · exact fr_of_blk (h.blk b hb hM).1
    · rw [hw b (by omega)] at ho; omega
  · intro b es c ho he
    by_cases hb : b < w0.heap.size
    · by_cases hM : M b
      · exact (h.fz b hb hM).2.2.2 es c ho he
      · rw [(h.blk b hb hM).1]; exact he
    · rw [hw b (by omega)] at ho; omega

theorem Kept.le {M : Nat → Prop} {w0 w : World} {F0 F : Fz} (h : Kept M w0 F0 w F) (hw : WF F0 w0) (b : Nat) : F0 b ≤ F b := by
  by_cases hb : b < w0.heap.size
  · by_cases hM : M b
    · exact (h.fz b hb hM).1
    · rw [(h.blk b hb hM).2]; exact Nat.le_refl _
  · rw [hw b (by omega)]; exact Nat.zero_le _

theorem Kept.trans {M N : Nat → Prop} {w0 w1 w2 : World} {F0 F1 F2 : Fz} (h : Kept M w0 F0 w1 F1) (k : Kept N w1 F1 w2 F2) (hN : ∀ b, b < w0.heap.size → N b → M b) : Kept M w0 F0 w2 F2 := by
  refine ⟨k.os.trans h.os, k.tape.trans h.tape, k.output.trans h.output, Nat.le_trans h.size k.size, ?_, ?_⟩
  · intro b hb hM
    have h1 := h.blk b hb hM
    have h2 := k.blk b (Nat.lt_of_lt_of_le hb h.size) (fun hn => hM (hN b hb hn))
    exact ⟨h2.1.trans h1.1, h2.2.trans h1.2⟩
  · intro b hb hM
    have h1 := h.fz b hb hM
    by_cases hn : N b
    · have h2 := k.fz b (Nat.lt_of_lt_of_le hb h.size) hn
      exact ⟨Nat.le_trans h1.1 h2.1, fun o ho => (h2.2.1 o (by omega)).trans (h1.2.1 o ho), h2.2.2.1.trans h1.2.2.1, fun es c hp he => h2.2.2.2 es c (by omega) (h1.2.2.2 es c hp he)⟩
    · have h2 := k.blk b (Nat.lt_of_lt_of_le hb h.size) hn
      exact ⟨by rw [h2.2]; exact h1.1, fun o ho => (cell_of_blk h2.1 o).trans (h1.2.1 o ho), (fr_of_blk h2.1).trans h1.2.2.1, fun es c hp he => by rw [h2.1]; exact h1.2.2.2 es c hp he⟩

theorem Kept.mono {M N : Nat → Prop} {w0 w : World} {F0 F : Fz} (h : Kept M w0 F0 w F) (hMN : ∀ b, M b → N b) : Kept N w0 F0 w F := by
  refine ⟨h.os, h.tape, h.output, h.size, fun b hb hn => h.blk b hb (fun hm => hn (hMN b hm)), fun b hb hn => ?_⟩
  by_cases hM : M b
  · exact h.fz b hb hM
  · have h2 := h.blk b hb hM
    exact ⟨by rw [h2.2]; exact Nat.le_refl _, fun o _ => cell_of_blk h2.1 o, fr_of_blk h2.1, fun es c _ he => by rw [h2.1]; exact he⟩

def noM : Nat → Prop := fun _ => False

/-- What a list of results reads as, in the one value that a call hands back. -/
def ResR (F : Fz) (w : World) : List D → Value → Prop
  | [d], v => VR F w d v
  | ds, v => ∃ vs : List Value, v = .tuple vs.toArray ∧ vs.length = ds.length ∧ ∀ (i : Nat) (d : D) (x : Value), ds[i]? = some d → vs[i]? = some x → VR F w d x

theorem ResR.mono {F F' : Fz} {w w' : World} (hE : Ext F w w') (hF : ∀ b, F b ≤ F' b) {ds : List D} {v : Value} (h : ResR F w ds v) : ResR F' w' ds v := by
  match ds, h with
  | [d], h => exact VR.mono hE hF h
  | [], ⟨vs, e, hl, h⟩ => exact ⟨vs, e, hl, fun i d x h1 h2 => (h i d x h1 h2).mono hE hF⟩
  | _ :: _ :: _, ⟨vs, e, hl, h⟩ => exact ⟨vs, e, hl, fun i d x h1 h2 => (h i d x h1 h2).mono hE hF⟩

/-- A call that hands back R and leaves what was there. -/
def PostP (w : World) (F : Fz) (R : List D → Prop) (e : Ending) (w' : World) : Prop :=
  ∃ v F' ds, e = .returned v ∧ R ds ∧ Kept noM w F w' F' ∧ WF F' w' ∧ ResR F' w' ds v

theorem Ext.trans {F F' : Fz} {w w' w'' : World} (h : Ext F w w') (hF : ∀ b, F b ≤ F' b) (k : Ext F' w' w'') : Ext F w w'' :=
  ⟨fun b o ho => (k.cell b o (Nat.lt_of_lt_of_le ho (hF b))).trans (h.cell b o ho), fun b hb => (k.fr b (Nat.lt_of_lt_of_le hb (hF b))).trans (h.fr b hb), fun b es c hb he => k.mp b es c (Nat.lt_of_lt_of_le hb (hF b)) (h.mp b es c hb he)⟩

/-- A function value that answers as p, in every world in which the part that stays has stayed. -/
def FnOk (P : Program) (w : World) (F : Fz) (v : Value) (p : List D → List D → Prop) : Prop :=
  ∃ (f : FuncId) (caps : List Value), v = .func (.func f) #[] caps.toArray ∧ (∃ fn c, P.funcs[f]? = some fn ∧ fn.body = some c ∧ (fn.name == "runtime.NumGoroutine") = false) ∧
    ∀ w' F', Ext F w w' → (∀ b, F b ≤ F' b) → WF F' w' → ∀ ds rs (vs : List Value), p ds rs → vs.length = ds.length → (∀ (i : Nat) (d : D) (x : Value), ds[i]? = some d → vs[i]? = some x → VR F' w' d x) →
      Calls P f (vs ++ caps).toArray w' (PostP w' F' (· = rs))
theorem FnOk.mono {P : Program} {F F' : Fz} {w w' : World} {v : Value} {p : List D → List D → Prop} (h : FnOk P w F v p) (hE : Ext F w w') (hF : ∀ b, F b ≤ F' b) : FnOk P w' F' v p := by
  obtain ⟨f, caps, h1, h2, h3⟩ := h
  exact ⟨f, caps, h1, h2, fun w2 F2 hE2 hF2 hw => h3 w2 F2 (hE.trans hF hE2) (fun b => Nat.le_trans (hF b) (hF2 b)) hw⟩

/-! ### Abstract states -/
inductive AVal where
  | junk
  | d (x : D)
  | agg (l : List AVal)
  | box (id off : Nat)
  | asl (id n : Nat)
  | el (id n k : Nat)
  | nil
  | lit (sz : Nat) (l : List D)
  | clo (f : FuncId) (caps : List AVal)
  | fnv (p : List D → List D → Prop)
  | tup (l : List AVal)
  | mp (id : Nat)
  deriving Inhabited

def AVal.cells : AVal → List AVal
  | .agg l => l
  | .d (.agg l) => l.map .d
  | v => [v]
def AVal.isCell : AVal → Bool
  | .agg _ | .d (.agg _) | .tup _ | .junk => false
  | _ => true

inductive Obj where
  | dead
  | box (cs : List AVal)
  | arr (mu : Bool) (sz : Nat) (e : TypeId) (l : List D)
  | map (ks vs : List D)
  deriving Inhabited

structure St where
  env : Nat → AVal
  H : Nat → Obj

structure Gh where
  blk : Nat → Nat
  hd : Nat → Value

structure Base where
  w0 : World
  F0 : Fz
  M : Nat → Prop
  n : Nat
  fx : Nat → Bool := fun _ => false
  b0 : Nat → Nat := fun _ => 0

def Base.own (β : Base) (b : Nat) : Prop := β.w0.heap.size ≤ b ∨ β.M b

inductive AVR (P : Program) (β : Base) (F : Fz) (ρ : Gh) (H : Nat → Obj) (w : World) : AVal → Value → Prop
  | junk (v : Value) : AVR P β F ρ H w .junk v
  | d (x : D) (v : Value) (h : VR F w x v) : AVR P β F ρ H w (.d x) v
  | agg (l : List AVal) (vs : List Value) (hl : vs.length = l.length) (hc : ∀ c ∈ l, c.isCell = true) (h : ∀ (i : Nat) (c : AVal) (v : Value), l[i]? = some c → vs[i]? = some v → AVR P β F ρ H w c v) : AVR P β F ρ H w (.agg l) (.agg vs.toArray)
  | box (id off : Nat) : AVR P β F ρ H w (.box id off) (.pointer (some ⟨ρ.blk id, off, none⟩))
  | asl (id n : Nat) (v : Value) (h1 : v.oneCell' = true) (h : ∀ mu sz e l, H id = .arr mu sz e l → n ≤ l.length ∧ (n = l.length → v = ρ.hd id)) : AVR P β F ρ H w (.asl id n) v
  | el (id n k : Nat) (v : Value) (h1 : v.oneCell' = true) (h : ∀ mu sz e l, H id = .arr mu sz e l → n ≤ l.length ∧ (n = l.length → ∃ g, (ρ.hd id).ownBlock = some g ∧ v = .pointer (some ⟨g, k, none⟩))) : AVR P β F ρ H w (.el id n k) v
  | nil : AVR P β F ρ H w .nil (.slice none 0 0)
  | lit (sz : Nat) (l : List D) (a : Option Addr) (h : VR F w (.sl sz none l) (.slice a l.length l.length)) : AVR P β F ρ H w (.lit sz l) (.slice a l.length l.length)
  | clo (f : FuncId) (caps : List AVal) (vs : List Value) (hl : vs.length = caps.length) (h : ∀ (i : Nat) (c : AVal) (v : Value), caps[i]? = some c → vs[i]? = some v → AVR P β F ρ H w c v) : AVR P β F ρ H w (.clo f caps) (.func (.func f) #[] vs.toArray)
  | fnv (p : List D → List D → Prop) (v : Value) (h1 : v.oneCell' = true) (h : FnOk P w F v p) : AVR P β F ρ H w (.fnv p) v
  | tup (l : List AVal) (vs : List Value) (hl : vs.length = l.length) (h : ∀ (i : Nat) (c : AVal) (v : Value), l[i]? = some c → vs[i]? = some v → AVR P β F ρ H w c v) : AVR P β F ρ H w (.tup l) (.tuple vs.toArray)
  | mp (id : Nat) : AVR P β F ρ H w (.mp id) (.map (some (ρ.blk id)))

def ORel (P : Program) (β : Base) (F : Fz) (ρ : Gh) (H : Nat → Obj) (w : World) (id : Nat) : Obj → Prop
  | .dead => True
  | .box cs => (∃ (vs : Array Value) (e : TypeId), w.heap[ρ.blk id]? = some (.cells vs e (0, 0)) ∧ vs.size = cs.length ∧ (∀ c ∈ cs, c.isCell = true) ∧ (∀ (i : Nat) (c : AVal) (v : Value), cs[i]? = some c → vs[i]? = some v → AVR P β F ρ H w c v)) ∧
      β.own (ρ.blk id) ∧ F (ρ.blk id) = 0
  | .arr mu sz e l => 0 < sz ∧ (∀ d ∈ l, d.cells.length = sz) ∧ (∀ d ∈ flat l, d.isCell = true) ∧ ∃ xs : List Value, w.ownsRow 0 e sz (ρ.hd id) l.length xs ∧
      (∀ (i : Nat) (d : D) (v : Value), (flat l)[i]? = some d → xs[i]? = some v → VR F w d v) ∧ (∀ g, (ρ.hd id).ownBlock = some g → β.own g ∧ F g = if mu then 0 else xs.length)
  | .map ks vs => (∃ (es : Array MapEntry) (c : Nat), w.heap[ρ.blk id]? = some (.map es c) ∧ ks.length = es.size ∧ vs.length = es.size ∧
      (∀ (i : Nat) (d : D) (e : MapEntry), ks[i]? = some d → es[i]? = some e → VR F w d e.key) ∧ (∀ (i : Nat) (d : D) (e : MapEntry), vs[i]? = some d → es[i]? = some e → VR F w d e.val)) ∧ β.own (ρ.blk id) ∧ F (ρ.blk id) = 0

def blkOf (ρ : Gh) (id : Nat) : Obj → Option Nat
  | .dead => none
  | .box _ => some (ρ.blk id)
  | .arr .. => (ρ.hd id).ownBlock
  | .map .. => some (ρ.blk id)

structure RelH (P : Program) (β : Base) (F : Fz) (ρ : Gh) (H : Nat → Obj) (w : World) : Prop where
  ob : ∀ i, ORel P β F ρ H w i (H i)
  dj : ∀ i j b, i ≠ j → blkOf ρ i (H i) = some b → blkOf ρ j (H j) = some b → False
  wf : WF F w
  wf0 : WF β.F0 β.w0
  kept : Kept β.M β.w0 β.F0 w F
  fx : ∀ i, β.fx i = true → ρ.blk i = β.b0 i

structure Rel (P : Program) (β : Base) (F : Fz) (ρ : Gh) (σ : St) (a : Act) (w : World) : Prop where
  h : RelH P β F ρ σ.H w
  tm : ∀ i, AVR P β F ρ σ.H w (σ.env i) (a.tmps.getD i undef)
  df : a.defers = []
  nn : β.n ≤ a.tmps.size

def upd {α : Type} (e : Nat → α) (i : Nat) (v : α) : Nat → α := fun j => cond (Nat.beq j i) v (e j)
theorem upd_same {α : Type} (e : Nat → α) (i : Nat) (v : α) : upd e i v i = v := by simp [upd]
theorem upd_ne {α : Type} (e : Nat → α) {i j : Nat} (v : α) (h : j ≠ i) : upd e i v j = e j := by
  unfold upd
  cases hb : Nat.beq j i with
  | false => rfl
  | true => exact absurd (Nat.eq_of_beq_eq_true hb) h

def St.put (σ : St) (dst : Nat) (v : AVal) : St := ⟨upd σ.env dst v, σ.H⟩
def St.setH (σ : St) (id : Nat) (o : Obj) : St := ⟨σ.env, upd σ.H id o⟩

end Go.Q
