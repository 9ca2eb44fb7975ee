/- Calls that are lent objects of this call's own, which they may turn: contracts, their bodies, their use. No condition. -/
import Derived.Test.YtkfcpnaiimcjeaaDoorQBorrow
set_option linter.unusedVariables false
set_option linter.unusedSimpArgs false
namespace Go.Q
open Go.RowKit
variable {P : Program} {β : Base}

def envA (l : List AVal) : Nat → AVal := fun i => match l[i]? with
  | some c => c
  | none => .junk
def hL : List Nat → List Obj → Nat → Obj
  | i :: L, o :: os => upd (hL L os) i o
  | _, _ => H0
def setL (σ : St) : List Nat → List Obj → St
  | i :: L, o :: os => (setL σ L os).setH i o
  | _, _ => σ
def Obj.isArr : Obj → Bool
  | .arr .. => true
  | _ => false
mutual
def AVal.refsIn (L : List Nat) : AVal → Bool
  | .agg l => refsInL L l
  | .box i _ => L.contains i
  | .asl i _ => L.contains i
  | .el i _ _ => L.contains i
  | .clo _ l => refsInL L l
  | .tup l => refsInL L l
  | .mp i => L.contains i
  | _ => true
def refsInL (L : List Nat) : List AVal → Bool
  | [] => true
  | c :: l => c.refsIn L && refsInL L l
end
def Obj.refsIn (L : List Nat) : Obj → Bool
  | .box cs => refsInL L cs
  | _ => true
theorem refsInL_get {L : List Nat} : ∀ {l : List AVal} (h : refsInL L l = true) (i : Nat) (c : AVal), l[i]? = some c → c.refsIn L = true
  | [], _, i, c, hc => by simp at hc
  | x :: l, h, 0, c, hc => by
    simp at hc; subst hc
    simp only [refsInL, Bool.and_eq_true] at h
    exact h.1
  | x :: l, h, i + 1, c, hc => by
    simp at hc
    simp only [refsInL, Bool.and_eq_true] at h
    exact refsInL_get h.2 i c hc

theorem hL_map (g : Nat → Obj) : ∀ (L : List Nat) (i : Nat), hL L (L.map g) i = if L.contains i then g i else .dead
  | [], i => rfl
  | j :: L, i => by
    simp only [List.map_cons, hL]
    by_cases h : i = j
    · subst h; rw [upd_same]; simp
    · rw [upd_ne _ _ h, hL_map g L i]
      simp [h]
theorem setL_H (σ : St) : ∀ (L : List Nat) (os : List Obj), os.length = L.length → ∀ i, (setL σ L os).H i = if L.contains i then hL L os i else σ.H i
  | [], os, _, i => by cases os <;> rfl
  | j :: L, [], h, i => by simp at h
  | j :: L, o :: os, h, i => by
    simp only [setL, St.setH, hL]
    by_cases hi : i = j
    · subst hi; rw [upd_same, upd_same]; simp
    · rw [upd_ne _ _ hi, upd_ne _ _ hi, setL_H σ L os (by simpa using h) i]
      simp [hi]
theorem setL_env (σ : St) : ∀ (L : List Nat) (os : List Obj), (setL σ L os).env = σ.env
  | [], os => by cases os <;> rfl
  | j :: L, [] => rfl
  | j :: L, o :: os => by simp only [setL, St.setH, setL_env σ L os]
theorem hL_dead : ∀ (L : List Nat) (os : List Obj) (i : Nat), L.contains i = false → hL L os i = .dead
  | [], os, i, _ => by cases os <;> rfl
  | j :: L, [], i, _ => rfl
  | j :: L, o :: os, i, h => by
    simp only [List.contains_cons, Bool.or_eq_false_iff] at h
    simp only [hL]
    rw [upd_ne _ _ (by intro e; subst e; simp at h), hL_dead L os i h.2]
theorem hL_arr : ∀ (L : List Nat) (os os' : List Obj), os'.map Obj.isArr = os.map Obj.isArr → ∀ i, (hL L os' i).isArr = (hL L os i).isArr
  | [], os, os', _, i => by cases os <;> cases os' <;> rfl
  | j :: L, [], os', h, i => by cases os' <;> simp at h; rfl
  | j :: L, o :: os, [], h, i => by simp at h
  | j :: L, o :: os, o' :: os', h, i => by
    simp only [List.map_cons, List.cons.injEq] at h
    simp only [hL]
    by_cases hi : i = j
    · subst hi; rw [upd_same, upd_same]; exact h.1
    · rw [upd_ne _ _ hi, upd_ne _ _ hi]; exact hL_arr L os os' h.2 i
theorem hL_refs {K : List Nat} : ∀ (L : List Nat) (os : List Obj), os.all (Obj.refsIn K) = true → ∀ i, (hL L os i).refsIn K = true
  | [], os, _, i => by cases os <;> rfl
  | j :: L, [], _, i => rfl
  | j :: L, o :: os, h, i => by
    simp only [List.all_cons, Bool.and_eq_true] at h
    simp only [hL]
    by_cases hi : i = j
    · subst hi; rw [upd_same]; exact h.1
    · rw [upd_ne _ _ hi]; exact hL_refs L os h.2 i

theorem AVR.refs {β' : Base} {F : Fz} {ρ ρ' : Gh} {H H' : Nat → Obj} {w : World} {L : List Nat} (hL : ∀ j, L.contains j = true → ρ'.blk j = ρ.blk j ∧ ρ'.hd j = ρ.hd j ∧ H' j = H j) {c : AVal} {v : Value} (h : AVR P β F ρ H w c v) :
    c.refsIn L = true → AVR P β' F ρ' H' w c v := by
  induction h with
  | junk v => intro _; exact .junk v
  | d x v h => intro _; exact .d x v h
  | agg l vs hl hc h ih => intro hn; exact .agg l vs hl hc (fun i c v h1 h2 => ih i c v h1 h2 (refsInL_get (by simpa only [AVal.refsIn] using hn) i c h1))
  | box i off =>
    intro hn
    rw [← (hL i (by simpa only [AVal.refsIn] using hn)).1]
    exact .box i off
  | asl i n v h1 h =>
    intro hn
    have := hL i (by simpa only [AVal.refsIn] using hn)
    refine .asl i n v h1 (fun mu sz e l he => ?_)
    rw [this.2.2] at he
    rw [this.2.1]
    exact h mu sz e l he
  | el i n k v h1 h =>
    intro hn
    have := hL i (by simpa only [AVal.refsIn] using hn)
    refine .el i n k v h1 (fun mu sz e l he => ?_)
    rw [this.2.2] at he
    rw [this.2.1]
    exact h mu sz e l he
  | nil => intro _; exact .nil
  | lit sz l a h => intro _; exact .lit sz l a h
  | clo f caps vs hl h ih => intro hn; exact .clo f caps vs hl (fun i c v h1 h2 => ih i c v h1 h2 (refsInL_get (by simpa only [AVal.refsIn] using hn) i c h1))
  | fnv p v h1 h => intro _; exact .fnv p v h1 h
  | tup l vs hl h ih => intro hn; exact .tup l vs hl (fun i c v h1 h2 => ih i c v h1 h2 (refsInL_get (by simpa only [AVal.refsIn] using hn) i c h1))
  | mp i =>
    intro hn
    rw [← (hL i (by simpa only [AVal.refsIn] using hn)).1]
    exact .mp i

theorem AVR.base {β' : Base} {F : Fz} {ρ : Gh} {H : Nat → Obj} {w : World} {c : AVal} {v : Value} (h : AVR P β F ρ H w c v) : AVR P β' F ρ H w c v := by
  induction h with
  | junk v => exact .junk v
  | d x v h => exact .d x v h
  | agg l vs hl hc h ih => exact .agg l vs hl hc ih
  | box i off => exact .box i off
  | asl i n v h1 h => exact .asl i n v h1 h
  | el i n k v h1 h => exact .el i n k v h1 h
  | nil => exact .nil
  | lit sz l a h => exact .lit sz l a h
  | clo f caps vs hl h ih => exact .clo f caps vs hl ih
  | fnv p v h1 h => exact .fnv p v h1 h
  | tup l vs hl h ih => exact .tup l vs hl ih
  | mp i => exact .mp i

/-- What is not lent, behind the call. -/
theorem AVR.lent {β' : Base} {F F' : Fz} {ρ ρ' : Gh} {H H' : Nat → Obj} {w w' : World} {L : List Nat} (hE : Ext F w w') (hF : ∀ b, F b ≤ F' b) (hb : ρ'.blk = ρ.blk) (hn : ∀ j, L.contains j = false → ρ'.hd j = ρ.hd j ∧ H' j = H j) {c : AVal} {v : Value} (h : AVR P β F ρ H w c v) :
    (∀ j, L.contains j = true → (H' j).isArr = true → c.noRef j = true) → AVR P β' F' ρ' H' w' c v := by
  induction h with
  | junk v => intro _; exact .junk v
  | d x v h => intro _; exact .d x v (h.mono hE hF)
  | agg l vs hl hc h ih => intro hq; exact .agg l vs hl hc (fun i c v h1 h2 => ih i c v h1 h2 (fun j hj ha => noRefL_get (by simpa only [AVal.noRef] using hq j hj ha) i c h1))
  | box i off => intro _; rw [← hb]; exact .box i off
  | asl i n v h1 h =>
    intro hq
    refine .asl i n v h1 (fun mu sz e l he => ?_)
    by_cases hi : L.contains i = true
    · have := hq i hi (by rw [he]; rfl)
      simp [AVal.noRef] at this
    · have h2 := hn i (by simpa using hi)
      rw [h2.2] at he
      rw [h2.1]
      exact h mu sz e l he
  | el i n k v h1 h =>
    intro hq
    refine .el i n k v h1 (fun mu sz e l he => ?_)
    by_cases hi : L.contains i = true
    · have := hq i hi (by rw [he]; rfl)
      simp [AVal.noRef] at this
    · have h2 := hn i (by simpa using hi)
      rw [h2.2] at he
      rw [h2.1]
      exact h mu sz e l he
  | nil => intro _; exact .nil
  | lit sz l a h => intro _; exact .lit sz l a (h.mono hE hF)
  | clo f caps vs hl h ih => intro hq; exact .clo f caps vs hl (fun i c v h1 h2 => ih i c v h1 h2 (fun j hj ha => noRefL_get (by simpa only [AVal.noRef] using hq j hj ha) i c h1))
  | fnv p v h1 h => intro _; exact .fnv p v h1 (h.mono hE hF)
  | tup l vs hl h ih => intro hq; exact .tup l vs hl (fun i c v h1 h2 => ih i c v h1 h2 (fun j hj ha => noRefL_get (by simpa only [AVal.noRef] using hq j hj ha) i c h1))
  | mp i => intro _; rw [← hb]; exact .mp i

theorem ORel.own {F : Fz} {ρ : Gh} {H : Nat → Obj} {w : World} {id : Nat} {o : Obj} (h : ORel P β F ρ H w id o) {b : Nat} (hb : blkOf ρ id o = some b) : β.own b := by
  cases o with
  | dead => cases hb
  | box cs => cases hb; exact h.2.1
  | arr mu sz e l =>
    obtain ⟨h0, h1, h2, xs, h3, h4, h5⟩ := h
    exact (h5 b hb).1
  | map ks vs => cases hb; exact h.2.1

theorem ORel.turn {β' : Base} {F F' : Fz} {ρ ρ' : Gh} {H H' : Nat → Obj} {w w' : World} {id : Nat} {o : Obj} (tr : ∀ (cs : List AVal), o = .box cs → ∀ c ∈ cs, ∀ v, AVR P β F ρ H w c v → AVR P β' F' ρ' H' w' c v) (vr : ∀ d v, VR F w d v → VR F' w' d v)
    (hρ : ρ'.blk id = ρ.blk id ∧ ρ'.hd id = ρ.hd id) (hown : ∀ b, blkOf ρ id o = some b → β'.own b) (hb : ∀ b, blkOf ρ id o = some b → w'.heap[b]? = w.heap[b]? ∧ F' b = F b) (h : ORel P β F ρ H w id o) : ORel P β' F' ρ' H' w' id o := by
  cases o with
  | dead => trivial
  | box cs =>
    obtain ⟨⟨vs, e, h1, h2, h3, h4⟩, h5, h6⟩ := h
    have hb := hb _ rfl
    exact ⟨⟨vs, e, by rw [hρ.1, hb.1]; exact h1, h2, h3, fun i c v hc hv => tr cs rfl c (List.mem_of_getElem? hc) v (h4 i c v hc hv)⟩, by rw [hρ.1]; exact hown _ rfl, by rw [hρ.1, hb.2]; exact h6⟩
  | arr mu sz e l =>
    obtain ⟨h0, h1, h2, xs, h3, h4, h5⟩ := h
    refine ⟨h0, h1, h2, xs, by rw [hρ.2]; exact ownsRow_of_blk h3 (fun g hg => (hb g hg).1), fun i d v hd hv => vr d v (h4 i d v hd hv), fun g hg => ?_⟩
    rw [hρ.2] at hg
    exact ⟨hown g hg, by rw [(hb g hg).2]; exact (h5 g hg).2⟩
  | map ks vs =>
    obtain ⟨⟨es, c, h1, h2, h3, h4, h5⟩, h6, h7⟩ := h
    have hb := hb _ rfl
    exact ⟨⟨es, c, by rw [hρ.1, hb.1]; exact h1, h2, h3, fun i d e hd he => vr d _ (h4 i d e hd he), fun i d e hd he => vr d _ (h5 i d e hd he)⟩, by rw [hρ.1]; exact hown _ rfl, by rw [hρ.1, hb.2]; exact h7⟩

/-! ### Contracts -/
def lentM (ρ : Gh) (H : Nat → Obj) (L : List Nat) : Nat → Prop := fun b => ∃ i, L.contains i = true ∧ blkOf ρ i (H i) = some b
def lentB (w : World) (F : Fz) (ρ : Gh) (H : Nat → Obj) (L : List Nat) : Base := { w0 := w, F0 := F, M := lentM ρ H L, n := 0, fx := fun i => L.contains i, b0 := ρ.blk }
def resAV : List AVal → AVal
  | [c] => c
  | cs => .tup cs
def okR (L : List Nat) (os : List Obj) (cs : List AVal) (os' : List Obj) : Bool :=
  Nat.beq os'.length L.length && ((os'.map Obj.isArr == os.map Obj.isArr) && (refsInL L cs && os'.all (Obj.refsIn L)))
/-- A call that is lent the objects of L. -/
def PCL (P : Program) (f : FuncId) (L : List Nat) (args : List AVal) (os : List Obj) (R : List AVal → List Obj → Prop) : Prop :=
  ∀ (w : World) (F : Fz) (ρ : Gh), RelH P (lentB w F ρ (hL L os) L) F ρ (hL L os) w → ∀ vs : List Value, vs.length = args.length →
    (∀ (i : Nat) (c : AVal) (v : Value), args[i]? = some c → vs[i]? = some v → AVR P (lentB w F ρ (hL L os) L) F ρ (hL L os) w c v) →
    Calls P f vs.toArray w fun e w' => ∃ v F' ρ' cs os', e = .returned v ∧ R cs os' ∧ okR L os cs os' = true ∧ RelH P (lentB w F ρ (hL L os) L) F' ρ' (hL L os') w' ∧ AVR P (lentB w F ρ (hL L os) L) F' ρ' (hL L os') w' (resAV cs) v

inductive RA (H : Nat → Obj) : AVal → AVal → Prop
  | d {c : AVal} {x : D} (h : Rd H c x) : RA H c (.d x)
  | same (c : AVal) : RA H c c
inductive RAL (H : Nat → Obj) : List AVal → List AVal → Prop
  | nil : RAL H [] []
  | cons {c d : AVal} {l m : List AVal} (h : RA H c d) (t : RAL H l m) : RAL H (c :: l) (d :: m)
theorem RAL.length {H : Nat → Obj} {l m : List AVal} (h : RAL H l m) : l.length = m.length := by
  induction h with
  | nil => rfl
  | cons _ _ ih => simp [ih]
theorem RAL.get {H : Nat → Obj} {l m : List AVal} (h : RAL H l m) : ∀ (i : Nat) (c d : AVal), l[i]? = some c → m[i]? = some d → RA H c d := by
  induction h with
  | nil => intro i c d h; simp at h
  | cons h t ih =>
    intro i c d h1 h2
    cases i with
    | zero => simp at h1 h2; subst h1; subst h2; exact h
    | succ i => simp at h1 h2; exact ih i c d h1 h2
theorem RA.sound {F : Fz} {ρ : Gh} {H : Nat → Obj} {w : World} (hr : RelH P β F ρ H w) {c d : AVal} (h : RA H c d) {v : Value} (hv : AVR P β F ρ H w c v) : AVR P β F ρ H w d v := by
  cases h with
  | d h => exact .d _ _ (h.sound hr hv)
  | same => exact hv

/-- The end of such a function. -/
def RetL (rs : List Nat) (L : List Nat) (R : List AVal → List Obj → Prop) : Exit → St → Prop
  | .normal, σ | .ret, σ => ∃ cs, RAL σ.H (rs.map σ.env) cs ∧ R cs (L.map σ.H)
  | _, _ => False
theorem RetL_n {rs L : List Nat} {R : List AVal → List Obj → Prop} {σ : St} {cs : List AVal} (h : RAL σ.H (rs.map σ.env) cs) (hR : R cs (L.map σ.H)) : RetL rs L R .normal σ := ⟨cs, h, hR⟩
theorem RetL_ret {rs L : List Nat} {R : List AVal → List Obj → Prop} {σ : St} {cs : List AVal} (h : RAL σ.H (rs.map σ.env) cs) (hR : R cs (L.map σ.H)) : RetL rs L R .ret σ := ⟨cs, h, hR⟩

theorem RelH.forget {F : Fz} {ρ : Gh} {H H' : Nat → Obj} {w : World} (hH : ∀ i, H' i = .dead ∨ H' i = H i) (h : RelH P β F ρ H w) : RelH P β F ρ H' w := by
  refine ⟨fun i => ?_, fun i j b hne h1 h2 => ?_, h.wf, h.wf0, h.kept, h.fx⟩
  · rcases hH i with hd | hd
    · rw [hd]; trivial
    · rw [hd]; exact (h.ob i).fgt hH
  · rcases hH i with hd | hd
    · rw [hd] at h1; cases h1
    · rcases hH j with hd' | hd'
      · rw [hd'] at h2; cases h2
      · rw [hd] at h1; rw [hd'] at h2; exact h.dj i j b hne h1 h2
theorem RelH.base0 {w0 : World} {F0 F : Fz} {M : Nat → Prop} {n m : Nat} {fx : Nat → Bool} {b0 : Nat → Nat} {ρ : Gh} {H : Nat → Obj} {w : World} (h : RelH P { w0 := w0, F0 := F0, M := M, n := n, fx := fx, b0 := b0 } F ρ H w) :
    RelH P { w0 := w0, F0 := F0, M := M, n := m, fx := fx, b0 := b0 } F ρ H w := by
  refine ⟨fun i => ?_, h.dj, h.wf, h.wf0, h.kept, h.fx⟩
  exact (h.ob i).turn (fun cs _ c _ v hv => hv.base) (fun d v hd => hd) ⟨rfl, rfl⟩ (fun b hb => (h.ob i).own hb) (fun b _ => ⟨rfl, rfl⟩)

theorem PCL_of_T {f : FuncId} {fn : Func} {c : Code} {rs : List Nat} {n : Nat} {L : List Nat} {args : List AVal} {os : List Obj} {R : List AVal → List Obj → Prop} (hf : P.funcs[f]? = some fn) (hb : fn.body = some c) (hrs : fn.results.toList = rs.map .tmp) (hnt : fn.ntmps = n) (hn : Nat.ble args.length n = true)
    (hok : ∀ cs os', R cs os' → okR L os cs os' = true)
    (h : ∀ w F M b0, T P { w0 := w, F0 := F, M := M, n := n, fx := fun i => L.contains i, b0 := b0 } c (RetL rs L R) ⟨envA args, hL L os⟩) : PCL P f L args os R := by
  subst hnt
  have hn := le_of_ble hn
  intro w F ρ hrel vs hl hv
  refine calls_of_wp hf hb ?_
  have hrel0 : Rel P { w0 := w, F0 := F, M := lentM ρ (hL L os) L, n := fn.ntmps, fx := fun i => L.contains i, b0 := ρ.blk } F ρ ⟨envA args, hL L os⟩ { tmps := vs.toArray ++ Array.replicate (fn.ntmps - vs.toArray.size) undef, defers := [] } w := by
    refine ⟨hrel.base0, fun i => ?_, rfl, by simp; omega⟩
    cases hc : args[i]? with
    | none => simp only [envA, hc]; exact .junk _
    | some ca =>
      have hi := (List.getElem?_eq_some_iff.1 hc).1
      have hvi : vs[i]? = some vs[i] := List.getElem?_eq_getElem (by omega)
      have hget : (vs.toArray ++ Array.replicate (fn.ntmps - vs.toArray.size) undef).getD i undef = vs[i] := by
        rw [Array.getD_eq_getD_getElem?, Array.getElem?_append_left (by simp; omega)]
        simp [hvi]
      simp only [envA, hc]
      rw [hget]
      exact (hv i ca _ hc hvi).base
  refine wp_mono (h w F _ _ F ρ _ w hrel0) ?_
  rintro e a' w' ⟨F', ρ', σ', hq, hr'⟩
  have fin : (∃ cs, RAL σ'.H (rs.map σ'.env) cs ∧ R cs (L.map σ'.H)) → a'.defers = [] ∧ ∃ v, (results fn a'.tmps).run P w' = .ok v w' ∧ ∃ v1 F2 ρ2 cs os', Ending.returned v = .returned v1 ∧ R cs os' ∧ okR L os cs os' = true ∧ RelH P (lentB w F ρ (hL L os) L) F2 ρ2 (hL L os') w' ∧ AVR P (lentB w F ρ (hL L os) L) F2 ρ2 (hL L os') w' (resAV cs) v1 := by
    rintro ⟨cs, hcs, hR⟩
    have hH : ∀ i, hL L (L.map σ'.H) i = .dead ∨ hL L (L.map σ'.H) i = σ'.H i := by
      intro i; rw [hL_map]; split
      · exact .inr rfl
      · exact .inl rfl
    refine ⟨hr'.df, _, run_results hrs _ _, _, F', ρ', cs, L.map σ'.H, rfl, hR, hok _ _ hR, (hr'.h.forget hH).base0, ?_⟩
    have hlen : rs.length = cs.length := by have := hcs.length; simpa using this
    have hall : ∀ (i : Nat) (d : AVal) (x : Value), cs[i]? = some d → (rs.map fun t => a'.tmps.getD t undef)[i]? = some x → AVR P (lentB w F ρ (hL L os) L) F' ρ' (hL L (L.map σ'.H)) w' d x := by
      intro i d x hd hx
      rw [List.getElem?_map] at hx
      cases ht : rs[i]? with
      | none => rw [ht] at hx; cases hx
      | some t =>
        rw [ht] at hx
        cases hx
        exact (((hcs.get i (σ'.env t) d (by rw [List.getElem?_map, ht]; rfl) hd).sound hr'.h (hr'.tm t)).fgt hH).base
    match cs, hlen with
    | [d], hlen =>
      have h1 : (rs.map fun t => a'.tmps.getD t undef).length = 1 := by simpa using hlen
      rw [dif_pos h1]
      exact hall 0 d _ rfl (List.getElem?_eq_getElem (by omega))
    | [], hlen =>
      have h1 : ¬ (rs.map fun t => a'.tmps.getD t undef).length = 1 := by simp at hlen ⊢; rw [hlen]; simp
      rw [dif_neg h1]
      exact .tup _ _ (by simpa using hlen) hall
    | x :: y :: l, hlen =>
      have h1 : ¬ (rs.map fun t => a'.tmps.getD t undef).length = 1 := by simp at hlen ⊢; omega
      rw [dif_neg h1]
      exact .tup _ _ (by simpa using hlen) hall
  cases e with
  | normal => exact fin hq
  | ret => exact fin hq
  | _ => exact hq.elim

/-- The use of such a contract. -/
theorem TL_callL {ops : Array Oper} {Q : Exit → St → Prop} {σ : St} {o : Oper} {rest : List Oper} {dst : Nat} {fo : Operand} {xs : Array Operand} {ats : Array TypeId} {f : FuncId} {caps : List AVal} {L : List Nat} {args : List AVal} {os : List Obj} {R : List AVal → List Obj → Prop}
    (hg : o.guard = none) (ho : o.op = .call { callee := .value fo, args := xs, argTypes := ats }) (hd : o.dst = some dst) (hdn : Nat.blt dst β.n = true) (hf : aev σ fo = .clo f caps) (hfn : FunOk P f) (hos : L.map σ.H = os) (ha : RAL σ.H (xs.toList.map (aev σ) ++ caps) args)
    (hna : ∀ j, L.contains j = true → (hL L os j).isArr = true → NoRefE j σ.env ∧ ∀ i, L.contains i = false → (σ.H i).noRef j = true) (h : PCL P f L args os R)
    (K : ∀ cs os', R cs os' → TL P β ops Q rest ((setL σ L os').put dst (resAV cs))) : TL P β ops Q (o :: rest) σ := by
  subst hos
  intro F ρ a w hr
  refine wpList_plain hg fun K' hK => wp_of_goes ?_
  have h1 := hr.ev fo
  rw [hf] at h1
  generalize hv : a.eval fo = v at h1
  cases h1 with
  | clo _ _ vs hl h' =>
  unfold goes
  rw [run_call ho hv hfn]
  have hH : ∀ i, hL L (L.map σ.H) i = .dead ∨ hL L (L.map σ.H) i = σ.H i := by
    intro i; rw [hL_map]; split
    · exact .inr rfl
    · exact .inl rfl
  have hHL : ∀ i, L.contains i = true → hL L (L.map σ.H) i = σ.H i := fun i hi => by rw [hL_map, if_pos hi]
  have hrel : RelH P (lentB w F ρ (hL L (L.map σ.H)) L) F ρ (hL L (L.map σ.H)) w := by
    have hf := hr.h.forget hH
    refine ⟨fun i => ?_, hf.dj, hf.wf, hf.wf, Kept.refl _ _ _, fun _ _ => rfl⟩
    refine (hf.ob i).turn (fun cs _ c _ v hv => hv.base) (fun d v hd => hd) ⟨rfl, rfl⟩ (fun b hb => .inr ?_) (fun b _ => ⟨rfl, rfl⟩)
    by_cases hi : L.contains i = true
    · exact ⟨i, hi, hb⟩
    · rw [hL_dead _ _ _ (by simpa using hi)] at hb; cases hb
  have hargs : ∀ (i : Nat) (c : AVal) (v : Value), args[i]? = some c → (xs.toList.map a.eval ++ vs)[i]? = some v → AVR P (lentB w F ρ (hL L (L.map σ.H)) L) F ρ (hL L (L.map σ.H)) w c v := by
    intro i c v h2 h3
    have hi := (List.getElem?_eq_some_iff.1 h2).1
    rw [← ha.length] at hi
    have hci : (xs.toList.map (aev σ) ++ caps)[i]? = some (xs.toList.map (aev σ) ++ caps)[i] := List.getElem?_eq_getElem hi
    refine (((ha.get i _ c hci h2).sound hr.h (v := v) ?_).fgt hH).base
    generalize (xs.toList.map (aev σ) ++ caps)[i] = q at hci
    rw [List.getElem?_append, List.length_map] at hci h3
    split at hci
    · rename_i hlt
      rw [if_pos hlt] at h3
      rw [List.getElem?_map] at hci h3
      cases hx : xs.toList[i]? with
      | none => rw [hx] at hci; cases hci
      | some x =>
        rw [hx] at hci h3
        cases hci
        cases h3
        exact hr.ev x
    · rename_i hlt
      rw [if_neg hlt] at h3
      exact h' _ _ _ hci h3
  have := h w F ρ hrel (xs.toList.map a.eval ++ vs) (by rw [← ha.length, List.length_append, List.length_append, List.length_map, List.length_map, hl]) hargs
  rw [show (xs.toList.map a.eval ++ vs).toArray = xs.map a.eval ++ vs.toArray from by simp] at this
  refine Calls.mono this ?_
  rintro e w' ⟨v, F', ρ', cs, os', rfl, hR, hok, hrel', hres⟩
  refine ⟨v, rfl, hK _ _ ?_⟩
  simp only [okR, Bool.and_eq_true] at hok
  have hlen : os'.length = L.length := Nat.eq_of_beq_eq_true hok.1
  have harr : os'.map Obj.isArr = (L.map σ.H).map Obj.isArr := by simpa using hok.2.1
  have hk := hrel'.kept
  have hE := hk.ext hr.h.wf
  have hF := hk.le hr.h.wf
  let ρ2 : Gh := ⟨ρ.blk, fun i => if L.contains i then ρ'.hd i else ρ.hd i⟩
  have hin : ∀ j, L.contains j = true → ρ2.blk j = ρ'.blk j ∧ ρ2.hd j = ρ'.hd j ∧ (setL σ L os').H j = hL L os' j := fun j hj =>
    ⟨(hrel'.fx j hj).symm, by simp only [ρ2, hj, if_true], by rw [setL_H _ _ _ hlen, if_pos hj]⟩
  have hout : ∀ j, L.contains j = false → ρ2.hd j = ρ.hd j ∧ (setL σ L os').H j = σ.H j := fun j hj =>
    ⟨by show (if L.contains j = true then ρ'.hd j else ρ.hd j) = ρ.hd j; rw [if_neg (by rw [hj]; decide)], by rw [setL_H _ _ _ hlen, if_neg (by simpa using hj)]⟩
  have htr : ∀ c v, AVR P β F ρ σ.H w c v → (∀ j, L.contains j = true → (hL L (L.map σ.H) j).isArr = true → c.noRef j = true) → AVR P β F' ρ2 (setL σ L os').H w' c v := by
    intro c v hc hq
    refine AVR.lent (ρ := ρ) (ρ' := ρ2) (H' := (setL σ L os').H) (L := L) hE hF rfl hout hc (fun j hj hja => hq j hj ?_)
    rw [(hin j hj).2.2, hL_arr L _ _ harr] at hja
    exact hja
  have hrelH : RelH P β F' ρ2 (setL σ L os').H w' := by
    refine ⟨fun i => ?_, fun i j b hne e1 e2 => ?_, hrel'.wf, hr.h.wf0, hr.h.kept.trans hk (fun b hb ⟨i, hi, hM⟩ => ?_), fun i hi => hr.h.fx i hi⟩
    · by_cases hi : L.contains i = true
      · rw [(hin i hi).2.2]
        have hob := hrel'.ob i
        refine hob.turn (fun cs hcs c hc v hv => hv.refs hin ?_) (fun d v hd => hd) ⟨(hin i hi).1, (hin i hi).2.1⟩ (fun b hb => ?_) (fun b _ => ⟨rfl, rfl⟩)
        · have h2 := hL_refs L os' hok.2.2.2 i
          rw [hcs] at h2
          obtain ⟨k, hk⟩ := List.getElem?_of_mem hc
          exact refsInL_get h2 k c hk
        · rcases hob.own hb with h3 | ⟨i', hi', h3⟩
          · exact .inl (Nat.le_trans hr.h.kept.size h3)
          · rw [hHL i' hi'] at h3
            exact (hr.h.ob i').own h3
      · have hi' : L.contains i = false := by simpa using hi
        rw [(hout i hi').2]
        have hob := hr.h.ob i
        refine hob.turn (fun cs hcs c hc v hv => htr c v hv (fun j hj hja => ?_)) (fun d v hd => hd.mono hE hF) ⟨rfl, (hout i hi').1⟩ (fun b hb => hob.own hb) (fun b hb => ?_)
        · have h2 := (hna j hj hja).2 i hi'
          rw [hcs] at h2
          obtain ⟨k, hk⟩ := List.getElem?_of_mem hc
          exact noRefL_get h2 k c hk
        · refine hk.blk b (hob.lt hb) ?_
          rintro ⟨j, hj, h3⟩
          rw [hHL j hj] at h3
          exact hr.h.dj i j b (fun e => by subst e; exact hi hj) hb h3
    · have key : ∀ i j, L.contains i = true → L.contains j = false → blkOf ρ2 i ((setL σ L os').H i) = some b → blkOf ρ2 j ((setL σ L os').H j) = some b → False := by
        intro i j hi hj e1 e2
        rw [(hin i hi).2.2, blkOf_other ⟨(hin i hi).1, (hin i hi).2.1⟩] at e1
        rw [(hout j hj).2, blkOf_other (ρ := ρ) (ρ' := ρ2) ⟨rfl, (hout j hj).1⟩] at e2
        have hlt := (hr.h.ob j).lt e2
        rcases (hrel'.ob i).own e1 with h3 | ⟨i', hi', h3⟩
        · have : w.heap.size ≤ b := h3
          omega
        · rw [hHL i' hi'] at h3
          exact hr.h.dj i' j b (fun e => by subst e; rw [hi'] at hj; cases hj) h3 e2
      by_cases hi : L.contains i = true
      · by_cases hj : L.contains j = true
        · rw [(hin i hi).2.2, blkOf_other ⟨(hin i hi).1, (hin i hi).2.1⟩] at e1
          rw [(hin j hj).2.2, blkOf_other ⟨(hin j hj).1, (hin j hj).2.1⟩] at e2
          exact hrel'.dj i j b hne e1 e2
        · exact key i j hi (by simpa using hj) e1 e2
      · by_cases hj : L.contains j = true
        · exact key j i hj (by simpa using hi) e2 e1
        · have hi' : L.contains i = false := by simpa using hi
          have hj' : L.contains j = false := by simpa using hj
          rw [(hout i hi').2, blkOf_other (ρ := ρ) (ρ' := ρ2) ⟨rfl, (hout i hi').1⟩] at e1
          rw [(hout j hj').2, blkOf_other (ρ := ρ) (ρ' := ρ2) ⟨rfl, (hout j hj').1⟩] at e2
          exact hr.h.dj i j b hne e1 e2
    · rw [hHL i hi] at hM
      rcases (hr.h.ob i).own hM with h3 | h3
      · omega
      · exact h3
  have hrel2 : Rel P β F' ρ2 (setL σ L os') a w' := ⟨hrelH, fun i => by rw [setL_env]; exact htr _ _ (hr.tm i) (fun j hj hja => (hna j hj hja).1 i), hr.df, hr.nn⟩
  rw [hd]
  refine K cs os' hR F' ρ2 _ w' (hrel2.put (lt_of_blt hdn) (hres.refs hin ?_))
  have hcs := hok.2.2.1
  match cs with
  | [] => rfl
  | [c] => simpa [resAV, refsInL] using hcs
  | c :: d :: l => simpa only [resAV, AVal.refsIn] using hcs

theorem noRefE_envA {id : Nat} {args : List AVal} (h : noRefL id args = true) : NoRefE id (envA args) := by
  intro i
  unfold envA
  split
  · rename_i c hc
    exact noRefL_get h i c hc
  · rfl
end Go.Q
