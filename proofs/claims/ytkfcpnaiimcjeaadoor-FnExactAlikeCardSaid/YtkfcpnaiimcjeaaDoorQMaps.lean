/- The rules of a program logic over abstract states, eleventh part: maps whose keys are strings or numbers. No condition. -/
import Derived.Test.YtkfcpnaiimcjeaaDoorQDraw
set_option linter.unusedVariables false
set_option linter.unusedSimpArgs false
namespace Go.Q
open Go.RowKit
variable {P : Program} {β : Base}

/-- A map's type, its keys read as members of κ. -/
structure KeyT (P : Program) (t key elem : Nat) {κ : Type} [DecidableEq κ] (enc : κ → Value) : Prop where
  hu : P.underlying t = some (.map key elem)
  hk : ∃ d, P.underlying key = some d ∧ ∀ a b, Instr.sameNow d (enc a) (enc b) = some (decide (a = b))
  ck : ∀ (e : Bool) (a : κ) (w : World), (Instr.checkKey e 10000 key (enc a)).run P w = .ok () w
  one : ∀ a, (enc a).oneCell' = true
  bits : ∀ a, Instr.sameBits 10000 (enc a) (enc a) = true

theorem bytes_beq (a b : List UInt8) : ((⟨a.toArray⟩ : ByteArray) == ⟨b.toArray⟩) = decide (a = b) := by
  show (a.toArray == b.toArray) = _
  rw [Bool.eq_iff_iff]
  simp

theorem keyT_str {t key elem : Nat} (hu : P.underlying t = some (.map key elem)) (hk : P.underlying key = some .string) : KeyT P t key elem str := by
  refine ⟨hu, ⟨_, hk, fun a b => ?_⟩, fun e a w => ?_, fun a => rfl, fun a => ?_⟩
  · simp only [Instr.sameNow, str, bytes_beq]
  · have : ∀ n, (Instr.checkKey e (n + 1) key (str a)).run P w = .ok () w := by
      intro n
      simp only [Instr.checkKey, Sem.run_bind, run_underlying hk, Result.andThen_ok, str]
      rfl
    exact this 9999
  · have : ∀ n, Instr.sameBits n (str a) (str a) = true := by
      intro n
      cases n <;> simp [Instr.sameBits, str, bytes_beq]
    exact this _

theorem keyT_int {t key elem : Nat} (hu : P.underlying t = some (.map key elem)) (hk : P.underlying key = some (.int .i64)) : KeyT P t key elem (fun n : Int => Value.int .i64 n) := by
  refine ⟨hu, ⟨_, hk, fun a b => ?_⟩, fun e a w => ?_, fun a => rfl, fun a => ?_⟩
  · have : (a == b) = decide (a = b) := by
      rw [Bool.eq_iff_iff]
      simp
    simp only [Instr.sameNow, this, if_true]
  · have : ∀ n, (Instr.checkKey e (n + 1) key (.int .i64 a)).run P w = .ok () w := by
      intro n
      simp only [Instr.checkKey, Sem.run_bind, run_underlying hk, Result.andThen_ok]
      rfl
    exact this 9999
  · have : ∀ n, Instr.sameBits n (.int .i64 a) (.int .i64 a) = true := by
      intro n
      cases n <;> simp [Instr.sameBits]
    exact this _

def look {κ : Type} [DecidableEq κ] : List κ → List D → κ → Option D
  | a :: l, v :: vs, k => if a = k then some v else look l vs k
  | _, _, _ => none
def putV {κ : Type} [DecidableEq κ] : List κ → List D → κ → D → List D
  | a :: l, v :: vs, k, x => if a = k then x :: vs else v :: putV l vs k x
  | _, _, _, x => [x]
def putK {κ : Type} [DecidableEq κ] (l : List κ) (k : κ) : List κ := if k ∈ l then l else l ++ [k]

/-- Where a key stands among the entries. -/
theorem findNow_spec {κ : Type} [DecidableEq κ] {enc : κ → Value} {d : TypeDesc} (hd : ∀ a b, Instr.sameNow d (enc a) (enc b) = some (decide (a = b))) (k : κ) : ∀ (es : List MapEntry) (ks : List κ) (i : Nat), es.map (·.key) = ks.map enc →
    Instr.findNow d (enc k) es i = some (match ks.findIdx? (· = k) with | some j => (es[j]?).map fun e => (i + j, e.val) | none => none)
  | [], [], i, _ => rfl
  | e :: es, a :: ks, i, h => by
    simp only [List.map_cons, List.cons.injEq] at h
    have ih := findNow_spec hd k es ks (i + 1) h.2
    simp only [Instr.findNow, h.1, hd k a, List.findIdx?_cons]
    by_cases hak : a = k
    · subst hak; simp
    · have hka : ¬ k = a := fun e => hak e.symm
      simp only [hka, hak, decide_false, ih]
      cases hq : ks.findIdx? (fun x => decide (x = k)) with
      | none => simp
      | some j => simp [Nat.add_assoc, Nat.add_comm 1 j]
  | [], a :: ks, i, h => by simp at h
  | e :: es, [], i, h => by simp at h

theorem look_spec {κ : Type} [DecidableEq κ] (k : κ) : ∀ (ks : List κ) (vs : List D), ks.length = vs.length → look ks vs k = match ks.findIdx? (· = k) with | some j => vs[j]? | none => none
  | [], vs, _ => by simp [look]
  | a :: ks, [], h => by simp at h
  | a :: ks, v :: vs, h => by
    have ih := look_spec k ks vs (by simpa using h)
    simp only [look, List.findIdx?_cons]
    by_cases hak : a = k
    · simp [hak]
    · simp only [hak, if_false, ih, decide_false]
      cases hq : ks.findIdx? (fun x => decide (x = k)) <;> simp

/-- What a look-up yields. -/
def lookR (zd : D) (ok : Bool) : Option D → AVal
  | some v => if ok then .tup [.d v, .d (.s (.bool true))] else .d v
  | none => if ok then .tup [.d zd, .d (.s (.bool false))] else .d zd

theorem run_findKey {κ : Type} [DecidableEq κ] {enc : κ → Value} {t key elem : Nat} (hK : KeyT P t key elem enc) {w : World} (k : κ) {es : List MapEntry} {ks : List κ} (h : es.map (·.key) = ks.map enc) :
    (Instr.findKey key (enc k) es).run P w = .ok (match ks.findIdx? (· = k) with | some j => (es[j]?).map fun e => (j, e.val) | none => none) w := by
  obtain ⟨d, h1, h2⟩ := hK.hk
  simp only [Instr.findKey, Sem.run_bind, run_underlying h1, Result.andThen_ok, findNow_spec h2 k es ks 0 h, Sem.run_pure, Nat.zero_add]

theorem AVR.tup2 {F : Fz} {ρ : Gh} {H : Nat → Obj} {w : World} {a b : AVal} {u v : Value} (h1 : AVR P β F ρ H w a u) (h2 : AVR P β F ρ H w b v) : AVR P β F ρ H w (.tup [a, b]) (.tuple #[u, v]) := by
  refine .tup [a, b] [u, v] rfl (fun i c x hc hx => ?_)
  match i with
  | 0 => simp at hc hx; subst hc; subst hx; exact h1
  | 1 => simp at hc hx; subst hc; subst hx; exact h2
  | i + 2 => simp at hc

theorem run_lookup {κ : Type} [DecidableEq κ] {enc : κ → Value} {t key elem : Nat} (hK : KeyT P t key elem enc) {w : World} {F : Fz} {ρ : Gh} {H : Nat → Obj} {r : Nat} {es : Array MapEntry} {c : Nat} (hb : w.heap[r]? = some (.map es c)) {ks : List κ} {vs : List D} (hk : es.toList.map (·.key) = ks.map enc) (hl : vs.length = es.size)
    (hv : ∀ (i : Nat) (d : D) (e : MapEntry), vs[i]? = some d → es[i]? = some e → VR F w d e.val) {zs : List Value} (hz : ZeroT P elem zs) {zd : D} (hzd : ∀ z : Value, (P.info? elem).bind (·.zero) = some z → VR F w zd z) (k : κ) (ok : Bool) :
    ∃ v, (Instr.lookup t (.map (some r)) (enc k) ok).run P w = .ok v w ∧ AVR P β F ρ H w (lookR zd ok (look ks vs k)) v := by
  obtain ⟨z, hz1, hz2, hz3⟩ := hz
  have hkl : ks.length = es.size := by
    have := congrArg List.length hk
    simpa using this.symm
  have hfk := run_findKey hK (w := w) k hk
  have hzr := run_zeroValue hz1 w
  have hlook := look_spec k ks vs (by omega)
  have hgo : (getObj r).run P w = .ok (.map es c) w := by simp [getObj, Sem.run, hb]
  cases hq : ks.findIdx? (fun x => decide (x = k)) with
  | none =>
    rw [hq] at hfk hlook
    simp only at hlook
    refine ⟨if ok then .tuple #[z, .bool false] else z, ?_, ?_⟩
    · simp only [Instr.lookup, Sem.run_bind, run_underlying hK.hu, Result.andThen_ok, hgo, Sem.run_pure, hK.ck, hfk, hzr]
    · rw [hlook]
      cases ok
      · exact .d _ _ (hzd z hz1)
      · exact .tup2 (.d _ _ (hzd z hz1)) (.d _ _ (.s _ rfl))
  | some j =>
    rw [hq] at hfk hlook
    simp only at hlook hfk
    have hj := (List.findIdx?_eq_some_iff_findIdx_eq.1 hq).1
    have hje : es.toList[j]? = some (es[j]'(by omega)) := by simp [show j < es.size by omega]
    have hjv : vs[j]? = some (vs[j]'(by omega)) := List.getElem?_eq_getElem (by omega)
    rw [hje] at hfk
    have hje2 : es[j]? = some (es[j]'(by omega)) := Array.getElem?_eq_getElem (by omega)
    have hvr := hv j _ _ hjv hje2
    refine ⟨if ok then .tuple #[(es[j]'(by omega)).val, .bool true] else (es[j]'(by omega)).val, ?_, ?_⟩
    · simp only [Instr.lookup, Sem.run_bind, run_underlying hK.hu, Result.andThen_ok, hgo, Sem.run_pure, hK.ck, hfk, Option.map_some]
    · rw [hlook, hjv]
      cases ok
      · exact .d _ _ hvr
      · exact .tup2 (.d _ _ hvr) (.d _ _ (.s _ rfl))

theorem keys_of {κ : Type} {enc : κ → Value} {F : Fz} {w : World} {ks : List κ} {es : Array MapEntry} (hl : (ks.map fun k => D.s (enc k)).length = es.size) (h : ∀ (i : Nat) (d : D) (e : MapEntry), (ks.map fun k => D.s (enc k))[i]? = some d → es[i]? = some e → VR F w d e.key) : es.toList.map (·.key) = ks.map enc := by
  apply List.ext_getElem?
  intro i
  rw [List.getElem?_map, List.getElem?_map]
  cases he : es.toList[i]? with
  | none =>
    rw [List.getElem?_eq_none_iff] at he
    rw [List.getElem?_eq_none (by simp at hl he; omega)]
    rfl
  | some e =>
    have hi := (List.getElem?_eq_some_iff.1 he).1
    have hki : i < ks.length := by simp at hl hi; omega
    have h1 : ks[i]? = some ks[i] := List.getElem?_eq_getElem hki
    rw [h1]
    have := h i (.s (enc ks[i])) e (by rw [List.getElem?_map, h1]; rfl) (by simpa using he)
    rw [Option.map_some, Option.map_some, this.s_inv]

/-- A look-up in a map of the call's own. -/
theorem g_lookup_mp {H : Nat → Obj} {o : Oper} {ev : Operand → AVal} {κ : Type} [DecidableEq κ] {enc : κ → Value} {t key elem id : Nat} {x y : Operand} {ok : Bool} {ks : List κ} {vs : List D} {k : κ} {zs : List Value} {zd : D} {r : AVal} (ho : o.op = .lookup t x y ok) (hx : ev x = .mp id) (hy : ev y = .d (.s (enc k))) (hH : H id = .map (ks.map fun k => D.s (enc k)) vs)
    (hK : KeyT P t key elem enc) (hz : ZeroT P elem zs) (hzd : CDL zs zd.cells) (hz1 : ∃ z, (P.info? elem).bind (·.zero) = some z ∧ (∀ (F : Fz) (w : World), VR F w zd z)) (hr : lookR zd ok (look ks vs k) = r) : GStep P β H o ev r := by
  subst hr
  refine .val fun F ρ w hr evc he => ?_
  have h1 := he x (by simp [ho, Op.operands])
  have h2 := he y (by simp [ho, Op.operands])
  rw [hx] at h1
  rw [hy] at h2
  have hob := hr.ob id
  rw [hH] at hob
  obtain ⟨⟨es, c, g1, g2, g3, g4, g5⟩, _, _⟩ := hob
  generalize hv : evc x = v at h1
  cases h1
  obtain ⟨z, hz2, hz3⟩ := hz1
  obtain ⟨v, hrun, hav⟩ := run_lookup (β := β) (ρ := ρ) (H := H) hK g1 (keys_of g2 g4) g3 g5 hz (zd := zd) (fun z' hz' => by rw [hz2] at hz'; cases hz'; exact hz3 F w) k ok
  refine ⟨v, ?_, hav⟩
  simp only [execOp, ho, hv, h2.s_inv, Sem.run_bind, hrun, Result.andThen_ok, Sem.run_pure]

/-- A look-up in a map that stays. -/
theorem g_lookup_d {H : Nat → Obj} {o : Oper} {ev : Operand → AVal} {κ : Type} [DecidableEq κ] {enc : κ → Value} {t key elem : Nat} {x y : Operand} {ok : Bool} {ks : List κ} {vs : List D} {k : κ} {zs : List Value} {zd : D} {r : AVal} (ho : o.op = .lookup t x y ok) (hx : ev x = .d (.mp (ks.map fun k => D.s (enc k)) vs)) (hy : ev y = .d (.s (enc k)))
    (hK : KeyT P t key elem enc) (hz : ZeroT P elem zs) (hz1 : ∃ z, (P.info? elem).bind (·.zero) = some z ∧ (∀ (F : Fz) (w : World), VR F w zd z)) (hr : lookR zd ok (look ks vs k) = r) : GStep P β H o ev r := by
  subst hr
  refine .val fun F ρ w hr evc he => ?_
  have h1 := he x (by simp [ho, Op.operands])
  have h2 := he y (by simp [ho, Op.operands])
  rw [hx] at h1
  rw [hy] at h2
  obtain ⟨z, hz2, hz3⟩ := hz1
  generalize hv : evc x = v at h1
  cases h1 with
  | d _ _ h1 =>
    generalize hks : (ks.map fun k => D.s (enc k)) = kd at h1
    cases h1 with
    | mp _ _ b es c hb hF hk hvl h3 h4 =>
      subst hks
      obtain ⟨v, hrun, hav⟩ := run_lookup (β := β) (ρ := ρ) (H := H) hK hb (keys_of hk h3) hvl h4 hz (zd := zd) (fun z' hz' => by rw [hz2] at hz'; cases hz'; exact hz3 F w) k ok
      refine ⟨v, ?_, hav⟩
      simp only [execOp, ho, hv, h2.s_inv, Sem.run_bind, hrun, Result.andThen_ok, Sem.run_pure]

end Go.Q
