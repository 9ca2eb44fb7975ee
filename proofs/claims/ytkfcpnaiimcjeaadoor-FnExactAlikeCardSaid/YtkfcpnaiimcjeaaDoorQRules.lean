/- The rules of a program logic over abstract states, first part: how states go on, sequences, tests, loops, plain operations. No condition. -/
import Derived.Test.YtkfcpnaiimcjeaaDoorQCore
set_option linter.unusedVariables false
namespace Go.Q
open Go.RowKit
variable {P : Program} {β : Base}

/-! ### What grows -/
theorem AVR.grow {F F' : Fz} {ρ : Gh} {H : Nat → Obj} {w w' : World} (hE : Ext F w w') (hF : ∀ b, F b ≤ F' b) {c : AVal} {v : Value} (h : AVR P β F ρ H w c v) : AVR P β F' ρ H w' c v := by
  induction h with
  | junk v => exact .junk v
  | d x v h => exact .d x v (h.mono hE hF)
  | agg l vs hl hc h ih => exact .agg l vs hl hc ih
  | box id off => exact .box id off
  | asl id n v h1 h => exact .asl id n v h1 h
  | el id n k v h1 h => exact .el id n k v h1 h
  | nil => exact .nil
  | lit sz l a h => exact .lit sz l a (h.mono hE hF)
  | clo f caps vs hl h ih => exact .clo f caps vs hl ih
  | fnv p v h1 h => exact .fnv p v h1 (h.mono hE hF)
  | tup l vs hl h ih => exact .tup l vs hl ih
  | mp id => exact .mp id

theorem AVR.oneCell {F : Fz} {ρ : Gh} {H : Nat → Obj} {w : World} {c : AVal} {v : Value} (h : AVR P β F ρ H w c v) (hc : c.isCell = true) : v.oneCell' = true := by
  cases h with
  | d x v h => exact h.oneCell (by cases x <;> first | rfl | cases hc)
  | asl id n v h1 h => exact h1
  | el id n k v h1 h => exact h1
  | fnv p v h1 h => exact h1
  | _ => first | rfl | cases hc

theorem ownsRow_of_blk {w w' : World} {e : TypeId} {sz n : Nat} {v : Value} {xs : List Value} (h : w.ownsRow 0 e sz v n xs) (hb : ∀ g, v.ownBlock = some g → w'.heap[g]? = w.heap[g]?) : w'.ownsRow 0 e sz v n xs := by
  refine ⟨h.1, ?_⟩
  rcases h.2 with h2 | ⟨g, cap, cur, rfl, hg, hh, r⟩
  · exact .inl h2
  · exact .inr ⟨g, cap, cur, rfl, hg, by rw [hb g rfl]; exact hh, r⟩

/-- An object stays where its own block stays and what it leads to stays. -/
theorem ORel.keep {F F' : Fz} {ρ : Gh} {H : Nat → Obj} {w w' : World} (hE : Ext F w w') (hF : ∀ b, F b ≤ F' b) {id : Nat} {o : Obj}
    (hb : ∀ b, blkOf ρ id o = some b → w'.heap[b]? = w.heap[b]? ∧ F' b = F b) (h : ORel P β F ρ H w id o) : ORel P β F' ρ H w' id o := by
  cases o with
  | dead => trivial
  | box cs =>
    obtain ⟨⟨vs, e, h1, h2, h3, h4⟩, h5, h6⟩ := h
    have hb := hb _ rfl
    exact ⟨⟨vs, e, by rw [hb.1]; exact h1, h2, h3, fun i c v hc hv => (h4 i c v hc hv).grow hE hF⟩, h5, by rw [hb.2]; exact h6⟩
  | arr mu sz e l =>
    obtain ⟨h0, h1, h2, xs, h3, h4, h5⟩ := h
    refine ⟨h0, h1, h2, xs, ownsRow_of_blk h3 (fun g hg => (hb g hg).1), fun i d v hd hv => (h4 i d v hd hv).mono hE hF, fun g hg => ?_⟩
    have := h5 g hg
    exact ⟨this.1, by rw [(hb g hg).2]; exact this.2⟩
  | map ks vs =>
    obtain ⟨⟨es, c, h1, h2, h3, h4, h5⟩, h6, h7⟩ := h
    have hb := hb _ rfl
    exact ⟨⟨es, c, by rw [hb.1]; exact h1, h2, h3, fun i d e hd he => (h4 i d e hd he).mono hE hF, fun i d e hd he => (h5 i d e hd he).mono hE hF⟩, h6, by rw [hb.2]; exact h7⟩

theorem ORel.lt {F : Fz} {ρ : Gh} {H : Nat → Obj} {w : World} {id : Nat} {o : Obj} (h : ORel P β F ρ H w id o) {b : Nat} (hb : blkOf ρ id o = some b) : b < w.heap.size := by
  cases o with
  | dead => cases hb
  | box cs =>
    obtain ⟨⟨vs, e, h1, _⟩, _⟩ := h
    cases hb
    exact (Array.getElem?_eq_some_iff.1 h1).1
  | arr mu sz e l =>
    obtain ⟨h0, h1, h2, xs, h3, h4, h5⟩ := h
    exact (h3.lt b hb).2
  | map ks vs =>
    obtain ⟨⟨es, c, h1, _⟩, _⟩ := h
    cases hb
    exact (Array.getElem?_eq_some_iff.1 h1).1

/-- All that was there stays, more may come. -/
theorem RelH.grow {F F' : Fz} {ρ : Gh} {H : Nat → Obj} {w w' : World} (h : RelH P β F ρ H w) (k : Kept noM w F w' F') (hw' : WF F' w') : RelH P β F' ρ H w' := by
  have hE := k.ext h.wf
  have hF := k.le h.wf
  refine ⟨fun i => (h.ob i).keep hE hF (fun b hb => ?_), h.dj, hw', h.wf0, h.kept.trans k (fun b _ hn => hn.elim), h.fx⟩
  exact k.blk b ((h.ob i).lt hb) (fun hn => hn)

theorem Rel.grow {F F' : Fz} {ρ : Gh} {σ : St} {a : Act} {w w' : World} (h : Rel P β F ρ σ a w) (k : Kept noM w F w' F') (hw' : WF F' w') : Rel P β F' ρ σ a w' :=
  ⟨h.h.grow k hw', fun i => (h.tm i).grow (k.ext h.h.wf) (k.le h.h.wf), h.df, h.nn⟩

theorem Rel.put {F : Fz} {ρ : Gh} {σ : St} {a : Act} {w : World} (h : Rel P β F ρ σ a w) {dst : Nat} (hd : dst < β.n) {c : AVal} {v : Value} (hc : AVR P β F ρ σ.H w c v) : Rel P β F ρ (σ.put dst c) (a.put (some dst) v) w := by
  refine ⟨h.h, fun i => ?_, h.df, by simpa [Act.put] using h.nn⟩
  have hsz := h.nn
  by_cases hi : i = dst
  · subst hi
    have : (a.tmps.setIfInBounds i v).getD i undef = v := by simp [Array.getD, show i < a.tmps.size by omega]
    simp only [St.put, upd_same, Act.put, this]
    exact hc
  · have : (a.tmps.setIfInBounds dst v).getD i undef = a.tmps.getD i undef := by
      simp only [Array.getD_eq_getD_getElem?, Array.getElem?_setIfInBounds]
      rw [if_neg (fun e => hi e.symm)]
    simp only [St.put, upd_ne _ _ hi, Act.put, this]
    exact h.tm i

/-! ### Operands -/
def constC : Value → AVal
  | .slice none 0 0 => .nil
  | .agg _ | .tuple _ => .junk
  | v => .d (.s v)
def constA : Value → AVal
  | .agg cs => if cs.toList.all (fun v => v.oneCell') then .agg (cs.toList.map constC) else .junk
  | v => constC v
def aev (σ : St) : Operand → AVal
  | .tmp t => σ.env t
  | .const v => constA v
  | .global _ => .junk
  | .func f => .clo f []

theorem constC_isCell {v : Value} (h : v.oneCell' = true) : (constC v).isCell = true := by
  unfold constC
  split <;> first | rfl | cases h

theorem constC_rel {F : Fz} {ρ : Gh} {H : Nat → Obj} {w : World} (v : Value) : AVR P β F ρ H w (constC v) v := by
  unfold constC
  split
  · exact .nil
  · exact .junk _
  · exact .junk _
  · rename_i h1 h3 h4
    refine .d _ _ (.s _ ?_)
    cases v <;> first | rfl | exact absurd rfl (h3 _) | exact absurd rfl (h4 _)

theorem constA_rel {F : Fz} {ρ : Gh} {H : Nat → Obj} {w : World} (v : Value) : AVR P β F ρ H w (constA v) v := by
  unfold constA
  split
  · rename_i cs
    split
    · rename_i hall
      have := AVR.agg (P := P) (β := β) (F := F) (ρ := ρ) (H := H) (w := w) (cs.toList.map constC) cs.toList (by simp)
        (by
          intro c hc
          obtain ⟨v, hv, rfl⟩ := List.mem_map.1 hc
          exact constC_isCell (List.all_eq_true.1 hall v hv))
        (by
          intro i c v hc hv
          rw [List.getElem?_map, hv] at hc
          cases hc
          exact constC_rel v)
      simpa using this
    · exact .junk _
  · exact constC_rel v

theorem Rel.ev {F : Fz} {ρ : Gh} {σ : St} {a : Act} {w : World} (h : Rel P β F ρ σ a w) (x : Operand) : AVR P β F ρ σ.H w (aev σ x) (a.eval x) := by
  cases x with
  | tmp t => exact h.tm t
  | const v => exact constA_rel v
  | global g => exact .junk _
  | func f => exact .clo f [] [] rfl (by simp)

/-! ### Triples -/
def Lift (P : Program) (β : Base) (Q : Exit → St → Prop) : Exit → Act → World → Prop := fun e a w => ∃ F ρ σ, Q e σ ∧ Rel P β F ρ σ a w
def T (P : Program) (β : Base) (c : Code) (Q : Exit → St → Prop) (σ : St) : Prop := ∀ F ρ a w, Rel P β F ρ σ a w → c.wp P (Lift P β Q) a w
def TL (P : Program) (β : Base) (ops : Array Oper) (Q : Exit → St → Prop) (l : List Oper) (σ : St) : Prop := ∀ F ρ a w, Rel P β F ρ σ a w → wpList P ops (Lift P β Q) l a w

def EThen (K : St → Prop) (Q : Exit → St → Prop) : Exit → St → Prop
  | .normal, σ => K σ
  | e, σ => Q e σ
def EBlock (id : Nat) (Q : Exit → St → Prop) : Exit → St → Prop
  | .exit id', σ => if id' = id then Q .normal σ else Q (.exit id') σ
  | e, σ => Q e σ

theorem T.mono {c : Code} {Q Q' : Exit → St → Prop} {σ : St} (h : T P β c Q σ) (hq : ∀ e σ, Q e σ → Q' e σ) : T P β c Q' σ :=
  fun F ρ a w hr => wp_mono (h F ρ a w hr) fun e a' w' ⟨F', ρ', σ', q, r⟩ => ⟨F', ρ', σ', hq _ _ q, r⟩

theorem T_skip {Q : Exit → St → Prop} {σ : St} (h : Q .normal σ) : T P β .skip Q σ := fun F ρ a w hr => wp_skip ⟨F, ρ, σ, h, hr⟩
theorem T_exit {id : Nat} {Q : Exit → St → Prop} {σ : St} (h : Q (.exit id) σ) : T P β (.exit id) Q σ := fun F ρ a w hr => wp_exit ⟨F, ρ, σ, h, hr⟩
theorem T_ret {Q : Exit → St → Prop} {σ : St} (h : Q .ret σ) : T P β .ret Q σ := fun F ρ a w hr => wp_ret ⟨F, ρ, σ, h, hr⟩
theorem T_label {l : Nat} {Q : Exit → St → Prop} {σ : St} (h : Q .normal σ) : T P β (.label l) Q σ := fun F ρ a w hr => wp_label ⟨F, ρ, σ, h, hr⟩

theorem T_seq {x y : Code} {Q : Exit → St → Prop} {σ : St} (h : T P β x (EThen (T P β y Q) Q) σ) : T P β (.seq x y) Q σ := by
  intro F ρ a w hr
  refine wp_seq (wp_mono (h F ρ a w hr) ?_)
  rintro e a' w' ⟨F', ρ', σ', q, r⟩
  cases e <;> first | exact q F' ρ' a' w' r | exact ⟨F', ρ', σ', q, r⟩

theorem T_cond {c : Operand} {x y : Code} {Q : Exit → St → Prop} {σ : St} {b : Bool} (hc : aev σ c = .d (.s (.bool b))) (h1 : b = true → T P β x Q σ) (h2 : b = false → T P β y Q σ) : T P β (.cond c x y) Q σ := by
  intro F ρ a w hr
  have hv := hr.ev c
  rw [hc] at hv
  have he : a.eval c = .bool b := by
    generalize a.eval c = v at hv
    cases hv with | d _ _ h => cases h; rfl
  exact wp_cond_split he (fun h => h1 h F ρ a w hr) (fun h => h2 h F ρ a w hr)

theorem T_block {id : Nat} {c : Code} {Q : Exit → St → Prop} {σ : St} (h : T P β c (EBlock id Q) σ) : T P β (.block id c) Q σ := by
  intro F ρ a w hr
  refine wp_block (wp_mono (h F ρ a w hr) ?_)
  rintro e a' w' ⟨F', ρ', σ', q, r⟩
  cases e with
  | exit id' =>
    simp only [EBlock] at q
    simp only [Exit.inBlock]
    split at q
    · rename_i e; rw [if_pos e]; exact ⟨F', ρ', σ', q, r⟩
    · rename_i e; rw [if_neg e]; exact ⟨F', ρ', σ', q, r⟩
  | _ => exact ⟨F', ρ', σ', q, r⟩

theorem T_loop {c : Code} {Q : Exit → St → Prop} {σ : St} {α : Type} (st : α → St) (I : α → Prop) (μ : α → Nat) (x0 : α) (h0 : σ = st x0) (hI : I x0)
    (round : ∀ x, I x → T P β c (EThen (fun σ' => ∃ y, σ' = st y ∧ I y ∧ μ y < μ x) Q) (st x)) : T P β (.loop c) Q σ := by
  intro F ρ a w hr b k cs
  subst h0
  have key : ∀ n x, μ x = n → I x → ∀ F ρ a w, Rel P β F ρ (st x) a w →
      ∃ e a' w', Lift P β Q e a' w' ∧ Arrives P (lone (b.at a (.code c :: .inLoop c :: k)) cs w) b k cs e a' w' := by
    intro n
    induction n using Nat.strongRecOn with
    | _ n ih =>
      intro x hn hx F ρ a w hr
      obtain ⟨e, a1, w1, hq, harr⟩ := round x hx F ρ a w hr b (.inLoop c :: k) cs
      obtain ⟨F', ρ', σ', q, r⟩ := hq
      cases e with
      | normal =>
        obtain ⟨y, rfl, hy, hlt⟩ := q
        obtain ⟨e2, a2, w2, hq2, harr2⟩ := ih (μ y) (hn ▸ hlt) y rfl hy F' ρ' a1 w1 r
        exact ⟨e2, a2, w2, hq2, .of_steps (Steps.trans harr (.one step_inLoop)) harr2⟩
      | exit id => exact ⟨_, a1, w1, ⟨F', ρ', σ', q, r⟩, .pass (x := .inLoop c) rfl (fun _ _ => .inl (by simp)) harr⟩
      | goto l => exact ⟨_, a1, w1, ⟨F', ρ', σ', q, r⟩, .pass (x := .inLoop c) rfl (fun _ _ => .inl (by simp)) harr⟩
      | ret => exact ⟨_, a1, w1, ⟨F', ρ', σ', q, r⟩, .pass (x := .inLoop c) rfl (fun _ _ => .inl (by simp)) harr⟩
      | panic ch => exact ⟨_, a1, w1, ⟨F', ρ', σ', q, r⟩, .pass (x := .inLoop c) rfl (fun _ _ => .inl (by simp)) harr⟩
      | outgrown => exact ⟨_, a1, w1, ⟨F', ρ', σ', q, r⟩, .pass (x := .inLoop c) rfl (fun _ _ => .inl (by simp)) harr⟩
  obtain ⟨e, a', w', hq, harr⟩ := key _ x0 rfl hI F ρ a w hr
  exact ⟨e, a', w', hq, .of_steps (.one step_loop) harr⟩

/-! ### Forgetting -/
def Fgt (σ σ' : St) : Prop := (∀ i, σ'.env i = .junk ∨ σ'.env i = σ.env i) ∧ (∀ i, σ'.H i = .dead ∨ σ'.H i = σ.H i)

theorem AVR.fgt {F : Fz} {ρ : Gh} {H H' : Nat → Obj} {w : World} (hH : ∀ i, H' i = .dead ∨ H' i = H i) {c : AVal} {v : Value} (h : AVR P β F ρ H w c v) : AVR P β F ρ H' w c v := by
  induction h with
  | junk v => exact .junk v
  | d x v h => exact .d x v h
  | agg l vs hl hc h ih => exact .agg l vs hl hc ih
  | box id off => exact .box id off
  | asl id n v h1 h =>
    refine .asl id n v h1 (fun mu sz e l he => ?_)
    rcases hH id with hd | hd
    · rw [hd] at he; cases he
    · exact h mu sz e l (hd ▸ he)
  | el id n k v h1 h =>
    refine .el id n k v h1 (fun mu sz e l he => ?_)
    rcases hH id with hd | hd
    · rw [hd] at he; cases he
    · exact h mu sz e l (hd ▸ he)
  | nil => exact .nil
  | lit sz l a h => exact .lit sz l a h
  | clo f caps vs hl h ih => exact .clo f caps vs hl ih
  | fnv p v h1 h => exact .fnv p v h1 h
  | tup l vs hl h ih => exact .tup l vs hl ih
  | mp id => exact .mp id

theorem ORel.fgt {F : Fz} {ρ : Gh} {H H' : Nat → Obj} {w : World} (hH : ∀ i, H' i = .dead ∨ H' i = H i) {id : Nat} {o : Obj} (h : ORel P β F ρ H w id o) : ORel P β F ρ H' w id o := by
  cases o with
  | dead => trivial
  | box cs =>
    obtain ⟨⟨vs, e, h1, h2, h3, h4⟩, h5⟩ := h
    exact ⟨⟨vs, e, h1, h2, h3, fun i c v hc hv => (h4 i c v hc hv).fgt hH⟩, h5⟩
  | arr mu sz e l => exact h
  | map ks vs => exact h

theorem Rel.fgt {F : Fz} {ρ : Gh} {σ σ' : St} {a : Act} {w : World} (hf : Fgt σ σ') (h : Rel P β F ρ σ a w) : Rel P β F ρ σ' a w := by
  obtain ⟨he, hH⟩ := hf
  refine ⟨⟨fun i => ?_, fun i j b hne h1 h2 => ?_, h.h.wf, h.h.wf0, h.h.kept, h.h.fx⟩, fun i => ?_, h.df, h.nn⟩
  · rcases hH i with hd | hd
    · rw [hd]; trivial
    · rw [hd]; exact (h.h.ob i).fgt hH
  · rcases hH i with hd | hd
    · rw [hd] at h1; cases h1
    · rcases hH j with hd' | hd'
      · rw [hd'] at h2; cases h2
      · rw [hd] at h1; rw [hd'] at h2; exact h.h.dj i j b hne h1 h2
  · rcases he i with hd | hd
    · rw [hd]; exact .junk _
    · rw [hd]; exact (h.tm i).fgt hH

theorem T_fgt {c : Code} {Q : Exit → St → Prop} {σ : St} (σ' : St) (hf : Fgt σ σ') (h : T P β c Q σ') : T P β c Q σ := fun F ρ a w hr => h F ρ a w (hr.fgt hf)

def env0 : Nat → AVal := fun _ => .junk
def H0 : Nat → Obj := fun _ => .dead
theorem fgt_intro {σ : St} {e : Nat → AVal} {H : Nat → Obj} (h1 : ∀ i, e i = .junk ∨ e i = σ.env i) (h2 : ∀ i, H i = .dead ∨ H i = σ.H i) : Fgt σ ⟨e, H⟩ := ⟨h1, h2⟩
theorem fgt_env0 {e : Nat → AVal} : ∀ i, env0 i = .junk ∨ env0 i = e i := fun _ => .inl rfl
theorem fgt_upd {e e' : Nat → AVal} {t : Nat} {v : AVal} (hv : e t = v) (h : ∀ i, e' i = .junk ∨ e' i = e i) : ∀ i, upd e' t v i = .junk ∨ upd e' t v i = e i := by
  intro i
  by_cases hi : i = t
  · subst hi; rw [upd_same]; exact .inr hv.symm
  · rw [upd_ne _ _ hi]; exact h i
theorem fgt_H0 {e : Nat → Obj} : ∀ i, H0 i = .dead ∨ H0 i = e i := fun _ => .inl rfl
theorem fgt_updH {e e' : Nat → Obj} {t : Nat} {v : Obj} (hv : e t = v) (h : ∀ i, e' i = .dead ∨ e' i = e i) : ∀ i, upd e' t v i = .dead ∨ upd e' t v i = e i := by
  intro i
  by_cases hi : i = t
  · subst hi; rw [upd_same]; exact .inr hv.symm
  · rw [upd_ne _ _ hi]; exact h i

/-! ### Plain regions -/
theorem T_region {id : Nat} {ops : List Oper} {Q : Exit → St → Prop} {σ : St} (h : TL P β ops.toArray Q ops σ) : T P β (.region id ops.toArray false) Q σ :=
  fun F ρ a w hr => wp_region_lit (h F ρ a w hr)

theorem TL_nil {ops : Array Oper} {Q : Exit → St → Prop} {σ : St} (h : Q .normal σ) : TL P β ops Q [] σ := fun F ρ a w hr => wpList_nil ⟨F, ρ, σ, h, hr⟩

/-- An operation that goes on with a value (or enters a call that hands one back). -/
def goes (P : Program) (o : Oper) (ev : Operand → Value) (w : World) (K : Value → World → Prop) : Prop :=
  match (execOp ev o).run P w with
  | .ok (.value v) w' => K v w'
  | .ok .skip w' => K undef w'
  | .ok (.enter f args) w' => Calls P f args w' fun e w'' => ∃ v, e = .returned v ∧ K v w''
  | _ => False

theorem wp_of_goes {o : Oper} {a : Act} {w : World} {K : Act → World → Prop} {Q : Exit → Act → World → Prop} (h : goes P o a.eval w fun v w' => K (a.put o.dst v) w') : o.wp P a w K Q := by
  unfold goes at h
  unfold Oper.wp
  generalize (execOp a.eval o).run P w = r at h
  cases r with
  | halt _ _ => exact h.elim
  | ok x w' =>
    cases x with
    | value v => exact h
    | skip => exact h
    | enter f args =>
      refine Calls.mono h ?_
      rintro e w'' ⟨v, rfl, hk⟩
      exact hk
    | _ => exact h.elim

/-- Whatever the order: what an operation yields out of its operands, in every world that this state reads as; what was there stays. -/
def GStep (P : Program) (β : Base) (H : Nat → Obj) (o : Oper) (ev : Operand → AVal) (c : AVal) : Prop :=
  ∀ F ρ w, RelH P β F ρ H w → ∀ evc : Operand → Value, (∀ x ∈ o.op.operands, AVR P β F ρ H w (ev x) (evc x)) →
    ∀ K : Value → World → Prop, (∀ v w' F', Kept noM w F w' F' → WF F' w' → AVR P β F' ρ H w' c v → K v w') → goes P o evc w K

theorem TL_g {ops : Array Oper} {Q : Exit → St → Prop} {σ : St} {o : Oper} {rest : List Oper} {dst : Nat} {c : AVal} (hg : o.guard = none) (hd : o.dst = some dst) (hn : dst < β.n)
    (hs : GStep P β σ.H o (aev σ) c) (h : TL P β ops Q rest (σ.put dst c)) : TL P β ops Q (o :: rest) σ := by
  intro F ρ a w hr
  refine wpList_plain hg fun K hK => wp_of_goes ?_
  refine hs F ρ w hr.h a.eval (fun x _ => hr.ev x) _ (fun v w' F' hk hw hc => hK _ _ ?_)
  rw [hd]
  exact h F' ρ _ w' ((hr.grow hk hw).put hn hc)

/-- A step that turns the state. -/
def SStep (P : Program) (β : Base) (σ : St) (o : Oper) (σ' : St) : Prop :=
  ∀ F ρ a w, Rel P β F ρ σ a w → goes P o a.eval w fun v w' => ∃ F' ρ', Rel P β F' ρ' σ' (a.put o.dst v) w'

theorem TL_s {ops : Array Oper} {Q : Exit → St → Prop} {σ σ' : St} {o : Oper} {rest : List Oper} (hg : o.guard = none)
    (hs : SStep P β σ o σ') (h : TL P β ops Q rest σ') : TL P β ops Q (o :: rest) σ := by
  intro F ρ a w hr
  refine wpList_plain hg fun K hK => wp_of_goes ?_
  have := hs F ρ a w hr
  unfold goes at this ⊢
  generalize (execOp a.eval o).run P w = r at this
  cases r with
  | halt _ _ => exact this.elim
  | ok x w' =>
    cases x with
    | value v => obtain ⟨F', ρ', hr'⟩ := this; exact hK _ _ (h F' ρ' _ _ hr')
    | skip => obtain ⟨F', ρ', hr'⟩ := this; exact hK _ _ (h F' ρ' _ _ hr')
    | enter f args => exact Calls.mono this fun e w'' ⟨v, he, F', ρ', hr'⟩ => ⟨v, he, hK _ _ (h F' ρ' _ _ hr')⟩
    | _ => exact this.elim

end Go.Q
