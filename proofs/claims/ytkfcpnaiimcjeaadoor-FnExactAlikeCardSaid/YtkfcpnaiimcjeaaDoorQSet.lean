/- Maps from strings to true, as sets. No program in sight. -/
import Derived.Test.YtkfcpnaiimcjeaaDoorQPlain
set_option linter.unusedVariables false
namespace Go.Q
abbrev dset (ks : List Bs) : D := .mp (ks.map fun k => D.s (str k)) (ks.map fun _ => db true)
theorem look_set : ∀ (ks : List Bs) (k : Bs), look ks (ks.map fun _ => db true) k = if k ∈ ks then some (db true) else none
  | [], k => rfl
  | a :: l, k => by
    rw [List.map_cons, look, look_set l k]
    by_cases h : a = k
    · simp [h]
    · have : ¬ k = a := fun e => h e.symm
      simp [h, this]
theorem lookR_set (ks : List Bs) (k : Bs) : lookR (db false) false (look ks (ks.map fun _ => db true) k) = .d (db (decide (k ∈ ks))) := by
  rw [look_set]; by_cases h : k ∈ ks <;> simp [h, lookR]
theorem putV_set : ∀ (ks : List Bs) (k : Bs), putV ks (ks.map fun _ => db true) k (db true) = (putK ks k).map fun _ => db true
  | [], k => by simp [putV, putK]
  | a :: l, k => by
    rw [List.map_cons, putV]
    by_cases h : a = k
    · subst h; simp [putK]
    · have hk : ¬ k = a := fun e => h e.symm
      rw [if_neg h, putV_set l k]
      by_cases hl : k ∈ l
      · simp [putK, hl]
      · simp [putK, hl, hk]
theorem s_mapSet {P : Program} {β : Base} {σ : St} {o : Oper} {t key elem id : Nat} {x y z : Operand} {ks : List Bs} {k : Bs} (ho : o.op = .mapUpdate t x y z) (hd : o.dst = none) (hx : aev σ x = .mp id) (hy : aev σ y = .d (.s (str k))) (hz : Rd σ.H (aev σ z) (db true)) (hH : σ.H id = .map (ks.map fun k => D.s (str k)) (ks.map fun _ => db true))
    (hK : KeyT P t key elem str) : SStep P β σ o (σ.setH id (.map ((putK ks k).map fun k => D.s (str k)) ((putK ks k).map fun _ => db true))) := by
  rw [← putV_set]; exact s_mapUpdate ho hd hx hy hz hH hK
theorem mem_putK {ks : List Bs} {k s : Bs} : s ∈ putK ks k ↔ s ∈ ks ∨ s = k := by
  unfold putK; split
  · rename_i h; constructor
    · exact .inl
    · rintro (h1 | h1)
      · exact h1
      · exact h1 ▸ h
  · simp
theorem keys_in {r : Rule} {U L : List Int} {i : Nat} {a : Int} {e : Exp} {ks : List Bs} (he : expAt r a = e) (hk : e.kind = 1) (ha : L[i]? = some a) (h : ∀ s : Bs, s ∈ ks ↔ ∃ k ∈ U ++ L.take i, (expAt r k).kind = 1 ∧ (expAt r k).text = s) :
    ∀ s : Bs, s ∈ putK ks e.text ↔ ∃ k ∈ U ++ L.take (i + 1), (expAt r k).kind = 1 ∧ (expAt r k).text = s := by
  intro s
  rw [mem_putK, h s, take_snoc ha, ← List.append_assoc]
  constructor
  · rintro (⟨k, h1, h2⟩ | h1)
    · exact ⟨k, List.mem_append_left _ h1, h2⟩
    · exact ⟨a, List.mem_append_right _ (by simp), by rw [he]; exact ⟨hk, h1.symm⟩⟩
  · rintro ⟨k, h1, h2⟩
    rcases List.mem_append.1 h1 with h1 | h1
    · exact .inl ⟨k, h1, h2⟩
    · simp at h1; subst h1; rw [he] at h2; exact .inr h2.2.symm
theorem keys_out {r : Rule} {U L : List Int} {i : Nat} {a : Int} {e : Exp} {ks : List Bs} (he : expAt r a = e) (hk : e.kind ≠ 1) (ha : L[i]? = some a) (h : ∀ s : Bs, s ∈ ks ↔ ∃ k ∈ U ++ L.take i, (expAt r k).kind = 1 ∧ (expAt r k).text = s) :
    ∀ s : Bs, s ∈ ks ↔ ∃ k ∈ U ++ L.take (i + 1), (expAt r k).kind = 1 ∧ (expAt r k).text = s := by
  intro s
  rw [h s, take_snoc ha, ← List.append_assoc]
  constructor
  · rintro ⟨k, h1, h2⟩
    exact ⟨k, List.mem_append_left _ h1, h2⟩
  · rintro ⟨k, h1, h2⟩
    rcases List.mem_append.1 h1 with h1 | h1
    · exact ⟨k, h1, h2⟩
    · simp at h1; subst h1; rw [he] at h2; exact absurd h2.1 hk
theorem argOk_keys {r : Rule} {ks : List Bs} (hx : ∀ s : Bs, s ∈ ks ↔ ∃ k ∈ argsOf r.body, (expAt r k).kind = 1 ∧ (expAt r k).text = s) (a : Int) : argOk r a = !(decide ((expAt r a).kind = 1) && !decide ((expAt r a).text ∈ ks)) := by
  rw [argOk]
  by_cases h : (expAt r a).kind = 1
  · have : ((argsOf r.body).map fun k => vt (expAt r k)).contains (vt (expAt r a)) = decide ((expAt r a).text ∈ ks) := by
      rw [Bool.eq_iff_iff, List.contains_iff_mem, decide_eq_true_iff, hx, List.mem_map]
      constructor
      · rintro ⟨k, hk, he⟩
        refine ⟨k, hk, ?_⟩
        simp only [vt, h, if_pos] at he
        split at he
        · rename_i h1; simp at he; exact ⟨h1, he⟩
        · simp at he
      · rintro ⟨k, hk, h1, h2⟩
        exact ⟨k, hk, by simp [vt, h, h1, h2]⟩
    rw [this]
  · simp [h]
theorem plain_keys {r : Rule} {ks : List Bs} {U : List Int} (hne : r.text ≠ []) (hb6 : r.body.length ≤ 6) (hb1 : r.body.all (fun l => decide (l.kind = 1)) = true) (hE : (r.exps.any fun e => decide (e.kind ≠ 1) && decide (e.kind ≠ 3)) = false) (hU : U = argsOf r.body) (hx : ∀ s : Bs, s ∈ ks ↔ ∃ k ∈ U, (expAt r k).kind = 1 ∧ (expAt r k).text = s) :
    (!(r.head.args.any fun a => decide ((expAt r a).kind = 1) && !decide ((expAt r a).text ∈ ks))) = r.plain := by
  subst hU
  have h4 : r.exps.all (fun e => decide (e.kind = 1) || decide (e.kind = 3)) = true := by
    rw [List.all_eq_true]; rw [List.any_eq_false] at hE
    intro e he
    have := hE e he
    simp at this ⊢
    by_cases h : e.kind = 1
    · exact .inl h
    · exact .inr (this h)
  have h5 : (r.head.args.all (argOk r)) = !(r.head.args.any fun a => decide ((expAt r a).kind = 1) && !decide ((expAt r a).text ∈ ks)) := by
    rw [List.not_any_eq_all_not]
    exact congrArg (fun f => r.head.args.all f) (funext fun a => argOk_keys hx a)
  rw [← h5, Rule.plain, hb1, h4]; simp [hne, hb6]
end Go.Q
