/- strings.Join's contract and slices.Contains' at strings, in this logic's words. No condition but on lengths. -/
import Derived.Test.YtkfcpnaiimcjeaaDoorQText
import Derived.Test.YtkfcpnaiimcjeaaDoorShelf
set_option linter.unusedVariables false
set_option linter.unusedSimpArgs false
namespace Go.Proofs
open Go.Q Go.RowKit
theorem strs_in {F : Fz} {w : World} {l : List Bs} {v : Value} (h : VR F w (dstrs l) v) (hF : WF F w) :
    (l = [] ∧ ∃ a c, v = .slice a 0 c) ∨ ∃ b off cap, v = .slice (some ⟨b, off, none⟩) l.length cap ∧ l.length ≤ cap ∧ b < w.heap.size ∧ ∀ (j : Nat) (x : Bs), l[j]? = some x → w.cell? ⟨b, off + j, none⟩ = some (str x) := by
  generalize hd : dstrs l = d at h
  cases h with
  | sl0 sz o a cap h =>
    left
    injection hd with h1 h2 h3
    exact ⟨by simpa using h3, a, cap, rfl⟩
  | sl sz o l' b off cap cs hne h0 hsz hc hcap hmax hr hl hFb ho h =>
    right
    injection hd with h1 h2 h3
    subst h3
    have hfl : flat (l.map ds) = l.map ds := flat_cell ds_cells l
    rw [hfl] at hl h
    refine ⟨b, off, cap, by simp, by simpa using hcap, ?_, fun j x hx => ?_⟩
    · rcases Nat.lt_or_ge b w.heap.size with hb | hb
      · exact hb
      · have h4 := hF b hb
        have : cs.length ≠ 0 := by rw [hl]; intro h0; exact hne (List.eq_nil_of_length_eq_zero h0)
        omega
    · have hj := (List.getElem?_eq_some_iff.1 hx).1
      have hjc : j < cs.length := by rw [hl]; simpa using hj
      have hcj : cs[j]? = some cs[j] := List.getElem?_eq_getElem hjc
      have := (h j (ds x) cs[j] (get_map hx) hcj).s_inv
      rw [hr j _ hcj, this]
  | _ => cases hd
theorem kept_below {F : Fz} {w w' : World} (hF : WF F w) (h : Below w.heap.size w w') : Kept noM w F w' F ∧ WF F w' :=
  ⟨⟨h.os, h.tape, h.output, h.size, fun b hb _ => ⟨h.block b hb, rfl⟩, fun b _ hm => hm.elim⟩, fun b hb => hF b (Nat.le_trans h.size hb)⟩
theorem ba_toList (l : Bs) : (⟨l.toArray⟩ : ByteArray).data.toList = l := by simp
theorem PC_Join (l : List Bs) (sep : Bs) (hl : l.length ≤ 140737488355328) (hb : (Lib.join l sep).length ≤ 140737488355328) (w : World) (F : Fz) :
    PC Tryd.prog 66 w F [.d (dstrs l), .d (ds sep)] (· = [ds (Lib.join l sep)]) := by
  intro hF vs hn hv
  obtain ⟨v0, v1, rfl⟩ : ∃ a b, vs = [a, b] := by
    match vs, hn with
    | [a, b], _ => exact ⟨a, b, rfl⟩
  have h0 : VR F w (dstrs l) v0 := hv 0 _ _ rfl rfl
  have h1 : VR F w (ds sep) v1 := hv 1 _ _ rfl rfl
  have e1 := h1.s_inv
  subst e1
  have hmap : (l.map fun x => (⟨x.toArray⟩ : ByteArray)).map (·.data.toList) = l := by rw [List.map_map]; exact (List.map_congr_left (fun x _ => by simp)).trans (List.map_id l)
  rcases strs_in h0 hF with ⟨rfl, a, c, rfl⟩ | ⟨b, off, cap, rfl, hcap, hbk, hcells⟩
  · refine (Tryd.strings_Join_none a c ⟨sep.toArray⟩ w).mono ?_
    rintro e w' ⟨rfl, rfl⟩
    exact ⟨_, F, _, rfl, rfl, Kept.refl _ _ _, hF, .s _ rfl⟩
  · have := Tryd.strings_Join b off cap (l.map fun x => ⟨x.toArray⟩) ⟨sep.toArray⟩ w (fun j x hx => by
      rw [List.getElem?_map] at hx
      cases hj : l[j]? with
      | none => rw [hj] at hx; cases hx
      | some y => rw [hj] at hx; cases hx; exact hcells j y hj) hbk (by simpa using hl) (by simpa using hcap) (by rw [hmap]; exact hb)
    rw [List.length_map, hmap] at this
    refine this.mono ?_
    rintro e w' ⟨rfl, hB⟩
    obtain ⟨k1, k2⟩ := kept_below hF hB
    exact ⟨_, F, _, rfl, rfl, k1, k2, .s _ rfl⟩
theorem PC_ContainsStr (l : List Bs) (s : Bs) (hl : l.length ≤ 140737488355328) (w : World) (F : Fz) :
    PC Tryd.prog 67 w F [.d (dstrs l), .d (ds s)] (· = [db (l.contains s)]) := by
  intro hF vs hn hv
  obtain ⟨v0, v1, rfl⟩ : ∃ a b, vs = [a, b] := by
    match vs, hn with
    | [a, b], _ => exact ⟨a, b, rfl⟩
  have h0 : VR F w (dstrs l) v0 := hv 0 _ _ rfl rfl
  have h1 : VR F w (ds s) v1 := hv 1 _ _ rfl rfl
  have e1 := h1.s_inv
  subst e1
  rcases strs_in h0 hF with ⟨rfl, a, c, rfl⟩ | ⟨b, off, cap, rfl, hcap, hbk, hcells⟩
  · refine (Tryd.slices_Contains_string_empty a c ⟨s.toArray⟩ w).mono ?_
    rintro e w' ⟨rfl, rfl⟩
    exact ⟨_, F, _, rfl, rfl, Kept.refl _ _ _, hF, .s _ rfl⟩
  · have := Tryd.slices_Contains_string b off l.length cap (l.map fun x => ⟨x.toArray⟩) ⟨s.toArray⟩ w (by simp) (by omega) (fun j hj => by
      have hj' : j < l.length := by simpa using hj
      rw [hcells j _ (List.getElem?_eq_getElem hj')]
      simp [List.getD_eq_getElem?_getD, hj', str])
    have h2 : Lib.containsS ((l.map fun x => (⟨x.toArray⟩ : ByteArray)).take l.length) ⟨s.toArray⟩ = l.contains s := by
      rw [List.take_of_length_le (by simp), Bool.eq_iff_iff, Lib.containsS_iff]
      simp only [List.mem_map, List.contains_iff_mem]
      constructor
      · rintro ⟨x, hx, he⟩
        have : x = s := by injection he with he; exact List.toArray_inj he
        exact this ▸ hx
      · intro hx; exact ⟨s, hx, rfl⟩
    refine this.mono ?_
    rintro e w' ⟨rfl, rfl⟩
    rw [h2]
    exact ⟨_, F, _, rfl, rfl, Kept.refl _ _ _, hF, .s _ rfl⟩
end Go.Proofs
