/- The tied card of the law FnExactAlike: its row, and what it lists tied to the program's text. No condition. -/
import Derived.Test.YtkfcpnaiimcjeaaDoorQRowAlike
import Derived.Test.YtkfcpnaiimcjeaaDoorTie
import Derived.Test.YtkfcpnaiimcjeaaDoorCards
import Derived.SevenTiedAt
namespace Go.Proofs.YtkfcpnaiimcjeaaDoor
open Go
theorem fnExactAlike_card_holds : Rows.FnExactAlikeCardSaid :=
  Claim7.holds_tied_plain_at .later [] [.data, .data, .data] true (true, "076ea40155f62e204b5f1495d69f0c47986ed23ca997e9b51132ba9ac36c636d") false
    fnExactAlike_holds (fun _ h => by cases h) (by kernel_rfl) (fun _ h => by cases h) fnExactAlike_row_tie rfl ⟨rfl, rfl⟩ (by kernel_rfl) rfl
    (fun f fn hf hfn => by
      obtain rfl : f = 3 := Option.some.inj ((show Tryd.prog.funcNamed "loop.example/g00531/laws.FnExactAlike" = some 3 by kernel_rfl).symm.trans hf) |>.symm
      obtain rfl : fn = Tryd.f3 := (Option.some.inj (Tryd.func3.symm.trans hfn)).symm
      exact ⟨by kernel_rfl, fun j t ht => by
        rw [Tryd.params3] at ht
        have hm : t ∈ [28, 28] := by simpa using Array.mem_of_getElem? ht
        have hall : ([28, 28].all fun u => !Tryd.prog.wantsStandIn u) = true := by kernel_rfl
        exact (show Tryd.prog.wantsStandIn t = false by simpa using List.all_eq_true.1 hall t hm)⟩)
    (by kernel_rfl)
#print axioms fnExactAlike_card_holds
end Go.Proofs.YtkfcpnaiimcjeaaDoor
