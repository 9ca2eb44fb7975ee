/-
  No cell of these rows narrows 'for every input' (looked for: loops, veiled, ifaces, maps, wideKeys, modest, calm, conditions, laid).
  DERIVED. THE GIVEN ROWS OF THIS SEAT. 5 by the template 'for every input the law returns true; each argument reads behind the call as it read before'; 0 by the template 'total and deterministic' (their statements: YtkfcpnaiimcjeaaTotals.lean).
  GIVEN WITH THE SEED: the statements are not yours to turn. If you find one false, say at which input.
  Laid BY PROGRAM, IN A SANDBOX (cutbox-rows.mjs): the forced cells as the released guide's own fill.sh prints them over the translation 7686c421228b355f… (all of the seat's roots in one cut). By AI agents, Wed Nov 11 2026. No macro, syntax, notation, axiom, sorry.
-/
import Derived.Test.YtkfcpnaiimcjeaaChecked
import GoSem.Claim
import GoSem.ClaimJoined
import GoSem.ClaimMapViews
import Derived.JoinedTies
import Derived.KernelRfl
namespace Go.Proofs.Ytkfcpnaiimcjeaa
/- THE CELL 'sum', in the pinned program and in every row, IS THE sha256 OF THE DUMP (.gsa) THAT YtkfcpnaiimcjeaaProg.lean LOADS. Nothing in Lean hashes anything: it is a label: what it is worth is what the hold of that sum in a sandbox is worth. -/
noncomputable def Try.pinned : Pinned := { name := "ytkfcpnaiimcjeaa", sum := "7686c421228b355fe173766170fa44cb5715c2aa9a5ae29c7d0e91b927b5c0c2", checked := Try.checked }
namespace Rows
def none {H : Type} : Left H := { results := [], args := [] }

/-- 'laws.FnExactBack': WHATEVER THE INPUT: true; the input reads as it did. -/
def fnExactBackSpec : ChangeSpec := { name := "fnExactBack", fn := fun _ => fun
  | [d] => { results := [.lit (.bool true)], args := [d] }
  | _ => none }
def fnExactBackRow : OpenClaim := { program := "ytkfcpnaiimcjeaa", sum := "7686c421228b355fe173766170fa44cb5715c2aa9a5ae29c7d0e91b927b5c0c2", func := "loop.example/g00531/laws.FnExactBack", spec := "fnExactBack", unfollowed := true, recurses := true, apart := false }
def FnExactBackSaid : Prop := fnExactBackRow.holds Try.pinned (OpenSpec.ofChange fnExactBackSpec)

/-- ITS FALSE NEIGHBOUR: 'it returns false'. Refute it at one input. -/
def fnExactBackWrong : ChangeSpec := { name := "fnExactBack", fn := fun _ => fun
  | [d] => { results := [.lit (.bool false)], args := [d] }
  | _ => none }
def FnExactBackWrongFalsely : Prop := fnExactBackRow.holds Try.pinned (OpenSpec.ofChange fnExactBackWrong)

/-- 'laws.FnExactPlainRule': WHATEVER THE INPUT: true; the input reads as it did. -/
def fnExactPlainRuleSpec : ChangeSpec := { name := "fnExactPlainRule", fn := fun _ => fun
  | [d] => { results := [.lit (.bool true)], args := [d] }
  | _ => none }
def fnExactPlainRuleRow : OpenClaim := { program := "ytkfcpnaiimcjeaa", sum := "7686c421228b355fe173766170fa44cb5715c2aa9a5ae29c7d0e91b927b5c0c2", func := "loop.example/g00531/laws.FnExactPlainRule", spec := "fnExactPlainRule", inPlace := ["internal/abi.NoEscape", "internal/bytealg.MakeNoZero"], unfollowed := true, recurses := true, apart := false }
def FnExactPlainRuleSaid : Prop := fnExactPlainRuleRow.holds Try.pinned (OpenSpec.ofChange fnExactPlainRuleSpec)

/-- ITS FALSE NEIGHBOUR: 'it returns false'. Refute it at one input. -/
def fnExactPlainRuleWrong : ChangeSpec := { name := "fnExactPlainRule", fn := fun _ => fun
  | [d] => { results := [.lit (.bool false)], args := [d] }
  | _ => none }
def FnExactPlainRuleWrongFalsely : Prop := fnExactPlainRuleRow.holds Try.pinned (OpenSpec.ofChange fnExactPlainRuleWrong)

/-- 'laws.FnExactContains': WHATEVER THE INPUT: true; the input reads as it did. -/
def fnExactContainsSpec : ChangeSpec := { name := "fnExactContains", fn := fun _ => fun
  | [d1, d2] => { results := [.lit (.bool true)], args := [d1, d2] }
  | _ => none }
def fnExactContainsRow : OpenClaim := { program := "ytkfcpnaiimcjeaa", sum := "7686c421228b355fe173766170fa44cb5715c2aa9a5ae29c7d0e91b927b5c0c2", func := "loop.example/g00531/laws.FnExactContains", spec := "fnExactContains", inPlace := ["internal/abi.NoEscape", "internal/bytealg.MakeNoZero", "maps.clone"], unfollowed := true, recurses := true, apart := false }
def FnExactContainsSaid : Prop := fnExactContainsRow.holds Try.pinned (OpenSpec.ofChange fnExactContainsSpec)

/-- ITS FALSE NEIGHBOUR: 'it returns false'. Refute it at one input. -/
def fnExactContainsWrong : ChangeSpec := { name := "fnExactContains", fn := fun _ => fun
  | [d1, d2] => { results := [.lit (.bool false)], args := [d1, d2] }
  | _ => none }
def FnExactContainsWrongFalsely : Prop := fnExactContainsRow.holds Try.pinned (OpenSpec.ofChange fnExactContainsWrong)

/-- 'laws.FnExactCarries': WHATEVER THE INPUT: true; the input reads as it did. -/
def fnExactCarriesSpec : ChangeSpec := { name := "fnExactCarries", fn := fun _ => fun
  | [d1, d2] => { results := [.lit (.bool true)], args := [d1, d2] }
  | _ => none }
def fnExactCarriesRow : OpenClaim := { program := "ytkfcpnaiimcjeaa", sum := "7686c421228b355fe173766170fa44cb5715c2aa9a5ae29c7d0e91b927b5c0c2", func := "loop.example/g00531/laws.FnExactCarries", spec := "fnExactCarries", inPlace := ["internal/abi.NoEscape", "internal/bytealg.MakeNoZero", "maps.clone"], unfollowed := true, recurses := true, apart := false }
def FnExactCarriesSaid : Prop := fnExactCarriesRow.holds Try.pinned (OpenSpec.ofChange fnExactCarriesSpec)

/-- ITS FALSE NEIGHBOUR: 'it returns false'. Refute it at one input. -/
def fnExactCarriesWrong : ChangeSpec := { name := "fnExactCarries", fn := fun _ => fun
  | [d1, d2] => { results := [.lit (.bool false)], args := [d1, d2] }
  | _ => none }
def FnExactCarriesWrongFalsely : Prop := fnExactCarriesRow.holds Try.pinned (OpenSpec.ofChange fnExactCarriesWrong)

/-- 'laws.FnSelf': WHATEVER THE INPUT: true; the input reads as it did. -/
def fnSelfSpec : ChangeSpec := { name := "fnSelf", fn := fun _ => fun
  | [d] => { results := [.lit (.bool true)], args := [d] }
  | _ => none }
def fnSelfRow : OpenClaim := { program := "ytkfcpnaiimcjeaa", sum := "7686c421228b355fe173766170fa44cb5715c2aa9a5ae29c7d0e91b927b5c0c2", func := "loop.example/g00531/laws.FnSelf", spec := "fnSelf", inPlace := ["internal/abi.NoEscape", "internal/bytealg.MakeNoZero", "maps.clone"], unfollowed := true, recurses := true, apart := false }
def FnSelfSaid : Prop := fnSelfRow.holds Try.pinned (OpenSpec.ofChange fnSelfSpec)

/-- ITS FALSE NEIGHBOUR: 'it returns false'. Refute it at one input. -/
def fnSelfWrong : ChangeSpec := { name := "fnSelf", fn := fun _ => fun
  | [d] => { results := [.lit (.bool false)], args := [d] }
  | _ => none }
def FnSelfWrongFalsely : Prop := fnSelfRow.holds Try.pinned (OpenSpec.ofChange fnSelfWrong)

/- THE SECOND FORM. 'bulk': how many values and letters a reading holds, each counted each time it is reached (what is shared counts as often as it is met; a slice's spare places count too). A statement '..UptoSaid' is the law's where the arguments, and the package variables that the reading takes, are together of bulk at most 1048576: NARROWER than '..Said'. Prove '..Said' where nothing that the law and all that it calls make is longer than what came in: it says more and counts as full. Else prove '..UptoSaid'. A law counts once. -/
mutual
def uptoBulk {H : Type} : DataW H → Nat
  | .lit (.string bytes) => bytes.length + 1
  | .lit _ => 1
  | .nil => 1
  | .ptr d => uptoBulk d + 1
  | .slice elems spare => uptoBulkAll elems + uptoBulkAll spare + 1
  | .agg parts => uptoBulkAll parts + 1
  | .iface _ d => uptoBulk d + 1
  | .map entries => uptoBulkEntries entries + 1
  | .held _ => 1
def uptoBulkAll {H : Type} : List (DataW H) → Nat
  | [] => 0
  | d :: r => uptoBulk d + uptoBulkAll r
def uptoBulkEntries {H : Type} : List (Lit × DataW H) → Nat
  | [] => 0
  | x :: r => uptoBulkEntry x + uptoBulkEntries r
def uptoBulkEntry {H : Type} : Lit × DataW H → Nat
  | (.string bytes, d) => bytes.length + uptoBulk d + 1
  | (_, d) => uptoBulk d + 1
 end
def uptoSmall : (H : Type) → List (DataW H) → Bool := fun _ ds => decide (uptoBulkAll ds ≤ 1048576)
def OpenSpec.upto (s : _root_.Go.ChangeSpec) : _root_.Go.OpenSpec := { _root_.Go.OpenSpec.ofChange s with cond := some uptoSmall }

/-- 'laws.FnExactBack', WHERE WHAT IT READS IS OF BULK AT MOST 1048576: true; the input reads as it did. -/
def fnExactBackUptoRow : OpenClaim := { program := "ytkfcpnaiimcjeaa", sum := "7686c421228b355fe173766170fa44cb5715c2aa9a5ae29c7d0e91b927b5c0c2", func := "loop.example/g00531/laws.FnExactBack", spec := "fnExactBack", unfollowed := true, recurses := true, apart := false, narrowed := true }
def FnExactBackUptoSaid : Prop := fnExactBackUptoRow.holds Try.pinned (OpenSpec.upto fnExactBackSpec)

/-- 'laws.FnExactPlainRule', WHERE WHAT IT READS IS OF BULK AT MOST 1048576: true; the input reads as it did. -/
def fnExactPlainRuleUptoRow : OpenClaim := { program := "ytkfcpnaiimcjeaa", sum := "7686c421228b355fe173766170fa44cb5715c2aa9a5ae29c7d0e91b927b5c0c2", func := "loop.example/g00531/laws.FnExactPlainRule", spec := "fnExactPlainRule", inPlace := ["internal/abi.NoEscape", "internal/bytealg.MakeNoZero"], unfollowed := true, recurses := true, apart := false, narrowed := true }
def FnExactPlainRuleUptoSaid : Prop := fnExactPlainRuleUptoRow.holds Try.pinned (OpenSpec.upto fnExactPlainRuleSpec)

/-- 'laws.FnExactContains', WHERE WHAT IT READS IS OF BULK AT MOST 1048576: true; the input reads as it did. -/
def fnExactContainsUptoRow : OpenClaim := { program := "ytkfcpnaiimcjeaa", sum := "7686c421228b355fe173766170fa44cb5715c2aa9a5ae29c7d0e91b927b5c0c2", func := "loop.example/g00531/laws.FnExactContains", spec := "fnExactContains", inPlace := ["internal/abi.NoEscape", "internal/bytealg.MakeNoZero", "maps.clone"], unfollowed := true, recurses := true, apart := false, narrowed := true }
def FnExactContainsUptoSaid : Prop := fnExactContainsUptoRow.holds Try.pinned (OpenSpec.upto fnExactContainsSpec)

/-- 'laws.FnExactCarries', WHERE WHAT IT READS IS OF BULK AT MOST 1048576: true; the input reads as it did. -/
def fnExactCarriesUptoRow : OpenClaim := { program := "ytkfcpnaiimcjeaa", sum := "7686c421228b355fe173766170fa44cb5715c2aa9a5ae29c7d0e91b927b5c0c2", func := "loop.example/g00531/laws.FnExactCarries", spec := "fnExactCarries", inPlace := ["internal/abi.NoEscape", "internal/bytealg.MakeNoZero", "maps.clone"], unfollowed := true, recurses := true, apart := false, narrowed := true }
def FnExactCarriesUptoSaid : Prop := fnExactCarriesUptoRow.holds Try.pinned (OpenSpec.upto fnExactCarriesSpec)

/-- 'laws.FnSelf', WHERE WHAT IT READS IS OF BULK AT MOST 1048576: true; the input reads as it did. -/
def fnSelfUptoRow : OpenClaim := { program := "ytkfcpnaiimcjeaa", sum := "7686c421228b355fe173766170fa44cb5715c2aa9a5ae29c7d0e91b927b5c0c2", func := "loop.example/g00531/laws.FnSelf", spec := "fnSelf", inPlace := ["internal/abi.NoEscape", "internal/bytealg.MakeNoZero", "maps.clone"], unfollowed := true, recurses := true, apart := false, narrowed := true }
def FnSelfUptoSaid : Prop := fnSelfUptoRow.holds Try.pinned (OpenSpec.upto fnSelfSpec)

end Rows
end Go.Proofs.Ytkfcpnaiimcjeaa
