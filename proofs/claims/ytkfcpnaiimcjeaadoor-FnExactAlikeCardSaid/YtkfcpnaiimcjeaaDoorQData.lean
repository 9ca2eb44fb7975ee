/- The program's data as plain Lean data, and how a value reads as it. No condition. -/
import Derived.Test.YtkfcpnaiimcjeaaDoorQBuild
set_option linter.unusedVariables false
namespace Go.Q
abbrev Bs := List UInt8
abbrev di (n : Int) : D := .s (.int .i64 n)
abbrev db (b : Bool) : D := .s (.bool b)
abbrev ds (l : Bs) : D := .s (str l)
abbrev dints (l : List Int) : D := .sl 1 none (l.map di)
abbrev dstrs (l : List Bs) : D := .sl 1 none (l.map ds)
abbrev dbools (l : List Bool) : D := .sl 1 none (l.map db)

structure Exp where
  kind : Int
  text : Bs
  kids : List Int
  deriving DecidableEq
structure Lit where
  kind : Int
  name : Bs
  args : List Int
  deriving DecidableEq
structure Rule where
  exps : List Exp
  head : Lit
  body : List Lit
  deriving DecidableEq
def Exp.d (e : Exp) : D := .agg [di e.kind, ds e.text, dints e.kids]
def Lit.d (l : Lit) : D := .agg [di l.kind, ds l.name, dints l.args]
abbrev dexps (l : List Exp) : D := .sl 3 none (l.map Exp.d)
abbrev dlits (l : List Lit) : D := .sl 3 none (l.map Lit.d)
def Rule.d (r : Rule) : D := .agg [dexps r.exps, di r.head.kind, ds r.head.name, dints r.head.args, dlits r.body]
abbrev Tuple := List Bs
def dtuple (t : Tuple) : D := .agg [dstrs t]
structure Change where
  rel : Int
  row : Tuple
  add : Bool
def Change.d (c : Change) : D := .agg [di c.rel, dstrs c.row, db c.add]
structure Match where
  names : List Bs
  vals : List Bs
def Match.d (m : Match) : D := .agg [dstrs m.names, dstrs m.vals]
end Go.Q
