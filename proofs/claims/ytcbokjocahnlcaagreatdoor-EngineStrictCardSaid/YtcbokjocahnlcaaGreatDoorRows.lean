/-
  NARROWER THAN 'FOR EVERY INPUT', by the rows' own cells (each row's printed sentence says how): EngineSteady: laid · EngineMoves: laid · EngineStrict: laid.
  DERIVED. THE GIVEN ROWS OF THIS SEAT. 3 by the template 'for every input the law returns true; each argument reads behind the call as it read before'; 0 by the template 'total and deterministic' (their statements: YtcbokjocahnlcaaGreatDoorTotals.lean).
  GIVEN WITH THE SEED: the statements are not yours to turn. If you find one false, say at which input.
  Laid BY PROGRAM, IN A SANDBOX (cutbox-rows.mjs): the forced cells as the released guide's own fill.sh prints them over the translation f7048a9809e77a90… (all of the seat's roots in one cut). By AI agents, Wed Nov 11 2026. No macro, syntax, notation, axiom, sorry.
-/
import Derived.Test.YtcbokjocahnlcaaGreatDoorChecked
import GoSem.Claim
import GoSem.ClaimJoined
import GoSem.ClaimMapViews
import Derived.JoinedTies
import Derived.KernelRfl
namespace Go.Proofs.YtcbokjocahnlcaaGreatDoor
/- THE CELL 'sum', in the pinned program and in every row, IS THE sha256 OF THE DUMP (.gsa) THAT YtcbokjocahnlcaaGreatDoorProg.lean LOADS. Nothing in Lean hashes anything: it is a label: what it is worth is what the hold of that sum in a sandbox is worth. -/
noncomputable def Tryz.pinned : Pinned := { name := "ytcbokjocahnlcaagreatdoor", sum := "f7048a9809e77a90c603372e8f8417e95ad57da191df419f232e43e23992d546", checked := Tryz.checked }
namespace Rows
def none {H : Type} : Left H := { results := [], args := [] }

/- WHAT THE LISTED PACKAGE-LEVEL VARIABLES READ AS WHEN THE CALL BEGINS. Each datum BY PROGRAM (the guide's laid-datum.mjs) off the statement by which the dump's own 'gosem.cut.vars' lays the variable. In a bare row this is a premise. The card (YtcbokjocahnlcaaGreatDoorCards.lean) ties it to the program's text. -/
def laid_errors_errorType {H : Type} : DataW H := .iface "internal/reflectlite.rtype" (.agg [.ptr (.lit (.string [101, 114, 114, 111, 114]))])

/-- 'interleafkeep.EngineSteady': WHATEVER THE INPUT: true; the input reads as it did. -/
def engineSteadySpec : ChangeSpec := { name := "engineSteady", fn := fun _ => fun
  | [d] => { results := [.lit (.bool true)], args := [d] }
  | _ => none }
def engineSteadyRow : OpenClaim := { program := "ytcbokjocahnlcaagreatdoor", sum := "f7048a9809e77a90c603372e8f8417e95ad57da191df419f232e43e23992d546", func := "interleaf/interleafkeep.EngineSteady", spec := "engineSteady", inPlace := ["internal/reflectlite.ValueOf", "(internal/reflectlite.Value).Type", "(internal/reflectlite.Value).IsNil", "internal/reflectlite.TypeOf", "(internal/reflectlite.Value).Elem", "(internal/reflectlite.Value).Set"], unfollowed := true, recurses := true, named := ["errors.errorType"], apart := false, laid := [("errors.errorType", laid_errors_errorType)] }
def EngineSteadySaid : Prop := engineSteadyRow.holds Tryz.pinned (OpenSpec.ofChange engineSteadySpec)

/-- ITS FALSE NEIGHBOUR: 'it returns false'. Refute it at one input. -/
def engineSteadyWrong : ChangeSpec := { name := "engineSteady", fn := fun _ => fun
  | [d] => { results := [.lit (.bool false)], args := [d] }
  | _ => none }
def EngineSteadyWrongFalsely : Prop := engineSteadyRow.holds Tryz.pinned (OpenSpec.ofChange engineSteadyWrong)

/-- 'interleafkeep.EngineMoves': WHATEVER THE INPUT: true; the input reads as it did. -/
def engineMovesSpec : ChangeSpec := { name := "engineMoves", fn := fun _ => fun
  | [d1, d2] => { results := [.lit (.bool true)], args := [d1, d2] }
  | _ => none }
def engineMovesRow : OpenClaim := { program := "ytcbokjocahnlcaagreatdoor", sum := "f7048a9809e77a90c603372e8f8417e95ad57da191df419f232e43e23992d546", func := "interleaf/interleafkeep.EngineMoves", spec := "engineMoves", inPlace := ["internal/reflectlite.ValueOf", "(internal/reflectlite.Value).Type", "(internal/reflectlite.Value).IsNil", "internal/reflectlite.TypeOf", "(internal/reflectlite.Value).Elem", "(internal/reflectlite.Value).Set"], unfollowed := true, recurses := true, named := ["errors.errorType"], apart := false, laid := [("errors.errorType", laid_errors_errorType)] }
def EngineMovesSaid : Prop := engineMovesRow.holds Tryz.pinned (OpenSpec.ofChange engineMovesSpec)

/-- ITS FALSE NEIGHBOUR: 'it returns false'. Refute it at one input. -/
def engineMovesWrong : ChangeSpec := { name := "engineMoves", fn := fun _ => fun
  | [d1, d2] => { results := [.lit (.bool false)], args := [d1, d2] }
  | _ => none }
def EngineMovesWrongFalsely : Prop := engineMovesRow.holds Tryz.pinned (OpenSpec.ofChange engineMovesWrong)

/-- 'interleafkeep.EngineStrict': WHATEVER THE INPUT: true; the input reads as it did. -/
def engineStrictSpec : ChangeSpec := { name := "engineStrict", fn := fun _ => fun
  | [d] => { results := [.lit (.bool true)], args := [d] }
  | _ => none }
def engineStrictRow : OpenClaim := { program := "ytcbokjocahnlcaagreatdoor", sum := "f7048a9809e77a90c603372e8f8417e95ad57da191df419f232e43e23992d546", func := "interleaf/interleafkeep.EngineStrict", spec := "engineStrict", inPlace := ["internal/reflectlite.ValueOf", "(internal/reflectlite.Value).Type", "(internal/reflectlite.Value).IsNil", "internal/reflectlite.TypeOf", "(internal/reflectlite.Value).Elem", "(internal/reflectlite.Value).Set"], unfollowed := true, recurses := true, named := ["errors.errorType"], apart := false, laid := [("errors.errorType", laid_errors_errorType)] }
def EngineStrictSaid : Prop := engineStrictRow.holds Tryz.pinned (OpenSpec.ofChange engineStrictSpec)

/-- ITS FALSE NEIGHBOUR: 'it returns false'. Refute it at one input. -/
def engineStrictWrong : ChangeSpec := { name := "engineStrict", fn := fun _ => fun
  | [d] => { results := [.lit (.bool false)], args := [d] }
  | _ => none }
def EngineStrictWrongFalsely : Prop := engineStrictRow.holds Tryz.pinned (OpenSpec.ofChange engineStrictWrong)

/- THE SECOND FORM. 'bulk': how many values and letters a reading holds, each counted each time it is reached (what is shared counts as often as it is met; a slice's spare places count too). A statement '..UptoSaid' is the law's where the arguments, and the package variables that the reading takes, are together of bulk at most 1048576: NARROWER than '..Said'. Prove '..Said' where nothing that the law and all that it calls make is longer than what came in: it says more and counts as full. Else prove '..UptoSaid'. A law counts once. -/
mutual
def uptoBulk {H : Type} : DataW H → Nat
  | .lit (.string bytes) => bytes.length + 1
  | .lit _ => 1
  | .nil => 1
  | .ptr d => uptoBulk d + 1
  | .slice elems spare => uptoBulkAll elems + uptoBulkAll spare + 1
  | .agg parts => uptoBulkAll parts + 1
  | .iface _ d => uptoBulk d + 1
  | .map entries => uptoBulkEntries entries + 1
  | .held _ => 1
def uptoBulkAll {H : Type} : List (DataW H) → Nat
  | [] => 0
  | d :: r => uptoBulk d + uptoBulkAll r
def uptoBulkEntries {H : Type} : List (Lit × DataW H) → Nat
  | [] => 0
  | x :: r => uptoBulkEntry x + uptoBulkEntries r
def uptoBulkEntry {H : Type} : Lit × DataW H → Nat
  | (.string bytes, d) => bytes.length + uptoBulk d + 1
  | (_, d) => uptoBulk d + 1
 end
def uptoSmall : (H : Type) → List (DataW H) → Bool := fun _ ds => decide (uptoBulkAll ds ≤ 1048576)
def OpenSpec.upto (s : _root_.Go.ChangeSpec) : _root_.Go.OpenSpec := { _root_.Go.OpenSpec.ofChange s with cond := some uptoSmall }

/-- 'interleafkeep.EngineSteady', WHERE WHAT IT READS IS OF BULK AT MOST 1048576: true; the input reads as it did. -/
def engineSteadyUptoRow : OpenClaim := { program := "ytcbokjocahnlcaagreatdoor", sum := "f7048a9809e77a90c603372e8f8417e95ad57da191df419f232e43e23992d546", func := "interleaf/interleafkeep.EngineSteady", spec := "engineSteady", inPlace := ["internal/reflectlite.ValueOf", "(internal/reflectlite.Value).Type", "(internal/reflectlite.Value).IsNil", "internal/reflectlite.TypeOf", "(internal/reflectlite.Value).Elem", "(internal/reflectlite.Value).Set"], unfollowed := true, recurses := true, named := ["errors.errorType"], apart := false, laid := [("errors.errorType", laid_errors_errorType)], narrowed := true }
def EngineSteadyUptoSaid : Prop := engineSteadyUptoRow.holds Tryz.pinned (OpenSpec.upto engineSteadySpec)

/-- 'interleafkeep.EngineMoves', WHERE WHAT IT READS IS OF BULK AT MOST 1048576: true; the input reads as it did. -/
def engineMovesUptoRow : OpenClaim := { program := "ytcbokjocahnlcaagreatdoor", sum := "f7048a9809e77a90c603372e8f8417e95ad57da191df419f232e43e23992d546", func := "interleaf/interleafkeep.EngineMoves", spec := "engineMoves", inPlace := ["internal/reflectlite.ValueOf", "(internal/reflectlite.Value).Type", "(internal/reflectlite.Value).IsNil", "internal/reflectlite.TypeOf", "(internal/reflectlite.Value).Elem", "(internal/reflectlite.Value).Set"], unfollowed := true, recurses := true, named := ["errors.errorType"], apart := false, laid := [("errors.errorType", laid_errors_errorType)], narrowed := true }
def EngineMovesUptoSaid : Prop := engineMovesUptoRow.holds Tryz.pinned (OpenSpec.upto engineMovesSpec)

/-- 'interleafkeep.EngineStrict', WHERE WHAT IT READS IS OF BULK AT MOST 1048576: true; the input reads as it did. -/
def engineStrictUptoRow : OpenClaim := { program := "ytcbokjocahnlcaagreatdoor", sum := "f7048a9809e77a90c603372e8f8417e95ad57da191df419f232e43e23992d546", func := "interleaf/interleafkeep.EngineStrict", spec := "engineStrict", inPlace := ["internal/reflectlite.ValueOf", "(internal/reflectlite.Value).Type", "(internal/reflectlite.Value).IsNil", "internal/reflectlite.TypeOf", "(internal/reflectlite.Value).Elem", "(internal/reflectlite.Value).Set"], unfollowed := true, recurses := true, named := ["errors.errorType"], apart := false, laid := [("errors.errorType", laid_errors_errorType)], narrowed := true }
def EngineStrictUptoSaid : Prop := engineStrictUptoRow.holds Tryz.pinned (OpenSpec.upto engineStrictSpec)

end Rows
end Go.Proofs.YtcbokjocahnlcaaGreatDoor
