/-
  NARROWER THAN 'FOR EVERY INPUT', by the rows' own cells (each row's printed sentence says how): ShelfNames: laid · ShelfFull: laid · ArkNames: laid · ArkUnpacks: laid · ArkTurned: laid.
  DERIVED. THE GIVEN ROWS OF THIS SEAT. 5 by the template 'for every input the law returns true; each argument reads behind the call as it read before'; 0 by the template 'total and deterministic' (their statements: YtggiknehmoaimaaGreatDoorTotals.lean).
  GIVEN WITH THE SEED: the statements are not yours to turn. If you find one false, say at which input.
  Laid BY PROGRAM, IN A SANDBOX (cutbox-rows.mjs): the forced cells as the released guide's own fill.sh prints them over the translation 885955cae58903a9… (all of the seat's roots in one cut). By AI agents, Wed Nov 11 2026. No macro, syntax, notation, axiom, sorry.
-/
import Derived.Test.YtggiknehmoaimaaGreatDoorChecked
import GoSem.Claim
import GoSem.ClaimJoined
import GoSem.ClaimMapViews
import Derived.JoinedTies
import Derived.KernelRfl
namespace Go.Proofs.YtggiknehmoaimaaGreatDoor
/- THE CELL 'sum', in the pinned program and in every row, IS THE sha256 OF THE DUMP (.gsa) THAT YtggiknehmoaimaaGreatDoorProg.lean LOADS. Nothing in Lean hashes anything: it is a label: what it is worth is what the hold of that sum in a sandbox is worth. -/
noncomputable def Tryz.pinned : Pinned := { name := "ytggiknehmoaimaagreatdoor", sum := "885955cae58903a9f056ebbf80ecc8c8bc02b8b1b2620acb25f3d061f4a4bf97", checked := Tryz.checked }
namespace Rows
def none {H : Type} : Left H := { results := [], args := [] }

/- WHAT THE LISTED PACKAGE-LEVEL VARIABLES READ AS WHEN THE CALL BEGINS. Each datum BY PROGRAM (the guide's laid-datum.mjs) off the statement by which the dump's own 'gosem.cut.vars' lays the variable. In a bare row this is a premise. The card (YtggiknehmoaimaaGreatDoorCards.lean) ties it to the program's text. -/
def laid_errors_errorType {H : Type} : DataW H := .iface "internal/reflectlite.rtype" (.agg [.ptr (.lit (.string [101, 114, 114, 111, 114]))])

/-- 'pleachlaw12.ShelfNames': WHATEVER THE INPUT: true; the input reads as it did. -/
def shelfNamesSpec : ChangeSpec := { name := "shelfNames", fn := fun _ => fun
  | [] => { results := [.lit (.bool true)], args := [] }
  | _ => none }
def shelfNamesRow : OpenClaim := { program := "ytggiknehmoaimaagreatdoor", sum := "885955cae58903a9f056ebbf80ecc8c8bc02b8b1b2620acb25f3d061f4a4bf97", func := "pleach/pleachlaw12.ShelfNames", spec := "shelfNames", inPlace := ["internal/bytealg.Compare", "internal/reflectlite.ValueOf", "(internal/reflectlite.Value).Type", "(internal/reflectlite.Value).IsNil", "internal/reflectlite.TypeOf", "(internal/reflectlite.Value).Elem", "(internal/reflectlite.Value).Set"], unfollowed := true, recurses := true, named := ["errors.errorType"], plainKeys := false, apart := false, laid := [("errors.errorType", laid_errors_errorType)] }
def ShelfNamesSaid : Prop := shelfNamesRow.holds Tryz.pinned (OpenSpec.ofChange shelfNamesSpec)

/-- ITS FALSE NEIGHBOUR: 'it returns false'. Refute it at one input. -/
def shelfNamesWrong : ChangeSpec := { name := "shelfNames", fn := fun _ => fun
  | [] => { results := [.lit (.bool false)], args := [] }
  | _ => none }
def ShelfNamesWrongFalsely : Prop := shelfNamesRow.holds Tryz.pinned (OpenSpec.ofChange shelfNamesWrong)

/-- 'pleachlaw12.ShelfFull': WHATEVER THE INPUT: true; the input reads as it did. -/
def shelfFullSpec : ChangeSpec := { name := "shelfFull", fn := fun _ => fun
  | [d1, d2] => { results := [.lit (.bool true)], args := [d1, d2] }
  | _ => none }
def shelfFullRow : OpenClaim := { program := "ytggiknehmoaimaagreatdoor", sum := "885955cae58903a9f056ebbf80ecc8c8bc02b8b1b2620acb25f3d061f4a4bf97", func := "pleach/pleachlaw12.ShelfFull", spec := "shelfFull", inPlace := ["internal/bytealg.Compare", "internal/reflectlite.ValueOf", "(internal/reflectlite.Value).Type", "(internal/reflectlite.Value).IsNil", "internal/reflectlite.TypeOf", "(internal/reflectlite.Value).Elem", "(internal/reflectlite.Value).Set"], unfollowed := true, recurses := true, named := ["errors.errorType"], plainKeys := false, apart := false, laid := [("errors.errorType", laid_errors_errorType)] }
def ShelfFullSaid : Prop := shelfFullRow.holds Tryz.pinned (OpenSpec.ofChange shelfFullSpec)

/-- ITS FALSE NEIGHBOUR: 'it returns false'. Refute it at one input. -/
def shelfFullWrong : ChangeSpec := { name := "shelfFull", fn := fun _ => fun
  | [d1, d2] => { results := [.lit (.bool false)], args := [d1, d2] }
  | _ => none }
def ShelfFullWrongFalsely : Prop := shelfFullRow.holds Tryz.pinned (OpenSpec.ofChange shelfFullWrong)

/-- 'pleachlaw13.ArkNames': WHATEVER THE INPUT: true; the input reads as it did. -/
def arkNamesSpec : ChangeSpec := { name := "arkNames", fn := fun _ => fun
  | [] => { results := [.lit (.bool true)], args := [] }
  | _ => none }
def arkNamesRow : OpenClaim := { program := "ytggiknehmoaimaagreatdoor", sum := "885955cae58903a9f056ebbf80ecc8c8bc02b8b1b2620acb25f3d061f4a4bf97", func := "pleach/pleachlaw13.ArkNames", spec := "arkNames", inPlace := ["internal/bytealg.Compare", "internal/reflectlite.ValueOf", "(internal/reflectlite.Value).Type", "(internal/reflectlite.Value).IsNil", "internal/reflectlite.TypeOf", "(internal/reflectlite.Value).Elem", "(internal/reflectlite.Value).Set"], unfollowed := true, recurses := true, named := ["errors.errorType"], plainKeys := false, apart := false, laid := [("errors.errorType", laid_errors_errorType)] }
def ArkNamesSaid : Prop := arkNamesRow.holds Tryz.pinned (OpenSpec.ofChange arkNamesSpec)

/-- ITS FALSE NEIGHBOUR: 'it returns false'. Refute it at one input. -/
def arkNamesWrong : ChangeSpec := { name := "arkNames", fn := fun _ => fun
  | [] => { results := [.lit (.bool false)], args := [] }
  | _ => none }
def ArkNamesWrongFalsely : Prop := arkNamesRow.holds Tryz.pinned (OpenSpec.ofChange arkNamesWrong)

/-- 'pleachlaw13.ArkUnpacks': WHATEVER THE INPUT: true; the input reads as it did. -/
def arkUnpacksSpec : ChangeSpec := { name := "arkUnpacks", fn := fun _ => fun
  | [d] => { results := [.lit (.bool true)], args := [d] }
  | _ => none }
def arkUnpacksRow : OpenClaim := { program := "ytggiknehmoaimaagreatdoor", sum := "885955cae58903a9f056ebbf80ecc8c8bc02b8b1b2620acb25f3d061f4a4bf97", func := "pleach/pleachlaw13.ArkUnpacks", spec := "arkUnpacks", inPlace := ["internal/bytealg.Compare", "internal/reflectlite.ValueOf", "(internal/reflectlite.Value).Type", "(internal/reflectlite.Value).IsNil", "internal/reflectlite.TypeOf", "(internal/reflectlite.Value).Elem", "(internal/reflectlite.Value).Set"], unfollowed := true, recurses := true, named := ["errors.errorType"], plainKeys := false, apart := false, laid := [("errors.errorType", laid_errors_errorType)] }
def ArkUnpacksSaid : Prop := arkUnpacksRow.holds Tryz.pinned (OpenSpec.ofChange arkUnpacksSpec)

/-- ITS FALSE NEIGHBOUR: 'it returns false'. Refute it at one input. -/
def arkUnpacksWrong : ChangeSpec := { name := "arkUnpacks", fn := fun _ => fun
  | [d] => { results := [.lit (.bool false)], args := [d] }
  | _ => none }
def ArkUnpacksWrongFalsely : Prop := arkUnpacksRow.holds Tryz.pinned (OpenSpec.ofChange arkUnpacksWrong)

/-- 'pleachlaw13.ArkTurned': WHATEVER THE INPUT: true; the input reads as it did. -/
def arkTurnedSpec : ChangeSpec := { name := "arkTurned", fn := fun _ => fun
  | [d1, d2, d3] => { results := [.lit (.bool true)], args := [d1, d2, d3] }
  | _ => none }
def arkTurnedRow : OpenClaim := { program := "ytggiknehmoaimaagreatdoor", sum := "885955cae58903a9f056ebbf80ecc8c8bc02b8b1b2620acb25f3d061f4a4bf97", func := "pleach/pleachlaw13.ArkTurned", spec := "arkTurned", inPlace := ["internal/bytealg.Compare", "internal/reflectlite.ValueOf", "(internal/reflectlite.Value).Type", "(internal/reflectlite.Value).IsNil", "internal/reflectlite.TypeOf", "(internal/reflectlite.Value).Elem", "(internal/reflectlite.Value).Set"], unfollowed := true, recurses := true, named := ["errors.errorType"], plainKeys := false, apart := false, laid := [("errors.errorType", laid_errors_errorType)] }
def ArkTurnedSaid : Prop := arkTurnedRow.holds Tryz.pinned (OpenSpec.ofChange arkTurnedSpec)

/-- ITS FALSE NEIGHBOUR: 'it returns false'. Refute it at one input. -/
def arkTurnedWrong : ChangeSpec := { name := "arkTurned", fn := fun _ => fun
  | [d1, d2, d3] => { results := [.lit (.bool false)], args := [d1, d2, d3] }
  | _ => none }
def ArkTurnedWrongFalsely : Prop := arkTurnedRow.holds Tryz.pinned (OpenSpec.ofChange arkTurnedWrong)

/- THE SECOND FORM. 'bulk': how many values and letters a reading holds, each counted each time it is reached (what is shared counts as often as it is met; a slice's spare places count too). A statement '..UptoSaid' is the law's where the arguments, and the package variables that the reading takes, are together of bulk at most 1048576: NARROWER than '..Said'. Prove '..Said' where nothing that the law and all that it calls make is longer than what came in: it says more and counts as full. Else prove '..UptoSaid'. A law counts once. -/
mutual
def uptoBulk {H : Type} : DataW H → Nat
  | .lit (.string bytes) => bytes.length + 1
  | .lit _ => 1
  | .nil => 1
  | .ptr d => uptoBulk d + 1
  | .slice elems spare => uptoBulkAll elems + uptoBulkAll spare + 1
  | .agg parts => uptoBulkAll parts + 1
  | .iface _ d => uptoBulk d + 1
  | .map entries => uptoBulkEntries entries + 1
  | .held _ => 1
def uptoBulkAll {H : Type} : List (DataW H) → Nat
  | [] => 0
  | d :: r => uptoBulk d + uptoBulkAll r
def uptoBulkEntries {H : Type} : List (Lit × DataW H) → Nat
  | [] => 0
  | x :: r => uptoBulkEntry x + uptoBulkEntries r
def uptoBulkEntry {H : Type} : Lit × DataW H → Nat
  | (.string bytes, d) => bytes.length + uptoBulk d + 1
  | (_, d) => uptoBulk d + 1
 end
def uptoSmall : (H : Type) → List (DataW H) → Bool := fun _ ds => decide (uptoBulkAll ds ≤ 1048576)
def OpenSpec.upto (s : _root_.Go.ChangeSpec) : _root_.Go.OpenSpec := { _root_.Go.OpenSpec.ofChange s with cond := some uptoSmall }

/-- 'pleachlaw12.ShelfNames', WHERE WHAT IT READS IS OF BULK AT MOST 1048576: true; the input reads as it did. -/
def shelfNamesUptoRow : OpenClaim := { program := "ytggiknehmoaimaagreatdoor", sum := "885955cae58903a9f056ebbf80ecc8c8bc02b8b1b2620acb25f3d061f4a4bf97", func := "pleach/pleachlaw12.ShelfNames", spec := "shelfNames", inPlace := ["internal/bytealg.Compare", "internal/reflectlite.ValueOf", "(internal/reflectlite.Value).Type", "(internal/reflectlite.Value).IsNil", "internal/reflectlite.TypeOf", "(internal/reflectlite.Value).Elem", "(internal/reflectlite.Value).Set"], unfollowed := true, recurses := true, named := ["errors.errorType"], plainKeys := false, apart := false, laid := [("errors.errorType", laid_errors_errorType)], narrowed := true }
def ShelfNamesUptoSaid : Prop := shelfNamesUptoRow.holds Tryz.pinned (OpenSpec.upto shelfNamesSpec)

/-- 'pleachlaw12.ShelfFull', WHERE WHAT IT READS IS OF BULK AT MOST 1048576: true; the input reads as it did. -/
def shelfFullUptoRow : OpenClaim := { program := "ytggiknehmoaimaagreatdoor", sum := "885955cae58903a9f056ebbf80ecc8c8bc02b8b1b2620acb25f3d061f4a4bf97", func := "pleach/pleachlaw12.ShelfFull", spec := "shelfFull", inPlace := ["internal/bytealg.Compare", "internal/reflectlite.ValueOf", "(internal/reflectlite.Value).Type", "(internal/reflectlite.Value).IsNil", "internal/reflectlite.TypeOf", "(internal/reflectlite.Value).Elem", "(internal/reflectlite.Value).Set"], unfollowed := true, recurses := true, named := ["errors.errorType"], plainKeys := false, apart := false, laid := [("errors.errorType", laid_errors_errorType)], narrowed := true }
def ShelfFullUptoSaid : Prop := shelfFullUptoRow.holds Tryz.pinned (OpenSpec.upto shelfFullSpec)

/-- 'pleachlaw13.ArkNames', WHERE WHAT IT READS IS OF BULK AT MOST 1048576: true; the input reads as it did. -/
def arkNamesUptoRow : OpenClaim := { program := "ytggiknehmoaimaagreatdoor", sum := "885955cae58903a9f056ebbf80ecc8c8bc02b8b1b2620acb25f3d061f4a4bf97", func := "pleach/pleachlaw13.ArkNames", spec := "arkNames", inPlace := ["internal/bytealg.Compare", "internal/reflectlite.ValueOf", "(internal/reflectlite.Value).Type", "(internal/reflectlite.Value).IsNil", "internal/reflectlite.TypeOf", "(internal/reflectlite.Value).Elem", "(internal/reflectlite.Value).Set"], unfollowed := true, recurses := true, named := ["errors.errorType"], plainKeys := false, apart := false, laid := [("errors.errorType", laid_errors_errorType)], narrowed := true }
def ArkNamesUptoSaid : Prop := arkNamesUptoRow.holds Tryz.pinned (OpenSpec.upto arkNamesSpec)

/-- 'pleachlaw13.ArkUnpacks', WHERE WHAT IT READS IS OF BULK AT MOST 1048576: true; the input reads as it did. -/
def arkUnpacksUptoRow : OpenClaim := { program := "ytggiknehmoaimaagreatdoor", sum := "885955cae58903a9f056ebbf80ecc8c8bc02b8b1b2620acb25f3d061f4a4bf97", func := "pleach/pleachlaw13.ArkUnpacks", spec := "arkUnpacks", inPlace := ["internal/bytealg.Compare", "internal/reflectlite.ValueOf", "(internal/reflectlite.Value).Type", "(internal/reflectlite.Value).IsNil", "internal/reflectlite.TypeOf", "(internal/reflectlite.Value).Elem", "(internal/reflectlite.Value).Set"], unfollowed := true, recurses := true, named := ["errors.errorType"], plainKeys := false, apart := false, laid := [("errors.errorType", laid_errors_errorType)], narrowed := true }
def ArkUnpacksUptoSaid : Prop := arkUnpacksUptoRow.holds Tryz.pinned (OpenSpec.upto arkUnpacksSpec)

/-- 'pleachlaw13.ArkTurned', WHERE WHAT IT READS IS OF BULK AT MOST 1048576: true; the input reads as it did. -/
def arkTurnedUptoRow : OpenClaim := { program := "ytggiknehmoaimaagreatdoor", sum := "885955cae58903a9f056ebbf80ecc8c8bc02b8b1b2620acb25f3d061f4a4bf97", func := "pleach/pleachlaw13.ArkTurned", spec := "arkTurned", inPlace := ["internal/bytealg.Compare", "internal/reflectlite.ValueOf", "(internal/reflectlite.Value).Type", "(internal/reflectlite.Value).IsNil", "internal/reflectlite.TypeOf", "(internal/reflectlite.Value).Elem", "(internal/reflectlite.Value).Set"], unfollowed := true, recurses := true, named := ["errors.errorType"], plainKeys := false, apart := false, laid := [("errors.errorType", laid_errors_errorType)], narrowed := true }
def ArkTurnedUptoSaid : Prop := arkTurnedUptoRow.holds Tryz.pinned (OpenSpec.upto arkTurnedSpec)

end Rows
end Go.Proofs.YtggiknehmoaimaaGreatDoor
