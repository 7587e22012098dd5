/-
  NARROWER THAN 'FOR EVERY INPUT', by the rows' own cells (each row's printed sentence says how): MeshNames: laid · MeshRow: laid · MeshSpoils: laid · MeshDoes: laid.
  DERIVED. THE GIVEN ROWS OF THIS SEAT. 4 by the template 'for every input the law returns true; each argument reads behind the call as it read before'; 0 by the template 'total and deterministic' (their statements: YtbpjgdmmijehnaaDoorTotals.lean).
  GIVEN WITH THE SEED: the statements are not yours to turn. If you find one false, say at which input.
  Laid BY PROGRAM, IN A SANDBOX (cutbox-rows.mjs): the forced cells as the released guide's own fill.sh prints them over the translation 3e8864142ba5b3c8… (all of the seat's roots in one cut). By AI agents, Wed Nov 11 2026. No macro, syntax, notation, axiom, sorry.
-/
import Derived.Test.YtbpjgdmmijehnaaDoorChecked
import GoSem.Claim
import GoSem.ClaimJoined
import GoSem.ClaimMapViews
import Derived.JoinedTies
import Derived.KernelRfl
namespace Go.Proofs.YtbpjgdmmijehnaaDoor
/- THE CELL 'sum', in the pinned program and in every row, IS THE sha256 OF THE DUMP (.gsa) THAT YtbpjgdmmijehnaaDoorProg.lean LOADS. Nothing in Lean hashes anything: it is a label: what it is worth is what the hold of that sum in a sandbox is worth. -/
noncomputable def Tryd.pinned : Pinned := { name := "ytbpjgdmmijehnaadoor", sum := "3e8864142ba5b3c84eb69af54304231a586ff174e2a123b7f319fa752271cb2f", checked := Tryd.checked }
namespace Rows
def none {H : Type} : Left H := { results := [], args := [] }

/- WHAT THE LISTED PACKAGE-LEVEL VARIABLES READ AS WHEN THE CALL BEGINS. Each datum BY PROGRAM (the guide's laid-datum.mjs) off the statement by which the dump's own 'gosem.cut.vars' lays the variable. In a bare row this is a premise. The card (YtbpjgdmmijehnaaDoorCards.lean) ties it to the program's text. -/
def laid_pleach_mesh_ErrIdle {H : Type} : DataW H := .iface "*errors.errorString" (.ptr (.agg [.lit (.string [112, 108, 101, 97, 99, 104, 58, 32, 110, 111, 116, 104, 105, 110, 103, 32, 105, 115, 32, 117, 110, 100, 101, 114, 32, 119, 97, 121])]))

/-- 'pleachlaw21.MeshNames': WHATEVER THE INPUT: true; the input reads as it did. -/
def meshNamesSpec : ChangeSpec := { name := "meshNames", fn := fun _ => fun
  | [] => { results := [.lit (.bool true)], args := [] }
  | _ => none }
def meshNamesRow : OpenClaim := { program := "ytbpjgdmmijehnaadoor", sum := "3e8864142ba5b3c84eb69af54304231a586ff174e2a123b7f319fa752271cb2f", func := "pleach/pleachlaw21.MeshNames", spec := "meshNames", inPlace := ["(*internal/sync.Mutex).Lock", "internal/race.Disable", "sync/atomic.CompareAndSwapInt32", "internal/race.Enable", "internal/race.Acquire", "(*internal/sync.Mutex).lockSlow", "internal/sync.runtime_canSpin", "internal/sync.runtime_doSpin", "internal/sync.throw", "internal/sync.runtime_nanotime", "internal/sync.runtime_SemacquireMutex", "sync/atomic.AddInt32", "(*internal/sync.Mutex).Unlock", "internal/race.ReleaseMerge", "(*internal/sync.Mutex).unlockSlow", "internal/sync.fatal", "internal/sync.runtime_Semrelease"], named := ["pleach/mesh.ErrIdle"], plainKeys := false, apart := false, laid := [("pleach/mesh.ErrIdle", laid_pleach_mesh_ErrIdle)] }
def MeshNamesSaid : Prop := meshNamesRow.holds Tryd.pinned (OpenSpec.ofChange meshNamesSpec)

/-- ITS FALSE NEIGHBOUR: 'it returns false'. Refute it at one input. -/
def meshNamesWrong : ChangeSpec := { name := "meshNames", fn := fun _ => fun
  | [] => { results := [.lit (.bool false)], args := [] }
  | _ => none }
def MeshNamesWrongFalsely : Prop := meshNamesRow.holds Tryd.pinned (OpenSpec.ofChange meshNamesWrong)

/-- 'pleachlaw21.MeshRow': WHATEVER THE INPUT: true; the input reads as it did. -/
def meshRowSpec : ChangeSpec := { name := "meshRow", fn := fun _ => fun
  | [d1, d2, d3] => { results := [.lit (.bool true)], args := [d1, d2, d3] }
  | _ => none }
def meshRowRow : OpenClaim := { program := "ytbpjgdmmijehnaadoor", sum := "3e8864142ba5b3c84eb69af54304231a586ff174e2a123b7f319fa752271cb2f", func := "pleach/pleachlaw21.MeshRow", spec := "meshRow", inPlace := ["(*internal/sync.Mutex).Lock", "internal/race.Disable", "sync/atomic.CompareAndSwapInt32", "internal/race.Enable", "internal/race.Acquire", "(*internal/sync.Mutex).lockSlow", "internal/sync.runtime_canSpin", "internal/sync.runtime_doSpin", "internal/sync.throw", "internal/sync.runtime_nanotime", "internal/sync.runtime_SemacquireMutex", "sync/atomic.AddInt32", "(*internal/sync.Mutex).Unlock", "internal/race.ReleaseMerge", "(*internal/sync.Mutex).unlockSlow", "internal/sync.fatal", "internal/sync.runtime_Semrelease"], named := ["pleach/mesh.ErrIdle"], plainKeys := false, apart := false, laid := [("pleach/mesh.ErrIdle", laid_pleach_mesh_ErrIdle)] }
def MeshRowSaid : Prop := meshRowRow.holds Tryd.pinned (OpenSpec.ofChange meshRowSpec)

/-- ITS FALSE NEIGHBOUR: 'it returns false'. Refute it at one input. -/
def meshRowWrong : ChangeSpec := { name := "meshRow", fn := fun _ => fun
  | [d1, d2, d3] => { results := [.lit (.bool false)], args := [d1, d2, d3] }
  | _ => none }
def MeshRowWrongFalsely : Prop := meshRowRow.holds Tryd.pinned (OpenSpec.ofChange meshRowWrong)

/-- 'pleachlaw21.MeshSpoils': WHATEVER THE INPUT: true; the input reads as it did. -/
def meshSpoilsSpec : ChangeSpec := { name := "meshSpoils", fn := fun _ => fun
  | [d1, d2, d3, d4, d5] => { results := [.lit (.bool true)], args := [d1, d2, d3, d4, d5] }
  | _ => none }
def meshSpoilsRow : OpenClaim := { program := "ytbpjgdmmijehnaadoor", sum := "3e8864142ba5b3c84eb69af54304231a586ff174e2a123b7f319fa752271cb2f", func := "pleach/pleachlaw21.MeshSpoils", spec := "meshSpoils", inPlace := ["(*internal/sync.Mutex).Lock", "internal/race.Disable", "sync/atomic.CompareAndSwapInt32", "internal/race.Enable", "internal/race.Acquire", "(*internal/sync.Mutex).lockSlow", "internal/sync.runtime_canSpin", "internal/sync.runtime_doSpin", "internal/sync.throw", "internal/sync.runtime_nanotime", "internal/sync.runtime_SemacquireMutex", "sync/atomic.AddInt32", "(*internal/sync.Mutex).Unlock", "internal/race.ReleaseMerge", "(*internal/sync.Mutex).unlockSlow", "internal/sync.fatal", "internal/sync.runtime_Semrelease"], named := ["pleach/mesh.ErrIdle"], plainKeys := false, apart := false, laid := [("pleach/mesh.ErrIdle", laid_pleach_mesh_ErrIdle)] }
def MeshSpoilsSaid : Prop := meshSpoilsRow.holds Tryd.pinned (OpenSpec.ofChange meshSpoilsSpec)

/-- ITS FALSE NEIGHBOUR: 'it returns false'. Refute it at one input. -/
def meshSpoilsWrong : ChangeSpec := { name := "meshSpoils", fn := fun _ => fun
  | [d1, d2, d3, d4, d5] => { results := [.lit (.bool false)], args := [d1, d2, d3, d4, d5] }
  | _ => none }
def MeshSpoilsWrongFalsely : Prop := meshSpoilsRow.holds Tryd.pinned (OpenSpec.ofChange meshSpoilsWrong)

/-- 'pleachlaw21.MeshDoes': WHATEVER THE INPUT: true; the input reads as it did. -/
def meshDoesSpec : ChangeSpec := { name := "meshDoes", fn := fun _ => fun
  | [d1, d2, d3] => { results := [.lit (.bool true)], args := [d1, d2, d3] }
  | _ => none }
def meshDoesRow : OpenClaim := { program := "ytbpjgdmmijehnaadoor", sum := "3e8864142ba5b3c84eb69af54304231a586ff174e2a123b7f319fa752271cb2f", func := "pleach/pleachlaw21.MeshDoes", spec := "meshDoes", inPlace := ["(*internal/sync.Mutex).Lock", "internal/race.Disable", "sync/atomic.CompareAndSwapInt32", "internal/race.Enable", "internal/race.Acquire", "(*internal/sync.Mutex).lockSlow", "internal/sync.runtime_canSpin", "internal/sync.runtime_doSpin", "internal/sync.throw", "internal/sync.runtime_nanotime", "internal/sync.runtime_SemacquireMutex", "sync/atomic.AddInt32", "(*internal/sync.Mutex).Unlock", "internal/race.ReleaseMerge", "(*internal/sync.Mutex).unlockSlow", "internal/sync.fatal", "internal/sync.runtime_Semrelease"], named := ["pleach/mesh.ErrIdle"], plainKeys := false, apart := false, laid := [("pleach/mesh.ErrIdle", laid_pleach_mesh_ErrIdle)] }
def MeshDoesSaid : Prop := meshDoesRow.holds Tryd.pinned (OpenSpec.ofChange meshDoesSpec)

/-- ITS FALSE NEIGHBOUR: 'it returns false'. Refute it at one input. -/
def meshDoesWrong : ChangeSpec := { name := "meshDoes", fn := fun _ => fun
  | [d1, d2, d3] => { results := [.lit (.bool false)], args := [d1, d2, d3] }
  | _ => none }
def MeshDoesWrongFalsely : Prop := meshDoesRow.holds Tryd.pinned (OpenSpec.ofChange meshDoesWrong)

/- THE SECOND FORM. 'bulk': how many values and letters a reading holds, each counted each time it is reached (what is shared counts as often as it is met; a slice's spare places count too). A statement '..UptoSaid' is the law's where the arguments, and the package variables that the reading takes, are together of bulk at most 1048576: NARROWER than '..Said'. Prove '..Said' where nothing that the law and all that it calls make is longer than what came in: it says more and counts as full. Else prove '..UptoSaid'. A law counts once. -/
mutual
def uptoBulk {H : Type} : DataW H → Nat
  | .lit (.string bytes) => bytes.length + 1
  | .lit _ => 1
  | .nil => 1
  | .ptr d => uptoBulk d + 1
  | .slice elems spare => uptoBulkAll elems + uptoBulkAll spare + 1
  | .agg parts => uptoBulkAll parts + 1
  | .iface _ d => uptoBulk d + 1
  | .map entries => uptoBulkEntries entries + 1
  | .held _ => 1
def uptoBulkAll {H : Type} : List (DataW H) → Nat
  | [] => 0
  | d :: r => uptoBulk d + uptoBulkAll r
def uptoBulkEntries {H : Type} : List (Lit × DataW H) → Nat
  | [] => 0
  | x :: r => uptoBulkEntry x + uptoBulkEntries r
def uptoBulkEntry {H : Type} : Lit × DataW H → Nat
  | (.string bytes, d) => bytes.length + uptoBulk d + 1
  | (_, d) => uptoBulk d + 1
 end
def uptoSmall : (H : Type) → List (DataW H) → Bool := fun _ ds => decide (uptoBulkAll ds ≤ 1048576)
def OpenSpec.upto (s : _root_.Go.ChangeSpec) : _root_.Go.OpenSpec := { _root_.Go.OpenSpec.ofChange s with cond := some uptoSmall }

/-- 'pleachlaw21.MeshNames', WHERE WHAT IT READS IS OF BULK AT MOST 1048576: true; the input reads as it did. -/
def meshNamesUptoRow : OpenClaim := { program := "ytbpjgdmmijehnaadoor", sum := "3e8864142ba5b3c84eb69af54304231a586ff174e2a123b7f319fa752271cb2f", func := "pleach/pleachlaw21.MeshNames", spec := "meshNames", inPlace := ["(*internal/sync.Mutex).Lock", "internal/race.Disable", "sync/atomic.CompareAndSwapInt32", "internal/race.Enable", "internal/race.Acquire", "(*internal/sync.Mutex).lockSlow", "internal/sync.runtime_canSpin", "internal/sync.runtime_doSpin", "internal/sync.throw", "internal/sync.runtime_nanotime", "internal/sync.runtime_SemacquireMutex", "sync/atomic.AddInt32", "(*internal/sync.Mutex).Unlock", "internal/race.ReleaseMerge", "(*internal/sync.Mutex).unlockSlow", "internal/sync.fatal", "internal/sync.runtime_Semrelease"], named := ["pleach/mesh.ErrIdle"], plainKeys := false, apart := false, laid := [("pleach/mesh.ErrIdle", laid_pleach_mesh_ErrIdle)], narrowed := true }
def MeshNamesUptoSaid : Prop := meshNamesUptoRow.holds Tryd.pinned (OpenSpec.upto meshNamesSpec)

/-- 'pleachlaw21.MeshRow', WHERE WHAT IT READS IS OF BULK AT MOST 1048576: true; the input reads as it did. -/
def meshRowUptoRow : OpenClaim := { program := "ytbpjgdmmijehnaadoor", sum := "3e8864142ba5b3c84eb69af54304231a586ff174e2a123b7f319fa752271cb2f", func := "pleach/pleachlaw21.MeshRow", spec := "meshRow", inPlace := ["(*internal/sync.Mutex).Lock", "internal/race.Disable", "sync/atomic.CompareAndSwapInt32", "internal/race.Enable", "internal/race.Acquire", "(*internal/sync.Mutex).lockSlow", "internal/sync.runtime_canSpin", "internal/sync.runtime_doSpin", "internal/sync.throw", "internal/sync.runtime_nanotime", "internal/sync.runtime_SemacquireMutex", "sync/atomic.AddInt32", "(*internal/sync.Mutex).Unlock", "internal/race.ReleaseMerge", "(*internal/sync.Mutex).unlockSlow", "internal/sync.fatal", "internal/sync.runtime_Semrelease"], named := ["pleach/mesh.ErrIdle"], plainKeys := false, apart := false, laid := [("pleach/mesh.ErrIdle", laid_pleach_mesh_ErrIdle)], narrowed := true }
def MeshRowUptoSaid : Prop := meshRowUptoRow.holds Tryd.pinned (OpenSpec.upto meshRowSpec)

/-- 'pleachlaw21.MeshSpoils', WHERE WHAT IT READS IS OF BULK AT MOST 1048576: true; the input reads as it did. -/
def meshSpoilsUptoRow : OpenClaim := { program := "ytbpjgdmmijehnaadoor", sum := "3e8864142ba5b3c84eb69af54304231a586ff174e2a123b7f319fa752271cb2f", func := "pleach/pleachlaw21.MeshSpoils", spec := "meshSpoils", inPlace := ["(*internal/sync.Mutex).Lock", "internal/race.Disable", "sync/atomic.CompareAndSwapInt32", "internal/race.Enable", "internal/race.Acquire", "(*internal/sync.Mutex).lockSlow", "internal/sync.runtime_canSpin", "internal/sync.runtime_doSpin", "internal/sync.throw", "internal/sync.runtime_nanotime", "internal/sync.runtime_SemacquireMutex", "sync/atomic.AddInt32", "(*internal/sync.Mutex).Unlock", "internal/race.ReleaseMerge", "(*internal/sync.Mutex).unlockSlow", "internal/sync.fatal", "internal/sync.runtime_Semrelease"], named := ["pleach/mesh.ErrIdle"], plainKeys := false, apart := false, laid := [("pleach/mesh.ErrIdle", laid_pleach_mesh_ErrIdle)], narrowed := true }
def MeshSpoilsUptoSaid : Prop := meshSpoilsUptoRow.holds Tryd.pinned (OpenSpec.upto meshSpoilsSpec)

/-- 'pleachlaw21.MeshDoes', WHERE WHAT IT READS IS OF BULK AT MOST 1048576: true; the input reads as it did. -/
def meshDoesUptoRow : OpenClaim := { program := "ytbpjgdmmijehnaadoor", sum := "3e8864142ba5b3c84eb69af54304231a586ff174e2a123b7f319fa752271cb2f", func := "pleach/pleachlaw21.MeshDoes", spec := "meshDoes", inPlace := ["(*internal/sync.Mutex).Lock", "internal/race.Disable", "sync/atomic.CompareAndSwapInt32", "internal/race.Enable", "internal/race.Acquire", "(*internal/sync.Mutex).lockSlow", "internal/sync.runtime_canSpin", "internal/sync.runtime_doSpin", "internal/sync.throw", "internal/sync.runtime_nanotime", "internal/sync.runtime_SemacquireMutex", "sync/atomic.AddInt32", "(*internal/sync.Mutex).Unlock", "internal/race.ReleaseMerge", "(*internal/sync.Mutex).unlockSlow", "internal/sync.fatal", "internal/sync.runtime_Semrelease"], named := ["pleach/mesh.ErrIdle"], plainKeys := false, apart := false, laid := [("pleach/mesh.ErrIdle", laid_pleach_mesh_ErrIdle)], narrowed := true }
def MeshDoesUptoSaid : Prop := meshDoesUptoRow.holds Tryd.pinned (OpenSpec.upto meshDoesSpec)

end Rows
end Go.Proofs.YtbpjgdmmijehnaaDoor
