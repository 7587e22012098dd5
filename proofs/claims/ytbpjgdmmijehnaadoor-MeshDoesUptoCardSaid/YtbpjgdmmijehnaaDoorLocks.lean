/-
  The numbers of the locks' functions and types in this translation; checked by the kernel.
-/
import Derived.Test.YtbpjgdmmijehnaaDoorProg
import Derived.Conc.RwLib
import Derived.Conc.MuData
import Derived.KernelRfl
namespace Go.Proofs.YtbpjgdmmijehnaaDoor
open Go.Proofs
abbrev muLink : Go.Conc.Locks.MuLink := { lock := 24, unlock := 25, ilock := 43, iunlock := 44, lockSlow := 58, unlockSlow := 61, disable := 54, enable := 56, acquire := 57, relMerge := 59, cas32 := 55, add32 := 60, tMutex := 64, tIMutex := 62, tPMutex := 78, tPIMutex := 91, tPI32 := 93, tUP := 95, tNoCopy := 59, tU32 := 60 }
theorem muLib : Go.Conc.Locks.MuLib Tryd.prog muLink :=
  ⟨Tryd.func24, Tryd.func25, Tryd.func43, Tryd.func44, Tryd.func54, Tryd.func56, Tryd.func57, Tryd.func59, Tryd.func55, Tryd.func60, Tryd.underlying62, Tryd.runUnderlying62, Tryd.sizeOf62, Tryd.isAgg62, Tryd.zeroValue62, Tryd.underlying64, Tryd.runUnderlying64, Tryd.sizeOf64, Tryd.isAgg64, Tryd.zeroValue64, Tryd.underlying78, Tryd.runUnderlying78, Tryd.sizeOf78, Tryd.isAgg78, Tryd.zeroValue78, Tryd.underlying91, Tryd.runUnderlying91, Tryd.sizeOf91, Tryd.isAgg91, Tryd.zeroValue91, Tryd.underlying93, Tryd.runUnderlying93, Tryd.sizeOf93, Tryd.isAgg93, Tryd.zeroValue93, Tryd.underlying95, Tryd.runUnderlying95, Tryd.sizeOf95, Tryd.isAgg95, Tryd.zeroValue95, Tryd.underlying59, Tryd.runUnderlying59, Tryd.sizeOf59, Tryd.isAgg59, Tryd.zeroValue59, Tryd.underlying21, Tryd.runUnderlying21, Tryd.sizeOf21, Tryd.isAgg21, Tryd.zeroValue21, (by kernel_rfl)⟩
end Go.Proofs.YtbpjgdmmijehnaaDoor
