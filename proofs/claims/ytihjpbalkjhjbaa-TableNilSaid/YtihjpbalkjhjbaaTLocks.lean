/- The numbers under which this program holds sync.Mutex's functions and types, and that it holds them. -/
import Derived.Test.YtihjpbalkjhjbaaRows
import Derived.Conc.MuLib
import Derived.KernelRfl
namespace Go.Proofs.Ytihjpbalkjhjbaa

abbrev muLink : Go.Conc.Locks.MuLink := { lock := 35, unlock := 36, ilock := 56, iunlock := 57, lockSlow := 70, unlockSlow := 73, disable := 66, enable := 68, acquire := 69, relMerge := 71, cas32 := 67, add32 := 72, tMutex := 83, tIMutex := 81, tPMutex := 120, tPIMutex := 138, tPI32 := 140, tUP := 142, tNoCopy := 78, tU32 := 79 }
theorem muLib : Go.Conc.Locks.MuLib Try.prog muLink :=
  ⟨Try.func35, Try.func36, Try.func56, Try.func57, Try.func66, Try.func68, Try.func69, Try.func71, Try.func67, Try.func72,
   Try.underlying81, Try.runUnderlying81, Try.sizeOf81, Try.isAgg81, Try.zeroValue81, Try.underlying83, Try.runUnderlying83, Try.sizeOf83, Try.isAgg83, Try.zeroValue83,
   Try.underlying120, Try.runUnderlying120, Try.sizeOf120, Try.isAgg120, Try.zeroValue120, Try.underlying138, Try.runUnderlying138, Try.sizeOf138, Try.isAgg138, Try.zeroValue138,
   Try.underlying140, Try.runUnderlying140, Try.sizeOf140, Try.isAgg140, Try.zeroValue140, Try.underlying142, Try.runUnderlying142, Try.sizeOf142, Try.isAgg142, Try.zeroValue142,
   Try.underlying78, Try.runUnderlying78, Try.sizeOf78, Try.isAgg78, Try.zeroValue78, Try.underlying21, Try.runUnderlying21, Try.sizeOf21, Try.isAgg21, Try.zeroValue21, (by kernel_rfl)⟩
end Go.Proofs.Ytihjpbalkjhjbaa
