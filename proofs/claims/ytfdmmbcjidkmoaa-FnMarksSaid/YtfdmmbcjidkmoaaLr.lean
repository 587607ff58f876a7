/- Closed facts of the program that every row asks for. -/
import Derived.Test.YtfdmmbcjidkmoaaFe
import Derived.Test.YtfdmmbcjidkmoaaAwr
import Derived.Test.YtfdmmbcjidkmoaaRows
import Derived.JoinedOf
import Derived.JoinedAt
namespace Go.Proofs.Ytfdmmbcjidkmoaa
open Go.Aw
theorem Try.own : ownKnob Try.prog.godebug = none := by kernel_rfl
theorem Try.laidOut : laidOutB Try.prog = true := by kernel_rfl
theorem Try.mapsOut : mapsRowed Try.prog = true := by kernel_rfl
theorem Try.full : ∀ t e, t < Try.prog.types.size → Try.prog.underlying t = some (.slice e) → 0 < Try.prog.cellsOf e := slices_full_of Try.prog (by kernel_rfl)
theorem uFs : Try.prog.underlying 27 = some (.slice 28) := by kernel_rfl
theorem uF : Try.prog.underlying 28 = some (.float .f32) := by kernel_rfl
theorem cF : Try.prog.cellsOf 28 = 1 := by kernel_rfl
theorem uFss : Try.prog.underlying 25 = some (.slice 27) := by kernel_rfl
theorem cFs : Try.prog.cellsOf 27 = 1 := by kernel_rfl
theorem uI64 : Try.prog.underlying 2 = some (.int .i64) := by kernel_rfl
theorem uB : Try.prog.underlying 4 = some .bool := by kernel_rfl
end Go.Proofs.Ytfdmmbcjidkmoaa
