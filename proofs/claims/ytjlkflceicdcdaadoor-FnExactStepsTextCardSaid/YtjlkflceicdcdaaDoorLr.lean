/- Closed facts of the program that every row asks for. -/
import Derived.Test.YtjlkflceicdcdaaDoorFe
import Derived.Test.YtjlkflceicdcdaaDoorAwr
import Derived.Test.YtjlkflceicdcdaaDoorRows
import Derived.JoinedOf
import Derived.JoinedAt
namespace Go.Proofs.YtjlkflceicdcdaaDoor
open Go.Aw
theorem Tryd.own : ownKnob Tryd.prog.godebug = none := by kernel_rfl
theorem Tryd.laidOut : laidOutB Tryd.prog = true := by kernel_rfl
theorem Tryd.mapsOut : mapsRowed Tryd.prog = true := by kernel_rfl
theorem Tryd.full : ∀ t e, t < Tryd.prog.types.size → Tryd.prog.underlying t = some (.slice e) → 0 < Tryd.prog.cellsOf e := slices_full_of Tryd.prog (by kernel_rfl)
theorem uFs : Tryd.prog.underlying 41 = some (.slice 34) := by kernel_rfl
theorem uF : Tryd.prog.underlying 34 = some (.float .f32) := by kernel_rfl
theorem cF : Tryd.prog.cellsOf 34 = 1 := by kernel_rfl
theorem cFs : Tryd.prog.cellsOf 41 = 1 := by kernel_rfl
theorem uI64 : Tryd.prog.underlying 2 = some (.int .i64) := by kernel_rfl
theorem uB : Tryd.prog.underlying 4 = some .bool := by kernel_rfl
end Go.Proofs.YtjlkflceicdcdaaDoor
