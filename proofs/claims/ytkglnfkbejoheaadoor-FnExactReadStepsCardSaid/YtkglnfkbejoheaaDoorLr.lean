/- Closed facts of the program that every row asks for. -/
import Derived.Test.YtkglnfkbejoheaaDoorFe
import Derived.Test.YtkglnfkbejoheaaDoorAwr
import Derived.Test.YtkglnfkbejoheaaDoorRows
import Derived.JoinedOf
import Derived.JoinedAt
namespace Go.Proofs.YtkglnfkbejoheaaDoor
open Go.Aw
theorem Tryd.own : ownKnob Tryd.prog.godebug = none := by kernel_rfl
theorem Tryd.laidOut : laidOutB Tryd.prog = true := by kernel_rfl
theorem Tryd.mapsOut : mapsRowed Tryd.prog = true := by kernel_rfl
theorem Tryd.full : ∀ t e, t < Tryd.prog.types.size → Tryd.prog.underlying t = some (.slice e) → 0 < Tryd.prog.cellsOf e := slices_full_of Tryd.prog (by kernel_rfl)
theorem uFs : Tryd.prog.underlying 29 = some (.slice 22) := by kernel_rfl
theorem uF : Tryd.prog.underlying 22 = some (.float .f32) := by kernel_rfl
theorem cF : Tryd.prog.cellsOf 22 = 1 := by kernel_rfl
theorem cFs : Tryd.prog.cellsOf 29 = 1 := by kernel_rfl
theorem uI64 : Tryd.prog.underlying 2 = some (.int .i64) := by kernel_rfl
theorem uB : Tryd.prog.underlying 4 = some .bool := by kernel_rfl
end Go.Proofs.YtkglnfkbejoheaaDoor
