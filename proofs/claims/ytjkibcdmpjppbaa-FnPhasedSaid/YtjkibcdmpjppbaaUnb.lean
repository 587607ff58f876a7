/- The cases of phases that are turned and turned back. -/
import Derived.Test.YtjkibcdmpjppbaaUm
set_option maxRecDepth 100000
namespace Go.Proofs.Ytjkibcdmpjppbaa
open Go.Aw
theorem gB0 : gAll [sixB[0]] = true := by decide +kernel
theorem gB1 : gAll [sixB[1]] = true := by decide +kernel
theorem gB2 : gAll [sixB[2]] = true := by decide +kernel
theorem gB3 : gAll [sixB[3]] = true := by decide +kernel
theorem gB4 : gAll [sixB[4]] = true := by decide +kernel
theorem gB5 : gAll [sixB[5]] = true := by decide +kernel
end Go.Proofs.Ytjkibcdmpjppbaa
