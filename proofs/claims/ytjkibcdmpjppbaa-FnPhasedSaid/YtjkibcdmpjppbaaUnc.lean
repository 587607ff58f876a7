/- The cases of phases that are turned and turned back. -/
import Derived.Test.YtjkibcdmpjppbaaUm
set_option maxRecDepth 100000
namespace Go.Proofs.Ytjkibcdmpjppbaa
open Go.Aw
theorem gC0 : gAll [sixC[0]] = true := by decide +kernel
theorem gC1 : gAll [sixC[1]] = true := by decide +kernel
theorem gC2 : gAll [sixC[2]] = true := by decide +kernel
theorem gC3 : gAll [sixC[3]] = true := by decide +kernel
theorem gC4 : gAll [sixC[4]] = true := by decide +kernel
theorem gC5 : gAll [sixC[5]] = true := by decide +kernel
end Go.Proofs.Ytjkibcdmpjppbaa
