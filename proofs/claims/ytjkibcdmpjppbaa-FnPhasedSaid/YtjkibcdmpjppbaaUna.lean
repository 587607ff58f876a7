/- The cases of phases that are turned and turned back. -/
import Derived.Test.YtjkibcdmpjppbaaUm
set_option maxRecDepth 100000
namespace Go.Proofs.Ytjkibcdmpjppbaa
open Go.Aw
theorem gA0 : gAll [sixA[0]] = true := by decide +kernel
theorem gA1 : gAll [sixA[1]] = true := by decide +kernel
theorem gA2 : gAll [sixA[2]] = true := by decide +kernel
theorem gA3 : gAll [sixA[3]] = true := by decide +kernel
theorem gA4 : gAll [sixA[4]] = true := by decide +kernel
theorem gA5 : gAll [sixA[5]] = true := by decide +kernel
end Go.Proofs.Ytjkibcdmpjppbaa
