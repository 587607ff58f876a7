/- What is known of the package-level tables of this seat all along (printed by gen_lore.py of this folder's author out of the translation). -/
import GoSem.Core.World
namespace Go.Aw
def loreG : Nat := 0
def LoreX (_ : World) : Prop := True
theorem lore_keep {w w' : World} (_ : LoreX w) (_ : ∀ b, b < loreG → w'.heap[b]? = w.heap[b]?) : LoreX w' := trivial
theorem lore_big {w : World} (_ : LoreX w) : loreG ≤ w.heap.size := Nat.zero_le _
end Go.Aw
