/- What is known of the package-level tables of this seat all along (printed by gen_lore.py of this folder's author out of the translation). -/
import GoSem.Core.World
namespace Go.Aw
def loreT : Nat := 2
def loreG : Nat := 3
/-- The table of the powers of ten lies there. -/
def LoreX (w : World) : Prop := ∃ T fz, w.heap[loreT]? = some (.cells (((List.range 20).map fun i => ((10 ^ i : Nat) : Int)).map fun z => Value.int .u64 z).toArray T fz)
theorem lore_keep {w w' : World} (h : LoreX w) (k : ∀ b, b < loreG → w'.heap[b]? = w.heap[b]?) : LoreX w' := by
  obtain ⟨T, fz, e⟩ := h
  exact ⟨T, fz, (k loreT (by decide)).trans e⟩
theorem lore_big {w : World} (h : LoreX w) : loreG ≤ w.heap.size := by
  obtain ⟨T, fz, e⟩ := h
  exact Nat.succ_le_of_lt (Array.getElem?_eq_some_iff.1 e).1
end Go.Aw
