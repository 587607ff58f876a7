/- What is known of the package-level tables of this seat all along (printed by gen_lore.py of this folder's author out of the translation). -/
import GoSem.Core.World
namespace Go.Aw
def loreT : Nat := 6
def loreB : Nat := 8
def loreG : Nat := 9
def deB64 : List Int := [0, 1, 56, 2, 57, 49, 28, 3, 61, 58, 42, 50, 38, 29, 17, 4, 62, 47, 59, 36, 45, 43, 51, 22, 53, 39, 33, 30, 24, 18, 12, 5, 63, 55, 48, 27, 60, 41, 37, 16, 46, 35, 44, 21, 52, 32, 23, 11, 54, 26, 40, 15, 34, 20, 31, 10, 25, 14, 19, 9, 13, 8, 7, 6]
def loreS : Nat := 2
def loreR : Nat := 3
/-- What the package-level variables hold. -/
structure LoreX (w : World) : Prop where
  pow : ∃ T fz, w.heap[loreT]? = some (.cells (((List.range 20).map fun i => ((10 ^ i : Nat) : Int)).map fun z => Value.int .u64 z).toArray T fz)
  deb : ∃ T fz, w.heap[loreB]? = some (.cells (deB64.map fun z => Value.int .u8 z).toArray T fz)
  errS : ∃ T fz t v, w.heap[loreS]? = some (.cells #[.iface t v] T fz)
  errR : ∃ T fz t v, w.heap[loreR]? = some (.cells #[.iface t v] T fz)
theorem lore_keep {w w' : World} (h : LoreX w) (k : ∀ b, b < loreG → w'.heap[b]? = w.heap[b]?) : LoreX w' where
  pow := by obtain ⟨T, fz, e⟩ := h.pow; exact ⟨T, fz, (k loreT (by decide)).trans e⟩
  deb := by obtain ⟨T, fz, e⟩ := h.deb; exact ⟨T, fz, (k loreB (by decide)).trans e⟩
  errS := by obtain ⟨T, fz, t, v, e⟩ := h.errS; exact ⟨T, fz, t, v, (k loreS (by decide)).trans e⟩
  errR := by obtain ⟨T, fz, t, v, e⟩ := h.errR; exact ⟨T, fz, t, v, (k loreR (by decide)).trans e⟩
theorem lore_big {w : World} (h : LoreX w) : loreG ≤ w.heap.size := by
  obtain ⟨T, fz, e⟩ := h.deb
  exact Nat.succ_le_of_lt (Array.getElem?_eq_some_iff.1 e).1
end Go.Aw
