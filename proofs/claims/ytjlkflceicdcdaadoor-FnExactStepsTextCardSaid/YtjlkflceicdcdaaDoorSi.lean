/- The listed table of powers of ten gives what is known of it all along. -/
import Derived.Test.YtjlkflceicdcdaaDoorSe
import Derived.Test.YtjlkflceicdcdaaDoorAwx
import Derived.Test.YtjlkflceicdcdaaDoorRows
import Derived.Lib.LaidTab
import Derived.Stop.LaidErr
set_option linter.unusedSimpArgs false
set_option linter.unusedVariables false
namespace Go.Proofs.YtjlkflceicdcdaaDoor
open Go.Aw
theorem lore_of_tab {W : World} (h : Lib.TabIs Tryd.prog W "internal/strconv.uint64pow10" .u64 Lib.pow10Tab) (h' : Lib.TabIs Tryd.prog W "math/bits.deBruijn64tab" .u8 deB64) : LoreX W := by
  unfold Lib.TabIs World.var? at h h'
  rw [show Tryd.prog.globalNamed "internal/strconv.uint64pow10" = some loreT by kernel_rfl, Option.bind_some] at h
  rw [show Tryd.prog.globalNamed "math/bits.deBruijn64tab" = some loreB by kernel_rfl, Option.bind_some] at h'
  split at h
  · rename_i cs T fz e
    cases h
    split at h'
    · rename_i cs' T' fz' e'
      cases h'
      exact ⟨⟨T, fz, e⟩, T', fz', e'⟩
    · cases h'
  · cases h
theorem pow10_data : (Rows.laid_internal_strconv_uint64pow10 : DataW Unit) = Lib.tabData .u64 Lib.pow10Tab := by kernel_rfl
theorem deB64_data : (Rows.laid_math_bits_deBruijn64tab : DataW Unit) = Lib.tabData .u8 deB64 := by kernel_rfl
theorem lore_of_rows {W : World} {r : List (String × DataW Unit)} (h : laidMet Tryd.prog (("math/bits.deBruijn64tab", Rows.laid_math_bits_deBruijn64tab) :: ("internal/strconv.uint64pow10", Rows.laid_internal_strconv_uint64pow10) :: r) W) : LoreX W := by
  have h2 := h.tail
  rw [pow10_data] at h2
  rw [deB64_data] at h
  exact lore_of_tab (Lib.tabIs_of_head (g := loreT) (t := 142) (e := 116) (n := 20) (by kernel_rfl) (by kernel_rfl) (by kernel_rfl) (by kernel_rfl) (by kernel_rfl) (by kernel_rfl) h2)
    (Lib.tabIs_of_head (g := loreB) (t := 165) (e := 5) (n := 64) (by kernel_rfl) (by kernel_rfl) (by kernel_rfl) (by kernel_rfl) (by kernel_rfl) (by kernel_rfl) h)
end Go.Proofs.YtjlkflceicdcdaaDoor
