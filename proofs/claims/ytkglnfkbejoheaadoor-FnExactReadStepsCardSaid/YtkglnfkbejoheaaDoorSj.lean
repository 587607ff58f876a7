/- The listed tables and errors give what is known of them all along. -/
import Derived.Test.YtkglnfkbejoheaaDoorSe
import Derived.Test.YtkglnfkbejoheaaDoorAwx
import Derived.Test.YtkglnfkbejoheaaDoorRows
import Derived.Lib.LaidTab
import Derived.Stop.LaidErr
set_option linter.unusedSimpArgs false
set_option linter.unusedVariables false
namespace Go.Proofs.YtkglnfkbejoheaaDoor
open Go.Aw
theorem heap_of_var {P : Program} {W : World} {n : String} {g : Nat} {cs : Array Value} (hg : P.globalNamed n = some g) (h : W.var? P n = some cs) : ∃ T fz, W.heap[g]? = some (.cells cs T fz) := by
  unfold World.var? at h
  rw [hg, Option.bind_some] at h
  split at h
  · rename_i cs' T fz e
    cases h
    exact ⟨T, fz, e⟩
  · cases h
theorem pow10_dataE : (Rows.laid_internal_strconv_uint64pow10 : DataW Unit) = Lib.tabData .u64 Lib.pow10Tab := by kernel_rfl
theorem deB64_dataE : (Rows.laid_math_bits_deBruijn64tab : DataW Unit) = Lib.tabData .u8 deB64 := by kernel_rfl
theorem star_err : "*" ++ "errors.errorString" = "*errors.errorString" := by decide
theorem row_err (u : TypeId) (h : Tryd.prog.typeName? 3 u = some "*errors.errorString") : u = 200 :=
  typeName_ptr_named (nm := "errors.errorString") (by rw [star_err]; kernel_rfl) (by kernel_rfl) (by decide) u (by rw [star_err]; exact h)
theorem lore_of_rowsE {W : World} {x y z : String × DataW Unit} (h : laidMet Tryd.prog (x :: ("math/bits.deBruijn64tab", Rows.laid_math_bits_deBruijn64tab) :: ("internal/strconv.uint64pow10", Rows.laid_internal_strconv_uint64pow10) :: y :: ("strconv.ErrRange", Rows.laid_strconv_ErrRange) :: ("strconv.ErrSyntax", Rows.laid_strconv_ErrSyntax) :: z :: []) W) : LoreX W := by
  have h1 := h.tail
  have h2 := h1.tail
  have h4 := h2.tail.tail
  have h5 := h4.tail
  rw [pow10_dataE] at h2
  rw [deB64_dataE] at h1
  obtain ⟨_, _, eR, _⟩ := laid_sentinel (g := loreR) (ti := 90) (tp := 200) (te := 202) (ts := 9) (f := ⟨"s", 9, 0, false, "", "errors", 0⟩) h4 (by kernel_rfl) (by kernel_rfl) Tryd.underlying90 row_err (by kernel_rfl) (by kernel_rfl) rfl rfl (by kernel_rfl) (by kernel_rfl) (by kernel_rfl)
  obtain ⟨_, _, eS, _⟩ := laid_sentinel (g := loreS) (ti := 90) (tp := 200) (te := 202) (ts := 9) (f := ⟨"s", 9, 0, false, "", "errors", 0⟩) h5 (by kernel_rfl) (by kernel_rfl) Tryd.underlying90 row_err (by kernel_rfl) (by kernel_rfl) rfl rfl (by kernel_rfl) (by kernel_rfl) (by kernel_rfl)
  obtain ⟨T, fz, e1⟩ := heap_of_var (g := loreR) (by kernel_rfl) eR
  obtain ⟨T', fz', e2⟩ := heap_of_var (g := loreS) (by kernel_rfl) eS
  exact {
    pow := heap_of_var (g := loreT) (by kernel_rfl) (Lib.tabIs_of_head (g := loreT) (t := 204) (e := 102) (n := 20) (by kernel_rfl) (by kernel_rfl) (by kernel_rfl) (by kernel_rfl) (by kernel_rfl) (by kernel_rfl) h2)
    deb := heap_of_var (g := loreB) (by kernel_rfl) (Lib.tabIs_of_head (g := loreB) (t := 210) (e := 5) (n := 64) (by kernel_rfl) (by kernel_rfl) (by kernel_rfl) (by kernel_rfl) (by kernel_rfl) (by kernel_rfl) h1)
    errS := ⟨T', fz', _, _, e2⟩
    errR := ⟨T, fz, _, _, e1⟩ }
end Go.Proofs.YtkglnfkbejoheaaDoor
