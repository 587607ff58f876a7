/- Points of the circle, on both sides. -/
/- Points of the circle on the reference's side. -/
import Derived.Test.YthfgigndipjbjaaUa
set_option linter.unusedSimpArgs false
set_option linter.unusedVariables false
namespace Go.Proofs.Ythfgigndipjbjaa
open Go.Aw
def kPh : Kr
  | [.f .f64 x] => some (.c .f32 (fun _ => phC (x .u)) fun _ => phS (x .u), [], fun _ => Cl (x .u) 51)
  | _ => none
theorem pick_1 {q a b c d : Nat} (h : q = 1) : pickQ q a b c d = a := by unfold pickQ; rw [if_pos h]
theorem pick_2 {q a b c d : Nat} (h : q = 2) : pickQ q a b c d = b := by unfold pickQ; rw [if_neg (by omega), if_pos h]
theorem pick_3 {q a b c d : Nat} (h : q = 3) : pickQ q a b c d = c := by unfold pickQ; rw [if_neg (by omega), if_neg (by omega), if_pos h]
theorem pick_0 {q a b c d : Nat} (h1 : ¬ q = 1) (h2 : ¬ q = 2) (h3 : ¬ q = 3) : pickQ q a b c d = d := by unfold pickQ; rw [if_neg h1, if_neg h2, if_neg h3]
end Go.Proofs.Ythfgigndipjbjaa
set_option linter.unusedSimpArgs false
set_option linter.unusedVariables false
namespace Go.Proofs.Ythfgigndipjbjaa
open Go.Aw
def kNar64 : Kr
  | [.f .f64 x] => some (.f .f32 fun _ => f2f .f64 (x .u) .f32, [], fun _ => f2fOk .f64 (x .u) .f32)
  | _ => none
theorem den_int : ∀ j : Fin 8, -9223372036854775808 ≤ 2 * (8 - (j.val : Int)) * (2 * (8 - (j.val : Int)) + 1) ∧ 2 * (8 - (j.val : Int)) * (2 * (8 - (j.val : Int)) + 1) ≤ 9223372036854775807 := by decide
def kSineW : Kr
  | [.f .f64 x] => some (.f .f64 fun _ => sineF (x .u), [], fun _ => Cl (x .u) 51)
  | _ => none
end Go.Proofs.Ythfgigndipjbjaa
