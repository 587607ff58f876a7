/- Roots, numbers that are checked, two lists. -/
import Derived.Test.YtkglnfkbejoheaaDoorGc
import Derived.Test.YtkglnfkbejoheaaDoorAwv
import Derived.Laws.Externs
set_option linter.unusedSimpArgs false
set_option linter.unusedVariables false
namespace Go.Proofs.YtkglnfkbejoheaaDoor
open Go.Aw
def kSqrtX : Kx
  | [.f .f64 x] => some (.f .f64 fun _ => fsqrt .f64 (x .u), fun _ => True)
  | _ => none
def kSqrt : Kr
  | [.f .f64 x] => some (.f .f64 fun _ => fsqrt .f64 (x .u), [], fun _ => True)
  | _ => none
def rootF (x : Nat) : Nat := f2f .f64 (fsqrt .f64 (f2f .f32 x .f64)) .f32
def kRoot : Kr
  | [.f .f32 x] => some (.f .f32 fun _ => rootF (x .u), [], fun _ => True)
  | _ => none
def kNarrow : Kr
  | [.f .f64 x] => some (.f .f32 fun _ => f2f .f64 (x .u) .f32, [], fun _ => f2fOk .f64 (x .u) .f32)
  | _ => none
/-- A number where it is finite, and whether it is. -/
abbrev numA (x : Nat) (ok : Bool) : AV := .tup [.f .f32 fun _ => bif ok then x else 0, .b fun _ => ok]
theorem allFr_num {x : Nat} {ok : Bool} : AllFr (numA x ok) := allFr_tup2 .f .b
def kNum : Kr
  | [.f .f32 x] => some (numA (x .u) (isFin (x .u)), [], fun _ => True)
  | _ => none
theorem int_beq (n m : Nat) : ((n : Int) == (m : Int)) = decide (n = m) := by
  rw [Bool.eq_iff_iff]; simp; omega
def isTwo (n : Nat) (x : Nat → Nat) (m : Nat) (y : Nat → Nat) : Bool := isList n x && (isList m y && decide (n = m))
def kTwo : Kr
  | [a, b] => match asL a, asL b with
    | some (n, g), some (m, h) => some (.b fun _ => isTwo (n .u) (rdF g) (m .u) (rdF h), [], fun _ => IsF n g ∧ IsF m h)
    | _, _ => none
  | _ => none
theorem two_not (n m : Nat) (x y : Nat → Nat) : ((!isList n x || !isList m y) || ((n : Int) != (m : Int))) = !isTwo n x m y := by
  unfold isTwo
  rw [show ((n : Int) != (m : Int)) = !decide (n = m) by rw [← int_beq]; rfl]
  cases isList n x <;> cases isList m y <;> cases decide (n = m) <;> rfl
theorem two_eq {n m : Nat} {x y : Nat → Nat} (h : isTwo n x m y = true) : n = m ∧ n ≤ 128 ∧ 1 ≤ n := by
  simp only [isTwo, isList, Bool.and_eq_true, decide_eq_true_eq] at h
  exact ⟨h.2.2, h.1.2.2, h.1.2.1⟩
/-! How far two lists are apart. -/
def farN (x y : Nat → Nat) : Nat → Nat
  | 0 => 0
  | k + 1 => fadd .f32 (farN x y k) (fmul .f32 (fsub .f32 (x k) (y k)) (fsub .f32 (x k) (y k)))
def kFarV : Kr
  | [a, b] => match asL a, asL b with
    | some (n, g), some (m, h) => some (.f .f32 fun _ => rootF (farN (rdF g) (rdF h) (n .u)), [], fun _ => IsF n g ∧ IsF m h ∧ n .u ≤ m .u)
    | _, _ => none
  | _ => none
def farV (n : Nat) (x : Nat → Nat) (y : Nat → Nat) : Nat := rootF (farN x y n)
def okFar (n : Nat) (x : Nat → Nat) (m : Nat) (y : Nat → Nat) : Bool := isTwo n x m y && isFin (farV n x y)
def kFar : Kr
  | [a, b] => match asL a, asL b with
    | some (n, g), some (m, h) => some (numA (farV (n .u) (rdF g) (rdF h)) (okFar (n .u) (rdF g) (m .u) (rdF h)), [], fun _ => IsF n g ∧ IsF m h)
    | _, _ => none
  | _ => none
end Go.Proofs.YtkglnfkbejoheaaDoor
