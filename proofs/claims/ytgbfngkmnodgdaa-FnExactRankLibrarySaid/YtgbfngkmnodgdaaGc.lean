/- The base of a list on both sides. -/
import Derived.Test.YtgbfngkmnodgdaaGb
set_option linter.unusedSimpArgs false
set_option linter.unusedVariables false
namespace Go.Proofs.Ytgbfngkmnodgdaa
open Go.Aw
theorem isList_le {n : Nat} {x : Nat → Nat} (h : isList n x = true) : 1 ≤ n ∧ n ≤ 128 := by simp only [isList, Bool.and_eq_true, decide_eq_true_eq] at h; exact h.2
theorem finN_congr {x y : Nat → Nat} {n : Nat} (h : ∀ j, j < n → x j = y j) : finN n x = finN n y := by
  unfold finN allN
  rw [Bool.eq_iff_iff]
  simp only [List.all_eq_true, List.mem_range]
  exact ⟨fun k j hj => by rw [← h j hj]; exact k j hj, fun k j hj => by rw [h j hj]; exact k j hj⟩
def halfX (y : Nat → Nat) (i : Nat) : Nat := fmul .f32 1056964608 (fadd .f32 (y (i - 1)) (y (i + 1)))
def stepX (n : Nat) (y : Nat → Nat) (i : Nat) : Nat := bif decide (1 ≤ i) && (decide (i + 1 < n) && flt .f32 (halfX y i) (y i)) then halfX y i else y i
def baseN (n : Nat) (x : Nat → Nat) : Nat → Nat → Nat
  | 0 => x
  | r + 1 => stepX n (baseN n x r)
/-- The next list, as far as it is made. -/
def partX (n : Nat) (y : Nat → Nat) (i j : Nat) : Nat := bif decide (j < i) then stepX n y j else y j
theorem partX_one (n : Nat) (y : Nat → Nat) (j : Nat) : partX n y 1 j = y j := by
  unfold partX stepX
  by_cases h : j < 1
  · have h' : ¬ 1 ≤ j := by omega
    simp [h, h']
  · simp [h]
theorem partX_end (n : Nat) (y : Nat → Nat) (i j : Nat) (hi : n ≤ i + 1) : partX n y i j = stepX n y j := by
  unfold partX
  by_cases h : j < i
  · simp [h]
  · have : ¬ j + 1 < n := by omega
    simp [h, stepX, this]
theorem partX_succ {n : Nat} {y : Nat → Nat} {i j : Nat} (h : j ≠ i) : partX n y (i + 1) j = partX n y i j := by
  unfold partX
  rw [show decide (j < i + 1) = decide (j < i) from decide_eq_decide.2 (by omega)]
theorem partX_at (n : Nat) (y : Nat → Nat) (i : Nat) : partX n y (i + 1) i = stepX n y i := by simp [partX]
theorem partX_keep {n : Nat} {y : Nat → Nat} {i : Nat} : partX n y i i = y i := by simp [partX]
theorem step_yes {n : Nat} (y : Nat → Nat) (i : Nat) (h1 : 1 ≤ i) (h2 : i + 1 < n) (hf : flt .f32 (fmul .f32 (canon .f32 1056964608) (fadd .f32 (y ((i : Int) - 1).toNat) (y ((i : Int) + 1).toNat))) (y i) = true) :
    stepX n y i = fmul .f32 (canon .f32 1056964608) (fadd .f32 (y ((i : Int) - 1).toNat) (y ((i : Int) + 1).toNat)) := by
  rw [show ((i : Int) - 1).toNat = i - 1 by omega, show ((i : Int) + 1).toNat = i + 1 by omega, show canon .f32 1056964608 = 1056964608 from by decide] at *
  have h3 : decide (1 ≤ i) = true := by simpa using h1
  have h4 : decide (i + 1 < n) = true := by simpa using h2
  simp only [stepX, h3, h4, halfX, hf, Bool.and_self, cond_true]
theorem step_no {n : Nat} (y : Nat → Nat) (i : Nat) (h1 : 1 ≤ i) (h2 : i + 1 < n) (hf : flt .f32 (fmul .f32 (canon .f32 1056964608) (fadd .f32 (y ((i : Int) - 1).toNat) (y ((i : Int) + 1).toNat))) (y i) = false) :
    stepX n y i = y i := by
  rw [show ((i : Int) - 1).toNat = i - 1 by omega, show ((i : Int) + 1).toNat = i + 1 by omega, show canon .f32 1056964608 = 1056964608 from by decide] at hf
  simp only [stepX, halfX, hf, Bool.and_false, cond_false]
def kBase : Kr
  | [a, .i .i64 r] => match asL a with
    | some (n, g) => some (.own 0 (fun _ => 0) n 1, [blkF true n (baseN (n .u) (rdF g) (r .u).toNat)], fun _ => IsF n g ∧ n .u ≤ 128 ∧ 0 ≤ r .u ∧ r .u ≤ 64)
    | none => none
  | _ => none
def okBase (n : Nat) (x : Nat → Nat) (r : Int) : Bool := isList n x && (decide (0 ≤ r) && decide (r ≤ 64)) && finN n (baseN n x r.toNat)
def kBaseOf : Kg
  | [a, .i .i64 r], [] => match asLg a with
    | some (n, g) => some (ansL n (baseN (n .u) (rdF g) (r .u).toNat) (okBase (n .u) (rdF g) (r .u)) (IsF n g))
    | none => none
  | _, _ => none
def ctImplBase : CT := [(72, .r kIsList), (81, .r kIn), (114, .r kClone), (63, .g 1 kGive)]
theorem ctImplBase_ok : CTok Try.prog ctImplBase := .cons isList_tells (.cons within_tells (.cons clone_tells (.cons checked_g (.nil _))))
end Go.Proofs.Ytgbfngkmnodgdaa
