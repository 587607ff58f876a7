/- Smooth lists: what the kernel tells of shifts, means over all, bases and what is left above them. -/
import Derived.Test.YthfgigndipjbjaaVj
set_option linter.unusedSimpArgs false
set_option linter.unusedVariables false
set_option maxRecDepth 100000
namespace Go.Proofs.Ythfgigndipjbjaa
open Go.Aw
def shiftT (d : Int) : Bool := (List.range 16).all fun n => okShift (n + 5) (peakS (n + 5)) d && (isList (n + 5) (shiftX (n + 5) (peakS (n + 5)) d) && decide ((bestB (n + 5) (peakS (n + 5)) (shiftX (n + 5) (peakS (n + 5)) d) 4).1 = d))
theorem shift_m2 : shiftT (-2) = true := by decide +kernel
theorem shift_m1 : shiftT (-1) = true := by decide +kernel
theorem shift_0 : shiftT 0 = true := by decide +kernel
theorem shift_1 : shiftT 1 = true := by decide +kernel
theorem shift_2 : shiftT 2 = true := by decide +kernel
def wideT (n : Nat) : Bool := allI (-2 * (n : Int)) (16 * n + 13) fun k => isFin (fdiv .f32 (qw k) (itof .f32 (n : Int))) && !fgt .f64 (gapF (fmul .f64 (wd (fdiv .f32 (qw k) (itof .f32 (n : Int)))) (itof .f64 (n : Int))) (wd (qw k))) centD
theorem wide_a : (List.range 6).all (fun n => wideT (n + 5)) = true := by decide +kernel
theorem wide_b : (List.range 4).all (fun n => wideT (n + 11)) = true := by decide +kernel
theorem wide_c : (List.range 3).all (fun n => wideT (n + 15)) = true := by decide +kernel
theorem wide_d : (List.range 3).all (fun n => wideT (n + 18)) = true := by decide +kernel
def halfT (a : Int) (n : Nat) : Bool := allI a n fun a => allI (-8) 65 fun b => Nat.beq (fmul .f32 1056964608 (fadd .f32 (hw (2 * a)) (hw (2 * b)))) (hw (a + b))
theorem half_a : halfT (-8) 57 = true := by decide +kernel
theorem half_b : halfT 49 56 = true := by decide +kernel
def lessT (a : Int) (n : Nat) : Bool := allI a n fun a => allI (-8) 65 fun b => flt .f32 (hw a) (hw (2 * b)) == decide (a < 2 * b)
theorem less_a : lessT (-16) 59 = true := by decide +kernel
theorem less_b : lessT 43 59 = true := by decide +kernel
theorem less_c : lessT 102 59 = true := by decide +kernel
def leftT (k b : Int) : Bool := isFin (fsub .f32 (qw k) (hw b)) && (isFin (hw b) && (Nat.blt (hw b) 4294967296 && (!fgt .f32 (hw b) (qw k) && !fgt .f64 (gapF (wd (fsub .f32 (qw k) (hw b))) (fsub .f64 (wd (qw k)) (wd (hw b)))) milD)))
theorem left_a : allI (-2) 9 (fun k => allI (-16) 129 fun b => !decide (b ≤ 8 * k) || leftT k b) = true := by decide +kernel
theorem left_b : allI 7 4 (fun k => allI (-16) 129 fun b => !decide (b ≤ 8 * k) || leftT k b) = true := by decide +kernel
theorem left_c : allI 11 4 (fun k => allI (-16) 129 fun b => !decide (b ≤ 8 * k) || leftT k b) = true := by decide +kernel
theorem left_0 : allI 10 17 (fun k => leftT k (8 * k)) = true := by decide +kernel
theorem place_ok : (List.range 16).all (fun n => (List.range (n + 5)).all fun i => onL (n + 5) (placeX 0 1065353216 i) && (decide (placeK (placeX 0 1065353216 i) = (i : Int)) && Nat.beq (fsub .f32 (placeX 0 1065353216 i) (itof .f32 (i : Int))) 0)) = true := by decide +kernel
theorem stay_ok : allI (-2) 29 (fun a => allI (-2) 17 fun b => Nat.beq (fadd .f32 (qw a) (fmul .f32 0 (fsub .f32 (qw b) (qw a)))) (qw a)) = true := by decide +kernel
end Go.Proofs.Ythfgigndipjbjaa
