/- Smooth lists: what the kernel tells of quarters, thirty-seconds and lines. -/
import Derived.Test.YthfgigndipjbjaaVd
set_option linter.unusedSimpArgs false
set_option linter.unusedVariables false
set_option maxRecDepth 100000
namespace Go.Proofs.Ythfgigndipjbjaa
open Go.Aw
/-- Quarters and thirty-seconds. -/
def qw (k : Int) : Nat := fdiv .f32 (itof .f32 k) 1082130432
def hw (k : Int) : Nat := fdiv .f32 (itof .f32 k) 1107296256
/-- A property of whole numbers from a to a + n - 1. -/
def allI (a : Int) (n : Nat) (p : Int → Bool) : Bool := (List.range n).all fun i => p (a + (i : Int))
theorem allI_at {a : Int} {n : Nat} {p : Int → Bool} (h : allI a n p = true) {k : Int} (h0 : a ≤ k) (h1 : k < a + n) : p k = true := by
  obtain ⟨i, hi⟩ := Int.eq_ofNat_of_zero_le (show 0 ≤ k - a by omega)
  have := List.all_eq_true.1 h i (List.mem_range.2 (by omega))
  have e : a + (i : Int) = k := by omega
  rw [e] at this
  exact this
theorem first_ok : allI (-2) 17 (fun k => Nat.beq (fadd .f32 (qw k) 1077936128) (qw (k + 12))) = true := by decide +kernel
theorem quar_ok : allI (-2) 29 (fun k => isFin (qw k) && (Nat.blt (qw k) 4294967296 && (Nat.beq (qw k) (hw (8 * k)) && Nat.beq (fdiv .f32 (fadd .f32 0 (qw k)) 1065353216) (qw k)))) = true := by decide +kernel
theorem sumq_a : allI (-40) 170 (fun a => allI (-2) 17 fun p => Nat.beq (fadd .f32 (qw a) (qw p)) (qw (a + p))) = true := by decide +kernel
theorem sumq_b : allI 130 170 (fun a => allI (-2) 17 fun p => Nat.beq (fadd .f32 (qw a) (qw p)) (qw (a + p))) = true := by decide +kernel
theorem sumd_a : allI (-40) 85 (fun a => allI (-2) 17 fun p => Nat.beq (fadd .f64 (wd (qw a)) (wd (qw p))) (wd (qw (a + p)))) = true := by decide +kernel
theorem sumd_b : allI 45 85 (fun a => allI (-2) 17 fun p => Nat.beq (fadd .f64 (wd (qw a)) (wd (qw p))) (wd (qw (a + p)))) = true := by decide +kernel
theorem sumd_c : allI 130 85 (fun a => allI (-2) 17 fun p => Nat.beq (fadd .f64 (wd (qw a)) (wd (qw p))) (wd (qw (a + p)))) = true := by decide +kernel
theorem sumd_d : allI 215 85 (fun a => allI (-2) 17 fun p => Nat.beq (fadd .f64 (wd (qw a)) (wd (qw p))) (wd (qw (a + p)))) = true := by decide +kernel
theorem line_ok : (List.range 16).all (fun n => okCurve (n + 5) lineS && (okAt (n + 5) lineS 1056964608 1065353216 (((n + 5 : Nat) : Int) - 1))) = true := by decide +kernel
theorem line_c1 : (List.range 16).all (fun n => (List.range (n + 5)).all fun i => !fgt .f64 (gapF (wd (curveX (n + 5) lineS i)) (wd (lineS i))) milD) = true := by decide +kernel
theorem line_c5 : (List.range 16).all (fun n => (List.range (n + 4)).all fun i => !fgt .f64 (gapF (wd (stepsAt (n + 5) lineS 1056964608 1065353216 i)) (fadd .f64 (wd (lineS i)) 4593671619917905920)) milD) = true := by decide +kernel
end Go.Proofs.Ythfgigndipjbjaa
