/- Floating point as rational numbers: literals, gaps, finite numbers. -/
import Derived.Test.YtfdmmbcjidkmoaaWc
import Derived.Test.YtfdmmbcjidkmoaaUk
set_option linter.unusedSimpArgs false
set_option linter.unusedVariables false
namespace Go.Aw
theorem uK_f32 : uK .f32 = 1 / 16777216 := by decide +kernel
theorem uK_f64 : uK .f64 = 1 / 9007199254740992 := by decide +kernel
theorem tiny_le {k : FloatKind} : tK k ≤ 1 / 1267650600228229401496703205376 := by
  rw [show (1 : Rat) / 1267650600228229401496703205376 = pw (-100) by decide +kernel]
  cases k
  · exact pw_mono (by decide)
  · exact pw_mono (by decide)
theorem pw_m2 : pw (-2) = 1 / 4 := by decide +kernel
theorem pw_m4 : pw (-4) = 1 / 16 := by decide +kernel
theorem big_lim {k : FloatKind} : (1267650600228229401496703205376 : Rat) ≤ pw (limK k - 1) := by
  rw [show (1267650600228229401496703205376 : Rat) = pw 100 by decide +kernel]
  cases k
  · exact pw_mono (by decide)
  · exact pw_mono (by decide)
theorem big_lim' {k : FloatKind} : (1267650600228229401496703205376 : Rat) ≤ pw (limK k) := Rat.le_trans (big_lim (k := k)) (pw_mono (by omega))
/-- A literal's value. -/
theorem V.lit {k : FloatKind} {x : Nat} {s : Bool} {m : Nat} {e : Int} {r : Rat} (h : k.format.read x = .number s m e) (hr : sg s ((m : Rat) * pw e) = r) : V k.format x r := ⟨s, m, e, h, hr.symm⟩
theorem V.to {f : Ieee.Format} {x : Nat} {a b : Rat} (h : V f x a) (e : a = b) : V f x b := e ▸ h
section
open Ieee
theorem sq_le_of {a b : Rat} (h : a * a ≤ b * b) (hb : 0 ≤ b) : mg a ≤ b := by
  rcases Rat.le_total (a := mg a) (b := b) with h' | h'
  · exact h'
  · have h0 := mg_nonneg a
    have e : mg a * mg a = a * a := by rw [← mg_mul]; exact mg_of_nonneg (by rcases Rat.le_total (a := 0) (b := a) with g | g; exact Rat.mul_nonneg g g; have := Rat.mul_nonneg (show 0 ≤ -a by grind) (show 0 ≤ -a by grind); grind)
    have g1 := Rat.mul_le_mul_of_nonneg_right h' h0
    have g2 := Rat.mul_le_mul_of_nonneg_left h' hb
    have e2 : (mg a - b) * (mg a + b) = 0 := by grind
    have := Rat.mul_eq_zero.1 e2
    grind
theorem sq_nonneg (a : Rat) : 0 ≤ a * a := by
  rcases Rat.le_total (a := 0) (b := a) with g | g
  · exact Rat.mul_nonneg g g
  · have := Rat.mul_nonneg (show 0 ≤ -a by grind) (show 0 ≤ -a by grind)
    grind
/-- The difference of products of near numbers. -/
theorem mul_gap {a b c d e f M L : Rat} (h1 : mg (a - c) ≤ e) (h2 : mg (b - d) ≤ f) (h3 : mg b ≤ M) (h4 : mg c ≤ L) : mg (a * b - c * d) ≤ e * M + L * f := by
  have h := mg_add ((a - c) * b) (c * (b - d))
  rw [mg_mul, mg_mul, show (a - c) * b + c * (b - d) = a * b - c * d by grind] at h
  have e0 : 0 ≤ e := Rat.le_trans (mg_nonneg _) h1
  have L0 : 0 ≤ L := Rat.le_trans (mg_nonneg _) h4
  have g1 := Rat.mul_le_mul_of_nonneg_right h1 (mg_nonneg b)
  have g2 := Rat.mul_le_mul_of_nonneg_left h3 e0
  have g3 := Rat.mul_le_mul_of_nonneg_right h4 (mg_nonneg (b - d))
  have g4 := Rat.mul_le_mul_of_nonneg_left h2 L0
  grind
end
end Go.Aw
namespace Go.Proofs.Ytfdmmbcjidkmoaa
open Go.Aw
/-- A gap is near the absolute difference. -/
theorem gap_near {x y : Nat} {a b : Rat} (hx : V FloatKind.f64.format x a) (hy : V FloatKind.f64.format y b) (hl : mg (a - b) ≤ pw 1000) : ∃ t, V FloatKind.f64.format (gapF x y) t ∧ mg (t - mg (a - b)) ≤ uK .f64 * mg (a - b) + tK .f64 := by
  have hL : pw 1000 ≤ pw (limK .f64) := pw_mono (by decide)
  unfold gapF
  rw [flt_v hx hy]
  by_cases h : a < b
  · rw [decide_eq_true h, cond_true]
    have e : mg (a - b) = b - a := by rw [← mg_neg, mg_of_nonneg (by grind)]; grind
    have e2 : mg (b - a) = b - a := mg_of_nonneg (by grind)
    obtain ⟨t, h1, h2⟩ := sub_near hy hx (by rw [e2, ← e]; exact Rat.le_trans hl hL)
    rw [e]
    rw [e2] at h2
    exact ⟨t, h1, h2⟩
  · rw [decide_eq_false h, cond_false]
    have e : mg (a - b) = a - b := mg_of_nonneg (by grind)
    obtain ⟨t, h1, h2⟩ := sub_near hx hy (Rat.le_trans hl hL)
    rw [e] at h2 ⊢
    exact ⟨t, h1, h2⟩
/-- A gap well within a bound is not above it. -/
theorem gap_le {x y w : Nat} {a b c : Rat} (hx : V FloatKind.f64.format x a) (hy : V FloatKind.f64.format y b) (hw : V FloatKind.f64.format w c) (hc : c ≤ 1) (h : mg (a - b) + 1 / 1000000000 ≤ c) : fgt .f64 (gapF x y) w = false := by
  have hl : mg (a - b) ≤ 1 := by grind
  obtain ⟨t, h1, h2⟩ := gap_near hx hy (Rat.le_trans hl (by rw [← pw_zero]; exact pw_mono (by decide)))
  rw [fgt_v h1 hw]
  refine decide_eq_false ?_
  have h3 := mg_le' h2
  have h4 := tiny_le (k := .f64)
  rw [uK_f64] at h3
  grind
theorem isFin_v {x : Nat} {a : Rat} (h : V FloatKind.f32.format x a) : isFin x = true := by
  unfold isFin
  have h1 := sub_exact (k := .f32) h h (n := 0) (g := 0) (by rw [show ((0 : Int) : Rat) = 0 from rfl]; grind) (by decide) (by decide) (by decide)
  rw [feq_v h1 (V_null .f32)]
  exact decide_eq_true (by grind)
theorem mil_v : ∃ r, V FloatKind.f64.format 4562254508917369340 r ∧ 1 / 1001 ≤ r ∧ r ≤ 1 := by
  refine ⟨_, V.lit (k := .f64) (s := false) (m := 4611686018427388) (e := -62) (by decide +kernel) rfl, ?_, ?_⟩
  · decide +kernel
  · decide +kernel
theorem one_v : V FloatKind.f64.format oneD 1 := V.lit (k := .f64) (s := false) (m := 4503599627370496) (e := -52) (by decide +kernel) (by decide +kernel)
end Go.Proofs.Ytfdmmbcjidkmoaa
