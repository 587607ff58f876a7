/- Floating point as rational numbers: products near the limit, gaps of the laws, roots narrowed. -/
import Derived.Test.YtfdmmbcjidkmoaaWd
import Derived.Test.YtfdmmbcjidkmoaaPa
set_option linter.unusedSimpArgs false
set_option linter.unusedVariables false
namespace Go.Aw
open Ieee
theorem last_ok' {k : FloatKind} {m : Nat} {e : Int} (hm : m ≠ 0) (h : (m : Rat) * pw e < pw (limK k + 1)) : ((lastOf k.format m e - k.format.leastPlace).toNat + 2) * k.format.binade < k.format.infRung := by
  have h1 : pw (m.log2 + e) < pw (limK k + 1) := by
    rw [pw_add]
    have := Rat.mul_le_mul_of_nonneg_right (pw_log hm) (Rat.le_of_lt (pw_pos e))
    grind
  have h2 : (m.log2 : Int) + e ≤ limK k := by
    rcases Int.lt_or_le (limK k) ((m.log2 : Int) + e) with h | h
    · exact absurd (pw_mono (show limK k + 1 ≤ (m.log2 : Int) + e by omega)) (Rat.not_le.2 h1)
    · exact h
  unfold lastOf
  rw [frac_eq, least_eq]
  cases k
  · have e1 : FloatKind.f32.format.binade = 8388608 := f32_bin
    rw [f32_inf, e1]
    unfold limK at h2
    unfold leastK fracK
    simp only at h2 ⊢
    omega
  · rw [f64_inf, f64_bin]
    unfold limK at h2
    unfold leastK fracK
    simp only at h2 ⊢
    omega
theorem near_of' {k : FloatKind} {s : Bool} {m : Nat} {e : Int} {v : Rat} (h : sg s ((m : Rat) * pw e) = v) (hl : mg v < pw (limK k + 1)) : ∃ t, V k.format (k.format.write (.number s m e)) t ∧ mg (t - v) ≤ uK k * mg v + tK k := by
  have hmg := form_mg h
  have hu : 0 ≤ uK k := Rat.le_of_lt (pw_pos _)
  have ht : 0 ≤ tK k := Rat.le_of_lt (pw_pos _)
  by_cases hm : m = 0
  · subst hm
    refine ⟨0, V_zero k s e, ?_⟩
    have e0 : mg v = 0 := by rw [← hmg, show ((0 : Nat) : Rat) = 0 from rfl]; grind
    have e1 : v = 0 := by rw [← h, show ((0 : Nat) : Rat) = 0 from rfl, show (0 : Rat) * pw e = 0 by grind, sg_zero]
    rw [e1, show (0 : Rat) - 0 = 0 by grind, mg_zero]
    grind
  obtain ⟨n, hV, h1, h2⟩ := nearest_near (fineK k) s hm (last_ok' hm (by rw [hmg]; exact hl))
  refine ⟨_, hV, ?_⟩
  rw [← h, sg_sub, mg_sg, mg_sg, mg_of_nonneg (Rat.mul_nonneg (nat_nonneg m) (Rat.le_of_lt (pw_pos e)))]
  have hp : pw (lastOf k.format m e) / 2 ≤ uK k * ((m : Rat) * pw e) + tK k := by
    rw [pw_half]
    have hcase : lastOf k.format m e = e + m.log2 - fracK k ∨ lastOf k.format m e = leastK k := by unfold lastOf; rw [frac_eq, least_eq]; omega
    have hpos : 0 ≤ (m : Rat) * pw e := Rat.mul_nonneg (nat_nonneg _) (Rat.le_of_lt (pw_pos _))
    rcases hcase with hc | hc
    · have e1 : pw (lastOf k.format m e - 1) = uK k * (pw (m.log2 : Int) * pw e) := by
        unfold uK
        rw [← pw_add, ← pw_add, hc]
        congr 1
        omega
      have := Rat.mul_le_mul_of_nonneg_left (Rat.mul_le_mul_of_nonneg_right (pw_log hm) (Rat.le_of_lt (pw_pos e))) hu
      rw [e1]
      grind
    · have e1 : pw (lastOf k.format m e - 1) = tK k := by rw [hc]; rfl
      have := Rat.mul_nonneg hu hpos
      rw [e1]
      grind
  refine mg_le ?_ ?_ <;> grind
theorem mul_near' {k : FloatKind} {x y : Nat} {a b : Rat} (hx : V k.format x a) (hy : V k.format y b) (hl : mg (a * b) < pw (limK k + 1)) : ∃ t, V k.format (fmul k x y) t ∧ mg (t - a * b) ≤ uK k * mg (a * b) + tK k := by
  obtain ⟨w, m, e, h1, h2⟩ := prod_form hx hy
  rw [h1]
  exact near_of' h2 hl
end Go.Aw
namespace Go.Proofs.Ytfdmmbcjidkmoaa
open Go.Aw
theorem gap8_up {x y : Nat} {a b : Rat} (hx : V FloatKind.f32.format x a) (hy : V FloatKind.f32.format y b) (hl : mg (a - b) ≤ pw 1000) : ∃ t, V FloatKind.f64.format (gap8 x y) t ∧ t ≤ mg (a - b) + (uK .f64 * mg (a - b) + tK .f64) := by
  have hL : pw 1000 ≤ pw (limK .f64) := pw_mono (by decide)
  have e : mg (b - a) = mg (a - b) := by rw [← mg_neg, show -(b - a) = a - b by grind]
  obtain ⟨t, h1, h2⟩ := sub_near (widen_v hx) (widen_v hy) (Rat.le_trans hl hL)
  obtain ⟨s, g1, g2⟩ := sub_near (widen_v hy) (widen_v hx) (by rw [e]; exact Rat.le_trans hl hL)
  rw [e] at g2
  have m1 := mg_le' h2
  have m2 := mg_le' g2
  have l1 := le_mg (a - b)
  have l2 := le_mg (b - a)
  rw [e] at l2
  refine ⟨_, fmax_v h1 g1, ?_⟩
  split <;> grind
/-- A gap well within a bound is not above it. -/
theorem gap8_le {x y w : Nat} {a b c : Rat} (hx : V FloatKind.f32.format x a) (hy : V FloatKind.f32.format y b) (hw : V FloatKind.f64.format w c) (hc : c ≤ 100000) (h : mg (a - b) * (1 + 1 / 1000000000) + 1 / 1000000000 ≤ c) : fgt .f64 (gap8 x y) w = false := by
  have h0 := mg_nonneg (a - b)
  have hl : mg (a - b) ≤ 100000 := by grind
  obtain ⟨t, h1, h2⟩ := gap8_up hx hy (Rat.le_trans hl (Rat.le_trans (show (100000 : Rat) ≤ pw 100 by decide +kernel) (pw_mono (by decide))))
  rw [fgt_v h1 hw]
  refine decide_eq_false ?_
  have h4 := tiny_le (k := .f64)
  rw [uK_f64] at h2
  grind
theorem half_v : V FloatKind.f32.format 1056964608 (1 / 2) := V.lit (k := .f32) (s := false) (m := 8388608) (e := -24) (by decide +kernel) (by decide +kernel)
theorem one32_v : V FloatKind.f32.format 1065353216 1 := V.lit (k := .f32) (s := false) (m := 8388608) (e := -23) (by decide +kernel) (by decide +kernel)
theorem two32_v : V FloatKind.f32.format 1073741824 2 := V.lit (k := .f32) (s := false) (m := 8388608) (e := -22) (by decide +kernel) (by decide +kernel)
theorem three32_v : V FloatKind.f32.format 1077936128 3 := V.lit (k := .f32) (s := false) (m := 12582912) (e := -22) (by decide +kernel) (by decide +kernel)
theorem four32_v : V FloatKind.f32.format 1082130432 4 := V.lit (k := .f32) (s := false) (m := 8388608) (e := -21) (by decide +kernel) (by decide +kernel)
theorem quarP_div {a : Int} (h : a.natAbs < 16777216) : V FloatKind.f32.format (fdiv .f32 (itof .f32 a) 1082130432) ((a : Rat) * pw (-2)) := by
  refine div_exact (k := .f32) (itof_v h) four32_v (by decide) ?_ rfl h (by decide) (by decide)
  rw [pw_m2]; grind
theorem halfP_div {a : Int} (h : a.natAbs < 16777216) : V FloatKind.f32.format (fdiv .f32 (itof .f32 a) 1073741824) ((a : Rat) * pw (-1)) := by
  refine div_exact (k := .f32) (itof_v h) two32_v (by decide) ?_ rfl h (by decide) (by decide)
  rw [show pw (-1) = 1 / 2 by decide +kernel]; grind
/-- The root of a number that is neither small nor great, narrowed. -/
theorem rootP_v {z : Nat} {A : Rat} (hz : V FloatKind.f32.format z A) (h0 : 1 / 16 ≤ A) (h1 : A ≤ 100000) : ∃ r, V FloatKind.f32.format (rootF z) r ∧ 0 < r ∧ mg (r * r - A) ≤ A / 1048576 := by
  obtain ⟨t, t1, t2, t3⟩ := sqrt_near (widen_v hz) (Rat.le_trans (pw_mono (show (-600 : Int) ≤ -4 by decide)) (by rw [pw_m4]; exact h0)) (Rat.le_trans h1 (Rat.le_trans (show (100000 : Rat) ≤ pw 20 by decide +kernel) (pw_mono (by decide))))
  rw [uK_f64] at t3
  have t4 := mg_le' t3
  have ht : mg t ≤ 400 := sq_le_of (by grind) (by decide)
  have ht1 : 1 / 8 ≤ t := by
    rcases Rat.le_total (a := 1 / 8) (b := t) with h | h
    · exact h
    · exfalso
      have g1 := Rat.mul_le_mul_of_nonneg_right h (Rat.le_of_lt t2)
      have g2 := Rat.mul_le_mul_of_nonneg_left h (show (0 : Rat) ≤ 1 / 8 by decide +kernel)
      have : t = 1 / 8 ∨ t < 1 / 8 := by grind
      rcases this with e | e
      · grind
      · have g3 := Rat.mul_lt_mul_of_pos_right e t2
        grind
  obtain ⟨_, r, r1, r2⟩ := narrow_near t1 (Rat.le_trans ht (Rat.le_trans (show (400 : Rat) ≤ pw 10 by decide +kernel) (pw_mono (by decide))))
  rw [mg_of_nonneg (Rat.le_of_lt t2), uK_f32] at r2
  have h4 := tiny_le (k := .f32)
  have hr : mg (r - t) ≤ 2 / 16777216 * t := by grind
  have hrb := mg_le' hr
  refine ⟨r, r1, by grind, ?_⟩
  obtain ⟨d, rfl⟩ : ∃ d, r = t + d := ⟨r - t, by grind⟩
  rw [show t + d - t = d by grind] at hr
  have g1 : mg (t * d) ≤ 2 / 16777216 * (t * t) := by
    rw [mg_mul, mg_of_nonneg (Rat.le_of_lt t2)]
    have := Rat.mul_le_mul_of_nonneg_left hr (Rat.le_of_lt t2)
    grind
  have g2 : mg (d * d) ≤ 1 / 16777216 * (t * t) := by
    rw [mg_mul]
    have a1 := Rat.mul_le_mul_of_nonneg_right hr (mg_nonneg d)
    have a2 := Rat.mul_le_mul_of_nonneg_left hr (show 0 ≤ 2 / 16777216 * t by grind)
    have a3 := sq_nonneg t
    grind
  have g3 := mg_le' g1
  have g4 := mg_le' g2
  refine mg_le ?_ ?_ <;> grind
end Go.Proofs.Ytfdmmbcjidkmoaa
