/- The law on marks, without the program: its lists are quarters; sums, noise, what is cleaned and stitched. -/
import Derived.Test.YtfdmmbcjidkmoaaPj
import Derived.Test.YtfdmmbcjidkmoaaWe
set_option linter.unusedSimpArgs false
set_option linter.unusedVariables false
namespace Go.Proofs.Ytfdmmbcjidkmoaa
open Go.Aw
/-- A list of quarters from one quarter to four. -/
structure QuartP (x : Nat → Nat) (a : Nat → Int) : Prop where
  v : ∀ i, V FloatKind.f32.format (x i) ((a i : Rat) * pw (-2))
  lo : ∀ i, 1 ≤ a i
  hi : ∀ i, a i ≤ 16
theorem pw_m1 : pw (-1) = 1 / 2 := by decide +kernel
theorem pw_m3 : pw (-3) = 1 / 8 := by decide +kernel
theorem int_le {a b : Int} (h : a ≤ b) : (a : Rat) ≤ (b : Rat) := Rat.intCast_le_intCast.2 h
theorem int_lt {a b : Int} (h : a < b) : (a : Rat) < (b : Rat) := Rat.intCast_lt_intCast.2 h
theorem above_q {n : Nat} {b : Nat → Int} (hb : ∀ k, k < n → 0 ≤ b k ∧ b k < 256) : QuartP (aboveX n b) fun i => 1 + pick16 n b i where
  v i := by
    have := pick16_in hb i
    exact quarP_div (by omega)
  lo i := by have := pick16_in hb i; omega
  hi i := by have := pick16_in hb i; omega
def sumA (a : Nat → Int) : Nat → Int
  | 0 => 0
  | i + 1 => sumA a i + a i
theorem int0 : ((0 : Int) : Rat) = 0 := rfl
theorem int1 : ((1 : Int) : Rat) = 1 := rfl
theorem lt24 {n : Int} (h : n.natAbs < 16777216) : n.natAbs < 2 ^ (FloatKind.f32.format.fractionBits + 1) := h
section
variable {x : Nat → Nat} {a : Nat → Int} {N : Nat}
theorem sumA_in {a : Nat → Int} (lo : ∀ i, 1 ≤ a i) (hi : ∀ i, a i ≤ 16) : ∀ i : Nat, (i : Int) ≤ sumA a i ∧ sumA a i ≤ 16 * (i : Int)
  | 0 => by simp [sumA]
  | i + 1 => by
    obtain ⟨h1, h2⟩ := sumA_in lo hi i
    have := lo i
    have := hi i
    unfold sumA
    omega
/-- Sums of numbers on a grid are exact. -/
theorem sum_grid {x : Nat → Nat} {a : Nat → Int} {g : Int} (h1 : leastK .f32 ≤ g) (h2 : g ≤ limK .f32 - fracK .f32 - 1) (hv : ∀ i, V FloatKind.f32.format (x i) ((a i : Rat) * pw g)) : ∀ n : Nat, (∀ i, i ≤ n → (sumA a i).natAbs < 16777216) → V FloatKind.f32.format (sumN x n) ((sumA a n : Rat) * pw g)
  | 0, _ => (V_null .f32).to (by show (0 : Rat) = ((0 : Int) : Rat) * _; rw [int0]; grind)
  | n + 1, hb => by
    have ih := sum_grid h1 h2 hv n fun i hi => hb i (by omega)
    have e : (sumA a n : Rat) * pw g + (a n : Rat) * pw g = (sumA a (n + 1) : Rat) * pw g := by
      show _ = ((sumA a n + a n : Int) : Rat) * _
      rw [Rat.intCast_add]
      grind
    exact (add_exact (k := .f32) ih (hv n) e (lt24 (hb (n + 1) (Nat.le_refl _))) h1 h2).to e
theorem sum_q (hq : QuartP x a) {n : Nat} (hn : n ≤ 64) : V FloatKind.f32.format (sumN x n) ((sumA a n : Rat) * pw (-2)) :=
  sum_grid (by decide) (by decide) hq.v n fun i hi => by
    have := sumA_in hq.lo hq.hi i
    omega
theorem fin_q (hq : QuartP x a) {n : Nat} : finN n x = true := allN_true fun j _ => isFin_v (hq.v j)
theorem bins_q (hq : QuartP x a) {l : Int} (hl : l ≤ (N : Int)) (h64 : N ≤ 64) : binsN l N x = true := by
  unfold binsN
  rw [decide_eq_true hl, decide_eq_true h64, fin_q hq]
  rfl
theorem pos_q (hq : QuartP x a) (i : Nat) : (1 : Rat) / 4 ≤ (a i : Rat) * pw (-2) ∧ (a i : Rat) * pw (-2) ≤ 4 := by
  have h1 := int_le (hq.lo i)
  have h2 := int_le (hq.hi i)
  rw [pw_m2]
  rw [int1] at h1
  rw [show ((16 : Int) : Rat) = 16 from rfl] at h2
  constructor <;> grind
theorem rot_of {n : Nat} {y : Nat → Nat} (h : ∀ i, i < n → ∃ r, V FloatKind.f32.format (y i) r ∧ 0 ≤ r) : rotN n y = true := allN_true fun j hj => by
  obtain ⟨r, h1, h2⟩ := h j hj
  unfold notRotor
  rw [isFin_v h1, flt_v h1 (V_null .f32), decide_eq_false (show ¬ r < 0 by grind)]
  rfl
theorem posN_of {n : Nat} {y : Nat → Nat} (h : ∀ i, i < n → ∃ r, V FloatKind.f32.format (y i) r ∧ 0 < r) : posN n y = true := allN_true fun j hj => by
  obtain ⟨r, h1, h2⟩ := h j hj
  unfold posF
  rw [isFin_v h1, fgt_v h1 (V_null .f32), decide_eq_true h2]
  rfl
theorem half_q (hq : QuartP x a) (i : Nat) : V FloatKind.f32.format (halfX x i) (((a (i - 1) + a (i + 1) : Int) : Rat) * pw (-3)) ∧ V FloatKind.f32.format (fdiv .f32 (fadd .f32 (x (i - 1)) (x (i + 1))) 1073741824) (((a (i - 1) + a (i + 1) : Int) : Rat) * pw (-3)) := by
  have l1 := hq.lo (i - 1)
  have l2 := hq.lo (i + 1)
  have g1 := hq.hi (i - 1)
  have g2 := hq.hi (i + 1)
  have e : (a (i - 1) : Rat) * pw (-2) + (a (i + 1) : Rat) * pw (-2) = ((a (i - 1) + a (i + 1) : Int) : Rat) * pw (-2) := by rw [Rat.intCast_add]; grind
  have hs := (add_exact (k := .f32) (hq.v (i - 1)) (hq.v (i + 1)) e (lt24 (by omega)) (by decide) (by decide)).to e
  constructor
  · have e2 : 1 / 2 * (((a (i - 1) + a (i + 1) : Int) : Rat) * pw (-2)) = ((a (i - 1) + a (i + 1) : Int) : Rat) * pw (-3) := by rw [pw_m2, pw_m3]; grind
    exact (mul_exact (k := .f32) half_v hs e2 (lt24 (by omega)) (by decide) (by decide)).to e2
  · refine div_exact (k := .f32) hs two32_v (by decide) ?_ rfl (lt24 (by omega)) (by decide) (by decide)
    rw [pw_m2, pw_m3]; grind
theorem clean_fin (hq : QuartP x a) {bar : Nat} : finN N (cleanX x bar N) = true := allN_true fun j _ => by
  unfold cleanX
  cases (decide (1 ≤ j) && (decide (j + 1 < N) && isMk x bar j))
  · exact isFin_v (hq.v j)
  · exact isFin_v (half_q hq j).1
theorem half_gap (hq : QuartP x a) (i : Nat) : fgt .f64 (gap8 (halfX x i) (fdiv .f32 (fadd .f32 (x (i - 1)) (x (i + 1))) 1073741824)) milP = false := by
  obtain ⟨h1, h2⟩ := half_q hq i
  obtain ⟨m, m1, m2, m3⟩ := mil_v
  refine gap8_le h1 h2 m1 (by grind) ?_
  rw [show ∀ z : Rat, z - z = 0 by intro z; grind, mg_zero]
  grind
/-! Noise. -/
theorem noise_all (hq : QuartP x a) (h3 : 3 ≤ N) (h14 : N ≤ 14) : fgt .f32 (sumN x N) 0 = true ∧ isFin (noiseX N x) = true ∧ fgt .f64 (gap8 (fmul .f32 (noiseX N x) (noiseX N x)) (sumN x N)) (fmul .f64 milP (wd (sumN x N))) = false := by
  have hS := sum_q hq (n := N) (by omega)
  obtain ⟨b1, b2⟩ := sumA_in hq.lo hq.hi N
  have s1 : (3 : Rat) ≤ (sumA a N : Rat) := int_le (show (3 : Int) ≤ sumA a N by omega)
  have s2 : (sumA a N : Rat) ≤ 224 := int_le (show sumA a N ≤ 224 by omega)
  have hT0 : 3 / 4 ≤ (sumA a N : Rat) * pw (-2) := by rw [pw_m2]; grind
  have hT1 : (sumA a N : Rat) * pw (-2) ≤ 56 := by rw [pw_m2]; grind
  generalize hT : (sumA a N : Rat) * pw (-2) = T at *
  obtain ⟨r, r1, r2, r3⟩ := rootP_v hS (by grind) (by grind)
  have r4 := mg_le' r3
  have rne : r ≠ 0 := Rat.ne_of_gt r2
  obtain ⟨R, hR⟩ : ∃ R : Rat, r * R = 1 := ⟨r⁻¹, Rat.mul_inv_cancel _ rne⟩
  have hRR := sq_nonneg R
  -- c = T R, c c = T W with W = T R R near one
  have hW1 : mg (T * (R * R) - 1) ≤ T * (R * R) / 1048576 := by
    have e : T * (R * R) - 1 = (T - r * r) * (R * R) := by
      have : r * r * (R * R) = (r * R) * (r * R) := by grind
      rw [hR] at this
      grind
    rw [e, mg_mul, mg_of_nonneg hRR, ← mg_neg, show -(T - r * r) = r * r - T by grind]
    have := Rat.mul_le_mul_of_nonneg_right r3 hRR
    grind
  have hW2 := mg_le' hW1
  have hWle : T * (R * R) ≤ 2 := by grind
  have hcc : T * R * (T * R) = T * (T * (R * R)) := by grind
  have hTW : T * (T * (R * R) - 1) ≤ T * (1 / 500000) := Rat.mul_le_mul_of_nonneg_left (by grind) (by grind)
  have hTW2 : T * (1 - T * (R * R)) ≤ T * (1 / 500000) := Rat.mul_le_mul_of_nonneg_left (by grind) (by grind)
  have hc : mg (T * R) ≤ 11 := by
    refine sq_le_of ?_ (by decide)
    rw [hcc]
    have := Rat.mul_le_mul_of_nonneg_left hWle (show 0 ≤ T by grind)
    grind
  obtain ⟨y, y1, y2⟩ := div_near (k := .f32) hS r1 rne (c := T * R) (by grind) (Rat.le_trans hc (Rat.le_trans (by decide) (big_lim (k := .f32))))
  have ht := tiny_le (k := .f32)
  have ht8 := tiny_le (k := .f64)
  rw [uK_f32] at y2
  have y3 : mg (y - T * R) ≤ 1 / 500000 := by grind
  have y4 : mg y ≤ 12 := by
    have := mg_add (y - T * R) (T * R)
    rw [show y - T * R + T * R = y by grind] at this
    grind
  have hyy := mul_gap y3 y3 y4 hc
  have hyy2 : mg (y * y) ≤ 144 := by
    rw [mg_mul]
    have := Rat.mul_le_mul_of_nonneg_right y4 (mg_nonneg y)
    grind
  obtain ⟨p, p1, p2⟩ := mul_near (k := .f32) y1 y1 (Rat.le_trans hyy2 (Rat.le_trans (by decide) (big_lim' (k := .f32))))
  rw [uK_f32] at p2
  refine ⟨?_, isFin_v y1, ?_⟩
  · rw [fgt_v hS (V_null .f32)]
    exact decide_eq_true (by grind)
  obtain ⟨m, m1, m2, m3⟩ := mil_v
  have hmT0 : 0 ≤ m * T := Rat.mul_nonneg (by grind) (by grind)
  have hmT : m * T ≤ 1 * T := Rat.mul_le_mul_of_nonneg_right m3 (by grind)
  have hmT2 : 1 / 1001 * T ≤ m * T := Rat.mul_le_mul_of_nonneg_right m2 (by grind)
  obtain ⟨q, q1, q2⟩ := mul_near (k := .f64) m1 (widen_v hS) (by rw [mg_of_nonneg hmT0]; exact Rat.le_trans (show m * T ≤ 1267650600228229401496703205376 by grind) big_lim')
  rw [mg_of_nonneg hmT0, uK_f64] at q2
  have q3 := mg_le' q2
  refine gap8_le p1 hS q1 (by grind) ?_
  have e1 := mg_le' hyy
  have e2 := mg_le' p2
  rw [hcc] at e1
  have hpT : mg (p - T) ≤ 1 / 4000 := mg_le (by grind) (by grind)
  grind
end
end Go.Proofs.Ytfdmmbcjidkmoaa
