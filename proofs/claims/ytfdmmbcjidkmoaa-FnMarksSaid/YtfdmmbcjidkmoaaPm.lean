/- The law on marks, without the program: what is spread and sharpened. -/
import Derived.Test.YtfdmmbcjidkmoaaPl
set_option linter.unusedSimpArgs false
set_option linter.unusedVariables false
namespace Go.Proofs.Ytfdmmbcjidkmoaa
open Go.Aw
abbrev uS : Rat := 1 / 16777216
abbrev tS : Rat := 1 / 1267650600228229401496703205376
/-- Numbers within bounds. -/
def Bd (N : Nat) (y : Nat → Nat) (L H : Rat) : Prop := ∀ i, i < N → ∃ r, V FloatKind.f32.format (y i) r ∧ L ≤ r ∧ r ≤ H
/-- One step of a weighted sum. -/
theorem acc_step {z p y : Nat} {s r P P' L H α α' β β' ε : Rat} {W : Int} (hz : V FloatKind.f32.format z s) (hp : V FloatKind.f32.format p (W : Rat)) (hy : V FloatKind.f32.format y r) (hW : 0 ≤ W) (hW3 : W ≤ 3) (h1 : P * α - ε ≤ s) (h2 : s ≤ P' * β + ε) (hL : L ≤ r) (hH : r ≤ H) (hL0 : 0 ≤ L) (hP : 0 ≤ P) (hP' : 0 ≤ P')
    (hα : α' ≤ α * (1 - uS)) (hα2 : α' ≤ (1 - uS) * (1 - uS)) (hβ : β * (1 + uS) ≤ β') (hβ2 : (1 + uS) * (1 + uS) ≤ β') (hβ0 : 0 ≤ β) (hα0 : 0 ≤ α) (he : 0 ≤ ε) (he1 : ε ≤ 1) (hbig : P' * β + 3 * H * (1 + uS) + 4 ≤ 1267650600228229401496703205376) :
    ∃ s', V FloatKind.f32.format (fadd .f32 z (fmul .f32 p y)) s' ∧ (P + (W : Rat) * L) * α' - (2 * ε + 3 * tS) ≤ s' ∧ s' ≤ (P' + (W : Rat) * H) * β' + (2 * ε + 3 * tS) := by
  have w0 : (0 : Rat) ≤ (W : Rat) := int_le hW
  have w3 : (W : Rat) ≤ 3 := int_le hW3
  have r0 : 0 ≤ r := Rat.le_trans hL0 hL
  have H0 : 0 ≤ H := Rat.le_trans r0 hH
  have g0 : 0 ≤ (W : Rat) * r := Rat.mul_nonneg w0 r0
  have g1 : (W : Rat) * L ≤ (W : Rat) * r := Rat.mul_le_mul_of_nonneg_left hL w0
  have g2 : (W : Rat) * r ≤ (W : Rat) * H := Rat.mul_le_mul_of_nonneg_left hH w0
  have g3 : (W : Rat) * H ≤ 3 * H := Rat.mul_le_mul_of_nonneg_right w3 H0
  have g4 : 0 ≤ (W : Rat) * L := Rat.mul_nonneg w0 hL0
  have pb : 0 ≤ P' * β := Rat.mul_nonneg hP' hβ0
  obtain ⟨q, q1, q2⟩ := mul_near (k := .f32) hp hy (by rw [mg_of_nonneg g0]; exact Rat.le_trans (show (W : Rat) * r ≤ 1267650600228229401496703205376 by grind) (big_lim' (k := .f32)))
  have ht := tiny_le (k := .f32)
  rw [mg_of_nonneg g0, uK_f32] at q2
  have q3 := mg_le' q2
  have m1 : mg (s + q) ≤ 1267650600228229401496703205376 := mg_le (by grind) (by
    have : 0 ≤ P * α := Rat.mul_nonneg hP hα0
    grind)
  obtain ⟨s', t1, t2⟩ := add_near (k := .f32) hz q1 (Rat.le_trans m1 (big_lim' (k := .f32)))
  rw [uK_f32] at t2
  have t3 := mg_le' t2
  have pa : 0 ≤ P * α := Rat.mul_nonneg hP hα0
  -- the sum is hardly below nothing
  have m2 : mg (s + q) ≤ s + q + 2 * (ε + tS) := mg_le (by grind) (by grind)
  refine ⟨s', t1, ?_, ?_⟩
  · have a1 : P * α' ≤ P * (α * (1 - uS)) := Rat.mul_le_mul_of_nonneg_left hα hP
    have a2 : (W : Rat) * L * α' ≤ (W : Rat) * L * ((1 - uS) * (1 - uS)) := Rat.mul_le_mul_of_nonneg_left hα2 g4
    have a3 : (s + q) - uS * (s + q + 2 * (ε + tS)) - tS ≤ s' := by grind
    have a4 : P * α - ε + (W : Rat) * L * (1 - uS) - tS ≤ s + q := by grind
    have a5 := Rat.mul_le_mul_of_nonneg_right a4 (show 0 ≤ 1 - uS by decide +kernel)
    grind
  · have a1 : P' * (β * (1 + uS)) ≤ P' * β' := Rat.mul_le_mul_of_nonneg_left hβ hP'
    have a2 : (W : Rat) * H * ((1 + uS) * (1 + uS)) ≤ (W : Rat) * H * β' := Rat.mul_le_mul_of_nonneg_left hβ2 (Rat.mul_nonneg w0 H0)
    have a3 : s' ≤ (s + q) + uS * (s + q + 2 * (ε + tS)) + tS := by grind
    have a4 : s + q ≤ P' * β + ε + (W : Rat) * H * (1 + uS) + tS := by grind
    have a5 := Rat.mul_le_mul_of_nonneg_right a4 (show 0 ≤ 1 + uS by decide +kernel)
    grind
section
variable {N : Nat} {y : Nat → Nat} {L H : Rat} {w0 w2 : Int}
theorem kern_v (h0 : 0 ≤ w0) (h3 : w0 ≤ 3) (g0 : 0 ≤ w2) (g3 : w2 ≤ 3) : V FloatKind.f32.format (kern3 w0 w2 0) (w0 : Rat) ∧ V FloatKind.f32.format (kern3 w0 w2 1) ((1 : Int) : Rat) ∧ V FloatKind.f32.format (kern3 w0 w2 2) (w2 : Rat) := by
  refine ⟨?_, ?_, ?_⟩
  · have e : kern3 w0 w2 0 = itof .f32 w0 := by unfold kern3; rw [if_pos rfl]
    rw [e]
    exact itof_v (by omega)
  · have e : kern3 w0 w2 1 = 1065353216 := by unfold kern3; rw [if_neg (by decide), if_pos rfl]
    rw [e]
    exact one32_v.to int1.symm
  · have e : kern3 w0 w2 2 = itof .f32 w2 := by unfold kern3; rw [if_neg (by decide), if_neg (by decide)]
    rw [e]
    exact itof_v (by omega)
theorem kern_sum (h0 : 0 ≤ w0) (h3 : w0 ≤ 3) (g0 : 0 ≤ w2) (g3 : w2 ≤ 3) : V FloatKind.f32.format (sumN (kern3 w0 w2) 3) ((w0 + 1 + w2 : Int) : Rat) := by
  obtain ⟨v0, v1, v2⟩ := kern_v h0 h3 g0 g3
  have e0 : (0 : Rat) + (w0 : Rat) = ((w0 : Int) : Rat) * pw 0 := by rw [pw_zero]; grind
  have a0 := (add_exact (k := .f32) (V_null .f32) v0 e0 (lt24 (by omega)) (by decide) (by decide)).to (show _ = (w0 : Rat) by grind)
  have e1 : (w0 : Rat) + ((1 : Int) : Rat) = ((w0 + 1 : Int) : Rat) * pw 0 := by rw [pw_zero, Rat.intCast_add]; grind
  have a1 := (add_exact (k := .f32) a0 v1 e1 (lt24 (by omega)) (by decide) (by decide)).to (show _ = ((w0 + 1 : Int) : Rat) by rw [Rat.intCast_add])
  have e2 : ((w0 + 1 : Int) : Rat) + (w2 : Rat) = ((w0 + 1 + w2 : Int) : Rat) * pw 0 := by rw [pw_zero, Rat.intCast_add (w0 + 1)]; grind
  exact (add_exact (k := .f32) a1 v2 e2 (lt24 (by omega)) (by decide) (by decide)).to (show _ = ((w0 + 1 + w2 : Int) : Rat) by rw [Rat.intCast_add (w0 + 1)])
theorem kern_ok (h0 : 0 ≤ w0) (h3 : w0 ≤ 3) (g0 : 0 ≤ w2) (g3 : w2 ≤ 3) : kernN 3 (kern3 w0 w2) = true := by
  obtain ⟨v0, v1, v2⟩ := kern_v h0 h3 g0 g3
  unfold kernN
  rw [rot_of (n := 3) fun i hi => ?_, fgt_v (kern_sum h0 h3 g0 g3) (V_null .f32), decide_eq_true (show (0 : Rat) < ((w0 + 1 + w2 : Int) : Rat) from int_lt (show (0 : Int) < w0 + 1 + w2 by omega))]
  · rfl
  · match i, hi with
    | 0, _ => exact ⟨_, v0, int_le h0⟩
    | 1, _ => exact ⟨_, v1, by rw [int1]; decide⟩
    | 2, _ => exact ⟨_, v2, int_le g0⟩
/-- What is spread keeps bounds, nearly. -/
theorem spr_bd (hN : 1 ≤ N) (hb : Bd N y L H) (hL : 1 / 1180591620717411303424 ≤ L) (hH : H ≤ 1180591620717411303424) (h0 : 0 ≤ w0) (h3 : w0 ≤ 3) (g0 : 0 ≤ w2) (g3 : w2 ≤ 3) : Bd N (sprX N y 3 (kern3 w0 w2)) (L * (1 - 1 / 1048576)) (H * (1 + 1 / 1048576)) := by
  intro i hi
  obtain ⟨v0, v1, v2⟩ := kern_v h0 h3 g0 g3
  have at_ : ∀ z : Int, ∃ r, V FloatKind.f32.format (y (clI N z).toNat) r ∧ L ≤ r ∧ r ≤ H := fun z => by
    have := clI_in hN z
    exact hb _ (by omega)
  have hL0 : 0 ≤ L := by grind
  have hH0 : 0 ≤ H := by
    obtain ⟨r, _, r1, r2⟩ := at_ 0
    grind
  have k0 : (0 : Rat) ≤ (w0 : Rat) := int_le h0
  have k3 : (w0 : Rat) ≤ 3 := int_le h3
  have j0 : (0 : Rat) ≤ (w2 : Rat) := int_le g0
  have j3 : (w2 : Rat) ≤ 3 := int_le g3
  have a0 : 0 ≤ (w0 : Rat) * L := Rat.mul_nonneg k0 hL0
  have a1 : 0 ≤ (w0 : Rat) * H := Rat.mul_nonneg k0 hH0
  have a2 : (w0 : Rat) * H ≤ 3 * H := Rat.mul_le_mul_of_nonneg_right k3 hH0
  have c0 : 0 ≤ (w2 : Rat) * L := Rat.mul_nonneg j0 hL0
  have c1 : 0 ≤ (w2 : Rat) * H := Rat.mul_nonneg j0 hH0
  have c2 : (w2 : Rat) * H ≤ 3 * H := Rat.mul_le_mul_of_nonneg_right j3 hH0
  obtain ⟨r0, x0, l0, u0⟩ := at_ ((i : Int) + ((0 : Nat) : Int) - ((3 / 2 : Nat) : Int))
  obtain ⟨r1, x1, l1, u1⟩ := at_ ((i : Int) + ((1 : Nat) : Int) - ((3 / 2 : Nat) : Int))
  obtain ⟨r2, x2, l2, u2⟩ := at_ ((i : Int) + ((2 : Nat) : Int) - ((3 / 2 : Nat) : Int))
  obtain ⟨s1, y1, b1, d1⟩ := acc_step (P := 0) (P' := 0) (α := 1) (α' := 1 - 2 * uS) (β := 1) (β' := 1 + 3 * uS) (ε := 0) (V_null .f32) v0 x0 h0 h3 (by grind) (by grind) l0 u0 hL0 (by decide) (by decide) (by decide +kernel) (by decide +kernel) (by decide +kernel) (by decide +kernel) (by decide) (by decide) (by decide) (by decide) (by grind)
  obtain ⟨s2, y2, b2, d2⟩ := acc_step (P := 0 + (w0 : Rat) * L) (P' := 0 + (w0 : Rat) * H) (α := 1 - 2 * uS) (α' := 1 - 4 * uS) (β := 1 + 3 * uS) (β' := 1 + 5 * uS) (ε := 3 * tS) y1 v1 x1 (by decide) (by decide) (by grind) (by grind) l1 u1 hL0 (by grind) (by grind) (by decide +kernel) (by decide +kernel) (by decide +kernel) (by decide +kernel) (by decide +kernel) (by decide +kernel) (by decide +kernel) (by decide +kernel) (by grind)
  rw [int1] at b2 d2
  obtain ⟨s3, y3, b3, d3⟩ := acc_step (P := 0 + (w0 : Rat) * L + 1 * L) (P' := 0 + (w0 : Rat) * H + 1 * H) (α := 1 - 4 * uS) (α' := 1 - 6 * uS) (β := 1 + 5 * uS) (β' := 1 + 7 * uS) (ε := 9 * tS) y2 v2 x2 g0 g3 (by grind) (by grind) l2 u2 hL0 (by grind) (by grind) (by decide +kernel) (by decide +kernel) (by decide +kernel) (by decide +kernel) (by decide +kernel) (by decide +kernel) (by decide +kernel) (by decide +kernel) (by grind)
  have hacc : V FloatKind.f32.format (accS N y (kern3 w0 w2) 3 i 3) s3 := y3
  have hsum := kern_sum h0 h3 g0 g3
  have S1 : (1 : Rat) ≤ ((w0 + 1 + w2 : Int) : Rat) := int_le (show (1 : Int) ≤ w0 + 1 + w2 by omega)
  have S7 : ((w0 + 1 + w2 : Int) : Rat) ≤ 7 := int_le (show w0 + 1 + w2 ≤ (7 : Int) by omega)
  have eS : ((w0 + 1 + w2 : Int) : Rat) = (w0 : Rat) + 1 + (w2 : Rat) := by rw [Rat.intCast_add, Rat.intCast_add, int1]
  have eL : 0 + (w0 : Rat) * L + 1 * L + (w2 : Rat) * L = ((w0 + 1 + w2 : Int) : Rat) * L := by rw [eS]; grind
  have eH : 0 + (w0 : Rat) * H + 1 * H + (w2 : Rat) * H = ((w0 + 1 + w2 : Int) : Rat) * H := by rw [eS]; grind
  rw [eL] at b3
  rw [eH] at d3
  generalize ((w0 + 1 + w2 : Int) : Rat) = S at *
  have Sne : S ≠ 0 := by grind
  obtain ⟨c, hc⟩ : ∃ c : Rat, c * S = s3 := ⟨s3 * S⁻¹, by rw [Rat.mul_assoc, Rat.inv_mul_cancel _ Sne, Rat.mul_one]⟩
  -- the quotient's bounds
  have cancel : ∀ {p q : Rat}, p * S ≤ q * S → p ≤ q := by
    intro p q h
    rcases Rat.le_total (a := p) (b := q) with h' | h'
    · exact h'
    · have h2 := Rat.mul_le_mul_of_nonneg_right h' (show 0 ≤ S by grind)
      have h3 : (p - q) * S = 0 := by grind
      have := Rat.mul_eq_zero.1 h3
      grind
  have clo : L * (1 - 7 * uS) ≤ c := cancel (by
    have e1 : L * (1 - 7 * uS) * S = S * L * (1 - 6 * uS) - uS * (S * L) := by grind
    have e2 : L ≤ S * L := by
      have := Rat.mul_le_mul_of_nonneg_right S1 hL0
      grind
    rw [hc, e1]
    grind)
  have chi : c ≤ H * (1 + 8 * uS) := cancel (by
    have e1 : H * (1 + 8 * uS) * S = S * H * (1 + 7 * uS) + uS * (S * H) := by grind
    have e2 : H ≤ S * H := by
      have := Rat.mul_le_mul_of_nonneg_right S1 hH0
      grind
    have e3 : L ≤ H := Rat.le_trans l0 u0
    rw [hc, e1]
    grind)
  have c0' : 0 ≤ c := by grind
  obtain ⟨q, q1, q2⟩ := div_near (k := .f32) hacc hsum Sne hc (by rw [mg_of_nonneg c0']; exact Rat.le_trans (show c ≤ 1267650600228229401496703205376 by grind) (big_lim (k := .f32)))
  have ht := tiny_le (k := .f32)
  rw [uK_f32, mg_of_nonneg c0'] at q2
  have q3 := mg_le' q2
  have e3 : L ≤ H := Rat.le_trans l0 u0
  exact ⟨q, q1, by grind, by grind⟩
end
end Go.Proofs.Ytfdmmbcjidkmoaa
