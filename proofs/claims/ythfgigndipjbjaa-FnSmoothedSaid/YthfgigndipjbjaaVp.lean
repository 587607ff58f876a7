/- Smooth lists: made normal, their sum of squares is near one. -/
import Derived.Test.YthfgigndipjbjaaVo
import Derived.Test.YthfgigndipjbjaaWd
set_option linter.unusedSimpArgs false
set_option linter.unusedVariables false
set_option maxRecDepth 100000
namespace Go.Proofs.Ythfgigndipjbjaa
open Go.Aw
theorem four_v : V FloatKind.f32.format 1082130432 4 := V.lit (k := .f32) (s := false) (m := 8388608) (e := -21) (by decide +kernel) (by decide +kernel)
theorem qw_v {a : Int} (h0 : -1000 ≤ a) (h1 : a ≤ 1000) : V FloatKind.f32.format (qw a) ((a : Rat) * pw (-2)) := by
  refine div_exact (k := .f32) (itof_v (by omega)) four_v (by decide) ?_ rfl ?_ (by decide) (by decide)
  · rw [pw_m2]; grind
  · exact Nat.lt_trans (show a.natAbs < 2000 by omega) (by decide)
def sqK (k : Nat → Int) : Nat → Int
  | 0 => 0
  | i + 1 => sqK k i + k i * k i
section
variable {k : Nat → Int} {x : Nat → Nat} {N : Nat}
theorem k_sq (hk : Quarters k) (i : Nat) : 0 ≤ k i * k i ∧ k i * k i ≤ 676 := by
  have h0 := hk.lo i
  have h1 := hk.hi i
  generalize k i = a at *
  constructor
  · rcases Int.le_total 0 a with h | h
    · exact Int.mul_nonneg h h
    · have := Int.mul_nonneg (show 0 ≤ -a by omega) (show 0 ≤ -a by omega)
      rwa [Int.neg_mul_neg] at this
  · rcases Int.le_total 0 a with h | h
    · have := Int.mul_le_mul h1 h1 h (by omega)
      omega
    · have := Int.mul_le_mul (show -a ≤ 2 by omega) (show -a ≤ 2 by omega) (by omega) (by omega)
      rw [Int.neg_mul_neg] at this
      omega
theorem sqK_in (hk : Quarters k) : ∀ i : Nat, 0 ≤ sqK k i ∧ sqK k i ≤ 676 * (i : Int)
  | 0 => by simp [sqK]
  | i + 1 => by
    obtain ⟨h1, h2⟩ := sqK_in hk i
    obtain ⟨h3, h4⟩ := k_sq hk i
    unfold sqK
    omega
theorem sqK_mono (hk : Quarters k) {i n : Nat} (h : i < n) : k i * k i ≤ sqK k n := by
  induction n with
  | zero => omega
  | succ n ih =>
    obtain ⟨h3, h4⟩ := k_sq hk n
    obtain ⟨h1, _⟩ := sqK_in hk n
    unfold sqK
    rcases Nat.lt_or_eq_of_le (Nat.le_of_lt_succ h) with h | rfl
    · have := ih h; omega
    · omega
theorem x_v (hk : Quarters k) (hx : ∀ i, x i = qw (k i)) (i : Nat) : V FloatKind.f32.format (x i) ((k i : Rat) * pw (-2)) := by
  rw [hx]
  have := hk.lo i
  have := hk.hi i
  exact qw_v (by omega) (by omega)
theorem dot_v (hk : Quarters k) (hx : ∀ i, x i = qw (k i)) : ∀ i : Nat, i ≤ 20 → V FloatKind.f32.format (dotN x x i) ((sqK k i : Rat) * pw (-4))
  | 0, _ => (V_null .f32).to (by show (0 : Rat) = ((0 : Int) : Rat) * _; rw [show ((0 : Int) : Rat) = 0 from rfl]; grind)
  | i + 1, hi => by
    have ih := dot_v hk hx i (by omega)
    have hp : (k i : Rat) * pw (-2) * ((k i : Rat) * pw (-2)) = ((k i * k i : Int) : Rat) * pw (-4) := by
      rw [Rat.intCast_mul, pw_m2, pw_m4]; grind
    obtain ⟨b1, b2⟩ := sqK_in hk (i + 1)
    obtain ⟨c1, c2⟩ := k_sq hk i
    have hm := mul_exact (k := .f32) (x_v hk hx i) (x_v hk hx i) hp (Nat.lt_trans (show (k i * k i).natAbs < 1000 by omega) (by decide)) (by decide) (by decide)
    have hs : (sqK k i : Rat) * pw (-4) + (k i : Rat) * pw (-2) * ((k i : Rat) * pw (-2)) = ((sqK k (i + 1) : Int) : Rat) * pw (-4) := by
      rw [hp]
      show _ = ((sqK k i + k i * k i : Int) : Rat) * _
      rw [Rat.intCast_add]
      grind
    exact (add_exact (k := .f32) ih hm hs (Nat.lt_trans (show (sqK k (i + 1)).natAbs < 14000 by omega) (by decide)) (by decide) (by decide)).to hs
theorem root_v {z : Nat} {A : Rat} (hz : V FloatKind.f32.format z A) (h0 : 1 ≤ A) (h1 : A ≤ 1000) : ∃ r, V FloatKind.f32.format (rootF z) r ∧ 0 < r ∧ mg (r * r - A) ≤ A / 1048576 := by
  obtain ⟨t, t1, t2, t3⟩ := sqrt_near (widen_v hz) (Rat.le_trans (pw_mono (show (-600 : Int) ≤ 0 by decide)) (by rw [pw_zero]; exact h0)) (Rat.le_trans h1 (Rat.le_trans (show (1000 : Rat) ≤ pw 10 by decide +kernel) (pw_mono (by decide))))
  rw [uK_f64] at t3
  have t4 := mg_le' t3
  have ht : mg t ≤ 40 := sq_le_of (by grind) (by decide)
  have ht1 : 1 / 2 ≤ t := by
    rcases Rat.le_total (a := 1 / 2) (b := t) with h | h
    · exact h
    · exfalso
      have g1 := Rat.mul_le_mul_of_nonneg_right h (Rat.le_of_lt t2)
      grind
  obtain ⟨_, r, r1, r2⟩ := narrow_near t1 (Rat.le_trans ht (Rat.le_trans (show (40 : Rat) ≤ pw 10 by decide +kernel) (pw_mono (by decide))))
  rw [mg_of_nonneg (Rat.le_of_lt t2), uK_f32] at r2
  have h4 := tiny_le (k := .f32)
  have hr : mg (r - t) ≤ 2 / 16777216 * t := by grind
  have hrb := mg_le' hr
  refine ⟨r, r1, by grind, ?_⟩
  -- r r - t t
  obtain ⟨d, rfl⟩ : ∃ d, r = t + d := ⟨r - t, by grind⟩
  rw [show t + d - t = d by grind] at hr
  have g1 : mg (t * d) ≤ 2 / 16777216 * (t * t) := by
    rw [mg_mul, mg_of_nonneg (Rat.le_of_lt t2)]
    have := Rat.mul_le_mul_of_nonneg_left hr (Rat.le_of_lt t2)
    grind
  have g2 : mg (d * d) ≤ 1 / 16777216 * (t * t) := by
    rw [mg_mul]
    have a1 := Rat.mul_le_mul_of_nonneg_right hr (mg_nonneg d)
    have a2 := Rat.mul_le_mul_of_nonneg_left hr (show 0 ≤ 2 / 16777216 * t by grind)
    have a3 := sq_nonneg t
    grind
  have g3 := mg_le' g1
  have g4 := mg_le' g2
  refine mg_le ?_ ?_ <;> grind
/-- The quotients by the root, and their squares' sum. -/
theorem norm_all (hk : Quarters k) (hx : ∀ i, x i = qw (k i)) (h5 : 5 ≤ N) (h20 : N ≤ 20) : okNormal N x = true ∧ fgt .f64 (gapF (sq64 (normX N x) N) oneD) milD = false := by
  obtain ⟨b1, b2⟩ := sqK_in hk N
  have hbig : 100 ≤ sqK k N := by
    have h1 := sqK_mono hk (show 0 < N by omega)
    have h2 := hk.first
    have h3 := Int.mul_le_mul h2 h2 (by omega) (by omega)
    omega
  have hS := dot_v hk hx N h20
  have s1 : (100 : Rat) ≤ (sqK k N : Rat) := Rat.intCast_le_intCast.2 hbig
  have s2 : (sqK k N : Rat) ≤ 13520 := Rat.intCast_le_intCast.2 (show sqK k N ≤ 13520 by omega)
  obtain ⟨r, r1, r2, r3⟩ := root_v hS (by rw [pw_m4]; grind) (by rw [pw_m4]; grind)
  generalize hA : (sqK k N : Rat) * pw (-4) = A at *
  have r4 := mg_le' r3
  have rne : r ≠ 0 := Rat.ne_of_gt r2
  obtain ⟨R, hR⟩ : ∃ R : Rat, r * R = 1 := ⟨r⁻¹, Rat.mul_inv_cancel _ rne⟩
  -- W = A R R
  have hA0 : 1 ≤ A := by rw [← hA, pw_m4]; grind
  have hRR := sq_nonneg R
  have hW1 : mg (A * (R * R) - 1) ≤ A * (R * R) / 1048576 := by
    have e : A * (R * R) - 1 = (A - r * r) * (R * R) := by
      have : r * r * (R * R) = 1 := by
        have : r * r * (R * R) = (r * R) * (r * R) := by grind
        rw [this, hR]; grind
      grind
    rw [e, mg_mul, mg_of_nonneg hRR, ← mg_neg, show -(A - r * r) = r * r - A by grind]
    have := Rat.mul_le_mul_of_nonneg_right r3 hRR
    grind
  have hW2 := mg_le' hW1
  have hWle : A * (R * R) ≤ 2 := by grind
  -- each quotient
  have hy : ∀ i, i < N → ∃ y, V FloatKind.f32.format (normX N x i) y ∧ mg (y - (k i : Rat) * pw (-2) * R) ≤ 1 / 2097152 ∧ mg ((k i : Rat) * pw (-2) * R) ≤ 2 := by
    intro i hi
    have hc : mg ((k i : Rat) * pw (-2) * R) ≤ 2 := by
      refine sq_le_of ?_ (by decide)
      have e : (k i : Rat) * pw (-2) * R * ((k i : Rat) * pw (-2) * R) = ((k i * k i : Int) : Rat) * pw (-4) * (R * R) := by
        rw [Rat.intCast_mul, pw_m2, pw_m4]; grind
      have h1 : ((k i * k i : Int) : Rat) ≤ (sqK k N : Rat) := Rat.intCast_le_intCast.2 (sqK_mono hk hi)
      have h2 := Rat.mul_le_mul_of_nonneg_right (Rat.mul_le_mul_of_nonneg_right h1 (Rat.le_of_lt (pw_pos (-4)))) hRR
      rw [hA] at h2
      rw [e]
      grind
    obtain ⟨y, y1, y2⟩ := div_near (k := .f32) (x_v hk hx i) r1 rne (c := (k i : Rat) * pw (-2) * R) (by grind) (Rat.le_trans hc (Rat.le_trans (by decide) (big_lim (k := .f32))))
    refine ⟨y, y1, ?_, hc⟩
    have h4 := tiny_le (k := .f32)
    rw [uK_f32] at y2
    grind
  constructor
  · unfold okNormal okNorm
    rw [isList_q hk hx h5 h20]
    have hp : posF (dotN x x N) = true := by
      unfold posF
      rw [isFin_v hS, fgt_v hS (V_null .f32)]
      exact decide_eq_true (by grind)
    have hf : finN N (normX N x) = true := allN_true fun j hj => by
      obtain ⟨y, y1, _⟩ := hy j hj
      exact isFin_v y1
    rw [hp, hf]
    rfl
  · have hs : ∀ i : Nat, i ≤ N → ∃ s, V FloatKind.f64.format (sq64 (normX N x) i) s ∧ mg (s - (sqK k i : Rat) * pw (-4) * (R * R)) ≤ (i : Rat) / 65536 := by
      intro i
      induction i with
      | zero =>
        intro _
        refine ⟨0, V_null .f64, ?_⟩
        rw [show (sqK k 0 : Rat) = 0 from rfl, show (0 : Rat) - 0 * pw (-4) * (R * R) = 0 by grind, mg_zero]
        rw [nat0]; grind
      | succ i ih =>
        intro hi
        obtain ⟨s, v1, v2⟩ := ih (by omega)
        obtain ⟨y, y1, y2, y3⟩ := hy i (by omega)
        have y4 : mg y ≤ 3 := by
          have := mg_add (y - (k i : Rat) * pw (-2) * R) ((k i : Rat) * pw (-2) * R)
          rw [show y - (k i : Rat) * pw (-2) * R + (k i : Rat) * pw (-2) * R = y by grind] at this
          grind
        have hyy := mul_gap y2 y2 y4 y3
        have hyy2 : mg (y * y) ≤ 9 := by
          rw [mg_mul]
          have := Rat.mul_le_mul_of_nonneg_right y4 (mg_nonneg y)
          grind
        obtain ⟨p, p1, p2⟩ := mul_near (k := .f64) (widen_v y1) (widen_v y1) (Rat.le_trans hyy2 (Rat.le_trans (by decide) (big_lim' (k := .f64))))
        have ht := tiny_le (k := .f64)
        rw [uK_f64] at p2
        have hi20 : (i : Rat) ≤ 20 := nat_le (show i ≤ 20 by omega)
        have hsb : mg ((sqK k i : Rat) * pw (-4) * (R * R)) ≤ 2 := by
          have h1 : ∀ n : Nat, i ≤ n → sqK k i ≤ sqK k n := by
            intro n hn
            induction n with
            | zero => rw [show i = 0 by omega]; exact Int.le_refl _
            | succ n ihn =>
              rcases Nat.lt_or_eq_of_le hn with h | rfl
              · have := ihn (by omega)
                have := (k_sq hk n).1
                show _ ≤ sqK k n + k n * k n
                omega
              · exact Int.le_refl _
          have h2 : (sqK k i : Rat) ≤ (sqK k N : Rat) := Rat.intCast_le_intCast.2 (h1 N (by omega))
          have h3 := Rat.mul_le_mul_of_nonneg_right (Rat.mul_le_mul_of_nonneg_right h2 (Rat.le_of_lt (pw_pos (-4)))) hRR
          rw [hA] at h3
          have h4 : (0 : Rat) ≤ (sqK k i : Rat) := Rat.intCast_le_intCast.2 (sqK_in hk i).1
          rw [mg_of_nonneg (Rat.mul_nonneg (Rat.mul_nonneg h4 (Rat.le_of_lt (pw_pos _))) hRR)]
          grind
        have hsm : mg s ≤ 3 := by
          have := mg_add (s - (sqK k i : Rat) * pw (-4) * (R * R)) ((sqK k i : Rat) * pw (-4) * (R * R))
          rw [show s - (sqK k i : Rat) * pw (-4) * (R * R) + (sqK k i : Rat) * pw (-4) * (R * R) = s by grind] at this
          grind
        have hpm : mg p ≤ 10 := by
          have := mg_add (p - y * y) (y * y)
          rw [show p - y * y + y * y = p by grind] at this
          grind
        have hsp := mg_add s p
        obtain ⟨s', w1, w2⟩ := add_near (k := .f64) v1 p1 (Rat.le_trans hsp (Rat.le_trans (show mg s + mg p ≤ 1267650600228229401496703205376 by grind) (big_lim' (k := .f64))))
        rw [uK_f64] at w2
        refine ⟨s', w1, ?_⟩
        have e1 : (sqK k (i + 1) : Rat) * pw (-4) * (R * R) = (sqK k i : Rat) * pw (-4) * (R * R) + (k i : Rat) * pw (-2) * R * ((k i : Rat) * pw (-2) * R) := by
          show ((sqK k i + k i * k i : Int) : Rat) * _ * _ = _
          rw [Rat.intCast_add, Rat.intCast_mul, pw_m2, pw_m4]
          grind
        rw [e1, Rat.natCast_add, show ((1 : Nat) : Rat) = 1 from rfl]
        generalize (sqK k i : Rat) * pw (-4) * (R * R) = Q at *
        generalize (k i : Rat) * pw (-2) * R * ((k i : Rat) * pw (-2) * R) = c at *
        have q1 := mg_le' v2
        have q2 := mg_le' hyy
        have q3 := mg_le' p2
        have q4 := mg_le' w2
        refine mg_le ?_ ?_ <;> grind
    obtain ⟨s, s1', s2'⟩ := hs N (Nat.le_refl _)
    rw [hA] at s2'
    have hN : (N : Rat) ≤ 20 := nat_le h20
    obtain ⟨m, m1, m2, m3⟩ := mil_v
    refine gap_le s1' one_v m1 m3 ?_
    have q1 := mg_le' s2'
    have : mg (s - 1) ≤ 1 / 2000 := mg_le (by grind) (by grind)
    grind
end
end Go.Proofs.Ythfgigndipjbjaa
