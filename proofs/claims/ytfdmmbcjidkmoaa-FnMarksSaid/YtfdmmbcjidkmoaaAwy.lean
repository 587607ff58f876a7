/- Bounds on what 64-bit floating point makes; numbers made whole; quarters taken away. -/
import Derived.Test.YtfdmmbcjidkmoaaAwv
set_option linter.unusedSimpArgs false
set_option linter.unusedVariables false
namespace Go.Aw
open Ieee
theorem f64_bin : FloatKind.f64.format.binade = 4503599627370496 := by decide
theorem f64_least : FloatKind.f64.format.leastPlace = -1074 := by decide
theorem f64_frac : (FloatKind.f64.format.fractionBits : Int) = 52 := rfl
theorem p52 : (2 : Nat) ^ 52 = 4503599627370496 := by decide
theorem p53 : (2 : Nat) ^ 53 = 9007199254740992 := by decide
theorem cut_closed (neg : Bool) (n drop K : Nat) (h : n ≤ 2 ^ (K + drop)) : Toward.even.cut neg n drop ≤ 2 ^ K := by
  rcases Nat.lt_or_eq_of_le h with h | h
  · exact cut_le _ _ _ _ h
  · subst h
    have hp := Nat.two_pow_pos drop
    unfold Toward.cut
    simp only
    rw [Nat.log2_two_pow, Nat.min_eq_left (by omega), Nat.shiftLeft_eq, Nat.one_mul, Nat.pow_add, Nat.mul_div_cancel _ hp, Nat.mul_mod_left]
    have h1 : decide (2 ^ drop < 2 * 0) = false := decide_eq_false (by omega)
    have h2 : (2 ^ drop == 2 * 0) = false := by rw [beq_eq_false_iff_ne]; omega
    rw [h1, h2]
    exact Nat.le_refl _
theorem nearest_closed (neg : Bool) (m : Nat) (e : Int) (j : Nat) (B : Int) (hB : -1022 ≤ B) (h1 : m ≤ 2 ^ j) (h2 : (j : Int) + e ≤ B) :
    ∃ r, FloatKind.f64.format.nearest neg m e = FloatKind.f64.format.word neg r ∧ r ≤ (B + 1022).toNat * 4503599627370496 + 4503599627370496 := by
  unfold Format.nearest
  split
  · exact ⟨0, rfl, Nat.zero_le _⟩
  · rename_i hm
    simp only
    refine ⟨_, rfl, Nat.le_trans (Nat.min_le_left _ _) ?_⟩
    rw [f64_bin, f64_least, f64_frac]
    have hL1 : 2 ^ m.log2 ≤ m := Nat.log2_self_le hm
    have hL2 : m < 2 ^ (m.log2 + 1) := Nat.lt_log2_self
    have hLj : m.log2 ≤ j := (Nat.pow_le_pow_iff_right (by decide)).1 (Nat.le_trans hL1 h1)
    generalize hLL : m.log2 = L at hL1 hL2 hLj
    generalize hl : max (e + (L : Int) - 52) (-1074) = last
    have up : ∀ K, L + 1 + (e - last).toNat ≤ K + (last - e).toNat → Toward.even.cut neg (m <<< (e - last).toNat) (last - e).toNat ≤ 2 ^ K := fun K hK => by
      refine cut_le _ _ _ _ ?_
      rw [Nat.shiftLeft_eq]
      calc m * 2 ^ (e - last).toNat < 2 ^ (L + 1) * 2 ^ (e - last).toNat := (Nat.mul_lt_mul_right (Nat.two_pow_pos _)).2 hL2
        _ = 2 ^ (L + 1 + (e - last).toNat) := (Nat.pow_add ..).symm
        _ ≤ 2 ^ (K + (last - e).toNat) := Nat.pow_le_pow_right (by decide) hK
    by_cases hA : e + (L : Int) = B
    · have hjL : j = L := by omega
      subst hjL
      have hcut : Toward.even.cut neg (m <<< (e - last).toNat) (last - e).toNat ≤ 2 ^ 52 := by
        refine cut_closed _ _ _ _ ?_
        rw [Nat.shiftLeft_eq]
        calc m * 2 ^ (e - last).toNat ≤ 2 ^ j * 2 ^ (e - last).toNat := Nat.mul_le_mul_right _ h1
          _ = 2 ^ (j + (e - last).toNat) := (Nat.pow_add ..).symm
          _ ≤ 2 ^ (52 + (last - e).toNat) := Nat.pow_le_pow_right (by decide) (by omega)
      rw [p52] at hcut
      have hlast : (last - -1074).toNat = (B + 1022).toNat := by omega
      rw [hlast]
      omega
    · rcases Int.lt_or_le (e + (L : Int) - 52) (-1074) with hlo | hlo
      · have hcut := up 52 (by omega)
        rw [p52] at hcut
        have hlast : (last - -1074).toNat = 0 := by omega
        rw [hlast, Nat.zero_mul, Nat.zero_add]
        exact Nat.le_trans hcut (Nat.le_add_left _ _)
      · have hcut := up 53 (by omega)
        rw [p53] at hcut
        have hlast : (last - -1074).toNat + 1 ≤ (B + 1022).toNat := by omega
        generalize (last - -1074).toNat = T1 at hlast ⊢
        generalize (B + 1022).toNat = T2 at hlast ⊢
        generalize Toward.even.cut neg (m <<< (e - last).toNat) (last - e).toNat = K at hcut ⊢
        omega
theorem read_closed (neg : Bool) (r T : Nat) (hr : r ≤ T * 4503599627370496 + 4503599627370496) (hT : T ≤ 2045) :
    ∃ m e j, FloatKind.f64.format.read (FloatKind.f64.format.word neg r) = .number neg m e ∧ m ≤ 2 ^ j ∧ ((j : Nat) : Int) + e ≤ (T : Int) - 1022 := by
  have hw : FloatKind.f64.format.word neg r / 9223372036854775808 % 2 = neg.toNat ∧ FloatKind.f64.format.word neg r % 9223372036854775808 = r := by
    unfold Format.word
    rw [f64_sign]
    cases neg
    · simp only [Bool.false_eq_true, if_false, Bool.toNat_false]; omega
    · simp only [if_true, Bool.toNat_true]; omega
  unfold Format.read
  rw [f64_sign, f64_bin, f64_inf, f64_least]
  simp only [hw.1, hw.2]
  have e4 : (neg.toNat == 1) = neg := by cases neg <;> rfl
  rw [e4]
  by_cases h1 : r < 4503599627370496
  · rw [if_pos h1]
    refine ⟨r, -1074, 52, rfl, ?_, by omega⟩
    rw [p52]; omega
  · rw [if_neg h1, if_pos (by omega)]
    by_cases h2 : r = T * 4503599627370496 + 4503599627370496
    · refine ⟨_, _, 52, rfl, ?_, ?_⟩
      · rw [p52]; omega
      · omega
    · refine ⟨_, _, 53, rfl, ?_, ?_⟩
      · rw [p53]; omega
      · omega
/-- A number of an absolute value of at most 2 to the power of B. -/
def Cl (x : Nat) (B : Int) : Prop := ∃ (s : Bool) (m : Nat) (e : Int) (j : Nat), FloatKind.f64.format.read x = .number s m e ∧ m ≤ 2 ^ j ∧ (j : Int) + e ≤ B
theorem Cl.mono {x : Nat} {B C : Int} (h : Cl x B) (hBC : B ≤ C) : Cl x C := by
  obtain ⟨s, m, e, j, h1, h2, h3⟩ := h
  exact ⟨s, m, e, j, h1, h2, by omega⟩
theorem cl_write {s : Bool} {m : Nat} {e : Int} {j : Nat} {B : Int} (h1 : m ≤ 2 ^ j) (h2 : (j : Int) + e ≤ B) (hB : -1022 ≤ B) (hB' : B ≤ 1023) : Cl (FloatKind.f64.format.write (.number s m e)) B := by
  obtain ⟨r, e1, e2⟩ := nearest_closed s m e j B hB h1 h2
  obtain ⟨m', e', j', k1, k2, k3⟩ := read_closed s r (B + 1022).toNat e2 (by omega)
  refine ⟨s, m', e', j', ?_, k2, by omega⟩
  show FloatKind.f64.format.read (FloatKind.f64.format.nearest s m e) = _
  rw [e1, k1]
theorem cl_mul {x y : Nat} {A C : Int} (hx : Cl x A) (hy : Cl y C) (h : -1022 ≤ A + C) (h' : A + C ≤ 1023) : Cl (fmul .f64 x y) (A + C) := by
  obtain ⟨s, m, i, a, h1, h2, h3⟩ := hx
  obtain ⟨t, n, k, b, g1, g2, g3⟩ := hy
  have e : fmul .f64 x y = FloatKind.f64.format.write (.number (s ^^ t) (m * n) (i + k)) := by
    unfold fmul Format.mul
    rw [h1, g1]
    rfl
  rw [e]
  exact cl_write (j := a + b) (by rw [Nat.pow_add]; exact Nat.mul_le_mul h2 g2) (by omega) h h'
theorem signed_abs (s : Bool) (m u : Nat) : (signed s m u).natAbs = m * 2 ^ u := by
  have h : ((m <<< u : Nat) : Int).natAbs = m * 2 ^ u := by rw [Int.natAbs_natCast, Nat.shiftLeft_eq]
  unfold signed
  cases s
  · exact h
  · exact (Int.natAbs_neg _).trans h
theorem cl_sum {s t : Bool} {m n a b : Nat} {i k A : Int} {w : Bool} (h2 : m ≤ 2 ^ a) (h3 : (a : Int) + i ≤ A) (g2 : n ≤ 2 ^ b) (g3 : (b : Int) + k ≤ A) (h : -1022 ≤ A + 1) (h' : A + 1 ≤ 1023) :
    Cl (FloatKind.f64.format.write (.number w (signed s m (i - min i k).toNat + signed t n (k - min i k).toNat).natAbs (min i k))) (A + 1) := by
  refine cl_write (j := (A - min i k).toNat + 1) ?_ (by omega) h h'
  refine Nat.le_trans (Int.natAbs_add_le _ _) ?_
  rw [signed_abs, signed_abs, Nat.pow_succ, Nat.mul_two]
  refine Nat.add_le_add ?_ ?_
  · calc m * 2 ^ (i - min i k).toNat ≤ 2 ^ a * 2 ^ (i - min i k).toNat := Nat.mul_le_mul_right _ h2
      _ = 2 ^ (a + (i - min i k).toNat) := (Nat.pow_add ..).symm
      _ ≤ 2 ^ (A - min i k).toNat := Nat.pow_le_pow_right (by decide) (by omega)
  · calc n * 2 ^ (k - min i k).toNat ≤ 2 ^ b * 2 ^ (k - min i k).toNat := Nat.mul_le_mul_right _ g2
      _ = 2 ^ (b + (k - min i k).toNat) := (Nat.pow_add ..).symm
      _ ≤ 2 ^ (A - min i k).toNat := Nat.pow_le_pow_right (by decide) (by omega)
theorem cl_add {x y : Nat} {A : Int} (hx : Cl x A) (hy : Cl y A) (h : -1022 ≤ A + 1) (h' : A + 1 ≤ 1023) : Cl (fadd .f64 x y) (A + 1) := by
  obtain ⟨s, m, i, a, h1, h2, h3⟩ := hx
  obtain ⟨t, n, k, b, g1, g2, g3⟩ := hy
  unfold fadd Format.add
  rw [h1, g1]
  exact cl_sum h2 h3 g2 g3 h h'
theorem cl_sub {x y : Nat} {A : Int} (hx : Cl x A) (hy : Cl y A) (h : -1022 ≤ A + 1) (h' : A + 1 ≤ 1023) : Cl (fsub .f64 x y) (A + 1) := by
  obtain ⟨s, m, i, a, h1, h2, h3⟩ := hx
  obtain ⟨t, n, k, b, g1, g2, g3⟩ := hy
  unfold fsub Format.sub
  rw [h1, g1]
  exact cl_sum (t := !t) h2 h3 g2 g3 h h'
theorem cl_div {x c : Nat} {A C : Int} (hx : Cl x A) {n b : Nat} {k : Int} (hc : FloatKind.f64.format.read c = .number false n k) (hb : 2 ^ b ≤ n) (hC : C ≤ (b : Int) + k) (h : -1022 ≤ A - C + 1) (h' : A - C + 1 ≤ 1023) : Cl (fdiv .f64 x c) (A - C + 1) := by
  obtain ⟨s, m, i, a, h1, h2, h3⟩ := hx
  have hn : n ≠ 0 := by
    have := Nat.two_pow_pos b
    omega
  have e : fdiv .f64 x c = FloatKind.f64.format.write (.number (s ^^ false) (2 * ((m <<< (54 + n.log2 - m.log2)) / n) + ((m <<< (54 + n.log2 - m.log2)) % n != 0).toNat) (i - k - ((54 + n.log2 - m.log2 : Nat) : Int) - 1)) := by
    unfold fdiv Format.div
    rw [h1, hc]
    unfold Datum.quotient
    simp only [hn, if_false]
    rfl
  rw [e]
  have hbn : b ≤ n.log2 := (Nat.le_log2 hn).2 hb
  have hma : m.log2 ≤ a := by
    by_cases hm : m = 0
    · subst hm; exact Nat.zero_le _
    · exact (Nat.pow_le_pow_iff_right (by decide)).1 (Nat.le_trans (Nat.log2_self_le hm) h2)
  generalize hmo : 54 + n.log2 - m.log2 = more
  have hab : b ≤ a + more := by omega
  have hb1 : ((m <<< more) % n != 0).toNat ≤ 1 := by cases ((m <<< more) % n != 0) <;> simp
  have hdiv : (m <<< more) / n ≤ 2 ^ (a + more - b) := by
    rw [Nat.shiftLeft_eq]
    calc m * 2 ^ more / n ≤ 2 ^ (a + more) / n := Nat.div_le_div_right (by rw [Nat.pow_add]; exact Nat.mul_le_mul_right _ h2)
      _ ≤ 2 ^ (a + more) / 2 ^ b := Nat.div_le_div_left hb (Nat.two_pow_pos _)
      _ = 2 ^ (a + more - b) := Nat.pow_div hab (by decide)
  refine cl_write (j := a + more - b + 2) ?_ (by omega) h h'
  have hp := Nat.two_pow_pos (a + more - b)
  rw [Nat.pow_add]
  omega
theorem Cl.nan {x : Nat} {B : Int} (h : Cl x B) : isNaN .f64 x = false := by
  obtain ⟨s, m, e, j, h1, _⟩ := h
  unfold isNaN FloatKind.decode
  rw [h1]
  rfl
theorem Cl.narrow {x : Nat} {B : Int} (h : Cl x B) (hB : B ≤ 120) : f2fOk .f64 x .f32 := by
  obtain ⟨s, m, e, j, h1, h2, h3⟩ := h
  refine .inr (narrow_some h1 ?_)
  by_cases hm : m = 0
  · exact .inl hm
  · right
    have : m.log2 ≤ j := (Nat.pow_le_pow_iff_right (by decide)).1 (Nat.le_trans (Nat.log2_self_le hm) h2)
    omega
end Go.Aw
namespace Go.Aw
open Ieee
/-! ### Numbers made whole -/
abbrev oneD : Nat := 4607182418800017408
abbrev halfD : Nat := 4602678819172646912
abbrev quarD : Nat := 4598175219545276416
abbrev tauD : Nat := 4618760256179416344
abbrev twoD : Nat := 4611686018427387904
abbrev hugeD : Nat := 4841369599423283200
abbrev nhugeD : Nat := 14064741636278059008
def truncF (x : Nat) : Nat := FloatKind.f64.encode ((FloatKind.f64.decode x).integral .zero)
def wholeF (x : Nat) : Nat := bif feq .f64 (truncF x) 0 then 0 else truncF x
def fracF (x : Nat) : Nat := fsub .f64 x (wholeF x)
def partF (x : Nat) : Nat := bif flt .f64 (fracF x) 0 then fadd .f64 (fracF x) oneD else fracF x
theorem read_zero64 : FloatKind.f64.format.read 0 = .number false 0 (-1074) := by decide +kernel
theorem read_one64 : FloatKind.f64.format.read oneD = .number false 4503599627370496 (-52) := by decide +kernel
theorem read_half64 : FloatKind.f64.format.read halfD = .number false 4503599627370496 (-53) := by decide +kernel
theorem read_quar64 : FloatKind.f64.format.read quarD = .number false 4503599627370496 (-54) := by decide +kernel
theorem read_huge64 : FloatKind.f64.format.read hugeD = .number false 4503599627370496 0 := by decide +kernel
theorem read_nhuge64 : FloatKind.f64.format.read nhugeD = .number true 4503599627370496 0 := by decide +kernel
theorem read_tau64 : ∃ m, FloatKind.f64.format.read tauD = .number false m (-50) ∧ m ≤ 2 ^ 53 := ⟨7074237752028440, by decide +kernel, by decide⟩
theorem cut_zero (s : Bool) (n d : Nat) : Toward.zero.cut s n d = n / 2 ^ d := (show Toward.zero.cut s n d = Toward.zero.cut false n d from rfl).trans (cut_div .zero (.inr rfl) n d)
theorem integral_zero (s : Bool) (m : Nat) (e : Int) : (Datum.number s m e).integral .zero = .number s (truncV m e) 0 := by
  unfold Datum.integral
  simp only [cut_zero, truncV]
theorem toInt_zero (s : Bool) (m : Nat) (e : Int) : (Datum.number s m e).toInt .zero = some (signed s (truncV m e) 0) := by
  unfold Datum.toInt
  rw [integral_zero]
theorem truncV_small {m j : Nat} {e : Int} {B : Nat} (h1 : m ≤ 2 ^ j) (h2 : (j : Int) + e ≤ B) : truncV m e ≤ 2 ^ B := by
  refine trunc_le (b := min e 0) (by omega) (by omega) ?_
  rw [Nat.shiftLeft_eq, ← Nat.pow_add]
  calc m * 2 ^ (e - min e 0).toNat ≤ 2 ^ j * 2 ^ (e - min e 0).toNat := Nat.mul_le_mul_right _ h1
    _ = 2 ^ (j + (e - min e 0).toNat) := (Nat.pow_add ..).symm
    _ ≤ 2 ^ (B + (-min e 0).toNat) := Nat.pow_le_pow_right (by decide) (by omega)
theorem signed_lo (s : Bool) (t : Nat) : signed s t 0 = if s then -(t : Int) else (t : Int) := by
  unfold signed
  cases s <;> simp
theorem order_zero {y : Nat} {s : Bool} {m : Nat} {e : Int} (h : FloatKind.f64.format.read y = .number s m e) (hm : m ≠ 0) : feq .f64 y 0 = false := by
  unfold feq Format.order
  rw [h, read_zero64]
  unfold Datum.order
  simp only
  have hz : signed false 0 (-1074 - min e (-1074)).toNat = 0 := by unfold signed; simp
  have hne : signed s m (e - min e (-1074)).toNat ≠ 0 := fun h0 => by
    have := signed_abs s m (e - min e (-1074)).toNat
    rw [h0] at this
    have hp := Nat.mul_pos (Nat.pos_of_ne_zero hm) (Nat.two_pow_pos (e - min e (-1074)).toNat)
    omega
  rw [hz]
  rcases Int.lt_or_le (signed s m (e - min e (-1074)).toNat) 0 with hlt | hle
  · rw [Int.compare_eq_lt.2 hlt]; rfl
  · rw [Int.compare_eq_gt.2 (by omega)]; rfl
theorem p53' {t : Nat} (h : t ≤ 2 ^ 51) : t < 2 ^ 53 := Nat.lt_of_le_of_lt h (by decide)
/-- What a number is made whole to. -/
theorem whole_num {x : Nat} {s : Bool} {m : Nat} {e : Int} (h : FloatKind.f64.format.read x = .number s m e) (ht : truncV m e ≤ 2 ^ 51) :
    wholeF x = if truncV m e = 0 then 0 else FloatKind.f64.format.write (.number s (truncV m e) 0) := by
  have e0 : truncF x = FloatKind.f64.format.write (.number s (truncV m e) 0) := by
    unfold truncF FloatKind.decode FloatKind.encode
    rw [h, integral_zero]
  unfold wholeF
  rw [e0]
  split
  · rename_i hz
    rw [hz]
    cases s <;> decide +kernel
  · rename_i hz
    have hl : (truncV m e).log2 ≤ 51 := by
      have := (Nat.log2_lt hz).2 (show truncV m e < 2 ^ 52 from Nat.lt_of_le_of_lt ht (by decide))
      omega
    have hr := read_write64 (s := s) hz (p53' ht) (e := 0) (by omega) (by omega)
    have hne : truncV m e <<< (52 - (truncV m e).log2) ≠ 0 := by
      rw [Nat.shiftLeft_eq]
      exact Nat.ne_of_gt (Nat.mul_pos (Nat.pos_of_ne_zero hz) (Nat.two_pow_pos _))
    rw [order_zero hr hne]
    rfl
theorem toInt64 {x : Nat} {s : Bool} {m : Nat} {e : Int} (h : FloatKind.f64.format.read x = .number s m e) (ht : truncV m e ≤ 2 ^ 51) : floatToIntVal .f64 x .i64 = some (signed s (truncV m e) 0) := by
  unfold floatToIntVal FloatKind.decode
  rw [h, toInt_zero]
  simp only
  have h51 : (2 : Nat) ^ 51 = 2251799813685248 := by decide
  rw [h51] at ht
  have hmin : IntKind.i64.min = -9223372036854775808 := by decide
  have hmax : IntKind.i64.max = 9223372036854775807 := by decide
  rw [if_pos]
  rw [signed_lo, hmin, hmax]
  cases s
  · simp only [Bool.false_eq_true, if_false]; omega
  · simp only [if_true]; omega
theorem whole_int {x : Nat} {s : Bool} {m : Nat} {e : Int} (h : FloatKind.f64.format.read x = .number s m e) (ht : truncV m e ≤ 2 ^ 51) : itof .f64 (ftoi .f64 x .i64) = wholeF x := by
  rw [whole_num h ht]
  unfold ftoi
  rw [toInt64 h ht, Option.getD_some, signed_lo]
  unfold itof FloatKind.nearest FloatKind.encode
  by_cases hz : truncV m e = 0
  · rw [if_pos hz, hz]
    cases s <;> decide +kernel
  · rw [if_neg hz]
    cases s
    · simp only [Bool.false_eq_true, if_false, Int.natAbs_natCast]
      rw [show decide (((truncV m e : Nat) : Int) < 0) = false from decide_eq_false (by omega)]
    · simp only [if_true, Int.natAbs_neg, Int.natAbs_natCast]
      rw [show decide (-((truncV m e : Nat) : Int) < 0) = true from decide_eq_true (by omega)]
theorem signed_diff {s : Bool} {m n u v : Nat} (h : n * 2 ^ v ≤ m * 2 ^ u) : (signed s m u + signed (!s) n v).natAbs = m * 2 ^ u - n * 2 ^ v := by
  have e1 : ∀ k w : Nat, ((k <<< w : Nat) : Int) = ((k * 2 ^ w : Nat) : Int) := fun k w => by rw [Nat.shiftLeft_eq]
  unfold signed
  cases s
  · simp only [Bool.false_eq_true, if_false, Bool.not_false, if_true, e1]
    omega
  · simp only [if_true, Bool.not_true, Bool.false_eq_true, if_false, e1]
    omega
/-- What is left is at most one. -/
theorem frac_cl {x : Nat} (h : Cl x 51) : Cl (fracF x) 0 := by
  obtain ⟨s, m, e, j, h1, h2, h3⟩ := h
  have ht : truncV m e ≤ 2 ^ 51 := truncV_small h2 h3
  have hw := whole_num h1 ht
  unfold fracF fsub Format.sub
  rw [h1]
  by_cases hz : truncV m e = 0
  · rw [if_pos hz] at hw
    rw [hw, read_zero64]
    show Cl (FloatKind.f64.format.write (.number _ (signed s m (e - min e (-1074)).toNat + signed true 0 (-1074 - min e (-1074)).toNat).natAbs (min e (-1074)))) 0
    refine cl_write (j := (-min e (-1074)).toNat) ?_ (by omega) (by omega) (by omega)
    have e0 : signed true 0 (-1074 - min e (-1074)).toNat = 0 := by unfold signed; simp
    rw [e0, Int.add_zero, signed_abs]
    unfold truncV at hz
    rw [Nat.shiftLeft_eq] at hz
    have hlt : m * 2 ^ e.toNat < 2 ^ (-e).toNat := by
      rcases Nat.lt_or_ge (m * 2 ^ e.toNat) (2 ^ (-e).toNat) with hl | hl
      · exact hl
      · have := Nat.div_pos hl (Nat.two_pow_pos _)
        omega
    rcases Int.lt_or_le e 0 with he | he
    · rw [show e.toNat = 0 by omega, Nat.pow_zero, Nat.mul_one] at hlt
      calc m * 2 ^ (e - min e (-1074)).toNat ≤ 2 ^ (-e).toNat * 2 ^ (e - min e (-1074)).toNat := Nat.mul_le_mul_right _ (Nat.le_of_lt hlt)
        _ = 2 ^ ((-e).toNat + (e - min e (-1074)).toNat) := (Nat.pow_add ..).symm
        _ ≤ 2 ^ (-min e (-1074)).toNat := Nat.pow_le_pow_right (by decide) (by omega)
    · rw [show (-e).toNat = 0 by omega, Nat.pow_zero] at hlt
      have hp := Nat.two_pow_pos e.toNat
      have hm0 : m = 0 := by
        rcases Nat.eq_zero_or_pos m with h0 | h0
        · exact h0
        · have := Nat.mul_pos h0 hp
          omega
      rw [hm0, Nat.zero_mul]
      exact Nat.zero_le _
  · rw [if_neg hz] at hw
    have hl : (truncV m e).log2 ≤ 51 := by
      have := (Nat.log2_lt hz).2 (show truncV m e < 2 ^ 52 from Nat.lt_of_le_of_lt ht (by decide))
      omega
    have hr := read_write64 (s := s) hz (p53' ht) (e := 0) (by omega) (by omega)
    rw [hw, hr]
    generalize hk : (0 : Int) + ((truncV m e).log2 : Int) - 52 = k
    generalize hL : (truncV m e).log2 = L at hl hk
    show Cl (FloatKind.f64.format.write (.number _ (signed s m (e - min e k).toNat + signed (!s) (truncV m e <<< (52 - L)) (k - min e k).toNat).natAbs (min e k))) 0
    have hT : truncV m e <<< (52 - L) * 2 ^ (k - min e k).toNat = truncV m e * 2 ^ (-min e k).toNat := by
      rw [Nat.shiftLeft_eq, Nat.mul_assoc, ← Nat.pow_add]
      congr 2
      omega
    have hd : ∃ r, m * 2 ^ (e - min e k).toNat = truncV m e * 2 ^ (-min e k).toNat + r ∧ r ≤ 2 ^ (-min e k).toNat := by
      rcases Int.lt_or_le e 0 with he | he
      · refine ⟨m % 2 ^ (-e).toNat * 2 ^ (e - min e k).toNat, ?_, ?_⟩
        · have hdm := Nat.div_add_mod m (2 ^ (-e).toNat)
          have hv : truncV m e = m / 2 ^ (-e).toNat := by
            unfold truncV
            rw [show e.toNat = 0 by omega, Nat.shiftLeft_zero]
          rw [hv]
          have e2 : (2 : Nat) ^ (-min e k).toNat = 2 ^ (-e).toNat * 2 ^ (e - min e k).toNat := by
            rw [← Nat.pow_add]
            congr 1
            omega
          rw [e2, ← Nat.mul_assoc, Nat.mul_comm (m / 2 ^ (-e).toNat), ← Nat.add_mul, hdm]
        · calc m % 2 ^ (-e).toNat * 2 ^ (e - min e k).toNat ≤ 2 ^ (-e).toNat * 2 ^ (e - min e k).toNat := Nat.mul_le_mul_right _ (Nat.le_of_lt (Nat.mod_lt _ (Nat.two_pow_pos _)))
            _ = 2 ^ ((-e).toNat + (e - min e k).toNat) := (Nat.pow_add ..).symm
            _ ≤ 2 ^ (-min e k).toNat := Nat.pow_le_pow_right (by decide) (by omega)
      · refine ⟨0, ?_, Nat.zero_le _⟩
        have hv : truncV m e = m * 2 ^ e.toNat := by
          unfold truncV
          rw [show (-e).toNat = 0 by omega, Nat.pow_zero, Nat.div_one, Nat.shiftLeft_eq]
        rw [hv, Nat.mul_assoc, ← Nat.pow_add, Nat.add_zero]
        congr 2
        omega
    obtain ⟨r, hr1, hr2⟩ := hd
    refine cl_write (j := (-min e k).toNat) ?_ (by omega) (by omega) (by omega)
    rw [signed_diff (by rw [hT, hr1]; exact Nat.le_add_right _ _), hT, hr1, Nat.add_sub_cancel_left]
    exact hr2
theorem cl_one : Cl oneD 0 := ⟨false, _, _, 52, read_one64, by decide, by decide⟩
theorem cl_half : Cl halfD (-1) := ⟨false, _, _, 52, read_half64, by decide, by decide⟩
theorem cl_quar : Cl quarD (-2) := ⟨false, _, _, 52, read_quar64, by decide, by decide⟩
theorem cl_zero : Cl 0 (-1022) := ⟨false, _, _, 52, read_zero64, by decide, by decide⟩
theorem cl_tau : Cl tauD 3 := by
  obtain ⟨m, h1, h2⟩ := read_tau64
  exact ⟨false, m, _, 53, h1, h2, by decide⟩
theorem part_cl {x : Nat} (h : Cl x 51) : Cl (partF x) 1 := by
  have hf := frac_cl h
  unfold partF
  cases flt .f64 (fracF x) 0 with
  | true => exact cl_add hf cl_one (by decide) (by decide)
  | false => exact hf.mono (by decide)
end Go.Aw
