/- What floating point words stand for, as rational numbers: each operation is the exact one but for half a unit of the last place. -/
import Derived.Test.YtfdmmbcjidkmoaaAwv
set_option linter.unusedSimpArgs false
set_option linter.unusedVariables false
namespace Go.Aw
open Ieee
/-- The nearest whole number, in halves. -/
theorem cut_near (neg : Bool) (n drop : Nat) : 2 * (Toward.even.cut neg n drop * 2 ^ drop) ≤ 2 * n + 2 ^ drop ∧ 2 * n ≤ 2 * (Toward.even.cut neg n drop * 2 ^ drop) + 2 ^ drop := by
  unfold Toward.cut
  simp only
  have hg : 1 <<< min drop (n.log2 + 2) = 2 ^ min drop (n.log2 + 2) := by rw [Nat.shiftLeft_eq, Nat.one_mul]
  rw [hg]
  rcases Nat.le_total drop (n.log2 + 2) with hd | hd
  · rw [Nat.min_eq_left hd]
    have hp := Nat.two_pow_pos drop
    have hm := Nat.div_add_mod n (2 ^ drop)
    have hr := Nat.mod_lt n hp
    generalize n % 2 ^ drop = r at *
    generalize n / 2 ^ drop = q at *
    generalize 2 ^ drop = D at *
    have hm' : q * D + r = n := by rw [Nat.mul_comm]; exact hm
    have hb : ∀ b : Bool, (q + b.toNat) * D = q * D + b.toNat * D := fun b => Nat.add_mul _ _ _
    rw [hb]
    cases hc : decide (D < 2 * r) with
    | true =>
      simp only [Bool.true_or, Bool.toNat_true, Nat.one_mul]
      have := of_decide_eq_true hc
      omega
    | false =>
      have := of_decide_eq_false hc
      simp only [Bool.false_or]
      cases he : (D == 2 * r && q % 2 == 1) with
      | true =>
        simp only [Bool.toNat_true, Nat.one_mul]
        rw [Bool.and_eq_true, beq_iff_eq] at he
        omega
      | false =>
        simp only [Bool.toNat_false, Nat.zero_mul, Nat.add_zero]
        omega
  · rw [Nat.min_eq_right hd]
    have h1 : n < 2 ^ (n.log2 + 1) := Nat.lt_log2_self
    have h2 : 2 ^ (n.log2 + 2) = 2 * 2 ^ (n.log2 + 1) := by rw [Nat.pow_succ, Nat.mul_comm]
    have h3 : 2 ^ (n.log2 + 2) ≤ 2 ^ drop := Nat.pow_le_pow_right (by decide) hd
    have hlow : n / 2 ^ (n.log2 + 2) = 0 := Nat.div_eq_of_lt (by omega)
    have hmod : n % 2 ^ (n.log2 + 2) = n := Nat.mod_eq_of_lt (by omega)
    rw [hlow, hmod]
    have e1 : decide (2 ^ (n.log2 + 2) < 2 * n) = false := decide_eq_false (by omega)
    have e2 : (2 ^ (n.log2 + 2) == 2 * n) = false := by rw [beq_eq_false_iff_ne]; omega
    rw [e1, e2]
    simp only [Bool.false_and, Bool.or_self, Bool.toNat_false, Nat.zero_add, Nat.zero_mul, Nat.mul_zero]
    omega
/-! ### The two formats -/
structure Fine (f : Format) : Prop where
  sign : f.signWeight = 2 ^ f.exponentBits * f.binade
  inf : f.infRung + f.binade = f.signWeight
  bin : f.binade = 2 ^ f.fractionBits
  pos : 1 ≤ f.fractionBits
  top : 2 * f.binade ≤ f.infRung
theorem fine_single : Fine single := ⟨by decide, by decide, by decide, by decide, by decide⟩
theorem fine_double : Fine double := ⟨by decide, by decide, by decide, by decide, by decide⟩
section
variable {f : Format}
/-- What is read of a sign and a rung below infinity's. -/
theorem rung_read (hf : Fine f) (neg : Bool) (T k : Nat) (h : T * f.binade + k < f.infRung) (hT : T = 0 ∨ f.binade ≤ k) (hk : k ≤ 2 * f.binade) :
    ∃ m e, f.read (f.word neg (T * f.binade + k)) = .number neg m e ∧ ∃ u : Nat, e = f.leastPlace + T + u ∧ k = m * 2 ^ u := by
  have hB : 0 < f.binade := by rw [hf.bin]; exact Nat.two_pow_pos _
  have hlt : T * f.binade + k < f.signWeight := by have := hf.inf; omega
  have hS : 0 < f.signWeight := by omega
  have hw : (f.word neg (T * f.binade + k) / f.signWeight % 2 == 1) = neg ∧ f.word neg (T * f.binade + k) % f.signWeight = T * f.binade + k := by
    unfold Format.word
    cases neg
    · simp only [Bool.false_eq_true, if_false]
      rw [Nat.div_eq_of_lt hlt, Nat.mod_eq_of_lt hlt]
      exact ⟨rfl, rfl⟩
    · simp only [if_true]
      rw [Nat.add_div_left _ hS, Nat.div_eq_of_lt hlt, Nat.add_mod_left, Nat.mod_eq_of_lt hlt]
      exact ⟨rfl, rfl⟩
  unfold Format.read
  simp only [hw.1, hw.2]
  by_cases h1 : T * f.binade + k < f.binade
  · rw [if_pos h1]
    have hT0 : T = 0 := by
      rcases hT with h | h
      · exact h
      · exfalso
        have := Nat.zero_le (T * f.binade)
        omega
    subst hT0
    exact ⟨_, _, rfl, 0, by simp, by simp⟩
  · rw [if_neg h1, if_pos h]
    by_cases h2 : k = 2 * f.binade
    · have e1 : T * f.binade + k = (T + 2) * f.binade := by rw [h2, Nat.add_mul]
      refine ⟨_, _, rfl, 1, ?_, ?_⟩
      · rw [e1, Nat.mul_div_cancel _ hB]
        omega
      · rw [e1, Nat.mul_mod_left, h2]
        omega
    · by_cases h3 : k < f.binade
      · have hT0 : T = 0 := by
          rcases hT with h | h
          · exact h
          · omega
        subst hT0
        omega
      · have e1 : T * f.binade + k = (T + 1) * f.binade + (k - f.binade) := by rw [Nat.add_mul]; omega
        have hkl : k - f.binade < f.binade := by omega
        refine ⟨_, _, rfl, 0, ?_, ?_⟩
        · rw [e1, Nat.mul_comm, Nat.mul_add_div hB, Nat.div_eq_of_lt hkl]
          omega
        · rw [e1, Nat.mul_comm (T + 1), Nat.mul_add_mod, Nat.mod_eq_of_lt hkl]
          omega
end
/-! ### Powers of two -/
def pw (e : Int) : Rat := (2 : Rat) ^ e
theorem two_ne : (2 : Rat) ≠ 0 := by decide
theorem pw_add (a b : Int) : pw (a + b) = pw a * pw b := Rat.zpow_add two_ne a b
theorem pw_zero : pw 0 = 1 := by decide
theorem pw_one : pw 1 = 2 := by decide
theorem pw_nat (n : Nat) : pw (n : Int) = ((2 ^ n : Nat) : Rat) := by
  induction n with
  | zero => decide
  | succ n ih =>
    rw [show ((n + 1 : Nat) : Int) = (n : Int) + 1 by omega, pw_add, ih, pw_one, Nat.pow_succ, Rat.natCast_mul]
    rfl
theorem nat_pos {n : Nat} (h : 0 < n) : (0 : Rat) < (n : Rat) := by
  have := Rat.natCast_lt_natCast.2 h
  exact this
theorem nat_nonneg (n : Nat) : (0 : Rat) ≤ (n : Rat) := Rat.natCast_le_natCast.2 (Nat.zero_le n)
theorem nat_le {a b : Nat} (h : a ≤ b) : (a : Rat) ≤ (b : Rat) := Rat.natCast_le_natCast.2 h
theorem nat_lt {a b : Nat} (h : a < b) : (a : Rat) < (b : Rat) := Rat.natCast_lt_natCast.2 h
theorem pw_pos (e : Int) : 0 < pw e := by
  rcases Int.le_total 0 e with h | h
  · obtain ⟨n, rfl⟩ := Int.eq_ofNat_of_zero_le h
    rw [pw_nat]
    exact nat_pos (Nat.two_pow_pos n)
  · obtain ⟨n, hn⟩ := Int.eq_ofNat_of_zero_le (show 0 ≤ -e by omega)
    have h1 : pw e * pw n = 1 := by rw [← pw_add, show e + n = 0 by omega, pw_zero]
    have h2 : 0 < pw n := by rw [pw_nat]; exact nat_pos (Nat.two_pow_pos n)
    by_cases h3 : 0 < pw e
    · exact h3
    · exfalso
      have h4 := Rat.not_lt.1 h3
      have := Rat.mul_le_mul_of_nonneg_right h4 (Rat.le_of_lt h2)
      rw [h1] at this
      grind
theorem pw_mono {a b : Int} (h : a ≤ b) : pw a ≤ pw b := by
  obtain ⟨n, hn⟩ := Int.eq_ofNat_of_zero_le (show 0 ≤ b - a by omega)
  rw [show b = a + n by omega, pw_add, pw_nat]
  have h1 : (1 : Rat) ≤ ((2 ^ n : Nat) : Rat) := nat_le (Nat.two_pow_pos n)
  have := Rat.mul_le_mul_of_nonneg_left h1 (Rat.le_of_lt (pw_pos a))
  rw [Rat.mul_one] at this
  exact this
/-! ### What is written -/
def sg (s : Bool) (x : Rat) : Rat := if s then -x else x
/-- A word stands for a number. -/
def V (f : Format) (x : Nat) (r : Rat) : Prop := ∃ s m e, f.read x = .number s m e ∧ r = sg s ((m : Rat) * pw e)
theorem V.eq {f : Format} {x : Nat} {r t : Rat} (h : V f x r) (g : V f x t) : r = t := by
  obtain ⟨s, m, e, h1, rfl⟩ := h
  obtain ⟨s', m', e', g1, rfl⟩ := g
  rw [h1] at g1
  cases g1
  rfl
theorem near_rat {k n up drop : Nat} {place last : Int} (hl : last - place = (drop : Int) - (up : Int)) (h0 : up = 0 ∨ drop = 0) (h1 : 2 * (k * 2 ^ drop) ≤ 2 * (n * 2 ^ up) + 2 ^ drop) (h2 : 2 * (n * 2 ^ up) ≤ 2 * (k * 2 ^ drop) + 2 ^ drop) :
    (n : Rat) * pw place - pw last / 2 ≤ (k : Rat) * pw last ∧ (k : Rat) * pw last ≤ (n : Rat) * pw place + pw last / 2 := by
  have c1 : (2 : Rat) * ((k : Rat) * pw drop) ≤ 2 * ((n : Rat) * pw up) + pw drop := by
    have := nat_le h1
    simp only [Rat.natCast_add, Rat.natCast_mul, ← pw_nat] at this
    exact this
  have c2 : (2 : Rat) * ((n : Rat) * pw up) ≤ 2 * ((k : Rat) * pw drop) + pw drop := by
    have := nat_le h2
    simp only [Rat.natCast_add, Rat.natCast_mul, ← pw_nat] at this
    exact this
  have hp : 0 < pw (place - up) := pw_pos _
  have e1 : pw drop * pw (place - up) = pw last := by rw [← pw_add]; congr 1; omega
  have e2 : pw up * pw (place - up) = pw place := by rw [← pw_add]; congr 1; omega
  have d1 := Rat.mul_le_mul_of_nonneg_right c1 (Rat.le_of_lt hp)
  have d2 := Rat.mul_le_mul_of_nonneg_right c2 (Rat.le_of_lt hp)
  have f1 : (2 : Rat) * ((k : Rat) * pw drop) * pw (place - up) = 2 * ((k : Rat) * pw last) := by rw [← e1]; grind
  have f2 : ((2 : Rat) * ((n : Rat) * pw up) + pw drop) * pw (place - up) = 2 * ((n : Rat) * pw place) + pw last := by rw [← e1, ← e2]; grind
  have f3 : (2 : Rat) * ((n : Rat) * pw up) * pw (place - up) = 2 * ((n : Rat) * pw place) := by rw [← e2]; grind
  have f4 : ((2 : Rat) * ((k : Rat) * pw drop) + pw drop) * pw (place - up) = 2 * ((k : Rat) * pw last) + pw last := by rw [← e1]; grind
  rw [f1, f2] at d1
  rw [f3, f4] at d2
  grind
section
variable {f : Format}
def lastOf (f : Format) (mag : Nat) (place : Int) : Int := max (place + mag.log2 - f.fractionBits) f.leastPlace
/-- The nearest word: half a unit of the last place. -/
theorem nearest_near (hf : Fine f) (neg : Bool) {mag : Nat} {place : Int} (hm : mag ≠ 0) (hov : ((lastOf f mag place - f.leastPlace).toNat + 2) * f.binade < f.infRung) :
    ∃ k : Nat, V f (f.nearest neg mag place) (sg neg ((k : Rat) * pw (lastOf f mag place))) ∧ (mag : Rat) * pw place - pw (lastOf f mag place) / 2 ≤ (k : Rat) * pw (lastOf f mag place) ∧ (k : Rat) * pw (lastOf f mag place) ≤ (mag : Rat) * pw place + pw (lastOf f mag place) / 2 := by
  unfold Format.nearest
  rw [if_neg hm]
  simp only
  have hlo : f.leastPlace ≤ lastOf f mag place := Int.le_max_right _ _
  have hlo2 : place + mag.log2 - f.fractionBits ≤ lastOf f mag place := Int.le_max_left _ _
  have hcase : lastOf f mag place = place + mag.log2 - f.fractionBits ∨ lastOf f mag place = f.leastPlace := by unfold lastOf; omega
  rw [show max (place + (mag.log2 : Int) - f.fractionBits) f.leastPlace = lastOf f mag place from rfl]
  generalize lastOf f mag place = last at *
  obtain ⟨h1, h2⟩ := cut_near neg (mag <<< (place - last).toNat) (last - place).toNat
  have hL1 : 2 ^ mag.log2 ≤ mag := Nat.log2_self_le hm
  have hL2 : mag < 2 ^ (mag.log2 + 1) := Nat.lt_log2_self
  have hk2 : Toward.even.cut neg (mag <<< (place - last).toNat) (last - place).toNat ≤ 2 * f.binade := by
    rw [hf.bin, show 2 * 2 ^ f.fractionBits = 2 ^ (f.fractionBits + 1) by rw [Nat.pow_succ, Nat.mul_comm]]
    refine cut_le _ _ _ _ ?_
    rw [Nat.shiftLeft_eq]
    calc mag * 2 ^ (place - last).toNat < 2 ^ (mag.log2 + 1) * 2 ^ (place - last).toNat := (Nat.mul_lt_mul_right (Nat.two_pow_pos _)).2 hL2
      _ = 2 ^ (mag.log2 + 1 + (place - last).toNat) := (Nat.pow_add ..).symm
      _ ≤ 2 ^ (f.fractionBits + 1 + (last - place).toNat) := Nat.pow_le_pow_right (by decide) (by omega)
  have hk1 : (last - f.leastPlace).toNat = 0 ∨ f.binade ≤ Toward.even.cut neg (mag <<< (place - last).toNat) (last - place).toNat := by
    rcases hcase with hc | hc
    · right
      have hge : 2 ^ (f.fractionBits + (last - place).toNat) ≤ mag <<< (place - last).toNat := by
        rw [Nat.shiftLeft_eq]
        calc 2 ^ (f.fractionBits + (last - place).toNat) ≤ 2 ^ (mag.log2 + (place - last).toNat) := Nat.pow_le_pow_right (by decide) (by omega)
          _ = 2 ^ mag.log2 * 2 ^ (place - last).toNat := Nat.pow_add ..
          _ ≤ mag * 2 ^ (place - last).toNat := Nat.mul_le_mul_right _ hL1
      rw [Nat.pow_add, ← hf.bin] at hge
      have hp := Nat.two_pow_pos (last - place).toNat
      generalize Toward.even.cut neg (mag <<< (place - last).toNat) (last - place).toNat = k at *
      generalize mag <<< (place - last).toNat = n at *
      generalize 2 ^ (last - place).toNat = D at *
      rcases Nat.lt_or_ge k f.binade with hlt | hge'
      · exfalso
        have h5 : (k + 1) * D ≤ f.binade * D := Nat.mul_le_mul_right _ hlt
        rw [Nat.add_mul, Nat.one_mul] at h5
        omega
      · exact hge'
    · left; omega
  rw [Nat.shiftLeft_eq] at h1 h2
  rw [Nat.shiftLeft_eq] at hk1 hk2 ⊢
  generalize Toward.even.cut neg (mag * 2 ^ (place - last).toNat) (last - place).toNat = k at *
  have hTk : (last - f.leastPlace).toNat * f.binade + k < f.infRung := by
    have := Nat.add_mul (last - f.leastPlace).toNat 2 f.binade
    omega
  rw [Nat.min_eq_left (Nat.le_of_lt hTk)]
  obtain ⟨m, e, hr, u, he, hku⟩ := rung_read hf neg _ k hTk hk1 hk2
  refine ⟨k, ⟨neg, m, e, hr, ?_⟩, near_rat (by omega) (by omega) h1 h2⟩
  congr 1
  rw [hku, Rat.natCast_mul, ← pw_nat, show e = last + (u : Int) by omega, pw_add]
  grind
end
end Go.Aw
