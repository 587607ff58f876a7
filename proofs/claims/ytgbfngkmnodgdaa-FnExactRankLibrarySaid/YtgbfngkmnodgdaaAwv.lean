/- Words of single numbers: equal numbers of equal sign are equal words; the sign of a widened number. -/
import Derived.Test.YtgbfngkmnodgdaaAwu
namespace Go.Aw
def signF (x : Nat) : Bool := x / 2147483648 % 2 == 1
theorem f32_sign : FloatKind.f32.format.signWeight = 2147483648 := by decide
theorem f32_bin : FloatKind.f32.format.binade = 8388608 := by decide
theorem f32_inf : FloatKind.f32.format.infRung = 2139095040 := by decide
theorem f32_least : FloatKind.f32.format.leastPlace = -149 := by decide
theorem read32_num {x : Nat} (h : x % 2147483648 < 2139095040) : ∃ m p : Nat, FloatKind.f32.format.read x = .number (signF x) m (-149 + (p : Int)) ∧ m < 16777216 ∧ (p = 0 ∨ 8388608 ≤ m) ∧ x % 2147483648 = p * 8388608 + m := by
  unfold Ieee.Format.read
  rw [f32_sign, f32_bin, f32_inf, f32_least]
  simp only
  by_cases h1 : x % 2147483648 < 8388608
  · rw [if_pos h1]
    exact ⟨x % 2147483648, 0, rfl, by omega, .inl rfl, by omega⟩
  · rw [if_neg h1, if_pos h]
    exact ⟨8388608 + x % 2147483648 % 8388608, x % 2147483648 / 8388608 - 1, rfl, by omega, .inr (by omega), by omega⟩
theorem read32_inf {x : Nat} (h : x % 2147483648 = 2139095040) : FloatKind.f32.format.read x = .infinity (signF x) := by
  unfold Ieee.Format.read
  rw [f32_sign, f32_bin, f32_inf, f32_least]
  simp only [h]
  rfl
theorem read32_nan {x : Nat} (h : 2139095040 < x % 2147483648) : isNaN .f32 x = true := by
  unfold isNaN FloatKind.decode Ieee.Format.read
  rw [f32_sign, f32_bin, f32_inf, f32_least]
  simp only
  rw [if_neg (by omega), if_neg (by omega), if_neg (by omega)]
  rfl
theorem mag_eq {m n p q : Nat} (hm : m < 16777216) (hn : n < 16777216) (cm : p = 0 ∨ 8388608 ≤ m) (cn : q = 0 ∨ 8388608 ≤ n) (h : m * 2 ^ (p - min p q) = n * 2 ^ (q - min p q)) : p = q ∧ m = n := by
  rcases Nat.lt_trichotomy p q with hl | he | hg
  · exfalso
    rw [show min p q = p by omega, Nat.sub_self, Nat.pow_zero, Nat.mul_one] at h
    obtain ⟨d, hd⟩ : ∃ d, q - p = d + 1 := ⟨q - p - 1, by omega⟩
    rw [hd, Nat.pow_succ] at h
    have h1 : 8388608 ≤ n := by omega
    have h2 : 1 ≤ 2 ^ d := Nat.two_pow_pos d
    have h3 : n * 2 ≤ n * (2 ^ d * 2) := Nat.mul_le_mul_left _ (by omega)
    omega
  · subst he
    rw [Nat.min_self, Nat.sub_self, Nat.pow_zero, Nat.mul_one, Nat.mul_one] at h
    exact ⟨rfl, h⟩
  · exfalso
    rw [show min p q = q by omega, Nat.sub_self, Nat.pow_zero, Nat.mul_one] at h
    obtain ⟨d, hd⟩ : ∃ d, p - q = d + 1 := ⟨p - q - 1, by omega⟩
    rw [hd, Nat.pow_succ] at h
    have h1 : 8388608 ≤ m := by omega
    have h2 : 1 ≤ 2 ^ d := Nat.two_pow_pos d
    have h3 : m * 2 ≤ m * (2 ^ d * 2) := Nat.mul_le_mul_left _ (by omega)
    omega
theorem same_words {a b : Nat} (ha : a < 4294967296) (hb : b < 4294967296) (hna : isNaN .f32 a = false) (hnb : isNaN .f32 b = false) : (feq .f32 a b && (signF a == signF b)) = decide (a = b) := by
  rw [Bool.eq_iff_iff, Bool.and_eq_true, decide_eq_true_eq]
  have rng : ∀ {x : Nat}, isNaN .f32 x = false → x % 2147483648 ≤ 2139095040 := fun {x} h => by
    refine Nat.le_of_not_lt fun h' => ?_
    rw [read32_nan h'] at h; cases h
  constructor
  · rintro ⟨h1, h2⟩
    have hs : a / 2147483648 = b / 2147483648 := by
      unfold signF at h2
      have h3 : a / 2147483648 < 2 := by omega
      have h4 : b / 2147483648 < 2 := by omega
      generalize a / 2147483648 = u at *
      generalize b / 2147483648 = v at *
      have hu : u = 0 ∨ u = 1 := by omega
      have hv : v = 0 ∨ v = 1 := by omega
      rcases hu with rfl | rfl <;> rcases hv with rfl | rfl <;> first | rfl | (exfalso; revert h2; decide)
    have hse : signF a = signF b := by unfold signF; rw [hs]
    suffices hr : a % 2147483648 = b % 2147483648 by omega
    unfold feq Ieee.Format.order at h1
    rcases Nat.lt_or_eq_of_le (rng hna) with la | la <;> rcases Nat.lt_or_eq_of_le (rng hnb) with lb | lb
    · obtain ⟨m, p, e1, m1, m2, m3⟩ := read32_num la
      obtain ⟨n, q, e2, n1, n2, n3⟩ := read32_num lb
      rw [e1, e2, hse] at h1
      simp only [Ieee.Datum.order, beq_iff_eq, Option.some.injEq] at h1
      have h5 := Std.LawfulEqCmp.eq_of_compare h1
      have hmin : min (-149 + (p : Int)) (-149 + (q : Int)) = -149 + ((min p q : Nat) : Int) := by omega
      rw [hmin, show (-149 + (p : Int) - (-149 + ((min p q : Nat) : Int))).toNat = p - min p q by omega, show (-149 + (q : Int) - (-149 + ((min p q : Nat) : Int))).toNat = q - min p q by omega] at h5
      have h6 : m * 2 ^ (p - min p q) = n * 2 ^ (q - min p q) := by
        unfold Ieee.signed at h5
        rw [Nat.shiftLeft_eq, Nat.shiftLeft_eq] at h5
        generalize signF b = z at h5
        cases z
        · simp only [Bool.false_eq_true, if_false] at h5
          exact Int.ofNat.inj h5
        · simp only [if_true] at h5
          exact Int.ofNat.inj (Int.neg_inj.1 h5)
      obtain ⟨rfl, rfl⟩ := mag_eq m1 n1 m2 n2 h6
      omega
    · obtain ⟨m, p, e1, _⟩ := read32_num la
      rw [e1, read32_inf lb] at h1
      simp only [Ieee.Datum.order] at h1
      exfalso
      revert h1
      cases signF b <;> simp
    · obtain ⟨m, p, e1, _⟩ := read32_num lb
      rw [e1, read32_inf la] at h1
      simp only [Ieee.Datum.order] at h1
      exfalso
      revert h1
      cases signF a <;> simp
    · rw [la, lb]
  · rintro rfl
    refine ⟨?_, by simp⟩
    unfold feq Ieee.Format.order
    cases hr : FloatKind.f32.format.read a with
    | nan s t => unfold isNaN FloatKind.decode at hna; rw [hr] at hna; cases hna
    | infinity s => cases s <;> rfl
    | number s m e => simp [Ieee.Datum.order]
theorem f64_sign : FloatKind.f64.format.signWeight = 9223372036854775808 := by decide
theorem f64_inf : FloatKind.f64.format.infRung = 9218868437227405312 := by decide
/-- The sign of what a double is written from stands above its other bits. -/
theorem write_sign (s : Bool) (d : Ieee.Datum) (h : (∃ m e, d = .number s m e) ∨ d = .infinity s) : (9223372036854775808 ≤ FloatKind.f64.format.write d ↔ s = true) ∧ FloatKind.f64.format.write d < 18446744073709551616 := by
  have key : ∀ r, r ≤ 9218868437227405312 → (9223372036854775808 ≤ FloatKind.f64.format.word s r ↔ s = true) ∧ FloatKind.f64.format.word s r < 18446744073709551616 := by
    intro r hr
    unfold Ieee.Format.word
    rw [f64_sign]
    cases s
    · simp only [Bool.false_eq_true, if_false]
      exact ⟨⟨fun h => by omega, fun h => by cases h⟩, by omega⟩
    · simp only [if_true]
      exact ⟨⟨fun _ => trivial, fun _ => by omega⟩, by omega⟩
  rcases h with ⟨m, e, rfl⟩ | rfl
  · unfold Ieee.Format.write Ieee.Format.nearest
    simp only
    split
    · exact key 0 (by omega)
    · exact key _ (by rw [f64_inf]; exact Nat.min_le_right _ _)
  · unfold Ieee.Format.write
    simp only
    rw [f64_inf]
    exact key _ (Nat.le_refl _)
theorem sign_widen {x : Nat} (h : isNaN .f32 x = false) : decide (IntKind.i64.wrap (f2f .f32 x .f64 : Int) < 0) = signF x := by
  have hd : ∃ d, floatToFloatBits .f32 x .f64 = some (FloatKind.f64.format.write d) ∧ ((∃ m e, d = .number (signF x) m e) ∨ d = .infinity (signF x)) := by
    have hs := widen_some h
    have rng : x % 2147483648 ≤ 2139095040 := by
      refine Nat.le_of_not_lt fun h' => ?_
      rw [read32_nan h'] at h; cases h
    unfold floatToFloatBits at hs ⊢
    rw [if_neg (by decide)] at hs ⊢
    rcases Nat.lt_or_eq_of_le rng with la | la
    · obtain ⟨m, p, e1, _⟩ := read32_num la
      unfold FloatKind.decode at hs ⊢
      rw [e1] at hs ⊢
      simp only at hs ⊢
      split at hs
      · cases hs
      · rename_i hh
        rw [if_neg hh]
        exact ⟨_, rfl, .inl ⟨_, _, rfl⟩⟩
    · unfold FloatKind.decode
      rw [read32_inf la]
      exact ⟨_, rfl, .inr rfl⟩
  obtain ⟨d, e1, e2⟩ := hd
  obtain ⟨k1, k2⟩ := write_sign _ d e2
  unfold f2f
  rw [e1, Option.getD_some]
  generalize FloatKind.f64.format.write d = W at k1 k2
  have hw : IntKind.i64.wrap (W : Int) = if W < 9223372036854775808 then (W : Int) else (W : Int) - 18446744073709551616 := by
    have hb : IntKind.i64.bits = 64 := rfl
    have hs : IntKind.i64.signed = true := rfl
    unfold IntKind.wrap
    rw [hb, hs]
    simp only [Bool.true_and, decide_eq_true_eq]
    rw [show ((2 : Int) ^ 64) = 18446744073709551616 by decide, show ((2 : Int) ^ (64 - 1)) = 9223372036854775808 by decide]
    rw [Int.emod_eq_of_lt (by omega) (by omega)]
    by_cases h9 : W < 9223372036854775808
    · rw [if_pos h9, if_neg (by omega)]
    · rw [if_neg h9, if_pos (by omega)]
  rw [hw]
  cases hz : signF x with
  | true =>
    have := k1.2 hz
    rw [if_neg (by omega)]
    exact decide_eq_true (by omega)
  | false =>
    have h3 : ¬ 9223372036854775808 ≤ W := fun e => by have := k1.1 e; rw [hz] at this; cases this
    rw [if_pos (by omega)]
    exact decide_eq_false (by omega)
end Go.Aw
