/- Numbers that a format has are read back as they were written; the floor of a widened number. -/
import Derived.Test.YtgbfngkmnodgdaaAws
namespace Go.Aw
theorem aux_min (T K : Nat) (hT : T ≤ 2045) (hk : K < 2 ^ 53) : min (T * 2 ^ 52 + K) (2047 * 2 ^ 52) = T * 2 ^ 52 + K := by omega
theorem aux_mod (T K : Nat) (hk : K < 2 ^ 53) (hk2 : 2 ^ 52 ≤ K) : (T * 2 ^ 52 + K) % 2 ^ 52 = K - 2 ^ 52 := by omega
theorem aux_div (T K : Nat) (hk : K < 2 ^ 53) (hk2 : 2 ^ 52 ≤ K) : (T * 2 ^ 52 + K) / 2 ^ 52 = T + 1 := by omega
theorem aux_lo (T K : Nat) (hk2 : 2 ^ 52 ≤ K) : ¬ T * 2 ^ 52 + K < 2 ^ 52 := by omega
theorem aux_hi (T K : Nat) (hT : T ≤ 2045) (hk : K < 2 ^ 53) : T * 2 ^ 52 + K < 2047 * 2 ^ 52 := by omega
theorem aux_add (K : Nat) (hk2 : 2 ^ 52 ≤ K) : 2 ^ 52 + (K - 2 ^ 52) = K := by omega
theorem aux_w0 (T K : Nat) (hT : T ≤ 2045) (hk : K < 2 ^ 53) : (T * 2 ^ 52 + K) / 2 ^ 63 % 2 = 0 ∧ (T * 2 ^ 52 + K) % 2 ^ 63 = T * 2 ^ 52 + K := by omega
theorem aux_w1 (T K : Nat) (hT : T ≤ 2045) (hk : K < 2 ^ 53) : (2 ^ 63 + (T * 2 ^ 52 + K)) / 2 ^ 63 % 2 = 1 ∧ (2 ^ 63 + (T * 2 ^ 52 + K)) % 2 ^ 63 = T * 2 ^ 52 + K := by omega
/-- A number of at most 53 digits, written as a double, reads back the same. -/
theorem read_write64 {s : Bool} {m : Nat} {e : Int} (hm : m ≠ 0) (h1 : m < 2 ^ 53) (h2 : -1074 ≤ e + m.log2 - 52) (h3 : e + m.log2 ≤ 1023) :
    FloatKind.f64.format.read (FloatKind.f64.format.write (.number s m e)) = .number s (m <<< (52 - m.log2)) (e + m.log2 - 52) := by
  have hs : FloatKind.f64.format.signWeight = 2 ^ 63 := by decide
  have hbin : FloatKind.f64.format.binade = 2 ^ 52 := by decide
  have hinf : FloatKind.f64.format.infRung = 2047 * 2 ^ 52 := by decide
  have hlp : FloatKind.f64.format.leastPlace = -1074 := by decide
  have hfr : (FloatKind.f64.format.fractionBits : Int) = 52 := rfl
  have hlog : m.log2 ≤ 52 := by
    have := (Nat.log2_lt hm).2 h1
    omega
  unfold Ieee.Format.write Ieee.Format.nearest
  simp only [hm, if_false]
  rw [hinf, hbin, hlp, hfr]
  have hlast : max (e + ↑m.log2 - 52) (-1074) = e + ↑m.log2 - 52 := by omega
  rw [hlast]
  have hdrop : (e + ↑m.log2 - 52 - e).toNat = 0 := by omega
  have hup : (e - (e + ↑m.log2 - 52)).toNat = 52 - m.log2 := by omega
  rw [hdrop, hup]
  have hcut : Ieee.Toward.even.cut s (m <<< (52 - m.log2)) 0 = m <<< (52 - m.log2) := by
    unfold Ieee.Toward.cut
    simp [Nat.mod_one]
  rw [hcut]
  have hk : m <<< (52 - m.log2) < 2 ^ 53 := by
    have h1 : m < 2 ^ (m.log2 + 1) := Nat.lt_log2_self
    rw [Nat.shiftLeft_eq]
    calc m * 2 ^ (52 - m.log2) < 2 ^ (m.log2 + 1) * 2 ^ (52 - m.log2) := (Nat.mul_lt_mul_right (Nat.two_pow_pos _)).2 h1
      _ = 2 ^ 53 := by rw [← Nat.pow_add]; congr 1; omega
  have hk2 : 2 ^ 52 ≤ m <<< (52 - m.log2) := by
    have h1 : 2 ^ m.log2 ≤ m := Nat.log2_self_le hm
    rw [Nat.shiftLeft_eq]
    calc 2 ^ 52 = 2 ^ m.log2 * 2 ^ (52 - m.log2) := by rw [← Nat.pow_add]; congr 1; omega
      _ ≤ m * 2 ^ (52 - m.log2) := Nat.mul_le_mul_right _ h1
  generalize hK : m <<< (52 - m.log2) = K at hk hk2
  obtain ⟨T, hT⟩ : ∃ T : Nat, (e + ↑m.log2 - 52 - -1074).toNat = T := ⟨_, rfl⟩
  have hT' : e + ↑m.log2 - 52 = (T : Int) - 1074 := by omega
  have hTb : T ≤ 2045 := by omega
  rw [hT, hT']
  rw [aux_min T K hTb hk]
  have hword : FloatKind.f64.format.word s (T * 2 ^ 52 + K) / 2 ^ 63 % 2 = s.toNat ∧ FloatKind.f64.format.word s (T * 2 ^ 52 + K) % 2 ^ 63 = T * 2 ^ 52 + K := by
    unfold Ieee.Format.word
    rw [hs]
    cases s
    · exact aux_w0 T K hTb hk
    · exact aux_w1 T K hTb hk
  unfold Ieee.Format.read
  rw [hs, hbin, hinf, hlp]
  obtain ⟨w1, w2⟩ := hword
  generalize FloatKind.f64.format.word s (T * 2 ^ 52 + K) = W at w1 w2
  simp only [w1, w2]
  rw [if_neg (aux_lo T K hk2), if_pos (aux_hi T K hTb hk), aux_mod T K hk hk2, aux_div T K hk hk2, aux_add K hk2]
  have e4 : (s.toNat == 1) = s := by cases s <;> rfl
  rw [e4]
  have e5 : (-1074 : Int) + ((T + 1 - 1 : Nat) : Int) = (T : Int) - 1074 := by omega
  rw [e5]
/-- Down and towards zero are the same for what is not negative: what is left of the division. -/
theorem cut_div (w : Ieee.Toward) (hw : w = .down ∨ w = .zero) (n d : Nat) : w.cut false n d = n / 2 ^ d := by
  have key : n / (1 <<< min d (n.log2 + 2)) = n / 2 ^ d := by
    rw [Nat.shiftLeft_eq, Nat.one_mul]
    rcases Nat.le_total d (n.log2 + 2) with h | h
    · rw [Nat.min_eq_left h]
    · rw [Nat.min_eq_right h]
      have h1 : n < 2 ^ (n.log2 + 2) := Nat.lt_of_lt_of_le Nat.lt_log2_self (Nat.pow_le_pow_right (by decide) (by omega))
      have h2 : n < 2 ^ d := Nat.lt_of_lt_of_le h1 (Nat.pow_le_pow_right (by decide) h)
      rw [Nat.div_eq_of_lt h1, Nat.div_eq_of_lt h2]
  unfold Ieee.Toward.cut
  rcases hw with rfl | rfl <;> simp [key]
/-- The whole number below m * 2 ^ e. -/
def truncV (m : Nat) (e : Int) : Nat := (m <<< e.toNat) / 2 ^ (-e).toNat
theorem truncV_shift (m : Nat) (e : Int) (k : Nat) : truncV (m <<< k) (e - k) = truncV m e := by
  unfold truncV
  simp only [Nat.shiftLeft_eq]
  rcases Int.lt_or_le e k with h | h
  · rw [show (e - (k : Int)).toNat = 0 by omega, Nat.pow_zero, Nat.mul_one]
    rcases Int.lt_or_le e 0 with h0 | h0
    · rw [show e.toNat = 0 by omega, Nat.pow_zero, Nat.mul_one, show (-(e - (k : Int))).toNat = (-e).toNat + k by omega, Nat.pow_add]
      exact Nat.mul_div_mul_right _ _ (Nat.two_pow_pos k)
    · rw [show (-e).toNat = 0 by omega, Nat.pow_zero, Nat.div_one]
      obtain ⟨j, rfl⟩ : ∃ j, k = j + e.toNat := ⟨k - e.toNat, by omega⟩
      rw [show (-(e - ((j + e.toNat : Nat) : Int))).toNat = j by omega, Nat.pow_add, Nat.mul_comm (2 ^ j), ← Nat.mul_assoc]
      exact Nat.mul_div_cancel _ (Nat.two_pow_pos j)
  · rw [show (-e).toNat = 0 by omega, show (-(e - (k : Int))).toNat = 0 by omega, Nat.pow_zero, Nat.div_one, Nat.div_one, Nat.mul_assoc, ← Nat.pow_add]
    congr 2
    omega
theorem toInt_pos (m : Nat) (e : Int) : (Ieee.Datum.number false m e).toInt .zero = some ((truncV m e : Nat) : Int) := by
  unfold Ieee.Datum.toInt Ieee.Datum.integral
  simp only [cut_div .zero (.inr rfl)]
  simp only [Ieee.signed, Bool.false_eq_true, if_false, Nat.shiftLeft_zero, truncV]
theorem integral_pos (m : Nat) (e : Int) : (Ieee.Datum.number false m e).integral .down = .number false (truncV m e) 0 := by
  unfold Ieee.Datum.integral
  simp only [cut_div .down (.inl rfl), truncV]
/-- The floor of a number that is not negative, as a double, is the number towards zero. -/
theorem floor_wide {m : Nat} {e : Int} (hm : m ≠ 0) (h1 : m < 2 ^ 24) (h2 : -149 ≤ e) (h3 : e ≤ 104) (hv : truncV m e < 2 ^ 24) :
    (FloatKind.f64.format.read (FloatKind.f64.format.write ((FloatKind.f64.format.read (FloatKind.f64.format.write (.number false m e))).integral .down))).toInt .zero = some ((truncV m e : Nat) : Int) := by
  have hlog : m.log2 ≤ 23 := by
    have := (Nat.log2_lt hm).2 h1
    omega
  rw [read_write64 hm (by omega) (by omega) (by omega), integral_pos]
  have e1 : truncV (m <<< (52 - m.log2)) (e + m.log2 - 52) = truncV m e := by
    have := truncV_shift m e (52 - m.log2)
    rwa [show e - ((52 - m.log2 : Nat) : Int) = e + m.log2 - 52 by omega] at this
  rw [e1]
  generalize truncV m e = F at hv
  by_cases hF : F = 0
  · subst hF
    decide +kernel
  · have hlog2 : F.log2 ≤ 23 := by
      have := (Nat.log2_lt hF).2 hv
      omega
    rw [read_write64 hF (by omega) (by omega) (by omega), toInt_pos]
    have e2 : truncV (F <<< (52 - F.log2)) (0 + F.log2 - 52) = F := by
      have := truncV_shift F 0 (52 - F.log2)
      rw [show (0 : Int) - ((52 - F.log2 : Nat) : Int) = 0 + F.log2 - 52 by omega] at this
      rw [this]
      simp [truncV]
    rw [e2]
theorem trunc_le {m L : Nat} {e b : Int} (hb : b ≤ e) (h0 : b ≤ 0) (h : m <<< (e - b).toNat ≤ L * 2 ^ (-b).toNat) : truncV m e ≤ L := by
  unfold truncV
  rw [Nat.shiftLeft_eq] at h ⊢
  refine Nat.div_le_of_le_mul ?_
  rcases Int.lt_or_le e 0 with h1 | h1
  · rw [show e.toNat = 0 by omega, Nat.pow_zero, Nat.mul_one]
    rw [show (-b).toNat = (e - b).toNat + (-e).toNat by omega, Nat.pow_add, Nat.mul_comm (2 ^ (e - b).toNat), ← Nat.mul_assoc] at h
    rw [Nat.mul_comm]
    exact Nat.le_of_mul_le_mul_right h (Nat.two_pow_pos _)
  · rw [show (-e).toNat = 0 by omega, Nat.pow_zero, Nat.one_mul]
    rw [show (e - b).toNat = e.toNat + (-b).toNat by omega, Nat.pow_add, ← Nat.mul_assoc] at h
    exact Nat.le_of_mul_le_mul_right h (Nat.two_pow_pos _)
def smallD (L : Nat) : Ieee.Datum := if L = 0 then .number false 0 (-149) else .number false (L <<< (23 - L.log2)) ((L.log2 : Int) - 23)
theorem read_small : ∀ L : Fin 128, FloatKind.f32.format.read (itof .f32 (L.val : Int)) = smallD L.val := by decide +kernel
theorem read_zero32 : FloatKind.f32.format.read 0 = .number false 0 (-149) := by decide +kernel
/-- What a 32-bit word that is a number stands for. -/
theorem read32_bounds {x : Nat} {s : Bool} {m : Nat} {e : Int} (hd : FloatKind.f32.format.read x = .number s m e) : m < 2 ^ 24 ∧ -149 ≤ e ∧ e ≤ 104 := by
  have hs : FloatKind.f32.format.signWeight = 2 ^ 31 := by decide
  have hbin : FloatKind.f32.format.binade = 2 ^ 23 := by decide
  have hinf : FloatKind.f32.format.infRung = 255 * 2 ^ 23 := by decide
  have hlp : FloatKind.f32.format.leastPlace = -149 := by decide
  unfold Ieee.Format.read at hd
  rw [hs, hbin, hinf, hlp] at hd
  generalize x % 2 ^ 31 = r at hd
  simp only at hd
  split at hd
  · cases hd; omega
  · split at hd
    · cases hd; omega
    · split at hd <;> cases hd
theorem cmp_le {a b : Int} (h : (compare a b == .lt || compare a b == .eq) = true) : a ≤ b := by
  cases hc : compare a b with
  | lt => exact Int.le_of_lt (Int.compare_eq_lt.1 hc)
  | eq => rw [Int.compare_eq_eq.1 hc]; exact Int.le_refl _
  | gt => rw [hc] at h; cases h
theorem cmp_ge {a b : Int} (h : (compare a b == .gt || compare a b == .eq) = true) : b ≤ a := by
  cases hc : compare a b with
  | gt => exact Int.le_of_lt (Int.compare_eq_gt.1 hc)
  | eq => rw [Int.compare_eq_eq.1 hc]; exact Int.le_refl _
  | lt => rw [hc] at h; cases h
/-- A number from 0 to a small whole number. -/
theorem small_num {x : Nat} {L : Nat} (hL : L < 128) (h0 : fge .f32 x 0 = true) (h1 : fle .f32 x (itof .f32 (L : Int)) = true) :
    ∃ s m e, FloatKind.f32.format.read x = .number s m e ∧ (s = false ∨ m = 0) ∧ truncV m e ≤ L := by
  unfold fge fgt feq Ieee.Format.order at h0
  unfold fle flt feq Ieee.Format.order at h1
  rw [read_zero32] at h0
  rw [read_small ⟨L, hL⟩] at h1
  cases hx : FloatKind.f32.format.read x with
  | nan s t => rw [hx] at h0; cases h0
  | infinity s =>
    exfalso
    rw [hx] at h0 h1
    unfold smallD at h1
    cases s with
    | true => cases h0
    | false => split at h1 <;> cases h1
  | number s m e =>
    rw [hx] at h0 h1
    have hs : s = false ∨ m = 0 := by
      cases s with
      | false => exact .inl rfl
      | true =>
        right
        have := cmp_ge (a := Ieee.signed true m (e - min e (-149)).toNat) (b := Ieee.signed false 0 (-149 - min e (-149)).toNat) (by simpa [Ieee.Datum.order] using h0)
        simp only [Ieee.signed, if_true, Bool.false_eq_true, if_false, Nat.shiftLeft_eq] at this
        have hz : m * 2 ^ (e - min e (-149)).toNat = 0 := by omega
        rcases Nat.mul_eq_zero.1 hz with h | h
        · exact h
        · exact absurd h (Nat.pos_iff_ne_zero.1 (Nat.two_pow_pos _))
    refine ⟨s, m, e, rfl, hs, ?_⟩
    rcases Nat.eq_zero_or_pos m with hm | hm
    · subst hm; simp [truncV]
    · obtain rfl : s = false := by
        rcases hs with h | h
        · exact h
        · omega
      unfold smallD at h1
      by_cases hz : L = 0
      · subst hz
        simp only [if_true] at h1
        have := cmp_le (a := Ieee.signed false m (e - min e (-149)).toNat) (b := Ieee.signed false 0 (-149 - min e (-149)).toNat) (by simpa [Ieee.Datum.order] using h1)
        simp only [Ieee.signed, Bool.false_eq_true, if_false, Nat.zero_shiftLeft] at this
        refine trunc_le (b := min e (-149)) (by omega) (by omega) ?_
        omega
      · simp only [hz, if_false] at h1
        have hl : L.log2 ≤ 6 := by
          have := (Nat.log2_lt hz).2 (show L < 2 ^ 7 by omega)
          omega
        have := cmp_le (a := Ieee.signed false m (e - min e ((L.log2 : Int) - 23)).toNat) (b := Ieee.signed false (L <<< (23 - L.log2)) (((L.log2 : Int) - 23) - min e ((L.log2 : Int) - 23)).toNat) (by simpa [Ieee.Datum.order] using h1)
        simp only [Ieee.signed, Bool.false_eq_true, if_false] at this
        refine trunc_le (b := min e ((L.log2 : Int) - 23)) (by omega) (by omega) ?_
        have h2 : (L <<< (23 - L.log2)) <<< (((L.log2 : Int) - 23) - min e ((L.log2 : Int) - 23)).toNat = L * 2 ^ (-(min e ((L.log2 : Int) - 23))).toNat := by
          rw [Nat.shiftLeft_eq, Nat.shiftLeft_eq, Nat.mul_assoc, ← Nat.pow_add]
          congr 2
          omega
        omega
/-- The floor of a double. -/
def floorF (y : Nat) : Nat := FloatKind.f64.encode ((FloatKind.f64.decode y).integral .down)
theorem widen_num {x : Nat} {s : Bool} {m : Nat} {e : Int} (hx : FloatKind.f32.format.read x = .number s m e) : f2f .f32 x .f64 = FloatKind.f64.format.write (.number s m e) := by
  have hn : isNaN .f32 x = false := by
    show (FloatKind.f32.format.read x).isNaN = false
    rw [hx]; rfl
  have h := widen_some hn
  have hd : FloatKind.f32.decode x = .number s m e := hx
  unfold f2f
  unfold floatToFloatBits at h ⊢
  rw [if_neg (by decide), hd] at h ⊢
  simp only at h ⊢
  split at h
  · cases h
  · rename_i hi
    rw [if_neg hi]
    rfl
/-- The floor of a small number, as an integer: the number towards zero. -/
theorem floor_law {x L : Nat} (hL : L < 128) (h0 : fge .f32 x 0 = true) (h1 : fle .f32 x (itof .f32 (L : Int)) = true) :
    ∃ k : Nat, k ≤ L ∧ floatToIntVal .f32 x .i64 = some (k : Int) ∧ floatToIntVal .f64 (floorF (f2f .f32 x .f64)) .i64 = some (k : Int) ∧ isNaN .f64 (f2f .f32 x .f64) = false := by
  obtain ⟨s, m, e, hx, hs, hk⟩ := small_num hL h0 h1
  obtain ⟨b1, b2, b3⟩ := read32_bounds hx
  have hnan : isNaN .f64 (f2f .f32 x .f64) = false := by rw [widen_num hx]; exact isNaN_encode_number _ _ _ _
  have hmin : ∀ k : Nat, k < 128 → (IntKind.i64.min ≤ (k : Int) ∧ (k : Int) ≤ IntKind.i64.max) := by
    intro k hk
    have e1 : IntKind.i64.min = -9223372036854775808 := by decide
    have e2 : IntKind.i64.max = 9223372036854775807 := by decide
    rw [e1, e2]
    omega
  refine ⟨truncV m e, hk, ?_, ?_, hnan⟩
  · have hd : FloatKind.f32.decode x = .number s m e := hx
    unfold floatToIntVal
    rw [hd]
    rcases Nat.eq_zero_or_pos m with hm | hm
    · subst hm
      have e1 : (Ieee.Datum.number s 0 e).toInt .zero = some 0 := by
        unfold Ieee.Datum.toInt Ieee.Datum.integral Ieee.Toward.cut
        cases s <;> simp [Ieee.signed]
      have e2 : truncV 0 e = 0 := by simp [truncV]
      rw [e1, e2]
      decide
    · obtain rfl : s = false := by
        rcases hs with h | h
        · exact h
        · omega
      rw [toInt_pos]
      simp only
      rw [if_pos (hmin _ (by omega))]
  · rw [widen_num hx]
    unfold floatToIntVal floorF FloatKind.decode FloatKind.encode
    rcases Nat.eq_zero_or_pos m with hm | hm
    · subst hm
      have e2 : truncV 0 e = 0 := by simp [truncV]
      rw [e2]
      have e3 : FloatKind.f64.format.write (.number s 0 e) = FloatKind.f64.format.write (.number s 0 0) := by
        unfold Ieee.Format.write Ieee.Format.nearest
        simp only [if_true]
      rw [e3]
      cases s <;> decide +kernel
    · obtain rfl : s = false := by
        rcases hs with h | h
        · exact h
        · omega
      rw [floor_wide (by omega) b1 b2 b3 (by omega)]
      simp only
      rw [if_pos (hmin _ (by omega))]
end Go.Aw
