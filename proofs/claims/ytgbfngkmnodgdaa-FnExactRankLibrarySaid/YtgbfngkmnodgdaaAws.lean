/- How great the numbers are that words stand for: the square root of a 32-bit number, narrowed, is never too great. -/
import Derived.Test.YtgbfngkmnodgdaaAwd
namespace Go.Aw
open Ieee

theorem log2_div_le {n k : Nat} (h : n < 2 ^ (k + 1)) (hn : n ≠ 0) : n.log2 ≤ k := by
  have := (Nat.log2_lt hn).2 h
  omega
/-- What is kept of a number is at most one binade and one more. -/
theorem cut_le (neg : Bool) (n drop K : Nat) (h : n < 2 ^ (K + drop)) : Toward.even.cut neg n drop ≤ 2 ^ K := by
  unfold Toward.cut
  simp only
  have hg : 1 <<< min drop (n.log2 + 2) = 2 ^ min drop (n.log2 + 2) := by rw [Nat.shiftLeft_eq, Nat.one_mul]
  rw [hg]
  have hlow : n / 2 ^ min drop (n.log2 + 2) < 2 ^ K := by
    rcases Nat.le_total drop (n.log2 + 2) with hd | hd
    · rw [Nat.min_eq_left hd]
      exact Nat.div_lt_of_lt_mul (by rw [← Nat.pow_add, Nat.add_comm]; exact h)
    · rw [Nat.min_eq_right hd, Nat.div_eq_of_lt]
      · exact Nat.two_pow_pos K
      · have : n < 2 ^ (n.log2 + 1) := Nat.lt_log2_self
        exact Nat.lt_of_lt_of_le this (Nat.pow_le_pow_right (by decide) (by omega))
  have hb : ∀ b : Bool, b.toNat ≤ 1 := fun b => by cases b <;> simp
  have := hb (decide (2 ^ min drop (n.log2 + 2) < 2 * (n % 2 ^ min drop (n.log2 + 2))) || (2 ^ min drop (n.log2 + 2) == 2 * (n % 2 ^ min drop (n.log2 + 2)) && n / 2 ^ min drop (n.log2 + 2) % 2 == 1))
  omega
/-- The rung of a number that is not too great. -/
theorem nearest_rung (f : Format) (neg : Bool) (m : Nat) (e : Int) (B : Int) (hB : f.leastPlace + f.fractionBits ≤ B) (h : m = 0 ∨ e + m.log2 ≤ B) :
    ∃ r, f.nearest neg m e = f.word neg r ∧ r ≤ f.infRung ∧ r ≤ (B - f.fractionBits - f.leastPlace).toNat * f.binade + 2 ^ (f.fractionBits + 1) := by
  unfold Format.nearest
  split
  · exact ⟨0, rfl, Nat.zero_le _, Nat.zero_le _⟩
  · rename_i hm
    have h := h.resolve_left hm
    simp only
    refine ⟨_, rfl, Nat.min_le_right _ _, Nat.le_trans (Nat.min_le_left _ _) ?_⟩
    generalize hl : max (e + ↑m.log2 - ↑f.fractionBits) f.leastPlace = last
    have h1 : last ≤ B - f.fractionBits := by omega
    have h2 : e + m.log2 - f.fractionBits ≤ last := by omega
    have hcut : Toward.even.cut neg (m <<< (e - last).toNat) (last - e).toNat ≤ 2 ^ (f.fractionBits + 1) := by
      refine cut_le _ _ _ _ ?_
      rw [Nat.shiftLeft_eq]
      have hm2 : m < 2 ^ (m.log2 + 1) := Nat.lt_log2_self
      calc m * 2 ^ (e - last).toNat < 2 ^ (m.log2 + 1) * 2 ^ (e - last).toNat := (Nat.mul_lt_mul_right (Nat.two_pow_pos _)).2 hm2
        _ = 2 ^ (m.log2 + 1 + (e - last).toNat) := (Nat.pow_add ..).symm
        _ ≤ 2 ^ (f.fractionBits + 1 + (last - e).toNat) := Nat.pow_le_pow_right (by decide) (by omega)
    have hmul : (last - f.leastPlace).toNat * f.binade ≤ (B - f.fractionBits - f.leastPlace).toNat * f.binade := Nat.mul_le_mul_right _ (by omega)
    omega
/-- What a rung stands for is no greater than its binade. -/
theorem read_rung (f : Format) (neg : Bool) (r : Nat) (hr : r < f.infRung) (K : Nat) (hK : r < (K + 1) * f.binade) : ∃ s m e, f.read (f.word neg r) = .number s m e ∧ (m = 0 ∨ e + (m.log2 : Int) ≤ f.leastPlace + f.fractionBits + K) := by
  have hmod : f.word neg r % f.signWeight = r := by
    have hlt : r < f.signWeight := Nat.lt_trans hr f.infRung_lt
    unfold Format.word
    cases neg
    · simpa using Nat.mod_eq_of_lt hlt
    · simp only [if_true]
      rw [Nat.add_mod_left]
      exact Nat.mod_eq_of_lt hlt
  unfold Format.read
  simp only [hmod, hr, if_true]
  have hbp : 0 < f.binade := Nat.two_pow_pos _
  split
  · rename_i h1
    refine ⟨_, _, _, rfl, ?_⟩
    rcases Nat.eq_zero_or_pos r with h0 | h0
    · exact .inl h0
    · right
      have : r.log2 ≤ f.fractionBits := log2_div_le (Nat.lt_of_lt_of_le h1 (Nat.pow_le_pow_right (by decide) (Nat.le_succ _))) (by omega)
      omega
  · refine ⟨_, _, _, rfl, .inr ?_⟩
    have hlt : r % f.binade < f.binade := Nat.mod_lt _ hbp
    have hm : f.binade + r % f.binade < 2 ^ (f.fractionBits + 1) := by
      rw [Nat.pow_succ]
      unfold Format.binade at *
      omega
    have hl : (f.binade + r % f.binade).log2 ≤ f.fractionBits := log2_div_le hm (by omega)
    have hq : r / f.binade < K + 1 := Nat.div_lt_of_lt_mul (by rw [Nat.mul_comm]; exact hK)
    omega
/-- A number that is written and read is at most twice as great. -/
theorem write_read (f : Format) (s : Bool) (m : Nat) (e B : Int) (hB : f.leastPlace + f.fractionBits ≤ B) (h : m = 0 ∨ e + m.log2 ≤ B) (hinf : (B - f.fractionBits - f.leastPlace).toNat * f.binade + 2 ^ (f.fractionBits + 1) < f.infRung) :
    ∃ s' m' e', f.read (f.write (.number s m e)) = .number s' m' e' ∧ (m' = 0 ∨ e' + (m'.log2 : Int) ≤ B + 2) := by
  obtain ⟨r, h1, h2, h3⟩ := nearest_rung f s m e B hB h
  have h4 : 2 ^ (f.fractionBits + 1) = 2 * f.binade := by unfold Format.binade; rw [Nat.pow_succ, Nat.mul_comm]
  have hbp : 0 < f.binade := Nat.two_pow_pos _
  obtain ⟨s', m', e', k1, k2⟩ := read_rung f s r (by omega) ((B - f.fractionBits - f.leastPlace).toNat + 2) (by
    rw [h4] at h3
    have : ((B - f.fractionBits - f.leastPlace).toNat + 2 + 1) * f.binade = (B - f.fractionBits - f.leastPlace).toNat * f.binade + 2 * f.binade + f.binade := by rw [Nat.add_mul, Nat.add_mul, Nat.one_mul]
    omega)
  refine ⟨s', m', e', ?_, k2.imp id fun h => by omega⟩
  show f.read (f.nearest s m e) = _
  rw [h1, k1]
theorem rootFrom_sq (n : Nat) : ∀ (t r : Nat), r * r ≤ n → Datum.rootFrom n t r * Datum.rootFrom n t r ≤ n := by
  intro t
  induction t with
  | zero => intro r h; exact h
  | succ t ih =>
    intro r h
    simp only [Datum.rootFrom]
    split
    · exact ih _ ‹_›
    · exact ih _ h
theorem root_small {d : Nat} {s : Bool} {m : Nat} {e B : Int} {q : Datum} (h : m = 0 ∨ e + (m.log2 : Int) ≤ B) (hq : Datum.root d (.number s m e) = some q) : ∃ s' m' e', q = .number s' m' e' ∧ (m' = 0 ∨ 2 * (e' + (m'.log2 : Int)) ≤ B + 1) := by
  simp only [Datum.root] at hq
  split at hq
  · rename_i hm
    cases hq
    exact ⟨_, _, _, rfl, .inl hm⟩
  · rename_i hm
    have h := h.resolve_left hm
    split at hq <;> cases hq
    refine ⟨_, _, _, rfl, .inr ?_⟩
    generalize hmo : 2 * d - m.log2 + ((e - ↑(2 * d - m.log2)) % 2).toNat = more
    generalize hn : m <<< more = n
    have hsq := rootFrom_sq n (n.log2 / 2 + 1) 0 (Nat.zero_le _)
    generalize Datum.rootFrom n (n.log2 / 2 + 1) 0 = whole at *
    have hnlt : n < 2 ^ (m.log2 + 1 + more) := by
      rw [← hn, Nat.shiftLeft_eq, Nat.pow_add]
      exact (Nat.mul_lt_mul_right (Nat.two_pow_pos _)).2 Nat.lt_log2_self
    have hb : (whole * whole != n).toNat ≤ 1 := by cases (whole * whole != n) <;> simp
    generalize (whole * whole != n).toNat = b at *
    by_cases hw : 2 * whole + b = 0
    · rw [hw]
      have : Nat.log2 0 = 0 := by decide
      rw [this]
      omega
    · have hw2 : whole = 0 ∨ 2 * whole.log2 ≤ m.log2 + more := by
        rcases Nat.eq_zero_or_pos whole with h0 | h0
        · exact .inl h0
        · right
          have h1 : 2 ^ whole.log2 ≤ whole := Nat.log2_self_le (by omega)
          have h2 : 2 ^ whole.log2 * 2 ^ whole.log2 ≤ whole * whole := Nat.mul_le_mul h1 h1
          rw [← Nat.pow_add] at h2
          have h3 := (Nat.pow_lt_pow_iff_right (a := 2) (by decide)).1 (Nat.lt_of_le_of_lt h2 (Nat.lt_of_le_of_lt hsq hnlt))
          omega
      have hl : (2 * whole + b).log2 ≤ whole.log2 + 1 ∨ whole = 0 := by
        rcases Nat.eq_zero_or_pos whole with h0 | h0
        · exact .inr h0
        · left
          refine log2_div_le ?_ hw
          have : whole < 2 ^ (whole.log2 + 1) := Nat.lt_log2_self
          rw [Nat.pow_succ]
          omega
      rcases hl with hl | h0
      · rcases hw2 with h0 | hw2
        · subst h0
          have hl2 : (2 * 0 + b).log2 ≤ 0 := log2_div_le (by omega) hw
          omega
        · omega
      · subst h0
        have hl2 : (2 * 0 + b).log2 ≤ 0 := log2_div_le (by omega) hw
        omega
/-- A number that is not too great is narrowed to a number. -/
theorem narrow_some {x : Nat} {s : Bool} {m : Nat} {e : Int} (hd : FloatKind.f64.decode x = .number s m e) (h : m = 0 ∨ e + (m.log2 : Int) ≤ 120) : (floatToFloatBits .f64 x .f32).isSome = true := by
  unfold floatToFloatBits
  rw [if_neg (by decide), hd]
  simp only
  obtain ⟨s', m', e', k1, _⟩ := write_read FloatKind.f32.format s m e 120 (by decide) h (by decide)
  have : (FloatKind.f32.decode (FloatKind.f32.encode (.number s m e))).isInfinity = false := by
    show (FloatKind.f32.format.read (FloatKind.f32.format.write (.number s m e))).isInfinity = false
    rw [k1]; rfl
  rw [this]
  rfl
theorem read_f32_small {x : Nat} {s : Bool} {m : Nat} {e : Int} (hd : FloatKind.f32.decode x = .number s m e) : m = 0 ∨ e + (m.log2 : Int) ≤ 127 := by
  have hb : m < 2 ^ 24 ∧ e ≤ 104 := by
    have hs : FloatKind.f32.format.signWeight = 2 ^ 31 := by decide
    have hbin : FloatKind.f32.format.binade = 2 ^ 23 := by decide
    have hinf : FloatKind.f32.format.infRung = 255 * 2 ^ 23 := by decide
    have hlp : FloatKind.f32.format.leastPlace = -149 := by decide
    unfold FloatKind.decode Ieee.Format.read at hd
    rw [hs, hbin, hinf, hlp] at hd
    generalize x % 2 ^ 31 = r at hd
    simp only at hd
    split at hd
    · cases hd; omega
    · split at hd
      · cases hd; omega
      · split at hd <;> cases hd
  rcases Nat.eq_zero_or_pos m with h0 | h0
  · exact .inl h0
  · right
    have := log2_div_le (k := 23) hb.1 (by omega)
    omega
/-- The root of a 32-bit number is narrowed to a number, or is no number. -/
theorem root_ok (x : Nat) : f2fOk .f64 (fsqrt .f64 (f2f .f32 x .f64)) .f32 := by
  cases hn : isNaN .f32 x with
  | true =>
    left
    have e : f2f .f32 x .f64 = nanOf .f64 := by
      obtain ⟨s, t, hr⟩ := read_nan hn
      have hr' : FloatKind.f32.decode x = .nan s t := hr
      unfold f2f floatToFloatBits
      rw [if_neg (by decide), hr']
      rfl
    rw [e]; decide
  | false =>
    cases hd : FloatKind.f32.decode x with
    | nan s t => unfold isNaN at hn; rw [hd] at hn; cases hn
    | infinity s =>
      have e : f2f .f32 x .f64 = FloatKind.f64.encode (.infinity s) := by
        unfold f2f floatToFloatBits
        rw [if_neg (by decide), hd]
        rfl
      rw [e]
      cases s
      · right; decide
      · left; decide
    | number s m e =>
      have hsome := widen_some hn
      have ef : f2f .f32 x .f64 = FloatKind.f64.encode (.number s m e) := by
        unfold f2f
        unfold floatToFloatBits at hsome ⊢
        rw [if_neg (by decide), hd] at hsome ⊢
        simp only at hsome ⊢
        split at hsome
        · cases hsome
        · rename_i hni
          rw [if_neg hni]
          rfl
      rw [ef]
      obtain ⟨s1, m1, e1, k1, k2⟩ := write_read FloatKind.f64.format s m e 127 (by decide) (read_f32_small hd) (by decide)
      have k1' : FloatKind.f64.format.read (FloatKind.f64.encode (.number s m e)) = .number s1 m1 e1 := k1
      unfold fsqrt Format.sqrt
      rw [k1']
      cases hq : Datum.root (FloatKind.f64.format.fractionBits + 2) (.number s1 m1 e1) with
      | none => left; decide
      | some q =>
        right
        obtain ⟨s2, m2, e2, rfl, hm⟩ := root_small k2 hq
        simp only [Option.map_some, Option.getD_some]
        have hm' : m2 = 0 ∨ e2 + (m2.log2 : Int) ≤ 118 := by
          rcases hm with hm | hm
          · exact .inl hm
          · right; omega
        obtain ⟨s3, m3, e3, k3, k4⟩ := write_read FloatKind.f64.format s2 m2 e2 118 (by decide) hm' (by decide)
        exact narrow_some (x := FloatKind.f64.format.write (.number s2 m2 e2)) k3 k4
end Go.Aw
