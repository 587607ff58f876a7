/- How great the numbers are that words stand for: the square root of a 32-bit number, narrowed, is never too great. -/
/- Numbers that a format has are read back as they were written; the floor of a widened number. -/
/- Words of single numbers: equal numbers of equal sign are equal words; the sign of a widened number. -/
import Derived.Test.YtfdmmbcjidkmoaaAwd
namespace Go.Aw
open Ieee

theorem log2_div_le {n k : Nat} (h : n < 2 ^ (k + 1)) (hn : n ≠ 0) : n.log2 ≤ k := by
  have := (Nat.log2_lt hn).2 h
  omega
/-- What is kept of a number is at most one binade and one more. -/
theorem cut_le (neg : Bool) (n drop K : Nat) (h : n < 2 ^ (K + drop)) : Toward.even.cut neg n drop ≤ 2 ^ K := by
  unfold Toward.cut
  simp only
  have hg : 1 <<< min drop (n.log2 + 2) = 2 ^ min drop (n.log2 + 2) := by rw [Nat.shiftLeft_eq, Nat.one_mul]
  rw [hg]
  have hlow : n / 2 ^ min drop (n.log2 + 2) < 2 ^ K := by
    rcases Nat.le_total drop (n.log2 + 2) with hd | hd
    · rw [Nat.min_eq_left hd]
      exact Nat.div_lt_of_lt_mul (by rw [← Nat.pow_add, Nat.add_comm]; exact h)
    · rw [Nat.min_eq_right hd, Nat.div_eq_of_lt]
      · exact Nat.two_pow_pos K
      · have : n < 2 ^ (n.log2 + 1) := Nat.lt_log2_self
        exact Nat.lt_of_lt_of_le this (Nat.pow_le_pow_right (by decide) (by omega))
  have hb : ∀ b : Bool, b.toNat ≤ 1 := fun b => by cases b <;> simp
  have := hb (decide (2 ^ min drop (n.log2 + 2) < 2 * (n % 2 ^ min drop (n.log2 + 2))) || (2 ^ min drop (n.log2 + 2) == 2 * (n % 2 ^ min drop (n.log2 + 2)) && n / 2 ^ min drop (n.log2 + 2) % 2 == 1))
  omega
/-- The rung of a number that is not too great. -/
theorem nearest_rung (f : Format) (neg : Bool) (m : Nat) (e : Int) (B : Int) (hB : f.leastPlace + f.fractionBits ≤ B) (h : m = 0 ∨ e + m.log2 ≤ B) :
    ∃ r, f.nearest neg m e = f.word neg r ∧ r ≤ f.infRung ∧ r ≤ (B - f.fractionBits - f.leastPlace).toNat * f.binade + 2 ^ (f.fractionBits + 1) := by
  unfold Format.nearest
  split
  · exact ⟨0, rfl, Nat.zero_le _, Nat.zero_le _⟩
  · rename_i hm
    have h := h.resolve_left hm
    simp only
    refine ⟨_, rfl, Nat.min_le_right _ _, Nat.le_trans (Nat.min_le_left _ _) ?_⟩
    generalize hl : max (e + ↑m.log2 - ↑f.fractionBits) f.leastPlace = last
    have h1 : last ≤ B - f.fractionBits := by omega
    have h2 : e + m.log2 - f.fractionBits ≤ last := by omega
    have hcut : Toward.even.cut neg (m <<< (e - last).toNat) (last - e).toNat ≤ 2 ^ (f.fractionBits + 1) := by
      refine cut_le _ _ _ _ ?_
      rw [Nat.shiftLeft_eq]
      have hm2 : m < 2 ^ (m.log2 + 1) := Nat.lt_log2_self
      calc m * 2 ^ (e - last).toNat < 2 ^ (m.log2 + 1) * 2 ^ (e - last).toNat := (Nat.mul_lt_mul_right (Nat.two_pow_pos _)).2 hm2
        _ = 2 ^ (m.log2 + 1 + (e - last).toNat) := (Nat.pow_add ..).symm
        _ ≤ 2 ^ (f.fractionBits + 1 + (last - e).toNat) := Nat.pow_le_pow_right (by decide) (by omega)
    have hmul : (last - f.leastPlace).toNat * f.binade ≤ (B - f.fractionBits - f.leastPlace).toNat * f.binade := Nat.mul_le_mul_right _ (by omega)
    omega
/-- What a rung stands for is no greater than its binade. -/
theorem read_rung (f : Format) (neg : Bool) (r : Nat) (hr : r < f.infRung) (K : Nat) (hK : r < (K + 1) * f.binade) : ∃ s m e, f.read (f.word neg r) = .number s m e ∧ (m = 0 ∨ e + (m.log2 : Int) ≤ f.leastPlace + f.fractionBits + K) := by
  have hmod : f.word neg r % f.signWeight = r := by
    have hlt : r < f.signWeight := Nat.lt_trans hr f.infRung_lt
    unfold Format.word
    cases neg
    · simpa using Nat.mod_eq_of_lt hlt
    · simp only [if_true]
      rw [Nat.add_mod_left]
      exact Nat.mod_eq_of_lt hlt
  unfold Format.read
  simp only [hmod, hr, if_true]
  have hbp : 0 < f.binade := Nat.two_pow_pos _
  split
  · rename_i h1
    refine ⟨_, _, _, rfl, ?_⟩
    rcases Nat.eq_zero_or_pos r with h0 | h0
    · exact .inl h0
    · right
      have : r.log2 ≤ f.fractionBits := log2_div_le (Nat.lt_of_lt_of_le h1 (Nat.pow_le_pow_right (by decide) (Nat.le_succ _))) (by omega)
      omega
  · refine ⟨_, _, _, rfl, .inr ?_⟩
    have hlt : r % f.binade < f.binade := Nat.mod_lt _ hbp
    have hm : f.binade + r % f.binade < 2 ^ (f.fractionBits + 1) := by
      rw [Nat.pow_succ]
      unfold Format.binade at *
      omega
    have hl : (f.binade + r % f.binade).log2 ≤ f.fractionBits := log2_div_le hm (by omega)
    have hq : r / f.binade < K + 1 := Nat.div_lt_of_lt_mul (by rw [Nat.mul_comm]; exact hK)
    omega
/-- A number that is written and read is at most twice as great. -/
theorem write_read (f : Format) (s : Bool) (m : Nat) (e B : Int) (hB : f.leastPlace + f.fractionBits ≤ B) (h : m = 0 ∨ e + m.log2 ≤ B) (hinf : (B - f.fractionBits - f.leastPlace).toNat * f.binade + 2 ^ (f.fractionBits + 1) < f.infRung) :
    ∃ s' m' e', f.read (f.write (.number s m e)) = .number s' m' e' ∧ (m' = 0 ∨ e' + (m'.log2 : Int) ≤ B + 2) := by
  obtain ⟨r, h1, h2, h3⟩ := nearest_rung f s m e B hB h
  have h4 : 2 ^ (f.fractionBits + 1) = 2 * f.binade := by unfold Format.binade; rw [Nat.pow_succ, Nat.mul_comm]
  have hbp : 0 < f.binade := Nat.two_pow_pos _
  obtain ⟨s', m', e', k1, k2⟩ := read_rung f s r (by omega) ((B - f.fractionBits - f.leastPlace).toNat + 2) (by
    rw [h4] at h3
    have : ((B - f.fractionBits - f.leastPlace).toNat + 2 + 1) * f.binade = (B - f.fractionBits - f.leastPlace).toNat * f.binade + 2 * f.binade + f.binade := by rw [Nat.add_mul, Nat.add_mul, Nat.one_mul]
    omega)
  refine ⟨s', m', e', ?_, k2.imp id fun h => by omega⟩
  show f.read (f.nearest s m e) = _
  rw [h1, k1]
theorem rootFrom_sq (n : Nat) : ∀ (t r : Nat), r * r ≤ n → Datum.rootFrom n t r * Datum.rootFrom n t r ≤ n := by
  intro t
  induction t with
  | zero => intro r h; exact h
  | succ t ih =>
    intro r h
    simp only [Datum.rootFrom]
    split
    · exact ih _ ‹_›
    · exact ih _ h
theorem root_small {d : Nat} {s : Bool} {m : Nat} {e B : Int} {q : Datum} (h : m = 0 ∨ e + (m.log2 : Int) ≤ B) (hq : Datum.root d (.number s m e) = some q) : ∃ s' m' e', q = .number s' m' e' ∧ (m' = 0 ∨ 2 * (e' + (m'.log2 : Int)) ≤ B + 1) := by
  simp only [Datum.root] at hq
  split at hq
  · rename_i hm
    cases hq
    exact ⟨_, _, _, rfl, .inl hm⟩
  · rename_i hm
    have h := h.resolve_left hm
    split at hq <;> cases hq
    refine ⟨_, _, _, rfl, .inr ?_⟩
    generalize hmo : 2 * d - m.log2 + ((e - ↑(2 * d - m.log2)) % 2).toNat = more
    generalize hn : m <<< more = n
    have hsq := rootFrom_sq n (n.log2 / 2 + 1) 0 (Nat.zero_le _)
    generalize Datum.rootFrom n (n.log2 / 2 + 1) 0 = whole at *
    have hnlt : n < 2 ^ (m.log2 + 1 + more) := by
      rw [← hn, Nat.shiftLeft_eq, Nat.pow_add]
      exact (Nat.mul_lt_mul_right (Nat.two_pow_pos _)).2 Nat.lt_log2_self
    have hb : (whole * whole != n).toNat ≤ 1 := by cases (whole * whole != n) <;> simp
    generalize (whole * whole != n).toNat = b at *
    by_cases hw : 2 * whole + b = 0
    · rw [hw]
      have : Nat.log2 0 = 0 := by decide
      rw [this]
      omega
    · have hw2 : whole = 0 ∨ 2 * whole.log2 ≤ m.log2 + more := by
        rcases Nat.eq_zero_or_pos whole with h0 | h0
        · exact .inl h0
        · right
          have h1 : 2 ^ whole.log2 ≤ whole := Nat.log2_self_le (by omega)
          have h2 : 2 ^ whole.log2 * 2 ^ whole.log2 ≤ whole * whole := Nat.mul_le_mul h1 h1
          rw [← Nat.pow_add] at h2
          have h3 := (Nat.pow_lt_pow_iff_right (a := 2) (by decide)).1 (Nat.lt_of_le_of_lt h2 (Nat.lt_of_le_of_lt hsq hnlt))
          omega
      have hl : (2 * whole + b).log2 ≤ whole.log2 + 1 ∨ whole = 0 := by
        rcases Nat.eq_zero_or_pos whole with h0 | h0
        · exact .inr h0
        · left
          refine log2_div_le ?_ hw
          have : whole < 2 ^ (whole.log2 + 1) := Nat.lt_log2_self
          rw [Nat.pow_succ]
          omega
      rcases hl with hl | h0
      · rcases hw2 with h0 | hw2
        · subst h0
          have hl2 : (2 * 0 + b).log2 ≤ 0 := log2_div_le (by omega) hw
          omega
        · omega
      · subst h0
        have hl2 : (2 * 0 + b).log2 ≤ 0 := log2_div_le (by omega) hw
        omega
/-- A number that is not too great is narrowed to a number. -/
theorem narrow_some {x : Nat} {s : Bool} {m : Nat} {e : Int} (hd : FloatKind.f64.decode x = .number s m e) (h : m = 0 ∨ e + (m.log2 : Int) ≤ 120) : (floatToFloatBits .f64 x .f32).isSome = true := by
  unfold floatToFloatBits
  rw [if_neg (by decide), hd]
  simp only
  obtain ⟨s', m', e', k1, _⟩ := write_read FloatKind.f32.format s m e 120 (by decide) h (by decide)
  have : (FloatKind.f32.decode (FloatKind.f32.encode (.number s m e))).isInfinity = false := by
    show (FloatKind.f32.format.read (FloatKind.f32.format.write (.number s m e))).isInfinity = false
    rw [k1]; rfl
  rw [this]
  rfl
theorem read_f32_small {x : Nat} {s : Bool} {m : Nat} {e : Int} (hd : FloatKind.f32.decode x = .number s m e) : m = 0 ∨ e + (m.log2 : Int) ≤ 127 := by
  have hb : m < 2 ^ 24 ∧ e ≤ 104 := by
    have hs : FloatKind.f32.format.signWeight = 2 ^ 31 := by decide
    have hbin : FloatKind.f32.format.binade = 2 ^ 23 := by decide
    have hinf : FloatKind.f32.format.infRung = 255 * 2 ^ 23 := by decide
    have hlp : FloatKind.f32.format.leastPlace = -149 := by decide
    unfold FloatKind.decode Ieee.Format.read at hd
    rw [hs, hbin, hinf, hlp] at hd
    generalize x % 2 ^ 31 = r at hd
    simp only at hd
    split at hd
    · cases hd; omega
    · split at hd
      · cases hd; omega
      · split at hd <;> cases hd
  rcases Nat.eq_zero_or_pos m with h0 | h0
  · exact .inl h0
  · right
    have := log2_div_le (k := 23) hb.1 (by omega)
    omega
/-- The root of a 32-bit number is narrowed to a number, or is no number. -/
theorem root_ok (x : Nat) : f2fOk .f64 (fsqrt .f64 (f2f .f32 x .f64)) .f32 := by
  cases hn : isNaN .f32 x with
  | true =>
    left
    have e : f2f .f32 x .f64 = nanOf .f64 := by
      obtain ⟨s, t, hr⟩ := read_nan hn
      have hr' : FloatKind.f32.decode x = .nan s t := hr
      unfold f2f floatToFloatBits
      rw [if_neg (by decide), hr']
      rfl
    rw [e]; decide
  | false =>
    cases hd : FloatKind.f32.decode x with
    | nan s t => unfold isNaN at hn; rw [hd] at hn; cases hn
    | infinity s =>
      have e : f2f .f32 x .f64 = FloatKind.f64.encode (.infinity s) := by
        unfold f2f floatToFloatBits
        rw [if_neg (by decide), hd]
        rfl
      rw [e]
      cases s
      · right; decide
      · left; decide
    | number s m e =>
      have hsome := widen_some hn
      have ef : f2f .f32 x .f64 = FloatKind.f64.encode (.number s m e) := by
        unfold f2f
        unfold floatToFloatBits at hsome ⊢
        rw [if_neg (by decide), hd] at hsome ⊢
        simp only at hsome ⊢
        split at hsome
        · cases hsome
        · rename_i hni
          rw [if_neg hni]
          rfl
      rw [ef]
      obtain ⟨s1, m1, e1, k1, k2⟩ := write_read FloatKind.f64.format s m e 127 (by decide) (read_f32_small hd) (by decide)
      have k1' : FloatKind.f64.format.read (FloatKind.f64.encode (.number s m e)) = .number s1 m1 e1 := k1
      unfold fsqrt Format.sqrt
      rw [k1']
      cases hq : Datum.root (FloatKind.f64.format.fractionBits + 2) (.number s1 m1 e1) with
      | none => left; decide
      | some q =>
        right
        obtain ⟨s2, m2, e2, rfl, hm⟩ := root_small k2 hq
        simp only [Option.map_some, Option.getD_some]
        have hm' : m2 = 0 ∨ e2 + (m2.log2 : Int) ≤ 118 := by
          rcases hm with hm | hm
          · exact .inl hm
          · right; omega
        obtain ⟨s3, m3, e3, k3, k4⟩ := write_read FloatKind.f64.format s2 m2 e2 118 (by decide) hm' (by decide)
        exact narrow_some (x := FloatKind.f64.format.write (.number s2 m2 e2)) k3 k4
end Go.Aw
namespace Go.Aw
theorem aux_min (T K : Nat) (hT : T ≤ 2045) (hk : K < 2 ^ 53) : min (T * 2 ^ 52 + K) (2047 * 2 ^ 52) = T * 2 ^ 52 + K := by omega
theorem aux_mod (T K : Nat) (hk : K < 2 ^ 53) (hk2 : 2 ^ 52 ≤ K) : (T * 2 ^ 52 + K) % 2 ^ 52 = K - 2 ^ 52 := by omega
theorem aux_div (T K : Nat) (hk : K < 2 ^ 53) (hk2 : 2 ^ 52 ≤ K) : (T * 2 ^ 52 + K) / 2 ^ 52 = T + 1 := by omega
theorem aux_lo (T K : Nat) (hk2 : 2 ^ 52 ≤ K) : ¬ T * 2 ^ 52 + K < 2 ^ 52 := by omega
theorem aux_hi (T K : Nat) (hT : T ≤ 2045) (hk : K < 2 ^ 53) : T * 2 ^ 52 + K < 2047 * 2 ^ 52 := by omega
theorem aux_add (K : Nat) (hk2 : 2 ^ 52 ≤ K) : 2 ^ 52 + (K - 2 ^ 52) = K := by omega
theorem aux_w0 (T K : Nat) (hT : T ≤ 2045) (hk : K < 2 ^ 53) : (T * 2 ^ 52 + K) / 2 ^ 63 % 2 = 0 ∧ (T * 2 ^ 52 + K) % 2 ^ 63 = T * 2 ^ 52 + K := by omega
theorem aux_w1 (T K : Nat) (hT : T ≤ 2045) (hk : K < 2 ^ 53) : (2 ^ 63 + (T * 2 ^ 52 + K)) / 2 ^ 63 % 2 = 1 ∧ (2 ^ 63 + (T * 2 ^ 52 + K)) % 2 ^ 63 = T * 2 ^ 52 + K := by omega
/-- A number of at most 53 digits, written as a double, reads back the same. -/
theorem read_write64 {s : Bool} {m : Nat} {e : Int} (hm : m ≠ 0) (h1 : m < 2 ^ 53) (h2 : -1074 ≤ e + m.log2 - 52) (h3 : e + m.log2 ≤ 1023) :
    FloatKind.f64.format.read (FloatKind.f64.format.write (.number s m e)) = .number s (m <<< (52 - m.log2)) (e + m.log2 - 52) := by
  have hs : FloatKind.f64.format.signWeight = 2 ^ 63 := by decide
  have hbin : FloatKind.f64.format.binade = 2 ^ 52 := by decide
  have hinf : FloatKind.f64.format.infRung = 2047 * 2 ^ 52 := by decide
  have hlp : FloatKind.f64.format.leastPlace = -1074 := by decide
  have hfr : (FloatKind.f64.format.fractionBits : Int) = 52 := rfl
  have hlog : m.log2 ≤ 52 := by
    have := (Nat.log2_lt hm).2 h1
    omega
  unfold Ieee.Format.write Ieee.Format.nearest
  simp only [hm, if_false]
  rw [hinf, hbin, hlp, hfr]
  have hlast : max (e + ↑m.log2 - 52) (-1074) = e + ↑m.log2 - 52 := by omega
  rw [hlast]
  have hdrop : (e + ↑m.log2 - 52 - e).toNat = 0 := by omega
  have hup : (e - (e + ↑m.log2 - 52)).toNat = 52 - m.log2 := by omega
  rw [hdrop, hup]
  have hcut : Ieee.Toward.even.cut s (m <<< (52 - m.log2)) 0 = m <<< (52 - m.log2) := by
    unfold Ieee.Toward.cut
    simp [Nat.mod_one]
  rw [hcut]
  have hk : m <<< (52 - m.log2) < 2 ^ 53 := by
    have h1 : m < 2 ^ (m.log2 + 1) := Nat.lt_log2_self
    rw [Nat.shiftLeft_eq]
    calc m * 2 ^ (52 - m.log2) < 2 ^ (m.log2 + 1) * 2 ^ (52 - m.log2) := (Nat.mul_lt_mul_right (Nat.two_pow_pos _)).2 h1
      _ = 2 ^ 53 := by rw [← Nat.pow_add]; congr 1; omega
  have hk2 : 2 ^ 52 ≤ m <<< (52 - m.log2) := by
    have h1 : 2 ^ m.log2 ≤ m := Nat.log2_self_le hm
    rw [Nat.shiftLeft_eq]
    calc 2 ^ 52 = 2 ^ m.log2 * 2 ^ (52 - m.log2) := by rw [← Nat.pow_add]; congr 1; omega
      _ ≤ m * 2 ^ (52 - m.log2) := Nat.mul_le_mul_right _ h1
  generalize hK : m <<< (52 - m.log2) = K at hk hk2
  obtain ⟨T, hT⟩ : ∃ T : Nat, (e + ↑m.log2 - 52 - -1074).toNat = T := ⟨_, rfl⟩
  have hT' : e + ↑m.log2 - 52 = (T : Int) - 1074 := by omega
  have hTb : T ≤ 2045 := by omega
  rw [hT, hT']
  rw [aux_min T K hTb hk]
  have hword : FloatKind.f64.format.word s (T * 2 ^ 52 + K) / 2 ^ 63 % 2 = s.toNat ∧ FloatKind.f64.format.word s (T * 2 ^ 52 + K) % 2 ^ 63 = T * 2 ^ 52 + K := by
    unfold Ieee.Format.word
    rw [hs]
    cases s
    · exact aux_w0 T K hTb hk
    · exact aux_w1 T K hTb hk
  unfold Ieee.Format.read
  rw [hs, hbin, hinf, hlp]
  obtain ⟨w1, w2⟩ := hword
  generalize FloatKind.f64.format.word s (T * 2 ^ 52 + K) = W at w1 w2
  simp only [w1, w2]
  rw [if_neg (aux_lo T K hk2), if_pos (aux_hi T K hTb hk), aux_mod T K hk hk2, aux_div T K hk hk2, aux_add K hk2]
  have e4 : (s.toNat == 1) = s := by cases s <;> rfl
  rw [e4]
  have e5 : (-1074 : Int) + ((T + 1 - 1 : Nat) : Int) = (T : Int) - 1074 := by omega
  rw [e5]
/-- Down and towards zero are the same for what is not negative: what is left of the division. -/
theorem cut_div (w : Ieee.Toward) (hw : w = .down ∨ w = .zero) (n d : Nat) : w.cut false n d = n / 2 ^ d := by
  have key : n / (1 <<< min d (n.log2 + 2)) = n / 2 ^ d := by
    rw [Nat.shiftLeft_eq, Nat.one_mul]
    rcases Nat.le_total d (n.log2 + 2) with h | h
    · rw [Nat.min_eq_left h]
    · rw [Nat.min_eq_right h]
      have h1 : n < 2 ^ (n.log2 + 2) := Nat.lt_of_lt_of_le Nat.lt_log2_self (Nat.pow_le_pow_right (by decide) (by omega))
      have h2 : n < 2 ^ d := Nat.lt_of_lt_of_le h1 (Nat.pow_le_pow_right (by decide) h)
      rw [Nat.div_eq_of_lt h1, Nat.div_eq_of_lt h2]
  unfold Ieee.Toward.cut
  rcases hw with rfl | rfl <;> simp [key]
/-- The whole number below m * 2 ^ e. -/
def truncV (m : Nat) (e : Int) : Nat := (m <<< e.toNat) / 2 ^ (-e).toNat
theorem truncV_shift (m : Nat) (e : Int) (k : Nat) : truncV (m <<< k) (e - k) = truncV m e := by
  unfold truncV
  simp only [Nat.shiftLeft_eq]
  rcases Int.lt_or_le e k with h | h
  · rw [show (e - (k : Int)).toNat = 0 by omega, Nat.pow_zero, Nat.mul_one]
    rcases Int.lt_or_le e 0 with h0 | h0
    · rw [show e.toNat = 0 by omega, Nat.pow_zero, Nat.mul_one, show (-(e - (k : Int))).toNat = (-e).toNat + k by omega, Nat.pow_add]
      exact Nat.mul_div_mul_right _ _ (Nat.two_pow_pos k)
    · rw [show (-e).toNat = 0 by omega, Nat.pow_zero, Nat.div_one]
      obtain ⟨j, rfl⟩ : ∃ j, k = j + e.toNat := ⟨k - e.toNat, by omega⟩
      rw [show (-(e - ((j + e.toNat : Nat) : Int))).toNat = j by omega, Nat.pow_add, Nat.mul_comm (2 ^ j), ← Nat.mul_assoc]
      exact Nat.mul_div_cancel _ (Nat.two_pow_pos j)
  · rw [show (-e).toNat = 0 by omega, show (-(e - (k : Int))).toNat = 0 by omega, Nat.pow_zero, Nat.div_one, Nat.div_one, Nat.mul_assoc, ← Nat.pow_add]
    congr 2
    omega
theorem toInt_pos (m : Nat) (e : Int) : (Ieee.Datum.number false m e).toInt .zero = some ((truncV m e : Nat) : Int) := by
  unfold Ieee.Datum.toInt Ieee.Datum.integral
  simp only [cut_div .zero (.inr rfl)]
  simp only [Ieee.signed, Bool.false_eq_true, if_false, Nat.shiftLeft_zero, truncV]
theorem integral_pos (m : Nat) (e : Int) : (Ieee.Datum.number false m e).integral .down = .number false (truncV m e) 0 := by
  unfold Ieee.Datum.integral
  simp only [cut_div .down (.inl rfl), truncV]
/-- The floor of a number that is not negative, as a double, is the number towards zero. -/
theorem floor_wide {m : Nat} {e : Int} (hm : m ≠ 0) (h1 : m < 2 ^ 24) (h2 : -149 ≤ e) (h3 : e ≤ 104) (hv : truncV m e < 2 ^ 24) :
    (FloatKind.f64.format.read (FloatKind.f64.format.write ((FloatKind.f64.format.read (FloatKind.f64.format.write (.number false m e))).integral .down))).toInt .zero = some ((truncV m e : Nat) : Int) := by
  have hlog : m.log2 ≤ 23 := by
    have := (Nat.log2_lt hm).2 h1
    omega
  rw [read_write64 hm (by omega) (by omega) (by omega), integral_pos]
  have e1 : truncV (m <<< (52 - m.log2)) (e + m.log2 - 52) = truncV m e := by
    have := truncV_shift m e (52 - m.log2)
    rwa [show e - ((52 - m.log2 : Nat) : Int) = e + m.log2 - 52 by omega] at this
  rw [e1]
  generalize truncV m e = F at hv
  by_cases hF : F = 0
  · subst hF
    decide +kernel
  · have hlog2 : F.log2 ≤ 23 := by
      have := (Nat.log2_lt hF).2 hv
      omega
    rw [read_write64 hF (by omega) (by omega) (by omega), toInt_pos]
    have e2 : truncV (F <<< (52 - F.log2)) (0 + F.log2 - 52) = F := by
      have := truncV_shift F 0 (52 - F.log2)
      rw [show (0 : Int) - ((52 - F.log2 : Nat) : Int) = 0 + F.log2 - 52 by omega] at this
      rw [this]
      simp [truncV]
    rw [e2]
theorem trunc_le {m L : Nat} {e b : Int} (hb : b ≤ e) (h0 : b ≤ 0) (h : m <<< (e - b).toNat ≤ L * 2 ^ (-b).toNat) : truncV m e ≤ L := by
  unfold truncV
  rw [Nat.shiftLeft_eq] at h ⊢
  refine Nat.div_le_of_le_mul ?_
  rcases Int.lt_or_le e 0 with h1 | h1
  · rw [show e.toNat = 0 by omega, Nat.pow_zero, Nat.mul_one]
    rw [show (-b).toNat = (e - b).toNat + (-e).toNat by omega, Nat.pow_add, Nat.mul_comm (2 ^ (e - b).toNat), ← Nat.mul_assoc] at h
    rw [Nat.mul_comm]
    exact Nat.le_of_mul_le_mul_right h (Nat.two_pow_pos _)
  · rw [show (-e).toNat = 0 by omega, Nat.pow_zero, Nat.one_mul]
    rw [show (e - b).toNat = e.toNat + (-b).toNat by omega, Nat.pow_add, ← Nat.mul_assoc] at h
    exact Nat.le_of_mul_le_mul_right h (Nat.two_pow_pos _)
def smallD (L : Nat) : Ieee.Datum := if L = 0 then .number false 0 (-149) else .number false (L <<< (23 - L.log2)) ((L.log2 : Int) - 23)
theorem read_small : ∀ L : Fin 128, FloatKind.f32.format.read (itof .f32 (L.val : Int)) = smallD L.val := by decide +kernel
theorem read_zero32 : FloatKind.f32.format.read 0 = .number false 0 (-149) := by decide +kernel
/-- What a 32-bit word that is a number stands for. -/
theorem read32_bounds {x : Nat} {s : Bool} {m : Nat} {e : Int} (hd : FloatKind.f32.format.read x = .number s m e) : m < 2 ^ 24 ∧ -149 ≤ e ∧ e ≤ 104 := by
  have hs : FloatKind.f32.format.signWeight = 2 ^ 31 := by decide
  have hbin : FloatKind.f32.format.binade = 2 ^ 23 := by decide
  have hinf : FloatKind.f32.format.infRung = 255 * 2 ^ 23 := by decide
  have hlp : FloatKind.f32.format.leastPlace = -149 := by decide
  unfold Ieee.Format.read at hd
  rw [hs, hbin, hinf, hlp] at hd
  generalize x % 2 ^ 31 = r at hd
  simp only at hd
  split at hd
  · cases hd; omega
  · split at hd
    · cases hd; omega
    · split at hd <;> cases hd
theorem cmp_le {a b : Int} (h : (compare a b == .lt || compare a b == .eq) = true) : a ≤ b := by
  cases hc : compare a b with
  | lt => exact Int.le_of_lt (Int.compare_eq_lt.1 hc)
  | eq => rw [Int.compare_eq_eq.1 hc]; exact Int.le_refl _
  | gt => rw [hc] at h; cases h
theorem cmp_ge {a b : Int} (h : (compare a b == .gt || compare a b == .eq) = true) : b ≤ a := by
  cases hc : compare a b with
  | gt => exact Int.le_of_lt (Int.compare_eq_gt.1 hc)
  | eq => rw [Int.compare_eq_eq.1 hc]; exact Int.le_refl _
  | lt => rw [hc] at h; cases h
/-- A number from 0 to a small whole number. -/
theorem small_num {x : Nat} {L : Nat} (hL : L < 128) (h0 : fge .f32 x 0 = true) (h1 : fle .f32 x (itof .f32 (L : Int)) = true) :
    ∃ s m e, FloatKind.f32.format.read x = .number s m e ∧ (s = false ∨ m = 0) ∧ truncV m e ≤ L := by
  unfold fge fgt feq Ieee.Format.order at h0
  unfold fle flt feq Ieee.Format.order at h1
  rw [read_zero32] at h0
  rw [read_small ⟨L, hL⟩] at h1
  cases hx : FloatKind.f32.format.read x with
  | nan s t => rw [hx] at h0; cases h0
  | infinity s =>
    exfalso
    rw [hx] at h0 h1
    unfold smallD at h1
    cases s with
    | true => cases h0
    | false => split at h1 <;> cases h1
  | number s m e =>
    rw [hx] at h0 h1
    have hs : s = false ∨ m = 0 := by
      cases s with
      | false => exact .inl rfl
      | true =>
        right
        have := cmp_ge (a := Ieee.signed true m (e - min e (-149)).toNat) (b := Ieee.signed false 0 (-149 - min e (-149)).toNat) (by simpa [Ieee.Datum.order] using h0)
        simp only [Ieee.signed, if_true, Bool.false_eq_true, if_false, Nat.shiftLeft_eq] at this
        have hz : m * 2 ^ (e - min e (-149)).toNat = 0 := by omega
        rcases Nat.mul_eq_zero.1 hz with h | h
        · exact h
        · exact absurd h (Nat.pos_iff_ne_zero.1 (Nat.two_pow_pos _))
    refine ⟨s, m, e, rfl, hs, ?_⟩
    rcases Nat.eq_zero_or_pos m with hm | hm
    · subst hm; simp [truncV]
    · obtain rfl : s = false := by
        rcases hs with h | h
        · exact h
        · omega
      unfold smallD at h1
      by_cases hz : L = 0
      · subst hz
        simp only [if_true] at h1
        have := cmp_le (a := Ieee.signed false m (e - min e (-149)).toNat) (b := Ieee.signed false 0 (-149 - min e (-149)).toNat) (by simpa [Ieee.Datum.order] using h1)
        simp only [Ieee.signed, Bool.false_eq_true, if_false, Nat.zero_shiftLeft] at this
        refine trunc_le (b := min e (-149)) (by omega) (by omega) ?_
        omega
      · simp only [hz, if_false] at h1
        have hl : L.log2 ≤ 6 := by
          have := (Nat.log2_lt hz).2 (show L < 2 ^ 7 by omega)
          omega
        have := cmp_le (a := Ieee.signed false m (e - min e ((L.log2 : Int) - 23)).toNat) (b := Ieee.signed false (L <<< (23 - L.log2)) (((L.log2 : Int) - 23) - min e ((L.log2 : Int) - 23)).toNat) (by simpa [Ieee.Datum.order] using h1)
        simp only [Ieee.signed, Bool.false_eq_true, if_false] at this
        refine trunc_le (b := min e ((L.log2 : Int) - 23)) (by omega) (by omega) ?_
        have h2 : (L <<< (23 - L.log2)) <<< (((L.log2 : Int) - 23) - min e ((L.log2 : Int) - 23)).toNat = L * 2 ^ (-(min e ((L.log2 : Int) - 23))).toNat := by
          rw [Nat.shiftLeft_eq, Nat.shiftLeft_eq, Nat.mul_assoc, ← Nat.pow_add]
          congr 2
          omega
        omega
/-- The floor of a double. -/
def floorF (y : Nat) : Nat := FloatKind.f64.encode ((FloatKind.f64.decode y).integral .down)
theorem widen_num {x : Nat} {s : Bool} {m : Nat} {e : Int} (hx : FloatKind.f32.format.read x = .number s m e) : f2f .f32 x .f64 = FloatKind.f64.format.write (.number s m e) := by
  have hn : isNaN .f32 x = false := by
    show (FloatKind.f32.format.read x).isNaN = false
    rw [hx]; rfl
  have h := widen_some hn
  have hd : FloatKind.f32.decode x = .number s m e := hx
  unfold f2f
  unfold floatToFloatBits at h ⊢
  rw [if_neg (by decide), hd] at h ⊢
  simp only at h ⊢
  split at h
  · cases h
  · rename_i hi
    rw [if_neg hi]
    rfl
/-- The floor of a small number, as an integer: the number towards zero. -/
theorem floor_law {x L : Nat} (hL : L < 128) (h0 : fge .f32 x 0 = true) (h1 : fle .f32 x (itof .f32 (L : Int)) = true) :
    ∃ k : Nat, k ≤ L ∧ floatToIntVal .f32 x .i64 = some (k : Int) ∧ floatToIntVal .f64 (floorF (f2f .f32 x .f64)) .i64 = some (k : Int) ∧ isNaN .f64 (f2f .f32 x .f64) = false := by
  obtain ⟨s, m, e, hx, hs, hk⟩ := small_num hL h0 h1
  obtain ⟨b1, b2, b3⟩ := read32_bounds hx
  have hnan : isNaN .f64 (f2f .f32 x .f64) = false := by rw [widen_num hx]; exact isNaN_encode_number _ _ _ _
  have hmin : ∀ k : Nat, k < 128 → (IntKind.i64.min ≤ (k : Int) ∧ (k : Int) ≤ IntKind.i64.max) := by
    intro k hk
    have e1 : IntKind.i64.min = -9223372036854775808 := by decide
    have e2 : IntKind.i64.max = 9223372036854775807 := by decide
    rw [e1, e2]
    omega
  refine ⟨truncV m e, hk, ?_, ?_, hnan⟩
  · have hd : FloatKind.f32.decode x = .number s m e := hx
    unfold floatToIntVal
    rw [hd]
    rcases Nat.eq_zero_or_pos m with hm | hm
    · subst hm
      have e1 : (Ieee.Datum.number s 0 e).toInt .zero = some 0 := by
        unfold Ieee.Datum.toInt Ieee.Datum.integral Ieee.Toward.cut
        cases s <;> simp [Ieee.signed]
      have e2 : truncV 0 e = 0 := by simp [truncV]
      rw [e1, e2]
      decide
    · obtain rfl : s = false := by
        rcases hs with h | h
        · exact h
        · omega
      rw [toInt_pos]
      simp only
      rw [if_pos (hmin _ (by omega))]
  · rw [widen_num hx]
    unfold floatToIntVal floorF FloatKind.decode FloatKind.encode
    rcases Nat.eq_zero_or_pos m with hm | hm
    · subst hm
      have e2 : truncV 0 e = 0 := by simp [truncV]
      rw [e2]
      have e3 : FloatKind.f64.format.write (.number s 0 e) = FloatKind.f64.format.write (.number s 0 0) := by
        unfold Ieee.Format.write Ieee.Format.nearest
        simp only [if_true]
      rw [e3]
      cases s <;> decide +kernel
    · obtain rfl : s = false := by
        rcases hs with h | h
        · exact h
        · omega
      rw [floor_wide (by omega) b1 b2 b3 (by omega)]
      simp only
      rw [if_pos (hmin _ (by omega))]
end Go.Aw
namespace Go.Aw
def signF (x : Nat) : Bool := x / 2147483648 % 2 == 1
theorem f32_sign : FloatKind.f32.format.signWeight = 2147483648 := by decide
theorem f32_bin : FloatKind.f32.format.binade = 8388608 := by decide
theorem f32_inf : FloatKind.f32.format.infRung = 2139095040 := by decide
theorem f32_least : FloatKind.f32.format.leastPlace = -149 := by decide
theorem read32_num {x : Nat} (h : x % 2147483648 < 2139095040) : ∃ m p : Nat, FloatKind.f32.format.read x = .number (signF x) m (-149 + (p : Int)) ∧ m < 16777216 ∧ (p = 0 ∨ 8388608 ≤ m) ∧ x % 2147483648 = p * 8388608 + m := by
  unfold Ieee.Format.read
  rw [f32_sign, f32_bin, f32_inf, f32_least]
  simp only
  by_cases h1 : x % 2147483648 < 8388608
  · rw [if_pos h1]
    exact ⟨x % 2147483648, 0, rfl, by omega, .inl rfl, by omega⟩
  · rw [if_neg h1, if_pos h]
    exact ⟨8388608 + x % 2147483648 % 8388608, x % 2147483648 / 8388608 - 1, rfl, by omega, .inr (by omega), by omega⟩
theorem read32_inf {x : Nat} (h : x % 2147483648 = 2139095040) : FloatKind.f32.format.read x = .infinity (signF x) := by
  unfold Ieee.Format.read
  rw [f32_sign, f32_bin, f32_inf, f32_least]
  simp only [h]
  rfl
theorem read32_nan {x : Nat} (h : 2139095040 < x % 2147483648) : isNaN .f32 x = true := by
  unfold isNaN FloatKind.decode Ieee.Format.read
  rw [f32_sign, f32_bin, f32_inf, f32_least]
  simp only
  rw [if_neg (by omega), if_neg (by omega), if_neg (by omega)]
  rfl
theorem mag_eq {m n p q : Nat} (hm : m < 16777216) (hn : n < 16777216) (cm : p = 0 ∨ 8388608 ≤ m) (cn : q = 0 ∨ 8388608 ≤ n) (h : m * 2 ^ (p - min p q) = n * 2 ^ (q - min p q)) : p = q ∧ m = n := by
  rcases Nat.lt_trichotomy p q with hl | he | hg
  · exfalso
    rw [show min p q = p by omega, Nat.sub_self, Nat.pow_zero, Nat.mul_one] at h
    obtain ⟨d, hd⟩ : ∃ d, q - p = d + 1 := ⟨q - p - 1, by omega⟩
    rw [hd, Nat.pow_succ] at h
    have h1 : 8388608 ≤ n := by omega
    have h2 : 1 ≤ 2 ^ d := Nat.two_pow_pos d
    have h3 : n * 2 ≤ n * (2 ^ d * 2) := Nat.mul_le_mul_left _ (by omega)
    omega
  · subst he
    rw [Nat.min_self, Nat.sub_self, Nat.pow_zero, Nat.mul_one, Nat.mul_one] at h
    exact ⟨rfl, h⟩
  · exfalso
    rw [show min p q = q by omega, Nat.sub_self, Nat.pow_zero, Nat.mul_one] at h
    obtain ⟨d, hd⟩ : ∃ d, p - q = d + 1 := ⟨p - q - 1, by omega⟩
    rw [hd, Nat.pow_succ] at h
    have h1 : 8388608 ≤ m := by omega
    have h2 : 1 ≤ 2 ^ d := Nat.two_pow_pos d
    have h3 : m * 2 ≤ m * (2 ^ d * 2) := Nat.mul_le_mul_left _ (by omega)
    omega
theorem same_words {a b : Nat} (ha : a < 4294967296) (hb : b < 4294967296) (hna : isNaN .f32 a = false) (hnb : isNaN .f32 b = false) : (feq .f32 a b && (signF a == signF b)) = decide (a = b) := by
  rw [Bool.eq_iff_iff, Bool.and_eq_true, decide_eq_true_eq]
  have rng : ∀ {x : Nat}, isNaN .f32 x = false → x % 2147483648 ≤ 2139095040 := fun {x} h => by
    refine Nat.le_of_not_lt fun h' => ?_
    rw [read32_nan h'] at h; cases h
  constructor
  · rintro ⟨h1, h2⟩
    have hs : a / 2147483648 = b / 2147483648 := by
      unfold signF at h2
      have h3 : a / 2147483648 < 2 := by omega
      have h4 : b / 2147483648 < 2 := by omega
      generalize a / 2147483648 = u at *
      generalize b / 2147483648 = v at *
      have hu : u = 0 ∨ u = 1 := by omega
      have hv : v = 0 ∨ v = 1 := by omega
      rcases hu with rfl | rfl <;> rcases hv with rfl | rfl <;> first | rfl | (exfalso; revert h2; decide)
    have hse : signF a = signF b := by unfold signF; rw [hs]
    suffices hr : a % 2147483648 = b % 2147483648 by omega
    unfold feq Ieee.Format.order at h1
    rcases Nat.lt_or_eq_of_le (rng hna) with la | la <;> rcases Nat.lt_or_eq_of_le (rng hnb) with lb | lb
    · obtain ⟨m, p, e1, m1, m2, m3⟩ := read32_num la
      obtain ⟨n, q, e2, n1, n2, n3⟩ := read32_num lb
      rw [e1, e2, hse] at h1
      simp only [Ieee.Datum.order, beq_iff_eq, Option.some.injEq] at h1
      have h5 := Std.LawfulEqCmp.eq_of_compare h1
      have hmin : min (-149 + (p : Int)) (-149 + (q : Int)) = -149 + ((min p q : Nat) : Int) := by omega
      rw [hmin, show (-149 + (p : Int) - (-149 + ((min p q : Nat) : Int))).toNat = p - min p q by omega, show (-149 + (q : Int) - (-149 + ((min p q : Nat) : Int))).toNat = q - min p q by omega] at h5
      have h6 : m * 2 ^ (p - min p q) = n * 2 ^ (q - min p q) := by
        unfold Ieee.signed at h5
        rw [Nat.shiftLeft_eq, Nat.shiftLeft_eq] at h5
        generalize signF b = z at h5
        cases z
        · simp only [Bool.false_eq_true, if_false] at h5
          exact Int.ofNat.inj h5
        · simp only [if_true] at h5
          exact Int.ofNat.inj (Int.neg_inj.1 h5)
      obtain ⟨rfl, rfl⟩ := mag_eq m1 n1 m2 n2 h6
      omega
    · obtain ⟨m, p, e1, _⟩ := read32_num la
      rw [e1, read32_inf lb] at h1
      simp only [Ieee.Datum.order] at h1
      exfalso
      revert h1
      cases signF b <;> simp
    · obtain ⟨m, p, e1, _⟩ := read32_num lb
      rw [e1, read32_inf la] at h1
      simp only [Ieee.Datum.order] at h1
      exfalso
      revert h1
      cases signF a <;> simp
    · rw [la, lb]
  · rintro rfl
    refine ⟨?_, by simp⟩
    unfold feq Ieee.Format.order
    cases hr : FloatKind.f32.format.read a with
    | nan s t => unfold isNaN FloatKind.decode at hna; rw [hr] at hna; cases hna
    | infinity s => cases s <;> rfl
    | number s m e => simp [Ieee.Datum.order]
theorem f64_sign : FloatKind.f64.format.signWeight = 9223372036854775808 := by decide
theorem f64_inf : FloatKind.f64.format.infRung = 9218868437227405312 := by decide
/-- The sign of what a double is written from stands above its other bits. -/
theorem write_sign (s : Bool) (d : Ieee.Datum) (h : (∃ m e, d = .number s m e) ∨ d = .infinity s) : (9223372036854775808 ≤ FloatKind.f64.format.write d ↔ s = true) ∧ FloatKind.f64.format.write d < 18446744073709551616 := by
  have key : ∀ r, r ≤ 9218868437227405312 → (9223372036854775808 ≤ FloatKind.f64.format.word s r ↔ s = true) ∧ FloatKind.f64.format.word s r < 18446744073709551616 := by
    intro r hr
    unfold Ieee.Format.word
    rw [f64_sign]
    cases s
    · simp only [Bool.false_eq_true, if_false]
      exact ⟨⟨fun h => by omega, fun h => by cases h⟩, by omega⟩
    · simp only [if_true]
      exact ⟨⟨fun _ => trivial, fun _ => by omega⟩, by omega⟩
  rcases h with ⟨m, e, rfl⟩ | rfl
  · unfold Ieee.Format.write Ieee.Format.nearest
    simp only
    split
    · exact key 0 (by omega)
    · exact key _ (by rw [f64_inf]; exact Nat.min_le_right _ _)
  · unfold Ieee.Format.write
    simp only
    rw [f64_inf]
    exact key _ (Nat.le_refl _)
theorem sign_widen {x : Nat} (h : isNaN .f32 x = false) : decide (IntKind.i64.wrap (f2f .f32 x .f64 : Int) < 0) = signF x := by
  have hd : ∃ d, floatToFloatBits .f32 x .f64 = some (FloatKind.f64.format.write d) ∧ ((∃ m e, d = .number (signF x) m e) ∨ d = .infinity (signF x)) := by
    have hs := widen_some h
    have rng : x % 2147483648 ≤ 2139095040 := by
      refine Nat.le_of_not_lt fun h' => ?_
      rw [read32_nan h'] at h; cases h
    unfold floatToFloatBits at hs ⊢
    rw [if_neg (by decide)] at hs ⊢
    rcases Nat.lt_or_eq_of_le rng with la | la
    · obtain ⟨m, p, e1, _⟩ := read32_num la
      unfold FloatKind.decode at hs ⊢
      rw [e1] at hs ⊢
      simp only at hs ⊢
      split at hs
      · cases hs
      · rename_i hh
        rw [if_neg hh]
        exact ⟨_, rfl, .inl ⟨_, _, rfl⟩⟩
    · unfold FloatKind.decode
      rw [read32_inf la]
      exact ⟨_, rfl, .inr rfl⟩
  obtain ⟨d, e1, e2⟩ := hd
  obtain ⟨k1, k2⟩ := write_sign _ d e2
  unfold f2f
  rw [e1, Option.getD_some]
  generalize FloatKind.f64.format.write d = W at k1 k2
  have hw : IntKind.i64.wrap (W : Int) = if W < 9223372036854775808 then (W : Int) else (W : Int) - 18446744073709551616 := by
    have hb : IntKind.i64.bits = 64 := rfl
    have hs : IntKind.i64.signed = true := rfl
    unfold IntKind.wrap
    rw [hb, hs]
    simp only [Bool.true_and, decide_eq_true_eq]
    rw [show ((2 : Int) ^ 64) = 18446744073709551616 by decide, show ((2 : Int) ^ (64 - 1)) = 9223372036854775808 by decide]
    rw [Int.emod_eq_of_lt (by omega) (by omega)]
    by_cases h9 : W < 9223372036854775808
    · rw [if_pos h9, if_neg (by omega)]
    · rw [if_neg h9, if_pos (by omega)]
  rw [hw]
  cases hz : signF x with
  | true =>
    have := k1.2 hz
    rw [if_neg (by omega)]
    exact decide_eq_true (by omega)
  | false =>
    have h3 : ¬ 9223372036854775808 ≤ W := fun e => by have := k1.1 e; rw [hz] at this; cases this
    rw [if_pos (by omega)]
    exact decide_eq_false (by omega)
end Go.Aw
