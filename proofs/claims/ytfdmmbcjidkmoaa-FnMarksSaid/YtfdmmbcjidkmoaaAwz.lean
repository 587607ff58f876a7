/- Quarters taken away; the sine's steps; what holds of turns that are not too many. -/
import Derived.Test.YtfdmmbcjidkmoaaAwy
set_option linter.unusedSimpArgs false
set_option linter.unusedVariables false
namespace Go.Aw
open Ieee
theorem log2_shift {n : Nat} (hn : n ≠ 0) : ∀ k, (n <<< k).log2 = n.log2 + k := by
  intro k
  induction k with
  | zero => rfl
  | succ k ih =>
    have h0 : n <<< k ≠ 0 := by
      rw [Nat.shiftLeft_eq]
      exact Nat.ne_of_gt (Nat.mul_pos (Nat.pos_of_ne_zero hn) (Nat.two_pow_pos k))
    have e : n <<< (k + 1) = 2 * (n <<< k) := by
      rw [Nat.shiftLeft_eq, Nat.shiftLeft_eq, Nat.pow_succ, ← Nat.mul_assoc, Nat.mul_comm]
    rw [e, Nat.log2_two_mul h0, ih]
    omega
theorem cut_shift (neg : Bool) {n : Nat} (hn : n ≠ 0) (d k : Nat) : Toward.even.cut neg (n <<< k) (d + k) = Toward.even.cut neg n d := by
  have hk := Nat.two_pow_pos k
  have hmin : min (d + k) (n.log2 + k + 2) = min d (n.log2 + 2) + k := by omega
  unfold Toward.cut
  simp only
  rw [log2_shift hn, hmin]
  simp only [Nat.shiftLeft_eq, Nat.one_mul, Nat.pow_add]
  generalize 2 ^ min d (n.log2 + 2) = G
  rw [Nat.mul_div_mul_right _ _ hk, Nat.mul_mod_mul_right]
  have e1 : decide (G * 2 ^ k < 2 * (n % G * 2 ^ k)) = decide (G < 2 * (n % G)) := by
    refine decide_eq_decide.2 ?_
    rw [← Nat.mul_assoc]
    exact Nat.mul_lt_mul_right hk
  have e2 : (G * 2 ^ k == 2 * (n % G * 2 ^ k)) = (G == 2 * (n % G)) := by
    rw [← Nat.mul_assoc, Bool.eq_iff_iff, beq_iff_eq, beq_iff_eq]
    exact ⟨fun h => Nat.eq_of_mul_eq_mul_right hk h, fun h => by rw [← h]⟩
  rw [e1, e2]
theorem nearest_shift (f : Format) (neg : Bool) {m : Nat} (hm : m ≠ 0) (e : Int) (k : Nat) : f.nearest neg (m <<< k) (e - k) = f.nearest neg m e := by
  have hk : m <<< k ≠ 0 := by
    rw [Nat.shiftLeft_eq]
    exact Nat.ne_of_gt (Nat.mul_pos (Nat.pos_of_ne_zero hm) (Nat.two_pow_pos k))
  unfold Format.nearest
  rw [if_neg hm, if_neg hk, log2_shift hm]
  simp only
  have hl : e - (k : Int) + ((m.log2 + k : Nat) : Int) - f.fractionBits = e + m.log2 - f.fractionBits := by omega
  rw [hl]
  generalize max (e + (m.log2 : Int) - f.fractionBits) f.leastPlace = last
  have key : Toward.even.cut neg ((m <<< k) <<< (e - k - last).toNat) (last - (e - k)).toNat = Toward.even.cut neg (m <<< (e - last).toNat) (last - e).toNat := by
    rcases Int.lt_or_le last e with h | h
    · rcases Int.lt_or_le last (e - k) with h2 | h2
      · rw [show (last - (e - (k : Int))).toNat = 0 by omega, show (last - e).toNat = 0 by omega]
        congr 1
        rw [Nat.shiftLeft_eq, Nat.shiftLeft_eq, Nat.shiftLeft_eq, Nat.mul_assoc, ← Nat.pow_add]
        congr 2
        omega
      · rw [show (e - (k : Int) - last).toNat = 0 by omega, Nat.shiftLeft_zero, show (last - e).toNat = 0 by omega]
        obtain ⟨d, hd⟩ : ∃ d, (last - (e - (k : Int))).toNat = d := ⟨_, rfl⟩
        have hup : m <<< k = (m <<< (e - last).toNat) <<< d := by
          rw [Nat.shiftLeft_eq, Nat.shiftLeft_eq, Nat.shiftLeft_eq, Nat.mul_assoc, ← Nat.pow_add]
          congr 2
          omega
        have hu : m <<< (e - last).toNat ≠ 0 := by
          rw [Nat.shiftLeft_eq]
          exact Nat.ne_of_gt (Nat.mul_pos (Nat.pos_of_ne_zero hm) (Nat.two_pow_pos _))
        rw [hd, hup]
        have := cut_shift neg hu 0 d
        rw [Nat.zero_add] at this
        exact this
    · rw [show (e - (k : Int) - last).toNat = 0 by omega, show (e - last).toNat = 0 by omega, Nat.shiftLeft_zero, Nat.shiftLeft_zero, show (last - (e - (k : Int))).toNat = (last - e).toNat + k by omega]
      exact cut_shift neg hm _ _
  rw [key]
/-- A number of W units of 2 to the power of -54, of full digits. -/
def Wf (y : Nat) (W : Nat) : Prop := ∃ m k : Nat, FloatKind.f64.format.read y = .number false m (-54 + (k : Int)) ∧ W = m * 2 ^ k ∧ 4503599627370496 ≤ m ∧ m < 9007199254740992
theorem read64_full {x : Nat} {s : Bool} {m : Nat} {e : Int} (h : FloatKind.f64.format.read x = .number s m e) : m < 9007199254740992 ∧ -1074 ≤ e ∧ (e = -1074 ∨ 4503599627370496 ≤ m) := by
  unfold Format.read at h
  rw [f64_sign, f64_bin, f64_inf, f64_least] at h
  generalize x % 9223372036854775808 = r at h
  simp only at h
  split at h
  · cases h; omega
  · split at h
    · cases h; omega
    · split at h <;> cases h
theorem fge_iff {y : Nat} {s : Bool} {m : Nat} {e : Int} (h : FloatKind.f64.format.read y = .number s m e) : fge .f64 y quarD = true ↔ signed false 4503599627370496 (-54 - min e (-54)).toNat ≤ signed s m (e - min e (-54)).toNat := by
  unfold fge fgt feq Format.order
  rw [h, read_quar64]
  unfold Datum.order
  simp only
  generalize signed s m (e - min e (-54)).toNat = a
  generalize signed false 4503599627370496 (-54 - min e (-54)).toNat = b
  rcases Int.lt_trichotomy a b with h | h | h
  · rw [Int.compare_eq_lt.2 h]
    constructor
    · intro h0; exact absurd h0 (by decide)
    · intro h0; omega
  · rw [Int.compare_eq_eq.2 h]
    exact ⟨fun _ => by omega, fun _ => rfl⟩
  · rw [Int.compare_eq_gt.2 h]
    exact ⟨fun _ => by omega, fun _ => rfl⟩
theorem signed_false (m u : Nat) : signed false m u = ((m * 2 ^ u : Nat) : Int) := by
  unfold signed
  rw [if_neg (by decide), Nat.shiftLeft_eq]
theorem wf_of {y : Nat} (h : fge .f64 y quarD = true) (hc : Cl y 1) : ∃ W, Wf y W ∧ 4503599627370496 ≤ W ∧ W ≤ 36028797018963968 := by
  obtain ⟨s, m, e, j, h1, h2, h3⟩ := hc
  obtain ⟨hm, he, hn⟩ := read64_full h1
  have hq := (fge_iff h1).1 h
  rw [signed_false] at hq
  have hs : s = false := by
    cases s
    · rfl
    · exfalso
      have hp := Nat.mul_pos (show 0 < 4503599627370496 by decide) (Nat.two_pow_pos (-54 - min e (-54)).toNat)
      have ht : signed true m (e - min e (-54)).toNat = -((m * 2 ^ (e - min e (-54)).toNat : Nat) : Int) := by
        unfold signed
        rw [if_pos rfl, Nat.shiftLeft_eq]
      rw [ht] at hq
      generalize m * 2 ^ (e - min e (-54)).toNat = Y at hq
      generalize 4503599627370496 * 2 ^ (-54 - min e (-54)).toNat = Z at hq hp
      omega
  subst hs
  rw [signed_false] at hq
  have hq' : 4503599627370496 * 2 ^ (-54 - min e (-54)).toNat ≤ m * 2 ^ (e - min e (-54)).toNat := by omega
  have he54 : -54 ≤ e := by
    rcases Int.lt_or_le e (-54) with hlt | hle
    · exfalso
      rw [show (e - min e (-54)).toNat = 0 by omega, Nat.pow_zero, Nat.mul_one] at hq'
      obtain ⟨d, hd⟩ : ∃ d, (-54 - min e (-54)).toNat = d + 1 := ⟨(-54 - e).toNat - 1, by omega⟩
      rw [hd, Nat.pow_succ] at hq'
      have := Nat.two_pow_pos d
      omega
    · exact hle
  obtain ⟨k, hk⟩ : ∃ k : Nat, e = -54 + (k : Int) := ⟨(e + 54).toNat, by omega⟩
  subst hk
  have hfull : 4503599627370496 ≤ m := by
    rcases hn with h0 | h0
    · omega
    · exact h0
  refine ⟨m * 2 ^ k, ⟨m, k, h1, rfl, hfull, hm⟩, ?_, ?_⟩
  · exact Nat.le_trans hfull (Nat.le_mul_of_pos_right _ (Nat.two_pow_pos k))
  · calc m * 2 ^ k ≤ 2 ^ j * 2 ^ k := Nat.mul_le_mul_right _ h2
      _ = 2 ^ (j + k) := (Nat.pow_add ..).symm
      _ ≤ 2 ^ 55 := Nat.pow_le_pow_right (by decide) (by omega)
theorem wf_step {y W : Nat} (h : Wf y W) (h1 : 4503599627370496 ≤ W) (h2 : W ≤ 36028797018963968) :
    (4503599627370496 ≤ W - 4503599627370496 → Wf (fsub .f64 y quarD) (W - 4503599627370496)) ∧ (W - 4503599627370496 < 4503599627370496 → fge .f64 (fsub .f64 y quarD) quarD = false) := by
  obtain ⟨m, k, hr, hW, hm1, hm2⟩ := h
  have hk : k ≤ 3 := by
    rcases Nat.lt_or_ge 3 k with hk | hk
    · exfalso
      have h16 : 2 ^ 4 ≤ 2 ^ k := Nat.pow_le_pow_right (by decide) hk
      have : 4503599627370496 * 2 ^ 4 ≤ m * 2 ^ k := Nat.mul_le_mul hm1 h16
      omega
    · exact hk
  have hsub : fsub .f64 y quarD = FloatKind.f64.format.write (.number false (W - 4503599627370496) (-54)) := by
    unfold fsub Format.sub
    rw [hr, read_quar64]
    show FloatKind.f64.format.write (.number _ (signed false m (-54 + (k : Int) - min (-54 + (k : Int)) (-54)).toNat + signed true 4503599627370496 (-54 - min (-54 + (k : Int)) (-54)).toNat).natAbs (min (-54 + (k : Int)) (-54))) = _
    have hmin : min (-54 + (k : Int)) (-54) = -54 := by omega
    rw [hmin, show (-54 + (k : Int) - -54).toNat = k by omega, show ((-54 : Int) - -54).toNat = 0 by omega, signed_false, ← hW]
    have ht : signed true 4503599627370496 0 = -4503599627370496 := by decide
    simp only [Bool.not_false]
    rw [ht, show ((W : Int) + -4503599627370496).natAbs = W - 4503599627370496 by omega]
    congr 2
    split
    · rfl
    · exact decide_eq_false (by omega)
  rw [hsub]
  constructor
  · intro hge
    obtain ⟨M, hM⟩ : ∃ M, W - 4503599627370496 = M <<< k := by
      refine ⟨m - 2 ^ (52 - k), ?_⟩
      rw [Nat.shiftLeft_eq, Nat.sub_mul, ← hW, ← Nat.pow_add, show 52 - k + k = 52 by omega]
    have hM0 : M ≠ 0 := by
      intro h0
      rw [h0, Nat.zero_shiftLeft] at hM
      omega
    have hMm : M < 2 ^ 53 := by
      rw [Nat.shiftLeft_eq] at hM
      have hlt : M * 2 ^ k < m * 2 ^ k := by rw [← hM, ← hW]; omega
      have := Nat.lt_of_mul_lt_mul_right hlt
      rw [p53]
      omega
    have hlogM : 52 ≤ M.log2 + k := by
      have hl := log2_shift hM0 k
      rw [← hM] at hl
      rw [← hl]
      exact (Nat.le_log2 (by omega)).2 (by rw [p52]; exact hge)
    have hlog52 : M.log2 ≤ 52 := by
      have := (Nat.log2_lt hM0).2 hMm
      omega
    have hw : FloatKind.f64.format.write (.number false (W - 4503599627370496) (-54)) = FloatKind.f64.format.write (.number false M (-54 + (k : Int))) := by
      show FloatKind.f64.format.nearest false (W - 4503599627370496) (-54) = FloatKind.f64.format.nearest false M (-54 + (k : Int))
      rw [hM, ← nearest_shift _ _ hM0 (-54 + (k : Int)) k, show (-54 + (k : Int) - (k : Int)) = -54 by omega]
    have hread := read_write64 (s := false) hM0 hMm (e := -54 + (k : Int)) (by omega) (by omega)
    rw [← hw] at hread
    have hM1 : 2 ^ 52 ≤ M <<< (52 - M.log2) := by
      have h1 : 2 ^ M.log2 ≤ M := Nat.log2_self_le hM0
      rw [Nat.shiftLeft_eq]
      calc 2 ^ 52 = 2 ^ M.log2 * 2 ^ (52 - M.log2) := by rw [← Nat.pow_add, show M.log2 + (52 - M.log2) = 52 by omega]
        _ ≤ M * 2 ^ (52 - M.log2) := Nat.mul_le_mul_right _ h1
    have hM2 : M <<< (52 - M.log2) < 2 ^ 53 := by
      have h1 : M < 2 ^ (M.log2 + 1) := Nat.lt_log2_self
      rw [Nat.shiftLeft_eq]
      calc M * 2 ^ (52 - M.log2) < 2 ^ (M.log2 + 1) * 2 ^ (52 - M.log2) := (Nat.mul_lt_mul_right (Nat.two_pow_pos _)).2 h1
        _ = 2 ^ 53 := by rw [← Nat.pow_add, show M.log2 + 1 + (52 - M.log2) = 53 by omega]
    refine ⟨M <<< (52 - M.log2), k + M.log2 - 52, ?_, ?_, by rw [p52] at hM1; exact hM1, by rw [p53] at hM2; exact hM2⟩
    · rw [hread, show -54 + (k : Int) + (M.log2 : Int) - 52 = -54 + ((k + M.log2 - 52 : Nat) : Int) by omega]
    · rw [hM, Nat.shiftLeft_eq, Nat.shiftLeft_eq, Nat.mul_assoc, ← Nat.pow_add, show 52 - M.log2 + (k + M.log2 - 52) = k by omega]
  · intro hlt
    generalize hV : W - 4503599627370496 = V at hlt
    by_cases hV0 : V = 0
    · rw [hV0]; decide +kernel
    · have hV53 : V < 2 ^ 53 := by rw [p53]; omega
      have hlV : V.log2 ≤ 51 := by
        have := (Nat.log2_lt hV0).2 (show V < 2 ^ 52 by rw [p52]; exact hlt)
        omega
      have hread := read_write64 (s := false) hV0 hV53 (e := -54) (by omega) (by omega)
      cases hg : fge .f64 (FloatKind.f64.format.write (.number false V (-54))) quarD with
      | false => rfl
      | true =>
        exfalso
        have hq := (fge_iff hread).1 hg
        rw [signed_false, signed_false, Nat.shiftLeft_eq, Nat.mul_assoc, ← Nat.pow_add] at hq
        have he : (52 - V.log2 + (-54 + (V.log2 : Int) - 52 - min (-54 + (V.log2 : Int) - 52) (-54)).toNat) = (-54 - min (-54 + (V.log2 : Int) - 52) (-54)).toNat := by omega
        rw [he] at hq
        have hq' : 4503599627370496 * 2 ^ (-54 - min (-54 + (V.log2 : Int) - 52) (-54)).toNat ≤ V * 2 ^ (-54 - min (-54 + (V.log2 : Int) - 52) (-54)).toNat := by omega
        have := Nat.le_of_mul_le_mul_right hq' (Nat.two_pow_pos _)
        omega
/-! Quarters. -/
def qF (f : Nat) : Nat → Nat
  | 0 => f
  | i + 1 => fsub .f64 (qF f i) quarD
def qN : Nat → Nat → Nat
  | 0, _ => 0
  | fuel + 1, f => bif fge .f64 f quarD then qN fuel (fsub .f64 f quarD) + 1 else 0
theorem qF_shift (f : Nat) : ∀ i, qF (fsub .f64 f quarD) i = qF f (i + 1) := by
  intro i
  induction i with
  | zero => rfl
  | succ i ih => show fsub .f64 (qF (fsub .f64 f quarD) i) quarD = fsub .f64 (qF f (i + 1)) quarD; rw [ih]
theorem qN_below : ∀ fuel f i, i < qN fuel f → fge .f64 (qF f i) quarD = true := by
  intro fuel
  induction fuel with
  | zero => intro f i h; exact absurd h (Nat.not_lt_zero _)
  | succ fuel ih =>
    intro f i h
    unfold qN at h
    cases hg : fge .f64 f quarD with
    | false => rw [hg, cond_false] at h; exact absurd h (Nat.not_lt_zero _)
    | true =>
      rw [hg, cond_true] at h
      cases i with
      | zero => exact hg
      | succ i => rw [← qF_shift]; exact ih _ _ (by omega)
theorem qN_le : ∀ fuel f, qN fuel f ≤ fuel := by
  intro fuel
  induction fuel with
  | zero => intro f; exact Nat.le_refl _
  | succ fuel ih =>
    intro f
    unfold qN
    cases fge .f64 f quarD with
    | false => exact Nat.zero_le _
    | true => rw [cond_true]; have := ih (fsub .f64 f quarD); omega
theorem qN_wf : ∀ fuel y W, Wf y W → W ≤ fuel * 4503599627370496 → W ≤ 36028797018963968 → 4503599627370496 ≤ W → fge .f64 (qF y (qN fuel y)) quarD = false := by
  intro fuel
  induction fuel with
  | zero => intro y W _ h1 _ h3; omega
  | succ fuel ih =>
    intro y W h h1 h2 h3
    unfold qN
    cases hg : fge .f64 y quarD with
    | false => exact hg
    | true =>
      rw [cond_true, ← qF_shift]
      obtain ⟨s1, s2⟩ := wf_step h h3 h2
      rcases Nat.lt_or_ge (W - 4503599627370496) 4503599627370496 with hlt | hge
      · have h0 := s2 hlt
        cases fuel with
        | zero => exact h0
        | succ fuel =>
          unfold qN
          rw [h0, cond_false]
          exact h0
      · exact ih _ _ (s1 hge) (by omega) (by omega) hge
theorem qN_done {f : Nat} (h : Cl f 1) : fge .f64 (qF f (qN 8 f)) quarD = false := by
  cases hg : fge .f64 f quarD with
  | false =>
    unfold qN
    rw [hg, cond_false]
    exact hg
  | true =>
    obtain ⟨W, hW, h1, h2⟩ := wf_of hg h
    exact qN_wf 8 f W hW (by omega) h2 h1
theorem qF_cl {f : Nat} (h : Cl f 1) : ∀ i : Nat, (i : Int) ≤ 8 → Cl (qF f i) (1 + (i : Int)) := by
  intro i
  induction i with
  | zero => intro _; exact h.mono (by omega)
  | succ i ih =>
    intro hi
    have := cl_sub (ih (by omega)) (cl_quar.mono (show -2 ≤ 1 + (i : Int) by omega)) (by omega) (by omega)
    exact this.mono (by omega)
end Go.Aw
namespace Go.Aw
open Ieee
/-! ### The sine -/
theorem neg_rung (x : Nat) : Op.negFloat .f64 x % FloatKind.f64.format.signWeight = x % FloatKind.f64.format.signWeight := by
  unfold Op.negFloat Ieee.Format.signWeight
  refine Nat.eq_of_testBit_eq fun i => ?_
  rw [Nat.testBit_mod_two_pow, Nat.testBit_mod_two_pow, Nat.testBit_xor, Nat.testBit_two_pow]
  by_cases h : i < FloatKind.f64.format.exponentBits + FloatKind.f64.format.fractionBits
  · have : ¬ (FloatKind.f64.format.exponentBits + FloatKind.f64.format.fractionBits = i) := by omega
    simp [h, this]
  · simp [h]
theorem read_negf {x : Nat} {s : Bool} {m : Nat} {e : Int} (h : FloatKind.f64.format.read x = .number s m e) : ∃ s', FloatKind.f64.format.read (fneg .f64 x) = .number s' m e := by
  have hn : isNaN .f64 x = false := by unfold isNaN FloatKind.decode; rw [h]; rfl
  unfold fneg
  rw [hn, cond_false]
  unfold Format.read at h ⊢
  rw [neg_rung]
  simp only at h ⊢
  split at h
  · rename_i h1
    rw [if_pos h1]
    cases h
    exact ⟨_, rfl⟩
  · rename_i h1
    rw [if_neg h1]
    split at h
    · rename_i h2
      rw [if_pos h2]
      cases h
      exact ⟨_, rfl⟩
    · split at h <;> cases h
theorem Cl.neg {x : Nat} {B : Int} (h : Cl x B) : Cl (fneg .f64 x) B := by
  obtain ⟨s, m, e, j, h1, h2, h3⟩ := h
  obtain ⟨s', h4⟩ := read_negf h1
  exact ⟨s', m, e, j, h4, h2, h3⟩
def foldF (f : Nat) : Nat :=
  bif fgt .f64 (bif fge .f64 f halfD then fsub .f64 f halfD else f) quarD then fsub .f64 halfD (bif fge .f64 f halfD then fsub .f64 f halfD else f) else bif fge .f64 f halfD then fsub .f64 f halfD else f
def kD (j : Nat) : Nat := itof .f64 (8 - (j : Int))
def denD (j : Nat) : Nat := itof .f64 (2 * (8 - (j : Int)) * (2 * (8 - (j : Int)) + 1))
def pD (u : Nat) : Nat → Nat
  | 0 => oneD
  | j + 1 => fsub .f64 oneD (fdiv .f64 (fmul .f64 u (pD u j)) (denD j))
def zF (y : Nat) : Nat := fmul .f64 (foldF (partF y)) tauD
def sineF (y : Nat) : Nat := bif fge .f64 (partF y) halfD then fneg .f64 (fmul .f64 (zF y) (pD (fmul .f64 (zF y) (zF y)) 8)) else fmul .f64 (zF y) (pD (fmul .f64 (zF y) (zF y)) 8)
theorem kD_next : ∀ j : Fin 8, fsub .f64 (kD j.val) oneD = kD (j.val + 1) := by decide +kernel
theorem kD_den : ∀ j : Fin 8, fmul .f64 (fmul .f64 twoD (kD j.val)) (fadd .f64 (fmul .f64 twoD (kD j.val)) oneD) = denD j.val := by decide +kernel
theorem kD_more : ∀ j : Fin 8, fge .f64 (kD j.val) oneD = true := by decide +kernel
theorem kD_end : fge .f64 (kD 8) oneD = false := by decide +kernel
theorem den0 : FloatKind.f64.format.read (denD 0) = .number false 4785074604081152 (-44) := by decide +kernel
theorem den1 : FloatKind.f64.format.read (denD 1) = .number false 7388718138654720 (-45) := by decide +kernel
theorem den2 : FloatKind.f64.format.read (denD 2) = .number false 5488762045857792 (-45) := by decide +kernel
theorem den3 : FloatKind.f64.format.read (denD 3) = .number false 7740561859543040 (-46) := by decide +kernel
theorem den4 : FloatKind.f64.format.read (denD 4) = .number false 5066549580791808 (-46) := by decide +kernel
theorem den5 : FloatKind.f64.format.read (denD 5) = .number false 5910974510923776 (-47) := by decide +kernel
theorem den6 : FloatKind.f64.format.read (denD 6) = .number false 5629499534213120 (-48) := by decide +kernel
theorem den7 : FloatKind.f64.format.read (denD 7) = .number false 6755399441055744 (-50) := by decide +kernel
theorem p_step {u j n : Nat} {k E : Int} (hu : Cl u 12) (hp : Cl (pD u j) E) (hd : FloatKind.f64.format.read (denD j) = .number false n k) (hn : 2 ^ 52 ≤ n) (hE : 0 ≤ E) (hE2 : E ≤ 200) (hk : -50 ≤ k) (hk2 : k ≤ -44) : Cl (pD u (j + 1)) (E - 38 - k) := by
  have h1 := cl_mul hu hp (by omega) (by omega)
  have h2 := cl_div h1 (b := 52) hd hn (C := 52 + k) (by omega) (by omega) (by omega)
  have h3 := cl_sub (cl_one.mono (show (0 : Int) ≤ 12 + E - (52 + k) + 1 by omega)) h2 (by omega) (by omega)
  exact h3.mono (by omega)
theorem pD_cl {u : Nat} (hu : Cl u 12) : Cl (pD u 8) 67 := by
  have h0 : Cl (pD u 0) 0 := cl_one
  have h1 := p_step hu h0 den0 (by decide) (by omega) (by omega) (by omega) (by omega)
  have h2 := p_step hu h1 den1 (by decide) (by omega) (by omega) (by omega) (by omega)
  have h3 := p_step hu h2 den2 (by decide) (by omega) (by omega) (by omega) (by omega)
  have h4 := p_step hu h3 den3 (by decide) (by omega) (by omega) (by omega) (by omega)
  have h5 := p_step hu h4 den4 (by decide) (by omega) (by omega) (by omega) (by omega)
  have h6 := p_step hu h5 den5 (by decide) (by omega) (by omega) (by omega) (by omega)
  have h7 := p_step hu h6 den6 (by decide) (by omega) (by omega) (by omega) (by omega)
  have h8 := p_step hu h7 den7 (by decide) (by omega) (by omega) (by omega) (by omega)
  exact h8.mono (by omega)
theorem fold_cl {f : Nat} (h : Cl f 1) : Cl (foldF f) 3 := by
  have hg : Cl (bif fge .f64 f halfD then fsub .f64 f halfD else f) 2 := by
    cases fge .f64 f halfD with
    | true => exact cl_sub h (cl_half.mono (by decide)) (by decide) (by decide)
    | false => exact h.mono (by decide)
  unfold foldF
  generalize (bif fge .f64 f halfD then fsub .f64 f halfD else f) = g at hg
  cases fgt .f64 g quarD with
  | true => exact cl_sub (cl_half.mono (by decide)) hg (by decide) (by decide)
  | false => exact hg.mono (by decide)
theorem sine_cl {y : Nat} (h : Cl y 51) : Cl (sineF y) 73 := by
  have hz : Cl (zF y) 6 := cl_mul (fold_cl (part_cl h)) cl_tau (by decide) (by decide)
  have hu : Cl (fmul .f64 (zF y) (zF y)) 12 := cl_mul hz hz (by decide) (by decide)
  have hs := cl_mul hz (pD_cl hu) (by decide) (by decide)
  unfold sineF
  cases fge .f64 (partF y) halfD with
  | true => exact hs.neg
  | false => exact hs
end Go.Aw
namespace Go.Aw
open Ieee
/-! ### Turns that are not too many -/
def absF (x : Nat) : Nat := x % 9223372036854775808
theorem abs_cl {x : Nat} {B : Int} (h : Cl x B) : Cl (absF x) B := by
  obtain ⟨s, m, e, j, h1, h2, h3⟩ := h
  refine ⟨false, m, e, j, ?_, h2, h3⟩
  unfold Format.read at h1 ⊢
  rw [f64_sign] at h1 ⊢
  unfold absF
  have hd : x % 9223372036854775808 / 9223372036854775808 % 2 = 0 := by omega
  have hm : x % 9223372036854775808 % 9223372036854775808 = x % 9223372036854775808 := Nat.mod_mod _ _
  rw [hd, hm]
  simp only at h1 ⊢
  split at h1
  · rename_i g1
    rw [if_pos g1]
    cases h1
    rfl
  · rename_i g1
    rw [if_neg g1]
    split at h1
    · rename_i g2
      rw [if_pos g2]
      cases h1
      rfl
    · split at h1 <;> cases h1
theorem big_aux {s : Bool} {m j : Nat} {e : Int} (h2 : m ≤ 2 ^ j) (h3 : (j : Int) + e ≤ 51) : m * 2 ^ (e - min e 0).toNat < 4503599627370496 * 2 ^ (0 - min e 0).toNat := by
  calc m * 2 ^ (e - min e 0).toNat ≤ 2 ^ j * 2 ^ (e - min e 0).toNat := Nat.mul_le_mul_right _ h2
    _ = 2 ^ (j + (e - min e 0).toNat) := (Nat.pow_add ..).symm
    _ < 2 ^ (52 + (0 - min e 0).toNat) := Nat.pow_lt_pow_right (by decide) (by omega)
    _ = 4503599627370496 * 2 ^ (0 - min e 0).toNat := by rw [Nat.pow_add, p52]
theorem Cl.big {x : Nat} (h : Cl x 51) : fge .f64 x hugeD = false := by
  obtain ⟨s, m, e, j, h1, h2, h3⟩ := h
  have ha := signed_abs s m (e - min e 0).toNat
  have hb := big_aux (s := s) h2 h3
  unfold fge fgt feq Format.order
  rw [h1, read_huge64]
  unfold Datum.order
  simp only
  rw [signed_false]
  have hlt : signed s m (e - min e 0).toNat < ((4503599627370496 * 2 ^ (0 - min e 0).toNat : Nat) : Int) := by
    generalize signed s m (e - min e 0).toNat = a at ha
    generalize 4503599627370496 * 2 ^ (0 - min e 0).toNat = b at hb
    omega
  rw [Int.compare_eq_lt.2 hlt]
  rfl
theorem Cl.low {x : Nat} (h : Cl x 51) : fle .f64 x nhugeD = false := by
  obtain ⟨s, m, e, j, h1, h2, h3⟩ := h
  have ha := signed_abs s m (e - min e 0).toNat
  have hb := big_aux (s := s) h2 h3
  unfold fle flt feq Format.order
  rw [h1, read_nhuge64]
  unfold Datum.order
  simp only
  have ht : signed true 4503599627370496 (0 - min e 0).toNat = -((4503599627370496 * 2 ^ (0 - min e 0).toNat : Nat) : Int) := by
    unfold signed
    rw [if_pos rfl, Nat.shiftLeft_eq]
  rw [ht]
  have hlt : -((4503599627370496 * 2 ^ (0 - min e 0).toNat : Nat) : Int) < signed s m (e - min e 0).toNat := by
    generalize signed s m (e - min e 0).toNat = a at ha
    generalize 4503599627370496 * 2 ^ (0 - min e 0).toNat = b at hb
    omega
  rw [Int.compare_eq_gt.2 hlt]
  rfl
structure Tame (x : Nat) : Prop where
  num : isNaN .f64 x = false
  self : feq .f64 (fsub .f64 x x) 0 = true
  big : fge .f64 x hugeD = false
  low : fle .f64 x nhugeD = false
  int : (floatToIntVal .f64 x .i64).isSome = true
  whole : itof .f64 (ftoi .f64 x .i64) = wholeF x
theorem Cl.tame {x : Nat} (h : Cl x 51) : Tame x := by
  have hb := h.big
  have hl := h.low
  have hn := h.nan
  obtain ⟨s, m, e, j, h1, h2, h3⟩ := h
  have ht : truncV m e ≤ 2 ^ 51 := truncV_small h2 h3
  refine ⟨hn, ?_, hb, hl, ?_, whole_int h1 ht⟩
  · have hs : fsub .f64 x x = FloatKind.f64.format.write (.number false 0 (min e e)) := by
      unfold fsub Format.sub
      rw [h1]
      show FloatKind.f64.format.write (.number _ (signed s m (e - min e e).toNat + signed (!s) m (e - min e e).toNat).natAbs (min e e)) = _
      have hz : signed s m (e - min e e).toNat + signed (!s) m (e - min e e).toNat = 0 := by
        unfold signed
        cases s <;> simp <;> omega
      rw [hz]
      cases s <;> rfl
    rw [hs]
    have hw : FloatKind.f64.format.write (.number false 0 (min e e)) = 0 := by
      show FloatKind.f64.format.nearest false 0 (min e e) = 0
      unfold Format.nearest
      rw [if_pos rfl]
      rfl
    rw [hw]
    decide +kernel
  · rw [toInt64 h1 ht]
    rfl
def phQ (x : Nat) : Nat := qN 8 (partF x)
def phR (x : Nat) : Nat := qF (partF x) (phQ x)
def phA (x : Nat) : Nat := sineF (fsub .f64 quarD (phR x))
def phB (x : Nat) : Nat := sineF (phR x)
def pickQ (q a b c d : Nat) : Nat := if q = 1 then a else if q = 2 then b else if q = 3 then c else d
def phCw (x : Nat) : Nat := pickQ (phQ x) (fsub .f64 0 (phB x)) (fsub .f64 0 (phA x)) (phB x) (phA x)
def phSw (x : Nat) : Nat := pickQ (phQ x) (phA x) (fsub .f64 0 (phB x)) (fsub .f64 0 (phA x)) (phB x)
def phC (x : Nat) : Nat := f2f .f64 (phCw x) .f32
def phS (x : Nat) : Nat := f2f .f64 (phSw x) .f32
theorem phQ_le (x : Nat) : phQ x ≤ 8 := qN_le 8 _
theorem phR_cl {x : Nat} (h : Cl x 51) : Cl (phR x) 9 := (qF_cl (part_cl h) _ (by have := phQ_le x; omega)).mono (by have := phQ_le x; omega)
theorem phD_cl {x : Nat} (h : Cl x 51) : Cl (fsub .f64 quarD (phR x)) 10 := cl_sub (cl_quar.mono (by decide)) (phR_cl h) (by decide) (by decide)
theorem phA_cl {x : Nat} (h : Cl x 51) : Cl (phA x) 74 := (sine_cl ((phD_cl h).mono (by decide))).mono (by decide)
theorem phB_cl {x : Nat} (h : Cl x 51) : Cl (phB x) 74 := (sine_cl ((phR_cl h).mono (by decide))).mono (by decide)
theorem zero_cl {y : Nat} (h : Cl y 73) : Cl (fsub .f64 0 y) 74 := cl_sub (cl_zero.mono (by decide)) h (by decide) (by decide)
theorem phA_ncl {x : Nat} (h : Cl x 51) : Cl (fsub .f64 0 (phA x)) 74 := zero_cl (sine_cl ((phD_cl h).mono (by decide)))
theorem phB_ncl {x : Nat} (h : Cl x 51) : Cl (fsub .f64 0 (phB x)) 74 := zero_cl (sine_cl ((phR_cl h).mono (by decide)))
theorem phR_done {x : Nat} (h : Cl x 51) : fge .f64 (phR x) quarD = false := qN_done (part_cl h)
end Go.Aw
