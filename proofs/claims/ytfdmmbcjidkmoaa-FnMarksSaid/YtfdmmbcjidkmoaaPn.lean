/- The law on marks, without the program: lists that are sharpened stay above nothing; all that has to hold. -/
import Derived.Test.YtfdmmbcjidkmoaaPm
set_option linter.unusedSimpArgs false
set_option linter.unusedVariables false
namespace Go.Proofs.Ytfdmmbcjidkmoaa
open Go.Aw
section
variable {N : Nat} {x y : Nat → Nat} {a : Nat → Int} {L H iL iH : Rat} {w0 w2 : Int}
theorem accS_congr {m i : Nat} {w w' : Nat → Nat} : ∀ {k : Nat}, k ≤ m → (∀ j, j < m → w j = w' j) → accS N y w m i k = accS N y w' m i k
  | 0, _, _ => rfl
  | k + 1, hk, h => by
    show fadd .f32 (accS N y w m i k) (fmul .f32 (w k) _) = fadd .f32 (accS N y w' m i k) (fmul .f32 (w' k) _)
    rw [accS_congr (by omega) h, h k (by omega)]
theorem sprX_congr {m : Nat} {w w' : Nat → Nat} (h : ∀ j, j < m → w j = w' j) (i : Nat) : sprX N y m w i = sprX N y m w' i := by
  unfold sprX
  rw [accS_congr (Nat.le_refl m) h, sumN_congr h]
theorem kernN_congr {m : Nat} {w w' : Nat → Nat} (h : ∀ j, j < m → w j = w' j) : kernN m w = kernN m w' := by
  unfold kernN
  rw [sumN_congr h]
  have : rotN m w = rotN m w' := by
    unfold rotN allN
    rw [Bool.eq_iff_iff]
    simp only [List.all_eq_true, List.mem_range]
    exact ⟨fun k j hj => by rw [← h j hj]; exact k j hj, fun k j hj => by rw [h j hj]; exact k j hj⟩
  rw [this]
theorem rev_kern : ∀ j, j < 3 → revX 3 (kern3 w0 w2) j = kern3 w2 w0 j := by
  intro j hj
  have e0 : ∀ a b : Int, kern3 a b 0 = itof .f32 a := fun a b => by unfold kern3; rw [if_pos rfl]
  have e2 : ∀ a b : Int, kern3 a b 2 = itof .f32 b := fun a b => by unfold kern3; rw [if_neg (by decide), if_neg (by decide)]
  unfold revX
  match j, hj with
  | 0, _ => rw [show 3 - 1 - 0 = 2 from rfl, e2, e0]
  | 1, _ =>
    have e1 : ∀ a b : Int, kern3 a b 1 = 1065353216 := fun a b => by unfold kern3; rw [if_neg (by decide), if_pos rfl]
    rw [show 3 - 1 - 1 = 1 from rfl, e1, e1]
  | 2, _ => rw [show 3 - 1 - 2 = 0 from rfl, e2, e0]
/-- Quotients of the list. -/
theorem rat_bd {s : Nat → Nat} (hq : QuartP x a) (hs : Bd N s L H) (hL : iL * L = 1) (hH : iH * H = 1) (hL0 : 0 < L) (hi0 : 0 < iL) (hj0 : 0 < iH) (hiL : iL ≤ 36893488147419103232) (hiH : 1 / 36893488147419103232 ≤ iH) : Bd N (fun i => fdiv .f32 (x i) (s i)) (iH / 4 * (1 - 4 * uS)) (4 * iL * (1 + 4 * uS)) := by
  intro i hi
  obtain ⟨r, r1, r2, r3⟩ := hs i hi
  obtain ⟨p1, p2⟩ := pos_q hq i
  have r0 : 0 < r := by grind
  have rne : r ≠ 0 := Rat.ne_of_gt r0
  obtain ⟨R, hR⟩ : ∃ R : Rat, R * r = 1 := ⟨r⁻¹, Rat.inv_mul_cancel _ rne⟩
  have R0 : 0 < R := by
    rcases Rat.le_total (a := R) (b := 0) with h | h
    · have := Rat.mul_le_mul_of_nonneg_right h (Rat.le_of_lt r0)
      grind
    · have : R ≠ 0 := by rintro rfl; grind
      grind
  -- R between iH and iL
  have b1 : R ≤ iL := by
    have h1 := Rat.mul_le_mul_of_nonneg_left r2 (Rat.le_of_lt R0)
    have h2 : R * L * iL ≤ 1 * iL := Rat.mul_le_mul_of_nonneg_right (by grind) (Rat.le_of_lt hi0)
    have h3 : R * L * iL = R := by
      have : R * L * iL = R * (iL * L) := by grind
      rw [this, hL]; grind
    grind
  have b2 : iH ≤ R := by
    have h1 := Rat.mul_le_mul_of_nonneg_left r3 (Rat.le_of_lt hj0)
    have h2 : iH * r * R ≤ 1 * R := Rat.mul_le_mul_of_nonneg_right (by grind) (Rat.le_of_lt R0)
    have h3 : iH * r * R = iH := by
      have : iH * r * R = iH * (R * r) := by grind
      rw [this, hR]; grind
    grind
  have hv := hq.v i
  generalize (a i : Rat) * pw (-2) = z at *
  have z1 : 1 / 4 * R ≤ z * R := Rat.mul_le_mul_of_nonneg_right p1 (Rat.le_of_lt R0)
  have z2 : z * R ≤ 4 * R := Rat.mul_le_mul_of_nonneg_right p2 (Rat.le_of_lt R0)
  have z0 : 0 ≤ z * R := by grind
  obtain ⟨q, q1, q2⟩ := div_near (k := .f32) hv r1 rne (c := z * R) (by
    have : z * R * r = z * (R * r) := by grind
    rw [this, hR]; grind) (by rw [mg_of_nonneg z0]; exact Rat.le_trans (show z * R ≤ 1267650600228229401496703205376 by grind) (big_lim (k := .f32)))
  have ht := tiny_le (k := .f32)
  rw [uK_f32, mg_of_nonneg z0] at q2
  have q3 := mg_le' q2
  exact ⟨q, q1, by grind, by grind⟩
/-- One round. -/
theorem round_bd (hN : 1 ≤ N) (hq : QuartP x a) {now : Nat → Nat} (hb : Bd N now L H) (hL : iL * L = 1) (hH : iH * H = 1) (hL0 : 0 < L) (hi0 : 0 < iL) (hj0 : 0 < iH) (hL1 : 1 / 18446744073709551616 ≤ L) (hH1 : H ≤ 18446744073709551616) (hiL : iL ≤ 18446744073709551616) (hiH : 1 / 18446744073709551616 ≤ iH) (h0 : 0 ≤ w0) (h3 : w0 ≤ 3) (g0 : 0 ≤ w2) (g3 : w2 ≤ 3) (hbig : H * (4 * iL) * (1001 / 1000) < pw 127) :
    Bd N (sprX N now 3 (kern3 w0 w2)) (L * (1 - 1 / 1048576)) (H * (1 + 1 / 1048576)) ∧ (∃ l h, 0 < l ∧ Bd N (ratX x N 3 (kern3 w0 w2) now) l h) ∧ (∃ l h, 0 < l ∧ Bd N (sprX N (ratX x N 3 (kern3 w0 w2) now) 3 (revX 3 (kern3 w0 w2))) l h) ∧
      Bd N (fun i => fmul .f32 (now i) (sprX N (ratX x N 3 (kern3 w0 w2) now) 3 (revX 3 (kern3 w0 w2)) i)) (L * (iH / 4) * (999 / 1000)) (H * (4 * iL) * (1001 / 1000)) := by
  have s1 := spr_bd hN hb (by grind) (by grind) h0 h3 g0 g3
  have H0 : 0 < H := by
    obtain ⟨r, _, r1, r2⟩ := hb 0 (by omega)
    grind
  have s2 : Bd N (ratX x N 3 (kern3 w0 w2) now) (iH * (1048576 / 1048577) / 4 * (1 - 4 * uS)) (4 * (iL * (1048576 / 1048575)) * (1 + 4 * uS)) := by
    refine rat_bd hq s1 (iL := iL * (1048576 / 1048575)) (iH := iH * (1048576 / 1048577)) ?_ ?_ (by grind) (by grind) (by grind) (by grind) (by grind)
    · have : iL * (1048576 / 1048575) * (L * (1 - 1 / 1048576)) = iL * L * (1048576 / 1048575 * (1 - 1 / 1048576)) := by grind
      rw [this, hL]
      decide +kernel
    · have : iH * (1048576 / 1048577) * (H * (1 + 1 / 1048576)) = iH * H * (1048576 / 1048577 * (1 + 1 / 1048576)) := by grind
      rw [this, hH]
      decide +kernel
  have s3 := spr_bd hN s2 (by grind) (by grind) g0 g3 h0 h3
  have s3' : Bd N (sprX N (ratX x N 3 (kern3 w0 w2) now) 3 (revX 3 (kern3 w0 w2))) (iH * (1048576 / 1048577) / 4 * (1 - 4 * uS) * (1 - 1 / 1048576)) (4 * (iL * (1048576 / 1048575)) * (1 + 4 * uS) * (1 + 1 / 1048576)) := fun i hi => by
    rw [sprX_congr rev_kern i]
    exact s3 i hi
  refine ⟨s1, ⟨_, _, by grind, s2⟩, ⟨_, _, by grind, s3'⟩, fun i hi => ?_⟩
  obtain ⟨r, r1, r2, r3⟩ := hb i hi
  obtain ⟨t, t1, t2, t3⟩ := s3' i hi
  have t2' : iH / 4 * (9995 / 10000) ≤ t := by grind
  have t3' : t ≤ 4 * iL * (10005 / 10000) := by grind
  have r0 : 0 ≤ r := by grind
  have t0 : 0 ≤ t := by grind
  have m1 : L * (iH / 4 * (9995 / 10000)) ≤ r * t := by
    have a1 := Rat.mul_le_mul_of_nonneg_right r2 (show 0 ≤ iH / 4 * (9995 / 10000) by grind)
    have a2 := Rat.mul_le_mul_of_nonneg_left t2' r0
    grind
  have m2 : r * t ≤ H * (4 * iL * (10005 / 10000)) := by
    have a1 := Rat.mul_le_mul_of_nonneg_right r3 t0
    have a2 := Rat.mul_le_mul_of_nonneg_left t3' (Rat.le_of_lt H0)
    grind
  have hi4 : 0 ≤ H * (4 * iL) := Rat.mul_nonneg (Rat.le_of_lt H0) (by grind)
  have hl4 : 1 / 18446744073709551616 * (1 / 18446744073709551616 / 4) ≤ L * (iH / 4) := by
    have a1 := Rat.mul_le_mul_of_nonneg_right hL1 (show 0 ≤ iH / 4 by grind)
    have a2 := Rat.mul_le_mul_of_nonneg_left (show 1 / 18446744073709551616 / 4 ≤ iH / 4 by grind) (show (0 : Rat) ≤ 1 / 18446744073709551616 by decide +kernel)
    exact Rat.le_trans a2 a1
  have m0 : 0 ≤ r * t := Rat.mul_nonneg r0 t0
  obtain ⟨p, p1, p2⟩ := mul_near' (k := .f32) r1 t1 (by rw [mg_of_nonneg m0]; exact (show r * t < pw 127 by grind))
  rw [uK_f32, mg_of_nonneg m0] at p2
  have p3 := mg_le' p2
  have htk : tK .f32 ≤ 1 / 18446744073709551616 * (1 / 18446744073709551616 / 4) * (1 / 100000) := by decide +kernel
  refine ⟨p, p1, ?_, ?_⟩
  · grind
  · grind
end
/-- The bounds behind each round. -/
def LH : Nat → Rat × Rat
  | 0 => (1 / 4, 4)
  | r + 1 => ((LH r).1 * ((LH r).2⁻¹ / 4) * (999 / 1000), (LH r).2 * (4 * (LH r).1⁻¹) * (1001 / 1000))
theorem lh_ok : (List.range 5).all (fun r => decide ((LH r).1⁻¹ * (LH r).1 = 1 ∧ (LH r).2⁻¹ * (LH r).2 = 1 ∧ 0 < (LH r).1 ∧ 0 < (LH r).1⁻¹ ∧ 0 < (LH r).2⁻¹ ∧ 1 / 18446744073709551616 ≤ (LH r).1 ∧ (LH r).2 ≤ 18446744073709551616 ∧ (LH r).1⁻¹ ≤ 18446744073709551616 ∧ 1 / 18446744073709551616 ≤ (LH r).2⁻¹ ∧ (LH r).2 * (4 * (LH r).1⁻¹) * (1001 / 1000) < pw 127)) = true := by decide +kernel
theorem lh_pos : (List.range 6).all (fun r => decide (0 < (LH r).1)) = true := by decide +kernel
section
variable {N : Nat} {x : Nat → Nat} {a : Nat → Int} {w0 w2 : Int}
theorem sh_bd (hN : 1 ≤ N) (hq : QuartP x a) (h0 : 0 ≤ w0) (h3 : w0 ≤ 3) (g0 : 0 ≤ w2) (g3 : w2 ≤ 3) : ∀ r : Nat, r ≤ 5 → Bd N (shpX x N 3 (kern3 w0 w2) r) (LH r).1 (LH r).2
  | 0, _ => fun i hi => by
    obtain ⟨p1, p2⟩ := pos_q hq i
    exact ⟨_, hq.v i, p1, p2⟩
  | r + 1, hr => by
    have ih := sh_bd hN hq h0 h3 g0 g3 r (by omega)
    have h := List.all_eq_true.1 lh_ok r (List.mem_range.2 (by omega))
    obtain ⟨a1, a2, a3, a4, a5, a6, a7, a8, a9, a10⟩ := of_decide_eq_true h
    exact (round_bd hN hq ih a1 a2 a3 a4 a5 a6 a7 a8 a9 h0 h3 g0 g3 a10).2.2.2
theorem Bd.fin {y : Nat → Nat} {L H : Rat} (h : Bd N y L H) : finN N y = true := allN_true fun j hj => by
  obtain ⟨r, r1, _⟩ := h j hj
  exact isFin_v r1
theorem Bd.bins {y : Nat → Nat} {L H : Rat} (h : Bd N y L H) (hN : 1 ≤ N) (h64 : N ≤ 64) : binsN 1 N y = true := by
  unfold binsN
  rw [decide_eq_true (show (1 : Int) ≤ (N : Int) by omega), decide_eq_true h64, h.fin]
  rfl
theorem Bd.pos {y : Nat → Nat} {L H : Rat} (h : Bd N y L H) (hL : 0 < L) : posN N y = true := posN_of fun i hi => by
  obtain ⟨r, r1, r2, _⟩ := h i hi
  exact ⟨r, r1, by grind⟩
theorem sharp_ok (hN : 1 ≤ N) (h64 : N ≤ 64) (hq : QuartP x a) (h0 : 0 ≤ w0) (h3 : w0 ≤ 3) (g0 : 0 ≤ w2) (g3 : w2 ≤ 3) {R : Nat} (hR : R ≤ 5) : OkSharp x N 3 (kern3 w0 w2) R ∧ ∀ i, i < N → fle .f32 (shpX x N 3 (kern3 w0 w2) R i) 0 = false := by
  have hk := kern_ok h0 h3 g0 g3
  have hk' : kernN 3 (revX 3 (kern3 w0 w2)) = true := by rw [kernN_congr rev_kern]; exact kern_ok g0 g3 h0 h3
  have rnd : ∀ r, r < R → _ := fun r hr => by
    have h := List.all_eq_true.1 lh_ok r (List.mem_range.2 (by omega))
    obtain ⟨a1, a2, a3, a4, a5, a6, a7, a8, a9, a10⟩ := of_decide_eq_true h
    exact And.intro a3 (round_bd hN hq (sh_bd hN hq h0 h3 g0 g3 r (by omega)) a1 a2 a3 a4 a5 a6 a7 a8 a9 h0 h3 g0 g3 a10)
  have hpos : 0 < (LH R).1 := of_decide_eq_true (List.all_eq_true.1 lh_pos R (List.mem_range.2 (by omega)))
  have hb0 := sh_bd hN hq h0 h3 g0 g3 0 (by omega)
  refine ⟨⟨hb0.bins hN h64, hb0.pos (by decide +kernel), hk, fun r hr => ?_, fun r hr => ?_, fun r hr => ?_, (sh_bd hN hq h0 h3 g0 g3 R hR).fin⟩, fun i hi => ?_⟩
  · obtain ⟨_, h1, _⟩ := rnd r hr
    unfold okSpr
    rw [(sh_bd hN hq h0 h3 g0 g3 r (by omega)).bins hN h64, hk, h1.fin]
    rfl
  · obtain ⟨p, h1, _⟩ := rnd r hr
    exact h1.pos (by grind)
  · obtain ⟨_, _, ⟨l, h, hl, h2⟩, ⟨l', h', hl', h3'⟩, _⟩ := rnd r hr
    unfold okSpr
    rw [h2.bins hN h64, hk', h3'.fin]
    rfl
  · obtain ⟨r, r1, r2, _⟩ := sh_bd hN hq h0 h3 g0 g3 R hR i hi
    rw [fle_v r1 (V_null .f32)]
    exact decide_eq_false (by grind)
/-! A kernel of one number. -/
theorem one_kern {w : Nat} {C : Int} (hw : V FloatKind.f32.format w (C : Rat)) (h1 : 1 ≤ C) (h2 : C ≤ 2) : V FloatKind.f32.format (sumN (one1 w) 1) (C : Rat) ∧ kernN 1 (one1 w) = true := by
  have e0 : (0 : Rat) + (C : Rat) = (C : Rat) * pw 0 := by rw [pw_zero]; grind
  have hs : V FloatKind.f32.format (sumN (one1 w) 1) (C : Rat) := (add_exact (k := .f32) (V_null .f32) hw e0 (lt24 (by omega)) (by decide) (by decide)).to (by grind)
  refine ⟨hs, ?_⟩
  have hC : (0 : Rat) < (C : Rat) := int_lt (show (0 : Int) < C by omega)
  unfold kernN
  rw [rot_of (n := 1) fun i hi => ?_, fgt_v hs (V_null .f32), decide_eq_true hC]
  · rfl
  · obtain rfl : i = 0 := by omega
    exact ⟨_, hw, Rat.le_of_lt hC⟩
theorem one_spr {w : Nat} {C : Int} (hw : V FloatKind.f32.format w (C : Rat)) (h1 : 1 ≤ C) (h2 : C ≤ 2) {y : Nat → Nat} {n g : Int} {i : Nat} (hi : i < N) (hy : V FloatKind.f32.format (y i) ((n : Rat) * pw g)) (hn : n.natAbs < 1048576) (hg : -10 ≤ g) (hg2 : g ≤ 10) : V FloatKind.f32.format (sprX N y 1 (one1 w) i) ((n : Rat) * pw g) := by
  have hC : (0 : Rat) < (C : Rat) := int_lt (show (0 : Int) < C by omega)
  have hcl : (clI N ((i : Int) + ((0 : Nat) : Int) - ((1 / 2 : Nat) : Int))).toNat = i := by
    have : (i : Int) + ((0 : Nat) : Int) - ((1 / 2 : Nat) : Int) = (i : Int) := by omega
    rw [this]
    unfold clI
    split <;> split at * <;> omega
  have hle : leastK .f32 ≤ g := by unfold leastK; simp only; omega
  have hle2 : g ≤ limK .f32 - fracK .f32 - 1 := by unfold limK fracK; simp only; omega
  have hcn : (C * n).natAbs < 16777216 := by
    rw [Int.natAbs_mul]
    have := Nat.mul_le_mul (show C.natAbs ≤ 2 by omega) (Nat.le_of_lt hn)
    omega
  have e1 : (C : Rat) * ((n : Rat) * pw g) = ((C * n : Int) : Rat) * pw g := by rw [Rat.intCast_mul]; grind
  have m1 := (mul_exact (k := .f32) hw hy e1 (lt24 hcn) hle hle2).to e1
  have e2 : (0 : Rat) + ((C * n : Int) : Rat) * pw g = ((C * n : Int) : Rat) * pw g := by grind
  have m2 := (add_exact (k := .f32) (V_null .f32) m1 e2 (lt24 hcn) hle hle2).to e2
  unfold sprX
  have ha : accS N y (one1 w) 1 i 1 = fadd .f32 0 (fmul .f32 w (y i)) := by
    show fadd .f32 0 (fmul .f32 (one1 w 0) (y _)) = _
    rw [hcl]
    rfl
  rw [ha]
  refine div_exact (k := .f32) m2 (one_kern hw h1 h2).1 (by grind) ?_ rfl (lt24 (by omega)) hle hle2
  rw [Rat.intCast_mul]
  grind
theorem two_all (h64 : N ≤ 64) (hN : 1 ≤ N) (hq : QuartP x a) : okSpr N x 1 (one1 1073741824) = true ∧ ∀ i, i < N → fgt .f64 (gap8 (sprX N x 1 (one1 1073741824) i) (x i)) milP = false := by
  have hw : V FloatKind.f32.format 1073741824 ((2 : Int) : Rat) := two32_v
  have hs : ∀ i, i < N → V FloatKind.f32.format (sprX N x 1 (one1 1073741824) i) ((a i : Rat) * pw (-2)) := fun i hi => one_spr hw (by decide) (by decide) hi (hq.v i) (by have := hq.lo i; have := hq.hi i; omega) (by decide) (by decide)
  refine ⟨?_, fun i hi => ?_⟩
  · unfold okSpr
    rw [bins_q hq (l := 1) (by omega) h64, (one_kern hw (by decide) (by decide)).2, show finN N (sprX N x 1 (one1 1073741824)) = true from allN_true fun j hj => isFin_v (hs j hj)]
    rfl
  · refine Nr.gap (Nr.ex (hs i hi) (e := 0) (by decide)) (Nr.ex (hq.v i) (e := 0) (by decide)) ?_
    rw [show ∀ z : Rat, z - z = 0 by intro z; grind, mg_zero]
    decide +kernel
theorem none_all (h64 : N ≤ 64) (hN : 1 ≤ N) (hq : QuartP x a) : OkSharp x N 1 (one1 1065353216) 3 ∧ ∀ i, i < N → fgt .f64 (gap8 (shpX x N 1 (one1 1065353216) 3 i) (x i)) milP = false := by
  have hw : V FloatKind.f32.format 1065353216 ((1 : Int) : Rat) := one32_v
  have hrev : ∀ j, j < 1 → revX 1 (one1 1065353216) j = one1 1065353216 j := fun j hj => by
    obtain rfl : j = 0 := by omega
    rfl
  have small : ∀ i, (a i).natAbs < 1048576 := fun i => by have := hq.lo i; have := hq.hi i; omega
  have one : ∀ (y : Nat → Nat), (∀ i, i < N → V FloatKind.f32.format (y i) ((a i : Rat) * pw (-2))) → (∀ i, i < N → V FloatKind.f32.format (sprX N y 1 (one1 1065353216) i) ((a i : Rat) * pw (-2))) ∧ (∀ i, i < N → V FloatKind.f32.format (ratX x N 1 (one1 1065353216) y i) 1) ∧ (∀ i, i < N → V FloatKind.f32.format (sprX N (ratX x N 1 (one1 1065353216) y) 1 (revX 1 (one1 1065353216)) i) 1) := by
    intro y hy
    have h1 : ∀ i, i < N → V FloatKind.f32.format (sprX N y 1 (one1 1065353216) i) ((a i : Rat) * pw (-2)) := fun i hi => one_spr hw (by decide) (by decide) hi (hy i hi) (small i) (by decide) (by decide)
    have h2 : ∀ i, i < N → V FloatKind.f32.format (ratX x N 1 (one1 1065353216) y i) 1 := fun i hi => by
      obtain ⟨p1, p2⟩ := pos_q hq i
      exact div_exact (k := .f32) (hq.v i) (h1 i hi) (by grind) (by grind) (n := 1) (g := 0) (by rw [pw_zero, int1]; grind) (lt24 (by decide)) (by decide) (by decide)
    refine ⟨h1, h2, fun i hi => ?_⟩
    rw [sprX_congr hrev i]
    exact (one_spr hw (by decide) (by decide) hi (n := 1) (g := 0) ((h2 i hi).to (by rw [pw_zero, int1]; grind)) (by decide) (by decide) (by decide)).to (by rw [pw_zero, int1]; grind)
  have sh : ∀ r : Nat, ∀ i, i < N → V FloatKind.f32.format (shpX x N 1 (one1 1065353216) r i) ((a i : Rat) * pw (-2)) := by
    intro r
    induction r with
    | zero => exact fun i _ => hq.v i
    | succ r ih =>
      intro i hi
      obtain ⟨_, _, h3⟩ := one _ ih
      have e : (a i : Rat) * pw (-2) * 1 = (a i : Rat) * pw (-2) := by grind
      exact (mul_exact (k := .f32) (ih i hi) (h3 i hi) e (lt24 (by have := small i; omega)) (by decide) (by decide)).to e
  have hk := (one_kern hw (by decide) (by decide)).2
  have fin_of : ∀ {y : Nat → Nat} {f : Nat → Rat}, (∀ i, i < N → V FloatKind.f32.format (y i) (f i)) → finN N y = true := fun h => allN_true fun j hj => isFin_v (h j hj)
  have bins_of : ∀ {y : Nat → Nat} {f : Nat → Rat}, (∀ i, i < N → V FloatKind.f32.format (y i) (f i)) → binsN 1 N y = true := fun h => by
    unfold binsN
    rw [decide_eq_true (show (1 : Int) ≤ (N : Int) by omega), decide_eq_true h64, fin_of h]
    rfl
  have pos_of' : ∀ {y : Nat → Nat}, (∀ i, i < N → V FloatKind.f32.format (y i) ((a i : Rat) * pw (-2))) → posN N y = true := fun h => posN_of fun i hi => ⟨_, h i hi, by have := (pos_q hq i).1; grind⟩
  refine ⟨⟨bins_q hq (l := 1) (by omega) h64, pos_of' fun i _ => hq.v i, hk, fun r hr => ?_, fun r hr => ?_, fun r hr => ?_, fin_of (sh 3)⟩, fun i hi => ?_⟩
  · unfold okSpr
    rw [bins_of (sh r), hk, fin_of (one _ (sh r)).1]
    rfl
  · exact pos_of' (one _ (sh r)).1
  · unfold okSpr
    rw [bins_of (f := fun _ => 1) (one _ (sh r)).2.1, kernN_congr hrev, hk, fin_of (f := fun _ => 1) (one _ (sh r)).2.2]
    rfl
  · refine Nr.gap (Nr.ex (sh 3 i hi) (e := 0) (by decide)) (Nr.ex (hq.v i) (e := 0) (by decide)) ?_
    rw [show ∀ z : Rat, z - z = 0 by intro z; grind, mg_zero]
    decide +kernel
/-! The least and the greatest. -/
theorem low_v (hq : QuartP x a) : ∀ n : Nat, 1 ≤ n → ∃ r, V FloatKind.f32.format (lowP x n) r ∧ (1 / 4 ≤ r ∧ r ≤ 4) ∧ ∀ i, i < n → r ≤ (a i : Rat) * pw (-2) := by
  intro n
  have key : ∃ r, V FloatKind.f32.format (lowP x n) r ∧ (1 / 4 ≤ r ∧ r ≤ 4) ∧ ∀ i, i < n → r ≤ (a i : Rat) * pw (-2) := by
    induction n with
    | zero => exact ⟨_, hq.v 0, pos_q hq 0, fun i hi => absurd hi (Nat.not_lt_zero _)⟩
    | succ n ih =>
      obtain ⟨r, r1, r2, r3⟩ := ih
      have p := pos_q hq n
      refine ⟨_, fmin_v r1 (hq.v n), ?_, fun i hi => ?_⟩
      · split <;> grind
      · rcases Nat.lt_or_eq_of_le (Nat.le_of_lt_succ hi) with h | rfl
        · have := r3 i h
          split <;> grind
        · split <;> grind
  exact fun _ => key
theorem high_v (hq : QuartP x a) : ∀ n : Nat, 1 ≤ n → ∃ r, V FloatKind.f32.format (highP x n) r ∧ (1 / 4 ≤ r ∧ r ≤ 4) ∧ ∀ i, i < n → (a i : Rat) * pw (-2) ≤ r := by
  intro n
  have key : ∃ r, V FloatKind.f32.format (highP x n) r ∧ (1 / 4 ≤ r ∧ r ≤ 4) ∧ ∀ i, i < n → (a i : Rat) * pw (-2) ≤ r := by
    induction n with
    | zero => exact ⟨_, hq.v 0, pos_q hq 0, fun i hi => absurd hi (Nat.not_lt_zero _)⟩
    | succ n ih =>
      obtain ⟨r, r1, r2, r3⟩ := ih
      have p := pos_q hq n
      refine ⟨_, fmax_v r1 (hq.v n), ?_, fun i hi => ?_⟩
      · split <;> grind
      · rcases Nat.lt_or_eq_of_le (Nat.le_of_lt_succ hi) with h | rfl
        · have := r3 i h
          split <;> grind
        · split <;> grind
  exact fun _ => key
theorem spr_all (h64 : N ≤ 64) (hN : 1 ≤ N) (hq : QuartP x a) (h0 : 0 ≤ w0) (h3 : w0 ≤ 3) (g0 : 0 ≤ w2) (g3 : w2 ≤ 3) : okSpr N x 3 (kern3 w0 w2) = true ∧ (∀ i, i < N → flt .f64 (wd (sprX N x 3 (kern3 w0 w2) i)) (fsub .f64 (wd (lowP x N)) milP) = false) ∧ ∀ i, i < N → fgt .f64 (wd (sprX N x 3 (kern3 w0 w2) i)) (fadd .f64 (wd (highP x N)) milP) = false := by
  obtain ⟨l, l1, l2, l3⟩ := low_v hq N hN
  obtain ⟨h, h1, h2, h3'⟩ := high_v hq N hN
  have hb : Bd N x l h := fun i hi => ⟨_, hq.v i, l3 i hi, h3' i hi⟩
  have s := spr_bd hN hb (by grind) (by grind) h0 h3 g0 g3
  obtain ⟨m, m1, m2, m3⟩ := mil_v
  have ht := tiny_le (k := .f64)
  refine ⟨?_, fun i hi => ?_, fun i hi => ?_⟩
  · unfold okSpr
    rw [bins_q hq (l := 1) (by omega) h64, kern_ok h0 h3 g0 g3, s.fin]
    rfl
  · obtain ⟨r, r1, r2, r3⟩ := s i hi
    obtain ⟨d, d1, d2⟩ := sub_near (k := .f64) (widen_v l1) m1 (Rat.le_trans (show mg (l - m) ≤ 10 from mg_le (by grind) (by grind)) (Rat.le_trans (by decide) big_lim'))
    have mb : mg (l - m) ≤ 10 := mg_le (by grind) (by grind)
    rw [uK_f64] at d2
    have d3 := mg_le' d2
    rw [flt_v (widen_v r1) d1]
    exact decide_eq_false (by grind)
  · obtain ⟨r, r1, r2, r3⟩ := s i hi
    have mb : mg (h + m) ≤ 10 := mg_le (by grind) (by grind)
    obtain ⟨d, d1, d2⟩ := add_near (k := .f64) (widen_v h1) m1 (Rat.le_trans mb (Rat.le_trans (by decide) big_lim'))
    rw [uK_f64] at d2
    have d3 := mg_le' d2
    rw [fgt_v (widen_v r1) d1]
    exact decide_eq_false (by grind)
end
end Go.Proofs.Ytfdmmbcjidkmoaa
