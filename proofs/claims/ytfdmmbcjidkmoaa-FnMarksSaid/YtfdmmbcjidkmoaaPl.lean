/- The law on marks, without the program: what is stitched. -/
import Derived.Test.YtfdmmbcjidkmoaaPk
set_option linter.unusedSimpArgs false
set_option linter.unusedVariables false
namespace Go.Proofs.Ytfdmmbcjidkmoaa
open Go.Aw
theorem sumN_congr {x y : Nat → Nat} : ∀ {n : Nat}, (∀ i, i < n → x i = y i) → sumN x n = sumN y n
  | 0, _ => rfl
  | n + 1, h => by
    show fadd .f32 (sumN x n) (x n) = fadd .f32 (sumN y n) (y n)
    rw [sumN_congr fun i hi => h i (by omega), h n (by omega)]
/-- A number that is near another one. -/
def Nr (x : Nat) (r e : Rat) : Prop := ∃ t, V FloatKind.f32.format x t ∧ mg (t - r) ≤ e
theorem Nr.ex {x : Nat} {r e : Rat} (h : V FloatKind.f32.format x r) (he : 0 ≤ e) : Nr x r e := ⟨r, h, by rw [show r - r = 0 by grind, mg_zero]; exact he⟩
theorem Nr.fin {x : Nat} {r e : Rat} (h : Nr x r e) : isFin x = true := by
  obtain ⟨t, h1, _⟩ := h
  exact isFin_v h1
theorem Nr.mono {x : Nat} {r e f : Rat} (h : Nr x r e) (hf : e ≤ f) : Nr x r f := by
  obtain ⟨t, h1, h2⟩ := h
  exact ⟨t, h1, Rat.le_trans h2 hf⟩
/-- Products, sums of numbers that are at most 1000. -/
theorem Nr.mul {x y : Nat} {a b e f M L : Rat} (hx : Nr x a e) (hy : Nr y b f) (hb : mg b + f ≤ M) (ha : mg a ≤ L) (hM : M ≤ 1000) (hL : L + e ≤ 1000) : Nr (fmul .f32 x y) (a * b) (e * M + L * f + 1 / 16777216 * ((L + e) * M) + 1 / 1267650600228229401496703205376) := by
  obtain ⟨s, s1, s2⟩ := hx
  obtain ⟨t, t1, t2⟩ := hy
  have e0 : 0 ≤ e := Rat.le_trans (mg_nonneg _) s2
  have L0 : 0 ≤ L := Rat.le_trans (mg_nonneg _) ha
  have mt : mg t ≤ M := by
    have := mg_add (t - b) b
    rw [show t - b + b = t by grind] at this
    grind
  have ms : mg s ≤ L + e := by
    have := mg_add (s - a) a
    rw [show s - a + a = s by grind] at this
    grind
  have hg := mul_gap s2 t2 mt ha
  have hm : mg (s * t) ≤ (L + e) * M := by
    rw [mg_mul]
    have g1 := Rat.mul_le_mul_of_nonneg_right ms (mg_nonneg t)
    have g2 := Rat.mul_le_mul_of_nonneg_left mt (show 0 ≤ L + e by grind)
    grind
  have hbig : (L + e) * M ≤ 1000000 := by
    have g1 := Rat.mul_le_mul_of_nonneg_right hL (show 0 ≤ M from Rat.le_trans (mg_nonneg _) mt)
    grind
  obtain ⟨p, p1, p2⟩ := mul_near (k := .f32) s1 t1 (Rat.le_trans hm (Rat.le_trans hbig (Rat.le_trans (by decide) (big_lim' (k := .f32)))))
  rw [uK_f32] at p2
  have h4 := tiny_le (k := .f32)
  refine ⟨p, p1, ?_⟩
  have h5 := mg_add (p - s * t) (s * t - a * b)
  rw [show p - s * t + (s * t - a * b) = p - a * b by grind] at h5
  grind
theorem Nr.add {x y : Nat} {a b e f M : Rat} (hx : Nr x a e) (hy : Nr y b f) (hM : mg (a + b) + e + f ≤ M) (hM1 : M ≤ 1000000) : Nr (fadd .f32 x y) (a + b) (e + f + 1 / 16777216 * M + 1 / 1267650600228229401496703205376) := by
  obtain ⟨s, s1, s2⟩ := hx
  obtain ⟨t, t1, t2⟩ := hy
  have h1 := mg_add (s - a) (t - b)
  rw [show s - a + (t - b) = s + t - (a + b) by grind] at h1
  have h2 : mg (s + t) ≤ M := by
    have := mg_add (s + t - (a + b)) (a + b)
    rw [show s + t - (a + b) + (a + b) = s + t by grind] at this
    grind
  obtain ⟨p, p1, p2⟩ := add_near (k := .f32) s1 t1 (Rat.le_trans h2 (Rat.le_trans hM1 (Rat.le_trans (by decide) (big_lim' (k := .f32)))))
  rw [uK_f32] at p2
  have h4 := tiny_le (k := .f32)
  refine ⟨p, p1, ?_⟩
  have h5 := mg_add (p - (s + t)) (s + t - (a + b))
  rw [show p - (s + t) + (s + t - (a + b)) = p - (a + b) by grind] at h5
  grind
theorem Nr.gap {x y : Nat} {a b e f : Rat} (hx : Nr x a e) (hy : Nr y b f) (h : mg (a - b) + e + f ≤ 1 / 1100) : fgt .f64 (gap8 x y) milP = false := by
  obtain ⟨s, s1, s2⟩ := hx
  obtain ⟨t, t1, t2⟩ := hy
  obtain ⟨m, m1, m2, m3⟩ := mil_v
  refine gap8_le s1 t1 m1 (by grind) ?_
  have h1 := mg_add (s - a) (a - b)
  rw [show s - a + (a - b) = s - b by grind] at h1
  have h2 := mg_sub (s - b) (t - b)
  rw [show s - b - (t - b) = s - t by grind] at h2
  grind
section
variable {x : Nat → Nat} {a : Nat → Int} {N v by_ : Nat} {c : Int}
theorem sumA_mul (a : Nat → Int) (c : Int) : ∀ n : Nat, sumA (fun j => a j * c) n = sumA a n * c
  | 0 => by simp [sumA]
  | n + 1 => by unfold sumA; rw [sumA_mul a c n, Int.add_mul]
theorem prod_in {z c : Int} (h1 : 1 ≤ z) (h2 : z ≤ 16) (c1 : 1 ≤ c) (c4 : c ≤ 4) : 1 ≤ z * c ∧ z * c ≤ 64 := by
  have g1 := Int.mul_le_mul h1 c1 (by omega) (by omega)
  have g2 := Int.mul_le_mul h2 c4 (by omega) (by omega)
  omega
theorem tail_v (hq : QuartP x a) (hb : V FloatKind.f32.format by_ ((c : Rat) * pw (-1))) (c1 : 1 ≤ c) (c4 : c ≤ 4) {j : Nat} (hj : j < v) : V FloatKind.f32.format (tailX N x v by_ j) (((a (N - v + j) * c : Int) : Rat) * pw (-3)) := by
  unfold tailX
  rw [if_pos hj]
  have e : (a (N - v + j) : Rat) * pw (-2) * ((c : Rat) * pw (-1)) = ((a (N - v + j) * c : Int) : Rat) * pw (-3) := by rw [Rat.intCast_mul, pw_m2, pw_m1, pw_m3]; grind
  have := prod_in (hq.lo (N - v + j)) (hq.hi (N - v + j)) c1 c4
  exact (mul_exact (k := .f32) (hq.v _) hb e (lt24 (by omega)) (by decide) (by decide)).to e
theorem tail_fin (hq : QuartP x a) (hb : V FloatKind.f32.format by_ ((c : Rat) * pw (-1))) (c1 : 1 ≤ c) (c4 : c ≤ 4) (j : Nat) : isFin (tailX N x v by_ j) = true := by
  by_cases hj : j < v
  · exact isFin_v (tail_v hq hb c1 c4 hj)
  · unfold tailX
    rw [if_neg hj]
    exact isFin_v three32_v
/-- The quotient of the sums is two over c. -/
theorem stQ_near (hq : QuartP x a) (hb : V FloatKind.f32.format by_ ((c : Rat) * pw (-1))) (c1 : 1 ≤ c) (c4 : c ≤ 4) (hv1 : 1 ≤ v) (hv3 : v ≤ 3) {Q : Rat} (hQ : Q * (c : Rat) = 2) : Nr (stQ N x (tailX N x v by_) v) Q (1 / 1000000) := by
  have k1 : (1 : Rat) ≤ (c : Rat) := int_le c1
  have k4 : (c : Rat) ≤ 4 := int_le c4
  have sb := sumA_in (a := fun j => a (N - v + j)) (fun i => hq.lo _) (fun i => hq.hi _) v
  have hA : V FloatKind.f32.format (sumN (fun j => x (N - v + j)) v) ((sumA (fun j => a (N - v + j)) v : Rat) * pw (-2)) :=
    sum_grid (by decide) (by decide) (fun i => hq.v _) v fun i hi => by
      have := sumA_in (a := fun j => a (N - v + j)) (fun i => hq.lo _) (fun i => hq.hi _) i
      omega
  have hB : V FloatKind.f32.format (sumN (tailX N x v by_) v) ((sumA (fun j => a (N - v + j) * c) v : Rat) * pw (-3)) := by
    have e : sumN (tailX N x v by_) v = sumN (fun j => fmul .f32 (x (N - v + j)) by_) v := sumN_congr fun i hi => by unfold tailX; rw [if_pos hi]
    rw [e]
    refine sum_grid (by decide) (by decide) (fun i => ?_) v fun i hi => ?_
    · have e : (a (N - v + i) : Rat) * pw (-2) * ((c : Rat) * pw (-1)) = ((a (N - v + i) * c : Int) : Rat) * pw (-3) := by rw [Rat.intCast_mul, pw_m2, pw_m1, pw_m3]; grind
      have := prod_in (hq.lo (N - v + i)) (hq.hi (N - v + i)) c1 c4
      exact (mul_exact (k := .f32) (hq.v _) hb e (lt24 (by omega)) (by decide) (by decide)).to e
    · rw [sumA_mul (fun j => a (N - v + j)) c i]
      have h := sumA_in (a := fun j => a (N - v + j)) (fun i => hq.lo _) (fun i => hq.hi _) i
      have h0 : 0 ≤ sumA (fun j => a (N - v + j)) i * c := Int.mul_nonneg (by omega) (by omega)
      have g2 := Int.mul_le_mul (show sumA (fun j => a (N - v + j)) i ≤ 48 by omega) c4 (by omega) (by omega)
      omega
  rw [sumA_mul (fun j => a (N - v + j)) c v] at hB
  generalize sumA (fun j => a (N - v + j)) v = S at *
  have s1 : (1 : Rat) ≤ (S : Rat) := int_le (show (1 : Int) ≤ S by omega)
  have hQ1 : Q ≤ 2 := by
    rcases Rat.le_total (a := Q) (b := 2) with h | h
    · exact h
    · have g := Rat.mul_le_mul_of_nonneg_left k1 (show 0 ≤ Q by grind)
      grind
  have hQ0 : 0 ≤ Q := by
    rcases Rat.le_total (a := 0) (b := Q) with h | h
    · exact h
    · have g := Rat.mul_le_mul_of_nonneg_right h (show 0 ≤ (c : Rat) by grind)
      grind
  have hcS : (c : Rat) * (S : Rat) ≠ 0 := by
    intro h
    have := Rat.mul_eq_zero.1 h
    grind
  obtain ⟨q, q1, q2⟩ := div_near (k := .f32) hA hB (c := Q) (by
    intro h
    have h1 := Rat.mul_eq_zero.1 h
    rcases h1 with h1 | h1
    · rw [Rat.intCast_mul] at h1; grind
    · rw [pw_m3] at h1; grind) (by rw [Rat.intCast_mul, pw_m2, pw_m3]; grind) (by rw [mg_of_nonneg hQ0]; exact Rat.le_trans (show Q ≤ 1267650600228229401496703205376 by grind) (big_lim (k := .f32)))
  refine ⟨q, q1, ?_⟩
  have ht := tiny_le (k := .f32)
  rw [uK_f32, mg_of_nonneg hQ0] at q2
  grind
/-- What is stitched is near the list, and its end near three. -/
theorem stX_near (hq : QuartP x a) (hb : V FloatKind.f32.format by_ ((c : Rat) * pw (-1))) (c1 : 1 ≤ c) (c4 : c ≤ 4) (hv1 : 1 ≤ v) (hv3 : v ≤ 3) (hvN : v ≤ N) :
    (∀ i, i < N → Nr (stX N x (tailX N x v by_) v (stQ N x (tailX N x v by_) v) i) ((a i : Rat) * pw (-2)) (1 / 10000)) ∧ ∃ Q : Rat, Q * (c : Rat) = 2 ∧ Q ≤ 2 ∧ 0 ≤ Q ∧ Nr (stX N x (tailX N x v by_) v (stQ N x (tailX N x v by_) v) N) (3 * Q) (1 / 100000) := by
  have k1 : (1 : Rat) ≤ (c : Rat) := int_le c1
  have k4 : (c : Rat) ≤ 4 := int_le c4
  have cne : (c : Rat) ≠ 0 := by intro h; rw [h] at k1; exact absurd k1 (by decide)
  obtain ⟨Q, hQ⟩ : ∃ Q : Rat, Q * (c : Rat) = 2 := ⟨2 * (c : Rat)⁻¹, by
    rw [Rat.mul_assoc, Rat.inv_mul_cancel _ cne, Rat.mul_one]⟩
  have hQ0 : 0 ≤ Q := by
    rcases Rat.le_total (a := 0) (b := Q) with h | h
    · exact h
    · have g := Rat.mul_le_mul_of_nonneg_right h (show 0 ≤ (c : Rat) by grind)
      grind
  have hQ1 : Q ≤ 2 := by
    have g := Rat.mul_le_mul_of_nonneg_left k1 hQ0
    grind
  have hn := stQ_near (N := N) hq hb c1 c4 hv1 hv3 hQ
  generalize stQ N x (tailX N x v by_) v = q at *
  have mQ : mg Q ≤ 2 := by rw [mg_of_nonneg hQ0]; exact hQ1
  refine ⟨fun i hi => ?_, Q, hQ, hQ1, hQ0, ?_⟩
  · obtain ⟨p1, p2⟩ := pos_q hq i
    unfold stX
    by_cases h : i < N - v
    · rw [decide_eq_true h, cond_true]
      exact Nr.ex (hq.v i) (by decide +kernel)
    · rw [decide_eq_false h, cond_false, decide_eq_true hi, cond_true]
      have ht := tail_v (N := N) (v := v) hq hb c1 c4 (j := i - (N - v)) (by omega)
      rw [show N - v + (i - (N - v)) = i by omega] at ht
      have hp := prod_in (hq.lo i) (hq.hi i) c1 c4
      have y0 : (0 : Rat) ≤ ((a i * c : Int) : Rat) := int_le (show (0 : Int) ≤ a i * c by omega)
      have y1 : ((a i * c : Int) : Rat) ≤ 64 := int_le hp.2
      have my : mg (((a i * c : Int) : Rat) * pw (-3)) ≤ 8 := by
        rw [pw_m3, mg_of_nonneg (by grind)]
        grind
      have hm := Nr.mul (Nr.ex ht (e := 0) (by decide)) hn (M := 3) (L := 8) (by grind) my (by decide) (by decide +kernel)
      have eq : ((a i * c : Int) : Rat) * pw (-3) * Q = (a i : Rat) * pw (-2) := by
        rw [Rat.intCast_mul, pw_m3, pw_m2]
        grind
      rw [eq] at hm
      have hm := hm.mono (f := 1 / 50000) (by grind)
      have ha := Nr.add (Nr.ex (hq.v i) (e := 0) (by decide)) hm (M := 9) (by rw [mg_of_nonneg (by grind)]; grind) (by decide)
      have hh := Nr.mul (Nr.ex half_v (e := 0) (by decide)) ha (M := 9) (L := 1) (by rw [mg_of_nonneg (by grind)]; grind) (by rw [mg_of_nonneg (by decide +kernel)]; decide +kernel) (by decide) (by decide +kernel)
      rw [show 1 / 2 * ((a i : Rat) * pw (-2) + (a i : Rat) * pw (-2)) = (a i : Rat) * pw (-2) by grind] at hh
      exact hh.mono (by grind)
  · unfold stX
    rw [decide_eq_false (show ¬ N < N - v by omega), cond_false, decide_eq_false (Nat.lt_irrefl N), cond_false, show N - (N - v) = v by omega]
    have e : tailX N x v by_ v = 1077936128 := by unfold tailX; rw [if_neg (Nat.lt_irrefl v)]
    rw [e]
    have hm := Nr.mul (Nr.ex three32_v (e := 0) (by decide)) hn (M := 3) (L := 3) (by grind) (by rw [mg_of_nonneg (by decide)]; decide) (by decide) (by decide +kernel)
    exact hm.mono (by grind)
theorem stitch_all (hq : QuartP x a) (hb : V FloatKind.f32.format by_ ((c : Rat) * pw (-1))) (c1 : 1 ≤ c) (c4 : c ≤ 4) (hv1 : 1 ≤ v) (hv3 : v ≤ 3) (hvN : v ≤ N) :
    binsN 1 (v + 1) (tailX N x v by_) = true ∧ isFin (stQ N x (tailX N x v by_) v) = true ∧ finN (N + 1) (stX N x (tailX N x v by_) v (stQ N x (tailX N x v by_) v)) = true ∧
      fgt .f64 (gap8 (fmul .f32 (stX N x (tailX N x v by_) v (stQ N x (tailX N x v by_) v) N) by_) 1077936128) milP = false ∧ ∀ i, i < N → fgt .f64 (gap8 (stX N x (tailX N x v by_) v (stQ N x (tailX N x v by_) v) i) (x i)) milP = false := by
  have k1 : (1 : Rat) ≤ (c : Rat) := int_le c1
  have k4 : (c : Rat) ≤ 4 := int_le c4
  obtain ⟨h1, Q, hQ, hQ1, hQ0, h2⟩ := stX_near hq hb c1 c4 hv1 hv3 hvN
  refine ⟨?_, (stQ_near (N := N) hq hb c1 c4 hv1 hv3 hQ).fin, ?_, ?_, fun i hi => ?_⟩
  · unfold binsN
    rw [decide_eq_true (show (1 : Int) ≤ ((v + 1 : Nat) : Int) by omega), decide_eq_true (show v + 1 ≤ 64 by omega), show finN (v + 1) (tailX N x v by_) = true from allN_true fun j _ => tail_fin hq hb c1 c4 j]
    rfl
  · refine allN_true fun j hj => ?_
    rcases Nat.lt_or_eq_of_le (Nat.le_of_lt_succ hj) with h | rfl
    · exact (h1 j h).fin
    · exact h2.fin
  · have mb : mg ((c : Rat) * pw (-1)) ≤ 2 := by
      rw [pw_m1, mg_of_nonneg (by grind)]
      grind
    have hm := Nr.mul h2 (Nr.ex hb (e := 0) (by decide)) (M := 2) (L := 6) (by grind) (by rw [mg_of_nonneg (by grind)]; grind) (by decide) (by decide +kernel)
    rw [show 3 * Q * ((c : Rat) * pw (-1)) = 3 by rw [pw_m1]; grind] at hm
    refine Nr.gap hm (Nr.ex three32_v (e := 0) (by decide)) ?_
    rw [show (3 : Rat) - 3 = 0 by grind, mg_zero]
    decide +kernel
  · refine Nr.gap (h1 i hi) (Nr.ex (hq.v i) (e := 0) (by decide)) ?_
    rw [show ∀ z : Rat, z - z = 0 by intro z; grind, mg_zero]
    decide +kernel
end
end Go.Proofs.Ytfdmmbcjidkmoaa
