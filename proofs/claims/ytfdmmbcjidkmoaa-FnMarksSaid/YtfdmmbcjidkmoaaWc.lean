/- Floating point as rational numbers: roots, conversions, comparisons. -/
import Derived.Test.YtfdmmbcjidkmoaaWb
set_option linter.unusedSimpArgs false
set_option linter.unusedVariables false
namespace Go.Aw
open Ieee
/-! ### Conversions -/
theorem widen_v {x : Nat} {a : Rat} (h : V FloatKind.f32.format x a) : V FloatKind.f64.format (f2f .f32 x .f64) a := by
  obtain ⟨s, m, e, h1, rfl⟩ := h
  rw [widen_num h1]
  obtain ⟨b1, b2, b3⟩ := read32_bounds h1
  refine write_exact (k := .f64) (n := m) (g := e) rfl (Nat.lt_trans b1 (by decide)) ?_ ?_
  · unfold leastK; simp only; omega
  · unfold limK fracK; simp only; omega
theorem narrow_form {x : Nat} {a : Rat} (h : V FloatKind.f64.format x a) (hl : mg a ≤ pw 119) : f2fOk .f64 x .f32 ∧ ∃ w m e, f2f .f64 x .f32 = FloatKind.f32.format.write (.number w m e) ∧ sg w ((m : Rat) * pw e) = a := by
  obtain ⟨s, m, e, h1, rfl⟩ := h
  have hm : m = 0 ∨ e + (m.log2 : Int) ≤ 120 := by
    by_cases h0 : m = 0
    · exact .inl h0
    · right
      rw [mg_sg, mg_of_nonneg (Rat.mul_nonneg (nat_nonneg _) (Rat.le_of_lt (pw_pos _)))] at hl
      have h2 := Rat.le_trans (Rat.mul_le_mul_of_nonneg_right (pw_log h0) (Rat.le_of_lt (pw_pos e))) hl
      rw [← pw_add] at h2
      have := pw_lt h2
      omega
  have hs := narrow_some (x := x) h1 hm
  refine ⟨.inr hs, s, m, e, ?_, rfl⟩
  have h1' : FloatKind.f64.decode x = .number s m e := h1
  unfold f2f
  unfold floatToFloatBits at hs ⊢
  rw [if_neg (by decide), h1'] at hs ⊢
  simp only at hs ⊢
  split at hs
  · cases hs
  · rename_i hni
    rw [if_neg hni]
    rfl
theorem narrow_near {x : Nat} {a : Rat} (h : V FloatKind.f64.format x a) (hl : mg a ≤ pw 119) : f2fOk .f64 x .f32 ∧ ∃ t, V FloatKind.f32.format (f2f .f64 x .f32) t ∧ mg (t - a) ≤ uK .f32 * mg a + tK .f32 := by
  obtain ⟨h0, w, m, e, h1, h2⟩ := narrow_form h hl
  refine ⟨h0, ?_⟩
  rw [h1]
  exact near_of (k := .f32) h2 (Rat.le_trans hl (pw_mono (by decide)))
theorem narrow_exact {x : Nat} {a : Rat} (h : V FloatKind.f64.format x a) {n g : Int} (hn : a = (n : Rat) * pw g) (h1 : n.natAbs < 16777216) (h2 : -149 ≤ g) (h3 : g ≤ 90) : f2fOk .f64 x .f32 ∧ V FloatKind.f32.format (f2f .f64 x .f32) a := by
  have hl : mg a ≤ pw 119 := by
    have e1 : mg a = (n.natAbs : Rat) * pw g := by
      rw [hn, ← natAbs_rat (w := decide (n < 0)) (fun _ => rfl), mg_sg, mg_of_nonneg (Rat.mul_nonneg (nat_nonneg _) (Rat.le_of_lt (pw_pos _)))]
    rw [e1]
    have h4 : (n.natAbs : Rat) ≤ pw 24 := by
      have := nat_le (Nat.le_of_lt h1)
      rwa [show (16777216 : Nat) = 2 ^ 24 by decide, ← pw_nat] at this
    have h5 := Rat.mul_le_mul_of_nonneg_right h4 (Rat.le_of_lt (pw_pos g))
    rw [← pw_add] at h5
    exact Rat.le_trans h5 (pw_mono (by omega))
  obtain ⟨h0, w, m, e, e1, e2⟩ := narrow_form h hl
  refine ⟨h0, ?_⟩
  rw [e1]
  refine exact_of (k := .f32) e2 hn h1 ?_ ?_
  · unfold leastK; simp only; omega
  · unfold limK fracK; simp only; omega
theorem itof_v {k : FloatKind} {n : Int} (h : n.natAbs < 16777216) : V k.format (itof k n) (n : Rat) := by
  refine exact_of (k := k) (w := decide (n < 0)) (m := n.natAbs) (e := 0) (g := 0) (n := n) ?_ ?_ ?_ ?_ ?_
  · rw [natAbs_rat (fun _ => rfl), pw_zero, Rat.mul_one]
  · rw [pw_zero, Rat.mul_one]
  · cases k
    · exact h
    · exact Nat.lt_trans h (by decide)
  · cases k <;> decide
  · cases k <;> decide
/-! ### Comparisons -/
theorem order_v {k : FloatKind} {x y : Nat} {a b : Rat} (hx : V k.format x a) (hy : V k.format y b) : ∃ (p q : Int) (B : Rat), 0 < B ∧ k.format.order x y = some (compare p q) ∧ a = (p : Rat) * B ∧ b = (q : Rat) * B := by
  obtain ⟨s, m, i, h1, rfl⟩ := hx
  obtain ⟨t, n, j, g1, rfl⟩ := hy
  refine ⟨_, _, pw (min i j), pw_pos _, ?_, (signed_place s m (by omega)).symm, (signed_place t n (by omega)).symm⟩
  unfold Format.order
  rw [h1, g1]
  rfl
theorem cmp_rat {p q : Int} {B : Rat} (hB : 0 < B) : (p < q ↔ (p : Rat) * B < (q : Rat) * B) ∧ (p = q ↔ (p : Rat) * B = (q : Rat) * B) := by
  have h1 : ∀ {p q : Int}, p < q → (p : Rat) * B < (q : Rat) * B := fun h => Rat.mul_lt_mul_of_pos_right (Rat.intCast_lt_intCast.2 h) hB
  rcases Int.lt_trichotomy p q with h | h | h
  · have := h1 h
    exact ⟨⟨fun _ => this, fun _ => h⟩, ⟨fun e => by omega, fun e => by grind⟩⟩
  · subst h
    exact ⟨⟨fun h => by omega, fun h => by grind⟩, ⟨fun _ => rfl, fun _ => rfl⟩⟩
  · have := h1 h
    exact ⟨⟨fun _ => by omega, fun _ => by grind⟩, ⟨fun e => by omega, fun e => by grind⟩⟩
section
variable {k : FloatKind} {x y : Nat} {a b : Rat}
theorem flt_v (hx : V k.format x a) (hy : V k.format y b) : flt k x y = decide (a < b) := by
  obtain ⟨p, q, B, hB, ho, ha, hb⟩ := order_v hx hy
  unfold flt
  rw [ho, ha, hb]
  have h := (cmp_rat (p := p) (q := q) hB).1
  by_cases hlt : p < q
  · rw [Int.compare_eq_lt.2 hlt, decide_eq_true (h.1 hlt)]; rfl
  · rw [decide_eq_false (fun e => hlt (h.2 e))]
    cases hc : compare p q with
    | lt => exact absurd (Int.compare_eq_lt.1 hc) hlt
    | eq => rfl
    | gt => rfl
theorem fgt_v (hx : V k.format x a) (hy : V k.format y b) : fgt k x y = decide (b < a) := by
  obtain ⟨p, q, B, hB, ho, ha, hb⟩ := order_v hx hy
  unfold fgt
  rw [ho, ha, hb]
  have h := (cmp_rat (p := q) (q := p) hB).1
  by_cases hlt : q < p
  · rw [Int.compare_eq_gt.2 hlt, decide_eq_true (h.1 hlt)]; rfl
  · rw [decide_eq_false (fun e => hlt (h.2 e))]
    cases hc : compare p q with
    | gt => exact absurd (Int.compare_eq_gt.1 hc) hlt
    | eq => rfl
    | lt => rfl
theorem feq_v (hx : V k.format x a) (hy : V k.format y b) : feq k x y = decide (a = b) := by
  obtain ⟨p, q, B, hB, ho, ha, hb⟩ := order_v hx hy
  unfold feq
  rw [ho, ha, hb]
  have h := (cmp_rat (p := p) (q := q) hB).2
  by_cases hlt : p = q
  · rw [Int.compare_eq_eq.2 hlt, decide_eq_true (h.1 hlt)]; rfl
  · rw [decide_eq_false (fun e => hlt (h.2 e))]
    cases hc : compare p q with
    | eq => exact absurd (Int.compare_eq_eq.1 hc) hlt
    | gt => rfl
    | lt => rfl
theorem fle_v (hx : V k.format x a) (hy : V k.format y b) : fle k x y = decide (a ≤ b) := by
  unfold fle
  rw [flt_v hx hy, feq_v hx hy, ← Bool.decide_or]
  exact decide_eq_decide.2 ⟨fun h => by grind, fun h => by grind⟩
theorem fge_v (hx : V k.format x a) (hy : V k.format y b) : fge k x y = decide (b ≤ a) := by
  unfold fge
  rw [fgt_v hx hy, feq_v hx hy, ← Bool.decide_or]
  exact decide_eq_decide.2 ⟨fun h => by grind, fun h => by grind⟩
theorem notNaN_v (hx : V k.format x a) : isNaN k x = false := by
  obtain ⟨s, m, e, h, _⟩ := hx
  unfold isNaN FloatKind.decode
  rw [h]
  rfl
theorem fmax_v (hx : V k.format x a) (hy : V k.format y b) : V k.format (fmax k x y) (if a < b then b else a) := by
  obtain ⟨p, q, B, hB, ho, ha, hb⟩ := order_v hx hy
  have h1 := (cmp_rat (p := p) (q := q) hB)
  have h2 := (cmp_rat (p := q) (q := p) hB)
  rw [← ha, ← hb] at h1 h2
  unfold fmax
  rw [ho]
  cases hc : compare p q with
  | lt => rw [if_pos (show a < b from h1.1.1 (Int.compare_eq_lt.1 hc))]; exact hy
  | gt =>
    have := h2.1.1 (Int.compare_eq_gt.1 hc)
    rw [if_neg (show ¬ a < b from Rat.not_lt.2 (Rat.le_of_lt this))]
    exact hx
  | eq =>
    have e := h1.2.1 (Int.compare_eq_eq.1 hc)
    rw [if_neg (show ¬ a < b from Rat.not_lt.2 (e ▸ Rat.le_refl))]
    simp only
    split
    · rw [e]; exact hy
    · exact hx
theorem fmin_v (hx : V k.format x a) (hy : V k.format y b) : V k.format (fmin k x y) (if b < a then b else a) := by
  obtain ⟨p, q, B, hB, ho, ha, hb⟩ := order_v hx hy
  have h1 := (cmp_rat (p := p) (q := q) hB)
  have h2 := (cmp_rat (p := q) (q := p) hB)
  rw [← ha, ← hb] at h1 h2
  unfold fmin
  rw [ho]
  cases hc : compare p q with
  | gt => rw [if_pos (show b < a from h2.1.1 (Int.compare_eq_gt.1 hc))]; exact hy
  | lt =>
    have := h1.1.1 (Int.compare_eq_lt.1 hc)
    rw [if_neg (show ¬ b < a from Rat.not_lt.2 (Rat.le_of_lt this))]
    exact hx
  | eq =>
    have e := h1.2.1 (Int.compare_eq_eq.1 hc)
    rw [if_neg (show ¬ b < a from Rat.not_lt.2 (e ▸ Rat.le_refl))]
    simp only
    split
    · exact hx
    · rw [e]; exact hy
end
theorem V_null (k : FloatKind) : V k.format 0 0 := by
  have h := V_zero k false 0
  have e : k.format.write (.number false 0 0) = 0 := by cases k <;> decide +kernel
  rwa [e] at h
/-! ### Roots -/
theorem rootFrom_up (n : Nat) : ∀ (t r : Nat), n < (r + 2 ^ t) * (r + 2 ^ t) → n < (Datum.rootFrom n t r + 1) * (Datum.rootFrom n t r + 1) := by
  intro t
  induction t with
  | zero => intro r h; exact h
  | succ t ih =>
    intro r h
    simp only [Datum.rootFrom]
    have e : r + 1 <<< t = r + 2 ^ t := by rw [Nat.shiftLeft_eq, Nat.one_mul]
    have e2 : 2 ^ (t + 1) = 2 ^ t + 2 ^ t := by rw [Nat.pow_succ]; omega
    rw [e]
    split
    · refine ih _ ?_
      rw [e2] at h
      rwa [Nat.add_assoc]
    · refine ih _ ?_
      omega
theorem root_nat {m c i' : Nat} (hm : m ≠ 0) (more : Nat) (hmore : 2 * c - m.log2 ≤ more) (hc : 1 ≤ c) :
    let n := m <<< more
    let w := Datum.rootFrom n (n.log2 / 2 + 1) 0
    let Q := 2 * w + (w * w != n).toNat
    Q * Q * 2 ^ (c - 1) ≤ 4 * n * 2 ^ (c - 1) + 4 * n ∧ 4 * n * 2 ^ (c - 1) ≤ Q * Q * 2 ^ (c - 1) + 4 * n := by
  intro n w Q
  have hn0 : n = m * 2 ^ more := Nat.shiftLeft_eq ..
  have hbig : 2 ^ c * 2 ^ c ≤ n := by
    have h2 := Nat.log2_self_le hm
    calc 2 ^ c * 2 ^ c = 2 ^ (2 * c) := by rw [← Nat.pow_add]; congr 1; omega
      _ ≤ 2 ^ (m.log2 + more) := Nat.pow_le_pow_right (by decide) (by omega)
      _ = 2 ^ m.log2 * 2 ^ more := Nat.pow_add ..
      _ ≤ m * 2 ^ more := Nat.mul_le_mul_right _ h2
      _ = n := hn0.symm
  have hnne : n ≠ 0 := by
    have := Nat.mul_pos (Nat.two_pow_pos c) (Nat.two_pow_pos c)
    omega
  have hlo : w * w ≤ n := rootFrom_sq n _ 0 (by omega)
  have hup : n < (w + 1) * (w + 1) := by
    refine rootFrom_up n _ 0 ?_
    rw [Nat.zero_add, ← Nat.pow_add]
    exact Nat.lt_of_lt_of_le Nat.lt_log2_self (Nat.pow_le_pow_right (by decide) (by omega))
  have hw : 2 ^ c ≤ w := by
    rcases Nat.lt_or_ge w (2 ^ c) with h | h
    · exfalso
      have := Nat.mul_le_mul (show w + 1 ≤ 2 ^ c from h) (show w + 1 ≤ 2 ^ c from h)
      omega
    · exact h
  have hwn : w * 2 ^ c ≤ n := Nat.le_trans (Nat.mul_le_mul_left w hw) hlo
  have hc2 : 2 ^ c = 2 * 2 ^ (c - 1) := by rw [← Nat.pow_succ']; congr 1; omega
  have hq : Q * Q ≤ 4 * n + 8 * w ∧ 4 * n ≤ Q * Q + 8 * w := by
    have ew : (w + 1) * (w + 1) = w * w + 2 * w + 1 := by rw [Nat.add_mul, Nat.mul_add, Nat.mul_one, Nat.one_mul]; omega
    rw [ew] at hup
    by_cases he : w * w = n
    · have e1 : (w * w != n) = false := by rw [bne_eq_false_iff_eq]; exact he
      have e2 : Q * Q = 4 * (w * w) := by
        show (2 * w + (w * w != n).toNat) * (2 * w + (w * w != n).toNat) = _
        rw [e1]
        show (2 * w + 0) * (2 * w + 0) = _
        rw [Nat.add_zero, Nat.mul_mul_mul_comm]
      omega
    · have e1 : (w * w != n) = true := by rw [bne_iff_ne]; exact he
      have e2 : Q * Q = 4 * (w * w) + 4 * w + 1 := by
        show (2 * w + (w * w != n).toNat) * (2 * w + (w * w != n).toNat) = _
        rw [e1]
        show (2 * w + 1) * (2 * w + 1) = _
        rw [Nat.add_mul, Nat.mul_add, Nat.mul_mul_mul_comm]
        omega
      have : 1 ≤ w := Nat.le_trans (Nat.two_pow_pos c) hw
      omega
  have h8 : 8 * w * 2 ^ (c - 1) ≤ 4 * n := by
    have : 8 * w * 2 ^ (c - 1) = 4 * (w * 2 ^ c) := by
      rw [hc2, Nat.mul_assoc, Nat.mul_left_comm w 2, ← Nat.mul_assoc 4 2]
    omega
  have g1 := Nat.mul_le_mul_right (2 ^ (c - 1)) hq.1
  have g2 := Nat.mul_le_mul_right (2 ^ (c - 1)) hq.2
  rw [Nat.add_mul (4 * n)] at g1
  rw [Nat.add_mul (Q * Q)] at g2
  generalize Q * Q * 2 ^ (c - 1) = A at *
  generalize 4 * n * 2 ^ (c - 1) = B at *
  generalize 8 * w * 2 ^ (c - 1) = C at *
  omega
theorem root_form {x : Nat} {a : Rat} (hx : V FloatKind.f64.format x a) (ha : 0 < a) : ∃ m e, fsqrt .f64 x = FloatKind.f64.format.write (.number false m e) ∧ mg ((m : Rat) * pw e * ((m : Rat) * pw e) - a) ≤ uK .f64 * a := by
  obtain ⟨s, m, i, h1, rfl⟩ := hx
  have hP : 0 ≤ (m : Rat) * pw i := Rat.mul_nonneg (nat_nonneg _) (Rat.le_of_lt (pw_pos _))
  have hs : s = false := by
    cases s
    · rfl
    · exfalso
      unfold sg at ha
      simp only [if_true] at ha
      grind
  subst hs
  have e0 : sg false ((m : Rat) * pw i) = (m : Rat) * pw i := rfl
  rw [e0] at ha ⊢
  have hm : m ≠ 0 := by
    rintro rfl
    rw [nat0] at ha
    grind
  obtain ⟨M, hM, hpar⟩ : ∃ M : Nat, 2 * (52 + 2) - m.log2 + ((i - ((2 * (52 + 2) - m.log2 : Nat) : Int)) % 2).toNat = M ∧ (i - (M : Int)) % 2 = 0 := ⟨_, rfl, by omega⟩
  have hge : 2 * 54 - m.log2 ≤ M := by omega
  obtain ⟨q1, q2⟩ := root_nat (i' := 0) hm M hge (by decide)
  have hform : fsqrt .f64 x = FloatKind.f64.format.write (.number false (2 * Datum.rootFrom (m <<< M) ((m <<< M).log2 / 2 + 1) 0 + (Datum.rootFrom (m <<< M) ((m <<< M).log2 / 2 + 1) 0 * Datum.rootFrom (m <<< M) ((m <<< M).log2 / 2 + 1) 0 != m <<< M).toNat) ((i - (M : Int)) / 2 - 1)) := by
    unfold fsqrt Format.sqrt
    rw [h1, ← hM]
    show (Option.map _ (Datum.root 54 _)).getD _ = _
    unfold Datum.root
    simp only [hm, if_false, Bool.false_eq_true]
    rfl
  refine ⟨_, _, hform, ?_⟩
  generalize 2 * Datum.rootFrom (m <<< M) ((m <<< M).log2 / 2 + 1) 0 + (Datum.rootFrom (m <<< M) ((m <<< M).log2 / 2 + 1) 0 * Datum.rootFrom (m <<< M) ((m <<< M).log2 / 2 + 1) 0 != m <<< M).toNat = Q at *
  obtain ⟨h, hh⟩ : ∃ h : Int, i - (M : Int) = 2 * h := ⟨(i - (M : Int)) / 2, by omega⟩
  rw [hh, show (2 * h) / 2 - 1 = h - 1 by omega]
  -- four times both
  have hN : ((4 * (m <<< M) : Nat) : Rat) * pw (2 * h - 2) = (m : Rat) * pw i := by
    rw [Nat.shiftLeft_eq, Rat.natCast_mul, Rat.natCast_mul, ← pw_nat, show ((4 : Nat) : Rat) = pw 2 by decide +kernel]
    have e1 : pw i = pw 2 * pw (M : Int) * pw (2 * h - 2) := by rw [← pw_add, ← pw_add]; congr 1; omega
    rw [e1]
    grind
  have hQ : (Q : Rat) * pw (h - 1) * ((Q : Rat) * pw (h - 1)) = ((Q * Q : Nat) : Rat) * pw (2 * h - 2) := by
    have e1 : pw (2 * h - 2) = pw (h - 1) * pw (h - 1) := by rw [← pw_add]; congr 1; omega
    rw [e1, Rat.natCast_mul]
    grind
  rw [hQ, ← hN]
  have r1 := nat_le q1
  have r2 := nat_le q2
  simp only [Nat.reduceSub] at r1 r2
  rw [Rat.natCast_mul (Q * Q), Rat.natCast_add, Rat.natCast_mul (4 * (m <<< M)), ← pw_nat] at r1
  rw [Rat.natCast_mul (4 * (m <<< M)), Rat.natCast_add, Rat.natCast_mul (Q * Q), ← pw_nat] at r2
  have hu : uK .f64 * pw ((53 : Nat) : Int) = 1 := by
    unfold uK
    rw [← pw_add, show -fracK .f64 - 1 + ((53 : Nat) : Int) = 0 by decide, pw_zero]
  have hu0 := Rat.le_of_lt (uK_pos .f64)
  have hp := Rat.le_of_lt (pw_pos (2 * h - 2))
  generalize ((Q * Q : Nat) : Rat) = A at *
  generalize ((4 * (m <<< M) : Nat) : Rat) = B at *
  generalize pw ((53 : Nat) : Int) = U at *
  generalize uK .f64 = u at *
  generalize pw (2 * h - 2) = P at *
  have s1 := Rat.mul_le_mul_of_nonneg_left (Rat.mul_le_mul_of_nonneg_right r1 hp) hu0
  have s2 := Rat.mul_le_mul_of_nonneg_left (Rat.mul_le_mul_of_nonneg_right r2 hp) hu0
  have t1 : u * (A * U * P) = A * P := by
    have : u * (A * U * P) = (u * U) * (A * P) := by grind
    rw [this, hu, Rat.one_mul]
  have t2 : u * ((B * U + B) * P) = B * P + u * (B * P) := by
    have : u * ((B * U + B) * P) = (u * U) * (B * P) + u * (B * P) := by grind
    rw [this, hu, Rat.one_mul]
  have t3 : u * (B * U * P) = B * P := by
    have : u * (B * U * P) = (u * U) * (B * P) := by grind
    rw [this, hu, Rat.one_mul]
  have t4 : u * ((A * U + B) * P) = A * P + u * (B * P) := by
    have : u * ((A * U + B) * P) = (u * U) * (A * P) + u * (B * P) := by grind
    rw [this, hu, Rat.one_mul]
  rw [t1, t2] at s1
  rw [t3, t4] at s2
  refine mg_le ?_ ?_ <;> grind
theorem sqrt_near {x : Nat} {a : Rat} (hx : V FloatKind.f64.format x a) (h0 : pw (-600) ≤ a) (h1 : a ≤ pw 1000) : ∃ t, V FloatKind.f64.format (fsqrt .f64 x) t ∧ 0 < t ∧ mg (t * t - a) ≤ 7 * uK .f64 * a := by
  have ha : 0 < a := by have := pw_pos (-600); grind
  obtain ⟨m, e, e1, e2⟩ := root_form hx ha
  have hq0 : 0 ≤ (m : Rat) * pw e := Rat.mul_nonneg (nat_nonneg _) (Rat.le_of_lt (pw_pos _))
  have hu := uK_pos .f64
  have hu1 : uK .f64 ≤ pw (-53) := Rat.le_refl
  have hu2 : pw (-53) ≤ 1 / 1024 := by
    have h : (1 : Rat) / 1024 = pw (-10) := by decide +kernel
    rw [h]
    exact pw_mono (by decide)
  generalize hq : (m : Rat) * pw e = q at *
  have f := mg_le' e2
  have hua : uK .f64 * a ≤ 1 / 1024 * a := Rat.mul_le_mul_of_nonneg_right (by grind) (Rat.le_of_lt ha)
  -- the root is neither tiny nor great
  have hlo : pw (-301) ≤ q := by
    rcases Rat.le_total (a := pw (-301)) (b := q) with h | h
    · exact h
    · exfalso
      have g1 := Rat.mul_le_mul_of_nonneg_right h hq0
      have g2 := Rat.mul_le_mul_of_nonneg_left h (Rat.le_of_lt (pw_pos (-301)))
      rw [← pw_add, show (-301 : Int) + -301 = -602 by decide] at g2
      have g3 : pw (-600) = pw (-602) * 4 := by rw [show (4 : Rat) = pw 2 by decide +kernel, ← pw_add]; rfl
      have g4 := pw_pos (-602)
      grind
  have hhi : q ≤ pw 501 := by
    rcases Rat.le_total (a := q) (b := pw 501) with h | h
    · exact h
    · exfalso
      have g1 := Rat.mul_le_mul_of_nonneg_right h hq0
      have g2 := Rat.mul_le_mul_of_nonneg_left h (Rat.le_of_lt (pw_pos 501))
      rw [← pw_add, show (501 : Int) + 501 = 1002 by decide] at g2
      have g3 : pw 1002 = pw 1000 * 4 := by rw [show (4 : Rat) = pw 2 by decide +kernel, ← pw_add]; rfl
      have g4 := pw_pos 1000
      grind
  obtain ⟨t, k1, k2⟩ := near_of (k := .f64) (w := false) (m := m) (e := e) (v := q) (by rw [← hq]; rfl) (by rw [mg_of_nonneg hq0]; exact Rat.le_trans hhi (pw_mono (by decide)))
  rw [mg_of_nonneg hq0] at k2
  have htk : tK .f64 ≤ uK .f64 * q := by
    have g1 := Rat.mul_le_mul_of_nonneg_left hlo (Rat.le_of_lt hu)
    refine Rat.le_trans ?_ g1
    unfold tK uK
    rw [← pw_add]
    exact pw_mono (by decide)
  have hqp : 0 < q := by have := pw_pos (-301); grind
  have hd := mg_le' k2
  have huq : uK .f64 * q ≤ 1 / 1024 * q := Rat.mul_le_mul_of_nonneg_right (by grind) hq0
  rw [e1]
  refine ⟨t, k1, by grind, ?_⟩
  -- t = q + d, |d| ≤ 2 u q
  obtain ⟨d, rfl⟩ : ∃ d, t = q + d := ⟨t - q, by grind⟩
  have hd1 : mg d ≤ 2 * (uK .f64 * q) := by
    rw [show q + d - q = d by grind] at k2
    grind
  have hd2 : mg (q * d) ≤ 2 * uK .f64 * (q * q) := by
    rw [mg_mul, mg_of_nonneg hq0]
    have := Rat.mul_le_mul_of_nonneg_left hd1 hq0
    grind
  have hd3 : mg (d * d) ≤ uK .f64 * (q * q) := by
    rw [mg_mul]
    have g1 := Rat.mul_le_mul_of_nonneg_right hd1 (mg_nonneg d)
    have g2 := Rat.mul_le_mul_of_nonneg_left hd1 (show 0 ≤ 2 * (uK .f64 * q) by have := Rat.mul_nonneg (Rat.le_of_lt hu) hq0; grind)
    have g3 : 2 * (uK .f64 * q) * (2 * (uK .f64 * q)) ≤ uK .f64 * (q * q) := by
      have h1 := Rat.mul_le_mul_of_nonneg_left huq (Rat.mul_nonneg (Rat.le_of_lt hu) hq0)
      have h2 : 0 ≤ uK .f64 * (q * q) := Rat.mul_nonneg (Rat.le_of_lt hu) (Rat.mul_nonneg hq0 hq0)
      grind
    grind
  have hqq : q * q ≤ a + uK .f64 * a := by grind
  have hqq2 := Rat.mul_le_mul_of_nonneg_left hqq (Rat.le_of_lt hu)
  have hua2 : uK .f64 * (uK .f64 * a) ≤ 1 / 1024 * (uK .f64 * a) := Rat.mul_le_mul_of_nonneg_right (by grind) (Rat.mul_nonneg (Rat.le_of_lt hu) (Rat.le_of_lt ha))
  have h2 := mg_le' hd2
  have h3 := mg_le' hd3
  have hpos : 0 ≤ uK .f64 * a := Rat.mul_nonneg (Rat.le_of_lt hu) (Rat.le_of_lt ha)
  refine mg_le ?_ ?_ <;> grind
end Go.Aw
