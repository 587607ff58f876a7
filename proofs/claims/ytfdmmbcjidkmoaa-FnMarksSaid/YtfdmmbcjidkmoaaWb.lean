/- Floating point as rational numbers: what is written is near what was to be written. -/
/- Floating point as rational numbers: the operations. -/
import Derived.Test.YtfdmmbcjidkmoaaAws
import Derived.Test.YtfdmmbcjidkmoaaAwy
import Derived.Test.YtfdmmbcjidkmoaaAwj
set_option linter.unusedSimpArgs false
set_option linter.unusedVariables false
namespace Go.Aw
open Ieee
/-! ### Absolute values -/
def mg (x : Rat) : Rat := if x < 0 then -x else x
theorem mg_nonneg (x : Rat) : 0 ≤ mg x := by unfold mg; split <;> grind
theorem le_mg (x : Rat) : x ≤ mg x := by unfold mg; split <;> grind
theorem neg_le_mg (x : Rat) : -x ≤ mg x := by unfold mg; split <;> grind
theorem mg_le {x c : Rat} (h : x ≤ c) (g : -x ≤ c) : mg x ≤ c := by unfold mg; split <;> grind
theorem mg_of_nonneg {x : Rat} (h : 0 ≤ x) : mg x = x := by unfold mg; split <;> grind
theorem mg_neg (x : Rat) : mg (-x) = mg x := by unfold mg; split <;> split <;> grind
theorem mg_add (x y : Rat) : mg (x + y) ≤ mg x + mg y := by unfold mg; split <;> split <;> split <;> grind
theorem mg_sub (x y : Rat) : mg (x - y) ≤ mg x + mg y := by unfold mg; split <;> split <;> split <;> grind
theorem mg_zero : mg 0 = 0 := by unfold mg; split <;> grind
theorem mg_mul (x y : Rat) : mg (x * y) = mg x * mg y := by
  rcases Rat.le_total (a := 0) (b := x) with hx | hx <;> rcases Rat.le_total (a := 0) (b := y) with hy | hy
  · rw [mg_of_nonneg hx, mg_of_nonneg hy, mg_of_nonneg (Rat.mul_nonneg hx hy)]
  · rw [mg_of_nonneg hx, ← mg_neg y, mg_of_nonneg (show 0 ≤ -y by grind), ← mg_neg, show -(x * y) = x * -y by grind, mg_of_nonneg (Rat.mul_nonneg hx (by grind))]
  · rw [mg_of_nonneg hy, ← mg_neg x, mg_of_nonneg (show 0 ≤ -x by grind), ← mg_neg, show -(x * y) = -x * y by grind, mg_of_nonneg (Rat.mul_nonneg (by grind) hy)]
  · rw [← mg_neg x, ← mg_neg y, mg_of_nonneg (show 0 ≤ -x by grind), mg_of_nonneg (show 0 ≤ -y by grind), show x * y = -x * -y by grind, mg_of_nonneg (Rat.mul_nonneg (by grind) (by grind))]
theorem mg_sg (s : Bool) (x : Rat) : mg (sg s x) = mg x := by
  cases s
  · rfl
  · exact mg_neg x
theorem sg_sub (s : Bool) (x y : Rat) : sg s x - sg s y = sg s (x - y) := by
  unfold sg
  cases s <;> grind
theorem mg_le' {x c : Rat} (h : mg x ≤ c) : x ≤ c ∧ -c ≤ x := by
  have := le_mg x
  have := neg_le_mg x
  constructor <;> grind
/-! ### The kinds -/
theorem fineK (k : FloatKind) : Fine k.format := by
  cases k
  · exact fine_single
  · exact fine_double
def fracK : FloatKind → Int
  | .f32 => 23
  | .f64 => 52
def leastK : FloatKind → Int
  | .f32 => -149
  | .f64 => -1074
def limK : FloatKind → Int
  | .f32 => 126
  | .f64 => 1022
/-- Half a unit of the last place of one, and half of the least number. -/
def uK (k : FloatKind) : Rat := pw (-fracK k - 1)
def tK (k : FloatKind) : Rat := pw (leastK k - 1)
theorem frac_eq (k : FloatKind) : (k.format.fractionBits : Int) = fracK k := by cases k <;> decide
theorem least_eq (k : FloatKind) : k.format.leastPlace = leastK k := by cases k <;> decide
theorem pw_lt {a b : Int} (h : pw a ≤ pw b) : a ≤ b := by
  rcases Int.lt_or_le b a with hl | hl
  · exfalso
    have h1 := pw_mono (show b + 1 ≤ a by omega)
    rw [pw_add, pw_one] at h1
    have := pw_pos b
    grind
  · exact hl
theorem pw_half (e : Int) : pw e / 2 = pw (e - 1) := by
  have : pw e = pw (e - 1) * 2 := by rw [← pw_one, ← pw_add]; congr 1; omega
  rw [this]
  grind
theorem pw_log {m : Nat} (hm : m ≠ 0) : pw (m.log2 : Int) ≤ (m : Rat) := by
  rw [pw_nat]
  exact nat_le (Nat.log2_self_le hm)
theorem last_ok {k : FloatKind} {m : Nat} {e : Int} (hm : m ≠ 0) (h : (m : Rat) * pw e ≤ pw (limK k)) : ((lastOf k.format m e - k.format.leastPlace).toNat + 2) * k.format.binade < k.format.infRung := by
  have h1 : pw (m.log2 + e) ≤ pw (limK k) := by
    rw [pw_add]
    exact Rat.le_trans (Rat.mul_le_mul_of_nonneg_right (pw_log hm) (Rat.le_of_lt (pw_pos e))) h
  have h2 := pw_lt h1
  unfold lastOf
  rw [frac_eq, least_eq]
  cases k
  · have e1 : FloatKind.f32.format.binade = 8388608 := f32_bin
    rw [f32_inf, e1]
    unfold limK at h2
    unfold leastK fracK
    simp only at h2 ⊢
    omega
  · rw [f64_inf, f64_bin]
    unfold limK at h2
    unfold leastK fracK
    simp only at h2 ⊢
    omega
theorem V.num {f : Format} {s : Bool} {m : Nat} {e : Int} {x : Nat} (h : f.read x = .number s m e) : V f x (sg s ((m : Rat) * pw e)) := ⟨s, m, e, h, rfl⟩
theorem V_zero (k : FloatKind) (s : Bool) (e : Int) : V k.format (k.format.write (.number s 0 e)) 0 := by
  have hw : k.format.write (.number s 0 e) = k.format.word s (0 * k.format.binade + 0) := by
    show k.format.nearest s 0 e = _
    unfold Format.nearest
    simp
  have hi : 0 * k.format.binade + 0 < k.format.infRung := by cases k <;> decide
  obtain ⟨m, e', h1, u, h2, h3⟩ := rung_read (fineK k) s 0 0 hi (.inl rfl) (Nat.zero_le _)
  rw [hw]
  refine ⟨s, m, e', h1, ?_⟩
  have : m = 0 := by
    rcases Nat.mul_eq_zero.1 h3.symm with h | h
    · exact h
    · have := Nat.two_pow_pos u; omega
  subst this
  unfold sg
  cases s
  · show (0 : Rat) = ((0 : Nat) : Rat) * pw e'
    rw [show ((0 : Nat) : Rat) = 0 from rfl]; grind
  · show (0 : Rat) = -(((0 : Nat) : Rat) * pw e')
    rw [show ((0 : Nat) : Rat) = 0 from rfl]; grind
/-- What is written is near. -/
theorem write_near {k : FloatKind} {s : Bool} {m : Nat} {e : Int} (h : (m : Rat) * pw e ≤ pw (limK k)) : ∃ t, V k.format (k.format.write (.number s m e)) t ∧ mg (t - sg s ((m : Rat) * pw e)) ≤ uK k * ((m : Rat) * pw e) + tK k := by
  have hu : 0 ≤ uK k := Rat.le_of_lt (pw_pos _)
  have ht : 0 ≤ tK k := Rat.le_of_lt (pw_pos _)
  by_cases hm : m = 0
  · subst hm
    refine ⟨0, V_zero k s e, ?_⟩
    have e0 : (((0 : Nat) : Rat) * pw e) = 0 := by rw [show ((0 : Nat) : Rat) = 0 from rfl]; grind
    rw [e0]
    have e1 : sg s 0 = 0 := by unfold sg; cases s <;> grind
    rw [e1, show (0 : Rat) - 0 = 0 by grind, mg_zero]
    grind
  obtain ⟨n, hV, h1, h2⟩ := nearest_near (fineK k) s hm (last_ok hm h)
  refine ⟨_, hV, ?_⟩
  rw [sg_sub, mg_sg]
  have hp : pw (lastOf k.format m e) / 2 ≤ uK k * ((m : Rat) * pw e) + tK k := by
    rw [pw_half]
    have hcase : lastOf k.format m e = e + m.log2 - fracK k ∨ lastOf k.format m e = leastK k := by unfold lastOf; rw [frac_eq, least_eq]; omega
    have hpos : 0 ≤ (m : Rat) * pw e := Rat.mul_nonneg (nat_nonneg _) (Rat.le_of_lt (pw_pos _))
    rcases hcase with hc | hc
    · have e1 : pw (lastOf k.format m e - 1) = uK k * (pw (m.log2 : Int) * pw e) := by
        unfold uK
        rw [← pw_add, ← pw_add, hc]
        congr 1
        omega
      have := Rat.mul_le_mul_of_nonneg_left (Rat.mul_le_mul_of_nonneg_right (pw_log hm) (Rat.le_of_lt (pw_pos e))) hu
      rw [e1]
      grind
    · have e1 : pw (lastOf k.format m e - 1) = tK k := by rw [hc]; rfl
      have := Rat.mul_nonneg hu hpos
      rw [e1]
      grind
  refine mg_le ?_ ?_ <;> grind
/-- What the kind holds is written as it is. -/
theorem write_exact {k : FloatKind} {s : Bool} {m : Nat} {e g : Int} {n : Nat} (hn : (m : Rat) * pw e = (n : Rat) * pw g) (h1 : n < 2 ^ (k.format.fractionBits + 1)) (h2 : leastK k ≤ g) (h3 : g ≤ limK k - fracK k - 1) : V k.format (k.format.write (.number s m e)) (sg s ((m : Rat) * pw e)) := by
  by_cases hm : m = 0
  · subst hm
    have e0 : (((0 : Nat) : Rat) * pw e) = 0 := by rw [show ((0 : Nat) : Rat) = 0 from rfl]; grind
    rw [e0, show sg s 0 = 0 by unfold sg; cases s <;> grind]
    exact V_zero k s e
  have hlt : pw (m.log2 + e) < pw (fracK k + 1 + g) := by
    have a1 : pw (m.log2 + e) ≤ (n : Rat) * pw g := by
      rw [pw_add, ← hn]
      exact Rat.mul_le_mul_of_nonneg_right (pw_log hm) (Rat.le_of_lt (pw_pos e))
    have a2 : (n : Rat) * pw g < pw (fracK k + 1) * pw g := by
      refine Rat.mul_lt_mul_of_pos_right ?_ (pw_pos g)
      have := nat_lt h1
      rwa [← pw_nat, show ((k.format.fractionBits + 1 : Nat) : Int) = fracK k + 1 by rw [← frac_eq]; rfl] at this
    rw [pw_add (fracK k + 1)]
    grind
  have hlog : m.log2 + e < fracK k + 1 + g := by
    rcases Int.lt_or_le (m.log2 + e) (fracK k + 1 + g) with h | h
    · exact h
    · exact absurd (pw_mono h) (Rat.not_le.2 hlt)
  have hlast : lastOf k.format m e ≤ g := by
    unfold lastOf
    rw [frac_eq, least_eq]
    omega
  have hlim : (m : Rat) * pw e ≤ pw (limK k) := by
    have a2 : (m : Rat) * pw e ≤ pw (m.log2 + 1) * pw e := by
      refine Rat.mul_le_mul_of_nonneg_right ?_ (Rat.le_of_lt (pw_pos e))
      have := nat_le (Nat.le_of_lt (Nat.lt_log2_self (n := m)))
      rwa [← pw_nat] at this
    rw [← pw_add] at a2
    refine Rat.le_trans a2 (pw_mono ?_)
    omega
  obtain ⟨q, hV, b1, b2⟩ := nearest_near (fineK k) s hm (last_ok hm hlim)
  obtain ⟨d, hd⟩ := Int.eq_ofNat_of_zero_le (show 0 ≤ g - lastOf k.format m e by omega)
  have hw : (m : Rat) * pw e = ((n * 2 ^ d : Nat) : Rat) * pw (lastOf k.format m e) := by
    rw [hn, show g = (d : Int) + lastOf k.format m e by omega, pw_add, pw_nat, Rat.natCast_mul]
    grind
  rw [hw] at b1 b2
  have hp := pw_pos (lastOf k.format m e)
  have hq : q = n * 2 ^ d := by
    rcases Nat.lt_trichotomy q (n * 2 ^ d) with h | h | h
    · exfalso
      have c1 : ((q + 1 : Nat) : Rat) ≤ ((n * 2 ^ d : Nat) : Rat) := nat_le h
      have c2 := Rat.mul_le_mul_of_nonneg_right c1 (Rat.le_of_lt hp)
      rw [Rat.natCast_add, show ((1 : Nat) : Rat) = 1 from rfl] at c2
      grind
    · exact h
    · exfalso
      have c1 : ((n * 2 ^ d + 1 : Nat) : Rat) ≤ (q : Rat) := nat_le h
      have c2 := Rat.mul_le_mul_of_nonneg_right c1 (Rat.le_of_lt hp)
      rw [Rat.natCast_add, show ((1 : Nat) : Rat) = 1 from rfl] at c2
      grind
  rw [hw, ← hq]
  exact hV
end Go.Aw
set_option linter.unusedSimpArgs false
set_option linter.unusedVariables false
namespace Go.Aw
open Ieee
theorem uK_pos (k : FloatKind) : 0 < uK k := pw_pos _
theorem tK_pos (k : FloatKind) : 0 < tK k := pw_pos _
theorem sg_zero (s : Bool) : sg s 0 = 0 := by unfold sg; cases s <;> grind
theorem nat0 : ((0 : Nat) : Rat) = 0 := rfl
theorem nat1 : ((1 : Nat) : Rat) = 1 := rfl
theorem sg_mul (s t : Bool) (x y : Rat) : sg s x * sg t y = sg (s ^^ t) (x * y) := by
  unfold sg
  cases s <;> cases t <;> simp <;> grind
/-! ### Sums -/
theorem signed_rat (s : Bool) (m u : Nat) : ((signed s m u : Int) : Rat) = sg s ((m : Rat) * pw (u : Int)) := by
  unfold signed sg
  cases s
  · simp only [Bool.false_eq_true, if_false]
    rw [Rat.intCast_natCast, Nat.shiftLeft_eq, Rat.natCast_mul, pw_nat]
  · simp only [if_true]
    rw [Rat.intCast_neg, Rat.intCast_natCast, Nat.shiftLeft_eq, Rat.natCast_mul, pw_nat]
theorem natAbs_rat {T : Int} {w : Bool} (hw : T ≠ 0 → w = decide (T < 0)) (P : Rat) : sg w ((T.natAbs : Rat) * P) = (T : Rat) * P := by
  rcases Int.lt_trichotomy T 0 with h | h | h
  · rw [hw (by omega), decide_eq_true h]
    obtain ⟨n, hn⟩ := Int.eq_ofNat_of_zero_le (show 0 ≤ -T by omega)
    have e : T = -(n : Int) := by omega
    subst e
    rw [Int.natAbs_neg, Int.natAbs_natCast, Rat.intCast_neg, Rat.intCast_natCast]
    unfold sg
    simp only [if_true]
    grind
  · subst h
    rw [show (Int.natAbs 0) = 0 from rfl, nat0, show ((0 : Int) : Rat) = 0 from rfl]
    have : (0 : Rat) * P = 0 := by grind
    rw [this, sg_zero]
  · rw [hw (by omega), decide_eq_false (by omega)]
    obtain ⟨n, hn⟩ := Int.eq_ofNat_of_zero_le (show 0 ≤ T by omega)
    subst hn
    rw [Int.natAbs_natCast, Rat.intCast_natCast]
    unfold sg
    simp only [Bool.false_eq_true, if_false]
theorem signed_place (s : Bool) (m : Nat) {i b : Int} (h : b ≤ i) : ((signed s m (i - b).toNat : Int) : Rat) * pw b = sg s ((m : Rat) * pw i) := by
  rw [signed_rat]
  have e : pw ((i - b).toNat : Int) * pw b = pw i := by rw [← pw_add]; congr 1; omega
  rw [← e]
  unfold sg
  cases s
  · simp only [Bool.false_eq_true, if_false]; grind
  · simp only [if_true]; grind
/-- A sum is written of what it is. -/
theorem sum_form {k : FloatKind} {x y : Nat} {a b : Rat} (hx : V k.format x a) (hy : V k.format y b) : ∃ w m e, fadd k x y = k.format.write (.number w m e) ∧ sg w ((m : Rat) * pw e) = a + b := by
  obtain ⟨s, m, i, h1, rfl⟩ := hx
  obtain ⟨t, n, j, g1, rfl⟩ := hy
  unfold fadd Format.add
  rw [h1, g1]
  refine ⟨_, _, _, rfl, ?_⟩
  rw [natAbs_rat (fun h => by rw [if_neg h]), Rat.intCast_add, Rat.add_mul, signed_place _ _ (by omega), signed_place _ _ (by omega)]
theorem diff_form {k : FloatKind} {x y : Nat} {a b : Rat} (hx : V k.format x a) (hy : V k.format y b) : ∃ w m e, fsub k x y = k.format.write (.number w m e) ∧ sg w ((m : Rat) * pw e) = a - b := by
  obtain ⟨s, m, i, h1, rfl⟩ := hx
  obtain ⟨t, n, j, g1, rfl⟩ := hy
  unfold fsub Format.sub
  rw [h1, g1]
  refine ⟨_, _, _, rfl, ?_⟩
  rw [natAbs_rat (fun h => by rw [if_neg h]), Rat.intCast_add, Rat.add_mul, signed_place _ _ (by omega), signed_place _ _ (by omega)]
  unfold sg
  cases s <;> cases t <;> simp <;> grind
theorem prod_form {k : FloatKind} {x y : Nat} {a b : Rat} (hx : V k.format x a) (hy : V k.format y b) : ∃ w m e, fmul k x y = k.format.write (.number w m e) ∧ sg w ((m : Rat) * pw e) = a * b := by
  obtain ⟨s, m, i, h1, rfl⟩ := hx
  obtain ⟨t, n, j, g1, rfl⟩ := hy
  unfold fmul Format.mul
  rw [h1, g1]
  refine ⟨_, _, _, rfl, ?_⟩
  rw [sg_mul, Rat.natCast_mul, pw_add]
  congr 1
  grind
theorem form_mg {w : Bool} {m : Nat} {e : Int} {v : Rat} (h : sg w ((m : Rat) * pw e) = v) : (m : Rat) * pw e = mg v := by
  rw [← h, mg_sg, mg_of_nonneg (Rat.mul_nonneg (nat_nonneg _) (Rat.le_of_lt (pw_pos _)))]
theorem near_of {k : FloatKind} {w : Bool} {m : Nat} {e : Int} {v : Rat} (h : sg w ((m : Rat) * pw e) = v) (hl : mg v ≤ pw (limK k)) : ∃ t, V k.format (k.format.write (.number w m e)) t ∧ mg (t - v) ≤ uK k * mg v + tK k := by
  have hm := form_mg h
  obtain ⟨t, h1, h2⟩ := write_near (k := k) (s := w) (m := m) (e := e) (by rw [hm]; exact hl)
  rw [h, hm] at h2
  exact ⟨t, h1, h2⟩
theorem exact_of {k : FloatKind} {w : Bool} {m : Nat} {e g n : Int} {v : Rat} (h : sg w ((m : Rat) * pw e) = v) (hn : v = (n : Rat) * pw g) (h1 : n.natAbs < 2 ^ (k.format.fractionBits + 1)) (h2 : leastK k ≤ g) (h3 : g ≤ limK k - fracK k - 1) : V k.format (k.format.write (.number w m e)) v := by
  have hm := form_mg h
  have e1 : mg v = (n.natAbs : Rat) * pw g := by
    rw [hn, ← natAbs_rat (w := decide (n < 0)) (fun _ => rfl), mg_sg, mg_of_nonneg (Rat.mul_nonneg (nat_nonneg _) (Rat.le_of_lt (pw_pos _)))]
  have := write_exact (k := k) (s := w) (m := m) (e := e) (g := g) (n := n.natAbs) (by rw [hm, e1]) h1 h2 h3
  rwa [h] at this
section
variable {k : FloatKind} {x y : Nat} {a b : Rat}
theorem add_near (hx : V k.format x a) (hy : V k.format y b) (hl : mg (a + b) ≤ pw (limK k)) : ∃ t, V k.format (fadd k x y) t ∧ mg (t - (a + b)) ≤ uK k * mg (a + b) + tK k := by
  obtain ⟨w, m, e, h1, h2⟩ := sum_form hx hy
  rw [h1]
  exact near_of h2 hl
theorem sub_near (hx : V k.format x a) (hy : V k.format y b) (hl : mg (a - b) ≤ pw (limK k)) : ∃ t, V k.format (fsub k x y) t ∧ mg (t - (a - b)) ≤ uK k * mg (a - b) + tK k := by
  obtain ⟨w, m, e, h1, h2⟩ := diff_form hx hy
  rw [h1]
  exact near_of h2 hl
theorem mul_near (hx : V k.format x a) (hy : V k.format y b) (hl : mg (a * b) ≤ pw (limK k)) : ∃ t, V k.format (fmul k x y) t ∧ mg (t - a * b) ≤ uK k * mg (a * b) + tK k := by
  obtain ⟨w, m, e, h1, h2⟩ := prod_form hx hy
  rw [h1]
  exact near_of h2 hl
theorem add_exact (hx : V k.format x a) (hy : V k.format y b) {n g : Int} (hn : a + b = (n : Rat) * pw g) (h1 : n.natAbs < 2 ^ (k.format.fractionBits + 1)) (h2 : leastK k ≤ g) (h3 : g ≤ limK k - fracK k - 1) : V k.format (fadd k x y) (a + b) := by
  obtain ⟨w, m, e, h1', h2'⟩ := sum_form hx hy
  rw [h1']
  exact exact_of h2' hn h1 h2 h3
theorem sub_exact (hx : V k.format x a) (hy : V k.format y b) {n g : Int} (hn : a - b = (n : Rat) * pw g) (h1 : n.natAbs < 2 ^ (k.format.fractionBits + 1)) (h2 : leastK k ≤ g) (h3 : g ≤ limK k - fracK k - 1) : V k.format (fsub k x y) (a - b) := by
  obtain ⟨w, m, e, h1', h2'⟩ := diff_form hx hy
  rw [h1']
  exact exact_of h2' hn h1 h2 h3
theorem mul_exact (hx : V k.format x a) (hy : V k.format y b) {n g : Int} (hn : a * b = (n : Rat) * pw g) (h1 : n.natAbs < 2 ^ (k.format.fractionBits + 1)) (h2 : leastK k ≤ g) (h3 : g ≤ limK k - fracK k - 1) : V k.format (fmul k x y) (a * b) := by
  obtain ⟨w, m, e, h1', h2'⟩ := prod_form hx hy
  rw [h1']
  exact exact_of h2' hn h1 h2 h3
end
/-! ### Quotients -/
theorem quot_nat {m n c : Nat} (hm : m ≠ 0) (hn : n ≠ 0) (more : Nat) (hmore : more = c + n.log2 - m.log2) :
    let D := m <<< more
    let Q := 2 * (D / n) + (D % n != 0).toNat
    Q * n ≤ 2 * D + n ∧ 2 * D ≤ Q * n + n ∧ n * 2 ^ c ≤ 2 * D ∧ (D % n = 0 → Q * n = 2 * D) := by
  intro D Q
  have hD : D = m * 2 ^ more := Nat.shiftLeft_eq ..
  have hdm := Nat.div_add_mod D n
  have hr := Nat.mod_lt D (Nat.pos_of_ne_zero hn)
  have hQ : Q * n = 2 * (n * (D / n)) + (D % n != 0).toNat * n := by
    show (2 * (D / n) + (D % n != 0).toNat) * n = _
    rw [Nat.add_mul, Nat.mul_assoc, Nat.mul_comm (D / n)]
  have hbig : n * 2 ^ c ≤ 2 * D := by
    have h1 := Nat.lt_log2_self (n := n)
    have h2 := Nat.log2_self_le hm
    calc n * 2 ^ c ≤ 2 ^ (n.log2 + 1) * 2 ^ c := Nat.mul_le_mul_right _ (Nat.le_of_lt h1)
      _ = 2 ^ (n.log2 + 1 + c) := (Nat.pow_add ..).symm
      _ ≤ 2 ^ (1 + (m.log2 + more)) := Nat.pow_le_pow_right (by decide) (by omega)
      _ = 2 * (2 ^ m.log2 * 2 ^ more) := by rw [Nat.pow_add, Nat.pow_add, Nat.pow_one]
      _ ≤ 2 * (m * 2 ^ more) := Nat.mul_le_mul_left _ (Nat.mul_le_mul_right _ h2)
      _ = 2 * D := by rw [hD]
  by_cases h0 : D % n = 0
  · rw [hQ, h0]
    rw [h0] at hdm
    simp only [bne_self_eq_false, Bool.toNat_false, Nat.zero_mul, Nat.add_zero]
    refine ⟨by omega, by omega, hbig, fun _ => by omega⟩
  · have e1 : (D % n != 0) = true := by rw [bne_iff_ne]; exact h0
    rw [hQ, e1]
    simp only [Bool.toNat_true, Nat.one_mul]
    refine ⟨by omega, by omega, hbig, fun h => absurd h h0⟩
/-- A quotient is written of what it nearly is. -/
theorem quot_form {k : FloatKind} {x y : Nat} {a b c : Rat} (hx : V k.format x a) (hy : V k.format y b) (hb : b ≠ 0) (hc : c * b = a) :
    ∃ w m e q, fdiv k x y = k.format.write (.number w m e) ∧ sg w ((m : Rat) * pw e) = q ∧ mg (q - c) ≤ uK k * mg c ∧
      (∀ n g : Int, c = (n : Rat) * pw g → n.natAbs < 2 ^ (k.format.fractionBits + 1) → q = c) := by
  obtain ⟨s, m, i, h1, rfl⟩ := hx
  obtain ⟨t, n, j, g1, rfl⟩ := hy
  have hn : n ≠ 0 := by
    rintro rfl
    apply hb
    rw [nat0, show (0 : Rat) * pw j = 0 by grind, sg_zero]
  have hu := Rat.le_of_lt (uK_pos k)
  have hform : fdiv k x y = k.format.write (.number (s ^^ t) (2 * ((m <<< (k.format.fractionBits + 2 + n.log2 - m.log2)) / n) + ((m <<< (k.format.fractionBits + 2 + n.log2 - m.log2)) % n != 0).toNat) (i - j - ((k.format.fractionBits + 2 + n.log2 - m.log2 : Nat) : Int) - 1)) := by
    unfold fdiv Format.div
    rw [h1, g1]
    unfold Datum.quotient
    simp only [hn, if_false]
    rfl
  rw [hform]
  refine ⟨_, _, _, _, rfl, rfl, ?_⟩
  have hnp : (0 : Rat) < (n : Rat) := nat_pos (Nat.pos_of_ne_zero hn)
  -- the absolute value of the quotient
  have hcm : mg c * ((n : Rat) * pw j) = (m : Rat) * pw i := by
    have e := congrArg mg hc
    rw [mg_mul, mg_sg, mg_sg, mg_of_nonneg (Rat.mul_nonneg (nat_nonneg n) (Rat.le_of_lt (pw_pos j))), mg_of_nonneg (Rat.mul_nonneg (nat_nonneg m) (Rat.le_of_lt (pw_pos i)))] at e
    exact e
  have hcs : c = sg (s ^^ t) (mg c) := by
    have hp : 0 < (n : Rat) * pw j := Rat.mul_pos hnp (pw_pos j)
    have hP : 0 ≤ (m : Rat) * pw i := Rat.mul_nonneg (nat_nonneg m) (Rat.le_of_lt (pw_pos i))
    have key : sg (s ^^ t) c * ((n : Rat) * pw j) = (m : Rat) * pw i := by
      unfold sg at hc ⊢
      cases s <;> cases t <;> simp at hc ⊢ <;> grind
    have hpos : 0 ≤ sg (s ^^ t) c := by
      rcases Rat.le_total (a := 0) (b := sg (s ^^ t) c) with h | h
      · exact h
      · have h2 := Rat.mul_le_mul_of_nonneg_right h (Rat.le_of_lt hp)
        rw [key] at h2
        have h3 : (m : Rat) * pw i = 0 := by grind
        rw [h3] at key
        have := Rat.mul_eq_zero.1 key
        grind
    have : mg c = sg (s ^^ t) c := by rw [← mg_sg (s ^^ t) c, mg_of_nonneg hpos]
    rw [this]
    unfold sg
    cases (s ^^ t) <;> simp
  generalize hmore : k.format.fractionBits + 2 + n.log2 - m.log2 = more
  by_cases hm : m = 0
  · subst hm
    have h0 : mg c = 0 := by
      rw [nat0, show (0 : Rat) * pw i = 0 by grind] at hcm
      have hp : 0 < (n : Rat) * pw j := Rat.mul_pos hnp (pw_pos j)
      have := Rat.mul_eq_zero.1 hcm
      grind
    have hz : 2 * ((0 <<< more) / n) + ((0 <<< more) % n != 0).toNat = 0 := by
      rw [Nat.zero_shiftLeft, Nat.zero_div, Nat.zero_mod]
      rfl
    rw [hz, nat0, show ∀ z : Rat, 0 * z = 0 by intro z; grind, sg_zero]
    have hc0 : c = 0 := by rw [hcs, h0, sg_zero]
    rw [hc0]
    refine ⟨?_, fun _ _ _ _ => rfl⟩
    rw [show (0 : Rat) - 0 = 0 by grind, mg_zero]
    grind
  obtain ⟨q1, q2, q3, q4⟩ := quot_nat hm hn (c := k.format.fractionBits + 2) more hmore.symm
  have hD : m <<< more = m * 2 ^ more := Nat.shiftLeft_eq ..
  generalize hQ : 2 * ((m <<< more) / n) + ((m <<< more) % n != 0).toNat = Q at *
  -- in units of the place
  have hP := pw_pos (i - j - (more : Int) - 1)
  have hDr : ((2 * (m <<< more) : Nat) : Rat) * pw (i - j - (more : Int) - 1) = mg c * (n : Rat) := by
    have e1 : mg c * (n : Rat) * pw j = (m : Rat) * pw i := by rw [← hcm]; grind
    have e2 : (2 : Rat) * pw (more : Int) * pw (i - j - (more : Int) - 1) * pw j = pw i := by
      rw [← pw_one, ← pw_add, ← pw_add, ← pw_add]
      congr 1
      omega
    have e3 : (((2 * (m <<< more) : Nat) : Rat) * pw (i - j - (more : Int) - 1)) * pw j = (mg c * (n : Rat)) * pw j := by
      rw [e1, ← e2, hD, Rat.natCast_mul, Rat.natCast_mul, ← pw_nat, show ((2 : Nat) : Rat) = 2 from rfl]
      grind
    have hpj := pw_pos j
    have := congrArg (fun z => z * (pw j)⁻¹) e3
    simp only [Rat.mul_assoc, Rat.mul_inv_cancel _ (Rat.ne_of_gt hpj), Rat.mul_one] at this
    simpa [Rat.mul_assoc] using this
  have f1 : (Q : Rat) * (n : Rat) ≤ ((2 * (m <<< more) : Nat) : Rat) + (n : Rat) := by
    have := nat_le q1
    rwa [Rat.natCast_mul, Rat.natCast_add] at this
  have f2 : ((2 * (m <<< more) : Nat) : Rat) ≤ (Q : Rat) * (n : Rat) + (n : Rat) := by
    have := nat_le q2
    rw [Rat.natCast_add (Q * n), Rat.natCast_mul Q n] at this
    exact this
  have f3 : (n : Rat) * pw (fracK k + 2) ≤ ((2 * (m <<< more) : Nat) : Rat) := by
    have := nat_le q3
    rw [Rat.natCast_mul, ← pw_nat] at this
    rwa [← frac_eq]
  have cancel : ∀ {z w : Rat}, z * (n : Rat) ≤ w * (n : Rat) → z ≤ w := by
    intro z w h
    rcases Rat.le_total (a := z) (b := w) with h' | h'
    · exact h'
    · have h2 := Rat.mul_le_mul_of_nonneg_right h' (Rat.le_of_lt hnp)
      have h3 : (z - w) * (n : Rat) = 0 := by grind
      have := Rat.mul_eq_zero.1 h3
      grind
  have hexact : (m <<< more) % n = 0 → (Q : Rat) * pw (i - j - (more : Int) - 1) = mg c := by
    intro h0
    have e1 := q4 h0
    have e2 : (Q : Rat) * (n : Rat) = ((2 * (m <<< more) : Nat) : Rat) := by rw [← e1, Rat.natCast_mul]
    have e3 : (Q : Rat) * pw (i - j - (more : Int) - 1) * (n : Rat) = mg c * (n : Rat) := by rw [← hDr, ← e2]; grind
    have a1 := cancel (z := (Q : Rat) * pw (i - j - (more : Int) - 1)) (w := mg c) (by rw [e3]; exact Rat.le_refl)
    have a2 := cancel (z := mg c) (w := (Q : Rat) * pw (i - j - (more : Int) - 1)) (by rw [e3]; exact Rat.le_refl)
    grind
  constructor
  · conv => lhs; rw [hcs]
    rw [sg_sub, mg_sg]
    have hum : (n : Rat) * pw (i - j - (more : Int) - 1) ≤ uK k * (mg c * (n : Rat)) := by
      rw [← hDr]
      have h5 := Rat.mul_le_mul_of_nonneg_left (Rat.mul_le_mul_of_nonneg_right f3 (Rat.le_of_lt hP)) hu
      have h6 : uK k * ((n : Rat) * pw (fracK k + 2) * pw (i - j - (more : Int) - 1)) = 2 * ((n : Rat) * pw (i - j - (more : Int) - 1)) := by
        have : uK k * pw (fracK k + 2) = 2 := by
          unfold uK
          rw [← pw_add, show -fracK k - 1 + (fracK k + 2) = 1 by omega, pw_one]
        grind
      have h7 := Rat.mul_nonneg (Rat.le_of_lt hnp) (Rat.le_of_lt hP)
      grind
    have g1 := Rat.mul_le_mul_of_nonneg_right f1 (Rat.le_of_lt hP)
    have g2 := Rat.mul_le_mul_of_nonneg_right f2 (Rat.le_of_lt hP)
    have e1 : ((2 * (m <<< more) : Nat) : Rat) * pw (i - j - (more : Int) - 1) = mg c * (n : Rat) := hDr
    refine mg_le (cancel ?_) (cancel ?_)
    · grind
    · grind
  · intro N g hN hlt
    have h0 : (m <<< more) % n = 0 := by
      -- twice the dividend over n is N times a power of two
      have e1 : mg c = (N.natAbs : Rat) * pw g := by
        rw [hN, ← natAbs_rat (w := decide (N < 0)) (fun _ => rfl), mg_sg, mg_of_nonneg (Rat.mul_nonneg (nat_nonneg _) (Rat.le_of_lt (pw_pos _)))]
      have hN0 : N.natAbs ≠ 0 := by
        intro h0
        rw [h0, nat0, show (0 : Rat) * pw g = 0 by grind] at e1
        rw [e1, show (0 : Rat) * ((n : Rat) * pw j) = 0 by grind] at hcm
        have h1 := Rat.mul_eq_zero.1 hcm.symm
        have h2 := nat_pos (Nat.pos_of_ne_zero hm)
        have h3 := pw_pos i
        grind
      -- the place of N is above the place of units
      have hpl : i - j - (more : Int) ≤ g := by
        have l1 : (n : Rat) * pw (fracK k + 2) * pw (i - j - (more : Int) - 1) ≤ (N.natAbs : Rat) * pw g * (n : Rat) := by
          rw [← e1, ← hDr]
          exact Rat.mul_le_mul_of_nonneg_right f3 (Rat.le_of_lt hP)
        have l2 : pw (fracK k + 2) * pw (i - j - (more : Int) - 1) ≤ (N.natAbs : Rat) * pw g := cancel (by grind)
        have l3 : (N.natAbs : Rat) * pw g < pw (fracK k + 1) * pw g := by
          refine Rat.mul_lt_mul_of_pos_right ?_ (pw_pos g)
          have := nat_lt hlt
          rwa [← pw_nat, show ((k.format.fractionBits + 1 : Nat) : Int) = fracK k + 1 by rw [← frac_eq]; rfl] at this
        rw [← pw_add] at l2 l3
        rcases Int.lt_or_le g (i - j - (more : Int)) with h | h
        · exfalso
          have := pw_mono (show fracK k + 1 + g ≤ fracK k + 2 + (i - j - (more : Int) - 1) by omega)
          grind
        · exact h
      obtain ⟨d, hd⟩ := Int.eq_ofNat_of_zero_le (show 0 ≤ g - (i - j - (more : Int)) by omega)
      have e2 : ((2 * (m <<< more) : Nat) : Rat) * pw (i - j - (more : Int) - 1) = ((2 * (N.natAbs * 2 ^ d * n) : Nat) : Rat) * pw (i - j - (more : Int) - 1) := by
        rw [hDr, e1, show g = 1 + (d : Int) + (i - j - (more : Int) - 1) by omega, pw_add, pw_add, pw_one, pw_nat, Rat.natCast_mul, Rat.natCast_mul, Rat.natCast_mul, show ((2 : Nat) : Rat) = 2 from rfl]
        grind
      have e3 : ((2 * (m <<< more) : Nat) : Rat) = ((2 * (N.natAbs * 2 ^ d * n) : Nat) : Rat) := by
        have := congrArg (fun z => z * (pw (i - j - (more : Int) - 1))⁻¹) e2
        simp only [Rat.mul_assoc, Rat.mul_inv_cancel _ (Rat.ne_of_gt hP), Rat.mul_one] at this
        exact this
      have e4 := Rat.natCast_inj.1 e3
      have e5 : m <<< more = N.natAbs * 2 ^ d * n := by omega
      rw [e5, Nat.mul_mod_left]
    rw [hexact h0]
    exact hcs.symm
section
variable {k : FloatKind} {x y : Nat} {a b c : Rat}
theorem div_exact (hx : V k.format x a) (hy : V k.format y b) (hb : b ≠ 0) (hc : c * b = a) {n g : Int} (hn : c = (n : Rat) * pw g) (h1 : n.natAbs < 2 ^ (k.format.fractionBits + 1)) (h2 : leastK k ≤ g) (h3 : g ≤ limK k - fracK k - 1) : V k.format (fdiv k x y) c := by
  obtain ⟨w, m, e, q, e1, e2, _, e3⟩ := quot_form hx hy hb hc
  have := e3 n g hn h1
  subst this
  rw [e1]
  exact exact_of e2 hn h1 h2 h3
theorem uK_le (k : FloatKind) : uK k ≤ 1 / 16 := by
  have h : (1 : Rat) / 16 = pw (-4) := by decide +kernel
  rw [h]
  cases k
  · exact pw_mono (by decide)
  · exact pw_mono (by decide)
theorem div_near (hx : V k.format x a) (hy : V k.format y b) (hb : b ≠ 0) (hc : c * b = a) (hl : mg c ≤ pw (limK k - 1)) : ∃ t, V k.format (fdiv k x y) t ∧ mg (t - c) ≤ 3 * uK k * mg c + tK k := by
  obtain ⟨w, m, e, q, e1, e2, e3, _⟩ := quot_form hx hy hb hc
  have hu := uK_pos k
  have hu1 := uK_le k
  have hc0 := mg_nonneg c
  have hq : mg q ≤ mg c + uK k * mg c := by
    have := mg_add (q - c) c
    rw [show q - c + c = q by grind] at this
    grind
  have hp : pw (limK k) = pw (limK k - 1) * 2 := by rw [← pw_one, ← pw_add]; congr 1; omega
  have hcu := Rat.mul_le_mul_of_nonneg_right hu1 hc0
  obtain ⟨t, g1, g2⟩ := near_of (k := k) e2 (by grind)
  rw [e1]
  refine ⟨t, g1, ?_⟩
  have h3 := mg_add (t - q) (q - c)
  rw [show t - q + (q - c) = t - c by grind] at h3
  have h4 : uK k * mg q ≤ 2 * (uK k * mg c) := by
    have h5 := Rat.mul_le_mul_of_nonneg_left hq (Rat.le_of_lt hu)
    have h6 : uK k * (uK k * mg c) ≤ uK k * mg c := by
      refine Rat.mul_le_mul_of_nonneg_left ?_ (Rat.le_of_lt hu)
      grind
    grind
  grind
end
end Go.Aw
