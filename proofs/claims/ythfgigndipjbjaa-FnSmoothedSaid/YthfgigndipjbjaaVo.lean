/- Smooth lists: their numbers are quarters. -/
/- Smooth lists: means, places. -/
/- Smooth lists: bases are whole thirty-seconds, and not above their lists. -/
/- Smooth lists: scaled to a greatest number of one. -/
import Derived.Test.YthfgigndipjbjaaVj
import Derived.Test.YthfgigndipjbjaaVi
import Derived.Test.YthfgigndipjbjaaVk
set_option linter.unusedSimpArgs false
set_option linter.unusedVariables false
set_option maxRecDepth 100000
namespace Go.Proofs.Ythfgigndipjbjaa
open Go.Aw
/-- A list of quarters, the first of which is great. -/
structure Quarters (k : Nat → Int) : Prop where
  lo : ∀ i, -2 ≤ k i
  hi : ∀ i, k i ≤ 26
  first : 10 ≤ k 0
  rest : ∀ i, 1 ≤ i → k i ≤ 14
theorem listS_quarters {n1 : Nat} {b1 : Nat → Int} (hb1 : ∀ k, k < n1 → 0 ≤ b1 k ∧ b1 k < 256) : ∃ k, Quarters k ∧ ∀ i, listS n1 b1 i = qw (k i) := by
  refine ⟨fun i => if i = 0 then pick17 n1 b1 0 + 10 else pick17 n1 b1 i - 2, ⟨fun i => ?_, fun i => ?_, ?_, fun i hi => ?_⟩, fun i => ?_⟩
  · have h0 := pick17_in hb1 0
    have h1 := pick17_in hb1 i
    split <;> omega
  · have h0 := pick17_in hb1 0
    have h1 := pick17_in hb1 i
    split <;> omega
  · have h0 := pick17_in hb1 0
    simp only [if_true]
    omega
  · have h1 := pick17_in hb1 i
    have : i ≠ 0 := by omega
    simp only [if_neg this]
    omega
  · unfold listS drawX
    by_cases e : i = 0
    · simp only [e, if_true]
      have h0 := pick17_in hb1 0
      have h := allI_at first_ok (k := pick17 n1 b1 0 - 2) (by omega) (by omega)
      have h := Nat.eq_of_beq_eq_true h
      have e1 : pick17 n1 b1 0 - 2 + 12 = pick17 n1 b1 0 + 10 := by omega
      rw [e1] at h
      exact h
    · simp only [if_neg e]
      rfl
section
variable {k : Nat → Int} (hk : Quarters k)
theorem quar_at {a : Int} (h0 : -2 ≤ a) (h1 : a ≤ 26) : isFin (qw a) = true ∧ qw a < 4294967296 ∧ qw a = hw (8 * a) ∧ fdiv .f32 (fadd .f32 0 (qw a)) 1065353216 = qw a := by
  have h := allI_at quar_ok (k := a) h0 (by omega)
  simp only [Bool.and_eq_true] at h
  exact ⟨h.1, by simpa [Nat.blt_eq] using h.2.1, Nat.eq_of_beq_eq_true h.2.2.1, Nat.eq_of_beq_eq_true h.2.2.2⟩
theorem isList_q {x : Nat → Nat} {N : Nat} (hk : Quarters k) (hx : ∀ i, x i = qw (k i)) (h5 : 5 ≤ N) (h20 : N ≤ 20) : isList N x = true := by
  unfold isList
  rw [Bool.and_eq_true, Bool.and_eq_true, decide_eq_true_eq, decide_eq_true_eq]
  refine ⟨allN_true fun j hj => ?_, by omega, by omega⟩
  rw [hx]
  exact (quar_at (hk.lo j) (hk.hi j)).1
theorem line_at {N : Nat} (h5 : 5 ≤ N) (h20 : N ≤ 20) : okCurve N lineS = true ∧ okAt N lineS 1056964608 1065353216 ((N : Int) - 1) = true := by
  have h := List.all_eq_true.1 line_ok (N - 5) (List.mem_range.2 (by omega))
  rw [show N - 5 + 5 = N by omega, Bool.and_eq_true] at h
  exact h
theorem c1_at {N i : Nat} (h5 : 5 ≤ N) (h20 : N ≤ 20) (hi : i < N) : fgt .f64 (gapF (wd (curveX N lineS i)) (wd (lineS i))) milD = false := by
  have h := List.all_eq_true.1 line_c1 (N - 5) (List.mem_range.2 (by omega))
  rw [show N - 5 + 5 = N by omega] at h
  simpa using List.all_eq_true.1 h i (List.mem_range.2 hi)
theorem c5_at {N i : Nat} (h5 : 5 ≤ N) (h20 : N ≤ 20) (hi : i < N - 1) : fgt .f64 (gapF (wd (stepsAt N lineS 1056964608 1065353216 i)) (fadd .f64 (wd (lineS i)) 4593671619917905920)) milD = false := by
  have h := List.all_eq_true.1 line_c5 (N - 5) (List.mem_range.2 (by omega))
  rw [show N - 5 + 5 = N by omega, show N - 5 + 4 = N - 1 by omega] at h
  simpa using List.all_eq_true.1 h i (List.mem_range.2 hi)
/-! Sums. -/
def sumK (k : Nat → Int) : Nat → Int
  | 0 => 0
  | i + 1 => sumK k i + k i
theorem sumK_in (hk : Quarters k) : ∀ i : Nat, -2 * (i : Int) ≤ sumK k i ∧ sumK k i ≤ 14 * (i : Int) + 12
  | 0 => by simp [sumK]
  | i + 1 => by
    obtain ⟨h1, h2⟩ := sumK_in hk i
    have h3 := hk.lo i
    unfold sumK
    refine ⟨by omega, ?_⟩
    by_cases e : i = 0
    · subst e
      have h4 := hk.hi 0
      have : sumK k 0 = 0 := rfl
      omega
    · have h4 := hk.rest i (by omega)
      omega
theorem zero_ok : allI (-2) 29 (fun k => Nat.beq (fadd .f32 0 (qw k)) (qw k) && Nat.beq (fadd .f64 0 (wd (qw k))) (wd (qw k))) = true := by decide +kernel
theorem qw0 : qw 0 = 0 ∧ wd (qw 0) = 0 := by decide +kernel
theorem sumq_at {a p : Int} (h0 : -40 ≤ a) (h1 : a < 300) (h2 : -2 ≤ p) (h3 : p ≤ 14) : fadd .f32 (qw a) (qw p) = qw (a + p) := by
  by_cases h : a < 130
  · exact Nat.eq_of_beq_eq_true (allI_at (allI_at sumq_a (k := a) h0 (by omega)) (k := p) h2 (by omega))
  · exact Nat.eq_of_beq_eq_true (allI_at (allI_at sumq_b (k := a) (by omega) (by omega)) (k := p) h2 (by omega))
theorem sumd_at {a p : Int} (h0 : -40 ≤ a) (h1 : a < 300) (h2 : -2 ≤ p) (h3 : p ≤ 14) : fadd .f64 (wd (qw a)) (wd (qw p)) = wd (qw (a + p)) := by
  by_cases h : a < 45
  · exact Nat.eq_of_beq_eq_true (allI_at (allI_at sumd_a (k := a) h0 (by omega)) (k := p) h2 (by omega))
  by_cases h' : a < 130
  · exact Nat.eq_of_beq_eq_true (allI_at (allI_at sumd_b (k := a) (by omega) (by omega)) (k := p) h2 (by omega))
  by_cases h'' : a < 215
  · exact Nat.eq_of_beq_eq_true (allI_at (allI_at sumd_c (k := a) (by omega) (by omega)) (k := p) h2 (by omega))
  · exact Nat.eq_of_beq_eq_true (allI_at (allI_at sumd_d (k := a) (by omega) (by omega)) (k := p) h2 (by omega))
theorem sums_q {x : Nat → Nat} (hk : Quarters k) (hx : ∀ i, x i = qw (k i)) : ∀ i : Nat, i ≤ 20 → sumN x i = qw (sumK k i) ∧ sum64 x i = wd (qw (sumK k i))
  | 0, _ => ⟨qw0.1.symm, qw0.2.symm⟩
  | i + 1, hi => by
    obtain ⟨h1, h2⟩ := sums_q hk hx i (by omega)
    obtain ⟨b1, b2⟩ := sumK_in hk i
    unfold sumN sum64 sumK
    rw [h1, h2, hx]
    by_cases e : i = 0
    · subst e
      have h := allI_at zero_ok (k := k 0) (hk.lo 0) (by have := hk.hi 0; omega)
      rw [Bool.and_eq_true] at h
      have e0 : sumK k 0 = 0 := rfl
      rw [e0, qw0.1, Int.zero_add]
      refine ⟨Nat.eq_of_beq_eq_true h.1, ?_⟩
      have := Nat.eq_of_beq_eq_true h.2
      rw [show wd 0 = 0 from qw0.1 ▸ qw0.2]
      exact this
    · have h4 := hk.rest i (by omega)
      exact ⟨sumq_at (by omega) (by omega) (hk.lo i) h4, sumd_at (by omega) (by omega) (hk.lo i) h4⟩
end
end Go.Proofs.Ythfgigndipjbjaa
set_option linter.unusedSimpArgs false
set_option linter.unusedVariables false
set_option maxRecDepth 100000
namespace Go.Proofs.Ythfgigndipjbjaa
open Go.Aw
section
variable {k : Nat → Int} {x : Nat → Nat} {N : Nat}
theorem itof_one : itof .f32 1 = 1065353216 := by decide +kernel
theorem mean0_at (hk : Quarters k) (hx : ∀ i, x i = qw (k i)) {i : Nat} (hi : i < N) : meanX N x 0 i = x i := by
  have e1 : loM 0 i = (i : Int) := by unfold loM; split <;> omega
  have e2 : hiM N 0 i = (i : Int) + 1 := by unfold hiM; split <;> omega
  unfold meanX
  rw [e1, e2, show ((i : Int) + 1 - (i : Int)).toNat = 1 by omega, show ((1 : Nat) : Int) = 1 from rfl, itof_one]
  show fdiv .f32 (fadd .f32 0 (x ((i : Int).toNat + 0))) 1065353216 = _
  rw [Int.toNat_natCast, Nat.add_zero, hx]
  exact (quar_at (hk.lo i) (hk.hi i)).2.2.2
theorem meanN_at {i : Nat} (hi : i < N) : meanX N x N i = fdiv .f32 (sumN x N) (itof .f32 (N : Int)) := by
  have e1 : loM (N : Int) i = 0 := by unfold loM; split <;> omega
  have e2 : hiM N (N : Int) i = (N : Int) := by unfold hiM; split <;> omega
  unfold meanX
  rw [e1, e2, show ((N : Int) - 0).toNat = N by omega]
  have e3 : (fun j => x ((0 : Int).toNat + j)) = x := by
    funext j
    rw [show (0 : Int).toNat = 0 from rfl, Nat.zero_add]
  rw [e3]
theorem wide_at (h5 : 5 ≤ N) (h20 : N ≤ 20) {a : Int} (h0 : -2 * (N : Int) ≤ a) (h1 : a ≤ 14 * (N : Int) + 12) : isFin (fdiv .f32 (qw a) (itof .f32 (N : Int))) = true ∧ fgt .f64 (gapF (fmul .f64 (wd (fdiv .f32 (qw a) (itof .f32 (N : Int)))) (itof .f64 (N : Int))) (wd (qw a))) centD = false := by
  have h : wideT N = true := by
    by_cases h : N < 11
    · have := List.all_eq_true.1 wide_a (N - 5) (List.mem_range.2 (by omega))
      rwa [show N - 5 + 5 = N by omega] at this
    by_cases h' : N < 15
    · have := List.all_eq_true.1 wide_b (N - 11) (List.mem_range.2 (by omega))
      rwa [show N - 11 + 11 = N by omega] at this
    by_cases h'' : N < 18
    · have := List.all_eq_true.1 wide_c (N - 15) (List.mem_range.2 (by omega))
      rwa [show N - 15 + 15 = N by omega] at this
    · have := List.all_eq_true.1 wide_d (N - 18) (List.mem_range.2 (by omega))
      rwa [show N - 18 + 18 = N by omega] at this
  unfold wideT at h
  have h := allI_at h (k := a) h0 (by omega)
  rw [Bool.and_eq_true, Bool.not_eq_true'] at h
  exact h
theorem mean_ok0 (hk : Quarters k) (hx : ∀ i, x i = qw (k i)) (h5 : 5 ≤ N) (h20 : N ≤ 20) : okMean N x 0 = true := by
  unfold okMean preMean
  rw [isList_q hk hx h5 h20]
  have : finN N (meanX N x 0) = true := allN_true fun j hj => by
    rw [mean0_at hk hx hj, hx]
    exact (quar_at (hk.lo j) (hk.hi j)).1
  rw [this]
  rfl
theorem mean_okN (hk : Quarters k) (hx : ∀ i, x i = qw (k i)) (h5 : 5 ≤ N) (h20 : N ≤ 20) : okMean N x N = true := by
  obtain ⟨b1, b2⟩ := sumK_in hk N
  unfold okMean preMean
  rw [isList_q hk hx h5 h20, decide_eq_true (show (0 : Int) ≤ (N : Int) by omega), decide_eq_true (show (N : Int) ≤ 128 by omega)]
  have : finN N (meanX N x N) = true := allN_true fun j hj => by
    rw [meanN_at hj, (sums_q hk hx N h20).1]
    exact (wide_at h5 h20 b1 b2).1
  rw [this]
  rfl
theorem c4_at (hk : Quarters k) (hx : ∀ i, x i = qw (k i)) (h5 : 5 ≤ N) (h20 : N ≤ 20) {i : Nat} (hi : i < N) : fgt .f64 (gapF (fmul .f64 (wd (meanX N x N i)) (itof .f64 (N : Int))) (sum64 x N)) centD = false := by
  obtain ⟨b1, b2⟩ := sumK_in hk N
  rw [meanN_at hi, (sums_q hk hx N h20).1, (sums_q hk hx N h20).2]
  exact (wide_at h5 h20 b1 b2).2
/-! The list at its own places. -/
theorem same_at (hk : Quarters k) (hx : ∀ i, x i = qw (k i)) (h5 : 5 ≤ N) (h20 : N ≤ 20) {i : Nat} (hi : i < N) : stepsAt N x 0 1065353216 i = x i := by
  have h := List.all_eq_true.1 place_ok (N - 5) (List.mem_range.2 (by omega))
  rw [show N - 5 + 5 = N by omega] at h
  have h := List.all_eq_true.1 h i (List.mem_range.2 hi)
  simp only [Bool.and_eq_true, decide_eq_true_eq] at h
  obtain ⟨h1, h2, h3⟩ := h
  have h3 := Nat.eq_of_beq_eq_true h3
  by_cases hlt : (i : Int) < (N : Int) - 1
  · rw [at_in h1 h2 hlt, show placeI 0 1065353216 (i : Int) = placeX 0 1065353216 i from rfl, h3, show ((i : Int) + 1).toNat = i + 1 by omega, hx, hx]
    exact Nat.eq_of_beq_eq_true (allI_at (allI_at stay_ok (k := k i) (hk.lo i) (by have := hk.hi i; omega)) (k := k (i + 1)) (hk.lo _) (by have := hk.rest (i + 1) (by omega); omega))
  · rw [at_last h1 h2 hlt]
theorem at1_ok (hk : Quarters k) (hx : ∀ i, x i = qw (k i)) (h5 : 5 ≤ N) (h20 : N ≤ 20) : okAt N x 0 1065353216 N = true := by
  unfold okAt preAt
  rw [isList_q hk hx h5 h20, decide_eq_true (show (1 : Int) ≤ (N : Int) by omega), decide_eq_true (show (N : Int) ≤ 128 by omega), show isFin 0 = true by decide +kernel, show isFin 1065353216 = true by decide +kernel, Int.toNat_natCast]
  have : finN N (stepsAt N x 0 1065353216) = true := allN_true fun j hj => by
    rw [same_at hk hx h5 h20 hj, hx]
    exact (quar_at (hk.lo j) (hk.hi j)).1
  rw [this]
  rfl
theorem shift_at (h5 : 5 ≤ N) (h20 : N ≤ 20) {d : Int} (h0 : -2 ≤ d) (h1 : d ≤ 2) : okShift N (peakS N) d = true ∧ isList N (shiftX N (peakS N) d) = true ∧ (bestB N (peakS N) (shiftX N (peakS N) d) 4).1 = d := by
  have h : shiftT d = true := by
    obtain rfl | rfl | rfl | rfl | rfl : d = -2 ∨ d = -1 ∨ d = 0 ∨ d = 1 ∨ d = 2 := by omega
    · exact shift_m2
    · exact shift_m1
    · exact shift_0
    · exact shift_1
    · exact shift_2
  unfold shiftT at h
  have h := List.all_eq_true.1 h (N - 5) (List.mem_range.2 (by omega))
  rw [show N - 5 + 5 = N by omega] at h
  simp only [Bool.and_eq_true, decide_eq_true_eq] at h
  exact h
end
end Go.Proofs.Ythfgigndipjbjaa
set_option linter.unusedSimpArgs false
set_option linter.unusedVariables false
set_option maxRecDepth 100000
namespace Go.Proofs.Ythfgigndipjbjaa
open Go.Aw
/-- The base in thirty-seconds. -/
def baseK (n : Nat) (k : Nat → Int) : Nat → Nat → Int
  | 0, i => 8 * k i
  | r + 1, i => if 1 ≤ i ∧ i + 1 < n ∧ baseK n k r (i - 1) + baseK n k r (i + 1) < 2 * baseK n k r i then (baseK n k r (i - 1) + baseK n k r (i + 1)) / 2 else baseK n k r i
section
variable {k : Nat → Int} {x : Nat → Nat} {N : Nat}
/-- What a round keeps: bounds, and evenness enough for the rounds left. -/
theorem baseK_in (hk : Quarters k) : ∀ (r : Nat), r ≤ 3 → ∀ i, -16 ≤ baseK N k r i ∧ baseK N k r i ≤ 8 * k i ∧ (2 ^ (3 - r) : Int) ∣ baseK N k r i := by
  intro r
  induction r with
  | zero =>
    intro _ i
    have := hk.lo i
    exact ⟨by unfold baseK; omega, by unfold baseK; omega, by unfold baseK; exact ⟨k i, rfl⟩⟩
  | succ r ih =>
    intro hr i
    have ih := ih (by omega)
    obtain ⟨a1, a2, a3⟩ := ih (i - 1)
    obtain ⟨b1, b2, b3⟩ := ih i
    obtain ⟨c1, c2, c3⟩ := ih (i + 1)
    unfold baseK
    obtain rfl | rfl | rfl : r = 0 ∨ r = 1 ∨ r = 2 := by omega
    all_goals
      simp only [Nat.reduceSub, Nat.reduceAdd] at a3 b3 c3 ⊢
      split <;> refine ⟨by omega, by omega, by omega⟩
theorem half_at {a b : Int} (h0 : -8 ≤ a) (h1 : a ≤ 104) (h2 : -8 ≤ b) (h3 : b ≤ 56) : fmul .f32 1056964608 (fadd .f32 (hw (2 * a)) (hw (2 * b))) = hw (a + b) := by
  by_cases h : a < 49
  · exact Nat.eq_of_beq_eq_true (allI_at (allI_at half_a (k := a) h0 (by omega)) (k := b) h2 (by omega))
  · exact Nat.eq_of_beq_eq_true (allI_at (allI_at half_b (k := a) (by omega) (by omega)) (k := b) h2 (by omega))
theorem less_at {a b : Int} (h0 : -16 ≤ a) (h1 : a ≤ 160) (h2 : -8 ≤ b) (h3 : b ≤ 56) : flt .f32 (hw a) (hw (2 * b)) = decide (a < 2 * b) := by
  by_cases h : a < 43
  · exact eq_of_beq (allI_at (allI_at less_a (k := a) h0 (by omega)) (k := b) h2 (by omega))
  by_cases h' : a < 102
  · exact eq_of_beq (allI_at (allI_at less_b (k := a) (by omega) (by omega)) (k := b) h2 (by omega))
  · exact eq_of_beq (allI_at (allI_at less_c (k := a) (by omega) (by omega)) (k := b) h2 (by omega))
theorem base_q (hk : Quarters k) (hx : ∀ i, x i = qw (k i)) : ∀ (r : Nat), r ≤ 3 → ∀ i, baseN N x r i = hw (baseK N k r i) := by
  intro r
  induction r with
  | zero =>
    intro _ i
    show x i = hw (8 * k i)
    rw [hx]
    exact (quar_at (hk.lo i) (hk.hi i)).2.2.1
  | succ r ih =>
    intro hr i
    have ih := ih (by omega)
    have kin := fun i => baseK_in (N := N) hk r (by omega) i
    show stepX N (baseN N x r) i = _
    unfold stepX halfX baseK
    by_cases h1 : 1 ≤ i
    · by_cases h2 : i + 1 < N
      · obtain ⟨a1, a2, a3⟩ := kin (i - 1)
        obtain ⟨b1, b2, b3⟩ := kin i
        obtain ⟨c1, c2, c3⟩ := kin (i + 1)
        have ka := hk.hi (i - 1)
        have kb := hk.rest i h1
        have kc := hk.rest (i + 1) (by omega)
        have two : ∀ z : Int, (2 ^ (3 - r) : Int) ∣ z → ∃ y, z = 2 * y := by
          intro z hz
          obtain rfl | rfl | rfl : r = 0 ∨ r = 1 ∨ r = 2 := by omega
          all_goals
            simp only [Nat.reduceSub] at hz
            exact ⟨z / 2, by omega⟩
        obtain ⟨a, ha⟩ := two _ a3
        obtain ⟨b, hb⟩ := two _ b3
        obtain ⟨c, hc⟩ := two _ c3
        rw [ih (i - 1), ih i, ih (i + 1), ha, hb, hc, half_at (by omega) (by omega) (by omega) (by omega), less_at (by omega) (by omega) (by omega) (by omega), decide_eq_true h1, decide_eq_true h2]
        by_cases h3 : a + c < 2 * b
        · rw [decide_eq_true h3, if_pos ⟨h1, h2, by omega⟩]
          show hw (a + c) = hw ((2 * a + 2 * c) / 2)
          congr 1
          omega
        · rw [decide_eq_false h3, if_neg (fun h => h3 (by omega))]
          rfl
      · rw [decide_eq_false h2, if_neg (fun h => h2 h.2.1), Bool.false_and, Bool.and_false]
        exact ih i
    · rw [decide_eq_false h1, if_neg (fun h => h1 h.1), Bool.false_and]
      exact ih i
theorem left_at (hk : Quarters k) (i : Nat) : leftT (k i) (baseK N k 3 i) = true := by
  obtain ⟨b1, b2, _⟩ := baseK_in (N := N) hk 3 (Nat.le_refl _) i
  have k0 := hk.lo i
  by_cases h : i = 0
  · subst h
    have e : ∀ r, baseK N k r 0 = 8 * k 0 := by
      intro r
      induction r with
      | zero => rfl
      | succ r ih => unfold baseK; rw [if_neg (fun h => by omega)]; exact ih
    rw [e]
    exact allI_at left_0 (k := k 0) hk.first (by have := hk.hi 0; omega)
  · have k1 := hk.rest i (by omega)
    have fin : ∀ {z : Bool}, (!decide (baseK N k 3 i ≤ 8 * k i) || z) = true → z = true := by
      intro z hz
      rw [decide_eq_true b2] at hz
      simpa using hz
    by_cases h7 : k i < 7
    · exact fin (allI_at (allI_at left_a (k := k i) k0 (by omega)) (k := baseK N k 3 i) b1 (by omega))
    by_cases h11 : k i < 11
    · exact fin (allI_at (allI_at left_b (k := k i) (by omega) (by omega)) (k := baseK N k 3 i) b1 (by omega))
    · exact fin (allI_at (allI_at left_c (k := k i) (by omega) (by omega)) (k := baseK N k 3 i) b1 (by omega))
theorem base_all (hk : Quarters k) (hx : ∀ i, x i = qw (k i)) (h5 : 5 ≤ N) (h20 : N ≤ 20) : okBase N x 3 = true ∧ okLess N x 3 = true ∧ (∀ i, i < N → baseN N x 3 i < 4294967296) ∧ (∀ i, i < N → fgt .f32 (baseN N x 3 i) (x i) = false) ∧ (∀ i, i < N → fgt .f64 (gapF (wd (lessX N x 3 i)) (fsub .f64 (wd (x i)) (wd (baseN N x 3 i)))) milD = false) := by
  have hl : ∀ i, (isFin (fsub .f32 (x i) (baseN N x 3 i)) = true) ∧ isFin (baseN N x 3 i) = true ∧ baseN N x 3 i < 4294967296 ∧ fgt .f32 (baseN N x 3 i) (x i) = false ∧ fgt .f64 (gapF (wd (fsub .f32 (x i) (baseN N x 3 i))) (fsub .f64 (wd (x i)) (wd (baseN N x 3 i)))) milD = false := by
    intro i
    have h := left_at (N := N) hk i
    unfold leftT at h
    rw [base_q hk hx 3 (Nat.le_refl _) i, hx]
    simp only [Bool.and_eq_true, Bool.not_eq_true', Nat.blt_eq] at h
    exact ⟨h.1, h.2.1, h.2.2.1, h.2.2.2.1, h.2.2.2.2⟩
  have hb : okBase N x 3 = true := by
    unfold okBase
    rw [isList_q hk hx h5 h20]
    have : finN N (baseN N x (Int.toNat 3)) = true := allN_true fun j _ => (hl j).2.1
    rw [this]
    rfl
  refine ⟨hb, ?_, fun i _ => (hl i).2.2.1, fun i _ => (hl i).2.2.2.1, fun i _ => (hl i).2.2.2.2⟩
  unfold okLess
  rw [hb]
  exact allN_true fun j _ => (hl j).1
end
end Go.Proofs.Ythfgigndipjbjaa
set_option linter.unusedSimpArgs false
set_option linter.unusedVariables false
set_option maxRecDepth 100000
namespace Go.Proofs.Ythfgigndipjbjaa
open Go.Aw
def sc (m k : Int) : Nat := gapF (wd (fdiv .f32 (qw k) (qw m))) 0
def mx (a b : Int) : Int := if a < b then b else a
def ab (a : Int) : Int := if a < 0 then -a else a
theorem mag_ok : allI (-2) 29 (fun k => Nat.beq (magF (qw k)) (qw (ab k))) = true := by decide +kernel
theorem max_ok : allI 0 27 (fun a => allI 0 27 fun b => Nat.beq (fmax .f32 (qw a) (qw b)) (qw (mx a b))) = true := by decide +kernel
/-- The kernel hands a number on as a literal. -/
def frc (x : Nat) (f : Nat → Bool) : Bool := match x with
  | 0 => f 0
  | n + 1 => f (n + 1)
theorem frc_eq (x : Nat) (f : Nat → Bool) : frc x f = f x := by cases x <;> rfl
def frcL : List Nat → (List Nat → Bool) → Bool
  | [], f => f []
  | x :: l, f => frc x fun a => frcL l fun r => f (a :: r)
theorem frcL_eq : ∀ (l : List Nat) (f : List Nat → Bool), frcL l f = f l
  | [], _ => rfl
  | x :: l, f => by unfold frcL; rw [frc_eq, frcL_eq l]
def scL (m : Int) (n : Nat) : List Nat := (List.range n).map fun (j : Nat) => sc m (j : Int)
def scT (a : Int) (n : Nat) : Bool := allI a n fun m => (!feq .f32 (qw m) 0 && (Nat.beq (sc m 0) 0 && (Nat.beq (sc m m) oneD && (Nat.beq (sc m (-1)) (sc m 1) && Nat.beq (sc m (-2)) (sc m 2))))) && (allI (-2) (m + 3).toNat (fun k => isFin (fdiv .f32 (qw k) (qw m))) && frcL (scL m (m + 1).toNat) fun L => allI 0 (m + 1).toNat fun k => allI 0 (m + 1).toNat fun l => Nat.beq (fmax .f64 (L.getD k.toNat 0) (L.getD l.toNat 0)) (L.getD (mx k l).toNat 0))
theorem sc_a : scT 10 9 = true := by decide +kernel
theorem sc_b : scT 19 5 = true := by decide +kernel
theorem sc_c : scT 24 3 = true := by decide +kernel
theorem scL_at {m : Int} {n : Nat} {k : Int} (h0 : 0 ≤ k) (h1 : k < n) : (scL m n).getD k.toNat 0 = sc m k := by
  unfold scL
  rw [List.getD_eq_getElem?_getD, List.getElem?_map, List.getElem?_range (by omega)]
  simp only [Option.map_some, Option.getD_some]
  rw [show ((k.toNat : Nat) : Int) = k by omega]
theorem one_gap : fgt .f64 (gapF oneD oneD) milD = false := by decide +kernel
section
variable {k : Nat → Int} {x : Nat → Nat} {N : Nat}
theorem sc_at {m : Int} (h0 : 10 ≤ m) (h1 : m ≤ 26) : ((feq .f32 (qw m) 0 = false ∧ sc m 0 = 0 ∧ sc m m = oneD ∧ sc m (-1) = sc m 1 ∧ sc m (-2) = sc m 2)) ∧ (∀ a, -2 ≤ a → a ≤ m → isFin (fdiv .f32 (qw a) (qw m)) = true) ∧ ∀ a b, 0 ≤ a → a ≤ m → 0 ≤ b → b ≤ m → fmax .f64 (sc m a) (sc m b) = sc m (mx a b) := by
  have h : scT m 1 = true := by
    have one : ∀ {a : Int} {n : Nat}, scT a n = true → a ≤ m → m < a + n → scT m 1 = true := by
      intro a n ht h2 h3
      unfold scT at ht ⊢
      have := allI_at ht h2 h3
      unfold allI
      simp only [List.range_succ, List.range_zero, List.nil_append, List.all_cons, List.all_nil, Bool.and_true, Int.natCast_zero, Int.add_zero]
      exact this
    by_cases h : m < 19
    · exact one sc_a h0 (by omega)
    by_cases h' : m < 24
    · exact one sc_b (by omega) (by omega)
    · exact one sc_c (by omega) (by omega)
  have h := allI_at h (k := m) (by omega) (by omega)
  simp only [Bool.and_eq_true, Bool.not_eq_true'] at h
  obtain ⟨⟨a1, a2, a3, a4, a5⟩, a6, a7⟩ := h
  refine ⟨⟨a1, Nat.eq_of_beq_eq_true a2, Nat.eq_of_beq_eq_true a3, Nat.eq_of_beq_eq_true a4, Nat.eq_of_beq_eq_true a5⟩, fun a b1 b2 => allI_at a6 b1 (by omega), fun a b b1 b2 b3 b4 => ?_⟩
  rw [frcL_eq] at a7
  have h8 := Nat.eq_of_beq_eq_true (allI_at (allI_at a7 (k := a) b1 (by omega)) (k := b) b3 (by omega))
  have hm : 0 ≤ mx a b ∧ mx a b ≤ m := by unfold mx; split <;> omega
  rw [scL_at b1 (by omega), scL_at b3 (by omega), scL_at hm.1 (by omega)] at h8
  exact h8
/-- The greatest so far. -/
def mxK (k : Nat → Int) : Nat → Int
  | 0 => 0
  | i + 1 => mx (mxK k i) (ab (k i))
theorem mxK_in (hk : Quarters k) : ∀ i : Nat, 0 ≤ mxK k i ∧ mxK k i ≤ 26 ∧ (1 ≤ i → 10 ≤ mxK k i)
  | 0 => by simp [mxK]
  | i + 1 => by
    obtain ⟨h1, h2, h3⟩ := mxK_in hk i
    have a0 := hk.lo i
    have a1 := hk.hi i
    have a2 := hk.first
    unfold mxK mx ab
    by_cases e : i = 0
    · subst e
      refine ⟨?_, ?_, fun _ => ?_⟩ <;> (split <;> split at * <;> omega)
    · have := h3 (by omega)
      refine ⟨?_, ?_, fun _ => ?_⟩ <;> (split <;> split at * <;> omega)
theorem mostN_q (hk : Quarters k) (hx : ∀ i, x i = qw (k i)) : ∀ i : Nat, mostN x i = qw (mxK k i)
  | 0 => qw0.1.symm
  | i + 1 => by
    obtain ⟨h1, h2, _⟩ := mxK_in hk i
    have a0 := hk.lo i
    have a1 := hk.hi i
    unfold mostN mxK
    rw [mostN_q hk hx i, hx, Nat.eq_of_beq_eq_true (allI_at mag_ok (k := k i) a0 (by omega))]
    have hab : 0 ≤ ab (k i) ∧ ab (k i) ≤ 26 := by unfold ab; split <;> omega
    exact Nat.eq_of_beq_eq_true (allI_at (allI_at max_ok (k := mxK k i) h1 (by omega)) (k := ab (k i)) hab.1 (by omega))
theorem mxK_mono (k : Nat → Int) (i : Nat) : mxK k i ≤ mxK k (i + 1) ∧ ab (k i) ≤ mxK k (i + 1) := by
  show mxK k i ≤ mx _ _ ∧ ab (k i) ≤ mx _ _
  unfold mx
  split <;> omega
theorem mxK_le (k : Nat → Int) {i n : Nat} (h : i ≤ n) : mxK k i ≤ mxK k n := by
  induction n with
  | zero => rw [show i = 0 by omega]; exact Int.le_refl _
  | succ n ih =>
    rcases Nat.lt_or_eq_of_le h with h | rfl
    · exact Int.le_trans (ih (by omega)) (mxK_mono k n).1
    · exact Int.le_refl _
theorem most_q (hk : Quarters k) (hx : ∀ i, x i = qw (k i)) (h5 : 5 ≤ N) : ∀ i : Nat, i ≤ N → most64 (overX x (mostN x N)) i = sc (mxK k N) (mxK k i) := by
  obtain ⟨m1, m2, m3⟩ := mxK_in hk N
  obtain ⟨⟨s1, s2, s3, s4, s5⟩, _, s6⟩ := sc_at (m3 (by omega)) m2
  intro i
  induction i with
  | zero => intro _; exact s2.symm
  | succ i ih =>
    intro hi
    obtain ⟨i1, i2, _⟩ := mxK_in hk i
    have l1 := mxK_le k (show i ≤ N by omega)
    have l2 := Int.le_trans (mxK_mono k i).2 (mxK_le k hi)
    have a0 := hk.lo i
    unfold most64
    rw [ih (by omega)]
    have e : gapF (wd (overX x (mostN x N) i)) 0 = sc (mxK k N) (ab (k i)) := by
      unfold overX
      rw [mostN_q hk hx, hx]
      show sc (mxK k N) (k i) = _
      unfold ab
      by_cases h : k i < 0
      · rw [if_pos h]
        obtain h | h : k i = -1 ∨ k i = -2 := by omega
        · rw [h]; exact s4
        · rw [h]; exact s5
      · rw [if_neg h]
    rw [e]
    exact s6 _ _ i1 l1 (by unfold ab; split <;> omega) l2
theorem scaled_all (hk : Quarters k) (hx : ∀ i, x i = qw (k i)) (h5 : 5 ≤ N) (h20 : N ≤ 20) : okScaled N x = true ∧ fgt .f64 (gapF (most64 (overX x (mostN x N)) N) oneD) milD = false := by
  obtain ⟨m1, m2, m3⟩ := mxK_in hk N
  obtain ⟨⟨s1, s2, s3, _, _⟩, s5, _⟩ := sc_at (m3 (by omega)) m2
  constructor
  · unfold okScaled preScaled
    rw [isList_q hk hx h5 h20, mostN_q hk hx, s1]
    have : finN N (overX x (qw (mxK k N))) = true := allN_true fun j hj => by
      unfold overX
      rw [hx]
      refine s5 _ (hk.lo j) ?_
      have l2 := Int.le_trans (mxK_mono k j).2 (mxK_le k (show j + 1 ≤ N by omega))
      unfold ab at l2
      split at l2 <;> omega
    rw [this]
    rfl
  · rw [most_q hk hx h5 N (Nat.le_refl _), s3]
    exact one_gap
end
end Go.Proofs.Ythfgigndipjbjaa
