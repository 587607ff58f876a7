/- Phases drawn in quarters: what turning, turning back and their mean answer, for every draw. -/
import Derived.Test.YtjkibcdmpjppbaaUna
import Derived.Test.YtjkibcdmpjppbaaUnb
import Derived.Test.YtjkibcdmpjppbaaUnc
set_option linter.unusedSimpArgs false
set_option linter.unusedVariables false
set_option maxRecDepth 100000
namespace Go.Proofs.Ytjkibcdmpjppbaa
open Go.Aw
theorem gAll_of {l : List Six} (h : ∀ k (hk : k < l.length), gAll [l[k]] = true) : ∀ z ∈ l, gAll [z] = true := by
  intro z hz
  obtain ⟨k, hk, rfl⟩ := List.mem_iff_getElem.1 hz
  exact h k hk
theorem gAllA : ∀ z ∈ sixA, gAll [z] = true := gAll_of fun k hk => by
  match k, hk with
  | 0, _ => exact gA0
  | 1, _ => exact gA1
  | 2, _ => exact gA2
  | 3, _ => exact gA3
  | 4, _ => exact gA4
  | 5, _ => exact gA5
  | k + 6, hk => exact absurd hk (Nat.not_lt.2 (Nat.le_add_left 6 k))
theorem gAllB : ∀ z ∈ sixB, gAll [z] = true := gAll_of fun k hk => by
  match k, hk with
  | 0, _ => exact gB0
  | 1, _ => exact gB1
  | 2, _ => exact gB2
  | 3, _ => exact gB3
  | 4, _ => exact gB4
  | 5, _ => exact gB5
  | k + 6, hk => exact absurd hk (Nat.not_lt.2 (Nat.le_add_left 6 k))
theorem gAllC : ∀ z ∈ sixC, gAll [z] = true := gAll_of fun k hk => by
  match k, hk with
  | 0, _ => exact gC0
  | 1, _ => exact gC1
  | 2, _ => exact gC2
  | 3, _ => exact gC3
  | 4, _ => exact gC4
  | 5, _ => exact gC5
  | k + 6, hk => exact absurd hk (Nat.not_lt.2 (Nat.le_add_left 6 k))
theorem gAll_in {z : Six} (hz : z ∈ sixA ++ sixB ++ sixC) : gAll [z] = true := by
  rw [List.mem_append, List.mem_append] at hz
  rcases hz with (h | h) | h
  · exact gAllA z h
  · exact gAllB z h
  · exact gAllC z h
theorem quart_in {p : Int} (h0 : 0 ≤ p) (h9 : p < 9) : quartF p ∈ quartL ∧ isFin (quartF p) = true := by
  obtain ⟨n, rfl⟩ := Int.eq_ofNat_of_zero_le h0
  have h := List.all_eq_true.1 quart_ok n (List.mem_range.2 (by omega))
  rw [Bool.and_eq_true] at h
  obtain ⟨y, hy, e⟩ := List.any_eq_true.1 h.1
  rw [Nat.eq_of_beq_eq_true e] at h ⊢
  exact ⟨hy, h.2⟩
/-- One phase that is turned and turned back. -/
theorem turn_in {a : Int} (h0 : 0 ≤ a) (h17 : a < 17) : isFin (tq a) = true ∧ isFin (fneg .f32 (tq a)) = true ∧ ∀ i, i < 8 → Cl (turnP (tq a) i) 51 ∧ Cl (turnP (fneg .f32 (tq a)) i) 51 ∧
    ∀ x ∈ quartL, ∀ y ∈ quartL, gd x y (phC (turnP (tq a) i)) (phS (turnP (tq a) i)) (phC (turnP (fneg .f32 (tq a)) i)) (phS (turnP (fneg .f32 (tq a)) i)) = true := by
  obtain ⟨n, rfl⟩ := Int.eq_ofNat_of_zero_le h0
  have h := List.all_eq_true.1 turns_ok n (List.mem_range.2 (by omega))
  rw [Bool.and_eq_true, Bool.and_eq_true] at h
  obtain ⟨⟨h1, h2⟩, h3⟩ := h
  refine ⟨h1, h2, fun i hi => ?_⟩
  have h4 := List.all_eq_true.1 h3 i (List.mem_range.2 hi)
  rw [Bool.and_eq_true, Bool.and_eq_true] at h4
  obtain ⟨h5, h6, h7⟩ := h4
  refine ⟨clB_cl h5, clB_cl h6, ?_⟩
  unfold inSix at h7
  obtain ⟨z, hz, e⟩ := List.any_eq_true.1 h7
  rw [Bool.and_eq_true] at e
  have e1 := Nat.eq_of_beq_eq_true e.1
  have e2 := Nat.eq_of_beq_eq_true e.2
  have h8 := List.all_eq_true.1 six_ok z hz
  rw [Bool.and_eq_true] at h8
  obtain ⟨c1, s1⟩ := memT_ph h8.1 e1
  obtain ⟨c2, s2⟩ := memT_ph h8.2 e2
  rw [c1, s1, c2, s2]
  have h9 := gAll_in hz
  unfold gAll at h9
  have h10 := List.all_eq_true.1 h9 z (List.mem_singleton.2 rfl)
  intro x hx y hy
  exact List.all_eq_true.1 (List.all_eq_true.1 h10 x hx) y hy
theorem still_in {i : Nat} (hi : i < 8) : Cl (turnP 0 i) 51 ∧ phC (turnP 0 i) = 1065353216 ∧ phS (turnP 0 i) = 0 := by
  have h := List.all_eq_true.1 still_ok i (List.mem_range.2 hi)
  rw [Bool.and_eq_true] at h
  have h1 : memT 0 1065353216 0 = true := by decide
  exact ⟨clB_cl h.1, memT_ph h1 (Nat.eq_of_beq_eq_true h.2)⟩
theorem fin0 : isFin 0 = true := by decide +kernel
/-! Sums of quarters, and their mean. -/
def sumW (k : Int) : Nat := fdiv .f32 (itof .f32 k) 1082130432
theorem sumW_ok : (List.range 65).all (fun k => (List.range 9).all fun p => Nat.beq (fadd .f32 (sumW ((k : Int) - 32)) (quartF (p : Int))) (sumW ((k : Int) - 32 + (p : Int) - 4))) = true := by decide +kernel
theorem sumW0 : sumW 0 = 0 := by decide +kernel
theorem sumW_in {f : Nat → Int} (hf : ∀ i, 0 ≤ f i ∧ f i < 9) : ∀ i : Nat, i ≤ 8 → ∃ k : Int, -(4 * (i : Int)) ≤ k ∧ k ≤ 4 * (i : Int) ∧ sumC (fun j => quartF (f j)) i = sumW k
  | 0, _ => ⟨0, by omega, by omega, sumW0.symm⟩
  | i + 1, hi => by
    obtain ⟨k, h1, h2, h3⟩ := sumW_in hf i (by omega)
    obtain ⟨h4, h5⟩ := hf i
    obtain ⟨p, hp⟩ := Int.eq_ofNat_of_zero_le h4
    obtain ⟨q, hq⟩ := Int.eq_ofNat_of_zero_le (show 0 ≤ k + 32 by omega)
    have h6 := List.all_eq_true.1 (List.all_eq_true.1 sumW_ok q (List.mem_range.2 (by omega))) p (List.mem_range.2 (by omega))
    have h7 := Nat.eq_of_beq_eq_true h6
    refine ⟨k + f i - 4, by omega, by omega, ?_⟩
    show fadd .f32 (sumC _ i) (quartF (f i)) = _
    rw [h3, hp]
    have e : k = (q : Int) - 32 := by omega
    rw [e]
    exact h7
/-- The mean times the count, less the sum. -/
def lessW (n : Nat) (k : Int) : Nat := fsub .f32 (fmul .f32 (fdiv .f32 (sumW k) (itof .f32 (n : Int))) (itof .f32 (n : Int))) (sumW k)
def tabL : List Nat := [0]
theorem lessW_ok : (List.range 8).all (fun n => (List.range (8 * (n + 1) + 1)).all fun k => isFin (fdiv .f32 (sumW ((k : Int) - 4 * ((n : Int) + 1))) (itof .f32 (((n + 1 : Nat)) : Int))) && memN tabL (lessW (n + 1) ((k : Int) - 4 * ((n : Int) + 1)))) = true := by decide +kernel
theorem tabL_ok : tabL.all (fun x => tabL.all fun y => okB (fsqrt .f64 (pw x y)) && flt .f64 (wd (f2f .f64 (fsqrt .f64 (pw x y)) .f32)) milD) = true := by decide +kernel
theorem lessW_in {n : Nat} {k : Int} (h1 : 1 ≤ n) (h8 : n ≤ 8) (ha : -(4 * (n : Int)) ≤ k) (hb : k ≤ 4 * (n : Int)) : isFin (fdiv .f32 (sumW k) (itof .f32 (n : Int))) = true ∧ lessW n k ∈ tabL := by
  obtain ⟨m, rfl⟩ : ∃ m, n = m + 1 := ⟨n - 1, by omega⟩
  obtain ⟨q, hq⟩ := Int.eq_ofNat_of_zero_le (show 0 ≤ k + 4 * ((m : Int) + 1) by omega)
  have h := List.all_eq_true.1 (List.all_eq_true.1 lessW_ok m (List.mem_range.2 (by omega))) q (List.mem_range.2 (by omega))
  rw [Bool.and_eq_true] at h
  have e : (q : Int) - 4 * ((m : Int) + 1) = k := by omega
  rw [e] at h
  obtain ⟨y, hy, e2⟩ := List.any_eq_true.1 h.2
  exact ⟨h.1, by rw [Nat.eq_of_beq_eq_true e2]; exact hy⟩
/-! All that the law asks for. -/
theorem allC_of {n : Nat} {x y : Nat → Nat} (h : ∀ i, i < n → isFin (x i) = true ∧ isFin (y i) = true) : allC n x y = true := allN_true fun j hj => by
  unfold finCC
  rw [(h j hj).1, (h j hj).2]
  rfl
theorem okTP_of {n : Nat} {x y : Nat → Nat} {t : Nat} (hn : n ≤ 128) (ht : isFin t = true) (h : ∀ i, i < n → isFin (x i) = true ∧ isFin (y i) = true) (h2 : ∀ i, i < n → isFin (tpRe x y t i) = true ∧ isFin (tpIm x y t i) = true) : okTP n x y t = true := by
  unfold okTP
  rw [allC_of h, allC_of h2, ht, decide_eq_true hn]
  rfl
def Q2 (x y : Nat → Nat) : Prop := ∀ i, (x i ∈ quartL ∧ isFin (x i) = true) ∧ (y i ∈ quartL ∧ isFin (y i) = true)
theorem gd_of {x y : Nat → Nat} (hq : Q2 x y) {a : Int} (h0 : 0 ≤ a) (h17 : a < 17) {i : Nat} (hi : i < 8) :
    f2fOk .f64 (tRe (x i) (y i) (phC (turnP (tq a) i)) (phS (turnP (tq a) i))) .f32 ∧ f2fOk .f64 (tIm (x i) (y i) (phC (turnP (tq a) i)) (phS (turnP (tq a) i))) .f32 ∧ (isFin (tpRe x y (tq a) i) = true ∧ isFin (tpIm x y (tq a) i) = true) ∧
    f2fOk .f64 (tRe (tpRe x y (tq a) i) (tpIm x y (tq a) i) (phC (turnP (fneg .f32 (tq a)) i)) (phS (turnP (fneg .f32 (tq a)) i))) .f32 ∧ f2fOk .f64 (tIm (tpRe x y (tq a) i) (tpIm x y (tq a) i) (phC (turnP (fneg .f32 (tq a)) i)) (phS (turnP (fneg .f32 (tq a)) i))) .f32 ∧
    (isFin (tpRe (tpRe x y (tq a)) (tpIm x y (tq a)) (fneg .f32 (tq a)) i) = true ∧ isFin (tpIm (tpRe x y (tq a)) (tpIm x y (tq a)) (fneg .f32 (tq a)) i) = true) ∧
    (f2fOk .f64 (longW (fsub .f32 (tpRe (tpRe x y (tq a)) (tpIm x y (tq a)) (fneg .f32 (tq a)) i) (x i)) (fsub .f32 (tpIm (tpRe x y (tq a)) (tpIm x y (tq a)) (fneg .f32 (tq a)) i) (y i))) .f32 ∧
      fgt .f64 (wd (longF (fsub .f32 (tpRe (tpRe x y (tq a)) (tpIm x y (tq a)) (fneg .f32 (tq a)) i) (x i)) (fsub .f32 (tpIm (tpRe x y (tq a)) (tpIm x y (tq a)) (fneg .f32 (tq a)) i) (y i)))) milD = false) ∧
    (f2fOk .f64 (longW (tpRe x y (tq a) i) (tpIm x y (tq a) i)) .f32 ∧ f2fOk .f64 (longW (x i) (y i)) .f32 ∧ fgt .f64 (gapF (wd (longF (tpRe x y (tq a) i) (tpIm x y (tq a) i))) (wd (longF (x i) (y i)))) milD = false) := by
  have h := (turn_in h0 h17).2.2 i hi
  have g := h.2.2 (x i) (hq i).1.1 (y i) (hq i).2.1
  unfold gd at g
  simp only [Bool.and_eq_true] at g
  obtain ⟨g1, g2, g3, g4, g5, g6, g7, g8, g9, g10⟩ := g
  have k1 := memN_all g9 tabD_ok
  have k2 := memP_all g10 tabP_ok
  simp only [Bool.and_eq_true, Bool.not_eq_true'] at k1 k2
  exact ⟨okB_ok g1, okB_ok g2, ⟨g3, g4⟩, okB_ok g5, okB_ok g6, ⟨g7, g8⟩, ⟨okB_ok k1.1, k1.2⟩, okB_ok k2.1.1, okB_ok k2.1.2, k2.2⟩
theorem gs_of {x y : Nat → Nat} (hq : Q2 x y) {i : Nat} (hi : i < 8) :
    f2fOk .f64 (tRe (x i) (y i) (phC (turnP 0 i)) (phS (turnP 0 i))) .f32 ∧ f2fOk .f64 (tIm (x i) (y i) (phC (turnP 0 i)) (phS (turnP 0 i))) .f32 ∧ (isFin (tpRe x y 0 i) = true ∧ isFin (tpIm x y 0 i) = true) ∧
    (f2fOk .f64 (longW (fsub .f32 (tpRe x y 0 i) (x i)) (fsub .f32 (tpIm x y 0 i) (y i))) .f32 ∧ fgt .f64 (wd (longF (fsub .f32 (tpRe x y 0 i) (x i)) (fsub .f32 (tpIm x y 0 i) (y i)))) milD = false) := by
  obtain ⟨_, e1, e2⟩ := still_in hi
  unfold tpRe tpIm
  rw [e1, e2]
  have g := List.all_eq_true.1 (List.all_eq_true.1 gs_ok (x i) (hq i).1.1) (y i) (hq i).2.1
  unfold gs at g
  simp only [Bool.and_eq_true] at g
  obtain ⟨g1, g2, g3, g4, g9⟩ := g
  have k1 := memN_all g9 tabD_ok
  simp only [Bool.and_eq_true, Bool.not_eq_true'] at k1
  exact ⟨okB_ok g1, okB_ok g2, ⟨g3, g4⟩, okB_ok k1.1, k1.2⟩
theorem phased_ok {x y : Nat → Nat} (hq : Q2 x y) {a : Int} (h0 : 0 ≤ a) (h17 : a < 17) {n : Nat} (h8 : n ≤ 8) :
    (okTP n x y (tq a) = true ∧ pTP n x y (tq a)) ∧ (okTP n (tpRe x y (tq a)) (tpIm x y (tq a)) (fneg .f32 (tq a)) = true ∧ pTP n (tpRe x y (tq a)) (tpIm x y (tq a)) (fneg .f32 (tq a))) ∧ (okTP n x y 0 = true ∧ pTP n x y 0) := by
  have hf : ∀ i, i < n → isFin (x i) = true ∧ isFin (y i) = true := fun i _ => ⟨(hq i).1.2, (hq i).2.2⟩
  have ht := turn_in h0 h17
  refine ⟨⟨okTP_of (by omega) ht.1 hf fun i hi => (gd_of hq h0 h17 (by omega : i < 8)).2.2.1, fun i hi => ?_⟩, ⟨okTP_of (by omega) ht.2.1 (fun i hi => (gd_of hq h0 h17 (by omega : i < 8)).2.2.1) fun i hi => (gd_of hq h0 h17 (by omega : i < 8)).2.2.2.2.2.1, fun i hi => ?_⟩, okTP_of (by omega) fin0 hf fun i hi => (gs_of hq (by omega : i < 8)).2.2.1, fun i hi => ?_⟩
  · have g := gd_of hq h0 h17 (by omega : i < 8)
    exact ⟨(ht.2.2 i (by omega)).1, g.1, g.2.1⟩
  · have g := gd_of hq h0 h17 (by omega : i < 8)
    exact ⟨(ht.2.2 i (by omega)).2.1, g.2.2.2.1, g.2.2.2.2.1⟩
  · have g := gs_of hq (by omega : i < 8)
    exact ⟨(still_in (by omega)).1, g.1, g.2.1⟩
theorem mean_ok {f g : Nat → Int} (hf : ∀ i, 0 ≤ f i ∧ f i < 9) (hg : ∀ i, 0 ≤ g i ∧ g i < 9) {n : Nat} (h1 : 1 ≤ n) (h8 : n ≤ 8) :
    okMP n (fun j => quartF (f j)) (fun j => quartF (g j)) = true ∧
    (f2fOk .f64 (longW (fsub .f32 (fmul .f32 (meanX n fun j => quartF (f j)) (itof .f32 (n : Int))) (sumC (fun j => quartF (f j)) n)) (fsub .f32 (fmul .f32 (meanX n fun j => quartF (g j)) (itof .f32 (n : Int))) (sumC (fun j => quartF (g j)) n))) .f32 ∧
      flt .f64 (wd (longF (fsub .f32 (fmul .f32 (meanX n fun j => quartF (f j)) (itof .f32 (n : Int))) (sumC (fun j => quartF (f j)) n)) (fsub .f32 (fmul .f32 (meanX n fun j => quartF (g j)) (itof .f32 (n : Int))) (sumC (fun j => quartF (g j)) n)))) milD = true) := by
  obtain ⟨k1, a1, a2, e1⟩ := sumW_in hf n h8
  obtain ⟨k2, b1, b2, e2⟩ := sumW_in hg n h8
  unfold okMP meanX
  rw [e1, e2]
  obtain ⟨f1, m1⟩ := lessW_in h1 h8 a1 a2
  obtain ⟨f2, m2⟩ := lessW_in h1 h8 b1 b2
  have hc : allC n (fun j => quartF (f j)) (fun j => quartF (g j)) = true := allC_of fun i _ => ⟨(quart_in (hf i).1 (hf i).2).2, (quart_in (hg i).1 (hg i).2).2⟩
  have g := List.all_eq_true.1 (List.all_eq_true.1 tabL_ok _ m1) _ m2
  rw [Bool.and_eq_true] at g
  refine ⟨?_, okB_ok g.1, g.2⟩
  rw [hc, f1, f2, decide_eq_true (show n ≤ 128 by omega), decide_eq_true (show (1 : Int) ≤ (n : Int) by omega)]
  rfl
end Go.Proofs.Ytjkibcdmpjppbaa
