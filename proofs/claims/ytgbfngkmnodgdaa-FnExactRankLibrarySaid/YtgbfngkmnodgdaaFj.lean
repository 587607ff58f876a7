/- Plain laws of sorting: one order that is sorted; insertion makes it, and choosing the first greatest again and again makes it. -/
import Derived.Test.YtgbfngkmnodgdaaHd
import Derived.Test.YtgbfngkmnodgdaaAwv
set_option linter.unusedSimpArgs false
set_option linter.unusedVariables false
namespace Go.Proofs.Ytgbfngkmnodgdaa
open Go.Aw
/-! ### A whole number for each finite number -/
def keyF (x : Nat) : Int := match FloatKind.f32.format.read x with
  | .number s m e => Ieee.signed s m (e + 149).toNat
  | _ => 0
theorem fin_small {x : Nat} (h : isFin x = true) : x % 2147483648 < 2139095040 := by
  refine Nat.lt_of_not_le fun h' => ?_
  rcases Nat.lt_or_eq_of_le h' with h1 | h1
  · have := read32_nan h1
    rw [fin_num h] at this
    cases this
  · have e := read32_inf h1.symm
    have e2 : fsub .f32 x x = nanOf .f32 := by
      unfold fsub Ieee.Format.sub
      rw [e]
      cases signF x <;> rfl
    rw [isFin, e2] at h
    revert h
    decide
theorem mul_cmp {a b : Int} {c : Nat} (hc : 0 < c) : compare (a * (c : Int)) (b * (c : Int)) = compare a b := by
  have h : (0 : Int) < (c : Int) := by omega
  simp only [compare, compareOfLessAndEq, Int.mul_lt_mul_right h, Int.mul_eq_mul_right_iff (Int.ne_of_gt h)]
theorem signed_up (s : Bool) (m a c : Nat) : Ieee.signed s m (a + c) = Ieee.signed s m a * ((2 ^ c : Nat) : Int) := by
  unfold Ieee.signed
  rw [Nat.shiftLeft_eq, Nat.shiftLeft_eq, Nat.pow_add, ← Nat.mul_assoc]
  cases s
  · simp only [Bool.false_eq_true, if_false]
    exact Int.natCast_mul _ _
  · simp only [if_true]
    rw [Int.natCast_mul, Int.neg_mul]
theorem order_key {x y : Nat} (hx : isFin x = true) (hy : isFin y = true) : FloatKind.f32.format.order x y = some (compare (keyF x) (keyF y)) := by
  obtain ⟨m, p, e1, m1, m2, m3⟩ := read32_num (fin_small hx)
  obtain ⟨n, q, e2, n1, n2, n3⟩ := read32_num (fin_small hy)
  unfold Ieee.Format.order keyF
  rw [e1, e2]
  simp only [Ieee.Datum.order]
  have hmin : min (-149 + (p : Int)) (-149 + (q : Int)) = -149 + ((min p q : Nat) : Int) := by omega
  rw [hmin, show (-149 + (p : Int) - (-149 + ((min p q : Nat) : Int))).toNat = p - min p q by omega, show (-149 + (q : Int) - (-149 + ((min p q : Nat) : Int))).toNat = q - min p q by omega, show (-149 + (p : Int) + 149).toNat = (p - min p q) + min p q by omega, show (-149 + (q : Int) + 149).toNat = (q - min p q) + min p q by omega, signed_up, signed_up, mul_cmp (Nat.two_pow_pos _)]
theorem gt_key {x y : Nat} (hx : isFin x = true) (hy : isFin y = true) : fgt .f32 x y = decide (keyF y < keyF x) := by
  unfold fgt
  rw [order_key hx hy, Bool.eq_iff_iff]
  simp only [beq_iff_eq, Option.some.injEq, decide_eq_true_eq]
  exact Int.compare_eq_gt
theorem lt_key {x y : Nat} (hx : isFin x = true) (hy : isFin y = true) : flt .f32 x y = decide (keyF x < keyF y) := by
  unfold flt
  rw [order_key hx hy, Bool.eq_iff_iff]
  simp only [beq_iff_eq, Option.some.injEq, decide_eq_true_eq]
  exact Int.compare_eq_lt
/-! ### The order -/
section
variable {key : Nat → Int} {n : Nat}
/-- i stands ahead of j: it is greater, or as great and first. -/
def Ahead (key : Nat → Int) (i j : Nat) : Prop := key j < key i ∨ (key i = key j ∧ i < j)
theorem Ahead.trans {i j k : Nat} (h : Ahead key i j) (h' : Ahead key j k) : Ahead key i k := by unfold Ahead at *; omega
theorem Ahead.irrefl {i : Nat} : ¬ Ahead key i i := by unfold Ahead; omega
theorem Ahead.total {i j : Nat} (h : i ≠ j) : Ahead key i j ∨ Ahead key j i := by unfold Ahead; omega
structure Sorted (key : Nat → Int) (n : Nat) (σ : Nat → Nat) : Prop where
  srt : ∀ p q, p < q → q < n → Ahead key (σ p) (σ q)
  bnd : ∀ p, p < n → σ p < n
  sur : ∀ v, v < n → ∃ p, p < n ∧ σ p = v
theorem Sorted.unique {σ τ : Nat → Nat} (hs : Sorted key n σ) (ht : Sorted key n τ) : ∀ p, p < n → σ p = τ p := by
  intro p
  induction p using Nat.strongRecOn with
  | ind p ih =>
    intro hp
    have one : ∀ {σ τ : Nat → Nat}, Sorted key n σ → Sorted key n τ → (∀ q, q < p → σ q = τ q) → σ p = τ p ∨ Ahead key (σ p) (τ p) := by
      intro σ τ hs ht he
      obtain ⟨q, hq, e⟩ := hs.sur (τ p) (ht.bnd p hp)
      rcases Nat.lt_trichotomy q p with h | h | h
      · exfalso
        have := ht.srt q p h hp
        rw [← e, he q h] at this
        exact Ahead.irrefl this
      · subst h; exact .inl e
      · rw [← e]; exact .inr (hs.srt p q h hq)
    rcases one hs ht (fun q hq => ih q hq (by omega)) with h | h
    · exact h
    · rcases one ht hs (fun q hq => (ih q hq (by omega)).symm) with h' | h'
      · exact h'.symm
      · exact absurd (h.trans h') Ahead.irrefl
/-- What stands at place r stands ahead of all that isn't taken by then. -/
theorem Sorted.first {σ : Nat → Nat} (hs : Sorted key n σ) {r i : Nat} (hr : r < n) (hi : i < n) (hu : ∀ q, q < r → σ q ≠ i) : i = σ r ∨ Ahead key (σ r) i := by
  obtain ⟨q, hq, e⟩ := hs.sur i hi
  rcases Nat.lt_trichotomy q r with h | h | h
  · exact absurd e (hu q h)
  · subst h; exact .inl e.symm
  · rw [← e]; exact .inr (hs.srt r q h hq)
theorem Sorted.ne {σ : Nat → Nat} (hs : Sorted key n σ) {p q : Nat} (hp : p < q) (hq : q < n) : σ p ≠ σ q := fun e => by
  have := hs.srt p q hp hq
  rw [e] at this
  exact Ahead.irrefl this
/-! ### Insertion -/
/-- The first i are sorted among themselves, the others lie where they lay. -/
structure Upto (key : Nat → Int) (n i : Nat) (σ : Nat → Nat) : Prop where
  srt : ∀ p q, p < q → q < i → Ahead key (σ p) (σ q)
  bnd : ∀ p, p < i → σ p < i
  rest : ∀ p, i ≤ p → σ p = p
  sur : ∀ v, v < i → ∃ p, p < i ∧ σ p = v
/-- Entry i has come down to place j. -/
structure Down (key : Nat → Int) (n i j : Nat) (σ : Nat → Nat) : Prop where
  hj : j ≤ i
  at_ : σ j = i
  srt : ∀ p q, p < q → q ≤ i → p ≠ j → q ≠ j → Ahead key (σ p) (σ q)
  big : ∀ q, j < q → q ≤ i → key (σ q) < key i
  small : ∀ p, p ≤ i → p ≠ j → σ p < i
  rest : ∀ p, i < p → σ p = p
  sur : ∀ v, v < i → ∃ p, p ≤ i ∧ p ≠ j ∧ σ p = v
theorem Upto.one (key : Nat → Int) (n : Nat) : Upto key n 1 fun p => p where
  srt p q h1 h2 := by omega
  bnd p h := h
  rest p _ := rfl
  sur v h := ⟨v, h, rfl⟩
theorem Upto.down {i : Nat} {σ : Nat → Nat} (h : Upto key n i σ) : Down key n i i σ where
  hj := Nat.le_refl _
  at_ := h.rest i (Nat.le_refl _)
  srt p q h1 h2 h3 h4 := h.srt p q h1 (by omega)
  big q h1 h2 := by omega
  small p h1 h2 := h.bnd p (by omega)
  rest p h1 := h.rest p (by omega)
  sur v hv := by
    obtain ⟨p, hp, e⟩ := h.sur v hv
    exact ⟨p, by omega, by omega, e⟩
def swap (σ : Nat → Nat) (j : Nat) : Nat → Nat := fun p => if p = j then σ (j - 1) else if p = j - 1 then σ j else σ p
theorem Down.step {i j : Nat} {σ : Nat → Nat} (h : Down key n i j σ) (h0 : 0 < j) (hk : key (σ (j - 1)) < key (σ j)) : Down key n i (j - 1) (swap σ j) := by
  have e1 : swap σ j j = σ (j - 1) := by simp [swap]
  have e2 : swap σ j (j - 1) = σ j := by simp [swap, show ¬ j - 1 = j by omega]
  have e3 : ∀ p, p ≠ j → p ≠ j - 1 → swap σ j p = σ p := fun p h1 h2 => by simp [swap, h1, h2]
  have hj := h.hj
  refine ⟨by omega, by rw [e2]; exact h.at_, fun p q h1 h2 h3 h4 => ?_, fun q h1 h2 => ?_, fun p h1 h2 => ?_, fun p h1 => ?_, fun v hv => ?_⟩
  · by_cases ep : p = j
    · subst ep
      rw [e1, e3 q (by omega) h4]
      exact h.srt (p - 1) q (by omega) h2 (by omega) (by omega)
    · by_cases eq : q = j
      · subst eq
        rw [e1, e3 p ep h3]
        exact h.srt p (q - 1) (by omega) (by omega) ep (by omega)
      · rw [e3 p ep h3, e3 q eq h4]
        exact h.srt p q h1 h2 ep eq
  · by_cases eq : q = j
    · subst eq; rw [e1, ← h.at_]; exact hk
    · rw [e3 q eq (by omega)]; exact h.big q (by omega) h2
  · by_cases ep : p = j
    · subst ep; rw [e1]; exact h.small (p - 1) (by omega) (by omega)
    · rw [e3 p ep h2]; exact h.small p h1 ep
  · rw [e3 p (by omega) (by omega)]; exact h.rest p h1
  · obtain ⟨p, hp, hpj, e⟩ := h.sur v hv
    by_cases ep : p = j - 1
    · subst ep; exact ⟨j, h.hj, by omega, by rw [e1]; exact e⟩
    · exact ⟨p, hp, ep, by rw [e3 p hpj ep]; exact e⟩
theorem Down.done {i j : Nat} {σ : Nat → Nat} (h : Down key n i j σ) (hk : j = 0 ∨ ¬ key (σ (j - 1)) < key (σ j)) : Upto key n (i + 1) σ := by
  have hj := h.hj
  refine ⟨fun p q h1 h2 => ?_, fun p h1 => ?_, fun p h1 => h.rest p (by omega), fun v hv => ?_⟩
  · by_cases ep : p = j
    · have := h.big q (by omega) (by omega)
      rw [ep, h.at_]
      exact .inl this
    · by_cases eq : q = j
      · rcases hk with hk | hk
        · omega
        · have h5 : Ahead key (σ (j - 1)) (σ j) := by
            have := h.small (j - 1) (by omega) (by omega)
            rw [h.at_] at hk ⊢
            unfold Ahead
            omega
          rw [eq]
          by_cases e : p = j - 1
          · rw [e]; exact h5
          · exact (h.srt p (j - 1) (by omega) (by omega) ep (by omega)).trans h5
      · exact h.srt p q h1 (by omega) ep eq
  · by_cases ep : p = j
    · rw [ep, h.at_]; omega
    · have := h.small p (by omega) ep; omega
  · by_cases e : v = i
    · exact ⟨j, by omega, by rw [h.at_, e]⟩
    · obtain ⟨p, hp, _, e⟩ := h.sur v (by omega)
      exact ⟨p, by omega, e⟩
theorem Upto.sorted {σ : Nat → Nat} (h : Upto key n n σ) : Sorted key n σ := ⟨h.srt, h.bnd, h.sur⟩
theorem Upto.zero {σ : Nat → Nat} (h : Upto key n 1 σ) (hn : n ≤ 1) : Sorted key n σ where
  srt p q h1 h2 := by omega
  bnd p hp := by have := h.bnd p (by omega); omega
  sur v hv := by
    obtain ⟨p, hp, e⟩ := h.sur v (by omega)
    exact ⟨p, by omega, e⟩
theorem exists_sorted (key : Nat → Int) (n : Nat) : ∃ σ, Sorted key n σ := by
  rcases Nat.lt_or_ge n 2 with h | h
  · exact ⟨_, (Upto.one key n).zero (by omega)⟩
  have step : ∀ i σ, Upto key n i σ → ∃ σ', Upto key n (i + 1) σ' := by
    intro i σ hu
    have dn : ∀ j σ, Down key n i j σ → ∃ σ', Upto key n (i + 1) σ' := by
      intro j
      induction j with
      | zero => intro σ hd; exact ⟨σ, hd.done (.inl rfl)⟩
      | succ j ih =>
        intro σ hd
        by_cases hk : key (σ (j + 1 - 1)) < key (σ (j + 1))
        · exact ih _ (hd.step (by omega) hk)
        · exact ⟨σ, hd.done (.inr hk)⟩
    exact dn i σ hu.down
  have all : ∀ i, ∃ σ, Upto key n (i + 1) σ := by
    intro i
    induction i with
    | zero => exact ⟨_, Upto.one key n⟩
    | succ i ih => obtain ⟨σ, hs⟩ := ih; exact step _ σ hs
  obtain ⟨σ, hs⟩ := all (n - 1)
  rw [show n - 1 + 1 = n by omega] at hs
  exact ⟨σ, hs.sorted⟩
noncomputable def sortOf (key : Nat → Int) (n : Nat) : Nat → Nat := Classical.choose (exists_sorted key n)
theorem sortOf_sorted (key : Nat → Int) (n : Nat) : Sorted key n (sortOf key n) := Classical.choose_spec (exists_sorted key n)
/-! ### Choice -/
/-- The best of the first i that aren't taken, -1 where all are. -/
structure Best (key : Nat → Int) (taken : Nat → Prop) (i : Nat) (b : Int) : Prop where
  none : b < 0 → b = -1 ∧ ∀ k, k < i → taken k
  some : 0 ≤ b → b < i ∧ ¬ taken b.toNat ∧ ∀ k, k < i → ¬ taken k → k = b.toNat ∨ Ahead key b.toNat k
theorem Best.start (key : Nat → Int) (taken : Nat → Prop) : Best key taken 0 (-1) := ⟨fun _ => ⟨rfl, fun k hk => absurd hk (Nat.not_lt_zero _)⟩, fun h => by omega⟩
theorem Best.take {taken : Nat → Prop} {i : Nat} {b : Int} (h : Best key taken i b) (ht : ¬ taken i) (hk : b < 0 ∨ key b.toNat < key i) : Best key taken (i + 1) i := by
  refine ⟨fun h0 => by omega, fun _ => ⟨by omega, by simpa using ht, fun k hk1 hk2 => ?_⟩⟩
  simp only [Int.toNat_natCast]
  by_cases e : k = i
  · exact .inl e
  · right
    rcases hk with hk | hk
    · exact absurd ((h.none hk).2 k (by omega)) hk2
    · by_cases hb : b < 0
      · exact absurd ((h.none hb).2 k (by omega)) hk2
      · obtain ⟨_, _, h3⟩ := h.some (by omega)
        rcases h3 k (by omega) hk2 with e' | e'
        · subst e'; exact .inl hk
        · exact Ahead.trans (.inl hk) e'
theorem Best.skip {taken : Nat → Prop} {i : Nat} {b : Int} (h : Best key taken i b) (hk : taken i ∨ (0 ≤ b ∧ ¬ key b.toNat < key i)) : Best key taken (i + 1) b := by
  refine ⟨fun h0 => ⟨(h.none h0).1, fun k hk1 => ?_⟩, fun h0 => ?_⟩
  · by_cases e : k = i
    · subst e
      rcases hk with hk | hk
      · exact hk
      · omega
    · exact (h.none h0).2 k (by omega)
  · obtain ⟨h1, h2, h3⟩ := h.some h0
    refine ⟨by omega, h2, fun k hk1 hk2 => ?_⟩
    by_cases e : k = i
    · subst e
      rcases hk with hk | hk
      · exact absurd hk hk2
      · right
        unfold Ahead
        have : b.toNat < k := by omega
        omega
    · exact h3 k (by omega) hk2
theorem Best.end_ {σ : Nat → Nat} (hs : Sorted key n σ) {r : Nat} (hr : r < n) {taken : Nat → Prop} (ht : ∀ k, k < n → (taken k ↔ ∃ q, q < r ∧ σ q = k)) {b : Int} (h : Best key taken n b) : b = σ r := by
  have hu : ¬ taken (σ r) := fun h' => by
    obtain ⟨q, hq, e⟩ := (ht _ (hs.bnd r hr)).1 h'
    exact hs.ne hq hr e
  by_cases hb : b < 0
  · exact absurd ((h.none hb).2 _ (hs.bnd r hr)) hu
  · obtain ⟨h1, h2, h3⟩ := h.some (by omega)
    have h4 := h3 _ (hs.bnd r hr) hu
    have hbn : b.toNat < n := by omega
    have h5 := hs.first hr hbn fun q hq e => h2 ((ht _ hbn).2 ⟨q, hq, e⟩)
    have : b.toNat = σ r := by
      rcases h5 with h5 | h5
      · exact h5
      · rcases h4 with h4 | h4
        · exact h4.symm
        · exact absurd (h5.trans h4) Ahead.irrefl
    omega
end
end Go.Proofs.Ytgbfngkmnodgdaa
