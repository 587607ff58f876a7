/- Texts of pulses, on both sides. -/
import Derived.Test.YtkglnfkbejoheaaDoorTf
import Derived.Test.YtkglnfkbejoheaaDoorHh
import Derived.Test.YtkglnfkbejoheaaDoorHg
set_option linter.unusedSimpArgs false
set_option linter.unusedVariables false
namespace Go.Proofs.YtkglnfkbejoheaaDoor
open Go.Aw
/-- Four numbers as a list. -/
def four (a b c d : Nat) : Nat → Nat
  | 0 => a
  | 1 => b
  | 2 => c
  | _ => d
def P32T (a b c d : Nat) : Prop := a < 4294967296 ∧ b < 4294967296 ∧ c < 4294967296 ∧ d < 4294967296
theorem P32T.w {a b c d : Nat} (h : P32T a b c d) : W32T 4 (four a b c d) := fun i hi => by
  obtain ⟨h0, h1, h2, h3⟩ := h
  match i, hi with
  | 0, _ => exact h0
  | 1, _ => exact h1
  | 2, _ => exact h2
  | 3, _ => exact h3
def kPT : Kr
  | [.agg [.f .f32 a, .f .f32 b, .f .f32 c, .f .f32 d]] => some (.tup [.s fun _ => bif pulseF (a .u) (b .u) (c .u) (d .u) then numB 4 (four (a .u) (b .u) (c .u) (d .u)) else ⟨#[]⟩, .b fun _ => pulseF (a .u) (b .u) (c .u) (d .u)], [], fun _ => P32T (a .u) (b .u) (c .u) (d .u))
  | _ => none
theorem numB_ext {n : Nat} {x y : Nat → Nat} (h : ∀ i, i < n → x i = y i) : numB n x = numB n y := by
  unfold numB
  have : ∀ k, k ≤ n → jn (hexT x) k = jn (hexT y) k := by
    intro k
    induction k with
    | zero => intro _; rfl
    | succ k ih =>
      intro hk
      unfold jn
      rw [ih (by omega), show hexT x k = hexT y k by unfold hexT; rw [h k (by omega)]]
      cases hd : decide (k = 0)
      · rfl
      · have := of_decide_eq_true hd
        subst this
        show hexT x 0 = hexT y 0
        unfold hexT
        rw [h 0 (by omega)]
  rw [this n (Nat.le_refl _)]
theorem numB_four (a b c d : Th Nat) : numB 4 (fun i => match [AV.f .f32 a, AV.f .f32 b, AV.f .f32 c, AV.f .f32 d].getD (i * 1) .dead with
  | .f _ x => x .u
  | _ => 0) = numB 4 (four (a .u) (b .u) (c .u) (d .u)) := numB_ext fun i hi => by
  match i, hi with
  | 0, _ => rfl
  | 1, _ => rfl
  | 2, _ => rfl
  | 3, _ => rfl
theorem free_four {a b c d : Th Nat} {j c' : Nat} (hj : j < 4) (hc : c' < 1) : Free ([AV.f .f32 a, AV.f .f32 b, AV.f .f32 c, AV.f .f32 d].getD (j * 1 + c') .dead) := by
  obtain rfl : c' = 0 := by omega
  match j, hj with
  | 0, _ => exact .f
  | 1, _ => exact .f
  | 2, _ => exact .f
  | 3, _ => exact .f
theorem is_four {a b c d : Th Nat} {j : Nat} (hj : j < 4) : ∃ y, [AV.f .f32 a, AV.f .f32 b, AV.f .f32 c, AV.f .f32 d].getD (j * 1) .dead = AV.f .f32 y := by
  match j, hj with
  | 0, _ => exact ⟨_, rfl⟩
  | 1, _ => exact ⟨_, rfl⟩
  | 2, _ => exact ⟨_, rfl⟩
  | 3, _ => exact ⟨_, rfl⟩
theorem w32_four {a b c d : Th Nat} (h : P32T (a .u) (b .u) (c .u) (d .u)) : W32T 4 (fun i => match [AV.f .f32 a, AV.f .f32 b, AV.f .f32 c, AV.f .f32 d].getD (i * 1) .dead with
  | .f _ x => x .u
  | _ => 0) := fun i hi => by
  obtain ⟨h0, h1, h2, h3⟩ := h
  match i, hi with
  | 0, _ => exact h0
  | 1, _ => exact h1
  | 2, _ => exact h2
  | 3, _ => exact h3
def kPTp : Kr
  | [.rptr fr m h] => match h 0, h 1, h 2, h 3 with
    | .f .f32 a, .f .f32 b, .f .f32 c, .f .f32 d => some (.s fun _ => numB 4 (four (a .u) (b .u) (c .u) (d .u)), [], fun _ => 4 ≤ m ∧ P32T (a .u) (b .u) (c .u) (d .u))
    | _, _, _, _ => none
  | _ => none
end Go.Proofs.YtkglnfkbejoheaaDoor
