/- The laws' own copies and sizes of steps, pulses and desks. -/
import Derived.Test.YtkglnfkbejoheaaDoorHc
set_option linter.unusedSimpArgs false
set_option linter.unusedVariables false
namespace Go.Proofs.YtkglnfkbejoheaaDoor
open Go.Aw
theorem szL_lt {n : Nat} {l : Int} : szL n l < 0 ↔ l - (n : Int) < 0 := by
  unfold szL
  by_cases h : l - (n : Int) < 0
  · simp only [decide_eq_true h, cond_true]; exact ⟨fun _ => h, fun _ => by decide⟩
  · simp only [decide_eq_false h, cond_false]
theorem szL_val {n : Nat} {l : Int} (h : ¬ l - (n : Int) < 0) : szL n l = l - (n : Int) := by
  unfold szL
  simp only [decide_eq_false h, cond_false]
theorem szL_neg {n : Nat} {l : Int} (h : l - (n : Int) < 0) : szL n l = -1 := by
  unfold szL
  simp only [decide_eq_true h, cond_true]
theorem szL_add (n m : Nat) (l : Int) (hn : ¬ szL n l < 0) : szL m (szL n l) = szL (n + m) l := by
  have h1 : ¬ l - (n : Int) < 0 := fun h => hn (szL_lt.2 h)
  rw [szL_val h1]
  unfold szL
  rw [show l - (n : Int) - (m : Int) = l - ((n + m : Nat) : Int) by omega]
theorem szL_more (n m : Nat) (l : Int) (hn : szL n l < 0) : szL (n + m) l = -1 := by
  have := szL_lt.1 hn
  exact szL_neg (by omega)
theorem szL_top {n : Nat} {l : Int} (h : ¬ szL n l < 0) (hl : l ≤ 1048576) : 0 ≤ szL n l ∧ szL n l ≤ 1048576 := by
  have h1 : ¬ l - (n : Int) < 0 := fun h' => h (szL_lt.2 h')
  rw [szL_val h1]
  omega
def kSzSteps : Kr
  | [.agg [a, b], .i .i64 l] => match asL a, asL b with
    | some (n, g), some (m, h) => some (.i .i64 fun _ => szL (n .u + m .u) (l .u), [], fun _ => IsF n g ∧ IsF m h ∧ 0 ≤ l .u ∧ l .u ≤ 1048576)
    | _, _ => none
  | _ => none
def kToSteps : Kr
  | [.agg [a, b]] => match asL a, asL b with
    | some (n, g), some (m, h) => some (.agg [.own 0 (fun _ => 0) n 1, .own 1 (fun _ => 0) m 1], [blkF true n (rdF g), blkF true m (rdF h)], fun _ => (IsF n g ∧ n .u ≤ 1048576) ∧ IsF m h ∧ m .u ≤ 1048576)
    | _, _ => none
  | _ => none
def kToPulse : Kr
  | [.agg [.f .f32 a, .f .f32 b, .f .f32 c, .f .f32 d]] => some (.agg [.f .f32 a, .f .f32 b, .f .f32 c, .f .f32 d], [], fun _ => True)
  | _ => none
def kSzDesk : Kr
  | [.agg [a, b, .f .f32 _, .f .f32 _, .f .f32 _, .f .f32 _, c], .i .i64 l] => match asL a, asL b, asL c with
    | some (n, g), some (m, h), some (k, f) => some (.i .i64 fun _ => szL (n .u + m .u + k .u) (l .u), [], fun _ => IsF n g ∧ IsF m h ∧ IsF k f ∧ 0 ≤ l .u ∧ l .u ≤ 1048576)
    | _, _, _ => none
  | _ => none
def kToDesk : Kr
  | [.agg [a, b, .f .f32 p, .f .f32 q, .f .f32 r, .f .f32 s, c]] => match asL a, asL b, asL c with
    | some (n, g), some (m, h), some (k, f) => some (.agg [.own 0 (fun _ => 0) n 1, .own 1 (fun _ => 0) m 1, .f .f32 p, .f .f32 q, .f .f32 r, .f .f32 s, .own 2 (fun _ => 0) k 1], [blkF true n (rdF g), blkF true m (rdF h), blkF true k (rdF f)], fun _ => (IsF n g ∧ n .u ≤ 1048576) ∧ (IsF m h ∧ m .u ≤ 1048576) ∧ IsF k f ∧ k .u ≤ 1048576)
    | _, _, _ => none
  | _ => none
end Go.Proofs.YtkglnfkbejoheaaDoor
