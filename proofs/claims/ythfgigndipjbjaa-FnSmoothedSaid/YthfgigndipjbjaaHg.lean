/- Desks that are valid, on both sides. -/
import Derived.Test.YthfgigndipjbjaaHc
import Derived.Test.YthfgigndipjbjaaHd
set_option linter.unusedSimpArgs false
set_option linter.unusedVariables false
namespace Go.Proofs.Ythfgigndipjbjaa
open Go.Aw
theorem Sub.rptrL {fr : Bool} {m k : Nat} {h h' : Nat → AV} (hk : k ≤ m) (hs : ∀ j, j < k → Sub (unfr (h j)) (h' j)) : Sub (unfr (.rptr fr m h)) (.rptr false k h') := by
  intro w ρ N L v hv
  simp only [unfr] at hv
  cases hv with
  | rptr u hq hc hsim => exact .rptr u hq (fun c hcc => hc c (by omega)) fun c hcc => hs c hcc _ _ _ _ _ (hsim c (by omega))
def leastF (x : Nat) : Bool := isFin x && fge .f32 x 0
def kLeast : Kr
  | [.f .f32 x] => some (.b fun _ => leastF (x .u), [], fun _ => True)
  | _ => none
def binsF (n : Nat) (x : Nat → Nat) : Bool := decide (2 ≤ n) && (decide (n ≤ 64) && finN n x)
def kBins : Kr
  | [a, .i .i64 k] => match asL a with
    | some (n, g) => some (.b fun _ => binsF (n .u) (rdF g), [], fun _ => IsF n g ∧ k .u = 2)
    | none => none
  | _ => none
theorem two_le (n : Nat) : decide ((2 : Int) ≤ (n : Int)) = decide (2 ≤ n) := decide_eq_decide.2 (by omega)
theorem le_64 (n : Nat) : decide ((n : Int) ≤ 64) = decide (n ≤ 64) := decide_eq_decide.2 (by omega)
def kScan : Kr
  | [a] => match asL a with
    | some (n, g) => some (.b fun _ => binsF (n .u) (rdF g), [], fun _ => IsF n g)
    | none => none
  | _ => none
/-! Pulses. -/
def pulseF (a b c d : Nat) : Bool := leastF a && (isFin b && (isFin c && leastF d))
def kPulseP : Kr
  | [.rptr fr m h] => match h 0, h 1, h 2, h 3 with
    | .f .f32 a, .f .f32 b, .f .f32 c, .f .f32 d => some (.b fun _ => pulseF (a .u) (b .u) (c .u) (d .u), [], fun _ => 4 ≤ m)
    | _, _, _, _ => none
  | _ => none
theorem finN_four (x : Nat → Nat) : finN 4 x = (isFin (x 0) && (isFin (x 1) && (isFin (x 2) && isFin (x 3)))) := by
  simp [finN, allN, List.range, List.range.loop]
theorem pulse_eq (a b c d : Th Nat) : ((finN 4 fun i => match [AV.f .f32 a, AV.f .f32 b, AV.f .f32 c, AV.f .f32 d].getD (i * 1) .dead with
  | .f _ x => x .u
  | _ => 0) && fge .f32 (a .u) 0 && fge .f32 (d .u) 0) = pulseF (a .u) (b .u) (c .u) (d .u) := by
  rw [finN_four]
  show (isFin (a .u) && (isFin (b .u) && (isFin (c .u) && isFin (d .u))) && fge .f32 (a .u) 0 && fge .f32 (d .u) 0) = _
  simp only [pulseF, leastF]
  cases isFin (a .u) <;> cases isFin (b .u) <;> cases isFin (c .u) <;> cases isFin (d .u) <;> cases fge .f32 (a .u) 0 <;> cases fge .f32 (d .u) 0 <;> rfl
def kPulseV : Kr
  | [.agg [.f .f32 a, .f .f32 b, .f .f32 c, .f .f32 d]] => some (.b fun _ => pulseF (a .u) (b .u) (c .u) (d .u), [], fun _ => True)
  | _ => none
/-! Steps. -/
def ascN (n : Nat) (x : Nat → Nat) : Bool := allN (fun i => decide (i = 0) || fgt .f32 (x i) (x (i - 1))) n
def kAsc : Kr
  | [a] => match asL a with
    | some (n, g) => some (.b fun _ => ascN (n .u) (rdF g), [], fun _ => IsF n g)
    | none => none
  | _ => none
theorem all_at {n : Nat} {x : Nat → Nat} (h : finN n x = true) {i : Nat} (hi : i < n) : isFin (x i) = true := by
  simp only [finN, allN, List.all_eq_true, List.mem_range] at h
  exact h i hi
theorem asc_at {x : Nat → Nat} {i : Nat} (hi : 1 ≤ i) : (decide (i = 0) || fgt .f32 (x i) (x (i - 1))) = fgt .f32 (x i) (x ((i : Int) - 1).toNat) := by
  rw [show ((i : Int) - 1).toNat = i - 1 by omega, decide_eq_false (show ¬ i = 0 by omega), Bool.false_or]
theorem asc_le {n : Nat} {x : Nat → Nat} (hf : finN n x = true) {i : Nat} (hi : 1 ≤ i) (hn : i < n) : fle .f32 (x i) (x ((i : Int) - 1).toNat) = !fgt .f32 (x i) (x ((i : Int) - 1).toNat) :=
  le_not_gt (fin_num (all_at hf hn)) (fin_num (all_at hf (show ((i : Int) - 1).toNat < n by omega)))
theorem lt_12 (n : Nat) : decide ((n : Int) < 12) = decide (n < 12) := decide_eq_decide.2 (by omega)
theorem eq_succ (m n : Nat) : ((m : Int) == (n : Int) + 1) = decide (m = n + 1) := by
  rw [Bool.eq_iff_iff]; simp; omega
def preS (n : Nat) (x : Nat → Nat) (k : Nat) (y : Nat → Nat) : Bool := decide (n < 12) && (decide (k = n + 1) && (finN n x && finN k y))
theorem steps_pre {n : Nat} {x : Nat → Nat} {k : Nat} {y : Nat → Nat} : (((decide ((12 : Int) ≤ (n : Int)) || ((k : Int) != (n : Int) + 1)) || !finN n x) || !finN k y) = !preS n x k y := by
  have e1 : decide ((12 : Int) ≤ (n : Int)) = !decide (n < 12) := by rw [← decide_not]; exact decide_eq_decide.2 (by omega)
  have e2 : ((k : Int) != (n : Int) + 1) = !decide (k = n + 1) := by rw [← eq_succ]; rfl
  rw [e1, e2]
  simp only [preS]
  cases decide (n < 12) <;> cases decide (k = n + 1) <;> cases finN n x <;> cases finN k y <;> rfl
theorem free_two (n k : Th Nat) (x y : Nat → Nat) : Free (.rptr false 2 fun j => [listF false n x, listF false k y].getD j .dead) := .rptr fun j hj => by
  match j, hj with
  | 0, _ => exact .listF
  | 1, _ => exact .listF
def stepsF (n : Nat) (x : Nat → Nat) (k : Nat) (y : Nat → Nat) : Bool := decide (n < 12) && (decide (k = n + 1) && (finN n x && (finN k y && ascN n x)))
theorem stepsF_eq (n : Nat) (x : Nat → Nat) (k : Nat) (y : Nat → Nat) : stepsF n x k y = (preS n x k y && ascN n x) := by
  simp only [stepsF, preS, Bool.and_assoc]
def kStepsV : Kr
  | [.agg [a, b]] => match asL a, asL b with
    | some (n, g), some (m, h) => some (.b fun _ => stepsF (n .u) (rdF g) (m .u) (rdF h), [], fun _ => IsF n g ∧ IsF m h)
    | _, _ => none
  | _ => none
def kStepsP : Kr
  | [.rptr fr m h] => match asL (h 0), asL (h 1) with
    | some (n, g), some (k, f) => some (.b fun _ => stepsF (n .u) (rdF g) (k .u) (rdF f), [], fun _ => IsF n g ∧ IsF k f ∧ 2 ≤ m)
    | _, _ => none
  | _ => none
/-! Desks. -/
def deskF (n : Nat) (x : Nat → Nat) (k : Nat) (y : Nat → Nat) (a b c d l : Nat) (z : Nat → Nat) : Bool := stepsF n x k y && (pulseF a b c d && binsF l z)
theorem free_get {l : List AV} (h : ∀ a ∈ l, Free a) {i : Nat} : Free (l.getD i .dead) := by
  rw [List.getD_eq_getElem?_getD]
  cases hi : l[i]? with
  | none => exact .dead
  | some a => exact h a (List.mem_of_getElem? hi)
def kDeskP : Kr
  | [.rptr fr m h] => match asL (h 0), asL (h 1), h 2, h 3, h 4, h 5, asL (h 6) with
    | some (n, g), some (k, f), .f .f32 a, .f .f32 b, .f .f32 c, .f .f32 d, some (l, q) => some (.b fun _ => deskF (n .u) (rdF g) (k .u) (rdF f) (a .u) (b .u) (c .u) (d .u) (l .u) (rdF q), [], fun _ => IsF n g ∧ IsF k f ∧ IsF l q ∧ 7 ≤ m)
    | _, _, _, _, _, _, _ => none
  | _ => none
def kDeskV : Kr
  | [.agg [u, v, .f .f32 a, .f .f32 b, .f .f32 c, .f .f32 d, w]] => match asL u, asL v, asL w with
    | some (n, g), some (k, f), some (l, q) => some (.b fun _ => deskF (n .u) (rdF g) (k .u) (rdF f) (a .u) (b .u) (c .u) (d .u) (l .u) (rdF q), [], fun _ => IsF n g ∧ IsF k f ∧ IsF l q)
    | _, _, _ => none
  | _ => none
end Go.Proofs.Ythfgigndipjbjaa
