/- Lists that are handed on when all their numbers are finite; lists divided by a number; sums of products; copies. -/
/- Sums of products and copies on the program's side. -/
/- The base of a list on both sides. -/
import Derived.Test.YtkglnfkbejoheaaDoorFe
set_option linter.unusedSimpArgs false
set_option linter.unusedVariables false
namespace Go.Proofs.YtkglnfkbejoheaaDoor
open Go.Aw
/-- A list of one's own under the first name, and nil with no. -/
abbrev yesL (n : Th Nat) : AV := .tup [.own 0 (fun _ => 0) n 1, .b fun _ => true]
abbrev noL : AV := .tup [.v (.slice none 0 0), .b fun _ => false]
abbrev blkF (fr : Bool) (n : Th Nat) (x : Nat → Nat) : Option (Bool × Blk) := some (fr, .tab n 1 fun i _ => .f .f32 fun _ => x (i .u))
theorem noL_to {H H' : Heap} {σ : List Nat} : AllTo H H' σ true [noL] [noL] := .cons (.tup (.cons (.v _) (.cons (.b rfl) .nil))) .nil
theorem yesL_to {fr fr' : Bool} {n : Th Nat} {g g' : Th Nat → Nat → AV} : AllTo [some (fr, .tab n 1 g)] [some (fr', .tab n 1 g')] [0] true [yesL n] [yesL n] := .cons (.tup (.cons (.own rfl rfl rfl rfl) (.cons (.b rfl) .nil))) .nil
def kGive : Kg
  | [.own 0 i n 1], [some (_, .tab m 1 g)] => some (.two (fun _ => finN (m .u) (rdF g)) (.one (yesL m) [blkF false m (rdF g)] fun _ => IsF m g ∧ i .u = 0 ∧ n .u = m .u) (.one noL [blkF false m (rdF g)] fun _ => IsF m g ∧ i .u = 0 ∧ n .u = m .u))
  | _, _ => none
theorem own_sub {i n m : Th Nat} (hi : i .u = 0) (hn : n .u = m .u) : AllSub [.own 0 i n 1] [.own 0 (fun _ => 0) m 1] := ⟨fun w ρ N L v h => by
  cases h with | own hid hv => rw [hi, hn] at hv; exact .own hid hv, trivial⟩
/-- A list that is made, where all its numbers are finite. -/
abbrev ansL (n : Th Nat) (x : Nat → Nat) (ok : Bool) (p : Prop) : Ans := .two (fun _ => ok) (.one (yesL n) [blkF true n x] fun _ => p) (.one noL [] fun _ => p)
def kOver : Kg
  | [a, .f .f32 d], [] => match asLg a with
    | some (n, g) => some (ansL n (overX (rdF g) (d .u)) (finN (n .u) (overX (rdF g) (d .u))) (IsF n g ∧ n .u ≤ 1048576))
    | none => none
  | _, _ => none
end Go.Proofs.YtkglnfkbejoheaaDoor
set_option linter.unusedSimpArgs false
set_option linter.unusedVariables false
namespace Go.Proofs.YtkglnfkbejoheaaDoor
open Go.Aw
/-- One element is another one. -/
theorem put_one {H H' : Heap} {σ : List Nat} {keep : Bool} {q j : Nat} {a b B : AV} (h1 : j = q → AvTo H H' σ keep a b) (h2 : j ≠ q → AvTo H H' σ keep B b) :
    AvTo H H' σ keep (if j = q then if 0 ≤ 0 ∧ 0 < [a].length then [a].getD (0 - 0) .dead else B else B) b := by
  by_cases e : j = q
  · simp only [e, if_true, List.length_cons, List.length_nil, Nat.zero_add, Nat.le_refl, Nat.zero_lt_one, and_self, Nat.sub_self, List.getD_cons_zero]
    exact h1 e
  · simp only [e, if_false]
    exact h2 e
def dotN (x y : Nat → Nat) : Nat → Nat
  | 0 => 0
  | k + 1 => fadd .f32 (dotN x y k) (fmul .f32 (x k) (y k))
theorem dotN_congr {x x' y y' : Nat → Nat} : ∀ {k : Nat}, (∀ j, j < k → x j = x' j) → (∀ j, j < k → y j = y' j) → dotN x y k = dotN x' y' k := by
  intro k
  induction k with
  | zero => intro _ _; rfl
  | succ k ih => intro h1 h2; simp only [dotN, h1 k (Nat.lt_succ_self k), h2 k (Nat.lt_succ_self k), ih (fun j hj => h1 j (by omega)) fun j hj => h2 j (by omega)]
def kDot : Kr
  | [a, b] => match asL a, asL b with
    | some (n, g), some (m, h) => some (.f .f32 fun _ => dotN (rdF g) (rdF h) (n .u), [], fun _ => IsF n g ∧ IsF m h ∧ n .u ≤ m .u)
    | _, _ => none
  | _ => none
def kClone : Kr
  | [a] => match asL a with
    | some (n, g) => some (.own 0 (fun _ => 0) n 1, [blkF true n (rdF g)], fun _ => IsF n g ∧ 0 < n .u ∧ n .u ≤ 1048576)
    | none => none
  | _ => none
end Go.Proofs.YtkglnfkbejoheaaDoor
set_option linter.unusedSimpArgs false
set_option linter.unusedVariables false
namespace Go.Proofs.YtkglnfkbejoheaaDoor
open Go.Aw
theorem isList_le {n : Nat} {x : Nat → Nat} (h : isList n x = true) : 1 ≤ n ∧ n ≤ 128 := by simp only [isList, Bool.and_eq_true, decide_eq_true_eq] at h; exact h.2
theorem finN_congr {x y : Nat → Nat} {n : Nat} (h : ∀ j, j < n → x j = y j) : finN n x = finN n y := by
  unfold finN allN
  rw [Bool.eq_iff_iff]
  simp only [List.all_eq_true, List.mem_range]
  exact ⟨fun k j hj => by rw [← h j hj]; exact k j hj, fun k j hj => by rw [h j hj]; exact k j hj⟩
def halfX (y : Nat → Nat) (i : Nat) : Nat := fmul .f32 1056964608 (fadd .f32 (y (i - 1)) (y (i + 1)))
def stepX (n : Nat) (y : Nat → Nat) (i : Nat) : Nat := bif decide (1 ≤ i) && (decide (i + 1 < n) && flt .f32 (halfX y i) (y i)) then halfX y i else y i
def baseN (n : Nat) (x : Nat → Nat) : Nat → Nat → Nat
  | 0 => x
  | r + 1 => stepX n (baseN n x r)
/-- The next list, as far as it is made. -/
def partX (n : Nat) (y : Nat → Nat) (i j : Nat) : Nat := bif decide (j < i) then stepX n y j else y j
theorem partX_one (n : Nat) (y : Nat → Nat) (j : Nat) : partX n y 1 j = y j := by
  unfold partX stepX
  by_cases h : j < 1
  · have h' : ¬ 1 ≤ j := by omega
    simp [h, h']
  · simp [h]
theorem partX_end (n : Nat) (y : Nat → Nat) (i j : Nat) (hi : n ≤ i + 1) : partX n y i j = stepX n y j := by
  unfold partX
  by_cases h : j < i
  · simp [h]
  · have : ¬ j + 1 < n := by omega
    simp [h, stepX, this]
theorem partX_succ {n : Nat} {y : Nat → Nat} {i j : Nat} (h : j ≠ i) : partX n y (i + 1) j = partX n y i j := by
  unfold partX
  rw [show decide (j < i + 1) = decide (j < i) from decide_eq_decide.2 (by omega)]
theorem partX_at (n : Nat) (y : Nat → Nat) (i : Nat) : partX n y (i + 1) i = stepX n y i := by simp [partX]
theorem partX_keep {n : Nat} {y : Nat → Nat} {i : Nat} : partX n y i i = y i := by simp [partX]
theorem step_yes {n : Nat} (y : Nat → Nat) (i : Nat) (h1 : 1 ≤ i) (h2 : i + 1 < n) (hf : flt .f32 (fmul .f32 (canon .f32 1056964608) (fadd .f32 (y ((i : Int) - 1).toNat) (y ((i : Int) + 1).toNat))) (y i) = true) :
    stepX n y i = fmul .f32 (canon .f32 1056964608) (fadd .f32 (y ((i : Int) - 1).toNat) (y ((i : Int) + 1).toNat)) := by
  rw [show ((i : Int) - 1).toNat = i - 1 by omega, show ((i : Int) + 1).toNat = i + 1 by omega, show canon .f32 1056964608 = 1056964608 from by decide] at *
  have h3 : decide (1 ≤ i) = true := by simpa using h1
  have h4 : decide (i + 1 < n) = true := by simpa using h2
  simp only [stepX, h3, h4, halfX, hf, Bool.and_self, cond_true]
theorem step_no {n : Nat} (y : Nat → Nat) (i : Nat) (h1 : 1 ≤ i) (h2 : i + 1 < n) (hf : flt .f32 (fmul .f32 (canon .f32 1056964608) (fadd .f32 (y ((i : Int) - 1).toNat) (y ((i : Int) + 1).toNat))) (y i) = false) :
    stepX n y i = y i := by
  rw [show ((i : Int) - 1).toNat = i - 1 by omega, show ((i : Int) + 1).toNat = i + 1 by omega, show canon .f32 1056964608 = 1056964608 from by decide] at hf
  simp only [stepX, halfX, hf, Bool.and_false, cond_false]
def kBase : Kr
  | [a, .i .i64 r] => match asL a with
    | some (n, g) => some (.own 0 (fun _ => 0) n 1, [blkF true n (baseN (n .u) (rdF g) (r .u).toNat)], fun _ => IsF n g ∧ n .u ≤ 128 ∧ 0 ≤ r .u ∧ r .u ≤ 64)
    | none => none
  | _ => none
def okBase (n : Nat) (x : Nat → Nat) (r : Int) : Bool := isList n x && (decide (0 ≤ r) && decide (r ≤ 64)) && finN n (baseN n x r.toNat)
def kBaseOf : Kg
  | [a, .i .i64 r], [] => match asLg a with
    | some (n, g) => some (ansL n (baseN (n .u) (rdF g) (r .u).toNat) (okBase (n .u) (rdF g) (r .u)) (IsF n g))
    | none => none
  | _, _ => none
end Go.Proofs.YtkglnfkbejoheaaDoor
