/- Texts of numbers, on both sides. -/
import Derived.Test.YtkglnfkbejoheaaDoorTe
import Derived.Test.YtkglnfkbejoheaaDoorHb
import Derived.Shelf.Strings.OnBuilder
set_option linter.unusedSimpArgs false
set_option linter.unusedVariables false
namespace Go.Proofs.YtkglnfkbejoheaaDoor
open Go.Aw
open Go.RowKit
open Go.Lib (indexByte countByte extract_eq size_eq decDigits itoa)
/-- Texts with a comma between them. -/
def jn (y : Nat → ByteArray) : Nat → ByteArray
  | 0 => ⟨#[]⟩
  | k + 1 => bif decide (k = 0) then y 0 else jn y k ++ (⟨⟨[44]⟩⟩ ++ y k)
theorem jn_one (y : Nat → ByteArray) : jn y 1 = y 0 := rfl
theorem jn_succ (y : Nat → ByteArray) {k : Nat} (h : 1 ≤ k) : jn y (k + 1) = jn y k ++ (⟨⟨[44]⟩⟩ ++ y k) := by
  show (bif decide (k = 0) then _ else _) = _
  rw [decide_eq_false (by omega)]
  rfl
def sepB : ByteArray := ⟨⟨[44]⟩⟩
theorem joinTail_snoc (sep : List UInt8) (r : List (List UInt8)) (a : List UInt8) : Lib.joinTail sep (r ++ [a]) = Lib.joinTail sep r ++ sep ++ a := by
  simp [Lib.joinTail, List.append_assoc]
theorem toB_data (l : List UInt8) : (toB l).data.toList = l := by simp [toB]
theorem data_toB (b : ByteArray) : toB b.data.toList = b := rfl
theorem jn_join (y : Nat → ByteArray) : ∀ n, 1 ≤ n → toB (Lib.join ((List.range n).map fun i => (y i).data.toList) [44]) = jn y n := by
  have h : ∀ k, toB ((y 0).data.toList ++ Lib.joinTail [44] ((List.range k).map fun i => (y (i + 1)).data.toList)) = jn y (k + 1) := by
    intro k
    induction k with
    | zero => simp [Lib.joinTail, jn]; rfl
    | succ k ih =>
      rw [jn_succ y (by omega), ← ih, List.range_succ, List.map_append, List.map_singleton, joinTail_snoc]
      rw [show (⟨⟨[44]⟩⟩ ++ y (k + 1) : ByteArray) = toB ([44] ++ (y (k + 1)).data.toList) by rw [← toB_app]; rfl, toB_app]
      simp only [List.append_assoc]
  intro n hn
  obtain ⟨k, rfl⟩ : ∃ k, n = k + 1 := ⟨n - 1, by omega⟩
  rw [List.range_succ_eq_map, List.map_cons, Lib.join_cons, List.map_map]
  exact h k
theorem jn_size (y : Nat → ByteArray) (hy : ∀ i, (y i).size = 8) : ∀ n, (jn y n).size ≤ 9 * n
  | 0 => Nat.le_refl _
  | k + 1 => by
    have ih := jn_size y hy k
    by_cases h : k = 0
    · subst h; rw [jn_one, hy]; decide
    · rw [jn_succ y (by omega), ByteArray.size_append, ByteArray.size_append, hy]
      have : (⟨⟨[44]⟩⟩ : ByteArray).size = 1 := rfl
      omega
/-! ### Join -/
def kJoin : Kr
  | [a, .s sep] => match asL a with
    | some (n, g) => some (.s fun _ => toB (Lib.join ((List.range (n .u)).map fun i => (rdT g i).data.toList) (sep .u).data.toList), [], fun _ => IsT n g ∧ n .u ≤ 1048576 ∧ (Lib.join ((List.range (n .u)).map fun i => (rdT g i).data.toList) (sep .u).data.toList).length ≤ 140737488355328)
    | none => none
  | _ => none
/-! ### The program's side -/
def W32T (n : Nat) (x : Nat → Nat) : Prop := ∀ i, i < n → x i < 4294967296
def hexT (x : Nat → Nat) (i : Nat) : ByteArray := hexB (wordF (x i))
def numB (n : Nat) (x : Nat → Nat) : ByteArray := bif decide (n = 0) then ⟨⟨[110, 111, 110, 101]⟩⟩ else jn (hexT x) n
def kNone : Kr
  | [a] => match asL a with
    | some (n, g) => some (.s fun _ => bif decide (n .u = 0) then ⟨⟨[110, 111, 110, 101]⟩⟩ else jn (rdT g) (n .u), [], fun _ => IsT n g ∧ n .u ≤ 1048576 ∧ ∀ i, (rdT g i).size = 8)
    | none => none
  | _ => none
/-- The words of numbers, as a list. -/
abbrev blkN (k : Nat) (x : Nat → Nat) : Option (Bool × Blk) := some (true, .tab (fun _ => k) 1 fun i _ => .s fun _ => hexT x (i .u))
def textN (n : Nat) (x : Nat → Nat) : ByteArray := bif decide (n ≤ 256) then numB n x else ⟨#[]⟩
def kNumT : Kr
  | [a] => match asL a with
    | some (n, g) => some (.tup [.s fun _ => textN (n .u) (rdF g), .b fun _ => decide (n .u ≤ 256)], [], fun _ => IsF n g ∧ W32T (n .u) (rdF g))
    | none => none
  | _ => none
theorem hexT_size (x : Nat → Nat) (i : Nat) : (hexT x i).size = 8 := hexB_size _
/-! ### The reference's side -/
def kNT : Kr
  | [a] => match asL a with
    | some (n, g) => some (.s fun _ => numB (n .u) (rdF g), [], fun _ => IsF n g ∧ n .u ≤ 256 ∧ W32T (n .u) (rdF g))
    | none => none
  | _ => none
end Go.Proofs.YtkglnfkbejoheaaDoor
