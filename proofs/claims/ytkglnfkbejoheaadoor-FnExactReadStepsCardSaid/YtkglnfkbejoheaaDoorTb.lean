/- JournalOf: the reference's side; the law's own helpers for lists of texts: sizes and copies. -/
import Derived.Test.YtkglnfkbejoheaaDoorTa
set_option linter.unusedSimpArgs false
set_option linter.unusedVariables false
namespace Go.Proofs.YtkglnfkbejoheaaDoor
open Go.Aw
open Go.RowKit
open Go.Lib (indexByte countByte extract_eq size_eq decDigits itoa)
def sumT (x : Nat → ByteArray) : Nat → Nat
  | 0 => 0
  | k + 1 => sumT x k + (x k).size
theorem sumT_le (x : Nat → ByteArray) : ∀ {k n : Nat}, k ≤ n → sumT x k ≤ sumT x n := by
  intro k n h
  induction n with
  | zero => have : k = 0 := by omega
            rw [this]; exact Nat.le_refl _
  | succ n ih =>
    rcases Nat.lt_or_eq_of_le h with h' | h'
    · exact Nat.le_trans (ih (by omega)) (Nat.le_add_right _ _)
    · rw [h']; exact Nat.le_refl _
theorem sumT_at (x : Nat → ByteArray) {k n : Nat} (h : k < n) : (x k).size ≤ sumT x n := by
  have := sumT_le x (Nat.succ_le_of_lt h)
  have e : sumT x k.succ = sumT x k + (x k).size := rfl
  omega
theorem accJ_len (x : Nat → ByteArray) : ∀ k, sumT x k + 3 * k ≤ (accJ x k).1.length ∧ (accJ x k).1.length ≤ sumT x k + 21 * k
  | 0 => ⟨Nat.le_refl _, Nat.le_refl _⟩
  | k + 1 => by
    obtain ⟨h1, h2⟩ := accJ_len x k
    obtain ⟨c0, c1⟩ := accJ_chk x (k + 1)
    obtain ⟨d0, d1⟩ := decB_size c0 (Int.le_trans c1 (by decide))
    have e : (accJ x (k + 1)).1 = (accJ x k).1 ++ ((decB (accJ x (k + 1)).2 ++ ⟨#[32]⟩) ++ x k ++ ⟨#[10]⟩ : ByteArray).data.toList := rfl
    have hsz : ((decB (accJ x (k + 1)).2 ++ ⟨#[32]⟩) ++ x k ++ ⟨#[10]⟩ : ByteArray).data.toList.length = (decB (accJ x (k + 1)).2).size + 1 + (x k).size + 1 := by
      rw [← size_eq, ByteArray.size_append, ByteArray.size_append, ByteArray.size_append]; rfl
    have es : sumT x (k + 1) = sumT x k + (x k).size := rfl
    rw [e, List.length_append, hsz]
    omega
theorem accJ_mono (x : Nat → ByteArray) {k n : Nat} (h : k ≤ n) : (accJ x k).1.length ≤ (accJ x n).1.length := by
  induction n with
  | zero => have : k = 0 := by omega
            rw [this]; exact Nat.le_refl _
  | succ n ih =>
    rcases Nat.lt_or_eq_of_le h with h' | h'
    · refine Nat.le_trans (ih (by omega)) ?_
      show _ ≤ ((accJ x n).1 ++ _).length
      rw [List.length_append]
      exact Nat.le_add_right _ _
    · rw [h']; exact Nat.le_refl _
theorem isT_of (x : Nat → ByteArray) (n : Nat) (h : n ≤ 9223372036854775807) : IsT (fun _ => n) fun i _ => .s fun _ => x (i .u) := ⟨h, fun _ _ => ⟨_, rfl⟩⟩
/-! Copies and sizes. -/
def kToT : Kr
  | [a] => match asL a with
    | some (n, g) => some (.own 0 (fun _ => 0) n 1, [some (true, .tab n 1 fun i _ => .s fun _ => rdT g (i .u))], fun _ => IsT n g ∧ n .u ≤ 1048576)
    | none => none
  | _ => none
theorem FrB.listT {n : Th Nat} {x : Th Nat → Nat → Th ByteArray} : FrH [some (true, Blk.tab n 1 fun i c => .s (x i c))] := .cons (fun fr B h => by cases h; exact .tab fun _ _ _ _ => .s) .nil
def szT (n : Nat) (x : Nat → ByteArray) (l : Int) : Int := bif decide (l - (n : Int) - (sumT x n : Int) < 0) then -1 else l - (n : Int) - (sumT x n : Int)
def kSzT : Kr
  | [a, .i .i64 l] => match asL a with
    | some (n, g) => some (.i .i64 fun _ => szT (n .u) (rdT g) (l .u), [], fun _ => IsT n g ∧ (∀ i, i < n .u → (rdT g i).size ≤ 9223372036854775807) ∧ 0 ≤ l .u ∧ l .u ≤ 1048576)
    | none => none
  | _ => none
theorem szT_le {n : Nat} {x : Nat → ByteArray} {l : Int} (h : ¬ szT n x l < 0) (hl : l ≤ 1048576) : n ≤ 1048576 ∧ sumT x n ≤ 1048576 ∧ ∀ i, i < n → (x i).size ≤ 1048576 := by
  have h3 : ¬ l - (n : Int) - (sumT x n : Int) < 0 := by
    intro h'
    simp only [szT, decide_eq_true h', cond_true] at h
    omega
  refine ⟨by omega, by omega, fun i hi => ?_⟩
  have := sumT_at x hi
  omega
/-! The journal of the reference. -/
def kJrnS : Kr
  | [a] => match asL a with
    | some (n, g) => some (.s fun _ => toB (accJ (rdT g) (n .u)).1, [], fun _ => IsT n g ∧ n .u ≤ 1048576 ∧ sumT (rdT g) (n .u) ≤ 1048576)
    | none => none
  | _ => none
end Go.Proofs.YtkglnfkbejoheaaDoor
