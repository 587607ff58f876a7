/- Lists of texts: the laws' own comparisons, marks and readings of marks. -/
import Derived.Test.YtkglnfkbejoheaaDoorFd
import Derived.Test.YtkglnfkbejoheaaDoorSf
set_option linter.unusedSimpArgs false
set_option linter.unusedVariables false
namespace Go.Proofs.YtkglnfkbejoheaaDoor
open Go.Aw
open Go.Lib (indexByte countByte extract_eq size_eq decDigits itoa)
def sOf : AV → ByteArray
  | .s x => x .u
  | _ => ⟨#[]⟩
def rdT (g : Th Nat → Nat → AV) : Nat → ByteArray := fun i => sOf (g (fun _ => i) 0)
def IsT (n : Th Nat) (g : Th Nat → Nat → AV) : Prop := n .u ≤ 9223372036854775807 ∧ ∀ i, i < n .u → ∃ y, g (fun _ => i) 0 = .s y
abbrev listT (fr : Bool) (n : Th Nat) (x : Nat → ByteArray) : AV := .ro fr n 1 fun i _ => .s fun _ => x (i .u)
def markT (k : Int) : ByteArray := toB (109 :: decDigits k.toNat)
def kMarkText : Kr
  | [.i .i64 k] => some (.s fun _ => markT (k .u), [], fun _ => 0 ≤ k .u ∧ k .u ≤ 9223372036854775807)
  | _ => none
theorem toB_app (a b : List UInt8) : toB a ++ toB b = toB (a ++ b) := by
  apply ByteArray.ext
  simp [toB]
theorem dec_len' : ∀ (k u : Nat), u < 10 ^ (k + 1) → (decDigits u).length ≤ k + 1 := by
  intro k
  induction k with
  | zero => intro u h; rw [dec_small (by simpa using h)]; exact Nat.le_refl _
  | succ k ih =>
    intro u h
    by_cases h10 : u < 10
    · rw [dec_small h10]; simp
    · rw [dec_big h10, List.length_append]
      have := ih (u / 10) (by rw [Nat.pow_succ] at h; omega)
      simp only [List.length_cons, List.length_nil]
      omega
theorem dec_len (u : Nat) (h : u ≤ 9223372036854775807) : (decDigits u).length ≤ 19 := dec_len' 18 u (by omega)
theorem size_toB (o : List UInt8) : (toB o).size = o.length := by simp [toB, ByteArray.size]
theorem one_digit {d : Nat} (h : d ≤ 9) : strOfNums (List.map (fun i => bOf ([AV.i IntKind.u8 fun _ => IntKind.u8.wrap (48 + (d : Int))].getD (i * 1) AV.dead)) (List.range 1)) = toB [UInt8.ofNat (48 + d)] := by
  show strOfNums [IntKind.u8.wrap (48 + (d : Int))] = _
  rw [wrap_digit h]
  show (⟨[UInt8.ofNat (((UInt8.ofNat (48 + d)).toNat : Int)).toNat].toArray⟩ : ByteArray) = _
  rw [Int.toNat_natCast, UInt8.ofNat_toNat]
  rfl
theorem Free.listT {fr : Bool} {n : Th Nat} {x : Th Nat → Nat → Th ByteArray} : Free (.ro fr n 1 fun i c => .s (x i c)) := .ro fun _ _ _ _ => .s
theorem Sub.asT {a : AV} {n : Th Nat} {g : Th Nat → Nat → AV} (h : asL a = some (n, g)) (hI : IsT n g) : Sub (unfr a) (.ro false n 1 fun i _ => .s fun _ => rdT g (i .u)) := by
  unfold asL at h
  split at h <;> cases h
  · intro w ρ N L v hs
    simp only [unfr] at hs
    cases hs with
    | ro0 h0 => exact .ro0 h0
    | ro u hn hq hc hsim =>
      refine .ro u hn hq hc fun i c hi hcc => ?_
      obtain rfl : c = 0 := by omega
      obtain ⟨y, hy⟩ := hI.2 i hi
      have := hsim i 0 hi (by omega)
      simp only [hy, unfr] at this
      simp only [rdT, hy, sOf]
      exact this
  · intro w ρ N L v hs
    simp only [unfr] at hs
    cases hs.v_inv
    exact .ro0 rfl
def eqTL (n : Nat) (x : Nat → ByteArray) (m : Nat) (y : Nat → ByteArray) : Bool := decide (n = m) && allN (fun i => (x i).toList == (y i).toList) n
theorem eqTL_self (n : Nat) (x : Nat → ByteArray) : eqTL n x n x = true := by
  simp only [eqTL, decide_true, Bool.true_and]
  exact allN_true fun j _ => beq_self_eq_true _
def kEqT : Kr
  | [a, b] => match asL a, asL b with
    | some (n, g), some (m, h) => some (.b fun _ => eqTL (n .u) (rdT g) (m .u) (rdT h), [], fun _ => IsT n g ∧ IsT m h)
    | _, _ => none
  | _ => none
def kMarkT : Km
  | i, n, 1, [.i .i64 k], .tab m 1 g => some (.i .i64 fun _ => k .u + (n .u : Int), .tab m 1 fun i _ => .s fun _ => markT (k .u + (i .u : Int)), fun _ => IsT m g ∧ i .u = 0 ∧ n .u = m .u ∧ n .u ≤ 1048576 ∧ 0 ≤ k .u ∧ k .u ≤ 1099511627776)
  | _, _, _, _, _ => none
def kMarkNilT : Kr
  | [.v (.slice none 0 0), .i .i64 k] => some (.i .i64 fun _ => k .u, [], fun _ => True)
  | _ => none
def heldTL (n : Nat) (x : Nat → ByteArray) (k : Int) : Int := bif allN (fun i => (x i).toList == (markT (k + (i : Int))).toList) n then k + n else -1
theorem heldTL_mark (n : Nat) (k : Int) : heldTL n (fun i => markT (k + (i : Int))) k = k + n := by
  unfold heldTL
  rw [allN_true fun j _ => beq_self_eq_true _]
  rfl
theorem heldTL_zero (x : Nat → ByteArray) (k : Int) : heldTL 0 x k = k := by simp [heldTL, allN]
def kHeldT : Kr
  | [a, .i .i64 k] => match asL a with
    | some (n, g) => some (.i .i64 fun _ => heldTL (n .u) (rdT g) (k .u), [], fun _ => IsT n g ∧ n .u ≤ 1048576 ∧ 0 ≤ k .u ∧ k .u ≤ 1099511627776)
    | none => none
  | _ => none
end Go.Proofs.YtkglnfkbejoheaaDoor
