/- What the laws' own helpers answer: copies, comparisons, marks. -/
import Derived.Test.YtfdmmbcjidkmoaaFc
import Derived.Test.YtfdmmbcjidkmoaaAwo
set_option linter.unusedSimpArgs false
set_option linter.unusedVariables false
namespace Go.Proofs.Ytfdmmbcjidkmoaa
open Go.Aw
def kTo : Kr
  | [a] => match asL a with
    | some (n, g) => some (.own 0 (fun _ => 0) n 1, [some (true, .tab n 1 fun i _ => .f .f32 fun _ => rdF g (i .u))], fun _ => IsF n g ∧ n .u ≤ 1048576)
    | none => none
  | _ => none
def same64 (a b : Nat) : Bool := bif !feq .f64 a a || !feq .f64 b b then !feq .f64 a a && !feq .f64 b b else bif feq .f64 a 0 && feq .f64 b 0 then fgt .f64 (fdiv .f64 4607182418800017408 a) 0 == fgt .f64 (fdiv .f64 4607182418800017408 b) 0 else feq .f64 a b
theorem same64_self (a : Nat) : same64 a a = true := by
  unfold same64
  cases h : feq .f64 a a
  · rfl
  · cases h0 : feq .f64 a 0
    · simp
    · simp
theorem canon1 : canon .f64 4607182418800017408 = 4607182418800017408 := by decide
def eqL (n : Nat) (x : Nat → Nat) (m : Nat) (y : Nat → Nat) : Bool := decide (n = m) && allN (fun i => same64 (f2f .f32 (x i) .f64) (f2f .f32 (y i) .f64)) n
theorem eqL_self (n : Nat) (x : Nat → Nat) : eqL n x n x = true := by
  simp only [eqL, decide_true, Bool.true_and]
  exact allN_true fun j _ => same64_self _
def kSame : Kr
  | [.f .f64 a, .f .f64 b] => some (.b fun _ => same64 (a .u) (b .u), [], fun _ => True)
  | _ => none
def kMark : Km
  | i, n, 1, [.i .i64 k], .tab m 1 g => some (.i .i64 fun _ => k .u + (n .u : Int), .tab m 1 fun i _ => .f .f32 fun _ => itof .f32 (k .u + (i .u : Int)), fun _ => IsF m g ∧ i .u = 0 ∧ n .u = m .u ∧ n .u ≤ 1048576 ∧ 0 ≤ k .u ∧ k .u ≤ 1099511627776)
  | _, _, _, _, _ => none
def kMarkNil : Kr
  | [.v (.slice none 0 0), .i .i64 k] => some (.i .i64 fun _ => k .u, [], fun _ => True)
  | _ => none
def heldL (n : Nat) (x : Nat → Nat) (k : Int) : Int := bif allN (fun i => feq .f32 (x i) (itof .f32 (k + (i : Int)))) n then k + n else -1
theorem order_self {d : Ieee.Datum} (h : d.isNaN = false) : d.order d = some .eq := by
  cases d with
  | nan s t => cases h
  | infinity s => cases s <;> rfl
  | number s m i => simp [Ieee.Datum.order]
theorem feq_self {k : FloatKind} {x : Nat} (h : isNaN k x = false) : feq k x x = true := by
  have h' : (k.format.read x).isNaN = false := h
  unfold feq Ieee.Format.order
  rw [order_self h']
  rfl
theorem feq_itof (n : Int) : feq .f32 (itof .f32 n) (itof .f32 n) = true := feq_self (isNaN_encode_number ..)
theorem heldL_mark (n : Nat) (k : Int) : heldL n (fun i => itof .f32 (k + (i : Int))) k = k + n := by
  unfold heldL
  rw [allN_true fun j _ => feq_itof _]
  rfl
theorem one_add_len (n : Nat) : ((1 : Int) + (n : Int) < 0) ↔ False := ⟨fun h => by omega, fun h => h.elim⟩
theorem heldL_zero (x : Nat → Nat) (k : Int) : heldL 0 x k = k := by simp [heldL, allN]
theorem one_neg : ((1 : Int) < 0) ↔ False := by decide
theorem one_le_tb : ((1 : Int) ≤ 1099511627776) ↔ True := by decide
theorem zero_le_one' : ((0 : Int) ≤ 1) ↔ True := by decide
def kHeld : Kr
  | [a, .i .i64 k] => match asL a with
    | some (n, g) => some (.i .i64 fun _ => heldL (n .u) (rdF g) (k .u), [], fun _ => IsF n g ∧ n .u ≤ 1048576 ∧ 0 ≤ k .u ∧ k .u ≤ 1099511627776)
    | none => none
  | _ => none
def kEq : Kr
  | [a, b] => match asL a, asL b with
    | some (n, g), some (m, h) => some (.b fun _ => eqL (n .u) (rdF g) (m .u) (rdF h), [], fun _ => IsF n g ∧ IsF m h)
    | _, _ => none
  | _ => none
end Go.Proofs.Ytfdmmbcjidkmoaa
