/- Lists that are moved. -/
import Derived.Test.YtjlkflceicdcdaaDoorFb
set_option linter.unusedSimpArgs false
set_option linter.unusedVariables false
namespace Go.Proofs.YtjlkflceicdcdaaDoor
open Go.Aw
/-- Element i of a list that is moved to the right. -/
def shiftX (n : Nat) (x : Nat → Nat) (d : Int) (i : Nat) : Nat := bif decide (0 ≤ (i : Int) - d) && decide ((i : Int) - d ≤ (n : Int) - 1) then x ((i : Int) - d).toNat else 0
def kShift : Kr
  | [a, .i .i64 by_] => match asL a with
    | some (n, g) => some (.own 0 (fun _ => 0) n 1, [some (true, .tab n 1 fun i _ => .f .f32 fun _ => shiftX (n .u) (rdF g) (by_ .u) (i .u))], fun _ => IsF n g ∧ n .u ≤ 128 ∧ -128 ≤ by_ .u ∧ by_ .u ≤ 128)
    | none => none
  | _ => none
def okShift (n : Nat) (x : Nat → Nat) (d : Int) : Bool := isList n x && (decide (-128 ≤ d) && decide (d ≤ 128))
def kShiftYes : Kr
  | [a, .i .i64 d] => match asL a with
    | some (n, g) => some (.tup [.own 0 (fun _ => 0) n 1, .b fun _ => true], [some (true, .tab n 1 fun i _ => .f .f32 fun _ => shiftX (n .u) (rdF g) (d .u) (i .u))], fun _ => IsF n g ∧ okShift (n .u) (rdF g) (d .u) = true)
    | none => none
  | _ => none
def kShiftNo : Kr
  | [a, .i .i64 d] => match asL a with
    | some (n, g) => some (.tup [.v (.slice none 0 0), .b fun _ => false], [], fun _ => IsF n g ∧ okShift (n .u) (rdF g) (d .u) = false)
    | none => none
  | _ => none
theorem isList_fin (n : Nat) (x : Nat → Nat) : (decide (1 ≤ (n : Int)) && (decide (n ≤ 128) && finN n x)) = isList n x := by
  simp only [isList, finN, show decide (1 ≤ (n : Int)) = decide (1 ≤ n) from decide_eq_decide.2 (by omega)]
  cases allN (fun i => isFin (x i)) n <;> simp
end Go.Proofs.YtjlkflceicdcdaaDoor
