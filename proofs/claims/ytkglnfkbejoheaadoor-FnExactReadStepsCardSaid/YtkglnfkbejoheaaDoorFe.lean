/- Lists that are handed on when all their numbers are finite; sums; lists divided by a number. -/
import Derived.Test.YtkglnfkbejoheaaDoorFd
set_option linter.unusedSimpArgs false
set_option linter.unusedVariables false
namespace Go.Proofs.YtkglnfkbejoheaaDoor
open Go.Aw
def noKr : Kr := fun _ => none
theorem noKr_tells (P : Program) (f : FuncId) : Tells P f (.r noKr) := fun args r H' p h => by cases h
/-- The list itself and yes, where all numbers are finite. -/
def kGiveYes : Km
  | i, n, 1, [], .tab m 1 g => some (.tup [.own 0 (fun _ => 0) m 1, .b fun _ => true], .tab m 1 fun i _ => .f .f32 fun _ => rdF g (i .u), fun _ => IsF m g ∧ i .u = 0 ∧ n .u = m .u ∧ finN (m .u) (rdF g) = true)
  | _, _, _, _, _ => none
def kGiveNo : Km
  | i, n, 1, [], .tab m 1 g => some (.tup [.v (.slice none 0 0), .b fun _ => false], .tab m 1 fun i _ => .f .f32 fun _ => rdF g (i .u), fun _ => IsF m g ∧ i .u = 0 ∧ n .u = m .u ∧ finN (m .u) (rdF g) = false)
  | _, _, _, _, _ => none
def sumN (x : Nat → Nat) : Nat → Nat
  | 0 => 0
  | k + 1 => fadd .f32 (sumN x k) (x k)
def kSum : Kr
  | [a] => match asL a with
    | some (n, g) => some (.f .f32 fun _ => sumN (rdF g) (n .u), [], fun _ => IsF n g)
    | none => none
  | _ => none
def overX (x : Nat → Nat) (d : Nat) (i : Nat) : Nat := fdiv .f32 (x i) d
def kOverYes : Kr
  | [a, .f .f32 d] => match asL a with
    | some (n, g) => some (.tup [.own 0 (fun _ => 0) n 1, .b fun _ => true], [some (true, .tab n 1 fun i _ => .f .f32 fun _ => overX (rdF g) (d .u) (i .u))], fun _ => IsF n g ∧ n .u ≤ 1048576 ∧ finN (n .u) (overX (rdF g) (d .u)) = true)
    | none => none
  | _ => none
def kOverNo : Kr
  | [a, .f .f32 d] => match asL a with
    | some (n, g) => some (.tup [.v (.slice none 0 0), .b fun _ => false], [], fun _ => IsF n g ∧ n .u ≤ 1048576 ∧ finN (n .u) (overX (rdF g) (d .u)) = false)
    | none => none
  | _ => none
end Go.Proofs.YtkglnfkbejoheaaDoor
