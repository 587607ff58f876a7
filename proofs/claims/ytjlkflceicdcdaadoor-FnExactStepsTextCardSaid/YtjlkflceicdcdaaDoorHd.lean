/- Lists with a sum of squares of 1, on both sides. -/
import Derived.Test.YtjlkflceicdcdaaDoorHb
import Derived.Test.YtjlkflceicdcdaaDoorGc
set_option linter.unusedSimpArgs false
set_option linter.unusedVariables false
namespace Go.Proofs.YtjlkflceicdcdaaDoor
open Go.Aw
theorem fin_num {x : Nat} (h : isFin x = true) : isNaN .f32 x = false := by
  cases hn : isNaN .f32 x with
  | false => rfl
  | true =>
    exfalso
    have h' : (FloatKind.f32.format.read x).isNaN = true := hn
    have e : fsub .f32 x x = nanOf .f32 := by
      unfold fsub Ieee.Format.sub
      cases hd : FloatKind.f32.format.read x with
      | nan s t => rfl
      | infinity s => rw [hd] at h'; cases h'
      | number s m i => rw [hd] at h'; cases h'
    rw [isFin, e] at h
    exact absurd h (by decide +kernel)
theorem order_some {d e : Ieee.Datum} (hd : d.isNaN = false) (he : e.isNaN = false) : ∃ o, d.order e = some o := by
  cases d <;> cases e <;> first | (cases hd; done) | (cases he; done) | exact ⟨_, rfl⟩
theorem le_not_gt {k : FloatKind} {x y : Nat} (hx : isNaN k x = false) (hy : isNaN k y = false) : fle k x y = !fgt k x y := by
  obtain ⟨o, ho⟩ := order_some (d := k.format.read x) (e := k.format.read y) hx hy
  unfold fle flt feq fgt Ieee.Format.order
  rw [ho]
  cases o <;> rfl
def notPos (x : Nat) : Bool := !isFin x || fle .f32 x 0
def posF (x : Nat) : Bool := isFin x && fgt .f32 x 0
theorem not_notPos (x : Nat) : (!notPos x) = posF x := by
  unfold notPos posF
  cases h : isFin x with
  | false => rfl
  | true => rw [le_not_gt (fin_num h) (by decide +kernel)]; simp
def posN (n : Nat) (x : Nat → Nat) : Bool := allN (fun i => posF (x i)) n
theorem posN_one (x : Nat → Nat) : posN 1 x = posF (x 0) := by simp [posN, allN]
theorem pos_of {y : Nat} {b : Bool} (h : posN 1 (fun i => match [AV.f .f32 fun _ => y].getD (i * 1) .dead with
  | .f _ x => x .u
  | _ => 0) = b) : posF y = b := by rw [posN_one] at h; exact h
def kPosN : Kr
  | [a] => match asL a with
    | some (n, g) => some (.b fun _ => posN (n .u) (rdF g), [], fun _ => IsF n g)
    | none => none
  | _ => none
/-! Normal lists. -/
def normX (n : Nat) (x : Nat → Nat) : Nat → Nat := overX x (rootF (dotN x x n))
def okNorm (n : Nat) (x : Nat → Nat) : Bool := posF (dotN x x n) && finN n (normX n x)
def okNormal (n : Nat) (x : Nat → Nat) : Bool := isList n x && okNorm n x
theorem not_norm {n : Nat} {x : Nat → Nat} (h : (!isFin (dotN x x n) || !fgt .f32 (dotN x x n) 0) = true) : okNorm n x = false := by
  unfold okNorm posF
  cases h1 : isFin (dotN x x n) <;> simp_all
theorem is_pos {y : Nat} (h : (!isFin y || !fgt .f32 y 0) = false) : posF y = true := by
  unfold posF
  cases h1 : isFin y <;> simp_all
def kNorm : Kg
  | [a], [] => match asLg a with
    | some (n, g) => some (ansL n (normX (n .u) (rdF g)) (okNorm (n .u) (rdF g)) (IsF n g ∧ n .u ≤ 1048576))
    | none => none
  | _, _ => none
def kNormal : Kg
  | [a], [] => match asLg a with
    | some (n, g) => some (ansL n (normX (n .u) (rdF g)) (okNormal (n .u) (rdF g)) (IsF n g))
    | none => none
  | _, _ => none
/-! How alike two lists are. -/
def likeV (n : Nat) (x : Nat → Nat) (m : Nat) (y : Nat → Nat) : Nat := dotN (normX n x) (normX m y) n
def okLikeV (n : Nat) (x : Nat → Nat) (m : Nat) (y : Nat → Nat) : Bool := okNorm n x && (okNorm m y && isFin (likeV n x m y))
def okLike (n : Nat) (x : Nat → Nat) (m : Nat) (y : Nat → Nat) : Bool := isTwo n x m y && okLikeV n x m y
theorem okLike_eq (n : Nat) (x : Nat → Nat) (m : Nat) (y : Nat → Nat) : okLike n x m y = (decide (n = m) && (okNormal n x && (okNormal m y && isFin (likeV n x m y)))) := by
  simp only [okLike, okLikeV, okNormal, isTwo]
  cases isList n x <;> cases isList m y <;> cases decide (n = m) <;> cases okNorm n x <;> cases okNorm m y <;> rfl
def kLikeV : Kr
  | [a, b] => match asL a, asL b with
    | some (n, g), some (m, h) => some (numA (likeV (n .u) (rdF g) (m .u) (rdF h)) (okLikeV (n .u) (rdF g) (m .u) (rdF h)), [], fun _ => IsF n g ∧ IsF m h ∧ n .u = m .u ∧ n .u ≤ 1048576)
    | _, _ => none
  | _ => none
def kLike : Kr
  | [a, b] => match asL a, asL b with
    | some (n, g), some (m, h) => some (numA (likeV (n .u) (rdF g) (m .u) (rdF h)) (okLike (n .u) (rdF g) (m .u) (rdF h)), [], fun _ => IsF n g ∧ IsF m h)
    | _, _ => none
  | _ => none
end Go.Proofs.YtjlkflceicdcdaaDoor
