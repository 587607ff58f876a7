/- The laws' own helpers for lists of lists: sizes, copies, comparisons. -/
/- Lists of spectra on both sides. -/
import Derived.Test.YthfgigndipjbjaaGd
set_option linter.unusedSimpArgs false
set_option linter.unusedVariables false
namespace Go.Proofs.Ythfgigndipjbjaa
open Go.Aw
def szL (n : Nat) (l : Int) : Int := bif decide (l - (n : Int) < 0) then -1 else l - (n : Int)
def kSz : Kr
  | [a, .i .i64 l] => match asL a with
    | some (n, g) => some (.i .i64 fun _ => szL (n .u) (l .u), [], fun _ => IsF n g ∧ 0 ≤ l .u ∧ l .u ≤ 1048576)
    | none => none
  | _ => none
def sumM (m : Nat → Nat) : Nat → Nat
  | 0 => 0
  | k + 1 => sumM m k + m k
theorem sumM_le (m : Nat → Nat) : ∀ {k n : Nat}, k ≤ n → sumM m k ≤ sumM m n := by
  intro k n h
  induction n with
  | zero => have : k = 0 := by omega
            rw [this]; exact Nat.le_refl _
  | succ n ih =>
    rcases Nat.lt_or_eq_of_le h with h' | h'
    · exact Nat.le_trans (ih (by omega)) (Nat.le_add_right _ _)
    · rw [h']; exact Nat.le_refl _
theorem sumM_at (m : Nat → Nat) {k n : Nat} (h : k < n) : m k ≤ sumM m n := by
  have := sumM_le m (Nat.succ_le_of_lt h)
  have e : sumM m k.succ = sumM m k + m k := rfl
  omega
def szLL (n : Nat) (m : Nat → Nat) (l : Int) : Int := bif decide (l - (n : Int) - (sumM m n : Int) < 0) then -1 else l - (n : Int) - (sumM m n : Int)
def kSzS : Kr
  | [a, .i .i64 l] => match asLL a with
    | some (n, g) => some (.i .i64 fun _ => szLL (n .u) (rowN g) (l .u), [], fun _ => IsFF n g ∧ 0 ≤ l .u ∧ l .u ≤ 1048576)
    | none => none
  | _ => none
theorem szLL_le {n : Nat} {m : Nat → Nat} {l : Int} (h : ¬ szLL n m l < 0) (hl : l ≤ 1048576) : n ≤ 1048576 ∧ ∀ i, i < n → m i ≤ 1048576 := by
  have h3 : ¬ l - (n : Int) - (sumM m n : Int) < 0 := by
    intro h'
    simp only [szLL, decide_eq_true h', cond_true] at h
    omega
  refine ⟨by omega, fun i hi => ?_⟩
  have := sumM_at m hi
  omega
/-! Copies. -/
def kToSS : Kr
  | [a] => match asLL a with
    | some (n, g) => some (listFF true n (rowN g) (rowX g), [], fun _ => IsFF n g ∧ n .u ≤ 1048576 ∧ ∀ i, i < n .u → rowN g i ≤ 1048576)
    | none => none
  | _ => none
theorem allFr_ll {n : Th Nat} {m : Nat → Nat} {x : Nat → Nat → Nat} : AllFr (listFF true n m x) := .ro fun _ _ _ _ => .ro fun _ _ _ _ => .f
abbrev blkRows (n : Th Nat) (m : Nat → Nat) (x : Nat → Nat → Nat) (i : Nat) : Option (Bool × Blk) := some (true, .tab n 1 fun j _ => .ro true (fun _ => bif decide (j .u < i) then m (j .u) else 0) 1 fun k _ => .f .f32 fun _ => x (j .u) (k .u))
/-! Comparisons. -/
def eqLL (n : Nat) (m : Nat → Nat) (x : Nat → Nat → Nat) (n' : Nat) (m' : Nat → Nat) (x' : Nat → Nat → Nat) : Bool := decide (n = n') && allN (fun i => eqL (m i) (x i) (m' i) (x' i)) n
theorem eqLL_self (n : Nat) (m : Nat → Nat) (x : Nat → Nat → Nat) : eqLL n m x n m x = true := by
  simp only [eqLL, decide_true, Bool.true_and]
  exact allN_true fun j _ => eqL_self _ _
def kEqSS : Kr
  | [a, b] => match asLL a, asLL b with
    | some (n, g), some (n', h) => some (.b fun _ => eqLL (n .u) (rowN g) (rowX g) (n' .u) (rowN h) (rowX h), [], fun _ => IsFF n g ∧ IsFF n' h)
    | _, _ => none
  | _ => none
end Go.Proofs.Ythfgigndipjbjaa
set_option linter.unusedSimpArgs false
set_option linter.unusedVariables false
namespace Go.Proofs.Ythfgigndipjbjaa
open Go.Aw
def areS (n : Nat) (m : Nat → Nat) (x : Nat → Nat → Nat) : Bool := allN (fun i => isTwo (m i) (x i) (m 0) (x 0)) n && (decide (1 ≤ n) && decide (n ≤ 8))
def kAre : Kr
  | [a] => match asLL a with
    | some (n, g) => some (.b fun _ => areS (n .u) (rowN g) (rowX g), [], fun _ => IsFF n g)
    | none => none
  | _ => none
/-! The program's side: a closure over the list of lists. -/
def asBox : AV → Option (Th Nat × (Th Nat → Nat → AV))
  | .rptr false 1 h => asLL (h 0)
  | _ => none
def notAre (l : Nat) (y : Nat → Nat) (m0 : Nat) : Bool := !isList l y || !decide (l = m0)
def kAre1 : Kr
  | [a, b] => match asL a, asBox b with
    | some (l, h), some (n, g) => some (.b fun _ => notAre (l .u) (rdF h) (rowN g 0), [], fun _ => IsF l h ∧ IsFF n g ∧ 0 < n .u)
    | _, _ => none
  | _ => none
theorem one_beq (n m : Nat) : ((n : Int) != (m : Int)) = !decide (n = m) := by rw [← int_beq]; rfl
theorem sub_asBox {a : AV} {n : Th Nat} {g : Th Nat → Nat → AV} (h : asBox a = some (n, g)) (hF : IsFF n g) : Sub (unfr a) (.rptr false 1 fun _ => listFF false n (rowN g) (rowX g)) := by
  unfold asBox at h
  split at h <;> first | (cases h; done) | skip
  intro w ρ N L v hs
  simp only [unfr] at hs
  cases hs with
  | rptr u hq hc hsim =>
    refine .rptr u hq hc fun c hcc => ?_
    obtain rfl : c = 0 := by omega
    exact Sub.asLL h hF _ _ _ _ _ (hsim 0 hcc)
def ctIsList1 : CT := [(21, .r kIsList)]
theorem ctIsList_ok' : CTok Try.prog ctIsList1 := .cons isList_tells (.nil _)
def firstAre (n : Nat) (m : Nat → Nat) (x : Nat → Nat → Nat) (m0 : Nat) : Int := firstN (fun i => notAre (m i) (x i) m0) n
theorem areS_impl (n : Nat) (m : Nat → Nat) (x : Nat → Nat → Nat) (h1 : 1 ≤ n) : allN (fun i => !notAre (m i) (x i) (m 0)) n = allN (fun i => isTwo (m i) (x i) (m 0) (x 0)) n := by
  rw [Bool.eq_iff_iff]
  simp only [allN, List.all_eq_true, List.mem_range]
  constructor
  · intro h i hi
    have h0 := h 0 (by omega)
    have hi' := h i hi
    simp only [notAre, Bool.not_or, Bool.not_not, Bool.and_eq_true] at h0 hi'
    simp only [isTwo, Bool.and_eq_true]
    exact ⟨hi'.1, h0.1, hi'.2⟩
  · intro h i hi
    have hi' := h i hi
    simp only [isTwo, Bool.and_eq_true] at hi'
    simp only [notAre, Bool.not_or, Bool.not_not, Bool.and_eq_true]
    exact ⟨hi'.1, hi'.2.2⟩
end Go.Proofs.Ythfgigndipjbjaa
