/- Complex numbers and lists of them: what the laws' helpers, the checks and the sums make. -/
import Derived.Test.YthfgigndipjbjaaFd
import Derived.Test.YthfgigndipjbjaaGc
import Derived.Test.YthfgigndipjbjaaHc
import Derived.Test.YthfgigndipjbjaaAwz
set_option linter.unusedSimpArgs false
set_option linter.unusedVariables false
namespace Go.Proofs.Ythfgigndipjbjaa
open Go.Aw
def reOf : AV → Nat
  | .c _ x _ => x .u
  | _ => 0
def imOf : AV → Nat
  | .c _ _ y => y .u
  | _ => 0
def rdRe (g : Th Nat → Nat → AV) : Nat → Nat := fun i => reOf (g (fun _ => i) 0)
def rdIm (g : Th Nat → Nat → AV) : Nat → Nat := fun i => imOf (g (fun _ => i) 0)
def IsC (n : Th Nat) (g : Th Nat → Nat → AV) : Prop := n .u ≤ 9223372036854775807 ∧ ∀ i, i < n .u → ∃ x y, g (fun _ => i) 0 = .c .f32 x y
abbrev listC (fr : Bool) (n : Th Nat) (x y : Nat → Nat) : AV := .ro fr n 1 fun i _ => .c .f32 (fun _ => x (i .u)) fun _ => y (i .u)
abbrev blkC (fr : Bool) (n : Th Nat) (x y : Nat → Nat) : Option (Bool × Blk) := some (fr, .tab n 1 fun i _ => .c .f32 (fun _ => x (i .u)) fun _ => y (i .u))
theorem Sub.listC {fr : Bool} {n : Th Nat} {g : Th Nat → Nat → AV} (h : IsC n g) : Sub (unfr (.ro fr n 1 g)) (listC false n (rdRe g) (rdIm g)) := by
  intro w ρ N L v hs
  simp only [unfr] at hs
  cases hs with
  | ro0 h0 => exact .ro0 h0
  | ro u hn hq hc hsim =>
    refine .ro u hn hq hc fun i c hi hcc => ?_
    obtain rfl : c = 0 := by omega
    obtain ⟨x, y, hy⟩ := h.2 i hi
    have := hsim i 0 hi (by omega)
    simp only [hy, unfr] at this
    simp only [rdRe, rdIm, hy, reOf, imOf]
    exact this
theorem Sub.asC {a : AV} {n : Th Nat} {g : Th Nat → Nat → AV} (h : asL a = some (n, g)) (hF : IsC n g) : Sub (unfr a) (Go.Proofs.Ythfgigndipjbjaa.listC false n (rdRe g) (rdIm g)) := by
  unfold Aw.asL at h
  split at h <;> cases h
  · exact Go.Proofs.Ythfgigndipjbjaa.Sub.listC hF
  · intro w ρ N L v hs
    simp only [unfr] at hs
    cases hs.v_inv
    exact .ro0 rfl
theorem isC_list {n : Th Nat} {x y : Th Nat → Nat → Th Nat} : (IsC n fun i c => .c .f32 (x i c) (y i c)) ↔ n .u ≤ 9223372036854775807 := ⟨fun h => h.1, fun h => ⟨h, fun _ _ => ⟨_, _, rfl⟩⟩⟩
theorem isC_nil : (IsC (fun _ => 0) fun _ _ => .dead) ↔ True := iff_true_intro ⟨Nat.zero_le _, fun _ h => absurd h (Nat.not_lt_zero _)⟩
theorem rdRe_eq (g : Th Nat → Nat → AV) : rdRe g = fun i => reOf (g (fun _ => i) 0) := rfl
theorem rdIm_eq (g : Th Nat → Nat → AV) : rdIm g = fun i => imOf (g (fun _ => i) 0) := rfl
theorem free_lc {fr : Bool} {n : Th Nat} {x y : Th Nat → Nat → Th Nat} : Free (.ro fr n 1 fun i c => .c .f32 (x i c) (y i c)) ↔ True := iff_true_intro (.ro fun _ _ _ _ => .c)
theorem free_cc {k : FloatKind} {x y : Th Nat} : Free (.c k x y) ↔ True := iff_true_intro .c
theorem freeB_listC {n : Th Nat} {x y : Th Nat → Nat → Th Nat} : FreeB (.tab n 1 fun i c => .c .f32 (x i c) (y i c)) ↔ True := iff_true_intro fun off a ha => by
  cases ha with | tab i c hi hc => exact .c
theorem Free.listC {fr : Bool} {n : Th Nat} {x y : Th Nat → Nat → Th Nat} : Free (.ro fr n 1 fun i c => .c .f32 (x i c) (y i c)) := .ro fun _ _ _ _ => .c
/-! Numbers. -/
def kPlus : Kr
  | [.c .f32 a b, .c .f32 c d] => some (.c .f32 (fun _ => fadd .f32 (a .u) (c .u)) fun _ => fadd .f32 (b .u) (d .u), [], fun _ => True)
  | _ => none
def kScale : Kr
  | [.c .f32 a b, .f .f32 c] => some (.c .f32 (fun _ => fmul .f32 (a .u) (c .u)) fun _ => fmul .f32 (b .u) (c .u), [], fun _ => True)
  | _ => none
def kFinC : Kr
  | [.c .f32 a b] => some (.b fun _ => isFin (a .u) && isFin (b .u), [], fun _ => True)
  | _ => none
def ctFinC : CT := [(37, .r kFinN)]
theorem ctFinC_ok : CTok Try.prog ctFinC := .cons areFinite_tells (.nil _)
def finCC (x y : Nat → Nat) (i : Nat) : Bool := isFin (x i) && isFin (y i)
def allC (n : Nat) (x y : Nat → Nat) : Bool := allN (finCC x y) n
def kPredC : Kr
  | [.c .f32 a b] => some (.b fun _ => !(isFin (a .u) && isFin (b .u)), [], fun _ => True)
  | _ => none
def notC (x y : Nat → Nat) (i : Nat) : Bool := !finCC x y i
def kAreC : Kr
  | [a, .i .i64 k] => match asL a with
    | some (n, g) => some (.b fun _ => decide ((n .u : Int) = k .u) && allC (n .u) (rdRe g) (rdIm g), [], fun _ => IsC n g)
    | none => none
  | _ => none
theorem isC_to {H H' : Heap} {σ : List Nat} {keep : Bool} {n : Th Nat} {g : Th Nat → Nat → AV} (h : IsC n g) {j : Nat} (hj : j < n .u) : AvTo H H' σ keep (g (fun _ => j) 0) (.c .f32 (fun _ => rdRe g j) fun _ => rdIm g j) := by
  obtain ⟨x, y, hy⟩ := h.2 j hj
  simp only [hy]
  exact AvTo.c (by simp [rdRe, reOf, hy]) (by simp [rdIm, imOf, hy])
theorem frH_C {fr : Bool} {n : Th Nat} {x y : Nat → Nat} : FrH [blkC fr n x y] := .cons (fun fr B e => by cases e; exact .tab fun _ _ _ _ => .c) .nil
def kGiveC : Kg
  | [.own 0 i n 1], [some (_, .tab m 1 g)] => some (.two (fun _ => allC (m .u) (rdRe g) (rdIm g)) (.one (yesL m) [blkC false m (rdRe g) (rdIm g)] fun _ => IsC m g ∧ i .u = 0 ∧ n .u = m .u) (.one noL [blkC false m (rdRe g) (rdIm g)] fun _ => IsC m g ∧ i .u = 0 ∧ n .u = m .u))
  | _, _ => none
theorem oneC_to {X : Heap} {n : Th Nat} {x y : Nat → Nat} {env env' : List AV} (h : AllTo (blkC false n x y :: X) [blkC false n x y] [0] true env env') : To 1 env (blkC false n x y :: X) env' [blkC false n x y] :=
  To.pick [0] (by decide) (Nat.le_refl _) (fun j hj => by
    match j, hj with
    | 0, _ => rfl) ⟨.list (fun e => e) (Nat.le_refl _) fun j hj => AvTo.c rfl rfl, trivial⟩ h
/-! The reference's side. -/
def ctCF : CT := [(40, .r kFin)]
theorem ctCF_ok : CTok Try.prog ctCF := .cons l01Finite_tells (.nil _)
def kAllC : Kr
  | [a] => match asL a with
    | some (n, g) => some (.b fun _ => allC (n .u) (rdRe g) (rdIm g), [], fun _ => IsC n g)
    | none => none
  | _ => none
end Go.Proofs.Ythfgigndipjbjaa
