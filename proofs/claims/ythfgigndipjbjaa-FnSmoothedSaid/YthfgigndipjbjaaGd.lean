/- Roots, numbers that are checked, two lists. -/
import Derived.Test.YthfgigndipjbjaaGc
import Derived.Test.YthfgigndipjbjaaAwv
import Derived.Laws.Externs
set_option linter.unusedSimpArgs false
set_option linter.unusedVariables false
namespace Go.Proofs.Ythfgigndipjbjaa
open Go.Aw
def kSqrtX : Kx
  | [.f .f64 x] => some (.f .f64 fun _ => fsqrt .f64 (x .u), fun _ => True)
  | _ => none
theorem sqrtX_tells : Tells Try.prog 50 (.x kSqrtX) := by
  intro args r p hr hp w ρ L H vals hR hl hs
  unfold kSqrtX at hr
  split at hr <;> cases hr
  rename_i x
  obtain ⟨v, rfl⟩ : ∃ v, vals = #[v] := by
    obtain ⟨l⟩ := vals
    match l, hl with
    | [v], _ => exact ⟨v, rfl⟩
  obtain ⟨b, rfl, hb⟩ := (hs 0 _ v rfl rfl).f_inv
  have hrun := run_callFunc_extern (P := Try.prog) (e := Extern.MathSqrt.sqrt) Try.func50 (by kernel_rfl) (by kernel_rfl) (by kernel_rfl) (by kernel_rfl) #[.float .f64 b] w
  have hx : fsqrt .f64 (x .u) = (FloatKind.f64.format.sqrt b).getD (nanOf .f64) := by rw [← hb]; unfold fsqrt; rw [sqrt_canon]
  have e : Extern.MathSqrt.sqrt #[.float .f64 b] = (match FloatKind.f64.format.sqrt b with
    | some r => pure (.float .f64 r)
    | none => do pure (.float .f64 (← choose (.nanBits .f64 b b)))) := rfl
  rw [e] at hrun
  cases hq : FloatKind.f64.format.sqrt b with
  | some q => exact ⟨.float .f64 q, w, ρ, .inl (by rw [hrun, hq]; simp), hR, Pass.refl _ _ _, .f (by rw [hx, hq]; exact canon_of_not (isNaN_sqrt hq))⟩
  | none => exact ⟨.float .f64 ((Question.nanBits .f64 b b).cut (w.tape w.drawn (.nanBits .f64 b b))), w.drew, ρ, .inl (by rw [hrun, hq]; simp [Question.forced]), hR.same rfl rfl rfl rfl, Pass.same _ _ rfl rfl rfl rfl, .f (by rw [hx, hq]; exact canon_nan (isNaN_nanBits _ _ _ _))⟩
def kSqrt : Kr
  | [.f .f64 x] => some (.f .f64 fun _ => fsqrt .f64 (x .u), [], fun _ => True)
  | _ => none
def ctSqrt : CT := [(50, .x kSqrtX)]
theorem ctSqrt_ok : CTok Try.prog ctSqrt := .cons sqrtX_tells (.nil _)
theorem sqrt_tells : Tells Try.prog 44 (.r kSqrt) := by
  intro args r H' p hr hp
  unfold kSqrt at hr
  split at hr <;> cases hr
  refine ⟨.f, .nil, Con.of ttok Try.func44 rfl rfl (Nat.le_refl _) (AW.exec ttok ctSqrt_ok (by cbv) ?_)⟩
  simp only [natCast_int, Post, All, thenA, canon0, canon064, and_true, true_and, forall_const, implies_true, decide_eq_true_eq, decide_eq_false_iff_not, Bool.not_eq_true', Bool.not_eq_false', Bool.true_and, Bool.and_true, beq_true, beq_false, Int.toNat_natCast, Int.ofNat_lt, Int.ofNat_le, Nat.zero_add, Nat.add_zero, imp_self, Bool.cond_false_right, Bool.cond_true_left, Bool.cond_true_right, IsF, rdF_eq, fOf, AV.f.injEq, exists_eq', free_list, free_fn0, List.not_mem_nil, List.mem_cons, false_imp, forall_eq, or_false, free_i, free_f, free_b, ren_f, ren_i, ren_b, and_self, bne_iff_ne, bne_eq_false_iff_eq, ne_eq, Int.natCast_inj, or_true, true_or, freeB_list, unfr_f, unfr_i, unfr_b, unfr_c, unfr_s, free_c, free_s, ren_c, ren_s, unfr_ro, unfr_rptr, ren_ro, free_ll, free_box, kill_f, kill_i, kill_b, kill_c, kill_s, kill_rof, kill_rot, Int.toNat_zero, isFF_ll, rowN_ll, rowX_ll, AllFree, Option.some.injEq, Prod.mk.injEq, Bool.false_eq_true, Bool.true_eq_false]
  exact fin_ret (.inl rfl) (by cbv) (by simp) (To.fresh ⟨.f rfl, trivial⟩)
def rootF (x : Nat) : Nat := f2f .f64 (fsqrt .f64 (f2f .f32 x .f64)) .f32
def kRoot : Kr
  | [.f .f32 x] => some (.f .f32 fun _ => rootF (x .u), [], fun _ => True)
  | _ => none
def kNarrow : Kr
  | [.f .f64 x] => some (.f .f32 fun _ => f2f .f64 (x .u) .f32, [], fun _ => f2fOk .f64 (x .u) .f32)
  | _ => none
def ctRootI : CT := [(44, .r kSqrt)]
theorem ctRootI_ok : CTok Try.prog ctRootI := .cons sqrt_tells (.nil _)
theorem RootNumber_tells : Tells Try.prog 33 (.r kRoot) := by
  intro args r H' p hr hp
  unfold kRoot at hr
  split at hr <;> cases hr
  rename_i x
  refine ⟨.f, .nil, Con.of ttok Try.func33 rfl rfl (Nat.le_refl _) (AW.exec ttok ctRootI_ok (by cbv) ?_)⟩
  simp only [natCast_int, Post, All, thenA, canon0, canon064, and_true, true_and, forall_const, implies_true, decide_eq_true_eq, decide_eq_false_iff_not, Bool.not_eq_true', Bool.not_eq_false', Bool.true_and, Bool.and_true, beq_true, beq_false, Int.toNat_natCast, Int.ofNat_lt, Int.ofNat_le, Nat.zero_add, Nat.add_zero, imp_self, Bool.cond_false_right, Bool.cond_true_left, Bool.cond_true_right, IsF, rdF_eq, fOf, AV.f.injEq, exists_eq', free_list, free_fn0, List.not_mem_nil, List.mem_cons, false_imp, forall_eq, or_false, free_i, free_f, free_b, ren_f, ren_i, ren_b, and_self, bne_iff_ne, bne_eq_false_iff_eq, ne_eq, Int.natCast_inj, or_true, true_or, freeB_list, unfr_f, unfr_i, unfr_b, unfr_c, unfr_s, free_c, free_s, ren_c, ren_s, unfr_ro, unfr_rptr, ren_ro, free_ll, free_box, kill_f, kill_i, kill_b, kill_c, kill_s, kill_rof, kill_rot, Int.toNat_zero, isFF_ll, rowN_ll, rowX_ll, AllFree, Option.some.injEq, Prod.mk.injEq, Bool.false_eq_true, Bool.true_eq_false]
  exact ⟨root_ok (x .u), fun _ => fin_ret (.inl rfl) (by cbv) (by simp) (To.fresh ⟨.f rfl, trivial⟩)⟩
/-- A number where it is finite, and whether it is. -/
abbrev numA (x : Nat) (ok : Bool) : AV := .tup [.f .f32 fun _ => bif ok then x else 0, .b fun _ => ok]
theorem allFr_num {x : Nat} {ok : Bool} : AllFr (numA x ok) := allFr_tup2 .f .b
def kNum : Kr
  | [.f .f32 x] => some (numA (x .u) (isFin (x .u)), [], fun _ => True)
  | _ => none
theorem int_beq (n m : Nat) : ((n : Int) == (m : Int)) = decide (n = m) := by
  rw [Bool.eq_iff_iff]; simp; omega
def isTwo (n : Nat) (x : Nat → Nat) (m : Nat) (y : Nat → Nat) : Bool := isList n x && (isList m y && decide (n = m))
def kTwo : Kr
  | [a, b] => match asL a, asL b with
    | some (n, g), some (m, h) => some (.b fun _ => isTwo (n .u) (rdF g) (m .u) (rdF h), [], fun _ => IsF n g ∧ IsF m h)
    | _, _ => none
  | _ => none
def ctTwo : CT := [(27, .r kList)]
theorem ctTwo_ok : CTok Try.prog ctTwo := .cons l05List_tells (.nil _)
theorem two_not (n m : Nat) (x y : Nat → Nat) : ((!isList n x || !isList m y) || ((n : Int) != (m : Int))) = !isTwo n x m y := by
  unfold isTwo
  rw [show ((n : Int) != (m : Int)) = !decide (n = m) by rw [← int_beq]; rfl]
  cases isList n x <;> cases isList m y <;> cases decide (n = m) <;> rfl
theorem two_eq {n m : Nat} {x y : Nat → Nat} (h : isTwo n x m y = true) : n = m ∧ n ≤ 128 ∧ 1 ≤ n := by
  simp only [isTwo, isList, Bool.and_eq_true, decide_eq_true_eq] at h
  exact ⟨h.2.2, h.1.2.2, h.1.2.1⟩
/-! How far two lists are apart. -/
def farN (x y : Nat → Nat) : Nat → Nat
  | 0 => 0
  | k + 1 => fadd .f32 (farN x y k) (fmul .f32 (fsub .f32 (x k) (y k)) (fsub .f32 (x k) (y k)))
def kFarV : Kr
  | [a, b] => match asL a, asL b with
    | some (n, g), some (m, h) => some (.f .f32 fun _ => rootF (farN (rdF g) (rdF h) (n .u)), [], fun _ => IsF n g ∧ IsF m h ∧ n .u ≤ m .u)
    | _, _ => none
  | _ => none
def farV (n : Nat) (x : Nat → Nat) (y : Nat → Nat) : Nat := rootF (farN x y n)
def okFar (n : Nat) (x : Nat → Nat) (m : Nat) (y : Nat → Nat) : Bool := isTwo n x m y && isFin (farV n x y)
def kFar : Kr
  | [a, b] => match asL a, asL b with
    | some (n, g), some (m, h) => some (numA (farV (n .u) (rdF g) (rdF h)) (okFar (n .u) (rdF g) (m .u) (rdF h)), [], fun _ => IsF n g ∧ IsF m h)
    | _, _ => none
  | _ => none
end Go.Proofs.Ythfgigndipjbjaa
