/- Products and lengths of complex numbers, phases that are good, what the laws draw. -/
import Derived.Test.YtjkibcdmpjppbaaUj
import Derived.Test.YtjkibcdmpjppbaaUc
import Derived.Test.YtjkibcdmpjppbaaGd
set_option linter.unusedSimpArgs false
set_option linter.unusedVariables false
namespace Go.Proofs.Ytjkibcdmpjppbaa
open Go.Aw
abbrev wd (x : Nat) : Nat := f2f .f32 x .f64
def tRe (a b c d : Nat) : Nat := fsub .f64 (fmul .f64 (wd a) (wd c)) (fmul .f64 (wd b) (wd d))
def tIm (a b c d : Nat) : Nat := fadd .f64 (fmul .f64 (wd a) (wd d)) (fmul .f64 (wd b) (wd c))
def kTimes : Kr
  | [.c .f32 a b, .c .f32 c d] => some (.tup [.f .f64 fun _ => tRe (a .u) (b .u) (c .u) (d .u), .f .f64 fun _ => tIm (a .u) (b .u) (c .u) (d .u)], [], fun _ => True)
  | _ => none
theorem times_tells : Tells Try.prog 72 (.r kTimes) := by
  intro args r H' p hr hp
  unfold kTimes at hr
  split at hr <;> cases hr
  refine ⟨allFr_tup2 .f .f, .nil, Con.of ttok Try.func72 rfl rfl (Nat.le_refl _) (AW.exec ttok (CTok.nil _) (by cbv) ?_)⟩
  simp only [natCast_int, Post, All, thenA, canon0, canon064, and_true, true_and, forall_const, implies_true, decide_eq_true_eq, decide_eq_false_iff_not, Bool.not_eq_true', Bool.not_eq_false', Bool.true_and, Bool.and_true, beq_true, beq_false, Int.toNat_natCast, Int.ofNat_lt, Int.ofNat_le, Nat.zero_add, Nat.add_zero, imp_self, Bool.cond_false_right, Bool.cond_true_left, Bool.cond_true_right, IsF, rdF_eq, fOf, AV.f.injEq, exists_eq', free_list, free_fn0, List.not_mem_nil, List.mem_cons, false_imp, forall_eq, or_false, free_i, free_f, free_b, ren_f, ren_i, ren_b, and_self, bne_iff_ne, bne_eq_false_iff_eq, ne_eq, Int.natCast_inj, or_true, true_or, freeB_list, unfr_f, unfr_i, unfr_b, unfr_c, unfr_s, free_c, free_s, ren_c, ren_s, unfr_ro, unfr_rptr, ren_ro, free_ll, free_box, kill_f, kill_i, kill_b, kill_c, kill_s, kill_rof, kill_rot, Int.toNat_zero, isFF_ll, rowN_ll, rowX_ll, AllFree, Option.some.injEq, Prod.mk.injEq, Bool.false_eq_true, Bool.true_eq_false]
  (repeat' first | with_reducible assumption | with_reducible apply And.intro | with_reducible intro hh) <;> first | ((first | with_reducible show (_ : Int) ≤ _ | with_reducible show (_ : Int) < _ | with_reducible show (_ : Nat) ≤ _ | with_reducible show (_ : Nat) < _ | with_reducible show (_ : Int) = _ | with_reducible show (_ : Nat) = _ | with_reducible show ¬ _ | with_reducible show _ ≠ _) <;> first | omega | (simp only [Bool.and_eq_true, Bool.or_eq_false_iff, Bool.not_eq_false', Bool.not_eq_true', decide_eq_true_eq, decide_eq_false_iff_not] at *; omega) | (with_reducible assumption)) | (with_reducible assumption) | skip
  all_goals exact fin_ret (.inl rfl) (by cbv) (by simp) (To.fresh (.cons (.tup (.cons (.f rfl) (.cons (.f rfl) .nil))) .nil))
def mRe (a b c d : Nat) : Nat := f2f .f64 (tRe a b c d) .f32
def mIm (a b c d : Nat) : Nat := f2f .f64 (tIm a b c d) .f32
def kMulC : Kr
  | [.c .f32 a b, .c .f32 c d] => some (.c .f32 (fun _ => mRe (a .u) (b .u) (c .u) (d .u)) fun _ => mIm (a .u) (b .u) (c .u) (d .u), [], fun _ => f2fOk .f64 (tRe (a .u) (b .u) (c .u) (d .u)) .f32 ∧ f2fOk .f64 (tIm (a .u) (b .u) (c .u) (d .u)) .f32)
  | _ => none
def ctMulC : CT := [(72, .r kTimes)]
theorem ctMulC_ok : CTok Try.prog ctMulC := .cons times_tells (.nil _)
theorem mulC_tells : Tells Try.prog 46 (.r kMulC) := by
  intro args r H' p hr hp
  unfold kMulC at hr
  split at hr <;> cases hr
  rename_i a b c d
  obtain ⟨h1, h2⟩ := hp
  refine ⟨.c, .nil, Con.of ttok Try.func46 rfl rfl (Nat.le_refl _) (AW.exec ttok ctMulC_ok (by cbv) ?_)⟩
  simp only [natCast_int, Post, All, thenA, canon0, canon064, and_true, true_and, forall_const, implies_true, decide_eq_true_eq, decide_eq_false_iff_not, Bool.not_eq_true', Bool.not_eq_false', Bool.true_and, Bool.and_true, beq_true, beq_false, Int.toNat_natCast, Int.ofNat_lt, Int.ofNat_le, Nat.zero_add, Nat.add_zero, imp_self, Bool.cond_false_right, Bool.cond_true_left, Bool.cond_true_right, IsF, rdF_eq, fOf, AV.f.injEq, exists_eq', free_list, free_fn0, List.not_mem_nil, List.mem_cons, false_imp, forall_eq, or_false, free_i, free_f, free_b, ren_f, ren_i, ren_b, and_self, bne_iff_ne, bne_eq_false_iff_eq, ne_eq, Int.natCast_inj, or_true, true_or, freeB_list, unfr_f, unfr_i, unfr_b, unfr_c, unfr_s, free_c, free_s, ren_c, ren_s, unfr_ro, unfr_rptr, ren_ro, free_ll, free_box, kill_f, kill_i, kill_b, kill_c, kill_s, kill_rof, kill_rot, Int.toNat_zero, isFF_ll, rowN_ll, rowX_ll, AllFree, Option.some.injEq, Prod.mk.injEq, Bool.false_eq_true, Bool.true_eq_false, h1, h2]
  (repeat' first | with_reducible assumption | with_reducible apply And.intro | with_reducible intro hh) <;> first | ((first | with_reducible show (_ : Int) ≤ _ | with_reducible show (_ : Int) < _ | with_reducible show (_ : Nat) ≤ _ | with_reducible show (_ : Nat) < _ | with_reducible show (_ : Int) = _ | with_reducible show (_ : Nat) = _ | with_reducible show ¬ _ | with_reducible show _ ≠ _) <;> first | omega | (simp only [Bool.and_eq_true, Bool.or_eq_false_iff, Bool.not_eq_false', Bool.not_eq_true', decide_eq_true_eq, decide_eq_false_iff_not] at *; omega) | (with_reducible assumption)) | (with_reducible assumption) | skip
  all_goals exact fin_ret (.inl rfl) (by cbv) (by simp) (To.fresh ⟨.c rfl rfl, trivial⟩)
def kAreP : Kr
  | [a, .i .i64 k] => match asL a with
    | some (n, g) => some (.b fun _ => decide (k .u ≤ (n .u : Int)) && (decide (n .u ≤ 128) && allC (n .u) (rdRe g) (rdIm g)), [], fun _ => IsC n g)
    | none => none
  | _ => none
def ctAreP : CT := [(70, .r kAreC)]
theorem ctAreP_ok : CTok Try.prog ctAreP := .cons areC_tells (.nil _)
theorem areP_tells : Tells Try.prog 44 (.r kAreP) := by
  intro args r H' p hr hp
  unfold kAreP at hr
  split at hr <;> first | (cases hr; done) | skip
  split at hr <;> cases hr
  rename_i k _ n g hL
  refine ⟨.b, .nil, Con.pre (args' := [listC false n (rdRe g) (rdIm g), .i .i64 k]) ⟨Sub.asC hL hp, Sub.refl _, trivial⟩ ?_⟩
  have hn := hp.1
  generalize rdRe g = x
  generalize rdIm g = y
  refine Con.of ttok Try.func44 rfl rfl (Nat.le_refl _) (AW.exec ttok ctAreP_ok (by cbv) ?_)
  simp only [natCast_int, Post, All, thenA, canon0, canon064, and_true, true_and, forall_const, implies_true, decide_eq_true_eq, decide_eq_false_iff_not, Bool.not_eq_true', Bool.not_eq_false', Bool.true_and, Bool.and_true, beq_true, beq_false, Int.toNat_natCast, Int.ofNat_lt, Int.ofNat_le, Nat.zero_add, Nat.add_zero, imp_self, Bool.cond_false_right, Bool.cond_true_left, Bool.cond_true_right, IsF, rdF_eq, fOf, AV.f.injEq, exists_eq', free_list, free_fn0, List.not_mem_nil, List.mem_cons, false_imp, forall_eq, or_false, free_i, free_f, free_b, ren_f, ren_i, ren_b, and_self, bne_iff_ne, bne_eq_false_iff_eq, ne_eq, Int.natCast_inj, or_true, true_or, freeB_list, unfr_f, unfr_i, unfr_b, unfr_c, unfr_s, free_c, free_s, ren_c, ren_s, unfr_ro, unfr_rptr, ren_ro, free_ll, free_box, kill_f, kill_i, kill_b, kill_c, kill_s, kill_rof, kill_rot, Int.toNat_zero, isFF_ll, rowN_ll, rowX_ll, AllFree, Option.some.injEq, Prod.mk.injEq, Bool.false_eq_true, Bool.true_eq_false, isC_list, free_lc, hn]
  (repeat' first | with_reducible assumption | with_reducible apply And.intro | with_reducible intro hh) <;> first | ((first | with_reducible show (_ : Int) ≤ _ | with_reducible show (_ : Int) < _ | with_reducible show (_ : Nat) ≤ _ | with_reducible show (_ : Nat) < _ | with_reducible show (_ : Int) = _ | with_reducible show (_ : Nat) = _ | with_reducible show ¬ _ | with_reducible show _ ≠ _) <;> first | omega | (simp only [Bool.and_eq_true, Bool.or_eq_false_iff, Bool.not_eq_false', Bool.not_eq_true', decide_eq_true_eq, decide_eq_false_iff_not] at *; omega) | (with_reducible assumption)) | (with_reducible assumption) | skip
  refine fin_ret (.inl rfl) (by cbv) (by simp) (To.fresh ⟨.b ?_, trivial⟩)
  have e : decide ((n .u : Int) ≤ 128) = decide (n .u ≤ 128) := decide_eq_decide.2 (by omega)
  simp only [e, decide_true, Bool.true_and, Bool.and_assoc]
  rfl
def longW (a b : Nat) : Nat := fsqrt .f64 (fadd .f64 (fmul .f64 (wd a) (wd a)) (fmul .f64 (wd b) (wd b)))
def longF (a b : Nat) : Nat := f2f .f64 (longW a b) .f32
def kPow : Kr
  | [.c .f32 a b] => some (.f .f64 fun _ => fadd .f64 (fmul .f64 (wd (a .u)) (wd (a .u))) (fmul .f64 (wd (b .u)) (wd (b .u))), [], fun _ => True)
  | _ => none
theorem pow_tells : Tells Try.prog 75 (.r kPow) := by
  intro args r H' p hr hp
  unfold kPow at hr
  split at hr <;> cases hr
  refine ⟨.f, .nil, Con.of ttok Try.func75 rfl rfl (Nat.le_refl _) (AW.exec ttok (CTok.nil _) (by cbv) ?_)⟩
  simp only [natCast_int, Post, All, thenA, canon0, canon064, and_true, true_and, forall_const, implies_true, decide_eq_true_eq, decide_eq_false_iff_not, Bool.not_eq_true', Bool.not_eq_false', Bool.true_and, Bool.and_true, beq_true, beq_false, Int.toNat_natCast, Int.ofNat_lt, Int.ofNat_le, Nat.zero_add, Nat.add_zero, imp_self, Bool.cond_false_right, Bool.cond_true_left, Bool.cond_true_right, IsF, rdF_eq, fOf, AV.f.injEq, exists_eq', free_list, free_fn0, List.not_mem_nil, List.mem_cons, false_imp, forall_eq, or_false, free_i, free_f, free_b, ren_f, ren_i, ren_b, and_self, bne_iff_ne, bne_eq_false_iff_eq, ne_eq, Int.natCast_inj, or_true, true_or, freeB_list, unfr_f, unfr_i, unfr_b, unfr_c, unfr_s, free_c, free_s, ren_c, ren_s, unfr_ro, unfr_rptr, ren_ro, free_ll, free_box, kill_f, kill_i, kill_b, kill_c, kill_s, kill_rof, kill_rot, Int.toNat_zero, isFF_ll, rowN_ll, rowX_ll, AllFree, Option.some.injEq, Prod.mk.injEq, Bool.false_eq_true, Bool.true_eq_false]
  (repeat' first | with_reducible assumption | with_reducible apply And.intro | with_reducible intro hh) <;> first | ((first | with_reducible show (_ : Int) ≤ _ | with_reducible show (_ : Int) < _ | with_reducible show (_ : Nat) ≤ _ | with_reducible show (_ : Nat) < _ | with_reducible show (_ : Int) = _ | with_reducible show (_ : Nat) = _ | with_reducible show ¬ _ | with_reducible show _ ≠ _) <;> first | omega | (simp only [Bool.and_eq_true, Bool.or_eq_false_iff, Bool.not_eq_false', Bool.not_eq_true', decide_eq_true_eq, decide_eq_false_iff_not] at *; omega) | (with_reducible assumption)) | (with_reducible assumption) | skip
  all_goals exact fin_ret (.inl rfl) (by cbv) (by simp) (To.fresh ⟨.f rfl, trivial⟩)
def kLong : Kr
  | [.c .f32 a b] => some (.f .f32 fun _ => longF (a .u) (b .u), [], fun _ => f2fOk .f64 (longW (a .u) (b .u)) .f32)
  | _ => none
def ctLong : CT := [(75, .r kPow), (74, .r kSqrt), (73, .r kNar64)]
theorem ctLong_ok : CTok Try.prog ctLong := .cons pow_tells (.cons sqrt_tells (.cons nar64_tells (.nil _)))
theorem long0_tells : Tells Try.prog 48 (.r kLong) := by
  intro args r H' p hr hp
  unfold kLong at hr
  split at hr <;> cases hr
  rename_i a b
  have h : f2fOk .f64 (fsqrt .f64 (fadd .f64 (fmul .f64 (f2f .f32 (a .u) .f64) (f2f .f32 (a .u) .f64)) (fmul .f64 (f2f .f32 (b .u) .f64) (f2f .f32 (b .u) .f64)))) .f32 := hp
  refine ⟨.f, .nil, Con.of ttok Try.func48 rfl rfl (Nat.le_refl _) (AW.exec ttok ctLong_ok (by cbv) ?_)⟩
  simp only [natCast_int, Post, All, thenA, canon0, canon064, and_true, true_and, forall_const, implies_true, decide_eq_true_eq, decide_eq_false_iff_not, Bool.not_eq_true', Bool.not_eq_false', Bool.true_and, Bool.and_true, beq_true, beq_false, Int.toNat_natCast, Int.ofNat_lt, Int.ofNat_le, Nat.zero_add, Nat.add_zero, imp_self, Bool.cond_false_right, Bool.cond_true_left, Bool.cond_true_right, IsF, rdF_eq, fOf, AV.f.injEq, exists_eq', free_list, free_fn0, List.not_mem_nil, List.mem_cons, false_imp, forall_eq, or_false, free_i, free_f, free_b, ren_f, ren_i, ren_b, and_self, bne_iff_ne, bne_eq_false_iff_eq, ne_eq, Int.natCast_inj, or_true, true_or, freeB_list, unfr_f, unfr_i, unfr_b, unfr_c, unfr_s, free_c, free_s, ren_c, ren_s, unfr_ro, unfr_rptr, ren_ro, free_ll, free_box, kill_f, kill_i, kill_b, kill_c, kill_s, kill_rof, kill_rot, Int.toNat_zero, isFF_ll, rowN_ll, rowX_ll, AllFree, Option.some.injEq, Prod.mk.injEq, Bool.false_eq_true, Bool.true_eq_false, h]
  (repeat' first | with_reducible assumption | with_reducible apply And.intro | with_reducible intro hh) <;> first | ((first | with_reducible show (_ : Int) ≤ _ | with_reducible show (_ : Int) < _ | with_reducible show (_ : Nat) ≤ _ | with_reducible show (_ : Nat) < _ | with_reducible show (_ : Int) = _ | with_reducible show (_ : Nat) = _ | with_reducible show ¬ _ | with_reducible show _ ≠ _) <;> first | omega | (simp only [Bool.and_eq_true, Bool.or_eq_false_iff, Bool.not_eq_false', Bool.not_eq_true', decide_eq_true_eq, decide_eq_false_iff_not] at *; omega) | (with_reducible assumption)) | (with_reducible assumption) | skip
  all_goals first | exact h | exact fin_ret (.inl rfl) (by cbv) (by simp) (To.fresh ⟨.f rfl, trivial⟩)
def ctLong1 : CT := [(48, .r kLong)]
theorem ctLong1_ok : CTok Try.prog ctLong1 := .cons long0_tells (.nil _)
theorem long_tells : Tells Try.prog 19 (.r kLong) := by
  intro args r H' p hr hp
  unfold kLong at hr
  split at hr <;> cases hr
  rename_i a b
  have h : f2fOk .f64 (longW (a .u) (b .u)) .f32 := hp
  refine ⟨.f, .nil, Con.of ttok Try.func19 rfl rfl (Nat.le_refl _) (AW.exec ttok ctLong1_ok (by cbv) ?_)⟩
  simp only [natCast_int, Post, All, thenA, canon0, canon064, and_true, true_and, forall_const, implies_true, decide_eq_true_eq, decide_eq_false_iff_not, Bool.not_eq_true', Bool.not_eq_false', Bool.true_and, Bool.and_true, beq_true, beq_false, Int.toNat_natCast, Int.ofNat_lt, Int.ofNat_le, Nat.zero_add, Nat.add_zero, imp_self, Bool.cond_false_right, Bool.cond_true_left, Bool.cond_true_right, IsF, rdF_eq, fOf, AV.f.injEq, exists_eq', free_list, free_fn0, List.not_mem_nil, List.mem_cons, false_imp, forall_eq, or_false, free_i, free_f, free_b, ren_f, ren_i, ren_b, and_self, bne_iff_ne, bne_eq_false_iff_eq, ne_eq, Int.natCast_inj, or_true, true_or, freeB_list, unfr_f, unfr_i, unfr_b, unfr_c, unfr_s, free_c, free_s, ren_c, ren_s, unfr_ro, unfr_rptr, ren_ro, free_ll, free_box, kill_f, kill_i, kill_b, kill_c, kill_s, kill_rof, kill_rot, Int.toNat_zero, isFF_ll, rowN_ll, rowX_ll, AllFree, Option.some.injEq, Prod.mk.injEq, Bool.false_eq_true, Bool.true_eq_false, h]
  (repeat' first | with_reducible assumption | with_reducible apply And.intro | with_reducible intro hh) <;> first | ((first | with_reducible show (_ : Int) ≤ _ | with_reducible show (_ : Int) < _ | with_reducible show (_ : Nat) ≤ _ | with_reducible show (_ : Nat) < _ | with_reducible show (_ : Int) = _ | with_reducible show (_ : Nat) = _ | with_reducible show ¬ _ | with_reducible show _ ≠ _) <;> first | omega | (simp only [Bool.and_eq_true, Bool.or_eq_false_iff, Bool.not_eq_false', Bool.not_eq_true', decide_eq_true_eq, decide_eq_false_iff_not] at *; omega) | (with_reducible assumption)) | (with_reducible assumption) | skip
  all_goals exact fin_ret (.inl rfl) (by cbv) (by simp) (To.fresh ⟨.f rfl, trivial⟩)
def ctScale1 : CT := [(49, .r kScale)]
theorem ctScale1_ok : CTok Try.prog ctScale1 := .cons scaleS_tells (.nil _)
theorem scaleX_tells : Tells Try.prog 21 (.r kScale) := by
  intro args r H' p hr hp
  unfold kScale at hr
  split at hr <;> cases hr
  refine ⟨.c, .nil, Con.of ttok Try.func21 rfl rfl (Nat.le_refl _) (AW.exec ttok ctScale1_ok (by cbv) ?_)⟩
  simp only [natCast_int, Post, All, thenA, canon0, canon064, and_true, true_and, forall_const, implies_true, decide_eq_true_eq, decide_eq_false_iff_not, Bool.not_eq_true', Bool.not_eq_false', Bool.true_and, Bool.and_true, beq_true, beq_false, Int.toNat_natCast, Int.ofNat_lt, Int.ofNat_le, Nat.zero_add, Nat.add_zero, imp_self, Bool.cond_false_right, Bool.cond_true_left, Bool.cond_true_right, IsF, rdF_eq, fOf, AV.f.injEq, exists_eq', free_list, free_fn0, List.not_mem_nil, List.mem_cons, false_imp, forall_eq, or_false, free_i, free_f, free_b, ren_f, ren_i, ren_b, and_self, bne_iff_ne, bne_eq_false_iff_eq, ne_eq, Int.natCast_inj, or_true, true_or, freeB_list, unfr_f, unfr_i, unfr_b, unfr_c, unfr_s, free_c, free_s, ren_c, ren_s, unfr_ro, unfr_rptr, ren_ro, free_ll, free_box, kill_f, kill_i, kill_b, kill_c, kill_s, kill_rof, kill_rot, Int.toNat_zero, isFF_ll, rowN_ll, rowX_ll, AllFree, Option.some.injEq, Prod.mk.injEq, Bool.false_eq_true, Bool.true_eq_false]
  (repeat' first | with_reducible assumption | with_reducible apply And.intro | with_reducible intro hh) <;> first | ((first | with_reducible show (_ : Int) ≤ _ | with_reducible show (_ : Int) < _ | with_reducible show (_ : Nat) ≤ _ | with_reducible show (_ : Nat) < _ | with_reducible show (_ : Int) = _ | with_reducible show (_ : Nat) = _ | with_reducible show ¬ _ | with_reducible show _ ≠ _) <;> first | omega | (simp only [Bool.and_eq_true, Bool.or_eq_false_iff, Bool.not_eq_false', Bool.not_eq_true', decide_eq_true_eq, decide_eq_false_iff_not] at *; omega) | (with_reducible assumption)) | (with_reducible assumption) | skip
  all_goals exact fin_ret (.inl rfl) (by cbv) (by simp) (To.fresh ⟨.c rfl rfl, trivial⟩)
def gapF (a b : Nat) : Nat := bif flt .f64 a b then fsub .f64 b a else fsub .f64 a b
def kGap : Kr
  | [.f .f64 a, .f .f64 b] => some (.f .f64 fun _ => gapF (a .u) (b .u), [], fun _ => True)
  | _ => none
theorem gap_tells : Tells Try.prog 20 (.r kGap) := by
  intro args r H' p hr hp
  unfold kGap at hr
  split at hr <;> cases hr
  refine ⟨.f, .nil, Con.of ttok Try.func20 rfl rfl (Nat.le_refl _) (AW.exec ttok (CTok.nil _) (by cbv) ?_)⟩
  simp only [natCast_int, Post, All, thenA, canon0, canon064, and_true, true_and, forall_const, implies_true, decide_eq_true_eq, decide_eq_false_iff_not, Bool.not_eq_true', Bool.not_eq_false', Bool.true_and, Bool.and_true, beq_true, beq_false, Int.toNat_natCast, Int.ofNat_lt, Int.ofNat_le, Nat.zero_add, Nat.add_zero, imp_self, Bool.cond_false_right, Bool.cond_true_left, Bool.cond_true_right, IsF, rdF_eq, fOf, AV.f.injEq, exists_eq', free_list, free_fn0, List.not_mem_nil, List.mem_cons, false_imp, forall_eq, or_false, free_i, free_f, free_b, ren_f, ren_i, ren_b, and_self, bne_iff_ne, bne_eq_false_iff_eq, ne_eq, Int.natCast_inj, or_true, true_or, freeB_list, unfr_f, unfr_i, unfr_b, unfr_c, unfr_s, free_c, free_s, ren_c, ren_s, unfr_ro, unfr_rptr, ren_ro, free_ll, free_box, kill_f, kill_i, kill_b, kill_c, kill_s, kill_rof, kill_rot, Int.toNat_zero, isFF_ll, rowN_ll, rowX_ll, AllFree, Option.some.injEq, Prod.mk.injEq, Bool.false_eq_true, Bool.true_eq_false]
  (repeat' first | with_reducible assumption | with_reducible apply And.intro | with_reducible intro hh) <;> first | ((first | with_reducible show (_ : Int) ≤ _ | with_reducible show (_ : Int) < _ | with_reducible show (_ : Nat) ≤ _ | with_reducible show (_ : Nat) < _ | with_reducible show (_ : Int) = _ | with_reducible show (_ : Nat) = _ | with_reducible show ¬ _ | with_reducible show _ ≠ _) <;> first | omega | (simp only [Bool.and_eq_true, Bool.or_eq_false_iff, Bool.not_eq_false', Bool.not_eq_true', decide_eq_true_eq, decide_eq_false_iff_not] at *; omega) | (with_reducible assumption)) | (with_reducible assumption) | skip
  all_goals refine fin_ret (.inl rfl) (by cbv) (by simp) (To.fresh ⟨.f ?_, trivial⟩)
  all_goals simp_all [gapF]
def kLongB : Kr
  | [.ro _ n 1 _, .ro _ m 1 _] => some (.b fun _ => decide (1048576 < (n .u : Int)) || decide (1048576 < (m .u : Int)), [], fun _ => True)
  | _ => none
theorem longB_tells : Tells Try.prog 14 (.r kLongB) := by
  intro args r H' p hr hp
  unfold kLongB at hr
  split at hr <;> cases hr
  refine ⟨.b, .nil, Con.of ttok Try.func14 rfl rfl (Nat.le_refl _) (AW.exec ttok (CTok.nil _) (by cbv) ?_)⟩
  simp only [natCast_int, Post, All, thenA, canon0, canon064, and_true, true_and, forall_const, implies_true, decide_eq_true_eq, decide_eq_false_iff_not, Bool.not_eq_true', Bool.not_eq_false', Bool.true_and, Bool.and_true, beq_true, beq_false, Int.toNat_natCast, Int.ofNat_lt, Int.ofNat_le, Nat.zero_add, Nat.add_zero, imp_self, Bool.cond_false_right, Bool.cond_true_left, Bool.cond_true_right, IsF, rdF_eq, fOf, AV.f.injEq, exists_eq', free_list, free_fn0, List.not_mem_nil, List.mem_cons, false_imp, forall_eq, or_false, free_i, free_f, free_b, ren_f, ren_i, ren_b, and_self, bne_iff_ne, bne_eq_false_iff_eq, ne_eq, Int.natCast_inj, or_true, true_or, freeB_list, unfr_f, unfr_i, unfr_b, unfr_c, unfr_s, free_c, free_s, ren_c, ren_s, unfr_ro, unfr_rptr, ren_ro, free_ll, free_box, kill_f, kill_i, kill_b, kill_c, kill_s, kill_rof, kill_rot, Int.toNat_zero, isFF_ll, rowN_ll, rowX_ll, AllFree, Option.some.injEq, Prod.mk.injEq, Bool.false_eq_true, Bool.true_eq_false]
  (repeat' first | with_reducible assumption | with_reducible apply And.intro | with_reducible intro hh) <;> first | ((first | with_reducible show (_ : Int) ≤ _ | with_reducible show (_ : Int) < _ | with_reducible show (_ : Nat) ≤ _ | with_reducible show (_ : Nat) < _ | with_reducible show (_ : Int) = _ | with_reducible show (_ : Nat) = _ | with_reducible show ¬ _ | with_reducible show _ ≠ _) <;> first | omega | (simp only [Bool.and_eq_true, Bool.or_eq_false_iff, Bool.not_eq_false', Bool.not_eq_true', decide_eq_true_eq, decide_eq_false_iff_not] at *; omega) | (with_reducible assumption)) | (with_reducible assumption) | skip
  all_goals exact fin_ret (.inl rfl) (by cbv) (by simp) (To.fresh ⟨.b (by first | rfl | simp_all), trivial⟩)
theorem Sub.listBu {fr : Bool} {n : Th Nat} {g : Th Nat → Nat → AV} (h : IsB n g) : Sub (unfr (.ro fr n 1 g)) (Go.Proofs.Ytjkibcdmpjppbaa.listB n (rdB g)) := by
  intro w ρ N L v hs
  simp only [unfr] at hs
  cases hs with
  | ro0 h0 => exact .ro0 h0
  | ro u hn hq hc hsim =>
    refine .ro u hn hq hc fun i c hi hcc => ?_
    obtain rfl : c = 0 := by omega
    obtain ⟨x, hx, _⟩ := h.2 i hi
    have := hsim i 0 hi (by omega)
    simp only [hx, unfr] at this
    simp only [rdB, hx, iOf]
    exact this
def atV (l : Nat) (b : Nat → Int) (i n : Int) : Int := if i < (l : Int) then (b i.toNat).tmod n else (i * 37 + 11).tmod n
def kAtB : Kr
  | [.ro false l 1 g, .i .i64 i, .i .i64 n] => some (.i .i64 fun _ => atV (l .u) (rdB g) (i .u) (n .u), [], fun _ => IsB l g ∧ 0 ≤ i .u ∧ i .u ≤ 1000 ∧ 1 < n .u ∧ n .u ≤ 1000)
  | _ => none
theorem atB_tells : Tells Try.prog 15 (.r kAtB) := by
  intro args r H' p hr hp
  unfold kAtB at hr
  split at hr <;> cases hr
  rename_i l g i n
  obtain ⟨hB, h0, h1, h2, h3⟩ := hp
  have hbb : ∀ k, k < l .u → 0 ≤ rdB g k ∧ rdB g k < 256 := fun k hk => by
    obtain ⟨x, hx, h2⟩ := hB.2 k hk
    simp only [rdB, hx, iOf]
    exact h2
  have hl := hB.1
  refine ⟨.i, .nil, Con.pre (args' := [listB l (rdB g), .i .i64 i, .i .i64 n]) ⟨?_, Sub.refl _, Sub.refl _, trivial⟩ ?_⟩
  · exact Sub.listBu hB
  generalize rdB g = b at hbb
  have hbi : i .u < (l .u : Int) → 0 ≤ b (i .u).toNat ∧ b (i .u).toNat < 256 := fun hb => hbb (i .u).toNat (by omega)
  clear hbb
  refine Con.of ttok Try.func15 rfl rfl (Nat.le_refl _) (AW.exec ttok (CTok.nil _) (by cbv) ?_)
  simp only [natCast_int, Post, All, thenA, canon0, canon064, and_true, true_and, forall_const, implies_true, decide_eq_true_eq, decide_eq_false_iff_not, Bool.not_eq_true', Bool.not_eq_false', Bool.true_and, Bool.and_true, beq_true, beq_false, Int.toNat_natCast, Int.ofNat_lt, Int.ofNat_le, Nat.zero_add, Nat.add_zero, imp_self, Bool.cond_false_right, Bool.cond_true_left, Bool.cond_true_right, IsF, rdF_eq, fOf, AV.f.injEq, exists_eq', free_list, free_fn0, List.not_mem_nil, List.mem_cons, false_imp, forall_eq, or_false, free_i, free_f, free_b, ren_f, ren_i, ren_b, and_self, bne_iff_ne, bne_eq_false_iff_eq, ne_eq, Int.natCast_inj, or_true, true_or, freeB_list, unfr_f, unfr_i, unfr_b, unfr_c, unfr_s, free_c, free_s, ren_c, ren_s, unfr_ro, unfr_rptr, ren_ro, free_ll, free_box, kill_f, kill_i, kill_b, kill_c, kill_s, kill_rof, kill_rot, Int.toNat_zero, isFF_ll, rowN_ll, rowX_ll, AllFree, Option.some.injEq, Prod.mk.injEq, Bool.false_eq_true, Bool.true_eq_false]
  (repeat' first | with_reducible assumption | with_reducible apply And.intro | with_reducible intro hh) <;> first | ((first | with_reducible show (_ : Int) ≤ _ | with_reducible show (_ : Int) < _ | with_reducible show (_ : Nat) ≤ _ | with_reducible show (_ : Nat) < _ | with_reducible show (_ : Int) = _ | with_reducible show (_ : Nat) = _ | with_reducible show ¬ _ | with_reducible show _ ≠ _) <;> first | omega | (simp only [Bool.and_eq_true, Bool.or_eq_false_iff, Bool.not_eq_false', Bool.not_eq_true', decide_eq_true_eq, decide_eq_false_iff_not] at *; omega) | (with_reducible assumption)) | (with_reducible assumption) | skip
  all_goals first | (exfalso; omega) | (have := hbi (by assumption); omega) | (refine fin_ret (.inl rfl) (by cbv) (by simp) (To.fresh ⟨.i ?_, trivial⟩); unfold atV; rw [if_pos (by assumption)]) | (refine fin_ret (.inl rfl) (by cbv) (by simp) (To.fresh ⟨.i ?_, trivial⟩); unfold atV; rw [if_neg (by assumption)])
theorem atV_in {l : Nat} {b : Nat → Int} (hb : ∀ k, k < l → 0 ≤ b k ∧ b k < 256) {i n : Int} (h0 : 0 ≤ i) (hn : 1 < n) : 0 ≤ atV l b i n ∧ atV l b i n < n := by
  have key : ∀ x : Int, 0 ≤ x → 0 ≤ x.tmod n ∧ x.tmod n < n := fun x hx => ⟨Int.tmod_nonneg _ hx, Int.tmod_lt_of_pos _ (by omega)⟩
  unfold atV
  split
  · exact key _ (hb i.toNat (by omega)).1
  · exact key _ (by omega)
end Go.Proofs.Ytjkibcdmpjppbaa
