/- Points of the circle on the reference's side. -/
import Derived.Test.YtjkibcdmpjppbaaUb
set_option linter.unusedSimpArgs false
set_option linter.unusedVariables false
namespace Go.Proofs.Ytjkibcdmpjppbaa
open Go.Aw
def kNar64 : Kr
  | [.f .f64 x] => some (.f .f32 fun _ => f2f .f64 (x .u) .f32, [], fun _ => f2fOk .f64 (x .u) .f32)
  | _ => none
theorem nar64_tells : Tells Try.prog 73 (.r kNar64) := by
  intro args r H' p hr hp
  unfold kNar64 at hr
  split at hr <;> cases hr
  rename_i x
  have h : f2fOk .f64 (x .u) .f32 := hp
  refine ⟨.f, .nil, Con.of ttok Try.func73 rfl rfl (Nat.le_refl _) (AW.exec ttok (CTok.nil _) (by cbv) ?_)⟩
  simp only [natCast_int, Post, All, thenA, canon0, canon064, and_true, true_and, forall_const, implies_true, decide_eq_true_eq, decide_eq_false_iff_not, Bool.not_eq_true', Bool.not_eq_false', Bool.true_and, Bool.and_true, beq_true, beq_false, Int.toNat_natCast, Int.ofNat_lt, Int.ofNat_le, Nat.zero_add, Nat.add_zero, imp_self, Bool.cond_false_right, Bool.cond_true_left, Bool.cond_true_right, IsF, rdF_eq, fOf, AV.f.injEq, exists_eq', free_list, free_fn0, List.not_mem_nil, List.mem_cons, false_imp, forall_eq, or_false, free_i, free_f, free_b, ren_f, ren_i, ren_b, and_self, bne_iff_ne, bne_eq_false_iff_eq, ne_eq, Int.natCast_inj, or_true, true_or, freeB_list, unfr_f, unfr_i, unfr_b, unfr_c, unfr_s, free_c, free_s, ren_c, ren_s, unfr_ro, unfr_rptr, ren_ro, free_ll, free_box, kill_f, kill_i, kill_b, kill_c, kill_s, kill_rof, kill_rot, Int.toNat_zero, isFF_ll, rowN_ll, rowX_ll, AllFree, Option.some.injEq, Prod.mk.injEq, Bool.false_eq_true, Bool.true_eq_false, h]
  (repeat' first | with_reducible assumption | with_reducible apply And.intro | with_reducible intro hh) <;> first | ((first | with_reducible show (_ : Int) ≤ _ | with_reducible show (_ : Int) < _ | with_reducible show (_ : Nat) ≤ _ | with_reducible show (_ : Nat) < _ | with_reducible show (_ : Int) = _ | with_reducible show (_ : Nat) = _ | with_reducible show ¬ _ | with_reducible show _ ≠ _) <;> first | omega | (simp only [Bool.and_eq_true, Bool.or_eq_false_iff, Bool.not_eq_false', Bool.not_eq_true', decide_eq_true_eq, decide_eq_false_iff_not] at *; omega) | (with_reducible assumption)) | (with_reducible assumption) | skip
  all_goals exact fin_ret (.inl rfl) (by cbv) (by simp) (To.fresh ⟨.f rfl, trivial⟩)
theorem den_int : ∀ j : Fin 8, -9223372036854775808 ≤ 2 * (8 - (j.val : Int)) * (2 * (8 - (j.val : Int)) + 1) ∧ 2 * (8 - (j.val : Int)) * (2 * (8 - (j.val : Int)) + 1) ≤ 9223372036854775807 := by decide
def kSineW : Kr
  | [.f .f64 x] => some (.f .f64 fun _ => sineF (x .u), [], fun _ => Cl (x .u) 51)
  | _ => none
set_option maxHeartbeats 4000000 in
theorem sineW_tells : Tells Try.prog 82 (.r kSineW) := by
  intro args r H' p hr hp
  unfold kSineW at hr
  split at hr <;> cases hr
  rename_i x
  have hx : Cl (x .u) 51 := hp
  obtain ⟨hn, hself, hbig, hlow, hint, hwhole⟩ := hx.tame
  have hbig' : fge .f64 (x .u) 4841369599423283200 = false := hbig
  have hlow' : fle .f64 (x .u) 14064741636278059008 = false := hlow
  have hpart1 : flt .f64 (fsub .f64 (x .u) (wholeF (x .u))) 0 = true → fadd .f64 (fsub .f64 (x .u) (wholeF (x .u))) 4607182418800017408 = partF (x .u) := fun h => by
    unfold partF fracF
    rw [h]
    rfl
  have hpart0 : flt .f64 (fsub .f64 (x .u) (wholeF (x .u))) 0 = false → fsub .f64 (x .u) (wholeF (x .u)) = partF (x .u) := fun h => by
    unfold partF fracF
    rw [h]
    rfl
  refine ⟨.f, .nil, Con.of ttok Try.func82 rfl rfl (Nat.le_refl _) (AW.exec ttok (CTok.nil _) (by cbv) ?_)⟩
  cases hf : flt .f64 (fsub .f64 (x .u) (wholeF (x .u))) 0
  all_goals first
    | have hpa := hpart1 hf
      simp only [natCast_int, Post, All, thenA, canon0, canon064, and_true, true_and, forall_const, implies_true, decide_eq_true_eq, decide_eq_false_iff_not, Bool.not_eq_true', Bool.not_eq_false', Bool.true_and, Bool.and_true, beq_true, beq_false, Int.toNat_natCast, Int.ofNat_lt, Int.ofNat_le, Nat.zero_add, Nat.add_zero, imp_self, Bool.cond_false_right, Bool.cond_true_left, Bool.cond_true_right, IsF, rdF_eq, fOf, AV.f.injEq, exists_eq', free_list, free_fn0, List.not_mem_nil, List.mem_cons, false_imp, forall_eq, or_false, free_i, free_f, free_b, ren_f, ren_i, ren_b, and_self, bne_iff_ne, bne_eq_false_iff_eq, ne_eq, Int.natCast_inj, or_true, true_or, freeB_list, unfr_f, unfr_i, unfr_b, unfr_c, unfr_s, free_c, free_s, ren_c, ren_s, unfr_ro, unfr_rptr, ren_ro, free_ll, free_box, kill_f, kill_i, kill_b, kill_c, kill_s, kill_rof, kill_rot, Int.toNat_zero, isFF_ll, rowN_ll, rowX_ll, AllFree, Option.some.injEq, Prod.mk.injEq, Bool.false_eq_true, Bool.true_eq_false, hself, hbig', hlow', hint, hwhole, cn1, cn2, cn3, cn4, cn7, cn8, hf, hpa]
      (repeat' first | with_reducible assumption | with_reducible apply And.intro | with_reducible intro hh) <;> first | ((first | with_reducible show (_ : Int) ≤ _ | with_reducible show (_ : Int) < _ | with_reducible show (_ : Nat) ≤ _ | with_reducible show (_ : Nat) < _ | with_reducible show (_ : Int) = _ | with_reducible show (_ : Nat) = _ | with_reducible show ¬ _ | with_reducible show _ ≠ _) <;> first | omega | (simp only [Bool.and_eq_true, Bool.or_eq_false_iff, Bool.not_eq_false', Bool.not_eq_true', decide_eq_true_eq, decide_eq_false_iff_not] at *; omega) | (with_reducible assumption)) | (with_reducible assumption) | skip
    | have hpa := hpart0 hf
      rw [hpa] at hf
      simp only [natCast_int, Post, All, thenA, canon0, canon064, and_true, true_and, forall_const, implies_true, decide_eq_true_eq, decide_eq_false_iff_not, Bool.not_eq_true', Bool.not_eq_false', Bool.true_and, Bool.and_true, beq_true, beq_false, Int.toNat_natCast, Int.ofNat_lt, Int.ofNat_le, Nat.zero_add, Nat.add_zero, imp_self, Bool.cond_false_right, Bool.cond_true_left, Bool.cond_true_right, IsF, rdF_eq, fOf, AV.f.injEq, exists_eq', free_list, free_fn0, List.not_mem_nil, List.mem_cons, false_imp, forall_eq, or_false, free_i, free_f, free_b, ren_f, ren_i, ren_b, and_self, bne_iff_ne, bne_eq_false_iff_eq, ne_eq, Int.natCast_inj, or_true, true_or, freeB_list, unfr_f, unfr_i, unfr_b, unfr_c, unfr_s, free_c, free_s, ren_c, ren_s, unfr_ro, unfr_rptr, ren_ro, free_ll, free_box, kill_f, kill_i, kill_b, kill_c, kill_s, kill_rof, kill_rot, Int.toNat_zero, isFF_ll, rowN_ll, rowX_ll, AllFree, Option.some.injEq, Prod.mk.injEq, Bool.false_eq_true, Bool.true_eq_false, hself, hbig', hlow', hint, hwhole, cn1, cn2, cn3, cn4, cn7, cn8, hpa, hf]
      (repeat' first | with_reducible assumption | with_reducible apply And.intro | with_reducible intro hh) <;> first | ((first | with_reducible show (_ : Int) ≤ _ | with_reducible show (_ : Int) < _ | with_reducible show (_ : Nat) ≤ _ | with_reducible show (_ : Nat) < _ | with_reducible show (_ : Int) = _ | with_reducible show (_ : Nat) = _ | with_reducible show ¬ _ | with_reducible show _ ≠ _) <;> first | omega | (simp only [Bool.and_eq_true, Bool.or_eq_false_iff, Bool.not_eq_false', Bool.not_eq_true', decide_eq_true_eq, decide_eq_false_iff_not] at *; omega) | (with_reducible assumption)) | (with_reducible assumption) | skip
  all_goals first
    | have hz := fold_11 ‹fge .f64 (partF (x .u)) 4602678819172646912 = true› ‹fgt .f64 (fsub .f64 (partF (x .u)) 4602678819172646912) 4598175219545276416 = true›
    | have hz := fold_10 ‹fge .f64 (partF (x .u)) 4602678819172646912 = true› ‹fgt .f64 (fsub .f64 (partF (x .u)) 4602678819172646912) 4598175219545276416 = false›
    | have hz := fold_01 ‹fge .f64 (partF (x .u)) 4602678819172646912 = false› ‹fgt .f64 (partF (x .u)) 4598175219545276416 = true›
    | have hz := fold_00 ‹fge .f64 (partF (x .u)) 4602678819172646912 = false› ‹fgt .f64 (partF (x .u)) 4598175219545276416 = false›
  all_goals have hz' : fmul .f64 _ 4618760256179416344 = zF (x .u) := congrArg (fun z => fmul .f64 z 4618760256179416344) hz
  all_goals refine AW.loopH (ι := Nat) (fun j => j ≤ 8) (fun j => 8 - j) (fun j => mkE Try.f82.ntmps [(4, .b fun _ => fge .f64 (partF (x .u)) halfD), (5, .f .f64 fun _ => zF (x .u)), (6, .f .f64 fun _ => fmul .f64 (zF (x .u)) (zF (x .u))), (7, .f .f64 fun _ => pD (fmul .f64 (zF (x .u)) (zF (x .u))) j), (8, .i .i64 fun _ => 8 - (j : Int))]) (fun j => []) 0 (Nat.zero_le _) (To.fresh ?_) ?_
  all_goals first
    | (rintro Q' hQ j hj; skip)
    | ((repeat' first | exact AllTo.nil | apply AllTo.cons) <;> first | exact AvTo.dead _ | exact AvTo.f rfl | exact AvTo.i rfl | exact AvTo.b rfl | exact AvTo.b (Eq.symm (by assumption)) | exact AvTo.f hz' | exact AvTo.f (by rw [← hz']) | skip)
  all_goals by_cases hj8 : j < 8
  all_goals first
    | have h2 : itof .f64 (2 * (8 - (j : Int)) * (2 * (8 - (j : Int)) + 1)) = denD j := rfl
      obtain ⟨hA, hB⟩ := den_int ⟨j, hj8⟩
      refine AW.exec ttok (CTok.nil _) (by cbv) ?_
      simp only [natCast_int, Post, All, thenA, canon0, canon064, and_true, true_and, forall_const, implies_true, decide_eq_true_eq, decide_eq_false_iff_not, Bool.not_eq_true', Bool.not_eq_false', Bool.true_and, Bool.and_true, beq_true, beq_false, Int.toNat_natCast, Int.ofNat_lt, Int.ofNat_le, Nat.zero_add, Nat.add_zero, imp_self, Bool.cond_false_right, Bool.cond_true_left, Bool.cond_true_right, IsF, rdF_eq, fOf, AV.f.injEq, exists_eq', free_list, free_fn0, List.not_mem_nil, List.mem_cons, false_imp, forall_eq, or_false, free_i, free_f, free_b, ren_f, ren_i, ren_b, and_self, bne_iff_ne, bne_eq_false_iff_eq, ne_eq, Int.natCast_inj, or_true, true_or, freeB_list, unfr_f, unfr_i, unfr_b, unfr_c, unfr_s, free_c, free_s, ren_c, ren_s, unfr_ro, unfr_rptr, ren_ro, free_ll, free_box, kill_f, kill_i, kill_b, kill_c, kill_s, kill_rof, kill_rot, Int.toNat_zero, isFF_ll, rowN_ll, rowX_ll, AllFree, Option.some.injEq, Prod.mk.injEq, Bool.false_eq_true, Bool.true_eq_false, cn1, cn5, h2]
      (repeat' first | with_reducible assumption | with_reducible apply And.intro | with_reducible intro hh) <;> first | ((first | with_reducible show (_ : Int) ≤ _ | with_reducible show (_ : Int) < _ | with_reducible show (_ : Nat) ≤ _ | with_reducible show (_ : Nat) < _ | with_reducible show (_ : Int) = _ | with_reducible show (_ : Nat) = _ | with_reducible show ¬ _ | with_reducible show _ ≠ _) <;> first | omega | (simp only [Bool.and_eq_true, Bool.or_eq_false_iff, Bool.not_eq_false', Bool.not_eq_true', decide_eq_true_eq, decide_eq_false_iff_not] at *; omega) | (with_reducible assumption)) | (with_reducible assumption) | skip
      all_goals first | (exfalso; omega) | exact hA | exact hB | skip
      refine ⟨j + 1, by omega, by omega, To.fresh ?_⟩
      (repeat' first | exact AllTo.nil | apply AllTo.cons) <;> first | exact AvTo.dead _ | exact AvTo.f rfl | exact AvTo.b rfl | exact AvTo.i (by first | omega | (simp only [natCast_int]; omega))
    | skip
  all_goals
    obtain rfl : j = 8 := by omega
    refine AW.exec ttok (CTok.nil _) (by cbv) ?_
    simp only [natCast_int, Post, All, thenA, canon0, canon064, and_true, true_and, forall_const, implies_true, decide_eq_true_eq, decide_eq_false_iff_not, Bool.not_eq_true', Bool.not_eq_false', Bool.true_and, Bool.and_true, beq_true, beq_false, Int.toNat_natCast, Int.ofNat_lt, Int.ofNat_le, Nat.zero_add, Nat.add_zero, imp_self, Bool.cond_false_right, Bool.cond_true_left, Bool.cond_true_right, IsF, rdF_eq, fOf, AV.f.injEq, exists_eq', free_list, free_fn0, List.not_mem_nil, List.mem_cons, false_imp, forall_eq, or_false, free_i, free_f, free_b, ren_f, ren_i, ren_b, and_self, bne_iff_ne, bne_eq_false_iff_eq, ne_eq, Int.natCast_inj, or_true, true_or, freeB_list, unfr_f, unfr_i, unfr_b, unfr_c, unfr_s, free_c, free_s, ren_c, ren_s, unfr_ro, unfr_rptr, ren_ro, free_ll, free_box, kill_f, kill_i, kill_b, kill_c, kill_s, kill_rof, kill_rot, Int.toNat_zero, isFF_ll, rowN_ll, rowX_ll, AllFree, Option.some.injEq, Prod.mk.injEq, Bool.false_eq_true, Bool.true_eq_false, cn1, cn5]
    (repeat' first | with_reducible assumption | with_reducible apply And.intro | with_reducible intro hh) <;> first | ((first | with_reducible show (_ : Int) ≤ _ | with_reducible show (_ : Int) < _ | with_reducible show (_ : Nat) ≤ _ | with_reducible show (_ : Nat) < _ | with_reducible show (_ : Int) = _ | with_reducible show (_ : Nat) = _ | with_reducible show ¬ _ | with_reducible show _ ≠ _) <;> first | omega | (simp only [Bool.and_eq_true, Bool.or_eq_false_iff, Bool.not_eq_false', Bool.not_eq_true', decide_eq_true_eq, decide_eq_false_iff_not] at *; omega) | (with_reducible assumption)) | (with_reducible assumption) | skip
    all_goals first | (exfalso; omega) | skip
    obtain ⟨rfl⟩ := hQ
    refine Post.eval (by cbv) ?_
    simp only [natCast_int, Post, All, thenA, canon0, canon064, and_true, true_and, forall_const, implies_true, decide_eq_true_eq, decide_eq_false_iff_not, Bool.not_eq_true', Bool.not_eq_false', Bool.true_and, Bool.and_true, beq_true, beq_false, Int.toNat_natCast, Int.ofNat_lt, Int.ofNat_le, Nat.zero_add, Nat.add_zero, imp_self, Bool.cond_false_right, Bool.cond_true_left, Bool.cond_true_right, IsF, rdF_eq, fOf, AV.f.injEq, exists_eq', free_list, free_fn0, List.not_mem_nil, List.mem_cons, false_imp, forall_eq, or_false, free_i, free_f, free_b, ren_f, ren_i, ren_b, and_self, bne_iff_ne, bne_eq_false_iff_eq, ne_eq, Int.natCast_inj, or_true, true_or, freeB_list, unfr_f, unfr_i, unfr_b, unfr_c, unfr_s, free_c, free_s, ren_c, ren_s, unfr_ro, unfr_rptr, ren_ro, free_ll, free_box, kill_f, kill_i, kill_b, kill_c, kill_s, kill_rof, kill_rot, Int.toNat_zero, isFF_ll, rowN_ll, rowX_ll, AllFree, Option.some.injEq, Prod.mk.injEq, Bool.false_eq_true, Bool.true_eq_false]
    (repeat' first | with_reducible assumption | with_reducible apply And.intro | with_reducible intro hh) <;> first | ((first | with_reducible show (_ : Int) ≤ _ | with_reducible show (_ : Int) < _ | with_reducible show (_ : Nat) ≤ _ | with_reducible show (_ : Nat) < _ | with_reducible show (_ : Int) = _ | with_reducible show (_ : Nat) = _ | with_reducible show ¬ _ | with_reducible show _ ≠ _) <;> first | omega | (simp only [Bool.and_eq_true, Bool.or_eq_false_iff, Bool.not_eq_false', Bool.not_eq_true', decide_eq_true_eq, decide_eq_false_iff_not] at *; omega) | (with_reducible assumption)) | (with_reducible assumption) | skip
    all_goals refine fin_ret (.inl rfl) (by cbv) (by simp) (To.fresh ⟨.f ?_, trivial⟩)
    all_goals first
      | (have hb : fge .f64 (partF (x .u)) halfD = true := by assumption
         show _ = sineF (x .u)
         unfold sineF
         rw [hb, cond_true]
         done)
      | (have hb : fge .f64 (partF (x .u)) halfD = false := by assumption
         show _ = sineF (x .u)
         unfold sineF
         rw [hb, cond_false]
         done)
      | (exfalso; simp_all; done)
      | trace_state
end Go.Proofs.Ytjkibcdmpjppbaa
