/- Points of the circle, on both sides. -/
/- Points of the circle on the reference's side. -/
import Derived.Test.YtfdmmbcjidkmoaaUa
set_option linter.unusedSimpArgs false
set_option linter.unusedVariables false
namespace Go.Proofs.Ytfdmmbcjidkmoaa
open Go.Aw
def kPh : Kr
  | [.f .f64 x] => some (.c .f32 (fun _ => phC (x .u)) fun _ => phS (x .u), [], fun _ => Cl (x .u) 51)
  | _ => none
def ctPh : CT := [(135, .r kNaN), (136, .r kHuge), (137, .r kPart), (138, .r kSine)]
theorem ctPh_ok : CTok Try.prog ctPh := .cons nan_tells (.cons huge_tells (.cons part_tells (.cons sine_tells (.nil _))))
theorem pick_1 {q a b c d : Nat} (h : q = 1) : pickQ q a b c d = a := by unfold pickQ; rw [if_pos h]
theorem pick_2 {q a b c d : Nat} (h : q = 2) : pickQ q a b c d = b := by unfold pickQ; rw [if_neg (by omega), if_pos h]
theorem pick_3 {q a b c d : Nat} (h : q = 3) : pickQ q a b c d = c := by unfold pickQ; rw [if_neg (by omega), if_neg (by omega), if_pos h]
theorem pick_0 {q a b c d : Nat} (h1 : ¬ q = 1) (h2 : ¬ q = 2) (h3 : ¬ q = 3) : pickQ q a b c d = d := by unfold pickQ; rw [if_neg h1, if_neg h2, if_neg h3]
set_option maxHeartbeats 4000000 in
theorem implPh : Tells Try.prog 103 (.r kPh) := by
  intro args r H' p hr hp
  unfold kPh at hr
  split at hr <;> cases hr
  rename_i x
  have hx : Cl (x .u) 51 := hp
  have hn := hx.nan
  have hs := hx.tame.self
  have hno : f2fOk .f64 (nanOf .f64) .f32 := .inl (isNaN_nanOf _)
  have nA := (phD_cl hx).nan
  have nB := (phR_cl hx).nan
  have hq := phQ_le (x .u)
  refine ⟨.c, .nil, Con.of ttok Try.func103 rfl rfl (Nat.le_refl _) (AW.exec ttok ctPh_ok (by cbv) ?_)⟩
  simp only [natCast_int, Post, All, thenA, canon0, canon064, and_true, true_and, forall_const, implies_true, decide_eq_true_eq, decide_eq_false_iff_not, Bool.not_eq_true', Bool.not_eq_false', Bool.true_and, Bool.and_true, beq_true, beq_false, Int.toNat_natCast, Int.ofNat_lt, Int.ofNat_le, Nat.zero_add, Nat.add_zero, imp_self, Bool.cond_false_right, Bool.cond_true_left, Bool.cond_true_right, IsF, rdF_eq, fOf, AV.f.injEq, exists_eq', free_list, free_fn0, List.not_mem_nil, List.mem_cons, false_imp, forall_eq, or_false, free_i, free_f, free_b, ren_f, ren_i, ren_b, and_self, bne_iff_ne, bne_eq_false_iff_eq, ne_eq, Int.natCast_inj, or_true, true_or, freeB_list, unfr_f, unfr_i, unfr_b, unfr_c, unfr_s, free_c, free_s, ren_c, ren_s, unfr_ro, unfr_rptr, ren_ro, free_ll, free_box, kill_f, kill_i, kill_b, kill_c, kill_s, kill_rof, kill_rot, Int.toNat_zero, isFF_ll, rowN_ll, rowX_ll, AllFree, Option.some.injEq, Prod.mk.injEq, Bool.false_eq_true, Bool.true_eq_false, hn, hs, hno, hx, cn3]
  (repeat' first | with_reducible assumption | with_reducible apply And.intro | with_reducible intro hh) <;> first | ((first | with_reducible show (_ : Int) ≤ _ | with_reducible show (_ : Int) < _ | with_reducible show (_ : Nat) ≤ _ | with_reducible show (_ : Nat) < _ | with_reducible show (_ : Int) = _ | with_reducible show (_ : Nat) = _ | with_reducible show ¬ _ | with_reducible show _ ≠ _) <;> first | omega | (simp only [Bool.and_eq_true, Bool.or_eq_false_iff, Bool.not_eq_false', Bool.not_eq_true', decide_eq_true_eq, decide_eq_false_iff_not] at *; omega) | (with_reducible assumption)) | (with_reducible assumption) | skip
  refine AW.loopH (ι := Nat) (fun j => j ≤ phQ (x .u)) (fun j => phQ (x .u) - j) (fun j => mkE Try.f103.ntmps [(4, .f .f64 fun _ => qF (partF (x .u)) j), (5, .i .i64 fun _ => (j : Int))]) (fun j => []) 0 (Nat.zero_le _) (To.fresh ?_) ?_
  · (repeat' first | exact AllTo.nil | apply AllTo.cons) <;> first | exact AvTo.dead _ | exact AvTo.f rfl | exact AvTo.i rfl
  rintro Q' hQ j hj
  by_cases hjq : j < phQ (x .u)
  · have h3 : fge .f64 (qF (partF (x .u)) j) 4598175219545276416 = true := qN_below 8 _ j hjq
    refine AW.exec ttok ctPh_ok (by cbv) ?_
    simp only [natCast_int, Post, All, thenA, canon0, canon064, and_true, true_and, forall_const, implies_true, decide_eq_true_eq, decide_eq_false_iff_not, Bool.not_eq_true', Bool.not_eq_false', Bool.true_and, Bool.and_true, beq_true, beq_false, Int.toNat_natCast, Int.ofNat_lt, Int.ofNat_le, Nat.zero_add, Nat.add_zero, imp_self, Bool.cond_false_right, Bool.cond_true_left, Bool.cond_true_right, IsF, rdF_eq, fOf, AV.f.injEq, exists_eq', free_list, free_fn0, List.not_mem_nil, List.mem_cons, false_imp, forall_eq, or_false, free_i, free_f, free_b, ren_f, ren_i, ren_b, and_self, bne_iff_ne, bne_eq_false_iff_eq, ne_eq, Int.natCast_inj, or_true, true_or, freeB_list, unfr_f, unfr_i, unfr_b, unfr_c, unfr_s, free_c, free_s, ren_c, ren_s, unfr_ro, unfr_rptr, ren_ro, free_ll, free_box, kill_f, kill_i, kill_b, kill_c, kill_s, kill_rof, kill_rot, Int.toNat_zero, isFF_ll, rowN_ll, rowX_ll, AllFree, Option.some.injEq, Prod.mk.injEq, Bool.false_eq_true, Bool.true_eq_false, cn3, h3]
    (repeat' first | with_reducible assumption | with_reducible apply And.intro | with_reducible intro hh) <;> first | ((first | with_reducible show (_ : Int) ≤ _ | with_reducible show (_ : Int) < _ | with_reducible show (_ : Nat) ≤ _ | with_reducible show (_ : Nat) < _ | with_reducible show (_ : Int) = _ | with_reducible show (_ : Nat) = _ | with_reducible show ¬ _ | with_reducible show _ ≠ _) <;> first | omega | (simp only [Bool.and_eq_true, Bool.or_eq_false_iff, Bool.not_eq_false', Bool.not_eq_true', decide_eq_true_eq, decide_eq_false_iff_not] at *; omega) | (with_reducible assumption)) | (with_reducible assumption) | skip
    refine ⟨j + 1, by omega, by omega, To.fresh ?_⟩
    (repeat' first | exact AllTo.nil | apply AllTo.cons) <;> first | exact AvTo.dead _ | exact AvTo.f rfl | exact AvTo.i rfl
  obtain rfl : j = phQ (x .u) := by omega
  have h3 : fge .f64 (qF (partF (x .u)) (phQ (x .u))) 4598175219545276416 = false := phR_done hx
  refine AW.exec ttok ctPh_ok (by cbv) ?_
  simp only [natCast_int, Post, All, thenA, canon0, canon064, and_true, true_and, forall_const, implies_true, decide_eq_true_eq, decide_eq_false_iff_not, Bool.not_eq_true', Bool.not_eq_false', Bool.true_and, Bool.and_true, beq_true, beq_false, Int.toNat_natCast, Int.ofNat_lt, Int.ofNat_le, Nat.zero_add, Nat.add_zero, imp_self, Bool.cond_false_right, Bool.cond_true_left, Bool.cond_true_right, IsF, rdF_eq, fOf, AV.f.injEq, exists_eq', free_list, free_fn0, List.not_mem_nil, List.mem_cons, false_imp, forall_eq, or_false, free_i, free_f, free_b, ren_f, ren_i, ren_b, and_self, bne_iff_ne, bne_eq_false_iff_eq, ne_eq, Int.natCast_inj, or_true, true_or, freeB_list, unfr_f, unfr_i, unfr_b, unfr_c, unfr_s, free_c, free_s, ren_c, ren_s, unfr_ro, unfr_rptr, ren_ro, free_ll, free_box, kill_f, kill_i, kill_b, kill_c, kill_s, kill_rof, kill_rot, Int.toNat_zero, isFF_ll, rowN_ll, rowX_ll, AllFree, Option.some.injEq, Prod.mk.injEq, Bool.false_eq_true, Bool.true_eq_false, cn3, h3]
  (repeat' first | with_reducible assumption | with_reducible apply And.intro | with_reducible intro hh) <;> first | ((first | with_reducible show (_ : Int) ≤ _ | with_reducible show (_ : Int) < _ | with_reducible show (_ : Nat) ≤ _ | with_reducible show (_ : Nat) < _ | with_reducible show (_ : Int) = _ | with_reducible show (_ : Nat) = _ | with_reducible show ¬ _ | with_reducible show _ ≠ _) <;> first | omega | (simp only [Bool.and_eq_true, Bool.or_eq_false_iff, Bool.not_eq_false', Bool.not_eq_true', decide_eq_true_eq, decide_eq_false_iff_not] at *; omega) | (with_reducible assumption)) | (with_reducible assumption) | skip
  obtain ⟨rfl⟩ := hQ
  refine Post.eval (by cbv) ?_
  have nA' : isNaN .f64 (fsub .f64 4598175219545276416 (qF (partF (x .u)) (phQ (x .u)))) = false := nA
  have nB' : isNaN .f64 (qF (partF (x .u)) (phQ (x .u))) = false := nB
  simp only [natCast_int, Post, All, thenA, canon0, canon064, and_true, true_and, forall_const, implies_true, decide_eq_true_eq, decide_eq_false_iff_not, Bool.not_eq_true', Bool.not_eq_false', Bool.true_and, Bool.and_true, beq_true, beq_false, Int.toNat_natCast, Int.ofNat_lt, Int.ofNat_le, Nat.zero_add, Nat.add_zero, imp_self, Bool.cond_false_right, Bool.cond_true_left, Bool.cond_true_right, IsF, rdF_eq, fOf, AV.f.injEq, exists_eq', free_list, free_fn0, List.not_mem_nil, List.mem_cons, false_imp, forall_eq, or_false, free_i, free_f, free_b, ren_f, ren_i, ren_b, and_self, bne_iff_ne, bne_eq_false_iff_eq, ne_eq, Int.natCast_inj, or_true, true_or, freeB_list, unfr_f, unfr_i, unfr_b, unfr_c, unfr_s, free_c, free_s, ren_c, ren_s, unfr_ro, unfr_rptr, ren_ro, free_ll, free_box, kill_f, kill_i, kill_b, kill_c, kill_s, kill_rof, kill_rot, Int.toNat_zero, isFF_ll, rowN_ll, rowX_ll, AllFree, Option.some.injEq, Prod.mk.injEq, Bool.false_eq_true, Bool.true_eq_false, cn3, nA', nB']
  (repeat' first | with_reducible assumption | with_reducible apply And.intro | with_reducible intro hh) <;> first | ((first | with_reducible show (_ : Int) ≤ _ | with_reducible show (_ : Int) < _ | with_reducible show (_ : Nat) ≤ _ | with_reducible show (_ : Nat) < _ | with_reducible show (_ : Int) = _ | with_reducible show (_ : Nat) = _ | with_reducible show ¬ _ | with_reducible show _ ≠ _) <;> first | omega | (simp only [Bool.and_eq_true, Bool.or_eq_false_iff, Bool.not_eq_false', Bool.not_eq_true', decide_eq_true_eq, decide_eq_false_iff_not] at *; omega) | (with_reducible assumption)) | (with_reducible assumption) | skip
  all_goals have knA := (phA_ncl hx).narrow (by decide)
  all_goals have knB := (phB_ncl hx).narrow (by decide)
  all_goals have kA := (phA_cl hx).narrow (by decide)
  all_goals have kB := (phB_cl hx).narrow (by decide)
  all_goals first
    | exact knA
    | exact knB
    | exact kA
    | exact kB
    | (have e1 : phQ (x .u) = 1 := by have h := eq_of_beq ‹((phQ (x .u) : Int) == 1) = true›; omega
       refine fin_ret (.inl rfl) (by cbv) (by simp) (To.fresh ⟨.c ?_ ?_, trivial⟩)
       · show _ = f2f .f64 (phCw (x .u)) .f32
         unfold phCw
         rw [pick_1 e1]
         rfl
       · show _ = f2f .f64 (phSw (x .u)) .f32
         unfold phSw
         rw [pick_1 e1]
         rfl)
    | (have e2 : phQ (x .u) = 2 := by have h := eq_of_beq ‹((phQ (x .u) : Int) == 2) = true›; omega
       refine fin_ret (.inl rfl) (by cbv) (by simp) (To.fresh ⟨.c ?_ ?_, trivial⟩)
       · show _ = f2f .f64 (phCw (x .u)) .f32
         unfold phCw
         rw [pick_2 e2]
         rfl
       · show _ = f2f .f64 (phSw (x .u)) .f32
         unfold phSw
         rw [pick_2 e2]
         rfl)
    | (have e3 : phQ (x .u) = 3 := by have h := eq_of_beq ‹((phQ (x .u) : Int) == 3) = true›; omega
       refine fin_ret (.inl rfl) (by cbv) (by simp) (To.fresh ⟨.c ?_ ?_, trivial⟩)
       · show _ = f2f .f64 (phCw (x .u)) .f32
         unfold phCw
         rw [pick_3 e3]
         rfl
       · show _ = f2f .f64 (phSw (x .u)) .f32
         unfold phSw
         rw [pick_3 e3]
         rfl)
    | (have e1 : ¬ phQ (x .u) = 1 := by have h := ne_of_beq_false ‹((phQ (x .u) : Int) == 1) = false›; omega
       have e2 : ¬ phQ (x .u) = 2 := by have h := ne_of_beq_false ‹((phQ (x .u) : Int) == 2) = false›; omega
       have e3 : ¬ phQ (x .u) = 3 := by have h := ne_of_beq_false ‹((phQ (x .u) : Int) == 3) = false›; omega
       refine fin_ret (.inl rfl) (by cbv) (by simp) (To.fresh ⟨.c ?_ ?_, trivial⟩)
       · show _ = f2f .f64 (phCw (x .u)) .f32
         unfold phCw
         rw [pick_0 e1 e2 e3]
         rfl
       · show _ = f2f .f64 (phSw (x .u)) .f32
         unfold phSw
         rw [pick_0 e1 e2 e3]
         rfl)
    | trace_state
end Go.Proofs.Ytfdmmbcjidkmoaa
set_option linter.unusedSimpArgs false
set_option linter.unusedVariables false
namespace Go.Proofs.Ytfdmmbcjidkmoaa
open Go.Aw
def kNar64 : Kr
  | [.f .f64 x] => some (.f .f32 fun _ => f2f .f64 (x .u) .f32, [], fun _ => f2fOk .f64 (x .u) .f32)
  | _ => none
theorem nar64_tells : Tells Try.prog 156 (.r kNar64) := by
  intro args r H' p hr hp
  unfold kNar64 at hr
  split at hr <;> cases hr
  rename_i x
  have h : f2fOk .f64 (x .u) .f32 := hp
  refine ⟨.f, .nil, Con.of ttok Try.func156 rfl rfl (Nat.le_refl _) (AW.exec ttok (CTok.nil _) (by cbv) ?_)⟩
  simp only [natCast_int, Post, All, thenA, canon0, canon064, and_true, true_and, forall_const, implies_true, decide_eq_true_eq, decide_eq_false_iff_not, Bool.not_eq_true', Bool.not_eq_false', Bool.true_and, Bool.and_true, beq_true, beq_false, Int.toNat_natCast, Int.ofNat_lt, Int.ofNat_le, Nat.zero_add, Nat.add_zero, imp_self, Bool.cond_false_right, Bool.cond_true_left, Bool.cond_true_right, IsF, rdF_eq, fOf, AV.f.injEq, exists_eq', free_list, free_fn0, List.not_mem_nil, List.mem_cons, false_imp, forall_eq, or_false, free_i, free_f, free_b, ren_f, ren_i, ren_b, and_self, bne_iff_ne, bne_eq_false_iff_eq, ne_eq, Int.natCast_inj, or_true, true_or, freeB_list, unfr_f, unfr_i, unfr_b, unfr_c, unfr_s, free_c, free_s, ren_c, ren_s, unfr_ro, unfr_rptr, ren_ro, free_ll, free_box, kill_f, kill_i, kill_b, kill_c, kill_s, kill_rof, kill_rot, Int.toNat_zero, isFF_ll, rowN_ll, rowX_ll, AllFree, Option.some.injEq, Prod.mk.injEq, Bool.false_eq_true, Bool.true_eq_false, h]
  (repeat' first | with_reducible assumption | with_reducible apply And.intro | with_reducible intro hh) <;> first | ((first | with_reducible show (_ : Int) ≤ _ | with_reducible show (_ : Int) < _ | with_reducible show (_ : Nat) ≤ _ | with_reducible show (_ : Nat) < _ | with_reducible show (_ : Int) = _ | with_reducible show (_ : Nat) = _ | with_reducible show ¬ _ | with_reducible show _ ≠ _) <;> first | omega | (simp only [Bool.and_eq_true, Bool.or_eq_false_iff, Bool.not_eq_false', Bool.not_eq_true', decide_eq_true_eq, decide_eq_false_iff_not] at *; omega) | (with_reducible assumption)) | (with_reducible assumption) | skip
  all_goals exact fin_ret (.inl rfl) (by cbv) (by simp) (To.fresh ⟨.f rfl, trivial⟩)
theorem den_int : ∀ j : Fin 8, -9223372036854775808 ≤ 2 * (8 - (j.val : Int)) * (2 * (8 - (j.val : Int)) + 1) ∧ 2 * (8 - (j.val : Int)) * (2 * (8 - (j.val : Int)) + 1) ≤ 9223372036854775807 := by decide
def kSineW : Kr
  | [.f .f64 x] => some (.f .f64 fun _ => sineF (x .u), [], fun _ => Cl (x .u) 51)
  | _ => none
end Go.Proofs.Ytfdmmbcjidkmoaa
