/- Steps, pulses and desks that are the same to the last bit, on both sides. -/
import Derived.Test.YtngdpbjgmajfmaaHo
set_option linter.unusedSimpArgs false
set_option linter.unusedVariables false
namespace Go.Proofs.Ytngdpbjgmajfmaa
open Go.Aw
def stepsW (n : Nat) (x : Nat → Nat) (k : Nat) (y : Nat → Nat) (n' : Nat) (x' : Nat → Nat) (k' : Nat) (y' : Nat → Nat) : Bool := sameLW n x n' x' && sameLW k y k' y'
def pulseW (a b c d a' b' c' d' : Nat) : Bool := sameW a a' && (sameW b b' && (sameW c c' && sameW d d'))
def deskW (n : Nat) (x : Nat → Nat) (k : Nat) (y : Nat → Nat) (a b c d l : Nat) (z : Nat → Nat) (n' : Nat) (x' : Nat → Nat) (k' : Nat) (y' : Nat → Nat) (a' b' c' d' l' : Nat) (z' : Nat → Nat) : Bool :=
  stepsW n x k y n' x' k' y' && (pulseW a b c d a' b' c' d' && sameLW l z l' z')
def P32 (a b c d : Nat) : Prop := a < 4294967296 ∧ b < 4294967296 ∧ c < 4294967296 ∧ d < 4294967296
def kSameStepsP : Kr
  | [.rptr fr m h, .rptr fr' m' h'] => match asL (h 0), asL (h 1), asL (h' 0), asL (h' 1) with
    | some (n, g), some (k, f), some (n', g'), some (k', f') => some (.b fun _ => stepsW (n .u) (rdF g) (k .u) (rdF f) (n' .u) (rdF g') (k' .u) (rdF f'), [], fun _ => ((IsF n g ∧ IsF k f ∧ 2 ≤ m) ∧ (IsF n' g' ∧ IsF k' f' ∧ 2 ≤ m')) ∧ (W32 (n .u) (rdF g) ∧ W32 (k .u) (rdF f)) ∧ W32 (n' .u) (rdF g') ∧ W32 (k' .u) (rdF f'))
    | _, _, _, _ => none
  | _ => none
def ctSameS1 : CT := [(53, .r kSameL)]
theorem ctSameS1_ok : CTok Try.prog ctSameS1 := .cons l01SameAll_tells (.nil _)
theorem l02Same_tells : Tells Try.prog 51 (.r kSameStepsP) := by
  intro args r H' p hr hp
  unfold kSameStepsP at hr
  split at hr <;> first | (cases hr; done) | skip
  split at hr <;> cases hr
  rename_i fr m h fr' m' h' _ _ _ _ n g k f n' g' k' f' h1 h2 h3 h4
  obtain ⟨⟨⟨p1, p2, hm⟩, p3, p4, hm'⟩, ⟨w1, w2⟩, w3, w4⟩ := hp
  refine ⟨.b, .nil, Con.pre (args' := [.rptr false 2 fun j => [listF false n (rdF g), listF false k (rdF f)].getD j .dead, .rptr false 2 fun j => [listF false n' (rdF g'), listF false k' (rdF f')].getD j .dead]) ⟨Sub.rptrL hm fun j hj => ?_, Sub.rptrL hm' fun j hj => ?_, trivial⟩ ?_⟩
  · match j, hj with
    | 0, _ => exact Sub.asL h1 p1
    | 1, _ => exact Sub.asL h2 p2
  · match j, hj with
    | 0, _ => exact Sub.asL h3 p3
    | 1, _ => exact Sub.asL h4 p4
  have q1 := p1.1
  have q2 := p2.1
  have q3 := p3.1
  have q4 := p4.1
  generalize rdF g = x at w1 ⊢
  generalize rdF f = y at w2 ⊢
  generalize rdF g' = x' at w3 ⊢
  generalize rdF f' = y' at w4 ⊢
  have v1 := eq_true w1
  have v2 := eq_true w2
  have v3 := eq_true w3
  have v4 := eq_true w4
  refine Con.of ttok Try.func51 rfl rfl (Nat.zero_le _) (AW.exec ttok ctSameS1_ok (by cbv) ?_)
  simp only [natCast_int, Post, All, thenA, canon0, canon064, and_true, true_and, forall_const, implies_true, decide_eq_true_eq, decide_eq_false_iff_not, Bool.not_eq_true', Bool.not_eq_false', Bool.true_and, Bool.and_true, beq_true, beq_false, Int.toNat_natCast, Int.ofNat_lt, Int.ofNat_le, Nat.zero_add, Nat.add_zero, imp_self, Bool.cond_false_right, Bool.cond_true_left, Bool.cond_true_right, IsF, rdF_eq, fOf, AV.f.injEq, exists_eq', free_list, free_fn0, List.not_mem_nil, List.mem_cons, false_imp, forall_eq, or_false, free_i, free_f, free_b, ren_f, ren_i, ren_b, and_self, bne_iff_ne, bne_eq_false_iff_eq, ne_eq, Int.natCast_inj, or_true, true_or, freeB_list, unfr_f, unfr_i, unfr_b, unfr_c, unfr_s, free_c, free_s, ren_c, ren_s, unfr_ro, unfr_rptr, ren_ro, free_ll, free_box, kill_f, kill_i, kill_b, kill_c, kill_s, kill_rof, kill_rot, Int.toNat_zero, isFF_ll, rowN_ll, rowX_ll, AllFree, Option.some.injEq, Prod.mk.injEq, Bool.false_eq_true, Bool.true_eq_false, q1, q2, q3, q4, v1, v2, v3, v4]
  (repeat' first | with_reducible assumption | with_reducible apply And.intro | with_reducible intro hh) <;> first | ((first | with_reducible show (_ : Int) ≤ _ | with_reducible show (_ : Int) < _ | with_reducible show (_ : Nat) ≤ _ | with_reducible show (_ : Nat) < _ | with_reducible show (_ : Int) = _ | with_reducible show (_ : Nat) = _ | with_reducible show ¬ _ | with_reducible show _ ≠ _) <;> first | omega | (simp only [Bool.and_eq_true, Bool.or_eq_false_iff, Bool.not_eq_false', Bool.not_eq_true', decide_eq_true_eq, decide_eq_false_iff_not] at *; omega) | (with_reducible assumption)) | (with_reducible assumption) | skip
  exact fin_ret (.inl rfl) (by cbv) (by simp) (To.fresh ⟨.b rfl, trivial⟩)
def kSameStepsV : Kr
  | [.agg [a, b], .agg [c, d]] => match asL a, asL b, asL c, asL d with
    | some (n, g), some (k, f), some (n', g'), some (k', f') => some (.b fun _ => stepsW (n .u) (rdF g) (k .u) (rdF f) (n' .u) (rdF g') (k' .u) (rdF f'), [], fun _ => ((IsF n g ∧ IsF k f) ∧ (IsF n' g' ∧ IsF k' f')) ∧ (W32 (n .u) (rdF g) ∧ W32 (k .u) (rdF f)) ∧ W32 (n' .u) (rdF g') ∧ W32 (k' .u) (rdF f'))
    | _, _, _, _ => none
  | _ => none
def ctSameS2 : CT := [(58, .r kSameL)]
theorem ctSameS2_ok : CTok Try.prog ctSameS2 := .cons sameNumbers_tells (.nil _)
theorem SameSteps_tells : Tells Try.prog 56 (.r kSameStepsV) := by
  intro args r H' p hr hp
  unfold kSameStepsV at hr
  split at hr <;> first | (cases hr; done) | skip
  split at hr <;> cases hr
  rename_i _ _ _ _ n g k f n' g' k' f' h1 h2 h3 h4
  obtain ⟨⟨⟨p1, p2⟩, p3, p4⟩, ⟨w1, w2⟩, w3, w4⟩ := hp
  refine ⟨.b, .nil, Con.pre (args' := [.agg [listF false n (rdF g), listF false k (rdF f)], .agg [listF false n' (rdF g'), listF false k' (rdF f')]]) ⟨Sub.aggL ⟨.asL h1 p1, .asL h2 p2, trivial⟩, Sub.aggL ⟨.asL h3 p3, .asL h4 p4, trivial⟩, trivial⟩ ?_⟩
  have q1 := p1.1
  have q2 := p2.1
  have q3 := p3.1
  have q4 := p4.1
  generalize rdF g = x at w1 ⊢
  generalize rdF f = y at w2 ⊢
  generalize rdF g' = x' at w3 ⊢
  generalize rdF f' = y' at w4 ⊢
  have v1 := eq_true w1
  have v2 := eq_true w2
  have v3 := eq_true w3
  have v4 := eq_true w4
  refine Con.of ttok Try.func56 rfl rfl (Nat.zero_le _) (AW.exec ttok ctSameS2_ok (by cbv) ?_)
  simp only [natCast_int, Post, All, thenA, canon0, canon064, and_true, true_and, forall_const, implies_true, decide_eq_true_eq, decide_eq_false_iff_not, Bool.not_eq_true', Bool.not_eq_false', Bool.true_and, Bool.and_true, beq_true, beq_false, Int.toNat_natCast, Int.ofNat_lt, Int.ofNat_le, Nat.zero_add, Nat.add_zero, imp_self, Bool.cond_false_right, Bool.cond_true_left, Bool.cond_true_right, IsF, rdF_eq, fOf, AV.f.injEq, exists_eq', free_list, free_fn0, List.not_mem_nil, List.mem_cons, false_imp, forall_eq, or_false, free_i, free_f, free_b, ren_f, ren_i, ren_b, and_self, bne_iff_ne, bne_eq_false_iff_eq, ne_eq, Int.natCast_inj, or_true, true_or, freeB_list, unfr_f, unfr_i, unfr_b, unfr_c, unfr_s, free_c, free_s, ren_c, ren_s, unfr_ro, unfr_rptr, ren_ro, free_ll, free_box, kill_f, kill_i, kill_b, kill_c, kill_s, kill_rof, kill_rot, Int.toNat_zero, isFF_ll, rowN_ll, rowX_ll, AllFree, Option.some.injEq, Prod.mk.injEq, Bool.false_eq_true, Bool.true_eq_false, q1, q2, q3, q4, v1, v2, v3, v4]
  (repeat' first | with_reducible assumption | with_reducible apply And.intro | with_reducible intro hh) <;> first | ((first | with_reducible show (_ : Int) ≤ _ | with_reducible show (_ : Int) < _ | with_reducible show (_ : Nat) ≤ _ | with_reducible show (_ : Nat) < _ | with_reducible show (_ : Int) = _ | with_reducible show (_ : Nat) = _ | with_reducible show ¬ _ | with_reducible show _ ≠ _) <;> first | omega | (simp only [Bool.and_eq_true, Bool.or_eq_false_iff, Bool.not_eq_false', Bool.not_eq_true', decide_eq_true_eq, decide_eq_false_iff_not] at *; omega) | (with_reducible assumption)) | (with_reducible assumption) | skip
  exact fin_ret (.inl rfl) (by cbv) (by simp) (To.fresh ⟨.b rfl, trivial⟩)
/-! Pulses. -/
def kSamePulse : Kr
  | [.agg [.f .f32 a, .f .f32 b, .f .f32 c, .f .f32 d], .agg [.f .f32 a', .f .f32 b', .f .f32 c', .f .f32 d']] => some (.b fun _ => pulseW (a .u) (b .u) (c .u) (d .u) (a' .u) (b' .u) (c' .u) (d' .u), [], fun _ => P32 (a .u) (b .u) (c .u) (d .u) ∧ P32 (a' .u) (b' .u) (c' .u) (d' .u))
  | _ => none
def ctSamePu2 : CT := [(92, .r kSameN)]
theorem ctSamePu2_ok : CTok Try.prog ctSamePu2 := .cons SameNumber_tells (.nil _)
theorem implSamePulse : Tells Try.prog 57 (.r kSamePulse) := by
  intro args r H' p hr hp
  unfold kSamePulse at hr
  split at hr <;> cases hr
  rename_i a b c d a' b' c' d'
  obtain ⟨⟨a1, b1, c1, d1⟩, a2, b2, c2, d2⟩ := hp
  refine ⟨.b, .nil, Con.of ttok Try.func57 rfl rfl (Nat.zero_le _) (AW.exec ttok ctSamePu2_ok (by cbv) ?_)⟩
  simp only [natCast_int, Post, All, thenA, canon0, canon064, and_true, true_and, forall_const, implies_true, decide_eq_true_eq, decide_eq_false_iff_not, Bool.not_eq_true', Bool.not_eq_false', Bool.true_and, Bool.and_true, beq_true, beq_false, Int.toNat_natCast, Int.ofNat_lt, Int.ofNat_le, Nat.zero_add, Nat.add_zero, imp_self, Bool.cond_false_right, Bool.cond_true_left, Bool.cond_true_right, IsF, rdF_eq, fOf, AV.f.injEq, exists_eq', free_list, free_fn0, List.not_mem_nil, List.mem_cons, false_imp, forall_eq, or_false, free_i, free_f, free_b, ren_f, ren_i, ren_b, and_self, bne_iff_ne, bne_eq_false_iff_eq, ne_eq, Int.natCast_inj, or_true, true_or, freeB_list, unfr_f, unfr_i, unfr_b, unfr_c, unfr_s, free_c, free_s, ren_c, ren_s, unfr_ro, unfr_rptr, ren_ro, free_ll, free_box, kill_f, kill_i, kill_b, kill_c, kill_s, kill_rof, kill_rot, Int.toNat_zero, isFF_ll, rowN_ll, rowX_ll, AllFree, Option.some.injEq, Prod.mk.injEq, Bool.false_eq_true, Bool.true_eq_false, a1, b1, c1, d1, a2, b2, c2, d2]
  (repeat' first | with_reducible assumption | with_reducible apply And.intro | with_reducible intro hh) <;> first | ((first | with_reducible show (_ : Int) ≤ _ | with_reducible show (_ : Int) < _ | with_reducible show (_ : Nat) ≤ _ | with_reducible show (_ : Nat) < _ | with_reducible show (_ : Int) = _ | with_reducible show (_ : Nat) = _ | with_reducible show ¬ _ | with_reducible show _ ≠ _) <;> first | omega | (simp only [Bool.and_eq_true, Bool.or_eq_false_iff, Bool.not_eq_false', Bool.not_eq_true', decide_eq_true_eq, decide_eq_false_iff_not] at *; omega) | (with_reducible assumption)) | (with_reducible assumption) | skip
  refine fin_ret (.inl rfl) (by cbv) (by simp) (To.fresh ⟨.b ?_, trivial⟩)
  simp only [pulseW, Bool.and_assoc]
theorem w32_four {x : Nat → Nat} (h0 : x 0 < 4294967296) (h1 : x 1 < 4294967296) (h2 : x 2 < 4294967296) (h3 : x 3 < 4294967296) : W32 4 x := by
  intro i hi
  match i, hi with
  | 0, _ => exact h0
  | 1, _ => exact h1
  | 2, _ => exact h2
  | 3, _ => exact h3
theorem sameLW_four (x y : Nat → Nat) : sameLW 4 x 4 y = pulseW (x 0) (x 1) (x 2) (x 3) (y 0) (y 1) (y 2) (y 3) := by
  simp [sameLW, allN, List.range, List.range.loop, pulseW]
theorem specSamePulse : Tells Try.prog 52 (.r kSamePulse) := by
  intro args r H' p hr hp
  unfold kSamePulse at hr
  split at hr <;> cases hr
  rename_i a b c d a' b' c' d'
  obtain ⟨⟨a1, b1, c1, d1⟩, a2, b2, c2, d2⟩ := hp
  refine ⟨.b, .nil, Con.of ttok Try.func52 rfl rfl (Nat.zero_le _) (AW.exec ttok ctSameS1_ok (by cbv) ?_)⟩
  simp only [natCast_int, Post, All, thenA, canon0, canon064, and_true, true_and, forall_const, implies_true, decide_eq_true_eq, decide_eq_false_iff_not, Bool.not_eq_true', Bool.not_eq_false', Bool.true_and, Bool.and_true, beq_true, beq_false, Int.toNat_natCast, Int.ofNat_lt, Int.ofNat_le, Nat.zero_add, Nat.add_zero, imp_self, Bool.cond_false_right, Bool.cond_true_left, Bool.cond_true_right, IsF, rdF_eq, fOf, AV.f.injEq, exists_eq', free_list, free_fn0, List.not_mem_nil, List.mem_cons, false_imp, forall_eq, or_false, free_i, free_f, free_b, ren_f, ren_i, ren_b, and_self, bne_iff_ne, bne_eq_false_iff_eq, ne_eq, Int.natCast_inj, or_true, true_or, freeB_list, unfr_f, unfr_i, unfr_b, unfr_c, unfr_s, free_c, free_s, ren_c, ren_s, unfr_ro, unfr_rptr, ren_ro, free_ll, free_box, kill_f, kill_i, kill_b, kill_c, kill_s, kill_rof, kill_rot, Int.toNat_zero, isFF_ll, rowN_ll, rowX_ll, AllFree, Option.some.injEq, Prod.mk.injEq, Bool.false_eq_true, Bool.true_eq_false]
  (repeat' first | with_reducible assumption | with_reducible apply And.intro | with_reducible intro hh) <;> first | ((first | with_reducible show (_ : Int) ≤ _ | with_reducible show (_ : Int) < _ | with_reducible show (_ : Nat) ≤ _ | with_reducible show (_ : Nat) < _ | with_reducible show (_ : Int) = _ | with_reducible show (_ : Nat) = _ | with_reducible show ¬ _ | with_reducible show _ ≠ _) <;> first | omega | (simp only [Bool.and_eq_true, Bool.or_eq_false_iff, Bool.not_eq_false', Bool.not_eq_true', decide_eq_true_eq, decide_eq_false_iff_not] at *; omega) | (with_reducible assumption)) | (with_reducible assumption) | skip
  · refine free_get ?_
    intro a ha
    simp only [List.mem_cons, List.not_mem_nil, or_false] at ha
    rcases ha with rfl | rfl | rfl | rfl <;> exact .f
  · refine free_get ?_
    intro a ha
    simp only [List.mem_cons, List.not_mem_nil, or_false] at ha
    rcases ha with rfl | rfl | rfl | rfl <;> exact .f
  · rename_i j
    have hj := hh
    obtain rfl | rfl | rfl | rfl : j = 0 ∨ j = 1 ∨ j = 2 ∨ j = 3 := by omega
    all_goals exact ⟨_, rfl⟩
  · rename_i j
    have hj := hh
    obtain rfl | rfl | rfl | rfl : j = 0 ∨ j = 1 ∨ j = 2 ∨ j = 3 := by omega
    all_goals exact ⟨_, rfl⟩
  · exact w32_four a1 b1 c1 d1
  · exact w32_four a2 b2 c2 d2
  · exact fin_ret (.inl rfl) (by cbv) (by simp) (To.fresh ⟨.b (sameLW_four _ _), trivial⟩)
/-! Desks. -/
def kSameDesk : Kr
  | [.agg [u, v, .f .f32 a, .f .f32 b, .f .f32 c, .f .f32 d, w], .agg [u', v', .f .f32 a', .f .f32 b', .f .f32 c', .f .f32 d', w']] => match asL u, asL v, asL w, asL u', asL v', asL w' with
    | some (n, g), some (k, f), some (l, q), some (n', g'), some (k', f'), some (l', q') => some (.b fun _ => deskW (n .u) (rdF g) (k .u) (rdF f) (a .u) (b .u) (c .u) (d .u) (l .u) (rdF q) (n' .u) (rdF g') (k' .u) (rdF f') (a' .u) (b' .u) (c' .u) (d' .u) (l' .u) (rdF q'), [],
        fun _ => ((IsF n g ∧ IsF k f ∧ IsF l q) ∧ (IsF n' g' ∧ IsF k' f' ∧ IsF l' q')) ∧ ((W32 (n .u) (rdF g) ∧ W32 (k .u) (rdF f) ∧ W32 (l .u) (rdF q)) ∧ (W32 (n' .u) (rdF g') ∧ W32 (k' .u) (rdF f') ∧ W32 (l' .u) (rdF q'))) ∧ P32 (a .u) (b .u) (c .u) (d .u) ∧ P32 (a' .u) (b' .u) (c' .u) (d' .u))
    | _, _, _, _, _, _ => none
  | _ => none
def ctSameD1 : CT := [(51, .r kSameStepsP), (52, .r kSamePulse), (53, .r kSameL)]
theorem ctSameD1_ok : CTok Try.prog ctSameD1 := .cons l02Same_tells (.cons specSamePulse (.cons l01SameAll_tells (.nil _)))
theorem specSameDesk : Tells Try.prog 23 (.r kSameDesk) := by
  intro args r H' p hr hp
  unfold kSameDesk at hr
  split at hr <;> first | (cases hr; done) | skip
  split at hr <;> cases hr
  rename_i u v a b c d w u' v' a' b' c' d' w' _ _ _ _ _ _ n g k f l q n' g' k' f' l' q' h1 h2 h3 h4 h5 h6
  obtain ⟨⟨⟨p1, p2, p3⟩, p4, p5, p6⟩, ⟨⟨w1, w2, w3⟩, w4, w5, w6⟩, o1, o2⟩ := hp
  refine ⟨.b, .nil, Con.pre (args' := [.agg [listF false n (rdF g), listF false k (rdF f), .f .f32 a, .f .f32 b, .f .f32 c, .f .f32 d, listF false l (rdF q)], .agg [listF false n' (rdF g'), listF false k' (rdF f'), .f .f32 a', .f .f32 b', .f .f32 c', .f .f32 d', listF false l' (rdF q')]])
    ⟨Sub.aggL ⟨.asL h1 p1, .asL h2 p2, .refl _, .refl _, .refl _, .refl _, .asL h3 p3, trivial⟩, Sub.aggL ⟨.asL h4 p4, .asL h5 p5, .refl _, .refl _, .refl _, .refl _, .asL h6 p6, trivial⟩, trivial⟩ ?_⟩
  have q1 := p1.1
  have q2 := p2.1
  have q3 := p3.1
  have q4 := p4.1
  have q5 := p5.1
  have q6 := p6.1
  generalize rdF g = x at w1 ⊢
  generalize rdF f = y at w2 ⊢
  generalize rdF q = z at w3 ⊢
  generalize rdF g' = x' at w4 ⊢
  generalize rdF f' = y' at w5 ⊢
  generalize rdF q' = z' at w6 ⊢
  have v1 := eq_true w1
  have v2 := eq_true w2
  have v3 := eq_true w3
  have v4 := eq_true w4
  have v5 := eq_true w5
  have v6 := eq_true w6
  have r1 := eq_true o1
  have r2 := eq_true o2
  refine Con.of ttok Try.func23 rfl rfl (Nat.zero_le _) (AW.exec ttok ctSameD1_ok (by cbv) ?_)
  simp only [natCast_int, Post, All, thenA, canon0, canon064, and_true, true_and, forall_const, implies_true, decide_eq_true_eq, decide_eq_false_iff_not, Bool.not_eq_true', Bool.not_eq_false', Bool.true_and, Bool.and_true, beq_true, beq_false, Int.toNat_natCast, Int.ofNat_lt, Int.ofNat_le, Nat.zero_add, Nat.add_zero, imp_self, Bool.cond_false_right, Bool.cond_true_left, Bool.cond_true_right, IsF, rdF_eq, fOf, AV.f.injEq, exists_eq', free_list, free_fn0, List.not_mem_nil, List.mem_cons, false_imp, forall_eq, or_false, free_i, free_f, free_b, ren_f, ren_i, ren_b, and_self, bne_iff_ne, bne_eq_false_iff_eq, ne_eq, Int.natCast_inj, or_true, true_or, freeB_list, unfr_f, unfr_i, unfr_b, unfr_c, unfr_s, free_c, free_s, ren_c, ren_s, unfr_ro, unfr_rptr, ren_ro, free_ll, free_box, kill_f, kill_i, kill_b, kill_c, kill_s, kill_rof, kill_rot, Int.toNat_zero, isFF_ll, rowN_ll, rowX_ll, AllFree, Option.some.injEq, Prod.mk.injEq, Bool.false_eq_true, Bool.true_eq_false, q1, q2, q3, q4, q5, q6, v1, v2, v3, v4, v5, v6, r1, r2]
  (repeat' first | with_reducible assumption | with_reducible apply And.intro | with_reducible intro hh) <;> first | ((first | with_reducible show (_ : Int) ≤ _ | with_reducible show (_ : Int) < _ | with_reducible show (_ : Nat) ≤ _ | with_reducible show (_ : Nat) < _ | with_reducible show (_ : Int) = _ | with_reducible show (_ : Nat) = _ | with_reducible show ¬ _ | with_reducible show _ ≠ _) <;> first | omega | (simp only [Bool.and_eq_true, Bool.or_eq_false_iff, Bool.not_eq_false', Bool.not_eq_true', decide_eq_true_eq, decide_eq_false_iff_not] at *; omega) | (with_reducible assumption)) | (with_reducible assumption) | skip
  all_goals first
    | (refine .rptr fun j hj => free_get ?_; intro a ha; simp only [List.mem_cons, List.not_mem_nil, or_false] at ha; rcases ha with rfl | rfl | rfl | rfl | rfl | rfl | rfl <;> first | exact .f | exact .listF)
    | (refine fin_ret (.inl rfl) (by cbv) (by simp) (To.fresh ⟨.b ?_, trivial⟩); simp only [deskW, Bool.and_assoc]; done)
    | trace_state
def ctSameD2 : CT := [(56, .r kSameStepsV), (57, .r kSamePulse), (58, .r kSameL)]
theorem ctSameD2_ok : CTok Try.prog ctSameD2 := .cons SameSteps_tells (.cons implSamePulse (.cons sameNumbers_tells (.nil _)))
theorem implSameDesk : Tells Try.prog 25 (.r kSameDesk) := by
  intro args r H' p hr hp
  unfold kSameDesk at hr
  split at hr <;> first | (cases hr; done) | skip
  split at hr <;> cases hr
  rename_i u v a b c d w u' v' a' b' c' d' w' _ _ _ _ _ _ n g k f l q n' g' k' f' l' q' h1 h2 h3 h4 h5 h6
  obtain ⟨⟨⟨p1, p2, p3⟩, p4, p5, p6⟩, ⟨⟨w1, w2, w3⟩, w4, w5, w6⟩, o1, o2⟩ := hp
  refine ⟨.b, .nil, Con.pre (args' := [.agg [listF false n (rdF g), listF false k (rdF f), .f .f32 a, .f .f32 b, .f .f32 c, .f .f32 d, listF false l (rdF q)], .agg [listF false n' (rdF g'), listF false k' (rdF f'), .f .f32 a', .f .f32 b', .f .f32 c', .f .f32 d', listF false l' (rdF q')]])
    ⟨Sub.aggL ⟨.asL h1 p1, .asL h2 p2, .refl _, .refl _, .refl _, .refl _, .asL h3 p3, trivial⟩, Sub.aggL ⟨.asL h4 p4, .asL h5 p5, .refl _, .refl _, .refl _, .refl _, .asL h6 p6, trivial⟩, trivial⟩ ?_⟩
  have q1 := p1.1
  have q2 := p2.1
  have q3 := p3.1
  have q4 := p4.1
  have q5 := p5.1
  have q6 := p6.1
  generalize rdF g = x at w1 ⊢
  generalize rdF f = y at w2 ⊢
  generalize rdF q = z at w3 ⊢
  generalize rdF g' = x' at w4 ⊢
  generalize rdF f' = y' at w5 ⊢
  generalize rdF q' = z' at w6 ⊢
  have v1 := eq_true w1
  have v2 := eq_true w2
  have v3 := eq_true w3
  have v4 := eq_true w4
  have v5 := eq_true w5
  have v6 := eq_true w6
  have r1 := eq_true o1
  have r2 := eq_true o2
  refine Con.of ttok Try.func25 rfl rfl (Nat.zero_le _) (AW.exec ttok ctSameD2_ok (by cbv) ?_)
  simp only [natCast_int, Post, All, thenA, canon0, canon064, and_true, true_and, forall_const, implies_true, decide_eq_true_eq, decide_eq_false_iff_not, Bool.not_eq_true', Bool.not_eq_false', Bool.true_and, Bool.and_true, beq_true, beq_false, Int.toNat_natCast, Int.ofNat_lt, Int.ofNat_le, Nat.zero_add, Nat.add_zero, imp_self, Bool.cond_false_right, Bool.cond_true_left, Bool.cond_true_right, IsF, rdF_eq, fOf, AV.f.injEq, exists_eq', free_list, free_fn0, List.not_mem_nil, List.mem_cons, false_imp, forall_eq, or_false, free_i, free_f, free_b, ren_f, ren_i, ren_b, and_self, bne_iff_ne, bne_eq_false_iff_eq, ne_eq, Int.natCast_inj, or_true, true_or, freeB_list, unfr_f, unfr_i, unfr_b, unfr_c, unfr_s, free_c, free_s, ren_c, ren_s, unfr_ro, unfr_rptr, ren_ro, free_ll, free_box, kill_f, kill_i, kill_b, kill_c, kill_s, kill_rof, kill_rot, Int.toNat_zero, isFF_ll, rowN_ll, rowX_ll, AllFree, Option.some.injEq, Prod.mk.injEq, Bool.false_eq_true, Bool.true_eq_false, q1, q2, q3, q4, q5, q6, v1, v2, v3, v4, v5, v6, r1, r2]
  (repeat' first | with_reducible assumption | with_reducible apply And.intro | with_reducible intro hh) <;> first | ((first | with_reducible show (_ : Int) ≤ _ | with_reducible show (_ : Int) < _ | with_reducible show (_ : Nat) ≤ _ | with_reducible show (_ : Nat) < _ | with_reducible show (_ : Int) = _ | with_reducible show (_ : Nat) = _ | with_reducible show ¬ _ | with_reducible show _ ≠ _) <;> first | omega | (simp only [Bool.and_eq_true, Bool.or_eq_false_iff, Bool.not_eq_false', Bool.not_eq_true', decide_eq_true_eq, decide_eq_false_iff_not] at *; omega) | (with_reducible assumption)) | (with_reducible assumption) | skip
  all_goals first
    | (refine .rptr fun j hj => free_get ?_; intro a ha; simp only [List.mem_cons, List.not_mem_nil, or_false] at ha; rcases ha with rfl | rfl | rfl | rfl | rfl | rfl | rfl <;> first | exact .f | exact .listF)
    | (refine fin_ret (.inl rfl) (by cbv) (by simp) (To.fresh ⟨.b ?_, trivial⟩); simp only [deskW, Bool.and_assoc]; done)
    | trace_state
end Go.Proofs.Ytngdpbjgmajfmaa
