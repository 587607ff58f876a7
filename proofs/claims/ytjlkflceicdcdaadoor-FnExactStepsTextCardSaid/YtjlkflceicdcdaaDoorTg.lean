/- Texts of pulses, on both sides. -/
import Derived.Test.YtjlkflceicdcdaaDoorTf
import Derived.Test.YtjlkflceicdcdaaDoorHh
import Derived.Test.YtjlkflceicdcdaaDoorHg
set_option linter.unusedSimpArgs false
set_option linter.unusedVariables false
namespace Go.Proofs.YtjlkflceicdcdaaDoor
open Go.Aw
/-- Four numbers as a list. -/
def four (a b c d : Nat) : Nat → Nat
  | 0 => a
  | 1 => b
  | 2 => c
  | _ => d
def P32T (a b c d : Nat) : Prop := a < 4294967296 ∧ b < 4294967296 ∧ c < 4294967296 ∧ d < 4294967296
theorem P32T.w {a b c d : Nat} (h : P32T a b c d) : W32T 4 (four a b c d) := fun i hi => by
  obtain ⟨h0, h1, h2, h3⟩ := h
  match i, hi with
  | 0, _ => exact h0
  | 1, _ => exact h1
  | 2, _ => exact h2
  | 3, _ => exact h3
def kPT : Kr
  | [.agg [.f .f32 a, .f .f32 b, .f .f32 c, .f .f32 d]] => some (.tup [.s fun _ => bif pulseF (a .u) (b .u) (c .u) (d .u) then numB 4 (four (a .u) (b .u) (c .u) (d .u)) else ⟨#[]⟩, .b fun _ => pulseF (a .u) (b .u) (c .u) (d .u)], [], fun _ => P32T (a .u) (b .u) (c .u) (d .u))
  | _ => none
theorem numB_ext {n : Nat} {x y : Nat → Nat} (h : ∀ i, i < n → x i = y i) : numB n x = numB n y := by
  unfold numB
  have : ∀ k, k ≤ n → jn (hexT x) k = jn (hexT y) k := by
    intro k
    induction k with
    | zero => intro _; rfl
    | succ k ih =>
      intro hk
      unfold jn
      rw [ih (by omega), show hexT x k = hexT y k by unfold hexT; rw [h k (by omega)]]
      cases hd : decide (k = 0)
      · rfl
      · have := of_decide_eq_true hd
        subst this
        show hexT x 0 = hexT y 0
        unfold hexT
        rw [h 0 (by omega)]
  rw [this n (Nat.le_refl _)]
theorem numB_four (a b c d : Th Nat) : numB 4 (fun i => match [AV.f .f32 a, AV.f .f32 b, AV.f .f32 c, AV.f .f32 d].getD (i * 1) .dead with
  | .f _ x => x .u
  | _ => 0) = numB 4 (four (a .u) (b .u) (c .u) (d .u)) := numB_ext fun i hi => by
  match i, hi with
  | 0, _ => rfl
  | 1, _ => rfl
  | 2, _ => rfl
  | 3, _ => rfl
theorem free_four {a b c d : Th Nat} {j c' : Nat} (hj : j < 4) (hc : c' < 1) : Free ([AV.f .f32 a, AV.f .f32 b, AV.f .f32 c, AV.f .f32 d].getD (j * 1 + c') .dead) := by
  obtain rfl : c' = 0 := by omega
  match j, hj with
  | 0, _ => exact .f
  | 1, _ => exact .f
  | 2, _ => exact .f
  | 3, _ => exact .f
theorem is_four {a b c d : Th Nat} {j : Nat} (hj : j < 4) : ∃ y, [AV.f .f32 a, AV.f .f32 b, AV.f .f32 c, AV.f .f32 d].getD (j * 1) .dead = AV.f .f32 y := by
  match j, hj with
  | 0, _ => exact ⟨_, rfl⟩
  | 1, _ => exact ⟨_, rfl⟩
  | 2, _ => exact ⟨_, rfl⟩
  | 3, _ => exact ⟨_, rfl⟩
theorem w32_four {a b c d : Th Nat} (h : P32T (a .u) (b .u) (c .u) (d .u)) : W32T 4 (fun i => match [AV.f .f32 a, AV.f .f32 b, AV.f .f32 c, AV.f .f32 d].getD (i * 1) .dead with
  | .f _ x => x .u
  | _ => 0) := fun i hi => by
  obtain ⟨h0, h1, h2, h3⟩ := h
  match i, hi with
  | 0, _ => exact h0
  | 1, _ => exact h1
  | 2, _ => exact h2
  | 3, _ => exact h3
def ctPTI : CT := [(45, .r kPulseV), (46, .r kNumT)]
theorem ctPTI_ok : CTok Tryd.prog ctPTI := .cons ValidPulse_tells (.cons implNum (.nil _))
theorem implPulseText : Tells Tryd.prog 22 (.r kPT) := by
  intro args r H' p hr hp
  unfold kPT at hr
  split at hr <;> cases hr
  rename_i a b c d
  have hp : P32T (a .u) (b .u) (c .u) (d .u) := hp
  refine ⟨allFr_tup2 .s .b, .nil, Con.of ttok Tryd.func22 rfl rfl (Nat.zero_le _) (AW.exec ttok ctPTI_ok (by cbv) ?_)⟩
  simp only [natCast_int, Post, All, thenA, canon0, canon064, and_true, true_and, forall_const, implies_true, decide_eq_true_eq, decide_eq_false_iff_not, Bool.not_eq_true', Bool.not_eq_false', Bool.true_and, Bool.and_true, beq_true, beq_false, Int.toNat_natCast, Int.ofNat_lt, Int.ofNat_le, Nat.zero_add, Nat.add_zero, imp_self, Bool.cond_false_right, Bool.cond_true_left, Bool.cond_true_right, IsF, rdF_eq, fOf, AV.f.injEq, exists_eq', free_list, free_fn0, List.not_mem_nil, List.mem_cons, false_imp, forall_eq, or_false, free_i, free_f, free_b, ren_f, ren_i, ren_b, and_self, bne_iff_ne, bne_eq_false_iff_eq, ne_eq, Int.natCast_inj, or_true, true_or, freeB_list, unfr_f, unfr_i, unfr_b, unfr_c, unfr_s, free_c, free_s, ren_c, ren_s, unfr_ro, unfr_rptr, ren_ro, free_ll, free_box, kill_f, kill_i, kill_b, kill_c, kill_s, kill_rof, kill_rot, Int.toNat_zero, isFF_ll, rowN_ll, rowX_ll, AllFree, Option.some.injEq, Prod.mk.injEq, Bool.false_eq_true, Bool.true_eq_false]
  (repeat' first | with_reducible assumption | with_reducible apply And.intro | with_reducible intro hh) <;> first | ((first | with_reducible show (_ : Int) ≤ _ | with_reducible show (_ : Int) < _ | with_reducible show (_ : Nat) ≤ _ | with_reducible show (_ : Nat) < _ | with_reducible show (_ : Int) = _ | with_reducible show (_ : Nat) = _ | with_reducible show ¬ _ | with_reducible show _ ≠ _) <;> first | omega | (simp only [Bool.and_eq_true, Bool.or_eq_false_iff, Bool.not_eq_false', Bool.not_eq_true', decide_eq_true_eq, decide_eq_false_iff_not] at *; omega) | (with_reducible assumption)) | (with_reducible assumption) | skip
  · refine fin_ret (.inl rfl) (by cbv) (by simp) (To.fresh (.cons (.tup (.cons (.s ?_) (.cons (.b ?_) .nil))) .nil))
    · simp only [hh, cond_false]
    · exact hh.symm
  · exact free_four ‹_› ‹_›
  · exact is_four ‹_›
  · exact w32_four hp
  · have e := ‹pulseF (a .u) (b .u) (c .u) (d .u) = true›
    refine fin_ret (.inl rfl) (by cbv) (by simp) (To.fresh (.cons (.tup (.cons (.s ?_) (.cons (.b ?_) .nil))) .nil))
    · simp only [e, cond_true, textN]
      exact numB_four a b c d
    · rw [e]; rfl
def kPTp : Kr
  | [.rptr fr m h] => match h 0, h 1, h 2, h 3 with
    | .f .f32 a, .f .f32 b, .f .f32 c, .f .f32 d => some (.s fun _ => numB 4 (four (a .u) (b .u) (c .u) (d .u)), [], fun _ => 4 ≤ m ∧ P32T (a .u) (b .u) (c .u) (d .u))
    | _, _, _, _ => none
  | _ => none
def ctPTp : CT := [(67, .r kNT)]
theorem ctPTp_ok : CTok Tryd.prog ctPTp := .cons specNT (.nil _)
theorem specPT : Tells Tryd.prog 44 (.r kPTp) := by
  intro args r H' p hr hp
  unfold kPTp at hr
  split at hr <;> first | (cases hr; done) | skip
  split at hr <;> cases hr
  rename_i fr m h _ _ _ _ a b c d h0 h1 h2 h3
  obtain ⟨hm, hp⟩ := hp
  refine ⟨.s, .nil, Con.pre (args' := [.rptr false 4 fun j => [.f .f32 a, .f .f32 b, .f .f32 c, .f .f32 d].getD j .dead]) ⟨Sub.rptrL hm fun j hj => ?_, trivial⟩ ?_⟩
  · match j, hj with
    | 0, _ => rw [h0]; exact Sub.refl _
    | 1, _ => rw [h1]; exact Sub.refl _
    | 2, _ => rw [h2]; exact Sub.refl _
    | 3, _ => rw [h3]; exact Sub.refl _
  refine Con.of ttok Tryd.func44 rfl rfl (Nat.zero_le _) (AW.exec ttok ctPTp_ok (by cbv) ?_)
  simp only [natCast_int, Post, All, thenA, canon0, canon064, and_true, true_and, forall_const, implies_true, decide_eq_true_eq, decide_eq_false_iff_not, Bool.not_eq_true', Bool.not_eq_false', Bool.true_and, Bool.and_true, beq_true, beq_false, Int.toNat_natCast, Int.ofNat_lt, Int.ofNat_le, Nat.zero_add, Nat.add_zero, imp_self, Bool.cond_false_right, Bool.cond_true_left, Bool.cond_true_right, IsF, rdF_eq, fOf, AV.f.injEq, exists_eq', free_list, free_fn0, List.not_mem_nil, List.mem_cons, false_imp, forall_eq, or_false, free_i, free_f, free_b, ren_f, ren_i, ren_b, and_self, bne_iff_ne, bne_eq_false_iff_eq, ne_eq, Int.natCast_inj, or_true, true_or, freeB_list, unfr_f, unfr_i, unfr_b, unfr_c, unfr_s, free_c, free_s, ren_c, ren_s, unfr_ro, unfr_rptr, ren_ro, free_ll, free_box, kill_f, kill_i, kill_b, kill_c, kill_s, kill_rof, kill_rot, Int.toNat_zero, isFF_ll, rowN_ll, rowX_ll, AllFree, Option.some.injEq, Prod.mk.injEq, Bool.false_eq_true, Bool.true_eq_false]
  (repeat' first | with_reducible assumption | with_reducible apply And.intro | with_reducible intro hh) <;> first | ((first | with_reducible show (_ : Int) ≤ _ | with_reducible show (_ : Int) < _ | with_reducible show (_ : Nat) ≤ _ | with_reducible show (_ : Nat) < _ | with_reducible show (_ : Int) = _ | with_reducible show (_ : Nat) = _ | with_reducible show ¬ _ | with_reducible show _ ≠ _) <;> first | omega | (simp only [Bool.and_eq_true, Bool.or_eq_false_iff, Bool.not_eq_false', Bool.not_eq_true', decide_eq_true_eq, decide_eq_false_iff_not] at *; omega) | (with_reducible assumption)) | (with_reducible assumption) | skip
  · exact free_four ‹_› ‹_›
  · exact is_four ‹_›
  · exact w32_four hp
  · exact fin_ret (.inl rfl) (by cbv) (by simp) (To.fresh (.cons (.s (numB_four a b c d)) .nil))
def ctPTS : CT := [(43, .r kPulseP), (44, .r kPTp)]
theorem ctPTS_ok : CTok Tryd.prog ctPTS := .cons l04Is_tells (.cons specPT (.nil _))
theorem specPulseText : Tells Tryd.prog 20 (.r kPT) := by
  intro args r H' p hr hp
  unfold kPT at hr
  split at hr <;> cases hr
  rename_i a b c d
  have hp : P32T (a .u) (b .u) (c .u) (d .u) := hp
  refine ⟨allFr_tup2 .s .b, .nil, Con.of ttok Tryd.func20 rfl rfl (Nat.zero_le _) (AW.exec ttok ctPTS_ok (by cbv) ?_)⟩
  simp only [natCast_int, Post, All, thenA, canon0, canon064, and_true, true_and, forall_const, implies_true, decide_eq_true_eq, decide_eq_false_iff_not, Bool.not_eq_true', Bool.not_eq_false', Bool.true_and, Bool.and_true, beq_true, beq_false, Int.toNat_natCast, Int.ofNat_lt, Int.ofNat_le, Nat.zero_add, Nat.add_zero, imp_self, Bool.cond_false_right, Bool.cond_true_left, Bool.cond_true_right, IsF, rdF_eq, fOf, AV.f.injEq, exists_eq', free_list, free_fn0, List.not_mem_nil, List.mem_cons, false_imp, forall_eq, or_false, free_i, free_f, free_b, ren_f, ren_i, ren_b, and_self, bne_iff_ne, bne_eq_false_iff_eq, ne_eq, Int.natCast_inj, or_true, true_or, freeB_list, unfr_f, unfr_i, unfr_b, unfr_c, unfr_s, free_c, free_s, ren_c, ren_s, unfr_ro, unfr_rptr, ren_ro, free_ll, free_box, kill_f, kill_i, kill_b, kill_c, kill_s, kill_rof, kill_rot, Int.toNat_zero, isFF_ll, rowN_ll, rowX_ll, AllFree, Option.some.injEq, Prod.mk.injEq, Bool.false_eq_true, Bool.true_eq_false]
  (repeat' first | with_reducible assumption | with_reducible apply And.intro | with_reducible intro hh) <;> first | ((first | with_reducible show (_ : Int) ≤ _ | with_reducible show (_ : Int) < _ | with_reducible show (_ : Nat) ≤ _ | with_reducible show (_ : Nat) < _ | with_reducible show (_ : Int) = _ | with_reducible show (_ : Nat) = _ | with_reducible show ¬ _ | with_reducible show _ ≠ _) <;> first | omega | (simp only [Bool.and_eq_true, Bool.or_eq_false_iff, Bool.not_eq_false', Bool.not_eq_true', decide_eq_true_eq, decide_eq_false_iff_not] at *; omega) | (with_reducible assumption)) | (with_reducible assumption) | skip
  · refine fin_ret (.inl rfl) (by cbv) (by simp) (To.fresh (.cons (.tup (.cons (.s ?_) (.cons (.b ?_) .nil))) .nil))
    · simp only [hh, cond_false]
    · exact hh.symm
  · have e := ‹pulseF (a .u) (b .u) (c .u) (d .u) = true›
    refine fin_ret (.inl rfl) (by cbv) (by simp) (To.fresh (.cons (.tup (.cons (.s ?_) (.cons (.b ?_) .nil))) .nil))
    · simp only [e, cond_true]
    · exact e.symm
end Go.Proofs.YtjlkflceicdcdaaDoor
