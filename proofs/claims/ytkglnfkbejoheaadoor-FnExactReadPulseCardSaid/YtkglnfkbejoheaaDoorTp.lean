/- Pulses read, on both sides. -/
import Derived.Test.YtkglnfkbejoheaaDoorTo
import Derived.Test.YtkglnfkbejoheaaDoorTg
set_option linter.unusedSimpArgs false
set_option linter.unusedVariables false
namespace Go.Proofs.YtkglnfkbejoheaaDoor
open Go.Aw
def xP (t : ByteArray) (i : Nat) : Nat := xH (pieceB t 44 i)
def okRP (t : ByteArray) : Bool := (okRN t && decide (numRN t = 4)) && pulseF (xP t 0) (xP t 1) (xP t 2) (xP t 3)
def vP (t : ByteArray) (i : Nat) : Nat := bif okRP t then xP t i else 0
def kRP : Kr
  | [.s t] => some (.tup [.agg [.f .f32 fun _ => vP (t .u) 0, .f .f32 fun _ => vP (t .u) 1, .f .f32 fun _ => vP (t .u) 2, .f .f32 fun _ => vP (t .u) 3], .b fun _ => okRP (t .u)], [], fun _ => (t .u).size ≤ 1073741824)
  | _ => none
theorem allFr_RP {t : ByteArray} : AllFr (.tup [.agg [.f .f32 fun _ => vP t 0, .f .f32 fun _ => vP t 1, .f .f32 fun _ => vP t 2, .f .f32 fun _ => vP t 3], .b fun _ => okRP t]) := allFr_tup2 (.agg fun a ha => by
  simp only [List.mem_cons, List.not_mem_nil, or_false] at ha
  rcases ha with rfl | rfl | rfl | rfl <;> exact .f) .b
theorem vP_no {t : ByteArray} (h : okRP t = false) (i : Nat) : vP t i = 0 := by unfold vP; rw [h]; rfl
theorem vP_yes {t : ByteArray} (h : okRP t = true) (i : Nat) : vP t i = xP t i := by unfold vP; rw [h]; rfl
theorem okRP_no {t : ByteArray} (h : (!okRN t || ((numRN t : Int) != 4)) = true) : okRP t = false := by
  unfold okRP
  rw [Bool.or_eq_true] at h
  rcases h with h | h
  · rw [Bool.not_eq_true'] at h
    rw [h]
    rfl
  · have : ¬ numRN t = 4 := by
      intro e
      rw [e] at h
      simp at h
    rw [decide_eq_false this, Bool.and_false, Bool.false_and]
theorem okRP_yes {t : ByteArray} (h : (!okRN t || ((numRN t : Int) != 4)) = false) : numRN t = 4 ∧ okRP t = pulseF (xP t 0) (xP t 1) (xP t 2) (xP t 3) := by
  rw [Bool.or_eq_false_iff, Bool.not_eq_false'] at h
  have h4 : numRN t = 4 := by have := h.2; simp at this; omega
  refine ⟨h4, ?_⟩
  unfold okRP
  rw [h.1, decide_eq_true h4]
  rfl
def ctRPI : CT := [(24, .r kRN), (25, .r kPulseV)]
theorem ctRPI_ok : CTok Tryd.prog ctRPI := .cons implRN (.cons ValidPulse_tells (.nil _))
theorem implRP : Tells Tryd.prog 7 (.r kRP) := by
  intro args r H' p hr hp
  unfold kRP at hr
  split at hr <;> cases hr
  rename_i t
  have hp : (t .u).size ≤ 1073741824 := hp
  refine ⟨allFr_RP, .nil, Con.of ttok Tryd.func7 rfl rfl (Nat.zero_le _) (AW.exec ttok ctRPI_ok (by cbv) ?_)⟩
  simp only [natCast_int, Post, All, thenA, canon0, canon064, and_true, true_and, forall_const, implies_true, decide_eq_true_eq, decide_eq_false_iff_not, Bool.not_eq_true', Bool.not_eq_false', Bool.true_and, Bool.and_true, beq_true, beq_false, Int.toNat_natCast, Int.ofNat_lt, Int.ofNat_le, Nat.zero_add, Nat.add_zero, imp_self, Bool.cond_false_right, Bool.cond_true_left, Bool.cond_true_right, IsF, rdF_eq, fOf, AV.f.injEq, exists_eq', free_list, free_fn0, List.not_mem_nil, List.mem_cons, false_imp, forall_eq, or_false, free_i, free_f, free_b, ren_f, ren_i, ren_b, and_self, bne_iff_ne, bne_eq_false_iff_eq, ne_eq, Int.natCast_inj, or_true, true_or, freeB_list, unfr_f, unfr_i, unfr_b, unfr_c, unfr_s, free_c, free_s, ren_c, ren_s, unfr_ro, unfr_rptr, ren_ro, free_ll, free_box, kill_f, kill_i, kill_b, kill_c, kill_s, kill_rof, kill_rot, Int.toNat_zero, isFF_ll, rowN_ll, rowX_ll, AllFree, Option.some.injEq, Prod.mk.injEq, Bool.false_eq_true, Bool.true_eq_false, hp]
  (repeat' first | with_reducible assumption | with_reducible apply And.intro | with_reducible intro hh) <;> first | ((first | with_reducible show (_ : Int) ≤ _ | with_reducible show (_ : Int) < _ | with_reducible show (_ : Nat) ≤ _ | with_reducible show (_ : Nat) < _ | with_reducible show (_ : Int) = _ | with_reducible show (_ : Nat) = _ | with_reducible show ¬ _ | with_reducible show _ ≠ _) <;> first | omega | (simp only [Bool.and_eq_true, Bool.or_eq_false_iff, Bool.not_eq_false', Bool.not_eq_true', decide_eq_true_eq, decide_eq_false_iff_not] at *; omega) | (with_reducible assumption)) | (with_reducible assumption) | skip
  · have e := okRP_no hh
    refine fin_ret (.inl rfl) (by cbv) (by simp) (To.fresh (.cons (.tup (.cons (.agg (.cons (AvTo.f (vP_no e 0).symm) (.cons (AvTo.f (vP_no e 1).symm) (.cons (AvTo.f (vP_no e 2).symm) (.cons (AvTo.f (vP_no e 3).symm) .nil))))) (.cons (.b e.symm) .nil))) .nil))
  all_goals have hy := okRP_yes ‹(!okRN (t .u) || _) = false›
  all_goals first | (have h4 := hy.1; omega) | skip
  · have e : okRP (t .u) = false := hy.2.trans ‹pulseF _ _ _ _ = false›
    refine fin_ret (.inl rfl) (by cbv) (by simp) (To.fresh (.cons (.tup (.cons (.agg (.cons (AvTo.f (vP_no e 0).symm) (.cons (AvTo.f (vP_no e 1).symm) (.cons (AvTo.f (vP_no e 2).symm) (.cons (AvTo.f (vP_no e 3).symm) .nil))))) (.cons (.b e.symm) .nil))) .nil))
  · have e : okRP (t .u) = true := hy.2.trans ‹pulseF _ _ _ _ = true›
    refine fin_ret (.inl rfl) (by cbv) (by simp) (To.fresh (.cons (.tup (.cons (.agg (.cons (AvTo.f (vP_yes e 0).symm) (.cons (AvTo.f (vP_yes e 1).symm) (.cons (AvTo.f (vP_yes e 2).symm) (.cons (AvTo.f (vP_yes e 3).symm) .nil))))) (.cons (.b e.symm) .nil))) .nil))
def ctRPS : CT := [(52, .r kRN), (53, .r kPulseP)]
theorem ctRPS_ok : CTok Tryd.prog ctRPS := .cons specRN (.cons l04Is_tells (.nil _))
theorem specRP0 : Tells Tryd.prog 23 (.r kRP) := by
  intro args r H' p hr hp
  unfold kRP at hr
  split at hr <;> cases hr
  rename_i t
  have hp : (t .u).size ≤ 1073741824 := hp
  refine ⟨allFr_RP, .nil, Con.of ttok Tryd.func23 rfl rfl (Nat.zero_le _) (AW.exec ttok ctRPS_ok (by cbv) ?_)⟩
  simp only [natCast_int, Post, All, thenA, canon0, canon064, and_true, true_and, forall_const, implies_true, decide_eq_true_eq, decide_eq_false_iff_not, Bool.not_eq_true', Bool.not_eq_false', Bool.true_and, Bool.and_true, beq_true, beq_false, Int.toNat_natCast, Int.ofNat_lt, Int.ofNat_le, Nat.zero_add, Nat.add_zero, imp_self, Bool.cond_false_right, Bool.cond_true_left, Bool.cond_true_right, IsF, rdF_eq, fOf, AV.f.injEq, exists_eq', free_list, free_fn0, List.not_mem_nil, List.mem_cons, false_imp, forall_eq, or_false, free_i, free_f, free_b, ren_f, ren_i, ren_b, and_self, bne_iff_ne, bne_eq_false_iff_eq, ne_eq, Int.natCast_inj, or_true, true_or, freeB_list, unfr_f, unfr_i, unfr_b, unfr_c, unfr_s, free_c, free_s, ren_c, ren_s, unfr_ro, unfr_rptr, ren_ro, free_ll, free_box, kill_f, kill_i, kill_b, kill_c, kill_s, kill_rof, kill_rot, Int.toNat_zero, isFF_ll, rowN_ll, rowX_ll, AllFree, Option.some.injEq, Prod.mk.injEq, Bool.false_eq_true, Bool.true_eq_false, hp]
  (repeat' first | with_reducible assumption | with_reducible apply And.intro | with_reducible intro hh) <;> first | ((first | with_reducible show (_ : Int) ≤ _ | with_reducible show (_ : Int) < _ | with_reducible show (_ : Nat) ≤ _ | with_reducible show (_ : Nat) < _ | with_reducible show (_ : Int) = _ | with_reducible show (_ : Nat) = _ | with_reducible show ¬ _ | with_reducible show _ ≠ _) <;> first | omega | (simp only [Bool.and_eq_true, Bool.or_eq_false_iff, Bool.not_eq_false', Bool.not_eq_true', decide_eq_true_eq, decide_eq_false_iff_not] at *; omega) | (with_reducible assumption)) | (with_reducible assumption) | skip
  · have e := okRP_no hh
    refine fin_ret (.inl rfl) (by cbv) (by simp) (To.fresh (.cons (.tup (.cons (.agg (.cons (AvTo.f (vP_no e 0).symm) (.cons (AvTo.f (vP_no e 1).symm) (.cons (AvTo.f (vP_no e 2).symm) (.cons (AvTo.f (vP_no e 3).symm) .nil))))) (.cons (.b e.symm) .nil))) .nil))
  all_goals have hy := okRP_yes ‹(!okRN (t .u) || _) = false›
  all_goals first | (have h4 := hy.1; omega) | skip
  · have e : okRP (t .u) = false := hy.2.trans ‹pulseF _ _ _ _ = false›
    refine fin_ret (.inl rfl) (by cbv) (by simp) (To.fresh (.cons (.tup (.cons (.agg (.cons (AvTo.f (vP_no e 0).symm) (.cons (AvTo.f (vP_no e 1).symm) (.cons (AvTo.f (vP_no e 2).symm) (.cons (AvTo.f (vP_no e 3).symm) .nil))))) (.cons (.b e.symm) .nil))) .nil))
  · have e : okRP (t .u) = true := hy.2.trans ‹pulseF _ _ _ _ = true›
    refine fin_ret (.inl rfl) (by cbv) (by simp) (To.fresh (.cons (.tup (.cons (.agg (.cons (AvTo.f (vP_yes e 0).symm) (.cons (AvTo.f (vP_yes e 1).symm) (.cons (AvTo.f (vP_yes e 2).symm) (.cons (AvTo.f (vP_yes e 3).symm) .nil))))) (.cons (.b e.symm) .nil))) .nil))
def ctRPS1 : CT := [(23, .r kRP)]
theorem ctRPS1_ok : CTok Tryd.prog ctRPS1 := .cons specRP0 (.nil _)
theorem specRP : Tells Tryd.prog 6 (.r kRP) := by
  intro args r H' p hr hp
  unfold kRP at hr
  split at hr <;> cases hr
  rename_i t
  have hp : (t .u).size ≤ 1073741824 := hp
  refine ⟨allFr_RP, .nil, Con.of ttok Tryd.func6 rfl rfl (Nat.zero_le _) (AW.exec ttok ctRPS1_ok (by cbv) ?_)⟩
  simp only [natCast_int, Post, All, thenA, canon0, canon064, and_true, true_and, forall_const, implies_true, decide_eq_true_eq, decide_eq_false_iff_not, Bool.not_eq_true', Bool.not_eq_false', Bool.true_and, Bool.and_true, beq_true, beq_false, Int.toNat_natCast, Int.ofNat_lt, Int.ofNat_le, Nat.zero_add, Nat.add_zero, imp_self, Bool.cond_false_right, Bool.cond_true_left, Bool.cond_true_right, IsF, rdF_eq, fOf, AV.f.injEq, exists_eq', free_list, free_fn0, List.not_mem_nil, List.mem_cons, false_imp, forall_eq, or_false, free_i, free_f, free_b, ren_f, ren_i, ren_b, and_self, bne_iff_ne, bne_eq_false_iff_eq, ne_eq, Int.natCast_inj, or_true, true_or, freeB_list, unfr_f, unfr_i, unfr_b, unfr_c, unfr_s, free_c, free_s, ren_c, ren_s, unfr_ro, unfr_rptr, ren_ro, free_ll, free_box, kill_f, kill_i, kill_b, kill_c, kill_s, kill_rof, kill_rot, Int.toNat_zero, isFF_ll, rowN_ll, rowX_ll, AllFree, Option.some.injEq, Prod.mk.injEq, Bool.false_eq_true, Bool.true_eq_false, hp]
  (repeat' first | with_reducible assumption | with_reducible apply And.intro | with_reducible intro hh) <;> first | ((first | with_reducible show (_ : Int) ≤ _ | with_reducible show (_ : Int) < _ | with_reducible show (_ : Nat) ≤ _ | with_reducible show (_ : Nat) < _ | with_reducible show (_ : Int) = _ | with_reducible show (_ : Nat) = _ | with_reducible show ¬ _ | with_reducible show _ ≠ _) <;> first | omega | (simp only [Bool.and_eq_true, Bool.or_eq_false_iff, Bool.not_eq_false', Bool.not_eq_true', decide_eq_true_eq, decide_eq_false_iff_not] at *; omega) | (with_reducible assumption)) | (with_reducible assumption) | skip
  exact fin_ret (.inl rfl) (by cbv) (by simp) (To.fresh (.cons (.tup (.cons (.agg (.cons (AvTo.f rfl) (.cons (AvTo.f rfl) (.cons (AvTo.f rfl) (.cons (AvTo.f rfl) .nil))))) (.cons (.b rfl) .nil))) .nil))
end Go.Proofs.YtkglnfkbejoheaaDoor
