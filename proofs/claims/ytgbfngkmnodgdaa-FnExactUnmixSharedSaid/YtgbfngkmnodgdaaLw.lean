/- The law FnExactUnmixShared answers yes for every argument; conditions: none. -/
import Derived.Test.YtgbfngkmnodgdaaHn
import Derived.Test.YtgbfngkmnodgdaaFf
import Derived.Test.YtgbfngkmnodgdaaLt
set_option linter.unusedSimpArgs false
set_option linter.unusedVariables false
namespace Go.Proofs.Ytgbfngkmnodgdaa
open Go.Aw
def ctL_UnmixShared (w : Bool) : CT := [(10, .r kSzS), (13, .r kToSSo), (17, .r kEqSS), (19, .s kMarkSS), (12, .r kTo), (16, .r kEq), (18, .m kMark kMarkNil), (24, .r kHeld), (22, .g 0 (pickK w kSh)), (23, .g 0 (pickK w kSh))]
theorem ctL_UnmixShared_ok (w : Bool) : CTok Try.prog (ctL_UnmixShared w) := .cons szS_tells (.cons toSSo_tells (.cons eqSS_tells (.cons markSS_tells (.cons to_tells (.cons eq_tells (.cons mark_tells (.cons held_tells (.cons (pick_tells w specSh) (.cons (pick_tells w implSh) (.nil _))))))))))
set_option maxRecDepth 100000 in
set_option maxHeartbeats 4000000 in
theorem law_UnmixShared (n0 : Nat) (m0 : Nat → Nat) (x0 : Nat → Nat → Nat) (n1 : Nat) (m1 : Nat → Nat) (x1 : Nat → Nat → Nat) (d2 : Int) (d3 : Int) (hn0 : n0 ≤ 9223372036854775807) (hm0 : ∀ i, i < n0 → m0 i ≤ 9223372036854775807) (hn1 : n1 ≤ 9223372036854775807) (hm1 : ∀ i, i < n1 → m1 i ≤ 9223372036854775807) : Con Try.prog 4 [listFF false (fun _ => n0) m0 x0, listFF false (fun _ => n1) m1 x1, .i .i64 fun _ => d2, .i .i64 fun _ => d3] [] (.b fun _ => true) [] := by
  cases hok : okSh n0 m0 x0 n1 m1 x1 d2 d3 with
  | true =>
    refine Con.of ttok Try.func4 rfl rfl (Nat.le_refl _) (AW.exec ttok (ctL_UnmixShared_ok true) (by cbv) ?_)
    by_cases hb0 : szLL n0 (fun i => m0 i) 1048576 < 0
    · simp only [natCast_int, Post, All, thenA, canon0, canon064, and_true, true_and, forall_const, implies_true, decide_eq_true_eq, decide_eq_false_iff_not, Bool.not_eq_true', Bool.not_eq_false', Bool.true_and, Bool.and_true, beq_true, beq_false, Int.toNat_natCast, Int.ofNat_lt, Int.ofNat_le, Nat.zero_add, Nat.add_zero, imp_self, Bool.cond_false_right, Bool.cond_true_left, Bool.cond_true_right, IsF, rdF_eq, fOf, AV.f.injEq, exists_eq', free_list, free_fn0, List.not_mem_nil, List.mem_cons, false_imp, forall_eq, or_false, free_i, free_f, free_b, ren_f, ren_i, ren_b, and_self, bne_iff_ne, bne_eq_false_iff_eq, ne_eq, Int.natCast_inj, or_true, true_or, freeB_list, unfr_f, unfr_i, unfr_b, unfr_c, unfr_s, free_c, free_s, ren_c, ren_s, unfr_ro, unfr_rptr, ren_ro, free_ll, free_box, kill_f, kill_i, kill_b, kill_c, kill_s, kill_rof, kill_rot, Int.toNat_zero, isFF_ll, rowN_ll, rowX_ll, AllFree, Option.some.injEq, Prod.mk.injEq, Bool.false_eq_true, Bool.true_eq_false, eqL_self, heldL_mark, heldL_zero, one_neg, Nat.zero_le, Nat.not_lt_zero, one_add_len, one_le_tb, zero_le_one', not_false_eq_true, true_imp_iff, bne_self_eq_false, Bool.or_false, Bool.false_or, Bool.not_true, Bool.not_false, Bool.true_eq_false, Bool.false_eq_true, false_imp, Nat.le_refl, decide_true, decide_false, not_true_eq_false, Int.lt_irrefl, hb0, hn0]
      (repeat' first | with_reducible assumption | with_reducible apply And.intro | with_reducible intro hh) <;> first | ((first | with_reducible show (_ : Int) ≤ _ | with_reducible show (_ : Int) < _ | with_reducible show (_ : Nat) ≤ _ | with_reducible show (_ : Nat) < _ | with_reducible show (_ : Int) = _ | with_reducible show (_ : Nat) = _ | with_reducible show ¬ _ | with_reducible show _ ≠ _) <;> first | omega | (simp only [Bool.and_eq_true, Bool.or_eq_false_iff, Bool.not_eq_false', Bool.not_eq_true', decide_eq_true_eq, decide_eq_false_iff_not] at *; omega) | (with_reducible assumption)) | (with_reducible assumption) | skip
      all_goals exact fin_ret (.inl rfl) (by cbv) (by simp) (To.fresh (.cons (.b rfl) .nil))
    obtain ⟨h10, h20⟩ := szLL_le hb0 (Int.le_refl _)
    have h30 : sumM (fun i => m0 i) n0 ≤ 1048576 := szLL_sum2 hb0 (Int.le_refl _)
    have a10 := eq_true hm0
    have a20 := eq_true h20
    have t0 : szLL n0 (fun i => m0 i) 1048576 ≤ 1048576 := Int.le_trans (szLL_top hb0) (Int.le_refl _)
    have u0 : 0 ≤ szLL n0 (fun i => m0 i) 1048576 := by omega
    by_cases hb1 : szLL n1 (fun i => m1 i) (szLL n0 (fun i => m0 i) 1048576) < 0
    · simp only [natCast_int, Post, All, thenA, canon0, canon064, and_true, true_and, forall_const, implies_true, decide_eq_true_eq, decide_eq_false_iff_not, Bool.not_eq_true', Bool.not_eq_false', Bool.true_and, Bool.and_true, beq_true, beq_false, Int.toNat_natCast, Int.ofNat_lt, Int.ofNat_le, Nat.zero_add, Nat.add_zero, imp_self, Bool.cond_false_right, Bool.cond_true_left, Bool.cond_true_right, IsF, rdF_eq, fOf, AV.f.injEq, exists_eq', free_list, free_fn0, List.not_mem_nil, List.mem_cons, false_imp, forall_eq, or_false, free_i, free_f, free_b, ren_f, ren_i, ren_b, and_self, bne_iff_ne, bne_eq_false_iff_eq, ne_eq, Int.natCast_inj, or_true, true_or, freeB_list, unfr_f, unfr_i, unfr_b, unfr_c, unfr_s, free_c, free_s, ren_c, ren_s, unfr_ro, unfr_rptr, ren_ro, free_ll, free_box, kill_f, kill_i, kill_b, kill_c, kill_s, kill_rof, kill_rot, Int.toNat_zero, isFF_ll, rowN_ll, rowX_ll, AllFree, Option.some.injEq, Prod.mk.injEq, Bool.false_eq_true, Bool.true_eq_false, eqL_self, heldL_mark, heldL_zero, one_neg, Nat.zero_le, Nat.not_lt_zero, one_add_len, one_le_tb, zero_le_one', not_false_eq_true, true_imp_iff, bne_self_eq_false, Bool.or_false, Bool.false_or, Bool.not_true, Bool.not_false, Bool.true_eq_false, Bool.false_eq_true, false_imp, Nat.le_refl, decide_true, decide_false, not_true_eq_false, Int.lt_irrefl, hb1, hb0, h10, hn0, a10, a20, t0, u0, hn1]
      (repeat' first | with_reducible assumption | with_reducible apply And.intro | with_reducible intro hh) <;> first | ((first | with_reducible show (_ : Int) ≤ _ | with_reducible show (_ : Int) < _ | with_reducible show (_ : Nat) ≤ _ | with_reducible show (_ : Nat) < _ | with_reducible show (_ : Int) = _ | with_reducible show (_ : Nat) = _ | with_reducible show ¬ _ | with_reducible show _ ≠ _) <;> first | omega | (simp only [Bool.and_eq_true, Bool.or_eq_false_iff, Bool.not_eq_false', Bool.not_eq_true', decide_eq_true_eq, decide_eq_false_iff_not] at *; omega) | (with_reducible assumption)) | (with_reducible assumption) | skip
      all_goals exact fin_ret (.inl rfl) (by cbv) (by simp) (To.fresh (.cons (.b rfl) .nil))
    obtain ⟨h11, h21⟩ := szLL_le hb1 t0
    have h31 : sumM (fun i => m1 i) n1 ≤ 1048576 := szLL_sum2 hb1 t0
    have a11 := eq_true hm1
    have a21 := eq_true h21
    have t1 : szLL n1 (fun i => m1 i) (szLL n0 (fun i => m0 i) 1048576) ≤ 1048576 := Int.le_trans (szLL_top hb1) t0
    have u1 : 0 ≤ szLL n1 (fun i => m1 i) (szLL n0 (fun i => m0 i) 1048576) := by omega
    have k0 : 1 + ((sumM (fun i => m0 i) n0 : Nat) : Int) ≤ 1099511627776 := by
      omega
    have l0 : 1 + ((sumM (fun i => m0 i) n0 : Nat) : Int) ≤ 9223372036854775807 := by omega
    have z0 : 0 ≤ 1 + ((sumM (fun i => m0 i) n0 : Nat) : Int) := by omega
    have y0 : ¬ 1 + ((sumM (fun i => m0 i) n0 : Nat) : Int) < 0 := by omega
    have k1 : 1 + ((sumM (fun i => m0 i) n0 : Nat) : Int) + ((sumM (fun i => m1 i) n1 : Nat) : Int) ≤ 1099511627776 := by
      omega
    have l1 : 1 + ((sumM (fun i => m0 i) n0 : Nat) : Int) + ((sumM (fun i => m1 i) n1 : Nat) : Int) ≤ 9223372036854775807 := by omega
    have z1 : 0 ≤ 1 + ((sumM (fun i => m0 i) n0 : Nat) : Int) + ((sumM (fun i => m1 i) n1 : Nat) : Int) := by omega
    have y1 : ¬ 1 + ((sumM (fun i => m0 i) n0 : Nat) : Int) + ((sumM (fun i => m1 i) n1 : Nat) : Int) < 0 := by omega
    simp only [natCast_int, Post, All, thenA, canon0, canon064, and_true, true_and, forall_const, implies_true, decide_eq_true_eq, decide_eq_false_iff_not, Bool.not_eq_true', Bool.not_eq_false', Bool.true_and, Bool.and_true, beq_true, beq_false, Int.toNat_natCast, Int.ofNat_lt, Int.ofNat_le, Nat.zero_add, Nat.add_zero, imp_self, Bool.cond_false_right, Bool.cond_true_left, Bool.cond_true_right, IsF, rdF_eq, fOf, AV.f.injEq, exists_eq', free_list, free_fn0, List.not_mem_nil, List.mem_cons, false_imp, forall_eq, or_false, free_i, free_f, free_b, ren_f, ren_i, ren_b, and_self, bne_iff_ne, bne_eq_false_iff_eq, ne_eq, Int.natCast_inj, or_true, true_or, freeB_list, unfr_f, unfr_i, unfr_b, unfr_c, unfr_s, free_c, free_s, ren_c, ren_s, unfr_ro, unfr_rptr, ren_ro, free_ll, free_box, kill_f, kill_i, kill_b, kill_c, kill_s, kill_rof, kill_rot, Int.toNat_zero, isFF_ll, rowN_ll, rowX_ll, AllFree, Option.some.injEq, Prod.mk.injEq, Bool.false_eq_true, Bool.true_eq_false, eqL_self, heldL_mark, heldL_zero, one_neg, Nat.zero_le, Nat.not_lt_zero, one_add_len, one_le_tb, zero_le_one', not_false_eq_true, true_imp_iff, bne_self_eq_false, Bool.or_false, Bool.false_or, Bool.not_true, Bool.not_false, Bool.true_eq_false, Bool.false_eq_true, false_imp, Nat.le_refl, decide_true, decide_false, not_true_eq_false, Int.lt_irrefl, hb0, h10, hn0, a10, a20, t0, u0, hb1, h11, hn1, a11, a21, t1, u1, k0, l0, z0, y0, k1, l1, z1, y1, hok, eqLL_self, isRowB_ro, isFFg_ll, or_true, true_or]
    (repeat' first | with_reducible assumption | with_reducible apply And.intro | with_reducible intro hh) <;> first | ((first | with_reducible show (_ : Int) ≤ _ | with_reducible show (_ : Int) < _ | with_reducible show (_ : Nat) ≤ _ | with_reducible show (_ : Nat) < _ | with_reducible show (_ : Int) = _ | with_reducible show (_ : Nat) = _ | with_reducible show ¬ _ | with_reducible show _ ≠ _) <;> first | omega | (simp only [Bool.and_eq_true, Bool.or_eq_false_iff, Bool.not_eq_false', Bool.not_eq_true', decide_eq_true_eq, decide_eq_false_iff_not] at *; omega) | (with_reducible assumption)) | (with_reducible assumption) | skip
    all_goals try (first | exact hm0 _ (by assumption) | exact h20 _ (by assumption) | exact hm1 _ (by assumption) | exact h21 _ (by assumption) | omega)
    all_goals exact fin_ret (.inl rfl) (by cbv) (by simp) (To.fresh (.cons (.b rfl) .nil))
  | false =>
    refine Con.of ttok Try.func4 rfl rfl (Nat.le_refl _) (AW.exec ttok (ctL_UnmixShared_ok false) (by cbv) ?_)
    by_cases hb0 : szLL n0 (fun i => m0 i) 1048576 < 0
    · simp only [natCast_int, Post, All, thenA, canon0, canon064, and_true, true_and, forall_const, implies_true, decide_eq_true_eq, decide_eq_false_iff_not, Bool.not_eq_true', Bool.not_eq_false', Bool.true_and, Bool.and_true, beq_true, beq_false, Int.toNat_natCast, Int.ofNat_lt, Int.ofNat_le, Nat.zero_add, Nat.add_zero, imp_self, Bool.cond_false_right, Bool.cond_true_left, Bool.cond_true_right, IsF, rdF_eq, fOf, AV.f.injEq, exists_eq', free_list, free_fn0, List.not_mem_nil, List.mem_cons, false_imp, forall_eq, or_false, free_i, free_f, free_b, ren_f, ren_i, ren_b, and_self, bne_iff_ne, bne_eq_false_iff_eq, ne_eq, Int.natCast_inj, or_true, true_or, freeB_list, unfr_f, unfr_i, unfr_b, unfr_c, unfr_s, free_c, free_s, ren_c, ren_s, unfr_ro, unfr_rptr, ren_ro, free_ll, free_box, kill_f, kill_i, kill_b, kill_c, kill_s, kill_rof, kill_rot, Int.toNat_zero, isFF_ll, rowN_ll, rowX_ll, AllFree, Option.some.injEq, Prod.mk.injEq, Bool.false_eq_true, Bool.true_eq_false, eqL_self, heldL_mark, heldL_zero, one_neg, Nat.zero_le, Nat.not_lt_zero, one_add_len, one_le_tb, zero_le_one', not_false_eq_true, true_imp_iff, bne_self_eq_false, Bool.or_false, Bool.false_or, Bool.not_true, Bool.not_false, Bool.true_eq_false, Bool.false_eq_true, false_imp, Nat.le_refl, decide_true, decide_false, not_true_eq_false, Int.lt_irrefl, hb0, hn0]
      (repeat' first | with_reducible assumption | with_reducible apply And.intro | with_reducible intro hh) <;> first | ((first | with_reducible show (_ : Int) ≤ _ | with_reducible show (_ : Int) < _ | with_reducible show (_ : Nat) ≤ _ | with_reducible show (_ : Nat) < _ | with_reducible show (_ : Int) = _ | with_reducible show (_ : Nat) = _ | with_reducible show ¬ _ | with_reducible show _ ≠ _) <;> first | omega | (simp only [Bool.and_eq_true, Bool.or_eq_false_iff, Bool.not_eq_false', Bool.not_eq_true', decide_eq_true_eq, decide_eq_false_iff_not] at *; omega) | (with_reducible assumption)) | (with_reducible assumption) | skip
      all_goals exact fin_ret (.inl rfl) (by cbv) (by simp) (To.fresh (.cons (.b rfl) .nil))
    obtain ⟨h10, h20⟩ := szLL_le hb0 (Int.le_refl _)
    have h30 : sumM (fun i => m0 i) n0 ≤ 1048576 := szLL_sum2 hb0 (Int.le_refl _)
    have a10 := eq_true hm0
    have a20 := eq_true h20
    have t0 : szLL n0 (fun i => m0 i) 1048576 ≤ 1048576 := Int.le_trans (szLL_top hb0) (Int.le_refl _)
    have u0 : 0 ≤ szLL n0 (fun i => m0 i) 1048576 := by omega
    by_cases hb1 : szLL n1 (fun i => m1 i) (szLL n0 (fun i => m0 i) 1048576) < 0
    · simp only [natCast_int, Post, All, thenA, canon0, canon064, and_true, true_and, forall_const, implies_true, decide_eq_true_eq, decide_eq_false_iff_not, Bool.not_eq_true', Bool.not_eq_false', Bool.true_and, Bool.and_true, beq_true, beq_false, Int.toNat_natCast, Int.ofNat_lt, Int.ofNat_le, Nat.zero_add, Nat.add_zero, imp_self, Bool.cond_false_right, Bool.cond_true_left, Bool.cond_true_right, IsF, rdF_eq, fOf, AV.f.injEq, exists_eq', free_list, free_fn0, List.not_mem_nil, List.mem_cons, false_imp, forall_eq, or_false, free_i, free_f, free_b, ren_f, ren_i, ren_b, and_self, bne_iff_ne, bne_eq_false_iff_eq, ne_eq, Int.natCast_inj, or_true, true_or, freeB_list, unfr_f, unfr_i, unfr_b, unfr_c, unfr_s, free_c, free_s, ren_c, ren_s, unfr_ro, unfr_rptr, ren_ro, free_ll, free_box, kill_f, kill_i, kill_b, kill_c, kill_s, kill_rof, kill_rot, Int.toNat_zero, isFF_ll, rowN_ll, rowX_ll, AllFree, Option.some.injEq, Prod.mk.injEq, Bool.false_eq_true, Bool.true_eq_false, eqL_self, heldL_mark, heldL_zero, one_neg, Nat.zero_le, Nat.not_lt_zero, one_add_len, one_le_tb, zero_le_one', not_false_eq_true, true_imp_iff, bne_self_eq_false, Bool.or_false, Bool.false_or, Bool.not_true, Bool.not_false, Bool.true_eq_false, Bool.false_eq_true, false_imp, Nat.le_refl, decide_true, decide_false, not_true_eq_false, Int.lt_irrefl, hb1, hb0, h10, hn0, a10, a20, t0, u0, hn1]
      (repeat' first | with_reducible assumption | with_reducible apply And.intro | with_reducible intro hh) <;> first | ((first | with_reducible show (_ : Int) ≤ _ | with_reducible show (_ : Int) < _ | with_reducible show (_ : Nat) ≤ _ | with_reducible show (_ : Nat) < _ | with_reducible show (_ : Int) = _ | with_reducible show (_ : Nat) = _ | with_reducible show ¬ _ | with_reducible show _ ≠ _) <;> first | omega | (simp only [Bool.and_eq_true, Bool.or_eq_false_iff, Bool.not_eq_false', Bool.not_eq_true', decide_eq_true_eq, decide_eq_false_iff_not] at *; omega) | (with_reducible assumption)) | (with_reducible assumption) | skip
      all_goals exact fin_ret (.inl rfl) (by cbv) (by simp) (To.fresh (.cons (.b rfl) .nil))
    obtain ⟨h11, h21⟩ := szLL_le hb1 t0
    have h31 : sumM (fun i => m1 i) n1 ≤ 1048576 := szLL_sum2 hb1 t0
    have a11 := eq_true hm1
    have a21 := eq_true h21
    have t1 : szLL n1 (fun i => m1 i) (szLL n0 (fun i => m0 i) 1048576) ≤ 1048576 := Int.le_trans (szLL_top hb1) t0
    have u1 : 0 ≤ szLL n1 (fun i => m1 i) (szLL n0 (fun i => m0 i) 1048576) := by omega
    have k0 : 1 + ((sumM (fun i => m0 i) n0 : Nat) : Int) ≤ 1099511627776 := by
      omega
    have l0 : 1 + ((sumM (fun i => m0 i) n0 : Nat) : Int) ≤ 9223372036854775807 := by omega
    have z0 : 0 ≤ 1 + ((sumM (fun i => m0 i) n0 : Nat) : Int) := by omega
    have y0 : ¬ 1 + ((sumM (fun i => m0 i) n0 : Nat) : Int) < 0 := by omega
    have k1 : 1 + ((sumM (fun i => m0 i) n0 : Nat) : Int) + ((sumM (fun i => m1 i) n1 : Nat) : Int) ≤ 1099511627776 := by
      omega
    have l1 : 1 + ((sumM (fun i => m0 i) n0 : Nat) : Int) + ((sumM (fun i => m1 i) n1 : Nat) : Int) ≤ 9223372036854775807 := by omega
    have z1 : 0 ≤ 1 + ((sumM (fun i => m0 i) n0 : Nat) : Int) + ((sumM (fun i => m1 i) n1 : Nat) : Int) := by omega
    have y1 : ¬ 1 + ((sumM (fun i => m0 i) n0 : Nat) : Int) + ((sumM (fun i => m1 i) n1 : Nat) : Int) < 0 := by omega
    simp only [natCast_int, Post, All, thenA, canon0, canon064, and_true, true_and, forall_const, implies_true, decide_eq_true_eq, decide_eq_false_iff_not, Bool.not_eq_true', Bool.not_eq_false', Bool.true_and, Bool.and_true, beq_true, beq_false, Int.toNat_natCast, Int.ofNat_lt, Int.ofNat_le, Nat.zero_add, Nat.add_zero, imp_self, Bool.cond_false_right, Bool.cond_true_left, Bool.cond_true_right, IsF, rdF_eq, fOf, AV.f.injEq, exists_eq', free_list, free_fn0, List.not_mem_nil, List.mem_cons, false_imp, forall_eq, or_false, free_i, free_f, free_b, ren_f, ren_i, ren_b, and_self, bne_iff_ne, bne_eq_false_iff_eq, ne_eq, Int.natCast_inj, or_true, true_or, freeB_list, unfr_f, unfr_i, unfr_b, unfr_c, unfr_s, free_c, free_s, ren_c, ren_s, unfr_ro, unfr_rptr, ren_ro, free_ll, free_box, kill_f, kill_i, kill_b, kill_c, kill_s, kill_rof, kill_rot, Int.toNat_zero, isFF_ll, rowN_ll, rowX_ll, AllFree, Option.some.injEq, Prod.mk.injEq, Bool.false_eq_true, Bool.true_eq_false, eqL_self, heldL_mark, heldL_zero, one_neg, Nat.zero_le, Nat.not_lt_zero, one_add_len, one_le_tb, zero_le_one', not_false_eq_true, true_imp_iff, bne_self_eq_false, Bool.or_false, Bool.false_or, Bool.not_true, Bool.not_false, Bool.true_eq_false, Bool.false_eq_true, false_imp, Nat.le_refl, decide_true, decide_false, not_true_eq_false, Int.lt_irrefl, hb0, h10, hn0, a10, a20, t0, u0, hb1, h11, hn1, a11, a21, t1, u1, k0, l0, z0, y0, k1, l1, z1, y1, hok, eqLL_self, isRowB_ro, isFFg_ll, or_true, true_or]
    (repeat' first | with_reducible assumption | with_reducible apply And.intro | with_reducible intro hh) <;> first | ((first | with_reducible show (_ : Int) ≤ _ | with_reducible show (_ : Int) < _ | with_reducible show (_ : Nat) ≤ _ | with_reducible show (_ : Nat) < _ | with_reducible show (_ : Int) = _ | with_reducible show (_ : Nat) = _ | with_reducible show ¬ _ | with_reducible show _ ≠ _) <;> first | omega | (simp only [Bool.and_eq_true, Bool.or_eq_false_iff, Bool.not_eq_false', Bool.not_eq_true', decide_eq_true_eq, decide_eq_false_iff_not] at *; omega) | (with_reducible assumption)) | (with_reducible assumption) | skip
    all_goals try (first | exact hm0 _ (by assumption) | exact h20 _ (by assumption) | exact hm1 _ (by assumption) | exact h21 _ (by assumption) | omega)
    all_goals exact fin_ret (.inl rfl) (by cbv) (by simp) (To.fresh (.cons (.b rfl) .nil))
set_option maxRecDepth 100000 in
open Go.ChangeShapes in
theorem lifted_UnmixShared (os : Os) (started : os.Started) (H : Type) (enc : TypeId × Value → H) :
    ReturnsInHanded {} Try.checked os 4 .any (Rows.fnExactUnmixSharedSpec.pre6 enc Try.prog Try.f4 Rows.fnExactUnmixSharedRow.domain false) (Rows.fnExactUnmixSharedSpec.post enc Try.prog Try.f4 Rows.fnExactUnmixSharedRow.apart Rows.fnExactUnmixSharedRow.fresh Rows.fnExactUnmixSharedRow.handsOn Rows.fnExactUnmixSharedRow.again) := by
  refine lifted (C := Try.checked) Try.own started (by kernel_rfl) Try.func4
    (ChangeSpec.witness6 (enc := enc) (C := Try.checked) false ⟨#[], #[.slice none 0 0, .slice none 0 0, .int .i64 0, .int .i64 0], []⟩ 8 (by kernel_rfl) (by kernel_rfl) (by kernel_rfl) (by kernel_rfl))
    Try.laidOut Try.mapsOut Try.full (of_decide_eq_true (by kernel_rfl)) (tb := 4) (by kernel_rfl) uB rfl (fun ds h => ?_) (fun W base args ds ps hval hA => ?_)
  · match ds, h with
    | [d0, d1, d2, d3], _ => exact ⟨rfl, rfl, rfl⟩
  · have hpar : Try.f4.params = #[23, 23, 2, 2] := by kernel_rfl
    rw [hpar] at hA hval
    obtain ⟨v0, v1, v2, v3, e0, e1, e2, e3, p0, p1, p2, p3, rfl, rfl, r0, r1, r2, r3⟩ := trodAll_four hA
    obtain ⟨n0, m0, x0, hn0, hm0, s0⟩ := read_rows uFss cFs uFs uF cF (hval 0 _ v0 rfl rfl) r0
    obtain ⟨n1, m1, x1, hn1, hm1, s1⟩ := read_rows uFss cFs uFs uF cF (hval 1 _ v1 rfl rfl) r1
    obtain ⟨d2, _, s2⟩ := read_int (L := W.heap.size) uI64 (hval 2 _ v2 rfl rfl) r2
    obtain ⟨d3, _, s3⟩ := read_int (L := W.heap.size) uI64 (hval 3 _ v3 rfl rfl) r3
    refine ⟨[listFF false (fun _ => n0) m0 x0, listFF false (fun _ => n1) m1 x1, .i .i64 fun _ => d2, .i .i64 fun _ => d3], rfl, fun j a u ha hu => ?_, law_UnmixShared n0 m0 x0 n1 m1 x1 d2 d3 hn0 hm0 hn1 hm1⟩
    match j, ha, hu with
    | 0, ha, hu => cases ha; cases hu; exact s0
    | 1, ha, hu => cases ha; cases hu; exact s1
    | 2, ha, hu => cases ha; cases hu; exact s2
    | 3, ha, hu => cases ha; cases hu; exact s3
theorem UnmixShared_said : Rows.FnExactUnmixSharedSaid :=
  OpenClaim.holds_of_wide 4 Try.f4 rfl rfl rfl rfl rfl rfl rfl ⟨rfl, rfl, rfl, rfl, rfl⟩ rfl rfl rfl rfl rfl (by kernel_rfl) Try.func4 (by kernel_rfl)
    (of_decide_eq_true (by kernel_rfl)) (by unfold Func.isWrapper; rw [if_neg (of_decide_eq_false (by kernel_rfl))]; exact ⟨rfl, rfl⟩)
    (fun os started H enc _ => lifted_UnmixShared os started H enc)
end Go.Proofs.Ytgbfngkmnodgdaa
