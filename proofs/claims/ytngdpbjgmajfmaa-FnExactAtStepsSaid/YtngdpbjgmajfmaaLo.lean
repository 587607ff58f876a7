/- The law FnExactAtSteps answers yes for every list of numbers, every start and step and every whole number; conditions: none. -/
import Derived.Test.YtngdpbjgmajfmaaHi
import Derived.Test.YtngdpbjgmajfmaaLt
set_option linter.unusedSimpArgs false
set_option linter.unusedVariables false
namespace Go.Proofs.Ytngdpbjgmajfmaa
open Go.Aw
def ctL_AtSteps (w : Bool) : CT := [(28, .r kTo), (17, .r kEq), (20, .m kMark kMarkNil), (21, .r kHeld), (32, .g 0 (pickK w kAt)), (33, .g 0 (pickK w kAt))]
theorem ctL_AtSteps_ok (w : Bool) : CTok Try.prog (ctL_AtSteps w) := .cons to_tells (.cons eq_tells (.cons mark_tells (.cons held_tells (.cons (pick_tells w specAt) (.cons (pick_tells w implAt) (.nil _))))))
theorem law_AtSteps (n : Nat) (x : Nat → Nat) (a b : Nat) (d : Int) (hn : n ≤ 9223372036854775807) : Con Try.prog 7 [listF false (fun _ => n) x, .f .f32 fun _ => a, .f .f32 fun _ => b, .i .i64 fun _ => d] [] (.b fun _ => true) [] := by
  cases hok : okAt n x a b d with
  | true =>
    have hd : d.toNat ≤ 128 := by
      simp only [okAt, Bool.and_eq_true] at hok
      have := pre_facts hok.1
      omega
    refine Con.of ttok Try.func7 rfl rfl (Nat.le_refl _) (AW.exec ttok (ctL_AtSteps_ok true) (by cbv) ?_)
    by_cases hb : (1048576 : Int) < (n : Int)
    · simp only [natCast_int, Post, All, thenA, canon0, canon064, and_true, true_and, forall_const, implies_true, decide_eq_true_eq, decide_eq_false_iff_not, Bool.not_eq_true', Bool.not_eq_false', Bool.true_and, Bool.and_true, beq_true, beq_false, Int.toNat_natCast, Int.ofNat_lt, Int.ofNat_le, Nat.zero_add, Nat.add_zero, imp_self, Bool.cond_false_right, Bool.cond_true_left, Bool.cond_true_right, IsF, rdF_eq, fOf, AV.f.injEq, exists_eq', free_list, free_fn0, List.not_mem_nil, List.mem_cons, false_imp, forall_eq, or_false, free_i, free_f, free_b, ren_f, ren_i, ren_b, and_self, bne_iff_ne, bne_eq_false_iff_eq, ne_eq, Int.natCast_inj, or_true, true_or, freeB_list, unfr_f, unfr_i, unfr_b, unfr_c, unfr_s, free_c, free_s, ren_c, ren_s, unfr_ro, unfr_rptr, ren_ro, free_ll, free_box, kill_f, kill_i, kill_b, kill_c, kill_s, kill_rof, kill_rot, Int.toNat_zero, isFF_ll, rowN_ll, rowX_ll, AllFree, Option.some.injEq, Prod.mk.injEq, Bool.false_eq_true, Bool.true_eq_false, eqL_self, heldL_mark, heldL_zero, one_neg, Nat.zero_le, Nat.not_lt_zero, one_add_len, one_le_tb, zero_le_one', not_false_eq_true, true_imp_iff, bne_self_eq_false, Bool.or_false, Bool.false_or, Bool.not_true, Bool.not_false, Bool.true_eq_false, Bool.false_eq_true, false_imp, Nat.le_refl, decide_true, decide_false, not_true_eq_false, Int.lt_irrefl, hb]
      exact fin_ret (.inl rfl) (by cbv) (by simp) (To.fresh (.cons (.b rfl) .nil))
    · have hb' : n ≤ 1048576 := by omega
      have e1 : d.toNat ≤ 1048576 := by omega
      have e2 : d.toNat ≤ 9223372036854775807 := by omega
      simp only [natCast_int, Post, All, thenA, canon0, canon064, and_true, true_and, forall_const, implies_true, decide_eq_true_eq, decide_eq_false_iff_not, Bool.not_eq_true', Bool.not_eq_false', Bool.true_and, Bool.and_true, beq_true, beq_false, Int.toNat_natCast, Int.ofNat_lt, Int.ofNat_le, Nat.zero_add, Nat.add_zero, imp_self, Bool.cond_false_right, Bool.cond_true_left, Bool.cond_true_right, IsF, rdF_eq, fOf, AV.f.injEq, exists_eq', free_list, free_fn0, List.not_mem_nil, List.mem_cons, false_imp, forall_eq, or_false, free_i, free_f, free_b, ren_f, ren_i, ren_b, and_self, bne_iff_ne, bne_eq_false_iff_eq, ne_eq, Int.natCast_inj, or_true, true_or, freeB_list, unfr_f, unfr_i, unfr_b, unfr_c, unfr_s, free_c, free_s, ren_c, ren_s, unfr_ro, unfr_rptr, ren_ro, free_ll, free_box, kill_f, kill_i, kill_b, kill_c, kill_s, kill_rof, kill_rot, Int.toNat_zero, isFF_ll, rowN_ll, rowX_ll, AllFree, Option.some.injEq, Prod.mk.injEq, Bool.false_eq_true, Bool.true_eq_false, eqL_self, heldL_mark, heldL_zero, one_neg, Nat.zero_le, Nat.not_lt_zero, one_add_len, one_le_tb, zero_le_one', not_false_eq_true, true_imp_iff, bne_self_eq_false, Bool.or_false, Bool.false_or, Bool.not_true, Bool.not_false, Bool.true_eq_false, Bool.false_eq_true, false_imp, Nat.le_refl, decide_true, decide_false, not_true_eq_false, Int.lt_irrefl, hb, hb', hn, hok, e1, e2]
      exact fin_ret (.inl rfl) (by cbv) (by simp) (To.fresh (.cons (.b rfl) .nil))
  | false =>
    refine Con.of ttok Try.func7 rfl rfl (Nat.le_refl _) (AW.exec ttok (ctL_AtSteps_ok false) (by cbv) ?_)
    by_cases hb : (1048576 : Int) < (n : Int)
    · simp only [natCast_int, Post, All, thenA, canon0, canon064, and_true, true_and, forall_const, implies_true, decide_eq_true_eq, decide_eq_false_iff_not, Bool.not_eq_true', Bool.not_eq_false', Bool.true_and, Bool.and_true, beq_true, beq_false, Int.toNat_natCast, Int.ofNat_lt, Int.ofNat_le, Nat.zero_add, Nat.add_zero, imp_self, Bool.cond_false_right, Bool.cond_true_left, Bool.cond_true_right, IsF, rdF_eq, fOf, AV.f.injEq, exists_eq', free_list, free_fn0, List.not_mem_nil, List.mem_cons, false_imp, forall_eq, or_false, free_i, free_f, free_b, ren_f, ren_i, ren_b, and_self, bne_iff_ne, bne_eq_false_iff_eq, ne_eq, Int.natCast_inj, or_true, true_or, freeB_list, unfr_f, unfr_i, unfr_b, unfr_c, unfr_s, free_c, free_s, ren_c, ren_s, unfr_ro, unfr_rptr, ren_ro, free_ll, free_box, kill_f, kill_i, kill_b, kill_c, kill_s, kill_rof, kill_rot, Int.toNat_zero, isFF_ll, rowN_ll, rowX_ll, AllFree, Option.some.injEq, Prod.mk.injEq, Bool.false_eq_true, Bool.true_eq_false, eqL_self, heldL_mark, heldL_zero, one_neg, Nat.zero_le, Nat.not_lt_zero, one_add_len, one_le_tb, zero_le_one', not_false_eq_true, true_imp_iff, bne_self_eq_false, Bool.or_false, Bool.false_or, Bool.not_true, Bool.not_false, Bool.true_eq_false, Bool.false_eq_true, false_imp, Nat.le_refl, decide_true, decide_false, not_true_eq_false, Int.lt_irrefl, hb]
      exact fin_ret (.inl rfl) (by cbv) (by simp) (To.fresh (.cons (.b rfl) .nil))
    · have hb' : n ≤ 1048576 := by omega
      simp only [natCast_int, Post, All, thenA, canon0, canon064, and_true, true_and, forall_const, implies_true, decide_eq_true_eq, decide_eq_false_iff_not, Bool.not_eq_true', Bool.not_eq_false', Bool.true_and, Bool.and_true, beq_true, beq_false, Int.toNat_natCast, Int.ofNat_lt, Int.ofNat_le, Nat.zero_add, Nat.add_zero, imp_self, Bool.cond_false_right, Bool.cond_true_left, Bool.cond_true_right, IsF, rdF_eq, fOf, AV.f.injEq, exists_eq', free_list, free_fn0, List.not_mem_nil, List.mem_cons, false_imp, forall_eq, or_false, free_i, free_f, free_b, ren_f, ren_i, ren_b, and_self, bne_iff_ne, bne_eq_false_iff_eq, ne_eq, Int.natCast_inj, or_true, true_or, freeB_list, unfr_f, unfr_i, unfr_b, unfr_c, unfr_s, free_c, free_s, ren_c, ren_s, unfr_ro, unfr_rptr, ren_ro, free_ll, free_box, kill_f, kill_i, kill_b, kill_c, kill_s, kill_rof, kill_rot, Int.toNat_zero, isFF_ll, rowN_ll, rowX_ll, AllFree, Option.some.injEq, Prod.mk.injEq, Bool.false_eq_true, Bool.true_eq_false, eqL_self, heldL_mark, heldL_zero, one_neg, Nat.zero_le, Nat.not_lt_zero, one_add_len, one_le_tb, zero_le_one', not_false_eq_true, true_imp_iff, bne_self_eq_false, Bool.or_false, Bool.false_or, Bool.not_true, Bool.not_false, Bool.true_eq_false, Bool.false_eq_true, false_imp, Nat.le_refl, decide_true, decide_false, not_true_eq_false, Int.lt_irrefl, hb, hb', hn, hok]
      exact fin_ret (.inl rfl) (by cbv) (by simp) (To.fresh (.cons (.b rfl) .nil))
set_option maxRecDepth 100000 in
open Go.ChangeShapes in
theorem lifted_AtSteps (os : Os) (started : os.Started) (H : Type) (enc : TypeId × Value → H) :
    ReturnsInHanded {} Try.checked os 7 .any (Rows.fnExactAtStepsSpec.pre6 enc Try.prog Try.f7 Rows.fnExactAtStepsRow.domain false) (Rows.fnExactAtStepsSpec.post enc Try.prog Try.f7 Rows.fnExactAtStepsRow.apart Rows.fnExactAtStepsRow.fresh Rows.fnExactAtStepsRow.handsOn Rows.fnExactAtStepsRow.again) := by
  refine lifted (C := Try.checked) Try.own started (by kernel_rfl) Try.func7
    (ChangeSpec.witness6 (enc := enc) (C := Try.checked) false ⟨#[], #[.slice none 0 0, .float .f32 0, .float .f32 0, .int .i64 0], []⟩ 8 (by kernel_rfl) (by kernel_rfl) (by kernel_rfl) (by kernel_rfl))
    Try.laidOut Try.mapsOut Try.full (of_decide_eq_true (by kernel_rfl)) (tb := 4) (by kernel_rfl) uB rfl (fun ds h => ?_) (fun W base args ds ps hval hA => ?_)
  · match ds, h with
    | [d1, d2, d3, d4], _ => exact ⟨rfl, rfl, rfl⟩
  · have hpar : Try.f7.params = #[24, 34, 34, 2] := by kernel_rfl
    rw [hpar] at hA hval
    obtain ⟨v, v', v'', v3, d, d', d'', d3, p, p', p'', p3, rfl, rfl, h1, h2, h3, h4⟩ := trodAll_four hA
    obtain ⟨n, x, hn, s1⟩ := read_floats uFs uF cF (hval 0 _ v rfl rfl) h1
    obtain ⟨a, s2⟩ := read_float (L := W.heap.size) uF (hval 1 _ v' rfl rfl) h2
    obtain ⟨b, s3⟩ := read_float (L := W.heap.size) uF (hval 2 _ v'' rfl rfl) h3
    obtain ⟨k, _, s4⟩ := read_int (L := W.heap.size) uI64 (hval 3 _ v3 rfl rfl) h4
    refine ⟨[listF false (fun _ => n) x, .f .f32 fun _ => a, .f .f32 fun _ => b, .i .i64 fun _ => k], rfl, fun j a u ha hu => ?_, law_AtSteps n x a b k hn⟩
    match j, ha, hu with
    | 0, ha, hu => cases ha; cases hu; exact s1
    | 1, ha, hu => cases ha; cases hu; exact s2
    | 2, ha, hu => cases ha; cases hu; exact s3
    | 3, ha, hu => cases ha; cases hu; exact s4
theorem AtSteps_said : Rows.FnExactAtStepsSaid :=
  OpenClaim.holds_of_wide 7 Try.f7 rfl rfl rfl rfl rfl rfl rfl ⟨rfl, rfl, rfl, rfl, rfl⟩ rfl rfl rfl rfl rfl (by kernel_rfl) Try.func7 (by kernel_rfl)
    (of_decide_eq_true (by kernel_rfl)) (by unfold Func.isWrapper; rw [if_neg (of_decide_eq_false (by kernel_rfl))]; exact ⟨rfl, rfl⟩)
    (fun os started H enc _ => lifted_AtSteps os started H enc)
end Go.Proofs.Ytngdpbjgmajfmaa
