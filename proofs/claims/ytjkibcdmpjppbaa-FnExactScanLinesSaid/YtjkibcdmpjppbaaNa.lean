/- The law FnExactScanLines answers yes for every scan; no condition. -/
import Derived.Test.YtjkibcdmpjppbaaUg
import Derived.Test.YtjkibcdmpjppbaaLr
import Derived.Test.YtjkibcdmpjppbaaRows
set_option linter.unusedSimpArgs false
set_option linter.unusedVariables false
namespace Go.Proofs.Ytjkibcdmpjppbaa
open Go.Aw
def ctL_ScanLines (w : Bool) : CT := [(7, .r kTo), (9, .r kEqC), (10, .r kEq), (11, .m kMark kMarkNil), (12, .m kMarkC kMarkNilC), (13, .r kHeldC), (6, .g 0 (pickK w kSL)), (8, .g 0 (pickK w kSL))]
theorem ctL_ScanLines_ok (w : Bool) : CTok Try.prog (ctL_ScanLines w) := .cons to_tells (.cons eqC_tells (.cons eq_tells (.cons mark_tells (.cons markC_tells (.cons heldC_tells (.cons (pick_tells w specSL) (.cons (pick_tells w implSL) (.nil _))))))))
set_option maxHeartbeats 4000000 in
theorem law_ScanLines (n : Nat) (x : Nat → Nat) (hn : n ≤ 9223372036854775807) : Con Try.prog 3 [listF false (fun _ => n) x] [] (.b fun _ => true) [] := by
  by_cases hb : (1048576 : Int) < (n : Int)
  · refine Con.of ttok Try.func3 rfl rfl (Nat.le_refl _) (AW.exec ttok (ctL_ScanLines_ok true) (by cbv) ?_)
    simp only [natCast_int, Post, All, thenA, canon0, canon064, and_true, true_and, forall_const, implies_true, decide_eq_true_eq, decide_eq_false_iff_not, Bool.not_eq_true', Bool.not_eq_false', Bool.true_and, Bool.and_true, beq_true, beq_false, Int.toNat_natCast, Int.ofNat_lt, Int.ofNat_le, Nat.zero_add, Nat.add_zero, imp_self, Bool.cond_false_right, Bool.cond_true_left, Bool.cond_true_right, IsF, rdF_eq, fOf, AV.f.injEq, exists_eq', free_list, free_fn0, List.not_mem_nil, List.mem_cons, false_imp, forall_eq, or_false, free_i, free_f, free_b, ren_f, ren_i, ren_b, and_self, bne_iff_ne, bne_eq_false_iff_eq, ne_eq, Int.natCast_inj, or_true, true_or, freeB_list, unfr_f, unfr_i, unfr_b, unfr_c, unfr_s, free_c, free_s, ren_c, ren_s, unfr_ro, unfr_rptr, ren_ro, free_ll, free_box, kill_f, kill_i, kill_b, kill_c, kill_s, kill_rof, kill_rot, Int.toNat_zero, isFF_ll, rowN_ll, rowX_ll, AllFree, Option.some.injEq, Prod.mk.injEq, Bool.false_eq_true, Bool.true_eq_false, eqL_self, heldL_mark, heldL_zero, one_neg, Nat.zero_le, Nat.not_lt_zero, one_add_len, one_le_tb, zero_le_one', not_false_eq_true, true_imp_iff, bne_self_eq_false, Bool.or_false, Bool.false_or, Bool.not_true, Bool.not_false, Bool.true_eq_false, Bool.false_eq_true, false_imp, Nat.le_refl, decide_true, decide_false, not_true_eq_false, Int.lt_irrefl, hb]
    exact fin_ret (.inl rfl) (by cbv) (by simp) (To.fresh (.cons (.b rfl) .nil))
  have hb' : n ≤ 1048576 := by omega
  have h2 : n / 2 + 1 ≤ 1048576 := by omega
  have h3 : n / 2 + 1 ≤ 9223372036854775807 := by omega
  have hm : heldC (n / 2 + 1) (fun i => markC 1 i) (fun _ => oneC) 1 = 1 + ((n / 2 + 1 : Nat) : Int) := heldC_mark (by decide) (by omega)
  cases hok : okSL n x with
  | true =>
    refine Con.of ttok Try.func3 rfl rfl (Nat.le_refl _) (AW.exec ttok (ctL_ScanLines_ok true) (by cbv) ?_)
    simp only [natCast_int, Post, All, thenA, canon0, canon064, and_true, true_and, forall_const, implies_true, decide_eq_true_eq, decide_eq_false_iff_not, Bool.not_eq_true', Bool.not_eq_false', Bool.true_and, Bool.and_true, beq_true, beq_false, Int.toNat_natCast, Int.ofNat_lt, Int.ofNat_le, Nat.zero_add, Nat.add_zero, imp_self, Bool.cond_false_right, Bool.cond_true_left, Bool.cond_true_right, IsF, rdF_eq, fOf, AV.f.injEq, exists_eq', free_list, free_fn0, List.not_mem_nil, List.mem_cons, false_imp, forall_eq, or_false, free_i, free_f, free_b, ren_f, ren_i, ren_b, and_self, bne_iff_ne, bne_eq_false_iff_eq, ne_eq, Int.natCast_inj, or_true, true_or, freeB_list, unfr_f, unfr_i, unfr_b, unfr_c, unfr_s, free_c, free_s, ren_c, ren_s, unfr_ro, unfr_rptr, ren_ro, free_ll, free_box, kill_f, kill_i, kill_b, kill_c, kill_s, kill_rof, kill_rot, Int.toNat_zero, isFF_ll, rowN_ll, rowX_ll, AllFree, Option.some.injEq, Prod.mk.injEq, Bool.false_eq_true, Bool.true_eq_false, eqL_self, heldL_mark, heldL_zero, one_neg, Nat.zero_le, Nat.not_lt_zero, one_add_len, one_le_tb, zero_le_one', not_false_eq_true, true_imp_iff, bne_self_eq_false, Bool.or_false, Bool.false_or, Bool.not_true, Bool.not_false, Bool.true_eq_false, Bool.false_eq_true, false_imp, Nat.le_refl, decide_true, decide_false, not_true_eq_false, Int.lt_irrefl, hb, hb', hn, h2, h3, hok, isC_list, isC_nil, free_lc, free_cc, freeB_listC, rdRe_eq, rdIm_eq, reOf, imOf, eqC_self, hm, heldC_zero]
    (repeat' first | with_reducible assumption | with_reducible apply And.intro | with_reducible intro hh) <;> first | ((first | with_reducible show (_ : Int) ≤ _ | with_reducible show (_ : Int) < _ | with_reducible show (_ : Nat) ≤ _ | with_reducible show (_ : Nat) < _ | with_reducible show (_ : Int) = _ | with_reducible show (_ : Nat) = _ | with_reducible show ¬ _ | with_reducible show _ ≠ _) <;> first | omega | (simp only [Bool.and_eq_true, Bool.or_eq_false_iff, Bool.not_eq_false', Bool.not_eq_true', decide_eq_true_eq, decide_eq_false_iff_not] at *; omega) | (with_reducible assumption)) | (with_reducible assumption) | skip
    all_goals first | exact fin_ret (.inl rfl) (by cbv) (by simp) (To.fresh (.cons (.b rfl) .nil)) | trace_state
  | false =>
    refine Con.of ttok Try.func3 rfl rfl (Nat.le_refl _) (AW.exec ttok (ctL_ScanLines_ok false) (by cbv) ?_)
    simp only [natCast_int, Post, All, thenA, canon0, canon064, and_true, true_and, forall_const, implies_true, decide_eq_true_eq, decide_eq_false_iff_not, Bool.not_eq_true', Bool.not_eq_false', Bool.true_and, Bool.and_true, beq_true, beq_false, Int.toNat_natCast, Int.ofNat_lt, Int.ofNat_le, Nat.zero_add, Nat.add_zero, imp_self, Bool.cond_false_right, Bool.cond_true_left, Bool.cond_true_right, IsF, rdF_eq, fOf, AV.f.injEq, exists_eq', free_list, free_fn0, List.not_mem_nil, List.mem_cons, false_imp, forall_eq, or_false, free_i, free_f, free_b, ren_f, ren_i, ren_b, and_self, bne_iff_ne, bne_eq_false_iff_eq, ne_eq, Int.natCast_inj, or_true, true_or, freeB_list, unfr_f, unfr_i, unfr_b, unfr_c, unfr_s, free_c, free_s, ren_c, ren_s, unfr_ro, unfr_rptr, ren_ro, free_ll, free_box, kill_f, kill_i, kill_b, kill_c, kill_s, kill_rof, kill_rot, Int.toNat_zero, isFF_ll, rowN_ll, rowX_ll, AllFree, Option.some.injEq, Prod.mk.injEq, Bool.false_eq_true, Bool.true_eq_false, eqL_self, heldL_mark, heldL_zero, one_neg, Nat.zero_le, Nat.not_lt_zero, one_add_len, one_le_tb, zero_le_one', not_false_eq_true, true_imp_iff, bne_self_eq_false, Bool.or_false, Bool.false_or, Bool.not_true, Bool.not_false, Bool.true_eq_false, Bool.false_eq_true, false_imp, Nat.le_refl, decide_true, decide_false, not_true_eq_false, Int.lt_irrefl, hb, hb', hn, h2, h3, hok, isC_list, isC_nil, free_lc, free_cc, freeB_listC, rdRe_eq, rdIm_eq, reOf, imOf, eqC_self, hm, heldC_zero]
    (repeat' first | with_reducible assumption | with_reducible apply And.intro | with_reducible intro hh) <;> first | ((first | with_reducible show (_ : Int) ≤ _ | with_reducible show (_ : Int) < _ | with_reducible show (_ : Nat) ≤ _ | with_reducible show (_ : Nat) < _ | with_reducible show (_ : Int) = _ | with_reducible show (_ : Nat) = _ | with_reducible show ¬ _ | with_reducible show _ ≠ _) <;> first | omega | (simp only [Bool.and_eq_true, Bool.or_eq_false_iff, Bool.not_eq_false', Bool.not_eq_true', decide_eq_true_eq, decide_eq_false_iff_not] at *; omega) | (with_reducible assumption)) | (with_reducible assumption) | skip
    all_goals first | exact fin_ret (.inl rfl) (by cbv) (by simp) (To.fresh (.cons (.b rfl) .nil)) | trace_state
set_option maxRecDepth 100000 in
open Go.ChangeShapes in
theorem lifted_ScanLines (os : Os) (started : os.Started) (H : Type) (enc : TypeId × Value → H) :
    ReturnsInHanded {} Try.checked os 3 .any (Rows.fnExactScanLinesSpec.pre6 enc Try.prog Try.f3 Rows.fnExactScanLinesRow.domain false) (Rows.fnExactScanLinesSpec.post enc Try.prog Try.f3 Rows.fnExactScanLinesRow.apart Rows.fnExactScanLinesRow.fresh Rows.fnExactScanLinesRow.handsOn Rows.fnExactScanLinesRow.again) := by
  refine lifted (C := Try.checked) Try.own started (by kernel_rfl) Try.func3
    (ChangeSpec.witness6 (enc := enc) (C := Try.checked) false ⟨#[], #[.slice none 0 0], []⟩ 8 (by kernel_rfl) (by kernel_rfl) (by kernel_rfl) (by kernel_rfl))
    Try.laidOut Try.mapsOut Try.full (of_decide_eq_true (by kernel_rfl)) (tb := 4) (by kernel_rfl) uB rfl (fun ds h => ?_) (fun W base args ds ps hval hA => ?_)
  · match ds, h with
    | [d1], _ => exact ⟨rfl, rfl, rfl⟩
  · have hpar : Try.f3.params = #[22] := by kernel_rfl
    rw [hpar] at hA hval
    obtain ⟨v, d, rfl, rfl, h1⟩ := trodAll_one hA
    obtain ⟨n, x, hn, s1⟩ := read_floats uFs uF cF (hval 0 _ v rfl rfl) h1
    refine ⟨[listF false (fun _ => n) x], rfl, fun j a u ha hu => ?_, law_ScanLines n x hn⟩
    match j, ha, hu with
    | 0, ha, hu => cases ha; cases hu; exact s1
theorem ScanLines_said : Rows.FnExactScanLinesSaid :=
  OpenClaim.holds_of_wide 3 Try.f3 rfl rfl rfl rfl rfl rfl rfl ⟨rfl, rfl, rfl, rfl, rfl⟩ rfl rfl rfl rfl rfl (by kernel_rfl) Try.func3 (by kernel_rfl)
    (of_decide_eq_true (by kernel_rfl)) (by unfold Func.isWrapper; rw [if_neg (of_decide_eq_false (by kernel_rfl))]; exact ⟨rfl, rfl⟩)
    (fun os started H enc _ => lifted_ScanLines os started H enc)
end Go.Proofs.Ytjkibcdmpjppbaa
