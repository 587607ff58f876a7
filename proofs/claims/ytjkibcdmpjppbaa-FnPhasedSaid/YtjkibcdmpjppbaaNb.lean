/- The law FnPhased answers yes for all bytes; no condition. -/
import Derived.Test.YtjkibcdmpjppbaaUnd
import Derived.Test.YtjkibcdmpjppbaaLr
import Derived.Test.YtjkibcdmpjppbaaRows
set_option linter.unusedSimpArgs false
set_option linter.unusedVariables false
namespace Go.Proofs.Ytjkibcdmpjppbaa
open Go.Aw
theorem isB_list {n : Th Nat} {b : Nat → Int} : (IsB n fun i c => .i .u8 fun _ => b (i .u)) ↔ (n .u ≤ 1048576 ∧ ∀ i, i < n .u → 0 ≤ b i ∧ b i < 256) :=
  ⟨fun h => ⟨h.1, fun i hi => by
    obtain ⟨x, hx, h2⟩ := h.2 i hi
    cases hx
    exact h2⟩, fun h => ⟨h.1, fun i hi => ⟨_, rfl, h.2 i hi⟩⟩⟩
theorem rdB_list {b : Nat → Int} : rdB (fun i c => .i .u8 fun _ => b (i .u)) = b := rfl
theorem free_lb {fr : Bool} {n : Th Nat} {b : Th Nat → Nat → Th Int} : Free (.ro fr n 1 fun i c => .i .u8 (b i c)) ↔ True := iff_true_intro (.ro fun _ _ _ _ => .i)
theorem cnmil : canon .f64 4562254508917369340 = 4562254508917369340 := by decide +kernel
theorem cn16 : canon .f32 1098907648 = 1098907648 := by decide +kernel
theorem tq_eq (a : Int) : fdiv .f32 (itof .f32 (a - 8)) 1098907648 = tq a := rfl
theorem cond_of {b : Bool} (h : b = true) {x y : Nat} : (bif b then x else y) = x := by rw [h]; rfl
def ctL_Phased : CT := [(14, .r kLongB), (15, .r kAtB), (16, .g 0 kB10), (17, .g 0 (pickK true kTP)), (18, .r kMP), (19, .r kLong), (20, .r kGap), (21, .r kScale)]
theorem ctL_Phased_ok : CTok Try.prog ctL_Phased := .cons longB_tells (.cons atB_tells (.cons b10_g (.cons (pick_tells true turnP_g) (.cons meanP_tells (.cons long_tells (.cons gap_tells (.cons scaleX_tells (.nil _))))))))
set_option maxHeartbeats 4000000 in
theorem law_PhasedA (n1 n2 : Nat) (b1 b2 : Nat → Int) (hb1 : ∀ k, k < n1 → 0 ≤ b1 k ∧ b1 k < 256) (hb2 : ∀ k, k < n2 → 0 ≤ b2 k ∧ b2 k < 256) (hb : (1048576 : Int) < (n1 : Int)) :
    Con Try.prog 4 [listB (fun _ => n1) b1, listB (fun _ => n2) b2] [] (.b fun _ => true) [] := by
  refine Con.of ttok Try.func4 rfl rfl (Nat.le_refl _) (AW.exec ttok ctL_Phased_ok (by cbv) ?_)
  simp only [natCast_int, Post, All, thenA, canon0, canon064, and_true, true_and, forall_const, implies_true, decide_eq_true_eq, decide_eq_false_iff_not, Bool.not_eq_true', Bool.not_eq_false', Bool.true_and, Bool.and_true, beq_true, beq_false, Int.toNat_natCast, Int.ofNat_lt, Int.ofNat_le, Nat.zero_add, Nat.add_zero, imp_self, Bool.cond_false_right, Bool.cond_true_left, Bool.cond_true_right, IsF, rdF_eq, fOf, AV.f.injEq, exists_eq', free_list, free_fn0, List.not_mem_nil, List.mem_cons, false_imp, forall_eq, or_false, free_i, free_f, free_b, ren_f, ren_i, ren_b, and_self, bne_iff_ne, bne_eq_false_iff_eq, ne_eq, Int.natCast_inj, or_true, true_or, freeB_list, unfr_f, unfr_i, unfr_b, unfr_c, unfr_s, free_c, free_s, ren_c, ren_s, unfr_ro, unfr_rptr, ren_ro, free_ll, free_box, kill_f, kill_i, kill_b, kill_c, kill_s, kill_rof, kill_rot, Int.toNat_zero, isFF_ll, rowN_ll, rowX_ll, AllFree, Option.some.injEq, Prod.mk.injEq, Bool.false_eq_true, Bool.true_eq_false, eqL_self, heldL_mark, heldL_zero, one_neg, Nat.zero_le, Nat.not_lt_zero, one_add_len, one_le_tb, zero_le_one', not_false_eq_true, true_imp_iff, bne_self_eq_false, Bool.or_false, Bool.false_or, Bool.not_true, Bool.not_false, Bool.true_eq_false, Bool.false_eq_true, false_imp, Nat.le_refl, decide_true, decide_false, not_true_eq_false, Int.lt_irrefl, hb, Bool.true_or, free_lb]
  (repeat' first | with_reducible assumption | with_reducible apply And.intro | with_reducible intro hh) <;> first | ((first | with_reducible show (_ : Int) ≤ _ | with_reducible show (_ : Int) < _ | with_reducible show (_ : Nat) ≤ _ | with_reducible show (_ : Nat) < _ | with_reducible show (_ : Int) = _ | with_reducible show (_ : Nat) = _ | with_reducible show ¬ _ | with_reducible show _ ≠ _) <;> first | omega | (simp only [Bool.and_eq_true, Bool.or_eq_false_iff, Bool.not_eq_false', Bool.not_eq_true', decide_eq_true_eq, decide_eq_false_iff_not] at *; omega) | (with_reducible assumption)) | (with_reducible assumption) | skip
  exact fin_ret (.inl rfl) (by cbv) (by simp) (To.fresh (.cons (.b rfl) .nil))
set_option maxHeartbeats 4000000 in
theorem law_PhasedB (n1 n2 : Nat) (b1 b2 : Nat → Int) (hb1 : ∀ k, k < n1 → 0 ≤ b1 k ∧ b1 k < 256) (hb2 : ∀ k, k < n2 → 0 ≤ b2 k ∧ b2 k < 256) (hb : ¬ (1048576 : Int) < (n1 : Int)) (hc : (1048576 : Int) < (n2 : Int)) :
    Con Try.prog 4 [listB (fun _ => n1) b1, listB (fun _ => n2) b2] [] (.b fun _ => true) [] := by
  refine Con.of ttok Try.func4 rfl rfl (Nat.le_refl _) (AW.exec ttok ctL_Phased_ok (by cbv) ?_)
  simp only [natCast_int, Post, All, thenA, canon0, canon064, and_true, true_and, forall_const, implies_true, decide_eq_true_eq, decide_eq_false_iff_not, Bool.not_eq_true', Bool.not_eq_false', Bool.true_and, Bool.and_true, beq_true, beq_false, Int.toNat_natCast, Int.ofNat_lt, Int.ofNat_le, Nat.zero_add, Nat.add_zero, imp_self, Bool.cond_false_right, Bool.cond_true_left, Bool.cond_true_right, IsF, rdF_eq, fOf, AV.f.injEq, exists_eq', free_list, free_fn0, List.not_mem_nil, List.mem_cons, false_imp, forall_eq, or_false, free_i, free_f, free_b, ren_f, ren_i, ren_b, and_self, bne_iff_ne, bne_eq_false_iff_eq, ne_eq, Int.natCast_inj, or_true, true_or, freeB_list, unfr_f, unfr_i, unfr_b, unfr_c, unfr_s, free_c, free_s, ren_c, ren_s, unfr_ro, unfr_rptr, ren_ro, free_ll, free_box, kill_f, kill_i, kill_b, kill_c, kill_s, kill_rof, kill_rot, Int.toNat_zero, isFF_ll, rowN_ll, rowX_ll, AllFree, Option.some.injEq, Prod.mk.injEq, Bool.false_eq_true, Bool.true_eq_false, eqL_self, heldL_mark, heldL_zero, one_neg, Nat.zero_le, Nat.not_lt_zero, one_add_len, one_le_tb, zero_le_one', not_false_eq_true, true_imp_iff, bne_self_eq_false, Bool.or_false, Bool.false_or, Bool.not_true, Bool.not_false, Bool.true_eq_false, Bool.false_eq_true, false_imp, Nat.le_refl, decide_true, decide_false, not_true_eq_false, Int.lt_irrefl, hb, hc, Bool.or_true, free_lb]
  (repeat' first | with_reducible assumption | with_reducible apply And.intro | with_reducible intro hh) <;> first | ((first | with_reducible show (_ : Int) ≤ _ | with_reducible show (_ : Int) < _ | with_reducible show (_ : Nat) ≤ _ | with_reducible show (_ : Nat) < _ | with_reducible show (_ : Int) = _ | with_reducible show (_ : Nat) = _ | with_reducible show ¬ _ | with_reducible show _ ≠ _) <;> first | omega | (simp only [Bool.and_eq_true, Bool.or_eq_false_iff, Bool.not_eq_false', Bool.not_eq_true', decide_eq_true_eq, decide_eq_false_iff_not] at *; omega) | (with_reducible assumption)) | (with_reducible assumption) | skip
  exact fin_ret (.inl rfl) (by cbv) (by simp) (To.fresh (.cons (.b rfl) .nil))
set_option maxHeartbeats 4000000 in
theorem law_PhasedC (n1 n2 : Nat) (b1 b2 : Nat → Int) (hb1 : ∀ k, k < n1 → 0 ≤ b1 k ∧ b1 k < 256) (hb2 : ∀ k, k < n2 → 0 ≤ b2 k ∧ b2 k < 256) (hb : ¬ (1048576 : Int) < (n1 : Int)) (hc : ¬ (1048576 : Int) < (n2 : Int)) :
    Con Try.prog 4 [listB (fun _ => n1) b1, listB (fun _ => n2) b2] [] (.b fun _ => true) [] := by
  have h1 : n1 ≤ 1048576 := by omega
  have h2 : n2 ≤ 1048576 := by omega
  have hA := atV_in hb2 (i := 0) (n := 8) (by decide) (by decide)
  have hB := atV_in hb2 (i := 1) (n := 17) (by decide) (by decide)
  obtain ⟨N, hN⟩ : ∃ N : Nat, (1 + atV n2 b2 0 8).toNat = N := ⟨_, rfl⟩
  have hN1 : 1 ≤ N := by omega
  have hN8 : N ≤ 8 := by omega
  have hNi : 1 + atV n2 b2 0 8 = (N : Int) := by omega
  have hq : Q2 (phRe n1 b1) (phIm n1 b1) := fun i => ⟨quart_in (pickK9_in hb1 (2 * i)).1 (pickK9_in hb1 (2 * i)).2, quart_in (pickK9_in hb1 (2 * i + 1)).1 (pickK9_in hb1 (2 * i + 1)).2⟩
  obtain ⟨⟨o1, p1⟩, ⟨o2, p2⟩, o3, p3⟩ := phased_ok hq hB.1 hB.2 hN8
  obtain ⟨o4, p4, p5⟩ : okMP N (phRe n1 b1) (phIm n1 b1) = true ∧ (f2fOk .f64 (longW (fsub .f32 (fmul .f32 (meanX N (phRe n1 b1)) (itof .f32 (N : Int))) (sumC (phRe n1 b1) N)) (fsub .f32 (fmul .f32 (meanX N (phIm n1 b1)) (itof .f32 (N : Int))) (sumC (phIm n1 b1) N))) .f32 ∧
      flt .f64 (wd (longF (fsub .f32 (fmul .f32 (meanX N (phRe n1 b1)) (itof .f32 (N : Int))) (sumC (phRe n1 b1) N)) (fsub .f32 (fmul .f32 (meanX N (phIm n1 b1)) (itof .f32 (N : Int))) (sumC (phIm n1 b1) N)))) milD = true) := mean_ok (f := fun j => pickK9 n1 b1 (2 * j)) (g := fun j => pickK9 n1 b1 (2 * j + 1)) (fun j => pickK9_in hb1 (2 * j)) (fun j => pickK9_in hb1 (2 * j + 1)) hN1 hN8
  refine Con.of ttok Try.func4 rfl rfl (Nat.le_refl _) (AW.exec ttok ctL_Phased_ok (by cbv) ?_)
  have u1 : (∀ (i : Nat), i < n1 → 0 ≤ b1 i ∧ b1 i < 256) ↔ True := iff_true_intro hb1
  have u2 : (∀ (i : Nat), i < n2 → 0 ≤ b2 i ∧ b2 i < 256) ↔ True := iff_true_intro hb2
  have u3 : N ≤ 9223372036854775807 := by omega
  have u4 : (0 ≤ (N : Int)) ↔ True := iff_true_intro (by omega)
  have u5 : ((N : Int) ≤ 1048576) ↔ True := iff_true_intro (by omega)
  have u6 : (-9223372036854775808 ≤ (N : Int)) ↔ True := iff_true_intro (by omega)
  have u7 : ((N : Int) ≤ 9223372036854775807) ↔ True := iff_true_intro (by omega)
  have u8 : (-9223372036854775808 ≤ atV n2 b2 1 17 - 8) ↔ True := iff_true_intro (by omega)
  have u9 : (atV n2 b2 1 17 - 8 ≤ 9223372036854775807) ↔ True := iff_true_intro (by omega)
  simp only [natCast_int, Post, All, thenA, canon0, canon064, and_true, true_and, forall_const, implies_true, decide_eq_true_eq, decide_eq_false_iff_not, Bool.not_eq_true', Bool.not_eq_false', Bool.true_and, Bool.and_true, beq_true, beq_false, Int.toNat_natCast, Int.ofNat_lt, Int.ofNat_le, Nat.zero_add, Nat.add_zero, imp_self, Bool.cond_false_right, Bool.cond_true_left, Bool.cond_true_right, IsF, rdF_eq, fOf, AV.f.injEq, exists_eq', free_list, free_fn0, List.not_mem_nil, List.mem_cons, false_imp, forall_eq, or_false, free_i, free_f, free_b, ren_f, ren_i, ren_b, and_self, bne_iff_ne, bne_eq_false_iff_eq, ne_eq, Int.natCast_inj, or_true, true_or, freeB_list, unfr_f, unfr_i, unfr_b, unfr_c, unfr_s, free_c, free_s, ren_c, ren_s, unfr_ro, unfr_rptr, ren_ro, free_ll, free_box, kill_f, kill_i, kill_b, kill_c, kill_s, kill_rof, kill_rot, Int.toNat_zero, isFF_ll, rowN_ll, rowX_ll, AllFree, Option.some.injEq, Prod.mk.injEq, Bool.false_eq_true, Bool.true_eq_false, eqL_self, heldL_mark, heldL_zero, one_neg, Nat.zero_le, Nat.not_lt_zero, one_add_len, one_le_tb, zero_le_one', not_false_eq_true, true_imp_iff, bne_self_eq_false, Bool.or_false, Bool.false_or, Bool.not_true, Bool.not_false, Bool.true_eq_false, Bool.false_eq_true, false_imp, Nat.le_refl, decide_true, decide_false, not_true_eq_false, Int.lt_irrefl, hb, hc, isC_list, free_lc, free_cc, freeB_listC, rdRe_eq, rdIm_eq, reOf, imOf, isB_list, rdB_list, free_lb, cn16, tq_eq, hNi, u1, u2, u3, u4, u5, u6, u7, u8, u9, h1, h2, o1, p1, o2, p2, o3, p3, o4]
  (repeat' first | with_reducible assumption | with_reducible apply And.intro | with_reducible intro hh) <;> first | ((first | with_reducible show (_ : Int) ≤ _ | with_reducible show (_ : Int) < _ | with_reducible show (_ : Nat) ≤ _ | with_reducible show (_ : Nat) < _ | with_reducible show (_ : Int) = _ | with_reducible show (_ : Nat) = _ | with_reducible show ¬ _ | with_reducible show _ ≠ _) <;> first | omega | (simp only [Bool.and_eq_true, Bool.or_eq_false_iff, Bool.not_eq_false', Bool.not_eq_true', decide_eq_true_eq, decide_eq_false_iff_not] at *; omega) | (with_reducible assumption)) | (with_reducible assumption) | skip
  refine AW.loopH (ι := Nat) (fun i => i ≤ N) (fun i => N - i) (fun i => mkE Try.f4.ntmps [(5, .i .i64 fun _ => (N : Int)), (6, .own 0 (fun _ => 0) (fun _ => N) 1), (8, .own 1 (fun _ => 0) (fun _ => N) 1), (10, .own 2 (fun _ => 0) (fun _ => N) 1), (12, .own 3 (fun _ => 0) (fun _ => N) 1), (14, .c .f32 (fun _ => meanX N (phRe n1 b1)) fun _ => meanX N (phIm n1 b1)), (16, .c .f32 (fun _ => sumC (phRe n1 b1) i) fun _ => sumC (phIm n1 b1) i), (88, .i .i64 fun _ => (N : Int)), (89, .i .i64 fun _ => (i : Int))])
    (fun i => [blkC true (fun _ => N) (phRe n1 b1) (phIm n1 b1), blkC true (fun _ => N) (tpRe (phRe n1 b1) (phIm n1 b1) (tq (atV n2 b2 1 17))) (tpIm (phRe n1 b1) (phIm n1 b1) (tq (atV n2 b2 1 17))), blkC true (fun _ => N) (tpRe (tpRe (phRe n1 b1) (phIm n1 b1) (tq (atV n2 b2 1 17))) (tpIm (phRe n1 b1) (phIm n1 b1) (tq (atV n2 b2 1 17))) (fneg .f32 (tq (atV n2 b2 1 17)))) (tpIm (tpRe (phRe n1 b1) (phIm n1 b1) (tq (atV n2 b2 1 17))) (tpIm (phRe n1 b1) (phIm n1 b1) (tq (atV n2 b2 1 17))) (fneg .f32 (tq (atV n2 b2 1 17)))), blkC true (fun _ => N) (tpRe (phRe n1 b1) (phIm n1 b1) 0) (tpIm (phRe n1 b1) (phIm n1 b1) 0)]) 0 (Nat.zero_le _) (To.same (Nat.zero_le _) ⟨EntTo.list (fun e => e) (Nat.le_refl _) fun j hj => AvTo.c rfl rfl, EntTo.list (fun e => e) (Nat.le_refl _) fun j hj => AvTo.c rfl rfl, EntTo.list (fun e => e) (Nat.le_refl _) fun j hj => AvTo.c rfl rfl, EntTo.list (fun e => e) (Nat.le_refl _) fun j hj => AvTo.c rfl rfl, trivial⟩ ?_) ?_
  · (repeat' first | exact AllTo.nil | apply AllTo.cons) <;> first | exact AvTo.dead _ | exact AvTo.i rfl | exact AvTo.c rfl rfl | exact AvTo.own rfl rfl rfl rfl | exact AvTo.c (by rw [cond_of o4]; rfl) (by rw [cond_of o4]; rfl) | trace_state
  rintro Q' hQ i hi
  rcases Nat.lt_or_eq_of_le hi with hl | rfl
  · obtain ⟨_, _, _, _, _, _, ⟨a1, a2⟩, c1, c2, c3⟩ := gd_of hq hB.1 hB.2 (by omega : i < 8)
    obtain ⟨_, _, _, d1, d2⟩ := gs_of hq (by omega : i < 8)
    clear o1 p1 o2 p2 o3 p3 o4 p4 p5 u1 u2 hq
    generalize tq (atV n2 b2 1 17) = t at *
    generalize phRe n1 b1 = x at *
    generalize phIm n1 b1 = y at *
    generalize tpRe (tpRe x y t) (tpIm x y t) (fneg .f32 t) = U at *
    generalize tpIm (tpRe x y t) (tpIm x y t) (fneg .f32 t) = V at *
    generalize tpRe x y t = X at *
    generalize tpIm x y t = Y at *
    generalize tpRe x y 0 = S at *
    generalize tpIm x y 0 = T at *
    simp only [wd] at a2 c3 d2
    refine AW.exec ttok ctL_Phased_ok (by cbv) ?_
    simp only [natCast_int, Post, All, thenA, canon0, canon064, and_true, true_and, forall_const, implies_true, decide_eq_true_eq, decide_eq_false_iff_not, Bool.not_eq_true', Bool.not_eq_false', Bool.true_and, Bool.and_true, beq_true, beq_false, Int.toNat_natCast, Int.ofNat_lt, Int.ofNat_le, Nat.zero_add, Nat.add_zero, imp_self, Bool.cond_false_right, Bool.cond_true_left, Bool.cond_true_right, IsF, rdF_eq, fOf, AV.f.injEq, exists_eq', free_list, free_fn0, List.not_mem_nil, List.mem_cons, false_imp, forall_eq, or_false, free_i, free_f, free_b, ren_f, ren_i, ren_b, and_self, bne_iff_ne, bne_eq_false_iff_eq, ne_eq, Int.natCast_inj, or_true, true_or, freeB_list, unfr_f, unfr_i, unfr_b, unfr_c, unfr_s, free_c, free_s, ren_c, ren_s, unfr_ro, unfr_rptr, ren_ro, free_ll, free_box, kill_f, kill_i, kill_b, kill_c, kill_s, kill_rof, kill_rot, Int.toNat_zero, isFF_ll, rowN_ll, rowX_ll, AllFree, Option.some.injEq, Prod.mk.injEq, Bool.false_eq_true, Bool.true_eq_false, cnmil, a1, a2, c1, c2, c3, d1, d2, hl]
    (repeat' first | with_reducible assumption | with_reducible apply And.intro | with_reducible intro hh) <;> first | ((first | with_reducible show (_ : Int) ≤ _ | with_reducible show (_ : Int) < _ | with_reducible show (_ : Nat) ≤ _ | with_reducible show (_ : Nat) < _ | with_reducible show (_ : Int) = _ | with_reducible show (_ : Nat) = _ | with_reducible show ¬ _ | with_reducible show _ ≠ _) <;> first | omega | (simp only [Bool.and_eq_true, Bool.or_eq_false_iff, Bool.not_eq_false', Bool.not_eq_true', decide_eq_true_eq, decide_eq_false_iff_not] at *; omega) | (with_reducible assumption)) | (with_reducible assumption) | skip
    · refine ⟨i + 1, by omega, by omega, To.same (Nat.zero_le _) ⟨EntTo.list (fun e => e) (Nat.le_refl _) fun j hj => AvTo.c rfl rfl, EntTo.list (fun e => e) (Nat.le_refl _) fun j hj => AvTo.c rfl rfl, EntTo.list (fun e => e) (Nat.le_refl _) fun j hj => AvTo.c rfl rfl, EntTo.list (fun e => e) (Nat.le_refl _) fun j hj => AvTo.c rfl rfl, trivial⟩ ?_⟩
      (repeat' first | exact AllTo.nil | apply AllTo.cons) <;> first | exact AvTo.dead _ | exact AvTo.i rfl | exact AvTo.c rfl rfl | exact AvTo.own rfl rfl rfl rfl
    · exact absurd trivial hh
  · refine AW.seq (AW.exec ttok (CTok.nil _) (by cbv) ?_)
    simp only [natCast_int, Post, All, thenA, canon0, canon064, and_true, true_and, forall_const, implies_true, decide_eq_true_eq, decide_eq_false_iff_not, Bool.not_eq_true', Bool.not_eq_false', Bool.true_and, Bool.and_true, beq_true, beq_false, Int.toNat_natCast, Int.ofNat_lt, Int.ofNat_le, Nat.zero_add, Nat.add_zero, imp_self, Bool.cond_false_right, Bool.cond_true_left, Bool.cond_true_right, IsF, rdF_eq, fOf, AV.f.injEq, exists_eq', free_list, free_fn0, List.not_mem_nil, List.mem_cons, false_imp, forall_eq, or_false, free_i, free_f, free_b, ren_f, ren_i, ren_b, and_self, bne_iff_ne, bne_eq_false_iff_eq, ne_eq, Int.natCast_inj, or_true, true_or, freeB_list, unfr_f, unfr_i, unfr_b, unfr_c, unfr_s, free_c, free_s, ren_c, ren_s, unfr_ro, unfr_rptr, ren_ro, free_ll, free_box, kill_f, kill_i, kill_b, kill_c, kill_s, kill_rof, kill_rot, Int.toNat_zero, isFF_ll, rowN_ll, rowX_ll, AllFree, Option.some.injEq, Prod.mk.injEq, Bool.false_eq_true, Bool.true_eq_false]
    refine AW.seq (AW.cond rfl (fun h => absurd (of_decide_eq_true h) (Nat.lt_irrefl _)) fun _ => AW.exit ?_)
    simp only [thenA]
    obtain ⟨rfl⟩ := hQ
    refine Post.eval (by cbv) ?_
    simp only [wd] at p5
    simp only [natCast_int, Post, All, thenA, canon0, canon064, and_true, true_and, forall_const, implies_true, decide_eq_true_eq, decide_eq_false_iff_not, Bool.not_eq_true', Bool.not_eq_false', Bool.true_and, Bool.and_true, beq_true, beq_false, Int.toNat_natCast, Int.ofNat_lt, Int.ofNat_le, Nat.zero_add, Nat.add_zero, imp_self, Bool.cond_false_right, Bool.cond_true_left, Bool.cond_true_right, IsF, rdF_eq, fOf, AV.f.injEq, exists_eq', free_list, free_fn0, List.not_mem_nil, List.mem_cons, false_imp, forall_eq, or_false, free_i, free_f, free_b, ren_f, ren_i, ren_b, and_self, bne_iff_ne, bne_eq_false_iff_eq, ne_eq, Int.natCast_inj, or_true, true_or, freeB_list, unfr_f, unfr_i, unfr_b, unfr_c, unfr_s, free_c, free_s, ren_c, ren_s, unfr_ro, unfr_rptr, ren_ro, free_ll, free_box, kill_f, kill_i, kill_b, kill_c, kill_s, kill_rof, kill_rot, Int.toNat_zero, isFF_ll, rowN_ll, rowX_ll, AllFree, Option.some.injEq, Prod.mk.injEq, Bool.false_eq_true, Bool.true_eq_false, free_cc, u6, u7, cnmil]
    (repeat' first | with_reducible assumption | with_reducible apply And.intro | with_reducible intro hh) <;> first | ((first | with_reducible show (_ : Int) ≤ _ | with_reducible show (_ : Int) < _ | with_reducible show (_ : Nat) ≤ _ | with_reducible show (_ : Nat) < _ | with_reducible show (_ : Int) = _ | with_reducible show (_ : Nat) = _ | with_reducible show ¬ _ | with_reducible show _ ≠ _) <;> first | omega | (simp only [Bool.and_eq_true, Bool.or_eq_false_iff, Bool.not_eq_false', Bool.not_eq_true', decide_eq_true_eq, decide_eq_false_iff_not] at *; omega) | (with_reducible assumption)) | (with_reducible assumption) | skip
    · exact fin_ret (.inl rfl) (by cbv) (by simp) (To.fresh (.cons (.b (by first | exact p5 | exact p5.symm)) .nil))
theorem law_Phased (n1 n2 : Nat) (b1 b2 : Nat → Int) (hb1 : ∀ k, k < n1 → 0 ≤ b1 k ∧ b1 k < 256) (hb2 : ∀ k, k < n2 → 0 ≤ b2 k ∧ b2 k < 256) :
    Con Try.prog 4 [listB (fun _ => n1) b1, listB (fun _ => n2) b2] [] (.b fun _ => true) [] := by
  by_cases hb : (1048576 : Int) < (n1 : Int)
  · exact law_PhasedA n1 n2 b1 b2 hb1 hb2 hb
  by_cases hc : (1048576 : Int) < (n2 : Int)
  · exact law_PhasedB n1 n2 b1 b2 hb1 hb2 hb hc
  exact law_PhasedC n1 n2 b1 b2 hb1 hb2 hb hc
section
open Go.ChangeShapes Go.WideShapes Go.RowKit
variable {H : Type} {enc : TypeId × Value → H} {P : Program}
theorem read_u8 {w : World} {t : TypeId} {v : Value} {fuel : Nat} {x : DataW H × List MemPlace} (ht : P.underlying t = some (.int .u8)) (h : DataW.trod enc P w 0 (fun _ => true) true fuel t [v] = some x) : ∃ b : Int, v = .int .u8 b ∧ 0 ≤ b ∧ b < 256 := by
  cases fuel with
  | zero => simp [DataW.trod] at h
  | succ fuel =>
    cases v <;> simp [DataW.trod, ht] at h
    rename_i k b
    obtain ⟨⟨h1, h2⟩, _⟩ := h
    subst h1
    refine ⟨b, rfl, ?_⟩
    have h3 : IntKind.u8.min ≤ b ∧ b ≤ IntKind.u8.max := by simpa [Lit.wf, IntKind.wrap] using h2
    have e1 : IntKind.u8.min = 0 := by decide
    have e2 : IntKind.u8.max = 255 := by decide
    omega
theorem read_bytes {w : World} {t e : TypeId} {v : Value} {base : Nat} {d : DataW H} {ps : List MemPlace} (ht : P.underlying t = some (.slice e)) (he : P.underlying e = some (.int .u8)) (hc : P.cellsOf e = 1) (ho : Value.okWide P w .any base t v)
    (h : DataW.Trod enc P w 0 (fun _ => true) true t v d ps) : ∃ (n : Nat) (x : Nat → Int), (∀ k, k < n → 0 ≤ x k ∧ x k < 256) ∧ Sim w noMp 0 w.heap.size (listB (fun _ => n) x) v := by
  obtain ⟨a0, len, cap, rfl⟩ := okWide_slice ht ho
  obtain ⟨fuel, hf⟩ := h
  rcases Deep.open_slice1 ht hc hf with ⟨hcs, _⟩ | ⟨a, len', cap', m, k, V, D, Pl, hcs, _, hl, hmx, hm, _, hx⟩
  · simp [Value.cells] at hcs
    obtain ⟨rfl, rfl, rfl⟩ := hcs
    exact ⟨0, fun _ => 0, fun k hk => absurd hk (Nat.not_lt_zero _), .ro0 rfl⟩
  · simp [Value.cells] at hcs
    obtain ⟨rfl, rfl, rfl⟩ := hcs
    simp only [if_true] at hm
    have hx' : ∀ i, i < len → w.cell? (a.add i) = some (V i) ∧ ∃ b : Int, V i = .int .u8 b ∧ 0 ≤ b ∧ b < 256 := fun i hi => ⟨(hx i (by omega)).1, read_u8 he (hx i (by omega)).2⟩
    rcases Nat.eq_zero_or_pos len with h0 | h0
    · subst h0
      exact ⟨0, fun _ => 0, fun k hk => absurd hk (Nat.not_lt_zero _), .ro0 rfl⟩
    · obtain ⟨b, off, spot⟩ := a
      have hspot : spot = none := by simpa [Addr.add] using World.cell?_spot (hx' 0 h0).1
      subst hspot
      have hblk : b < w.heap.size := by
        have := (hx' 0 h0).1
        rw [Addr.add_lit] at this
        rcases Nat.lt_or_ge b w.heap.size with h' | h'
        · exact h'
        · simp [World.cell?, Array.getElem?_eq_none h'] at this
      refine ⟨len, fun i => match V i with
        | .int _ b => b
        | _ => 0, fun i hi => ?_, .ro (fun i _ => V i) hl ⟨hblk, fun id h => (by cases h), fun h => (by cases h), fun _ => hblk⟩ (fun i c hi hcc => ?_) (fun i c hi hcc => ?_)⟩
      · obtain ⟨_, b', h2, h3⟩ := hx' i hi
        simp only [h2]
        exact h3
      · obtain rfl : c = 0 := by omega
        obtain ⟨h1, b', h2, _⟩ := hx' i hi
        rw [Addr.add_lit] at h1
        exact ⟨by simpa using h1, by rw [h2]; rfl⟩
      · obtain ⟨_, b', h2, _⟩ := hx' i hi
        simp only [h2]
        exact .i
end
theorem uBs : Try.prog.underlying 32 = some (.slice 5) := by kernel_rfl
theorem uBy : Try.prog.underlying 5 = some (.int .u8) := by kernel_rfl
theorem cBy : Try.prog.cellsOf 5 = 1 := by kernel_rfl
set_option maxRecDepth 100000 in
open Go.ChangeShapes in
theorem lifted_Phased (os : Os) (started : os.Started) (H : Type) (enc : TypeId × Value → H) :
    ReturnsInHanded {} Try.checked os 4 .any (Rows.fnPhasedSpec.pre6 enc Try.prog Try.f4 Rows.fnPhasedRow.domain false) (Rows.fnPhasedSpec.post enc Try.prog Try.f4 Rows.fnPhasedRow.apart Rows.fnPhasedRow.fresh Rows.fnPhasedRow.handsOn Rows.fnPhasedRow.again) := by
  refine lifted (C := Try.checked) Try.own started (by kernel_rfl) Try.func4
    (ChangeSpec.witness6 (enc := enc) (C := Try.checked) false ⟨#[], #[.slice none 0 0, .slice none 0 0], []⟩ 8 (by kernel_rfl) (by kernel_rfl) (by kernel_rfl) (by kernel_rfl))
    Try.laidOut Try.mapsOut Try.full (of_decide_eq_true (by kernel_rfl)) (tb := 4) (by kernel_rfl) uB rfl (fun ds h => ?_) (fun W base args ds ps hval hA => ?_)
  · match ds, h with
    | [d1, d2], _ => exact ⟨rfl, rfl, rfl⟩
  · have hpar : Try.f4.params = #[32, 32] := by kernel_rfl
    rw [hpar] at hA hval
    obtain ⟨v1, v2, d1, d2, p1, p2, rfl, rfl, rfl, t1, t2⟩ := trodAll_two hA
    obtain ⟨n1, b1, hb1, s1⟩ := read_bytes uBs uBy cBy (hval 0 _ v1 rfl rfl) t1
    obtain ⟨n2, b2, hb2, s2⟩ := read_bytes uBs uBy cBy (hval 1 _ v2 rfl rfl) t2
    refine ⟨[listB (fun _ => n1) b1, listB (fun _ => n2) b2], rfl, fun j a u ha hu => ?_, law_Phased n1 n2 b1 b2 hb1 hb2⟩
    match j, ha, hu with
    | 0, ha, hu => cases ha; cases hu; exact s1
    | 1, ha, hu => cases ha; cases hu; exact s2
theorem FnPhased_said : Rows.FnPhasedSaid :=
  OpenClaim.holds_of_wide 4 Try.f4 rfl rfl rfl rfl rfl rfl rfl ⟨rfl, rfl, rfl, rfl, rfl⟩ rfl rfl rfl rfl rfl (by kernel_rfl) Try.func4 (by kernel_rfl)
    (of_decide_eq_true (by kernel_rfl)) (by unfold Func.isWrapper; rw [if_neg (of_decide_eq_false (by kernel_rfl))]; exact ⟨rfl, rfl⟩)
    (fun os started H enc _ => lifted_Phased os started H enc)
end Go.Proofs.Ytjkibcdmpjppbaa
