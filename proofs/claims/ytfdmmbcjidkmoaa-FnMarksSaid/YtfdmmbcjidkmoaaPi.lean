/- The law on marks, walked: from its start. -/
import Derived.Test.YtfdmmbcjidkmoaaPh
set_option linter.unusedSimpArgs false
set_option linter.unusedVariables false
namespace Go.Proofs.Ytfdmmbcjidkmoaa
open Go.Aw
section Marks
variable {N : Nat} {x : Nat → Nat} {bar v by_ : Nat} {w0 w2 : Int} {R : Nat} {n2 : Nat} {b2 : Nat → Int}
set_option maxHeartbeats 8000000 in
set_option maxRecDepth 100000 in
theorem mk14 (h : Marks N x bar v by_ w0 w2 R) (hv : 1 + at8 n2 b2 42 3 = (v : Int)) (hby : fdiv .f32 (itof .f32 (1 + at8 n2 b2 43 4)) 1073741824 = by_) (hR : (at8 n2 b2 46 6).toNat = R) (h0 : at8 n2 b2 44 4 = w0) (h2 : at8 n2 b2 45 4 = w2) (hn2 : n2 ≤ 1048576) (hb2 : ∀ k, k < n2 → 0 ≤ b2 k ∧ b2 k < 256) : AW Try.prog 0 (tlP 14 bodyMk) (finA tt Try.f4 (.b fun _ => true) [] 0) (mkE Try.f4.ntmps [(1, listB (fun _ => n2) b2), (5, .i .i64 fun _ => (N : Int)), (6, .own 0 (fun _ => 0) (fun _ => N) 1), (8, .own 1 (fun _ => 0) (fun _ => (mkL x bar (N - 1)).length) 1), (12, .i .i64 fun _ => ((mkL x bar (N - 1)).length : Int)), (13, .f .f32 fun _ => lowP x N), (14, .f .f32 fun _ => highP x N), (15, .f .f32 fun _ => sumN x N), (18, .f .f32 fun _ => noiseX N x), (19, .b fun _ => true)])
    [blkF true (fun _ => N) x, blkMk true (mkL x bar (N - 1))] := by
  have h3 := h.n3
  have h14 := h.n14
  have n1 : N ≤ 9223372036854775807 := by omega
  have hlen := mkL_len (x := x) (bar := bar) (N - 1)
  have k1 := h.ratio
  simp only [wd] at k1
  have hl9 : (mkL x bar (N - 1)).length ≤ 9223372036854775807 := by omega
  refine AW.seq (AW.exec ttok ctGp_ok (by cbv) ?_)
  simp only [natCast_int, Post, All, thenA, canon0, canon064, and_true, true_and, forall_const, implies_true, decide_eq_true_eq, decide_eq_false_iff_not, Bool.not_eq_true', Bool.not_eq_false', Bool.true_and, Bool.and_true, beq_true, beq_false, Int.toNat_natCast, Int.ofNat_lt, Int.ofNat_le, Nat.zero_add, Nat.add_zero, imp_self, Bool.cond_false_right, Bool.cond_true_left, Bool.cond_true_right, IsF, rdF_eq, fOf, AV.f.injEq, exists_eq', free_list, free_fn0, List.not_mem_nil, List.mem_cons, false_imp, forall_eq, or_false, free_i, free_f, free_b, ren_f, ren_i, ren_b, and_self, bne_iff_ne, bne_eq_false_iff_eq, ne_eq, Int.natCast_inj, or_true, true_or, freeB_list, unfr_f, unfr_i, unfr_b, unfr_c, unfr_s, free_c, free_s, ren_c, ren_s, unfr_ro, unfr_rptr, ren_ro, free_ll, free_box, kill_f, kill_i, kill_b, kill_c, kill_s, kill_rof, kill_rot, Int.toNat_zero, isFF_ll, rowN_ll, rowX_ll, AllFree, Option.some.injEq, Prod.mk.injEq, Bool.false_eq_true, Bool.true_eq_false, eqL_self, heldL_mark, heldL_zero, one_neg, Nat.zero_le, Nat.not_lt_zero, one_add_len, one_le_tb, zero_le_one', not_false_eq_true, true_imp_iff, bne_self_eq_false, Bool.or_false, Bool.false_or, Bool.not_true, Bool.not_false, Bool.true_eq_false, Bool.false_eq_true, false_imp, Nat.le_refl, decide_true, decide_false, not_true_eq_false, Int.lt_irrefl, thenA, n1, hl9, cnmilP, k1, bne_self_eq_false]
  (repeat' first | with_reducible assumption | with_reducible apply And.intro | with_reducible intro hh) <;> first | ((first | with_reducible show (_ : Int) ≤ _ | with_reducible show (_ : Int) < _ | with_reducible show (_ : Nat) ≤ _ | with_reducible show (_ : Nat) < _ | with_reducible show (_ : Int) = _ | with_reducible show (_ : Nat) = _ | with_reducible show ¬ _ | with_reducible show _ ≠ _) <;> first | omega | (simp only [Bool.and_eq_true, Bool.or_eq_false_iff, Bool.not_eq_false', Bool.not_eq_true', decide_eq_true_eq, decide_eq_false_iff_not] at *; omega) | (with_reducible assumption)) | (with_reducible assumption) | skip
  all_goals first | exact absurd trivial hh | skip
  refine AW.via ?_ (mk15 h hv hby hR h0 h2 hn2 hb2)
  refine To.same (Nat.zero_le _) ⟨EntTo.list (fun e => e) (Nat.le_refl _) fun j hj => AvTo.f rfl, trivial⟩ ?_
  refine allTo_mkE rfl ?_
  (repeat' first | exact trivial | refine And.intro ?_ ?_) <;> first | exact AvTo.i rfl | exact AvTo.f rfl | exact AvTo.b rfl | exact AvTo.own rfl rfl rfl rfl | exact Free.same (.ro fun _ _ _ _ => .i) | trace_state
set_option maxHeartbeats 8000000 in
set_option maxRecDepth 100000 in
theorem mk13 (h : Marks N x bar v by_ w0 w2 R) (hv : 1 + at8 n2 b2 42 3 = (v : Int)) (hby : fdiv .f32 (itof .f32 (1 + at8 n2 b2 43 4)) 1073741824 = by_) (hR : (at8 n2 b2 46 6).toNat = R) (h0 : at8 n2 b2 44 4 = w0) (h2 : at8 n2 b2 45 4 = w2) (hn2 : n2 ≤ 1048576) (hb2 : ∀ k, k < n2 → 0 ≤ b2 k ∧ b2 k < 256) : AW Try.prog 0 (tlP 13 bodyMk) (finA tt Try.f4 (.b fun _ => true) [] 0) (mkE Try.f4.ntmps [(1, listB (fun _ => n2) b2), (5, .i .i64 fun _ => (N : Int)), (6, .own 0 (fun _ => 0) (fun _ => N) 1), (8, .own 1 (fun _ => 0) (fun _ => (mkL x bar (N - 1)).length) 1), (12, .i .i64 fun _ => ((mkL x bar (N - 1)).length : Int)), (13, .f .f32 fun _ => lowP x N), (14, .f .f32 fun _ => highP x N), (15, .f .f32 fun _ => sumN x N)])
    [blkF true (fun _ => N) x, blkMk true (mkL x bar (N - 1))] := by
  have h3 := h.n3
  have h14 := h.n14
  have n1 : N ≤ 9223372036854775807 := by omega
  have hlen := mkL_len (x := x) (bar := bar) (N - 1)
  have k1 := h.bins
  have k2 := h.rot
  have k3 := h.sumP
  have k4 := h.noise
  have n0 : 0 < N := by omega
  refine AW.seq (AW.exec ttok ctMarksP_ok (by cbv) ?_)
  simp only [natCast_int, Post, All, thenA, canon0, canon064, and_true, true_and, forall_const, implies_true, decide_eq_true_eq, decide_eq_false_iff_not, Bool.not_eq_true', Bool.not_eq_false', Bool.true_and, Bool.and_true, beq_true, beq_false, Int.toNat_natCast, Int.ofNat_lt, Int.ofNat_le, Nat.zero_add, Nat.add_zero, imp_self, Bool.cond_false_right, Bool.cond_true_left, Bool.cond_true_right, IsF, rdF_eq, fOf, AV.f.injEq, exists_eq', free_list, free_fn0, List.not_mem_nil, List.mem_cons, false_imp, forall_eq, or_false, free_i, free_f, free_b, ren_f, ren_i, ren_b, and_self, bne_iff_ne, bne_eq_false_iff_eq, ne_eq, Int.natCast_inj, or_true, true_or, freeB_list, unfr_f, unfr_i, unfr_b, unfr_c, unfr_s, free_c, free_s, ren_c, ren_s, unfr_ro, unfr_rptr, ren_ro, free_ll, free_box, kill_f, kill_i, kill_b, kill_c, kill_s, kill_rof, kill_rot, Int.toNat_zero, isFF_ll, rowN_ll, rowX_ll, AllFree, Option.some.injEq, Prod.mk.injEq, Bool.false_eq_true, Bool.true_eq_false, eqL_self, heldL_mark, heldL_zero, one_neg, Nat.zero_le, Nat.not_lt_zero, one_add_len, one_le_tb, zero_le_one', not_false_eq_true, true_imp_iff, bne_self_eq_false, Bool.or_false, Bool.false_or, Bool.not_true, Bool.not_false, Bool.true_eq_false, Bool.false_eq_true, false_imp, Nat.le_refl, decide_true, decide_false, not_true_eq_false, Int.lt_irrefl, thenA, n1, n0, k1, k2, k3, k4]
  (repeat' first | with_reducible assumption | with_reducible apply And.intro | with_reducible intro hh) <;> first | ((first | with_reducible show (_ : Int) ≤ _ | with_reducible show (_ : Int) < _ | with_reducible show (_ : Nat) ≤ _ | with_reducible show (_ : Nat) < _ | with_reducible show (_ : Int) = _ | with_reducible show (_ : Nat) = _ | with_reducible show ¬ _ | with_reducible show _ ≠ _) <;> first | omega | (simp only [Bool.and_eq_true, Bool.or_eq_false_iff, Bool.not_eq_false', Bool.not_eq_true', decide_eq_true_eq, decide_eq_false_iff_not] at *; omega) | (with_reducible assumption)) | (with_reducible assumption) | skip
  refine AW.via ?_ (mk14 h hv hby hR h0 h2 hn2 hb2)
  refine To.same (Nat.zero_le _) ⟨EntTo.list (fun e => e) (Nat.le_refl _) fun j hj => AvTo.f rfl, EntTo.list (fun e => e) (Nat.le_refl _) fun j hj => AvTo.i rfl, trivial⟩ ?_
  refine allTo_mkE rfl ?_
  (repeat' first | exact trivial | refine And.intro ?_ ?_) <;> first | exact AvTo.i rfl | exact AvTo.f rfl | exact AvTo.b rfl | exact AvTo.own rfl rfl rfl rfl | exact Free.same (.ro fun _ _ _ _ => .i) | trace_state
/-- The condition that the loop asks at each place. -/
theorem mkB (h : Marks N x bar v by_ w0 w2 R) {i a1 a2 a3 : Nat} (hl : i < N) : AW Try.prog 0 (navP [0, 1, 2, 2, 1, 0, 2, 1, 1, 1, 1, 0, 0] (tlP 12 bodyMk)) (fun q e H => q = .normal ∧ To 0 e H (mkE Try.f4.ntmps [(1, listB (fun _ => n2) b2), (5, .i .i64 fun _ => (N : Int)), (6, .own 0 (fun _ => 0) (fun _ => N) 1), (7, .f .f32 fun _ => bar), (8, .own 1 (fun _ => 0) (fun _ => (mkL x bar (N - 1)).length) 1), (10, .own 2 (fun _ => 0) (fun _ => N) 1), (12, .i .i64 fun _ => (cntP x bar N i : Int)), (13, .f .f32 fun _ => a1), (14, .f .f32 fun _ => a2), (15, .f .f32 fun _ => a3), (16, .i .i64 fun _ => (i : Int)), (17, .b fun _ => isI x bar N i), (182, .b fun _ => false)]) [blkF true (fun _ => N) x, blkMk true (mkL x bar (N - 1)), blkF true (fun _ => N) (cleanX x bar N)]) (mkE Try.f4.ntmps [(1, listB (fun _ => n2) b2), (5, .i .i64 fun _ => (N : Int)), (6, .own 0 (fun _ => 0) (fun _ => N) 1), (7, .f .f32 fun _ => bar), (8, .own 1 (fun _ => 0) (fun _ => (mkL x bar (N - 1)).length) 1), (10, .own 2 (fun _ => 0) (fun _ => N) 1), (12, .i .i64 fun _ => (cntP x bar N i : Int)), (13, .f .f32 fun _ => a1), (14, .f .f32 fun _ => a2), (15, .f .f32 fun _ => a3), (16, .i .i64 fun _ => (i : Int)), (17, .b fun _ => isI x bar N i)])
    [blkF true (fun _ => N) x, blkMk true (mkL x bar (N - 1)), blkF true (fun _ => N) (cleanX x bar N)] := by
  by_cases hI : isI x bar N i = true
  · have hI' := hI
    unfold isI at hI'
    simp only [Bool.and_eq_true, decide_eq_true_eq] at hI'
    obtain ⟨p1, p2, p3⟩ := hI'
    obtain ⟨q1, q2⟩ := mk_yes (bar := bar) p1 (show i < N - 1 by omega) p3
    have ec : cntP x bar N i = (mkL x bar i).length := by unfold cntP; rw [Nat.min_eq_left (by omega)]
    have e3 : cleanX x bar N i = halfX x i := by unfold cleanX; unfold isI at hI; rw [hI]; rfl
    rw [hI]
    exact mkB1 h hl p1 p2 (by rw [ec]; exact q1) (by rw [ec]; exact q2) e3
  · rw [Bool.not_eq_true] at hI
    have e3 : cleanX x bar N i = x i := by unfold cleanX; unfold isI at hI; rw [hI]; rfl
    have hno : ¬ (1 ≤ i ∧ i < N - 1 ∧ isMk x bar i = true) := by
      rintro ⟨p1, p2, p3⟩
      unfold isI at hI
      rw [decide_eq_true p1, decide_eq_true (show i + 1 < N by omega), p3] at hI
      cases hI
    rw [hI]
    by_cases hK : cntP x bar N i < (mkL x bar (N - 1)).length
    · exact mkB2 h hl hK (mk_no hno hK) e3
    · exact mkB3 h hl hK e3
theorem cntP_succ {i : Nat} (hl : i < N) : cntP x bar N (i + 1) = if isI x bar N i = true then cntP x bar N i + 1 else cntP x bar N i := by
  unfold cntP isI
  by_cases h1 : i + 1 < N
  · rw [Nat.min_eq_left (show i + 1 ≤ N - 1 by omega), Nat.min_eq_left (show i ≤ N - 1 by omega), decide_eq_true h1, Bool.true_and]
    show (bif decide (1 ≤ i) && isMk x bar i then mkL x bar i ++ [i] else mkL x bar i).length = _
    cases (decide (1 ≤ i) && isMk x bar i)
    · rfl
    · simp
  · rw [decide_eq_false h1, Bool.false_and, Bool.and_false, Nat.min_eq_right (show N - 1 ≤ i + 1 by omega), Nat.min_eq_right (show N - 1 ≤ i by omega)]
    rfl
set_option maxHeartbeats 8000000 in
set_option maxRecDepth 100000 in
theorem mk12 (h : Marks N x bar v by_ w0 w2 R) (hv : 1 + at8 n2 b2 42 3 = (v : Int)) (hby : fdiv .f32 (itof .f32 (1 + at8 n2 b2 43 4)) 1073741824 = by_) (hR : (at8 n2 b2 46 6).toNat = R) (h0 : at8 n2 b2 44 4 = w0) (h2 : at8 n2 b2 45 4 = w2) (hn2 : n2 ≤ 1048576) (hb2 : ∀ k, k < n2 → 0 ≤ b2 k ∧ b2 k < 256) : AW Try.prog 0 (tlP 12 bodyMk) (finA tt Try.f4 (.b fun _ => true) [] 0) (mkE Try.f4.ntmps [(1, listB (fun _ => n2) b2), (5, .i .i64 fun _ => (N : Int)), (6, .own 0 (fun _ => 0) (fun _ => N) 1), (7, .f .f32 fun _ => bar), (8, .own 1 (fun _ => 0) (fun _ => (mkL x bar (N - 1)).length) 1), (10, .own 2 (fun _ => 0) (fun _ => N) 1), (12, .i .i64 fun _ => 0), (13, .f .f32 fun _ => x 0), (14, .f .f32 fun _ => x 0), (15, .f .f32 fun _ => 0)])
    [blkF true (fun _ => N) x, blkMk true (mkL x bar (N - 1)), blkF true (fun _ => N) (cleanX x bar N)] := by
  have h3 := h.n3
  have h14 := h.n14
  have n1 : N ≤ 9223372036854775807 := by omega
  have hlen := mkL_len (x := x) (bar := bar) (N - 1)
  have same3 : EntsTo [blkF true (fun _ => N) x, blkMk true (mkL x bar (N - 1)), blkF true (fun _ => N) (cleanX x bar N)] [blkF true (fun _ => N) x, blkMk true (mkL x bar (N - 1)), blkF true (fun _ => N) (cleanX x bar N)] (List.range 3) [blkF true (fun _ => N) x, blkMk true (mkL x bar (N - 1)), blkF true (fun _ => N) (cleanX x bar N)] [blkF true (fun _ => N) x, blkMk true (mkL x bar (N - 1)), blkF true (fun _ => N) (cleanX x bar N)] := ⟨EntTo.list (fun e => e) (Nat.le_refl _) fun j hj => AvTo.f rfl, EntTo.list (fun e => e) (Nat.le_refl _) fun j hj => AvTo.i rfl, EntTo.list (fun e => e) (Nat.le_refl _) fun j hj => AvTo.f rfl, trivial⟩
  refine AW.seq ?_
  refine AW.exec ttok (CTok.nil _) (by cbv) ?_
  simp only [natCast_int, Post, All, thenA, canon0, canon064, and_true, true_and, forall_const, implies_true, decide_eq_true_eq, decide_eq_false_iff_not, Bool.not_eq_true', Bool.not_eq_false', Bool.true_and, Bool.and_true, beq_true, beq_false, Int.toNat_natCast, Int.ofNat_lt, Int.ofNat_le, Nat.zero_add, Nat.add_zero, imp_self, Bool.cond_false_right, Bool.cond_true_left, Bool.cond_true_right, IsF, rdF_eq, fOf, AV.f.injEq, exists_eq', free_list, free_fn0, List.not_mem_nil, List.mem_cons, false_imp, forall_eq, or_false, free_i, free_f, free_b, ren_f, ren_i, ren_b, and_self, bne_iff_ne, bne_eq_false_iff_eq, ne_eq, Int.natCast_inj, or_true, true_or, freeB_list, unfr_f, unfr_i, unfr_b, unfr_c, unfr_s, free_c, free_s, ren_c, ren_s, unfr_ro, unfr_rptr, ren_ro, free_ll, free_box, kill_f, kill_i, kill_b, kill_c, kill_s, kill_rof, kill_rot, Int.toNat_zero, isFF_ll, rowN_ll, rowX_ll, AllFree, Option.some.injEq, Prod.mk.injEq, Bool.false_eq_true, Bool.true_eq_false]
  (repeat' first | with_reducible assumption | with_reducible apply And.intro | with_reducible intro hh) <;> first | ((first | with_reducible show (_ : Int) ≤ _ | with_reducible show (_ : Int) < _ | with_reducible show (_ : Nat) ≤ _ | with_reducible show (_ : Nat) < _ | with_reducible show (_ : Int) = _ | with_reducible show (_ : Nat) = _ | with_reducible show ¬ _ | with_reducible show _ ≠ _) <;> first | omega | (simp only [Bool.and_eq_true, Bool.or_eq_false_iff, Bool.not_eq_false', Bool.not_eq_true', decide_eq_true_eq, decide_eq_false_iff_not] at *; omega) | (with_reducible assumption)) | (with_reducible assumption) | skip
  refine AW.loopH (ι := Nat) (fun i => i ≤ N) (fun i => N - i) (fun i => (mkE Try.f4.ntmps [(1, listB (fun _ => n2) b2), (5, .i .i64 fun _ => (N : Int)), (6, .own 0 (fun _ => 0) (fun _ => N) 1), (7, .f .f32 fun _ => bar), (8, .own 1 (fun _ => 0) (fun _ => (mkL x bar (N - 1)).length) 1), (10, .own 2 (fun _ => 0) (fun _ => N) 1), (12, .i .i64 fun _ => (cntP x bar N i : Int)), (13, .f .f32 fun _ => lowP x i), (14, .f .f32 fun _ => highP x i), (15, .f .f32 fun _ => sumN x i), (16, .i .i64 fun _ => (i : Int))]))
    (fun _ => [blkF true (fun _ => N) x, blkMk true (mkL x bar (N - 1)), blkF true (fun _ => N) (cleanX x bar N)]) 0 (Nat.zero_le _) (To.same (Nat.zero_le _) same3 ?_) ?_
  · refine allTo_mkE rfl ?_
    (repeat' first | exact trivial | refine And.intro ?_ ?_) <;> first | exact AvTo.i rfl | exact AvTo.f rfl | exact AvTo.b rfl | exact AvTo.own rfl rfl rfl rfl | exact Free.same (.ro fun _ _ _ _ => .i) | trace_state
  rintro Q' hQ i hi
  rcases Nat.lt_or_eq_of_le hi with hl | rfl
  · have hli : (i : Int) < (N : Int) := by omega
    have hc := cntP_succ (x := x) (bar := bar) hl
    have hcl : cntP x bar N i ≤ N := by
      have := mkL_len (x := x) (bar := bar) (min i (N - 1))
      unfold cntP
      omega
    refine AW.seq (AW.exec ttok (CTok.nil _) (by cbv) ?_)
    simp only [natCast_int, Post, All, thenA, canon0, canon064, and_true, true_and, forall_const, implies_true, decide_eq_true_eq, decide_eq_false_iff_not, Bool.not_eq_true', Bool.not_eq_false', Bool.true_and, Bool.and_true, beq_true, beq_false, Int.toNat_natCast, Int.ofNat_lt, Int.ofNat_le, Nat.zero_add, Nat.add_zero, imp_self, Bool.cond_false_right, Bool.cond_true_left, Bool.cond_true_right, IsF, rdF_eq, fOf, AV.f.injEq, exists_eq', free_list, free_fn0, List.not_mem_nil, List.mem_cons, false_imp, forall_eq, or_false, free_i, free_f, free_b, ren_f, ren_i, ren_b, and_self, bne_iff_ne, bne_eq_false_iff_eq, ne_eq, Int.natCast_inj, or_true, true_or, freeB_list, unfr_f, unfr_i, unfr_b, unfr_c, unfr_s, free_c, free_s, ren_c, ren_s, unfr_ro, unfr_rptr, ren_ro, free_ll, free_box, kill_f, kill_i, kill_b, kill_c, kill_s, kill_rof, kill_rot, Int.toNat_zero, isFF_ll, rowN_ll, rowX_ll, AllFree, Option.some.injEq, Prod.mk.injEq, Bool.false_eq_true, Bool.true_eq_false, eqL_self, heldL_mark, heldL_zero, one_neg, Nat.zero_le, Nat.not_lt_zero, one_add_len, one_le_tb, zero_le_one', not_false_eq_true, true_imp_iff, bne_self_eq_false, Bool.or_false, Bool.false_or, Bool.not_true, Bool.not_false, Bool.true_eq_false, Bool.false_eq_true, false_imp, Nat.le_refl, decide_true, decide_false, not_true_eq_false, Int.lt_irrefl, hl, hli]
    refine AW.seq (AW.block ?_)
    refine AW.seq (AW.exec ttok (CTok.nil _) (by cbv) ?_)
    simp only [natCast_int, Post, All, thenA, canon0, canon064, and_true, true_and, forall_const, implies_true, decide_eq_true_eq, decide_eq_false_iff_not, Bool.not_eq_true', Bool.not_eq_false', Bool.true_and, Bool.and_true, beq_true, beq_false, Int.toNat_natCast, Int.ofNat_lt, Int.ofNat_le, Nat.zero_add, Nat.add_zero, imp_self, Bool.cond_false_right, Bool.cond_true_left, Bool.cond_true_right, IsF, rdF_eq, fOf, AV.f.injEq, exists_eq', free_list, free_fn0, List.not_mem_nil, List.mem_cons, false_imp, forall_eq, or_false, free_i, free_f, free_b, ren_f, ren_i, ren_b, and_self, bne_iff_ne, bne_eq_false_iff_eq, ne_eq, Int.natCast_inj, or_true, true_or, freeB_list, unfr_f, unfr_i, unfr_b, unfr_c, unfr_s, free_c, free_s, ren_c, ren_s, unfr_ro, unfr_rptr, ren_ro, free_ll, free_box, kill_f, kill_i, kill_b, kill_c, kill_s, kill_rof, kill_rot, Int.toNat_zero, isFF_ll, rowN_ll, rowX_ll, AllFree, Option.some.injEq, Prod.mk.injEq, Bool.false_eq_true, Bool.true_eq_false, thenA, hl]
    (repeat' first | with_reducible assumption | with_reducible apply And.intro | with_reducible intro hh) <;> first | ((first | with_reducible show (_ : Int) ≤ _ | with_reducible show (_ : Int) < _ | with_reducible show (_ : Nat) ≤ _ | with_reducible show (_ : Nat) < _ | with_reducible show (_ : Int) = _ | with_reducible show (_ : Nat) = _ | with_reducible show ¬ _ | with_reducible show _ ≠ _) <;> first | omega | (simp only [Bool.and_eq_true, Bool.or_eq_false_iff, Bool.not_eq_false', Bool.not_eq_true', decide_eq_true_eq, decide_eq_false_iff_not] at *; omega) | (with_reducible assumption)) | (with_reducible assumption) | skip
    refine AW.seq (AW.exec ttok (CTok.nil _) (by cbv) ?_)
    simp only [natCast_int, Post, All, thenA, canon0, canon064, and_true, true_and, forall_const, implies_true, decide_eq_true_eq, decide_eq_false_iff_not, Bool.not_eq_true', Bool.not_eq_false', Bool.true_and, Bool.and_true, beq_true, beq_false, Int.toNat_natCast, Int.ofNat_lt, Int.ofNat_le, Nat.zero_add, Nat.add_zero, imp_self, Bool.cond_false_right, Bool.cond_true_left, Bool.cond_true_right, IsF, rdF_eq, fOf, AV.f.injEq, exists_eq', free_list, free_fn0, List.not_mem_nil, List.mem_cons, false_imp, forall_eq, or_false, free_i, free_f, free_b, ren_f, ren_i, ren_b, and_self, bne_iff_ne, bne_eq_false_iff_eq, ne_eq, Int.natCast_inj, or_true, true_or, freeB_list, unfr_f, unfr_i, unfr_b, unfr_c, unfr_s, free_c, free_s, ren_c, ren_s, unfr_ro, unfr_rptr, ren_ro, free_ll, free_box, kill_f, kill_i, kill_b, kill_c, kill_s, kill_rof, kill_rot, Int.toNat_zero, isFF_ll, rowN_ll, rowX_ll, AllFree, Option.some.injEq, Prod.mk.injEq, Bool.false_eq_true, Bool.true_eq_false, thenA, hl]
    (repeat' first | with_reducible assumption | with_reducible apply And.intro | with_reducible intro hh) <;> first | ((first | with_reducible show (_ : Int) ≤ _ | with_reducible show (_ : Int) < _ | with_reducible show (_ : Nat) ≤ _ | with_reducible show (_ : Nat) < _ | with_reducible show (_ : Int) = _ | with_reducible show (_ : Nat) = _ | with_reducible show ¬ _ | with_reducible show _ ≠ _) <;> first | omega | (simp only [Bool.and_eq_true, Bool.or_eq_false_iff, Bool.not_eq_false', Bool.not_eq_true', decide_eq_true_eq, decide_eq_false_iff_not] at *; omega) | (with_reducible assumption)) | (with_reducible assumption) | skip
    refine AW.seq (AW.exec ttok (CTok.nil _) (by cbv) ?_)
    simp only [natCast_int, Post, All, thenA, canon0, canon064, and_true, true_and, forall_const, implies_true, decide_eq_true_eq, decide_eq_false_iff_not, Bool.not_eq_true', Bool.not_eq_false', Bool.true_and, Bool.and_true, beq_true, beq_false, Int.toNat_natCast, Int.ofNat_lt, Int.ofNat_le, Nat.zero_add, Nat.add_zero, imp_self, Bool.cond_false_right, Bool.cond_true_left, Bool.cond_true_right, IsF, rdF_eq, fOf, AV.f.injEq, exists_eq', free_list, free_fn0, List.not_mem_nil, List.mem_cons, false_imp, forall_eq, or_false, free_i, free_f, free_b, ren_f, ren_i, ren_b, and_self, bne_iff_ne, bne_eq_false_iff_eq, ne_eq, Int.natCast_inj, or_true, true_or, freeB_list, unfr_f, unfr_i, unfr_b, unfr_c, unfr_s, free_c, free_s, ren_c, ren_s, unfr_ro, unfr_rptr, ren_ro, free_ll, free_box, kill_f, kill_i, kill_b, kill_c, kill_s, kill_rof, kill_rot, Int.toNat_zero, isFF_ll, rowN_ll, rowX_ll, AllFree, Option.some.injEq, Prod.mk.injEq, Bool.false_eq_true, Bool.true_eq_false, thenA, hl]
    (repeat' first | with_reducible assumption | with_reducible apply And.intro | with_reducible intro hh) <;> first | ((first | with_reducible show (_ : Int) ≤ _ | with_reducible show (_ : Int) < _ | with_reducible show (_ : Nat) ≤ _ | with_reducible show (_ : Nat) < _ | with_reducible show (_ : Int) = _ | with_reducible show (_ : Nat) = _ | with_reducible show ¬ _ | with_reducible show _ ≠ _) <;> first | omega | (simp only [Bool.and_eq_true, Bool.or_eq_false_iff, Bool.not_eq_false', Bool.not_eq_true', decide_eq_true_eq, decide_eq_false_iff_not] at *; omega) | (with_reducible assumption)) | (with_reducible assumption) | skip
    refine AW.seq (AW.via ?_ (AW.mono (mkA (x := x) (bar := bar) (n2 := n2) (b2 := b2) (K := cntP x bar N i) (a1 := lowP x (i + 1)) (a2 := highP x (i + 1)) (a3 := sumN x (i + 1)) h3 h14 hl) ?_))
    · refine To.same (Nat.zero_le _) same3 ?_
      refine allTo_mkE rfl ?_
      (repeat' first | exact trivial | refine And.intro ?_ ?_) <;> first | exact AvTo.i rfl | exact AvTo.f rfl | exact AvTo.b rfl | exact AvTo.own rfl rfl rfl rfl | exact Free.same (.ro fun _ _ _ _ => .i) | trace_state
    rintro q e H ⟨rfl, hT⟩
    simp only [thenA]
    refine AW.via hT ?_
    refine AW.seq (AW.seq (AW.mono (mkB (n2 := n2) (b2 := b2) (a1 := lowP x (i + 1)) (a2 := highP x (i + 1)) (a3 := sumN x (i + 1)) h hl) ?_))
    rintro q e H ⟨rfl, hT⟩
    simp only [thenA]
    refine AW.via hT ?_
    refine AW.cond rfl (fun hf => by cases hf) fun _ => AW.skip ?_
    simp only [blockA, thenA]
    by_cases hI : isI x bar N i = true
    · rw [hI]
      rw [if_pos hI] at hc
      refine AW.exec ttok (CTok.nil _) (by cbv) ?_
      simp only [natCast_int, Post, All, thenA, canon0, canon064, and_true, true_and, forall_const, implies_true, decide_eq_true_eq, decide_eq_false_iff_not, Bool.not_eq_true', Bool.not_eq_false', Bool.true_and, Bool.and_true, beq_true, beq_false, Int.toNat_natCast, Int.ofNat_lt, Int.ofNat_le, Nat.zero_add, Nat.add_zero, imp_self, Bool.cond_false_right, Bool.cond_true_left, Bool.cond_true_right, IsF, rdF_eq, fOf, AV.f.injEq, exists_eq', free_list, free_fn0, List.not_mem_nil, List.mem_cons, false_imp, forall_eq, or_false, free_i, free_f, free_b, ren_f, ren_i, ren_b, and_self, bne_iff_ne, bne_eq_false_iff_eq, ne_eq, Int.natCast_inj, or_true, true_or, freeB_list, unfr_f, unfr_i, unfr_b, unfr_c, unfr_s, free_c, free_s, ren_c, ren_s, unfr_ro, unfr_rptr, ren_ro, free_ll, free_box, kill_f, kill_i, kill_b, kill_c, kill_s, kill_rof, kill_rot, Int.toNat_zero, isFF_ll, rowN_ll, rowX_ll, AllFree, Option.some.injEq, Prod.mk.injEq, Bool.false_eq_true, Bool.true_eq_false, thenA]
      (repeat' first | with_reducible assumption | with_reducible apply And.intro | with_reducible intro hh) <;> first | ((first | with_reducible show (_ : Int) ≤ _ | with_reducible show (_ : Int) < _ | with_reducible show (_ : Nat) ≤ _ | with_reducible show (_ : Nat) < _ | with_reducible show (_ : Int) = _ | with_reducible show (_ : Nat) = _ | with_reducible show ¬ _ | with_reducible show _ ≠ _) <;> first | omega | (simp only [Bool.and_eq_true, Bool.or_eq_false_iff, Bool.not_eq_false', Bool.not_eq_true', decide_eq_true_eq, decide_eq_false_iff_not] at *; omega) | (with_reducible assumption)) | (with_reducible assumption) | skip
      refine AW.exec ttok (CTok.nil _) (by cbv) ?_
      simp only [natCast_int, Post, All, thenA, canon0, canon064, and_true, true_and, forall_const, implies_true, decide_eq_true_eq, decide_eq_false_iff_not, Bool.not_eq_true', Bool.not_eq_false', Bool.true_and, Bool.and_true, beq_true, beq_false, Int.toNat_natCast, Int.ofNat_lt, Int.ofNat_le, Nat.zero_add, Nat.add_zero, imp_self, Bool.cond_false_right, Bool.cond_true_left, Bool.cond_true_right, IsF, rdF_eq, fOf, AV.f.injEq, exists_eq', free_list, free_fn0, List.not_mem_nil, List.mem_cons, false_imp, forall_eq, or_false, free_i, free_f, free_b, ren_f, ren_i, ren_b, and_self, bne_iff_ne, bne_eq_false_iff_eq, ne_eq, Int.natCast_inj, or_true, true_or, freeB_list, unfr_f, unfr_i, unfr_b, unfr_c, unfr_s, free_c, free_s, ren_c, ren_s, unfr_ro, unfr_rptr, ren_ro, free_ll, free_box, kill_f, kill_i, kill_b, kill_c, kill_s, kill_rof, kill_rot, Int.toNat_zero, isFF_ll, rowN_ll, rowX_ll, AllFree, Option.some.injEq, Prod.mk.injEq, Bool.false_eq_true, Bool.true_eq_false, thenA]
      (repeat' first | with_reducible assumption | with_reducible apply And.intro | with_reducible intro hh) <;> first | ((first | with_reducible show (_ : Int) ≤ _ | with_reducible show (_ : Int) < _ | with_reducible show (_ : Nat) ≤ _ | with_reducible show (_ : Nat) < _ | with_reducible show (_ : Int) = _ | with_reducible show (_ : Nat) = _ | with_reducible show ¬ _ | with_reducible show _ ≠ _) <;> first | omega | (simp only [Bool.and_eq_true, Bool.or_eq_false_iff, Bool.not_eq_false', Bool.not_eq_true', decide_eq_true_eq, decide_eq_false_iff_not] at *; omega) | (with_reducible assumption)) | (with_reducible assumption) | skip
      refine ⟨i + 1, by omega, by omega, ?_⟩
      rw [hc]
      refine To.same (Nat.zero_le _) same3 ?_
      refine allTo_mkE rfl ?_
      (repeat' first | exact trivial | refine And.intro ?_ ?_) <;> first | exact AvTo.i rfl | exact AvTo.f rfl | exact AvTo.b rfl | exact AvTo.own rfl rfl rfl rfl | exact Free.same (.ro fun _ _ _ _ => .i) | trace_state
    · rw [Bool.not_eq_true] at hI
      rw [hI]
      rw [hI, if_neg (by decide)] at hc
      refine AW.exec ttok (CTok.nil _) (by cbv) ?_
      simp only [natCast_int, Post, All, thenA, canon0, canon064, and_true, true_and, forall_const, implies_true, decide_eq_true_eq, decide_eq_false_iff_not, Bool.not_eq_true', Bool.not_eq_false', Bool.true_and, Bool.and_true, beq_true, beq_false, Int.toNat_natCast, Int.ofNat_lt, Int.ofNat_le, Nat.zero_add, Nat.add_zero, imp_self, Bool.cond_false_right, Bool.cond_true_left, Bool.cond_true_right, IsF, rdF_eq, fOf, AV.f.injEq, exists_eq', free_list, free_fn0, List.not_mem_nil, List.mem_cons, false_imp, forall_eq, or_false, free_i, free_f, free_b, ren_f, ren_i, ren_b, and_self, bne_iff_ne, bne_eq_false_iff_eq, ne_eq, Int.natCast_inj, or_true, true_or, freeB_list, unfr_f, unfr_i, unfr_b, unfr_c, unfr_s, free_c, free_s, ren_c, ren_s, unfr_ro, unfr_rptr, ren_ro, free_ll, free_box, kill_f, kill_i, kill_b, kill_c, kill_s, kill_rof, kill_rot, Int.toNat_zero, isFF_ll, rowN_ll, rowX_ll, AllFree, Option.some.injEq, Prod.mk.injEq, Bool.false_eq_true, Bool.true_eq_false, thenA]
      (repeat' first | with_reducible assumption | with_reducible apply And.intro | with_reducible intro hh) <;> first | ((first | with_reducible show (_ : Int) ≤ _ | with_reducible show (_ : Int) < _ | with_reducible show (_ : Nat) ≤ _ | with_reducible show (_ : Nat) < _ | with_reducible show (_ : Int) = _ | with_reducible show (_ : Nat) = _ | with_reducible show ¬ _ | with_reducible show _ ≠ _) <;> first | omega | (simp only [Bool.and_eq_true, Bool.or_eq_false_iff, Bool.not_eq_false', Bool.not_eq_true', decide_eq_true_eq, decide_eq_false_iff_not] at *; omega) | (with_reducible assumption)) | (with_reducible assumption) | skip
      refine AW.exec ttok (CTok.nil _) (by cbv) ?_
      simp only [natCast_int, Post, All, thenA, canon0, canon064, and_true, true_and, forall_const, implies_true, decide_eq_true_eq, decide_eq_false_iff_not, Bool.not_eq_true', Bool.not_eq_false', Bool.true_and, Bool.and_true, beq_true, beq_false, Int.toNat_natCast, Int.ofNat_lt, Int.ofNat_le, Nat.zero_add, Nat.add_zero, imp_self, Bool.cond_false_right, Bool.cond_true_left, Bool.cond_true_right, IsF, rdF_eq, fOf, AV.f.injEq, exists_eq', free_list, free_fn0, List.not_mem_nil, List.mem_cons, false_imp, forall_eq, or_false, free_i, free_f, free_b, ren_f, ren_i, ren_b, and_self, bne_iff_ne, bne_eq_false_iff_eq, ne_eq, Int.natCast_inj, or_true, true_or, freeB_list, unfr_f, unfr_i, unfr_b, unfr_c, unfr_s, free_c, free_s, ren_c, ren_s, unfr_ro, unfr_rptr, ren_ro, free_ll, free_box, kill_f, kill_i, kill_b, kill_c, kill_s, kill_rof, kill_rot, Int.toNat_zero, isFF_ll, rowN_ll, rowX_ll, AllFree, Option.some.injEq, Prod.mk.injEq, Bool.false_eq_true, Bool.true_eq_false, thenA]
      (repeat' first | with_reducible assumption | with_reducible apply And.intro | with_reducible intro hh) <;> first | ((first | with_reducible show (_ : Int) ≤ _ | with_reducible show (_ : Int) < _ | with_reducible show (_ : Nat) ≤ _ | with_reducible show (_ : Nat) < _ | with_reducible show (_ : Int) = _ | with_reducible show (_ : Nat) = _ | with_reducible show ¬ _ | with_reducible show _ ≠ _) <;> first | omega | (simp only [Bool.and_eq_true, Bool.or_eq_false_iff, Bool.not_eq_false', Bool.not_eq_true', decide_eq_true_eq, decide_eq_false_iff_not] at *; omega) | (with_reducible assumption)) | (with_reducible assumption) | skip
      refine ⟨i + 1, by omega, by omega, ?_⟩
      rw [hc]
      refine To.same (Nat.zero_le _) same3 ?_
      refine allTo_mkE rfl ?_
      (repeat' first | exact trivial | refine And.intro ?_ ?_) <;> first | exact AvTo.i rfl | exact AvTo.f rfl | exact AvTo.b rfl | exact AvTo.own rfl rfl rfl rfl | exact Free.same (.ro fun _ _ _ _ => .i) | trace_state
  · have he : cntP x bar i i = (mkL x bar (i - 1)).length := by unfold cntP; rw [Nat.min_eq_right (by omega)]
    refine AW.seq (AW.seq (AW.exec ttok (CTok.nil _) (by cbv) ?_))
    simp only [natCast_int, Post, All, thenA, canon0, canon064, and_true, true_and, forall_const, implies_true, decide_eq_true_eq, decide_eq_false_iff_not, Bool.not_eq_true', Bool.not_eq_false', Bool.true_and, Bool.and_true, beq_true, beq_false, Int.toNat_natCast, Int.ofNat_lt, Int.ofNat_le, Nat.zero_add, Nat.add_zero, imp_self, Bool.cond_false_right, Bool.cond_true_left, Bool.cond_true_right, IsF, rdF_eq, fOf, AV.f.injEq, exists_eq', free_list, free_fn0, List.not_mem_nil, List.mem_cons, false_imp, forall_eq, or_false, free_i, free_f, free_b, ren_f, ren_i, ren_b, and_self, bne_iff_ne, bne_eq_false_iff_eq, ne_eq, Int.natCast_inj, or_true, true_or, freeB_list, unfr_f, unfr_i, unfr_b, unfr_c, unfr_s, free_c, free_s, ren_c, ren_s, unfr_ro, unfr_rptr, ren_ro, free_ll, free_box, kill_f, kill_i, kill_b, kill_c, kill_s, kill_rof, kill_rot, Int.toNat_zero, isFF_ll, rowN_ll, rowX_ll, AllFree, Option.some.injEq, Prod.mk.injEq, Bool.false_eq_true, Bool.true_eq_false, thenA]
    refine AW.cond rfl (fun hf => ?_) fun _ => AW.exit ?_
    · exfalso
      have hf := of_decide_eq_true hf
      omega
    simp only [thenA]
    obtain ⟨rfl⟩ := hQ
    refine Post.eval (by cbv) ?_
    simp only [natCast_int, Post, All, thenA, canon0, canon064, and_true, true_and, forall_const, implies_true, decide_eq_true_eq, decide_eq_false_iff_not, Bool.not_eq_true', Bool.not_eq_false', Bool.true_and, Bool.and_true, beq_true, beq_false, Int.toNat_natCast, Int.ofNat_lt, Int.ofNat_le, Nat.zero_add, Nat.add_zero, imp_self, Bool.cond_false_right, Bool.cond_true_left, Bool.cond_true_right, IsF, rdF_eq, fOf, AV.f.injEq, exists_eq', free_list, free_fn0, List.not_mem_nil, List.mem_cons, false_imp, forall_eq, or_false, free_i, free_f, free_b, ren_f, ren_i, ren_b, and_self, bne_iff_ne, bne_eq_false_iff_eq, ne_eq, Int.natCast_inj, or_true, true_or, freeB_list, unfr_f, unfr_i, unfr_b, unfr_c, unfr_s, free_c, free_s, ren_c, ren_s, unfr_ro, unfr_rptr, ren_ro, free_ll, free_box, kill_f, kill_i, kill_b, kill_c, kill_s, kill_rof, kill_rot, Int.toNat_zero, isFF_ll, rowN_ll, rowX_ll, AllFree, Option.some.injEq, Prod.mk.injEq, Bool.false_eq_true, Bool.true_eq_false, thenA, he]
    refine AW.via ?_ (mk13 h hv hby hR h0 h2 hn2 hb2)
    refine To.pick [0, 1] (by decide) (Nat.zero_le _) (fun j hj => absurd hj (Nat.not_lt_zero _)) ⟨.list (fun e => e) (Nat.le_refl _) fun j hj => AvTo.f rfl, .list (fun e => e) (Nat.le_refl _) fun j hj => AvTo.i rfl, trivial⟩ ?_
    refine allTo_mkE rfl ?_
    (repeat' first | exact trivial | refine And.intro ?_ ?_) <;> first | exact AvTo.i rfl | exact AvTo.f rfl | exact AvTo.b rfl | exact AvTo.own rfl rfl rfl rfl | exact Free.same (.ro fun _ _ _ _ => .i) | trace_state
end Marks
end Go.Proofs.Ytfdmmbcjidkmoaa
