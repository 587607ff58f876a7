/- The loops over the means and over the list, walked. -/
import Derived.Test.YthfgigndipjbjaaVd
set_option linter.unusedSimpArgs false
set_option linter.unusedVariables false
namespace Go.Proofs.Ythfgigndipjbjaa
open Go.Aw
set_option maxHeartbeats 4000000 in
set_option maxRecDepth 100000 in
theorem sm20 {N : Nat} {x : Nat → Nat} {d : Int} {n2 : Nat} {b2 : Nat → Int} (h : Smooth N x d) (hd : atV n2 b2 1 5 - 2 = d) (hn2 : n2 ≤ 1048576) (hb2 : ∀ k, k < n2 → 0 ≤ b2 k ∧ b2 k < 256) : AW Try.prog 0 (tl 20 bodySm) (finA tt Try.f3 (.b fun _ => true) [] 0) (mkE Try.f3.ntmps [(1, listB (fun _ => n2) b2), (5, .i .i64 fun _ => (N : Int)), (6, .own 0 (fun _ => 0) (fun _ => N) 1), (7, .own 1 (fun _ => 0) (fun _ => N) 1), (13, .own 2 (fun _ => 0) (fun _ => N) 1), (25, .f .f64 fun _ => sum64 x N), (26, .f .f64 fun _ => sq64 (normX N x) N), (27, .f .f64 fun _ => most64 (overX x (mostN x N)) N)])
    [blkF true (fun _ => N) x, blkF true (fun _ => N) lineS, blkF true (fun _ => N) (meanX N x N)] := by
  have h5 := h.n5
  have h20 := h.n20
  refine AW.seq ?_
  refine AW.exec ttok ctSm_ok (by cbv) ?_
  simp only [natCast_int, Post, All, thenA, canon0, canon064, and_true, true_and, forall_const, implies_true, decide_eq_true_eq, decide_eq_false_iff_not, Bool.not_eq_true', Bool.not_eq_false', Bool.true_and, Bool.and_true, beq_true, beq_false, Int.toNat_natCast, Int.ofNat_lt, Int.ofNat_le, Nat.zero_add, Nat.add_zero, imp_self, Bool.cond_false_right, Bool.cond_true_left, Bool.cond_true_right, IsF, rdF_eq, fOf, AV.f.injEq, exists_eq', free_list, free_fn0, List.not_mem_nil, List.mem_cons, false_imp, forall_eq, or_false, free_i, free_f, free_b, ren_f, ren_i, ren_b, and_self, bne_iff_ne, bne_eq_false_iff_eq, ne_eq, Int.natCast_inj, or_true, true_or, freeB_list, unfr_f, unfr_i, unfr_b, unfr_c, unfr_s, free_c, free_s, ren_c, ren_s, unfr_ro, unfr_rptr, ren_ro, free_ll, free_box, kill_f, kill_i, kill_b, kill_c, kill_s, kill_rof, kill_rot, Int.toNat_zero, isFF_ll, rowN_ll, rowX_ll, AllFree, Option.some.injEq, Prod.mk.injEq, Bool.false_eq_true, Bool.true_eq_false]
  (repeat' first | with_reducible assumption | with_reducible apply And.intro | with_reducible intro hh) <;> first | ((first | with_reducible show (_ : Int) ≤ _ | with_reducible show (_ : Int) < _ | with_reducible show (_ : Nat) ≤ _ | with_reducible show (_ : Nat) < _ | with_reducible show (_ : Int) = _ | with_reducible show (_ : Nat) = _ | with_reducible show ¬ _ | with_reducible show _ ≠ _) <;> first | omega | (simp only [Bool.and_eq_true, Bool.or_eq_false_iff, Bool.not_eq_false', Bool.not_eq_true', decide_eq_true_eq, decide_eq_false_iff_not] at *; omega) | (with_reducible assumption)) | (with_reducible assumption) | skip
  refine AW.loopH (ι := Nat) (fun i => i ≤ N) (fun i => N - i) (fun i => mkE Try.f3.ntmps [(1, listB (fun _ => n2) b2), (5, .i .i64 fun _ => (N : Int)), (6, .own 0 (fun _ => 0) (fun _ => N) 1), (7, .own 1 (fun _ => 0) (fun _ => N) 1), (13, .own 2 (fun _ => 0) (fun _ => N) 1), (25, .f .f64 fun _ => sum64 x N), (26, .f .f64 fun _ => sq64 (normX N x) N), (27, .f .f64 fun _ => most64 (overX x (mostN x N)) N), (259, .i .i64 fun _ => (N : Int)), (260, .i .i64 fun _ => (i : Int))])
    (fun _ => [blkF true (fun _ => N) x, blkF true (fun _ => N) lineS, blkF true (fun _ => N) (meanX N x N)]) 0 (Nat.zero_le _) (To.same (Nat.zero_le _) ⟨EntTo.list (fun e => e) (Nat.le_refl _) fun j hj => AvTo.f rfl, EntTo.list (fun e => e) (Nat.le_refl _) fun j hj => AvTo.f rfl, EntTo.list (fun e => e) (Nat.le_refl _) fun j hj => AvTo.f rfl, trivial⟩ ?_) ?_
  · (repeat' first | exact AllTo.nil | apply AllTo.cons) <;> first | exact AvTo.dead _ | exact AvTo.i rfl | exact AvTo.f rfl | exact AvTo.b rfl | exact AvTo.own rfl rfl rfl rfl | exact Free.same (.ro fun _ _ _ _ => .i) | trace_state
  rintro Q' hQ i hi
  rcases Nat.lt_or_eq_of_le hi with hl | rfl
  · have k4 := h.c4 i hl
    have u6 : (-9223372036854775808 ≤ (N : Int)) ↔ True := iff_true_intro (by omega)
    have u7 : ((N : Int) ≤ 9223372036854775807) ↔ True := iff_true_intro (by omega)
    simp only [wd] at k4
    refine AW.exec ttok ctSm_ok (by cbv) ?_
    simp only [natCast_int, Post, All, thenA, canon0, canon064, and_true, true_and, forall_const, implies_true, decide_eq_true_eq, decide_eq_false_iff_not, Bool.not_eq_true', Bool.not_eq_false', Bool.true_and, Bool.and_true, beq_true, beq_false, Int.toNat_natCast, Int.ofNat_lt, Int.ofNat_le, Nat.zero_add, Nat.add_zero, imp_self, Bool.cond_false_right, Bool.cond_true_left, Bool.cond_true_right, IsF, rdF_eq, fOf, AV.f.injEq, exists_eq', free_list, free_fn0, List.not_mem_nil, List.mem_cons, false_imp, forall_eq, or_false, free_i, free_f, free_b, ren_f, ren_i, ren_b, and_self, bne_iff_ne, bne_eq_false_iff_eq, ne_eq, Int.natCast_inj, or_true, true_or, freeB_list, unfr_f, unfr_i, unfr_b, unfr_c, unfr_s, free_c, free_s, ren_c, ren_s, unfr_ro, unfr_rptr, ren_ro, free_ll, free_box, kill_f, kill_i, kill_b, kill_c, kill_s, kill_rof, kill_rot, Int.toNat_zero, isFF_ll, rowN_ll, rowX_ll, AllFree, Option.some.injEq, Prod.mk.injEq, Bool.false_eq_true, Bool.true_eq_false, hl, cncent, k4, u6, u7]
    (repeat' first | with_reducible assumption | with_reducible apply And.intro | with_reducible intro hh) <;> first | ((first | with_reducible show (_ : Int) ≤ _ | with_reducible show (_ : Int) < _ | with_reducible show (_ : Nat) ≤ _ | with_reducible show (_ : Nat) < _ | with_reducible show (_ : Int) = _ | with_reducible show (_ : Nat) = _ | with_reducible show ¬ _ | with_reducible show _ ≠ _) <;> first | omega | (simp only [Bool.and_eq_true, Bool.or_eq_false_iff, Bool.not_eq_false', Bool.not_eq_true', decide_eq_true_eq, decide_eq_false_iff_not] at *; omega) | (with_reducible assumption)) | (with_reducible assumption) | skip
    · refine ⟨i + 1, by omega, by omega, To.same (Nat.zero_le _) ⟨EntTo.list (fun e => e) (Nat.le_refl _) fun j hj => AvTo.f rfl, EntTo.list (fun e => e) (Nat.le_refl _) fun j hj => AvTo.f rfl, EntTo.list (fun e => e) (Nat.le_refl _) fun j hj => AvTo.f rfl, trivial⟩ ?_⟩
      (repeat' first | exact AllTo.nil | apply AllTo.cons) <;> first | exact AvTo.dead _ | exact AvTo.i rfl | exact AvTo.f rfl | exact AvTo.b rfl | exact AvTo.own rfl rfl rfl rfl | exact Free.same (.ro fun _ _ _ _ => .i) | trace_state
    all_goals first | exact absurd trivial hh | trace_state
  · refine AW.seq (AW.exec ttok (CTok.nil _) (by cbv) ?_)
    simp only [natCast_int, Post, All, thenA, canon0, canon064, and_true, true_and, forall_const, implies_true, decide_eq_true_eq, decide_eq_false_iff_not, Bool.not_eq_true', Bool.not_eq_false', Bool.true_and, Bool.and_true, beq_true, beq_false, Int.toNat_natCast, Int.ofNat_lt, Int.ofNat_le, Nat.zero_add, Nat.add_zero, imp_self, Bool.cond_false_right, Bool.cond_true_left, Bool.cond_true_right, IsF, rdF_eq, fOf, AV.f.injEq, exists_eq', free_list, free_fn0, List.not_mem_nil, List.mem_cons, false_imp, forall_eq, or_false, free_i, free_f, free_b, ren_f, ren_i, ren_b, and_self, bne_iff_ne, bne_eq_false_iff_eq, ne_eq, Int.natCast_inj, or_true, true_or, freeB_list, unfr_f, unfr_i, unfr_b, unfr_c, unfr_s, free_c, free_s, ren_c, ren_s, unfr_ro, unfr_rptr, ren_ro, free_ll, free_box, kill_f, kill_i, kill_b, kill_c, kill_s, kill_rof, kill_rot, Int.toNat_zero, isFF_ll, rowN_ll, rowX_ll, AllFree, Option.some.injEq, Prod.mk.injEq, Bool.false_eq_true, Bool.true_eq_false]
    refine AW.seq (AW.cond rfl (fun h => absurd (of_decide_eq_true h) (Nat.lt_irrefl _)) fun _ => AW.exit ?_)
    simp only [thenA]
    obtain ⟨rfl⟩ := hQ
    refine Post.eval (by cbv) ?_
    simp only [natCast_int, Post, All, thenA, canon0, canon064, and_true, true_and, forall_const, implies_true, decide_eq_true_eq, decide_eq_false_iff_not, Bool.not_eq_true', Bool.not_eq_false', Bool.true_and, Bool.and_true, beq_true, beq_false, Int.toNat_natCast, Int.ofNat_lt, Int.ofNat_le, Nat.zero_add, Nat.add_zero, imp_self, Bool.cond_false_right, Bool.cond_true_left, Bool.cond_true_right, IsF, rdF_eq, fOf, AV.f.injEq, exists_eq', free_list, free_fn0, List.not_mem_nil, List.mem_cons, false_imp, forall_eq, or_false, free_i, free_f, free_b, ren_f, ren_i, ren_b, and_self, bne_iff_ne, bne_eq_false_iff_eq, ne_eq, Int.natCast_inj, or_true, true_or, freeB_list, unfr_f, unfr_i, unfr_b, unfr_c, unfr_s, free_c, free_s, ren_c, ren_s, unfr_ro, unfr_rptr, ren_ro, free_ll, free_box, kill_f, kill_i, kill_b, kill_c, kill_s, kill_rof, kill_rot, Int.toNat_zero, isFF_ll, rowN_ll, rowX_ll, AllFree, Option.some.injEq, Prod.mk.injEq, Bool.false_eq_true, Bool.true_eq_false, thenA]
    refine AW.via ?_ (sm21 h hd hn2 hb2)
    refine To.pick [0, 1] (by decide) (Nat.zero_le _) (fun j hj => absurd hj (Nat.not_lt_zero _)) ⟨EntTo.list (fun e => e) (Nat.le_refl _) fun j hj => AvTo.f rfl, EntTo.list (fun e => e) (Nat.le_refl _) fun j hj => AvTo.f rfl, trivial⟩ ?_
    (repeat' first | exact AllTo.nil | apply AllTo.cons) <;> first | exact AvTo.dead _ | exact AvTo.i rfl | exact AvTo.f rfl | exact AvTo.b rfl | exact AvTo.own rfl rfl rfl rfl | exact Free.same (.ro fun _ _ _ _ => .i) | trace_state
/-- A line of operations in two parts (the evaluator's memory grows with the square of a line's length). -/
theorem arunV_cat (k : Nat) {tt : TT} {ct : CT} {ops : Array Oper} : ∀ {l : List Oper} {env e1 e2 : List AV} {H H1 H2 : Heap} {ks1 ks2 : List Nat} {ps1 ps2 : List (Th Prop)}, arunV tt ct ops (l.take k) env H = some (e1, H1, ks1, ps1) → arunV tt ct ops (l.drop k) e1 H1 = some (e2, H2, ks2, ps2) →
    arunV tt ct ops l env H = some (e2, H2, ks1 ++ ks2, ps1 ++ ps2) := by
  have key : ∀ {l1 l2 : List Oper} {env e1 e2 : List AV} {H H1 H2 : Heap} {ks1 ks2 : List Nat} {ps1 ps2 : List (Th Prop)}, arunV tt ct ops l1 env H = some (e1, H1, ks1, ps1) → arunV tt ct ops l2 e1 H1 = some (e2, H2, ks2, ps2) →
      arunV tt ct ops (l1 ++ l2) env H = some (e2, H2, ks1 ++ ks2, ps1 ++ ps2) := by
    intro l1
    induction l1 with
    | nil =>
      intro l2 env e1 e2 H H1 H2 ks1 ks2 ps1 ps2 h1 h2
      cases h1
      exact h2
    | cons o l1 ih =>
      intro l2 env e1 e2 H H1 H2 ks1 ks2 ps1 ps2 h1 h2
      simp only [arunV, List.cons_append] at h1 ⊢
      split at h1 <;> first | (cases h1; done) | skip
      rename_i r H' p k' hs
      split at h1 <;> cases h1
      rename_i e h ks ps hr
      rw [ih hr h2]
      rfl
  intro l env e1 e2 H H1 H2 ks1 ks2 ps1 ps2 h1 h2
  have := key h1 h2
  rw [List.take_append_drop] at this
  exact this
/-- A part of code: 0 and 1, the parts of a sequence; 2, what stands in a block or a loop. -/
def nav : List Nat → Code → Code
  | [], c => c
  | 0 :: l, .seq a _ => nav l a
  | 1 :: l, .seq _ b => nav l b
  | 2 :: l, .block _ c => nav l c
  | 2 :: l, .loop c => nav l c
  | _, c => c
set_option maxHeartbeats 4000000 in
set_option maxRecDepth 100000 in
theorem sm30 {N : Nat} {x : Nat → Nat} {d : Int} {n2 : Nat} {b2 : Nat → Int} {sA sB sC : Nat} (h : Smooth N x d) {i : Nat} (hl : i < N) : AW Try.prog 0 (nav [0, 1, 2, 2, 1, 1, 0, 2, 1, 1, 1, 1, 0] (tl 19 bodySm)) (fun q e H => q = .normal ∧ To 0 e H (mkE Try.f3.ntmps [(1, listB (fun _ => n2) b2), (5, .i .i64 fun _ => (N : Int)), (6, .own 0 (fun _ => 0) (fun _ => N) 1), (7, .own 1 (fun _ => 0) (fun _ => N) 1), (9, .own 2 (fun _ => 0) (fun _ => N) 1), (13, .own 3 (fun _ => 0) (fun _ => N) 1), (15, .own 4 (fun _ => 0) (fun _ => N) 1), (19, .own 5 (fun _ => 0) (fun _ => N) 1), (21, .own 6 (fun _ => 0) (fun _ => N) 1), (23, .own 7 (fun _ => 0) (fun _ => N) 1), (25, .f .f64 fun _ => sA), (26, .f .f64 fun _ => sB), (27, .f .f64 fun _ => sC), (182, .i .i64 fun _ => (N : Int)), (183, .i .i64 fun _ => (i : Int)), (256, .b fun _ => false)])
    [blkF true (fun _ => N) x, blkF true (fun _ => N) lineS, blkF true (fun _ => N) (curveX N lineS), blkF true (fun _ => N) (meanX N x N), blkF true (fun _ => N) (baseN N x 3), blkF true (fun _ => N) (lessX N x 3), blkF true (fun _ => N) (normX N x), blkF true (fun _ => N) (overX x (mostN x N))]) (mkE Try.f3.ntmps [(1, listB (fun _ => n2) b2), (5, .i .i64 fun _ => (N : Int)), (6, .own 0 (fun _ => 0) (fun _ => N) 1), (7, .own 1 (fun _ => 0) (fun _ => N) 1), (9, .own 2 (fun _ => 0) (fun _ => N) 1), (13, .own 3 (fun _ => 0) (fun _ => N) 1), (15, .own 4 (fun _ => 0) (fun _ => N) 1), (19, .own 5 (fun _ => 0) (fun _ => N) 1), (21, .own 6 (fun _ => 0) (fun _ => N) 1), (23, .own 7 (fun _ => 0) (fun _ => N) 1), (25, .f .f64 fun _ => sA), (26, .f .f64 fun _ => sB), (27, .f .f64 fun _ => sC), (28, .i .i64 fun _ => (i : Int)), (182, .i .i64 fun _ => (N : Int)), (183, .i .i64 fun _ => (i : Int))])
    [blkF true (fun _ => N) x, blkF true (fun _ => N) lineS, blkF true (fun _ => N) (curveX N lineS), blkF true (fun _ => N) (meanX N x N), blkF true (fun _ => N) (baseN N x 3), blkF true (fun _ => N) (lessX N x 3), blkF true (fun _ => N) (normX N x), blkF true (fun _ => N) (overX x (mostN x N))] := by
  have h5 := h.n5
  have h20 := h.n20
  have k1 := h.c1 i hl
  have k2 := h.c2 i hl
  have k3 := h.c3 i hl
  simp only [wd] at k1 k3
  refine AW.drawnA ttok ctSm_ok (arunV_cat 11 (by cbv) (arunV_cat 11 (by cbv) (arunV_cat 11 (by cbv) (by cbv)))) (by kernel_rfl) ?_ ?_
  · simp only [natCast_int, Post, All, thenA, canon0, canon064, and_true, true_and, forall_const, implies_true, decide_eq_true_eq, decide_eq_false_iff_not, Bool.not_eq_true', Bool.not_eq_false', Bool.true_and, Bool.and_true, beq_true, beq_false, Int.toNat_natCast, Int.ofNat_lt, Int.ofNat_le, Nat.zero_add, Nat.add_zero, imp_self, Bool.cond_false_right, Bool.cond_true_left, Bool.cond_true_right, IsF, rdF_eq, fOf, AV.f.injEq, exists_eq', free_list, free_fn0, List.not_mem_nil, List.mem_cons, false_imp, forall_eq, or_false, free_i, free_f, free_b, ren_f, ren_i, ren_b, and_self, bne_iff_ne, bne_eq_false_iff_eq, ne_eq, Int.natCast_inj, or_true, true_or, freeB_list, unfr_f, unfr_i, unfr_b, unfr_c, unfr_s, free_c, free_s, ren_c, ren_s, unfr_ro, unfr_rptr, ren_ro, free_ll, free_box, kill_f, kill_i, kill_b, kill_c, kill_s, kill_rof, kill_rot, Int.toNat_zero, isFF_ll, rowN_ll, rowX_ll, AllFree, Option.some.injEq, Prod.mk.injEq, Bool.false_eq_true, Bool.true_eq_false, thenA, List.cons_append, List.nil_append, hl, cnmil, k1, k2, k3]
    (repeat' first | with_reducible assumption | with_reducible apply And.intro | with_reducible intro hh) <;> first | ((first | with_reducible show (_ : Int) ≤ _ | with_reducible show (_ : Int) < _ | with_reducible show (_ : Nat) ≤ _ | with_reducible show (_ : Nat) < _ | with_reducible show (_ : Int) = _ | with_reducible show (_ : Nat) = _ | with_reducible show ¬ _ | with_reducible show _ ≠ _) <;> first | omega | (simp only [Bool.and_eq_true, Bool.or_eq_false_iff, Bool.not_eq_false', Bool.not_eq_true', decide_eq_true_eq, decide_eq_false_iff_not] at *; omega) | (with_reducible assumption)) | (with_reducible assumption) | skip
  simp only [natCast_int, Post, All, thenA, canon0, canon064, and_true, true_and, forall_const, implies_true, decide_eq_true_eq, decide_eq_false_iff_not, Bool.not_eq_true', Bool.not_eq_false', Bool.true_and, Bool.and_true, beq_true, beq_false, Int.toNat_natCast, Int.ofNat_lt, Int.ofNat_le, Nat.zero_add, Nat.add_zero, imp_self, Bool.cond_false_right, Bool.cond_true_left, Bool.cond_true_right, IsF, rdF_eq, fOf, AV.f.injEq, exists_eq', free_list, free_fn0, List.not_mem_nil, List.mem_cons, false_imp, forall_eq, or_false, free_i, free_f, free_b, ren_f, ren_i, ren_b, and_self, bne_iff_ne, bne_eq_false_iff_eq, ne_eq, Int.natCast_inj, or_true, true_or, freeB_list, unfr_f, unfr_i, unfr_b, unfr_c, unfr_s, free_c, free_s, ren_c, ren_s, unfr_ro, unfr_rptr, ren_ro, free_ll, free_box, kill_f, kill_i, kill_b, kill_c, kill_s, kill_rof, kill_rot, Int.toNat_zero, isFF_ll, rowN_ll, rowX_ll, AllFree, Option.some.injEq, Prod.mk.injEq, Bool.false_eq_true, Bool.true_eq_false, thenA, hl, cnmil, k1, k2, k3]
  refine To.same (Nat.zero_le _) ⟨EntTo.list (fun e => e) (Nat.le_refl _) fun j hj => AvTo.f rfl, EntTo.list (fun e => e) (Nat.le_refl _) fun j hj => AvTo.f rfl, EntTo.list (fun e => e) (Nat.le_refl _) fun j hj => AvTo.f rfl, EntTo.list (fun e => e) (Nat.le_refl _) fun j hj => AvTo.f rfl, EntTo.list (fun e => e) (Nat.le_refl _) fun j hj => AvTo.f rfl, EntTo.list (fun e => e) (Nat.le_refl _) fun j hj => AvTo.f rfl, EntTo.list (fun e => e) (Nat.le_refl _) fun j hj => AvTo.f rfl, EntTo.list (fun e => e) (Nat.le_refl _) fun j hj => AvTo.f rfl, trivial⟩ ?_
  (repeat' first | exact AllTo.nil | apply AllTo.cons) <;> first | exact AvTo.dead _ | exact AvTo.i rfl | exact AvTo.f rfl | exact AvTo.b rfl | exact AvTo.own rfl rfl rfl rfl | exact Free.same (.ro fun _ _ _ _ => .i) | trace_state
end Go.Proofs.Ythfgigndipjbjaa
