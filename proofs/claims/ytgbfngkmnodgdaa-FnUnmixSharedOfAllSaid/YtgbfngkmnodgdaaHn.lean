/- Mixtures unmixed by workers: both sides. -/
import Derived.Test.YtgbfngkmnodgdaaHm
set_option linter.unusedSimpArgs false
set_option linter.unusedVariables false
namespace Go.Proofs.Ytgbfngkmnodgdaa
open Go.Aw
def kWork : Kr
  | [.i .i64 w] => some (.b fun _ => decide (1 ≤ w .u) && decide (w .u ≤ 8), [], fun _ => True)
  | _ => none
def ctWork : CT := [(81, .r kIn)]
theorem ctWork_ok : CTok Try.prog ctWork := .cons within_tells (.nil _)
theorem areWorkers_tells : Tells Try.prog 46 (.r kWork) := by
  intro args r H' p hr hp
  unfold kWork at hr
  split at hr <;> cases hr
  refine ⟨.b, .nil, Con.of ttok Try.func46 rfl rfl (Nat.le_refl _) (AW.exec ttok ctWork_ok (by cbv) ?_)⟩
  simp only [natCast_int, Post, All, thenA, canon0, canon064, and_true, true_and, forall_const, implies_true, decide_eq_true_eq, decide_eq_false_iff_not, Bool.not_eq_true', Bool.not_eq_false', Bool.true_and, Bool.and_true, beq_true, beq_false, Int.toNat_natCast, Int.ofNat_lt, Int.ofNat_le, Nat.zero_add, Nat.add_zero, imp_self, Bool.cond_false_right, Bool.cond_true_left, Bool.cond_true_right, IsF, rdF_eq, fOf, AV.f.injEq, exists_eq', free_list, free_fn0, List.not_mem_nil, List.mem_cons, false_imp, forall_eq, or_false, free_i, free_f, free_b, ren_f, ren_i, ren_b, and_self, bne_iff_ne, bne_eq_false_iff_eq, ne_eq, Int.natCast_inj, or_true, true_or, freeB_list, unfr_f, unfr_i, unfr_b, unfr_c, unfr_s, free_c, free_s, ren_c, ren_s, unfr_ro, unfr_rptr, ren_ro, free_ll, free_box, kill_f, kill_i, kill_b, kill_c, kill_s, kill_rof, kill_rot, Int.toNat_zero, isFF_ll, rowN_ll, rowX_ll, AllFree, Option.some.injEq, Prod.mk.injEq, Bool.false_eq_true, Bool.true_eq_false]
  (repeat' first | with_reducible assumption | with_reducible apply And.intro | with_reducible intro hh) <;> first | ((first | with_reducible show (_ : Int) ≤ _ | with_reducible show (_ : Int) < _ | with_reducible show (_ : Nat) ≤ _ | with_reducible show (_ : Nat) < _ | with_reducible show (_ : Int) = _ | with_reducible show (_ : Nat) = _ | with_reducible show ¬ _ | with_reducible show _ ≠ _) <;> first | omega | (simp only [Bool.and_eq_true, Bool.or_eq_false_iff, Bool.not_eq_false', Bool.not_eq_true', decide_eq_true_eq, decide_eq_false_iff_not] at *; omega) | (with_reducible assumption)) | (with_reducible assumption) | skip
  exact fin_ret (.inl rfl) (by cbv) (by simp) (To.fresh ⟨.b rfl, trivial⟩)
def shX (n : Nat) (m : Nat → Nat) (x : Nat → Nat → Nat) (xm : Nat → Nat → Nat) (d : Int) (i : Nat) : Nat := unS n (m 0) (xm i) x d.toNat 0
def okOne (n : Nat) (m : Nat → Nat) (x : Nat → Nat → Nat) (mm : Nat → Nat) (xm : Nat → Nat → Nat) (d : Int) (i : Nat) : Bool := okUn n m x (mm i) (xm i) d
def preSh (nm : Nat) (w : Int) : Bool := decide (nm ≤ 8) && (decide (1 ≤ w) && decide (w ≤ 8))
def okSh (nm : Nat) (mm : Nat → Nat) (xm : Nat → Nat → Nat) (n : Nat) (m : Nat → Nat) (x : Nat → Nat → Nat) (d w : Int) : Bool := preSh nm w && allN (okOne n m x mm xm d) nm
theorem sh_pre {nm : Nat} {w : Int} : (decide ((8 : Int) < (nm : Int)) || !(decide (1 ≤ w) && decide (w ≤ 8))) = !preSh nm w := by
  rw [show decide ((8 : Int) < (nm : Int)) = !decide (nm ≤ 8) by rw [← decide_not]; exact decide_eq_decide.2 (by omega)]
  simp only [preSh]
  cases decide (nm ≤ 8) <;> cases (decide (1 ≤ w) && decide (w ≤ 8)) <;> rfl
theorem okUn_pos {n : Nat} {m : Nat → Nat} {x : Nat → Nat → Nat} {na : Nat} {a : Nat → Nat} {d : Int} (h : okUn n m x na a d = true) : 1 ≤ n := by
  simp only [okUn, Bool.and_eq_true] at h
  exact (areS_facts (canU_facts (preUn_facts h.1).1).1).1
def kSh : Kg
  | [lm, lb, .i .i64 d, .i .i64 w], [] => match asLLg lm, asLLg lb with
    | some (nm, gm), some (n, g) => some (ansL nm (shX (n .u) (rowN g) (rowX g) (rowX gm) (d .u)) (okSh (nm .u) (rowN gm) (rowX gm) (n .u) (rowN g) (rowX g) (d .u) (w .u)) ((IsFFg nm gm ∧ IsFFg n g) ∧ n .u ≤ 1048576))
    | _, _ => none
  | _, _ => none
def ctSpecSh : CT := [(44, .r kIn), (45, .g 0 kUn)]
theorem ctSpecSh_ok : CTok Try.prog ctSpecSh := .cons l00In_tells (.cons specUn (.nil _))
set_option maxHeartbeats 4000000 in
theorem specSh : Tells Try.prog 22 (.g 0 kSh) := by
  intro args Hc r hr
  unfold kSh at hr
  split at hr <;> first | (cases hr; done) | skip
  split at hr <;> cases hr
  rename_i d w _ _ nm gm n g hL hL'
  refine AnsOk.two ttok Try.func22 rfl rfl (Nat.zero_le _) (Nat.zero_le _) (allFr_tup2 .own .b) (allFr_tup2 .v .b) .list .nil fun hF => ⟨[listFF false nm (rowN gm) (rowX gm), listFF false n (rowN g) (rowX g), .i .i64 d, .i .i64 w], ⟨Sub.asLLg hL hF.1.1, Sub.asLLg hL' hF.1.2, Sub.refl _, Sub.refl _, trivial⟩, ?_⟩
  have hnm := hF.1.1.1
  have hn := hF.1.2.1
  have hn20 := hF.2
  have hmm := fun i => hF.1.1.row (i := i)
  have hm := fun i => hF.1.2.row (i := i)
  generalize rowN g = m at hm
  generalize rowX g = x
  generalize rowN gm = mm at hmm
  generalize rowX gm = xm
  have a1 := eq_true hm
  refine AW.exec ttok ctSpecSh_ok (by cbv) ?_
  simp only [natCast_int, Post, All, thenA, canon0, canon064, and_true, true_and, forall_const, implies_true, decide_eq_true_eq, decide_eq_false_iff_not, Bool.not_eq_true', Bool.not_eq_false', Bool.true_and, Bool.and_true, beq_true, beq_false, Int.toNat_natCast, Int.ofNat_lt, Int.ofNat_le, Nat.zero_add, Nat.add_zero, imp_self, Bool.cond_false_right, Bool.cond_true_left, Bool.cond_true_right, IsF, rdF_eq, fOf, AV.f.injEq, exists_eq', free_list, free_fn0, List.not_mem_nil, List.mem_cons, false_imp, forall_eq, or_false, free_i, free_f, free_b, ren_f, ren_i, ren_b, and_self, bne_iff_ne, bne_eq_false_iff_eq, ne_eq, Int.natCast_inj, or_true, true_or, freeB_list, unfr_f, unfr_i, unfr_b, unfr_c, unfr_s, free_c, free_s, ren_c, ren_s, unfr_ro, unfr_rptr, ren_ro, free_ll, free_box, kill_f, kill_i, kill_b, kill_c, kill_s, kill_rof, kill_rot, Int.toNat_zero, isFF_ll, rowN_ll, rowX_ll, AllFree, Option.some.injEq, Prod.mk.injEq, Bool.false_eq_true, Bool.true_eq_false, isFFg_ll, hn, hnm, a1]
  (repeat' first | with_reducible assumption | with_reducible apply And.intro | with_reducible intro hh) <;> first | ((first | with_reducible show (_ : Int) ≤ _ | with_reducible show (_ : Int) < _ | with_reducible show (_ : Nat) ≤ _ | with_reducible show (_ : Nat) < _ | with_reducible show (_ : Int) = _ | with_reducible show (_ : Nat) = _ | with_reducible show ¬ _ | with_reducible show _ ≠ _) <;> first | omega | (simp only [Bool.and_eq_true, Bool.or_eq_false_iff, Bool.not_eq_false', Bool.not_eq_true', decide_eq_true_eq, decide_eq_false_iff_not] at *; omega) | (with_reducible assumption)) | (with_reducible assumption) | skip
  · have hh := sh_pre.symm.trans ‹(_ || _) = true›
    rw [Bool.not_eq_true'] at hh
    exact okA.no (by simp only [okSh, hh, Bool.false_and]) (fin_ret (.inl rfl) (by cbv) (by simp) (To.fresh noL_to))
  have hp := sh_pre.symm.trans ‹(_ || _) = false›
  rw [Bool.not_eq_false'] at hp
  have hp8 : nm .u ≤ 8 := by
    have h3 := hp
    simp only [preSh, Bool.and_eq_true, decide_eq_true_eq] at h3
    exact h3.1
  refine AW.loopH (ι := Nat) (fun i => i ≤ nm .u ∧ ∀ j, j < i → okOne (n .u) m x mm xm (d .u) j = true) (fun i => nm .u - i) (fun i => mkE Try.f22.ntmps [(0, listFF false nm mm xm), (1, listFF false n m x), (2, .i .i64 d), (10, .own 0 (fun _ => 0) (fun _ => i) 1), (25, .i .i64 fun _ => (nm .u : Int)), (26, .i .i64 fun _ => (i : Int))])
    (fun i => [blkF true (fun _ => i) (shX (n .u) m x xm (d .u))]) 0 ⟨Nat.zero_le _, fun j hj => absurd hj (Nat.not_lt_zero _)⟩ (To.list (Nat.zero_le _) (Nat.le_refl _) (fun e => e) (fun j hj => absurd hj (Nat.not_lt_zero _)) ?_) ?_
  · (repeat' first | exact AllTo.nil | apply AllTo.cons) <;> first | exact AvTo.dead _ | exact AvTo.i rfl | exact AvTo.i (by omega) | exact AvTo.i (by simp only [natCast_int]; omega) | exact AvTo.f rfl | exact AvTo.own rfl rfl rfl rfl | exact AvTo.own rfl rfl rfl (by omega) | exact Free.same (free_ll.2 trivial) | exact Free.same .listF
  · rintro Q' hQ i ⟨hi, hx⟩
    have hmi := hmm i
    refine AW.exec ttok ctSpecSh_ok (by cbv) ?_
    simp only [natCast_int, Post, All, thenA, canon0, canon064, and_true, true_and, forall_const, implies_true, decide_eq_true_eq, decide_eq_false_iff_not, Bool.not_eq_true', Bool.not_eq_false', Bool.true_and, Bool.and_true, beq_true, beq_false, Int.toNat_natCast, Int.ofNat_lt, Int.ofNat_le, Nat.zero_add, Nat.add_zero, imp_self, Bool.cond_false_right, Bool.cond_true_left, Bool.cond_true_right, IsF, rdF_eq, fOf, AV.f.injEq, exists_eq', free_list, free_fn0, List.not_mem_nil, List.mem_cons, false_imp, forall_eq, or_false, free_i, free_f, free_b, ren_f, ren_i, ren_b, and_self, bne_iff_ne, bne_eq_false_iff_eq, ne_eq, Int.natCast_inj, or_true, true_or, freeB_list, unfr_f, unfr_i, unfr_b, unfr_c, unfr_s, free_c, free_s, ren_c, ren_s, unfr_ro, unfr_rptr, ren_ro, free_ll, free_box, kill_f, kill_i, kill_b, kill_c, kill_s, kill_rof, kill_rot, Int.toNat_zero, isFF_ll, rowN_ll, rowX_ll, AllFree, Option.some.injEq, Prod.mk.injEq, Bool.false_eq_true, Bool.true_eq_false, hn, hnm, isFFg_ll, a1, hn20, Bool.not_true, Bool.not_false, Bool.true_or, Bool.false_or, Bool.true_eq_false, Bool.false_eq_true]
    (repeat' first | with_reducible assumption | with_reducible apply And.intro | with_reducible intro hh) <;> first | ((first | with_reducible show (_ : Int) ≤ _ | with_reducible show (_ : Int) < _ | with_reducible show (_ : Nat) ≤ _ | with_reducible show (_ : Nat) < _ | with_reducible show (_ : Int) = _ | with_reducible show (_ : Nat) = _ | with_reducible show ¬ _ | with_reducible show _ ≠ _) <;> first | omega | (simp only [Bool.and_eq_true, Bool.or_eq_false_iff, Bool.not_eq_false', Bool.not_eq_true', decide_eq_true_eq, decide_eq_false_iff_not] at *; omega) | (with_reducible assumption)) | (with_reducible assumption) | skip
    all_goals try (have h4 := okUn_pos ‹okUn _ _ _ _ _ _ = true›; omega)
    · refine ⟨i + 1, ⟨by omega, lt_succ_all hx (by assumption)⟩, by omega, To.moved (k := 3) rfl (Nat.le_refl _) (fun e => e) (fun j hj => app_one hj (fun _ => AvTo.f rfl) fun e => AvTo.f (by rw [e]; rfl)) ?_⟩
      (repeat' first | exact AllTo.nil | apply AllTo.cons) <;> first | exact AvTo.dead _ | exact AvTo.i rfl | exact AvTo.i (by omega) | exact AvTo.i (by simp only [natCast_int]; omega) | exact AvTo.f rfl | exact AvTo.own rfl rfl rfl rfl | exact AvTo.own rfl rfl rfl (by omega) | exact Free.same (free_ll.2 trivial) | exact Free.same .listF
    · obtain ⟨rfl⟩ := hQ
      refine Post.leaf (by cbv) (okA.no ?_ (fin_ret (.inl rfl) (by cbv) (by simp) (To.fresh noL_to)))
      have hf : allN (okOne (n .u) m x mm xm (d .u)) (nm .u) = false := allN_false (j := i) (by omega) (by assumption)
      show okSh (nm .u) mm xm (n .u) m x (d .u) (w .u) = false
      simp only [okSh, hf, Bool.and_false]
    · obtain ⟨rfl⟩ := hQ
      refine Post.eval (by cbv) ?_
      have e : i = nm .u := by omega
      have hf : allN (okOne (n .u) m x mm xm (d .u)) (nm .u) = true := allN_true (e ▸ hx)
      simp only [natCast_int, Post, All, thenA, canon0, canon064, and_true, true_and, forall_const, implies_true, decide_eq_true_eq, decide_eq_false_iff_not, Bool.not_eq_true', Bool.not_eq_false', Bool.true_and, Bool.and_true, beq_true, beq_false, Int.toNat_natCast, Int.ofNat_lt, Int.ofNat_le, Nat.zero_add, Nat.add_zero, imp_self, Bool.cond_false_right, Bool.cond_true_left, Bool.cond_true_right, IsF, rdF_eq, fOf, AV.f.injEq, exists_eq', free_list, free_fn0, List.not_mem_nil, List.mem_cons, false_imp, forall_eq, or_false, free_i, free_f, free_b, ren_f, ren_i, ren_b, and_self, bne_iff_ne, bne_eq_false_iff_eq, ne_eq, Int.natCast_inj, or_true, true_or, freeB_list, unfr_f, unfr_i, unfr_b, unfr_c, unfr_s, free_c, free_s, ren_c, ren_s, unfr_ro, unfr_rptr, ren_ro, free_ll, free_box, kill_f, kill_i, kill_b, kill_c, kill_s, kill_rof, kill_rot, Int.toNat_zero, isFF_ll, rowN_ll, rowX_ll, AllFree, Option.some.injEq, Prod.mk.injEq, Bool.false_eq_true, Bool.true_eq_false, e]
      exact okA.yes (by show okSh (nm .u) mm xm (n .u) m x (d .u) (w .u) = true; simp only [okSh, hp, hf, Bool.and_self]) (fin_ret (.inl rfl) (by cbv) (by simp) (To.list (Nat.zero_le _) (Nat.le_refl _) (fun e => e) (fun j hj => AvTo.f rfl) yesL_to))
def ctImplSh : CT := [(46, .r kWork), (47, .g 0 kUn)]
theorem ctImplSh_ok : CTok Try.prog ctImplSh := .cons areWorkers_tells (.cons implUn (.nil _))
set_option maxHeartbeats 4000000 in
theorem implSh : Tells Try.prog 23 (.g 0 kSh) := by
  intro args Hc r hr
  unfold kSh at hr
  split at hr <;> first | (cases hr; done) | skip
  split at hr <;> cases hr
  rename_i d w _ _ nm gm n g hL hL'
  refine AnsOk.two ttok Try.func23 rfl rfl (Nat.zero_le _) (Nat.zero_le _) (allFr_tup2 .own .b) (allFr_tup2 .v .b) .list .nil fun hF => ⟨[listFF false nm (rowN gm) (rowX gm), listFF false n (rowN g) (rowX g), .i .i64 d, .i .i64 w], ⟨Sub.asLLg hL hF.1.1, Sub.asLLg hL' hF.1.2, Sub.refl _, Sub.refl _, trivial⟩, ?_⟩
  have hnm := hF.1.1.1
  have hn := hF.1.2.1
  have hn20 := hF.2
  have hmm := fun i => hF.1.1.row (i := i)
  have hm := fun i => hF.1.2.row (i := i)
  generalize rowN g = m at hm
  generalize rowX g = x
  generalize rowN gm = mm at hmm
  generalize rowX gm = xm
  have a1 := eq_true hm
  refine AW.exec ttok ctImplSh_ok (by cbv) ?_
  simp only [natCast_int, Post, All, thenA, canon0, canon064, and_true, true_and, forall_const, implies_true, decide_eq_true_eq, decide_eq_false_iff_not, Bool.not_eq_true', Bool.not_eq_false', Bool.true_and, Bool.and_true, beq_true, beq_false, Int.toNat_natCast, Int.ofNat_lt, Int.ofNat_le, Nat.zero_add, Nat.add_zero, imp_self, Bool.cond_false_right, Bool.cond_true_left, Bool.cond_true_right, IsF, rdF_eq, fOf, AV.f.injEq, exists_eq', free_list, free_fn0, List.not_mem_nil, List.mem_cons, false_imp, forall_eq, or_false, free_i, free_f, free_b, ren_f, ren_i, ren_b, and_self, bne_iff_ne, bne_eq_false_iff_eq, ne_eq, Int.natCast_inj, or_true, true_or, freeB_list, unfr_f, unfr_i, unfr_b, unfr_c, unfr_s, free_c, free_s, ren_c, ren_s, unfr_ro, unfr_rptr, ren_ro, free_ll, free_box, kill_f, kill_i, kill_b, kill_c, kill_s, kill_rof, kill_rot, Int.toNat_zero, isFF_ll, rowN_ll, rowX_ll, AllFree, Option.some.injEq, Prod.mk.injEq, Bool.false_eq_true, Bool.true_eq_false, isFFg_ll, hn, hnm, a1]
  (repeat' first | with_reducible assumption | with_reducible apply And.intro | with_reducible intro hh) <;> first | ((first | with_reducible show (_ : Int) ≤ _ | with_reducible show (_ : Int) < _ | with_reducible show (_ : Nat) ≤ _ | with_reducible show (_ : Nat) < _ | with_reducible show (_ : Int) = _ | with_reducible show (_ : Nat) = _ | with_reducible show ¬ _ | with_reducible show _ ≠ _) <;> first | omega | (simp only [Bool.and_eq_true, Bool.or_eq_false_iff, Bool.not_eq_false', Bool.not_eq_true', decide_eq_true_eq, decide_eq_false_iff_not] at *; omega) | (with_reducible assumption)) | (with_reducible assumption) | skip
  · have hh := sh_pre.symm.trans ‹(_ || _) = true›
    rw [Bool.not_eq_true'] at hh
    exact okA.no (by simp only [okSh, hh, Bool.false_and]) (fin_ret (.inl rfl) (by cbv) (by simp) (To.fresh noL_to))
  have hp := sh_pre.symm.trans ‹(_ || _) = false›
  rw [Bool.not_eq_false'] at hp
  have hp8 : nm .u ≤ 8 := by
    have h3 := hp
    simp only [preSh, Bool.and_eq_true, decide_eq_true_eq] at h3
    exact h3.1
  refine AW.loopH (ι := Nat) (fun i => i ≤ nm .u ∧ ∀ j, j < i → okOne (n .u) m x mm xm (d .u) j = true) (fun i => nm .u - i) (fun i => mkE Try.f23.ntmps [(1, listFF false n m x), (2, .i .i64 d), (10, .own 0 (fun _ => 0) (fun _ => i) 1), (25, listFF false nm mm xm), (26, .i .i64 fun _ => (nm .u : Int)), (27, .i .i64 fun _ => (i : Int))])
    (fun i => [blkF true (fun _ => i) (shX (n .u) m x xm (d .u))]) 0 ⟨Nat.zero_le _, fun j hj => absurd hj (Nat.not_lt_zero _)⟩ (To.list (Nat.zero_le _) (Nat.le_refl _) (fun e => e) (fun j hj => absurd hj (Nat.not_lt_zero _)) ?_) ?_
  · (repeat' first | exact AllTo.nil | apply AllTo.cons) <;> first | exact AvTo.dead _ | exact AvTo.i rfl | exact AvTo.i (by omega) | exact AvTo.i (by simp only [natCast_int]; omega) | exact AvTo.f rfl | exact AvTo.own rfl rfl rfl rfl | exact AvTo.own rfl rfl rfl (by omega) | exact Free.same (free_ll.2 trivial) | exact Free.same .listF
  · rintro Q' hQ i ⟨hi, hx⟩
    have hmi := hmm i
    refine AW.exec ttok ctImplSh_ok (by cbv) ?_
    simp only [natCast_int, Post, All, thenA, canon0, canon064, and_true, true_and, forall_const, implies_true, decide_eq_true_eq, decide_eq_false_iff_not, Bool.not_eq_true', Bool.not_eq_false', Bool.true_and, Bool.and_true, beq_true, beq_false, Int.toNat_natCast, Int.ofNat_lt, Int.ofNat_le, Nat.zero_add, Nat.add_zero, imp_self, Bool.cond_false_right, Bool.cond_true_left, Bool.cond_true_right, IsF, rdF_eq, fOf, AV.f.injEq, exists_eq', free_list, free_fn0, List.not_mem_nil, List.mem_cons, false_imp, forall_eq, or_false, free_i, free_f, free_b, ren_f, ren_i, ren_b, and_self, bne_iff_ne, bne_eq_false_iff_eq, ne_eq, Int.natCast_inj, or_true, true_or, freeB_list, unfr_f, unfr_i, unfr_b, unfr_c, unfr_s, free_c, free_s, ren_c, ren_s, unfr_ro, unfr_rptr, ren_ro, free_ll, free_box, kill_f, kill_i, kill_b, kill_c, kill_s, kill_rof, kill_rot, Int.toNat_zero, isFF_ll, rowN_ll, rowX_ll, AllFree, Option.some.injEq, Prod.mk.injEq, Bool.false_eq_true, Bool.true_eq_false, hn, hnm, isFFg_ll, a1, hn20, Bool.not_true, Bool.not_false, Bool.true_or, Bool.false_or, Bool.true_eq_false, Bool.false_eq_true]
    (repeat' first | with_reducible assumption | with_reducible apply And.intro | with_reducible intro hh) <;> first | ((first | with_reducible show (_ : Int) ≤ _ | with_reducible show (_ : Int) < _ | with_reducible show (_ : Nat) ≤ _ | with_reducible show (_ : Nat) < _ | with_reducible show (_ : Int) = _ | with_reducible show (_ : Nat) = _ | with_reducible show ¬ _ | with_reducible show _ ≠ _) <;> first | omega | (simp only [Bool.and_eq_true, Bool.or_eq_false_iff, Bool.not_eq_false', Bool.not_eq_true', decide_eq_true_eq, decide_eq_false_iff_not] at *; omega) | (with_reducible assumption)) | (with_reducible assumption) | skip
    all_goals try (have h4 := okUn_pos ‹okUn _ _ _ _ _ _ = true›; omega)
    · refine ⟨i + 1, ⟨by omega, lt_succ_all hx (by assumption)⟩, by omega, To.moved (k := 3) rfl (Nat.le_refl _) (fun e => e) (fun j hj => app_one hj (fun _ => AvTo.f rfl) fun e => AvTo.f (by rw [e]; rfl)) ?_⟩
      (repeat' first | exact AllTo.nil | apply AllTo.cons) <;> first | exact AvTo.dead _ | exact AvTo.i rfl | exact AvTo.i (by omega) | exact AvTo.i (by simp only [natCast_int]; omega) | exact AvTo.f rfl | exact AvTo.own rfl rfl rfl rfl | exact AvTo.own rfl rfl rfl (by omega) | exact Free.same (free_ll.2 trivial) | exact Free.same .listF
    · obtain ⟨rfl⟩ := hQ
      refine Post.leaf (by cbv) (okA.no ?_ (fin_ret (.inl rfl) (by cbv) (by simp) (To.fresh noL_to)))
      have hf : allN (okOne (n .u) m x mm xm (d .u)) (nm .u) = false := allN_false (j := i) (by omega) (by assumption)
      show okSh (nm .u) mm xm (n .u) m x (d .u) (w .u) = false
      simp only [okSh, hf, Bool.and_false]
    · obtain ⟨rfl⟩ := hQ
      refine Post.eval (by cbv) ?_
      have e : i = nm .u := by omega
      have hf : allN (okOne (n .u) m x mm xm (d .u)) (nm .u) = true := allN_true (e ▸ hx)
      simp only [natCast_int, Post, All, thenA, canon0, canon064, and_true, true_and, forall_const, implies_true, decide_eq_true_eq, decide_eq_false_iff_not, Bool.not_eq_true', Bool.not_eq_false', Bool.true_and, Bool.and_true, beq_true, beq_false, Int.toNat_natCast, Int.ofNat_lt, Int.ofNat_le, Nat.zero_add, Nat.add_zero, imp_self, Bool.cond_false_right, Bool.cond_true_left, Bool.cond_true_right, IsF, rdF_eq, fOf, AV.f.injEq, exists_eq', free_list, free_fn0, List.not_mem_nil, List.mem_cons, false_imp, forall_eq, or_false, free_i, free_f, free_b, ren_f, ren_i, ren_b, and_self, bne_iff_ne, bne_eq_false_iff_eq, ne_eq, Int.natCast_inj, or_true, true_or, freeB_list, unfr_f, unfr_i, unfr_b, unfr_c, unfr_s, free_c, free_s, ren_c, ren_s, unfr_ro, unfr_rptr, ren_ro, free_ll, free_box, kill_f, kill_i, kill_b, kill_c, kill_s, kill_rof, kill_rot, Int.toNat_zero, isFF_ll, rowN_ll, rowX_ll, AllFree, Option.some.injEq, Prod.mk.injEq, Bool.false_eq_true, Bool.true_eq_false, e]
      exact okA.yes (by show okSh (nm .u) mm xm (n .u) m x (d .u) (w .u) = true; simp only [okSh, hp, hf, Bool.and_self]) (fin_ret (.inl rfl) (by cbv) (by simp) (To.list (Nat.zero_le _) (Nat.le_refl _) (fun e => e) (fun j hj => AvTo.f rfl) yesL_to))
end Go.Proofs.Ytgbfngkmnodgdaa
