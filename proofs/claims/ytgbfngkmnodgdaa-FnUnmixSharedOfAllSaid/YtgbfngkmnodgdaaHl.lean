/- Shares made better, once: the two functions. -/
import Derived.Test.YtgbfngkmnodgdaaHk
set_option linter.unusedSimpArgs false
set_option linter.unusedVariables false
namespace Go.Proofs.Ytgbfngkmnodgdaa
open Go.Aw
def kU : Kg
  | [la, lb, lc], [] => match asLg la, asLLg lb, asLg lc with
    | some (na, ga), some (n, g), some (l, h) => some (ansL l (onceS (n .u) (rowN g 0) (rdF ga) (rowX g) (rdF h) (n .u)) (okU (n .u) (rowN g) (rowX g) (na .u) (rdF ga) (l .u) (rdF h)) ((IsF na ga ∧ IsFFg n g) ∧ IsF l h))
    | _, _, _ => none
  | _, _ => none
theorem aapp_zero {g g2 : Th Nat → Nat → AV} : aapp (fun _ => 0) g g2 = fun i c => g2 (fun _ => i .u) c := by
  funext i c
  simp [aapp]
theorem u_no1 {n : Nat} {m : Nat → Nat} {x : Nat → Nat → Nat} {na : Nat} {a : Nat → Nat} {l : Nat} {s : Nat → Nat} (h : (!canU n m x na a || ((l : Int) != (n : Int))) = true) : okU n m x na a l s = false := by
  rw [ne_dec] at h
  simp only [okU, preU]
  cases h1 : canU n m x na a <;> cases h2 : decide (l = n) <;> simp_all
theorem u_yes1 {n : Nat} {m : Nat → Nat} {x : Nat → Nat → Nat} {na : Nat} {a : Nat → Nat} {l : Nat} (h : (!canU n m x na a || ((l : Int) != (n : Int))) = false) : canU n m x na a = true ∧ l = n := by
  rw [ne_dec] at h
  cases h1 : canU n m x na a <;> cases h2 : decide (l = n) <;> simp_all
def ctSpecU : CT := [(77, .r kCan), (101, .r kFin), (78, .g 3 kOnce)]
theorem ctSpecU_ok : CTok Try.prog ctSpecU := .cons l07Can_tells (.cons l01Finite_tells (.cons l07Once_g (.nil _)))
theorem gt_six (n : Nat) : decide ((6 : Int) < (n : Int)) = !decide (n ≤ 6) := by
  rw [← decide_not]; exact decide_eq_decide.2 (by omega)
def preUI (n : Nat) (m : Nat → Nat) (x : Nat → Nat → Nat) (na : Nat) (a : Nat → Nat) (l : Nat) (s : Nat → Nat) : Bool := (((((!areS n m x || decide ((6 : Int) < (n : Int))) || ((l : Int) != (n : Int))) || !rotN l s) || !isList na a) || ((na : Int) != (m 0 : Int)))
theorem ui_eq {n : Nat} {m : Nat → Nat} {x : Nat → Nat → Nat} {na : Nat} {a : Nat → Nat} {l : Nat} {s : Nat → Nat} : preUI n m x na a l s = !preU n m x na a l s := by
  simp only [preUI, preU, canU, isTwo, ne_dec, gt_six]
  cases h1 : areS n m x with
  | false => rfl
  | true =>
    have h2 := areS_facts h1
    have h3 := (h2.2.2.2.2 0 (by omega)).2
    simp only [h3]
    cases decide (n ≤ 6) <;> cases decide (l = n) <;> cases rotN l s <;> cases isList na a <;> cases decide (na = m 0) <;> rfl
theorem preU_facts {n : Nat} {m : Nat → Nat} {x : Nat → Nat → Nat} {na : Nat} {a : Nat → Nat} {l : Nat} {s : Nat → Nat} (h : preU n m x na a l s = true) : canU n m x na a = true ∧ l = n ∧ rotN l s = true := by
  simp only [preU, Bool.and_eq_true, decide_eq_true_eq] at h
  exact ⟨h.1, h.2.1, h.2.2⟩
theorem ui_are {b p q r t : Bool} (h : ((((!b || p) || q) || r) || t) = false) : b = true := by
  cases b
  · simp at h
  · rfl
def ctImplU : CT := [(39, .r kAre), (113, .r kRotN), (72, .r kIsList), (114, .r kClone), (83, .g 0 kMix), (75, .r kDot), (108, .r kFin)]
theorem ctImplU_ok : CTok Try.prog ctImplU := .cons implAre (.cons areRotor_tells (.cons isList_tells (.cons clone_tells (.cons implMix (.cons dot_tells (.cons IsFinite_tells (.nil _)))))))
set_option maxHeartbeats 4000000 in
theorem implU : Tells Try.prog 82 (.g 0 kU) := by
  intro args Hc r hr
  unfold kU at hr
  split at hr <;> first | (cases hr; done) | skip
  split at hr <;> cases hr
  rename_i na ga n g l h hL hL' hL3
  refine AnsOk.two ttok Try.func82 rfl rfl (Nat.zero_le _) (Nat.zero_le _) (allFr_tup2 .own .b) (allFr_tup2 .v .b) .list .nil fun hF => ⟨[listF false na (rdF ga), listFF false n (rowN g) (rowX g), listF false l (rdF h)], ⟨.asLg hL hF.1.1, Sub.asLLg hL' hF.1.2, .asLg hL3 hF.2, trivial⟩, ?_⟩
  have hna := hF.1.1.1
  have hn := hF.1.2.1
  have hln := hF.2.1
  have hm := fun i => hF.1.2.row (i := i)
  generalize rowN g = m at hm
  generalize rowX g = x
  generalize rdF ga = a
  generalize rdF h = s
  have a1 := eq_true hm
  refine AW.exec ttok ctImplU_ok (by cbv) ?_
  simp only [natCast_int, Post, All, thenA, canon0, canon064, and_true, true_and, forall_const, implies_true, decide_eq_true_eq, decide_eq_false_iff_not, Bool.not_eq_true', Bool.not_eq_false', Bool.true_and, Bool.and_true, beq_true, beq_false, Int.toNat_natCast, Int.ofNat_lt, Int.ofNat_le, Nat.zero_add, Nat.add_zero, imp_self, Bool.cond_false_right, Bool.cond_true_left, Bool.cond_true_right, IsF, rdF_eq, fOf, AV.f.injEq, exists_eq', free_list, free_fn0, List.not_mem_nil, List.mem_cons, false_imp, forall_eq, or_false, free_i, free_f, free_b, ren_f, ren_i, ren_b, and_self, bne_iff_ne, bne_eq_false_iff_eq, ne_eq, Int.natCast_inj, or_true, true_or, freeB_list, unfr_f, unfr_i, unfr_b, unfr_c, unfr_s, free_c, free_s, ren_c, ren_s, unfr_ro, unfr_rptr, ren_ro, free_ll, free_box, kill_f, kill_i, kill_b, kill_c, kill_s, kill_rof, kill_rot, Int.toNat_zero, isFF_ll, rowN_ll, rowX_ll, AllFree, Option.some.injEq, Prod.mk.injEq, Bool.false_eq_true, Bool.true_eq_false, isFFg_ll, isList_fin, hn, hna, hln, a1]
  (repeat' first | with_reducible assumption | with_reducible apply And.intro | with_reducible intro hh) <;> first | ((first | with_reducible show (_ : Int) ≤ _ | with_reducible show (_ : Int) < _ | with_reducible show (_ : Nat) ≤ _ | with_reducible show (_ : Nat) < _ | with_reducible show (_ : Int) = _ | with_reducible show (_ : Nat) = _ | with_reducible show ¬ _ | with_reducible show _ ≠ _) <;> first | omega | (simp only [Bool.and_eq_true, Bool.or_eq_false_iff, Bool.not_eq_false', Bool.not_eq_true', decide_eq_true_eq, decide_eq_false_iff_not] at *; omega) | (with_reducible assumption)) | (with_reducible assumption) | skip
  · have h1 := areS_facts (ui_are ‹_ = false›)
    omega
  · refine okA.no ?_ (fin_ret (.inl rfl) (by cbv) (by simp) (To.fresh noL_to))
    have hu : preUI (n .u) m x (na .u) a (l .u) s = true := by assumption
    rw [ui_eq, Bool.not_eq_true'] at hu
    show okU (n .u) m x (na .u) a (l .u) s = false
    simp only [okU, hu, Bool.false_and]
  all_goals (
    have hu : preUI (n .u) m x (na .u) a (l .u) s = false := by assumption
    rw [ui_eq, Bool.not_eq_false'] at hu
    obtain ⟨hc, hl, hrot⟩ := preU_facts hu
    obtain ⟨h0, hn6, hnm⟩ := canU_facts hc
    have h1 := areS_facts h0
    have h2 := hm 0 (by omega))
  · omega
  · omega
  refine AW.loopH (ι := Nat) (fun i => i ≤ n .u ∧ onceB (n .u) m a x s i = true) (fun i => n .u - i) (fun i => mkE Try.f82.ntmps [(0, listF false na a), (1, listFF false n m x), (8, .own 0 (fun _ => 0) l 1), (53, listFF false n m x), (54, .i .i64 fun _ => (n .u : Int)), (55, .i .i64 fun _ => (i : Int))])
    (fun i => [blkF true l (onceS (n .u) (m 0) a x s i)]) 0 ⟨Nat.zero_le _, rfl⟩ (To.list (Nat.zero_le _) (Nat.le_refl _) (fun e => e) (fun j hj => AvTo.f rfl) ?_) ?_
  · (repeat' first | exact AllTo.nil | apply AllTo.cons) <;> first | exact AvTo.dead _ | exact AvTo.i rfl | exact AvTo.i (by simp only [natCast_int]; omega) | exact AvTo.f rfl | exact AvTo.own rfl rfl rfl rfl | exact AvTo.own rfl rfl rfl (by omega) | exact Free.same (free_ll.2 trivial) | exact Free.same .listF
  · rintro Q' hQ i ⟨hi, hB⟩
    have hmi := h1.2.2.2.2 i
    refine AW.exec ttok ctImplU_ok (by cbv) ?_
    simp only [natCast_int, Post, All, thenA, canon0, canon064, and_true, true_and, forall_const, implies_true, decide_eq_true_eq, decide_eq_false_iff_not, Bool.not_eq_true', Bool.not_eq_false', Bool.true_and, Bool.and_true, beq_true, beq_false, Int.toNat_natCast, Int.ofNat_lt, Int.ofNat_le, Nat.zero_add, Nat.add_zero, imp_self, Bool.cond_false_right, Bool.cond_true_left, Bool.cond_true_right, IsF, rdF_eq, fOf, AV.f.injEq, exists_eq', free_list, free_fn0, List.not_mem_nil, List.mem_cons, false_imp, forall_eq, or_false, free_i, free_f, free_b, ren_f, ren_i, ren_b, and_self, bne_iff_ne, bne_eq_false_iff_eq, ne_eq, Int.natCast_inj, or_true, true_or, freeB_list, unfr_f, unfr_i, unfr_b, unfr_c, unfr_s, free_c, free_s, ren_c, ren_s, unfr_ro, unfr_rptr, ren_ro, free_ll, free_box, kill_f, kill_i, kill_b, kill_c, kill_s, kill_rof, kill_rot, Int.toNat_zero, isFF_ll, rowN_ll, rowX_ll, AllFree, Option.some.injEq, Prod.mk.injEq, Bool.false_eq_true, Bool.true_eq_false, hn, hna, hln, isFFg_ll, a1, hl, Bool.not_true, Bool.not_false, Bool.true_or, Bool.false_or, Bool.true_eq_false, Bool.false_eq_true]
    (repeat' first | with_reducible assumption | with_reducible apply And.intro | with_reducible intro hh) <;> first | ((first | with_reducible show (_ : Int) ≤ _ | with_reducible show (_ : Int) < _ | with_reducible show (_ : Nat) ≤ _ | with_reducible show (_ : Nat) < _ | with_reducible show (_ : Int) = _ | with_reducible show (_ : Nat) = _ | with_reducible show ¬ _ | with_reducible show _ ≠ _) <;> first | omega | (simp only [Bool.and_eq_true, Bool.or_eq_false_iff, Bool.not_eq_false', Bool.not_eq_true', decide_eq_true_eq, decide_eq_false_iff_not] at *; omega) | (with_reducible assumption)) | (with_reducible assumption) | skip
    · have hlt : i < n .u := by assumption
      have hm0 := (hmi hlt).1
      have hM : okMix (n .u) m x (n .u) (onceS (n .u) (m 0) a x s i) = true := by assumption
      refine AW.loopH (ι := Nat) (fun q => q ≤ m i) (fun q => m i - q) (fun q => mkE Try.f82.ntmps [(0, listF false na a), (1, listFF false n m x), (8, .own 0 (fun _ => 0) l 1), (9, .i .i64 fun _ => (i : Int)), (10, listF false (fun _ => m i) (x i)), (11, .own 1 (fun _ => 0) (fun _ => m 0) 1), (13, .f .f32 fun _ => aboveN a (x i) (mixX (n .u) x (onceS (n .u) (m 0) a x s i)) q), (53, listFF false n m x), (54, .i .i64 fun _ => (n .u : Int)), (55, .i .i64 fun _ => (i : Int)), (68, listF false (fun _ => m i) (x i)), (69, .i .i64 fun _ => (m i : Int)), (70, .i .i64 fun _ => (q : Int))])
        (fun q => [blkF true l (onceS (n .u) (m 0) a x s i), blkF true (fun _ => m 0) (mixX (n .u) x (onceS (n .u) (m 0) a x s i))]) 0 (Nat.zero_le _) (To.same (by simp) ⟨EntTo.list (fun e => e) (Nat.le_refl _) (fun j hj => AvTo.f rfl), EntTo.list (fun e => e) (Nat.le_refl _) (fun j hj => AvTo.f rfl), trivial⟩ ?_) ?_
      · (repeat' first | exact AllTo.nil | apply AllTo.cons) <;> first | exact AvTo.dead _ | exact AvTo.i rfl | exact AvTo.i (by simp only [natCast_int]; omega) | exact AvTo.f rfl | exact AvTo.own rfl rfl rfl rfl | exact AvTo.own rfl rfl rfl (by omega) | exact Free.same (free_ll.2 trivial) | exact Free.same .listF
      · rintro Q2 hQ2 q hq
        refine AW.exec ttok ctImplU_ok (by cbv) ?_
        simp only [natCast_int, Post, All, thenA, canon0, canon064, and_true, true_and, forall_const, implies_true, decide_eq_true_eq, decide_eq_false_iff_not, Bool.not_eq_true', Bool.not_eq_false', Bool.true_and, Bool.and_true, beq_true, beq_false, Int.toNat_natCast, Int.ofNat_lt, Int.ofNat_le, Nat.zero_add, Nat.add_zero, imp_self, Bool.cond_false_right, Bool.cond_true_left, Bool.cond_true_right, IsF, rdF_eq, fOf, AV.f.injEq, exists_eq', free_list, free_fn0, List.not_mem_nil, List.mem_cons, false_imp, forall_eq, or_false, free_i, free_f, free_b, ren_f, ren_i, ren_b, and_self, bne_iff_ne, bne_eq_false_iff_eq, ne_eq, Int.natCast_inj, or_true, true_or, freeB_list, unfr_f, unfr_i, unfr_b, unfr_c, unfr_s, free_c, free_s, ren_c, ren_s, unfr_ro, unfr_rptr, ren_ro, free_ll, free_box, kill_f, kill_i, kill_b, kill_c, kill_s, kill_rof, kill_rot, Int.toNat_zero, isFF_ll, rowN_ll, rowX_ll, AllFree, Option.some.injEq, Prod.mk.injEq, Bool.false_eq_true, Bool.true_eq_false, hn, hna, hln]
        (repeat' first | with_reducible assumption | with_reducible apply And.intro | with_reducible intro hh) <;> first | ((first | with_reducible show (_ : Int) ≤ _ | with_reducible show (_ : Int) < _ | with_reducible show (_ : Nat) ≤ _ | with_reducible show (_ : Nat) < _ | with_reducible show (_ : Int) = _ | with_reducible show (_ : Nat) = _ | with_reducible show ¬ _ | with_reducible show _ ≠ _) <;> first | omega | (simp only [Bool.and_eq_true, Bool.or_eq_false_iff, Bool.not_eq_false', Bool.not_eq_true', decide_eq_true_eq, decide_eq_false_iff_not] at *; omega) | (with_reducible assumption)) | (with_reducible assumption) | skip
        · refine ⟨q + 1, by omega, by omega, To.same (by simp) ⟨EntTo.list (fun e => e) (Nat.le_refl _) (fun j hj => AvTo.f rfl), EntTo.list (fun e => e) (Nat.le_refl _) (fun j hj => AvTo.f rfl), trivial⟩ ?_⟩
          (repeat' first | exact AllTo.nil | apply AllTo.cons) <;> first | exact AvTo.dead _ | exact AvTo.i rfl | exact AvTo.i (by simp only [natCast_int]; omega) | exact AvTo.f rfl | exact AvTo.own rfl rfl rfl rfl | exact AvTo.own rfl rfl rfl (by omega) | exact Free.same (free_ll.2 trivial) | exact Free.same .listF
        · obtain ⟨rfl⟩ := hQ2
          refine Post.eval (by cbv) ?_
          have e : q = m i := by omega
          simp only [natCast_int, Post, All, thenA, canon0, canon064, and_true, true_and, forall_const, implies_true, decide_eq_true_eq, decide_eq_false_iff_not, Bool.not_eq_true', Bool.not_eq_false', Bool.true_and, Bool.and_true, beq_true, beq_false, Int.toNat_natCast, Int.ofNat_lt, Int.ofNat_le, Nat.zero_add, Nat.add_zero, imp_self, Bool.cond_false_right, Bool.cond_true_left, Bool.cond_true_right, IsF, rdF_eq, fOf, AV.f.injEq, exists_eq', free_list, free_fn0, List.not_mem_nil, List.mem_cons, false_imp, forall_eq, or_false, free_i, free_f, free_b, ren_f, ren_i, ren_b, and_self, bne_iff_ne, bne_eq_false_iff_eq, ne_eq, Int.natCast_inj, or_true, true_or, freeB_list, unfr_f, unfr_i, unfr_b, unfr_c, unfr_s, free_c, free_s, ren_c, ren_s, unfr_ro, unfr_rptr, ren_ro, free_ll, free_box, kill_f, kill_i, kill_b, kill_c, kill_s, kill_rof, kill_rot, Int.toNat_zero, isFF_ll, rowN_ll, rowX_ll, AllFree, Option.some.injEq, Prod.mk.injEq, Bool.false_eq_true, Bool.true_eq_false, hn, hna, hln, e, hm0, hl, Nat.le_refl, Nat.zero_lt_one, List.length_cons, List.length_nil, Nat.sub_self, List.getD_cons_zero, isFin0, Bool.not_true, Bool.not_false, Bool.true_eq_false, Bool.false_eq_true]
          (repeat' first | with_reducible assumption | with_reducible apply And.intro | with_reducible intro hh) <;> first | ((first | with_reducible show (_ : Int) ≤ _ | with_reducible show (_ : Int) < _ | with_reducible show (_ : Nat) ≤ _ | with_reducible show (_ : Nat) < _ | with_reducible show (_ : Int) = _ | with_reducible show (_ : Nat) = _ | with_reducible show ¬ _ | with_reducible show _ ≠ _) <;> first | omega | (simp only [Bool.and_eq_true, Bool.or_eq_false_iff, Bool.not_eq_false', Bool.not_eq_true', decide_eq_true_eq, decide_eq_false_iff_not] at *; omega) | (with_reducible assumption)) | (with_reducible assumption) | skip
          · have hg : fgt .f32 (dotN (x i) (x i) (m 0)) 0 = false := by assumption
            obtain ⟨rfl⟩ := hQ
            refine Post.leaf (by cbv) (okA.no ?_ (fin_ret (.inl rfl) (by cbv) (by simp) (To.fresh noL_to)))
            have hB2 : onceB (n .u) m a x s (n .u) = false := onceB_stop (i := i) (by simp only [stepOK, hg, Bool.false_and, Bool.and_false]) hlt
            show okU (n .u) m x (na .u) a (l .u) s = false
            simp only [okU, hB2, Bool.and_false]
          all_goals have hg : fgt .f32 (dotN (x i) (x i) (m 0)) 0 = true := by assumption
          · have hx : shareX (n .u) (m 0) a x (onceS (n .u) (m 0) a x s i) i = 0 := shareX_lo (by assumption)
            refine ⟨i + 1, ⟨by omega, by simp only [onceB, hB, stepOK, hM, hg, hx, isFin0, Bool.and_self]⟩, by omega, To.moved (k := 0) rfl (Nat.le_refl _) (fun e => e) (fun j hj => by
              by_cases e : j = i
              · simp only [e, if_true, Nat.le_refl, Nat.zero_lt_one, and_self, Nat.sub_self, List.getD_cons_zero]
                exact AvTo.f (show 0 = onceS (n .u) (m 0) a x s (i + 1) i by rw [onceS_at, hx])
              · simp only [e, if_false]
                exact AvTo.f (onceS_off e).symm) ?_⟩
            (repeat' first | exact AllTo.nil | apply AllTo.cons) <;> first | exact AvTo.dead _ | exact AvTo.i rfl | exact AvTo.i (by simp only [natCast_int]; omega) | exact AvTo.f rfl | exact AvTo.own rfl rfl rfl rfl | exact AvTo.own rfl rfl rfl (by omega) | exact Free.same (free_ll.2 trivial) | exact Free.same .listF
          · have hx : shareX (n .u) (m 0) a x (onceS (n .u) (m 0) a x s i) i = shareV (n .u) (m 0) a x (onceS (n .u) (m 0) a x s i) i := shareX_hi (by assumption)
            have hf : isFin (shareV (n .u) (m 0) a x (onceS (n .u) (m 0) a x s i) i) = false := by assumption
            obtain ⟨rfl⟩ := hQ
            refine Post.leaf (by cbv) (okA.no ?_ (fin_ret (.inl rfl) (by cbv) (by simp) (To.fresh noL_to)))
            have hB2 : onceB (n .u) m a x s (n .u) = false := onceB_stop (i := i) (by simp only [stepOK, hx, hf, Bool.and_false]) hlt
            show okU (n .u) m x (na .u) a (l .u) s = false
            simp only [okU, hB2, Bool.and_false]
          · have hx : shareX (n .u) (m 0) a x (onceS (n .u) (m 0) a x s i) i = shareV (n .u) (m 0) a x (onceS (n .u) (m 0) a x s i) i := shareX_hi (by assumption)
            have hf : isFin (shareV (n .u) (m 0) a x (onceS (n .u) (m 0) a x s i) i) = true := by assumption
            refine ⟨i + 1, ⟨by omega, by simp only [onceB, hB, stepOK, hM, hg, hx, hf, Bool.and_self]⟩, by omega, To.moved (k := 0) rfl (Nat.le_refl _) (fun e => e) (fun j hj => by
              by_cases e : j = i
              · simp only [e, if_true, Nat.le_refl, Nat.zero_lt_one, and_self, Nat.sub_self, List.getD_cons_zero]
                exact AvTo.f (show shareV (n .u) (m 0) a x (onceS (n .u) (m 0) a x s i) i = onceS (n .u) (m 0) a x s (i + 1) i by rw [onceS_at, hx])
              · simp only [e, if_false]
                exact AvTo.f (onceS_off e).symm) ?_⟩
            (repeat' first | exact AllTo.nil | apply AllTo.cons) <;> first | exact AvTo.dead _ | exact AvTo.i rfl | exact AvTo.i (by simp only [natCast_int]; omega) | exact AvTo.f rfl | exact AvTo.own rfl rfl rfl rfl | exact AvTo.own rfl rfl rfl (by omega) | exact Free.same (free_ll.2 trivial) | exact Free.same .listF
    · have hlt : i < n .u := by assumption
      obtain ⟨rfl⟩ := hQ
      refine Post.leaf (by cbv) (okA.no ?_ (fin_ret (.inl rfl) (by cbv) (by simp) (To.fresh noL_to)))
      have hM : okMix (n .u) m x (n .u) (onceS (n .u) (m 0) a x s i) = false := by assumption
      have hB2 : onceB (n .u) m a x s (n .u) = false := onceB_stop (i := i) (by simp only [stepOK, hM, Bool.false_and]) hlt
      show okU (n .u) m x (na .u) a (l .u) s = false
      simp only [okU, hB2, Bool.and_false]
    · obtain ⟨rfl⟩ := hQ
      refine Post.eval (by cbv) ?_
      have e : i = n .u := by omega
      have hB' : onceB (n .u) m a x s (n .u) = true := by
        have h3 := hB
        rw [e] at h3
        exact h3
      simp only [natCast_int, Post, All, thenA, canon0, canon064, and_true, true_and, forall_const, implies_true, decide_eq_true_eq, decide_eq_false_iff_not, Bool.not_eq_true', Bool.not_eq_false', Bool.true_and, Bool.and_true, beq_true, beq_false, Int.toNat_natCast, Int.ofNat_lt, Int.ofNat_le, Nat.zero_add, Nat.add_zero, imp_self, Bool.cond_false_right, Bool.cond_true_left, Bool.cond_true_right, IsF, rdF_eq, fOf, AV.f.injEq, exists_eq', free_list, free_fn0, List.not_mem_nil, List.mem_cons, false_imp, forall_eq, or_false, free_i, free_f, free_b, ren_f, ren_i, ren_b, and_self, bne_iff_ne, bne_eq_false_iff_eq, ne_eq, Int.natCast_inj, or_true, true_or, freeB_list, unfr_f, unfr_i, unfr_b, unfr_c, unfr_s, free_c, free_s, ren_c, ren_s, unfr_ro, unfr_rptr, ren_ro, free_ll, free_box, kill_f, kill_i, kill_b, kill_c, kill_s, kill_rof, kill_rot, Int.toNat_zero, isFF_ll, rowN_ll, rowX_ll, AllFree, Option.some.injEq, Prod.mk.injEq, Bool.false_eq_true, Bool.true_eq_false, e]
      exact okA.yes (by simp only [okU, hu, hB', Bool.true_and]) (fin_ret (.inl rfl) (by cbv) (by simp) (To.list (Nat.zero_le _) (Nat.le_refl _) (fun e => e) (fun j hj => AvTo.f rfl) yesL_to))
end Go.Proofs.Ytgbfngkmnodgdaa
