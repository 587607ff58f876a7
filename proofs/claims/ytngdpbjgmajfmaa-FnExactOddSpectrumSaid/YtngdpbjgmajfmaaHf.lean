/- The odd spectrum on both sides. -/
import Derived.Test.YtngdpbjgmajfmaaHe
set_option linter.unusedSimpArgs false
set_option linter.unusedVariables false
namespace Go.Proofs.Ytngdpbjgmajfmaa
open Go.Aw
def oddV (n : Nat) (m : Nat → Nat) (x : Nat → Nat → Nat) (i : Nat) : Nat := likeV (m i) (x i) (m 0) (meanX n x)
def oddOk (n : Nat) (m : Nat → Nat) (x : Nat → Nat → Nat) (i : Nat) : Bool := okLikeV (m i) (x i) (m 0) (meanX n x)
/-- The best so far, and how alike it is. -/
def oddN (n : Nat) (m : Nat → Nat) (x : Nat → Nat → Nat) : Nat → Nat × Nat
  | 0 => (0, 0)
  | i + 1 => bif decide (i = 0) || flt .f32 (oddV n m x i) (oddN n m x i).2 then (i, oddV n m x i) else oddN n m x i
def okOdd (n : Nat) (m : Nat → Nat) (x : Nat → Nat → Nat) : Bool := okMean n m x && allN (oddOk n m x) n
def kOdd : Kr
  | [a] => match asLL a with
    | some (n, g) => some (.tup [.i .i64 fun _ => bif okOdd (n .u) (rowN g) (rowX g) then ((oddN (n .u) (rowN g) (rowX g) (n .u)).1 : Int) else 0, .b fun _ => okOdd (n .u) (rowN g) (rowX g)], [], fun _ => IsFF n g)
    | none => none
  | _ => none
theorem odd_le (n : Nat) (m : Nat → Nat) (x : Nat → Nat → Nat) : ∀ i, (oddN n m x i).1 ≤ i
  | 0 => Nat.le_refl _
  | i + 1 => by
    have := odd_le n m x i
    simp only [oddN]
    cases decide (i = 0) || flt .f32 (oddV n m x i) (oddN n m x i).2
    · simp only [cond_false]; omega
    · simp only [cond_true]; omega
theorem odd_step {n : Nat} {m : Nat → Nat} {x : Nat → Nat → Nat} {i : Nat} {b : Bool} (h : oddOk n m x i = true) (c : (((i : Int) == 0) || flt .f32 (bif true then oddV n m x i else 0) (oddN n m x i).2) = b) : oddN n m x (i + 1) = bif b then (i, oddV n m x i) else oddN n m x i := by
  have e : ((i : Int) == 0) = decide (i = 0) := int_beq i 0
  rw [e] at c
  simp only [cond_true] at c
  simp only [oddN, c]
theorem odd_like {n : Nat} {m : Nat → Nat} {x : Nat → Nat → Nat} (h : okMean n m x = true) {i : Nat} (hi : i < n) : okLike (m i) (x i) (m 0) (meanX n x) = oddOk n m x i := by
  simp only [okMean, Bool.and_eq_true] at h
  have h1 := areS_facts h.1
  have h2 := h1.2.2.2.2 i hi
  have h3 : isList (m 0) (meanX n x) = true := by
    simp only [isList, Bool.and_eq_true, decide_eq_true_eq]
    exact ⟨h.2, h1.2.2.1, h1.2.2.2.1⟩
  have h4 : isTwo (m i) (x i) (m 0) (meanX n x) = true := by
    simp only [isTwo, h2.2, h3, Bool.true_and, decide_eq_true_eq]
    exact h2.1
  simp only [okLike, h4, Bool.true_and]
  rfl
def ctSpecOdd : CT := [(14, .g 0 kMean), (80, .r kLikeV)]
theorem ctSpecOdd_ok : CTok Try.prog ctSpecOdd := .cons specMean (.cons l07Like_tells (.nil _))
set_option maxHeartbeats 1000000 in
theorem specOdd : Tells Try.prog 41 (.r kOdd) := by
  intro args r H' p hr hp
  unfold kOdd at hr
  split at hr <;> first | (cases hr; done) | skip
  split at hr <;> cases hr
  rename_i n g hL
  refine ⟨allFr_tup2 .i .b, .nil, Con.pre (args' := [listFF false n (rowN g) (rowX g)]) ⟨.asLL hL hp, trivial⟩ ?_⟩
  have hn := hp.1
  have hm := fun i => hp.row (i := i)
  generalize rowN g = m at hm
  generalize rowX g = x
  refine Con.of ttok Try.func41 rfl rfl (Nat.zero_le _) (AW.exec ttok ctSpecOdd_ok (by cbv) ?_)
  simp only [natCast_int, Post, All, thenA, canon0, canon064, and_true, true_and, forall_const, implies_true, decide_eq_true_eq, decide_eq_false_iff_not, Bool.not_eq_true', Bool.not_eq_false', Bool.true_and, Bool.and_true, beq_true, beq_false, Int.toNat_natCast, Int.ofNat_lt, Int.ofNat_le, Nat.zero_add, Nat.add_zero, imp_self, Bool.cond_false_right, Bool.cond_true_left, Bool.cond_true_right, IsF, rdF_eq, fOf, AV.f.injEq, exists_eq', free_list, free_fn0, List.not_mem_nil, List.mem_cons, false_imp, forall_eq, or_false, free_i, free_f, free_b, ren_f, ren_i, ren_b, and_self, bne_iff_ne, bne_eq_false_iff_eq, ne_eq, Int.natCast_inj, or_true, true_or, freeB_list, unfr_f, unfr_i, unfr_b, unfr_c, unfr_s, free_c, free_s, ren_c, ren_s, unfr_ro, unfr_rptr, ren_ro, free_ll, free_box, Int.toNat_zero, isFF_ll, rowN_ll, rowX_ll, AllFree, Option.some.injEq, Prod.mk.injEq, Bool.false_eq_true, Bool.true_eq_false, isFFg_ll, hn]
  (repeat' first | with_reducible assumption | with_reducible apply And.intro | with_reducible intro hh) <;> first | ((first | with_reducible show (_ : Int) ≤ _ | with_reducible show (_ : Int) < _ | with_reducible show (_ : Nat) ≤ _ | with_reducible show (_ : Nat) < _ | with_reducible show (_ : Int) = _ | with_reducible show (_ : Nat) = _ | with_reducible show ¬ _ | with_reducible show _ ≠ _) <;> first | omega | (simp only [Bool.and_eq_true, Bool.or_eq_false_iff, Bool.not_eq_false', Bool.not_eq_true', decide_eq_true_eq, decide_eq_false_iff_not] at *; omega) | (with_reducible assumption)) | (with_reducible assumption) | skip
  · have h0 : okMean (n .u) m x = true := by assumption
    have h1 : areS (n .u) m x = true := by simp only [okMean, Bool.and_eq_true] at h0; exact h0.1
    have hf : finN (m 0) (meanX (n .u) x) = true := by simp only [okMean, Bool.and_eq_true] at h0; exact h0.2
    have h1 := areS_facts h1
    refine AW.loopH (ι := Nat) (fun i => i ≤ n .u ∧ ∀ j, j < i → oddOk (n .u) m x j = true) (fun i => n .u - i) (fun i => mkE Try.f41.ntmps [(0, listFF false n m x), (4, .own 0 (fun _ => 0) (fun _ => m 0) 1), (6, .i .i64 fun _ => ((oddN (n .u) m x i).1 : Int)), (7, .f .f32 fun _ => (oddN (n .u) m x i).2), (19, .i .i64 fun _ => (n .u : Int)), (20, .i .i64 fun _ => (i : Int))])
      (fun i => [blkF true (fun _ => m 0) (meanX (n .u) x)]) 0 ⟨Nat.zero_le _, fun j hj => absurd hj (Nat.not_lt_zero _)⟩ (To.list (Nat.zero_le _) (Nat.le_refl _) (fun e => e) (fun j hj => AvTo.f rfl) ?_) ?_
    · (repeat' first | exact AllTo.nil | apply AllTo.cons) <;> first | exact AvTo.dead _ | exact AvTo.i rfl | exact AvTo.i (by simp only [natCast_int]; omega) | exact AvTo.f rfl | exact AvTo.own rfl rfl rfl rfl | exact Free.same (free_ll.2 trivial) | exact Free.same .listF
    · rintro Q' hQ i ⟨hi, hx⟩
      have hmi := h1.2.2.2.2 i
      have hmm := hm i
      refine AW.exec ttok ctSpecOdd_ok (by cbv) ?_
      simp only [natCast_int, Post, All, thenA, canon0, canon064, and_true, true_and, forall_const, implies_true, decide_eq_true_eq, decide_eq_false_iff_not, Bool.not_eq_true', Bool.not_eq_false', Bool.true_and, Bool.and_true, beq_true, beq_false, Int.toNat_natCast, Int.ofNat_lt, Int.ofNat_le, Nat.zero_add, Nat.add_zero, imp_self, Bool.cond_false_right, Bool.cond_true_left, Bool.cond_true_right, IsF, rdF_eq, fOf, AV.f.injEq, exists_eq', free_list, free_fn0, List.not_mem_nil, List.mem_cons, false_imp, forall_eq, or_false, free_i, free_f, free_b, ren_f, ren_i, ren_b, and_self, bne_iff_ne, bne_eq_false_iff_eq, ne_eq, Int.natCast_inj, or_true, true_or, freeB_list, unfr_f, unfr_i, unfr_b, unfr_c, unfr_s, free_c, free_s, ren_c, ren_s, unfr_ro, unfr_rptr, ren_ro, free_ll, free_box, Int.toNat_zero, isFF_ll, rowN_ll, rowX_ll, AllFree, Option.some.injEq, Prod.mk.injEq, Bool.false_eq_true, Bool.true_eq_false, hn]
      (repeat' first | with_reducible assumption | with_reducible apply And.intro | with_reducible intro hh) <;> first | ((first | with_reducible show (_ : Int) ≤ _ | with_reducible show (_ : Int) < _ | with_reducible show (_ : Nat) ≤ _ | with_reducible show (_ : Nat) < _ | with_reducible show (_ : Int) = _ | with_reducible show (_ : Nat) = _ | with_reducible show ¬ _ | with_reducible show _ ≠ _) <;> first | omega | (simp only [Bool.and_eq_true, Bool.or_eq_false_iff, Bool.not_eq_false', Bool.not_eq_true', decide_eq_true_eq, decide_eq_false_iff_not] at *; omega) | (with_reducible assumption)) | (with_reducible assumption) | skip
      · obtain ⟨rfl⟩ := hQ
        have h2 : oddOk (n .u) m x i = false := ‹okLikeV _ _ _ _ = false›
        refine Post.leaf (by cbv) (fin_ret (.inl rfl) (by cbv) (by simp) (To.fresh (.cons (.tup (.cons (.i ?_) (.cons (.b ?_) .nil))) .nil)))
        all_goals simp only [okOdd, allN_false (q := oddOk (n .u) m x) ‹i < n .u› h2, Bool.and_false, cond_false]
      · have e5 : okLikeV (m i) (x i) (m 0) (meanX (n .u) x) = true := ‹okLikeV _ _ _ _ = true›
        have h2 : oddOk (n .u) m x i = true := ‹okLikeV _ _ _ _ = true›
        have e3 := odd_step h2 (b := true) (by have c := ‹(_ || _) = true›; simp only [e5] at c; exact c)
        refine ⟨i + 1, ⟨by omega, lt_succ_all hx h2⟩, by omega, To.list (Nat.zero_le _) (Nat.le_refl _) (fun e => e) (fun j hj => AvTo.f rfl) ?_⟩
        (repeat' first | exact AllTo.nil | apply AllTo.cons) <;> first | exact AvTo.dead _ | exact AvTo.i rfl | exact AvTo.i (by rw [e3]; rfl) | exact AvTo.i (by simp only [natCast_int]; omega) | exact AvTo.f (by rw [e3]; simp only [e5]; rfl) | exact AvTo.own rfl rfl rfl rfl | exact Free.same (free_ll.2 trivial) | exact Free.same .listF
      · have e5 : okLikeV (m i) (x i) (m 0) (meanX (n .u) x) = true := ‹okLikeV _ _ _ _ = true›
        have h2 : oddOk (n .u) m x i = true := ‹okLikeV _ _ _ _ = true›
        have e3 := odd_step h2 (b := false) (by have c := ‹(_ || _) = false›; simp only [e5] at c; exact c)
        refine ⟨i + 1, ⟨by omega, lt_succ_all hx h2⟩, by omega, To.list (Nat.zero_le _) (Nat.le_refl _) (fun e => e) (fun j hj => AvTo.f rfl) ?_⟩
        (repeat' first | exact AllTo.nil | apply AllTo.cons) <;> first | exact AvTo.dead _ | exact AvTo.i rfl | exact AvTo.i (by rw [e3]; rfl) | exact AvTo.i (by simp only [natCast_int]; omega) | exact AvTo.f (by rw [e3]; rfl) | exact AvTo.own rfl rfl rfl rfl | exact Free.same (free_ll.2 trivial) | exact Free.same .listF
      · obtain ⟨rfl⟩ := hQ
        refine Post.eval (by cbv) ?_
        have e : i = n .u := by omega
        simp only [natCast_int, Post, All, thenA, canon0, canon064, and_true, true_and, forall_const, implies_true, decide_eq_true_eq, decide_eq_false_iff_not, Bool.not_eq_true', Bool.not_eq_false', Bool.true_and, Bool.and_true, beq_true, beq_false, Int.toNat_natCast, Int.ofNat_lt, Int.ofNat_le, Nat.zero_add, Nat.add_zero, imp_self, Bool.cond_false_right, Bool.cond_true_left, Bool.cond_true_right, IsF, rdF_eq, fOf, AV.f.injEq, exists_eq', free_list, free_fn0, List.not_mem_nil, List.mem_cons, false_imp, forall_eq, or_false, free_i, free_f, free_b, ren_f, ren_i, ren_b, and_self, bne_iff_ne, bne_eq_false_iff_eq, ne_eq, Int.natCast_inj, or_true, true_or, freeB_list, unfr_f, unfr_i, unfr_b, unfr_c, unfr_s, free_c, free_s, ren_c, ren_s, unfr_ro, unfr_rptr, ren_ro, free_ll, free_box, Int.toNat_zero, isFF_ll, rowN_ll, rowX_ll, AllFree, Option.some.injEq, Prod.mk.injEq, Bool.false_eq_true, Bool.true_eq_false]
        have h2 : okOdd (n .u) m x = true := by simp only [okOdd, h0, Bool.true_and]; exact allN_true (e ▸ hx)
        refine fin_ret (.inl rfl) (by cbv) (by simp) (To.fresh (.cons (.tup (.cons (.i ?_) (.cons (.b ?_) .nil))) .nil))
        · simp only [h2, cond_true, e]
        · exact h2.symm
  · refine fin_ret (.inl rfl) (by cbv) (by simp) (To.fresh (.cons (.tup (.cons (.i ?_) (.cons (.b ?_) .nil))) .nil)) <;> simp_all [okOdd]
def ctImplOdd : CT := [(16, .g 0 kMean), (37, .r kLike)]
theorem ctImplOdd_ok : CTok Try.prog ctImplOdd := .cons implMean (.cons implLike (.nil _))
set_option maxHeartbeats 1000000 in
theorem implOdd : Tells Try.prog 42 (.r kOdd) := by
  intro args r H' p hr hp
  unfold kOdd at hr
  split at hr <;> first | (cases hr; done) | skip
  split at hr <;> cases hr
  rename_i n g hL
  refine ⟨allFr_tup2 .i .b, .nil, Con.pre (args' := [listFF false n (rowN g) (rowX g)]) ⟨.asLL hL hp, trivial⟩ ?_⟩
  have hn := hp.1
  have hm := fun i => hp.row (i := i)
  generalize rowN g = m at hm
  generalize rowX g = x
  refine Con.of ttok Try.func42 rfl rfl (Nat.zero_le _) (AW.exec ttok ctImplOdd_ok (by cbv) ?_)
  simp only [natCast_int, Post, All, thenA, canon0, canon064, and_true, true_and, forall_const, implies_true, decide_eq_true_eq, decide_eq_false_iff_not, Bool.not_eq_true', Bool.not_eq_false', Bool.true_and, Bool.and_true, beq_true, beq_false, Int.toNat_natCast, Int.ofNat_lt, Int.ofNat_le, Nat.zero_add, Nat.add_zero, imp_self, Bool.cond_false_right, Bool.cond_true_left, Bool.cond_true_right, IsF, rdF_eq, fOf, AV.f.injEq, exists_eq', free_list, free_fn0, List.not_mem_nil, List.mem_cons, false_imp, forall_eq, or_false, free_i, free_f, free_b, ren_f, ren_i, ren_b, and_self, bne_iff_ne, bne_eq_false_iff_eq, ne_eq, Int.natCast_inj, or_true, true_or, freeB_list, unfr_f, unfr_i, unfr_b, unfr_c, unfr_s, free_c, free_s, ren_c, ren_s, unfr_ro, unfr_rptr, ren_ro, free_ll, free_box, Int.toNat_zero, isFF_ll, rowN_ll, rowX_ll, AllFree, Option.some.injEq, Prod.mk.injEq, Bool.false_eq_true, Bool.true_eq_false, isFFg_ll, hn]
  (repeat' first | with_reducible assumption | with_reducible apply And.intro | with_reducible intro hh) <;> first | ((first | with_reducible show (_ : Int) ≤ _ | with_reducible show (_ : Int) < _ | with_reducible show (_ : Nat) ≤ _ | with_reducible show (_ : Nat) < _ | with_reducible show (_ : Int) = _ | with_reducible show (_ : Nat) = _ | with_reducible show ¬ _ | with_reducible show _ ≠ _) <;> first | omega | (simp only [Bool.and_eq_true, Bool.or_eq_false_iff, Bool.not_eq_false', Bool.not_eq_true', decide_eq_true_eq, decide_eq_false_iff_not] at *; omega) | (with_reducible assumption)) | (with_reducible assumption) | skip
  · have h0 : okMean (n .u) m x = true := by assumption
    have h1 : areS (n .u) m x = true := by simp only [okMean, Bool.and_eq_true] at h0; exact h0.1
    have hf : finN (m 0) (meanX (n .u) x) = true := by simp only [okMean, Bool.and_eq_true] at h0; exact h0.2
    have h1 := areS_facts h1
    refine AW.loopH (ι := Nat) (fun i => i ≤ n .u ∧ ∀ j, j < i → oddOk (n .u) m x j = true) (fun i => n .u - i) (fun i => mkE Try.f42.ntmps [(4, .own 0 (fun _ => 0) (fun _ => m 0) 1), (6, .i .i64 fun _ => ((oddN (n .u) m x i).1 : Int)), (7, .f .f32 fun _ => (oddN (n .u) m x i).2), (19, listFF false n m x), (20, .i .i64 fun _ => (n .u : Int)), (21, .i .i64 fun _ => (i : Int))])
      (fun i => [blkF true (fun _ => m 0) (meanX (n .u) x)]) 0 ⟨Nat.zero_le _, fun j hj => absurd hj (Nat.not_lt_zero _)⟩ (To.list (Nat.zero_le _) (Nat.le_refl _) (fun e => e) (fun j hj => AvTo.f rfl) ?_) ?_
    · (repeat' first | exact AllTo.nil | apply AllTo.cons) <;> first | exact AvTo.dead _ | exact AvTo.i rfl | exact AvTo.i (by simp only [natCast_int]; omega) | exact AvTo.f rfl | exact AvTo.own rfl rfl rfl rfl | exact Free.same (free_ll.2 trivial) | exact Free.same .listF
    · rintro Q' hQ i ⟨hi, hx⟩
      have hmi := h1.2.2.2.2 i
      have hmm := hm i
      refine AW.exec ttok ctImplOdd_ok (by cbv) ?_
      simp only [natCast_int, Post, All, thenA, canon0, canon064, and_true, true_and, forall_const, implies_true, decide_eq_true_eq, decide_eq_false_iff_not, Bool.not_eq_true', Bool.not_eq_false', Bool.true_and, Bool.and_true, beq_true, beq_false, Int.toNat_natCast, Int.ofNat_lt, Int.ofNat_le, Nat.zero_add, Nat.add_zero, imp_self, Bool.cond_false_right, Bool.cond_true_left, Bool.cond_true_right, IsF, rdF_eq, fOf, AV.f.injEq, exists_eq', free_list, free_fn0, List.not_mem_nil, List.mem_cons, false_imp, forall_eq, or_false, free_i, free_f, free_b, ren_f, ren_i, ren_b, and_self, bne_iff_ne, bne_eq_false_iff_eq, ne_eq, Int.natCast_inj, or_true, true_or, freeB_list, unfr_f, unfr_i, unfr_b, unfr_c, unfr_s, free_c, free_s, ren_c, ren_s, unfr_ro, unfr_rptr, ren_ro, free_ll, free_box, Int.toNat_zero, isFF_ll, rowN_ll, rowX_ll, AllFree, Option.some.injEq, Prod.mk.injEq, Bool.false_eq_true, Bool.true_eq_false, hn]
      (repeat' first | with_reducible assumption | with_reducible apply And.intro | with_reducible intro hh) <;> first | ((first | with_reducible show (_ : Int) ≤ _ | with_reducible show (_ : Int) < _ | with_reducible show (_ : Nat) ≤ _ | with_reducible show (_ : Nat) < _ | with_reducible show (_ : Int) = _ | with_reducible show (_ : Nat) = _ | with_reducible show ¬ _ | with_reducible show _ ≠ _) <;> first | omega | (simp only [Bool.and_eq_true, Bool.or_eq_false_iff, Bool.not_eq_false', Bool.not_eq_true', decide_eq_true_eq, decide_eq_false_iff_not] at *; omega) | (with_reducible assumption)) | (with_reducible assumption) | skip
      · obtain ⟨rfl⟩ := hQ
        have h2 : oddOk (n .u) m x i = false := (odd_like h0 ‹i < n .u›).symm.trans ‹okLike _ _ _ _ = false›
        refine Post.leaf (by cbv) (fin_ret (.inl rfl) (by cbv) (by simp) (To.fresh (.cons (.tup (.cons (.i ?_) (.cons (.b ?_) .nil))) .nil)))
        all_goals simp only [okOdd, allN_false (q := oddOk (n .u) m x) ‹i < n .u› h2, Bool.and_false, cond_false]
      · have e5 : okLike (m i) (x i) (m 0) (meanX (n .u) x) = true := ‹okLike _ _ _ _ = true›
        have h2 : oddOk (n .u) m x i = true := (odd_like h0 ‹i < n .u›).symm.trans ‹okLike _ _ _ _ = true›
        have e3 := odd_step h2 (b := true) (by have c := ‹(_ || _) = true›; simp only [e5] at c; exact c)
        refine ⟨i + 1, ⟨by omega, lt_succ_all hx h2⟩, by omega, To.list (Nat.zero_le _) (Nat.le_refl _) (fun e => e) (fun j hj => AvTo.f rfl) ?_⟩
        (repeat' first | exact AllTo.nil | apply AllTo.cons) <;> first | exact AvTo.dead _ | exact AvTo.i rfl | exact AvTo.i (by rw [e3]; rfl) | exact AvTo.i (by simp only [natCast_int]; omega) | exact AvTo.f (by rw [e3]; simp only [e5]; rfl) | exact AvTo.own rfl rfl rfl rfl | exact Free.same (free_ll.2 trivial) | exact Free.same .listF
      · have e5 : okLike (m i) (x i) (m 0) (meanX (n .u) x) = true := ‹okLike _ _ _ _ = true›
        have h2 : oddOk (n .u) m x i = true := (odd_like h0 ‹i < n .u›).symm.trans ‹okLike _ _ _ _ = true›
        have e3 := odd_step h2 (b := false) (by have c := ‹(_ || _) = false›; simp only [e5] at c; exact c)
        refine ⟨i + 1, ⟨by omega, lt_succ_all hx h2⟩, by omega, To.list (Nat.zero_le _) (Nat.le_refl _) (fun e => e) (fun j hj => AvTo.f rfl) ?_⟩
        (repeat' first | exact AllTo.nil | apply AllTo.cons) <;> first | exact AvTo.dead _ | exact AvTo.i rfl | exact AvTo.i (by rw [e3]; rfl) | exact AvTo.i (by simp only [natCast_int]; omega) | exact AvTo.f (by rw [e3]; rfl) | exact AvTo.own rfl rfl rfl rfl | exact Free.same (free_ll.2 trivial) | exact Free.same .listF
      · obtain ⟨rfl⟩ := hQ
        refine Post.eval (by cbv) ?_
        have e : i = n .u := by omega
        simp only [natCast_int, Post, All, thenA, canon0, canon064, and_true, true_and, forall_const, implies_true, decide_eq_true_eq, decide_eq_false_iff_not, Bool.not_eq_true', Bool.not_eq_false', Bool.true_and, Bool.and_true, beq_true, beq_false, Int.toNat_natCast, Int.ofNat_lt, Int.ofNat_le, Nat.zero_add, Nat.add_zero, imp_self, Bool.cond_false_right, Bool.cond_true_left, Bool.cond_true_right, IsF, rdF_eq, fOf, AV.f.injEq, exists_eq', free_list, free_fn0, List.not_mem_nil, List.mem_cons, false_imp, forall_eq, or_false, free_i, free_f, free_b, ren_f, ren_i, ren_b, and_self, bne_iff_ne, bne_eq_false_iff_eq, ne_eq, Int.natCast_inj, or_true, true_or, freeB_list, unfr_f, unfr_i, unfr_b, unfr_c, unfr_s, free_c, free_s, ren_c, ren_s, unfr_ro, unfr_rptr, ren_ro, free_ll, free_box, Int.toNat_zero, isFF_ll, rowN_ll, rowX_ll, AllFree, Option.some.injEq, Prod.mk.injEq, Bool.false_eq_true, Bool.true_eq_false]
        have h2 : okOdd (n .u) m x = true := by simp only [okOdd, h0, Bool.true_and]; exact allN_true (e ▸ hx)
        refine fin_ret (.inl rfl) (by cbv) (by simp) (To.fresh (.cons (.tup (.cons (.i ?_) (.cons (.b ?_) .nil))) .nil))
        · simp only [h2, cond_true, e]
        · exact h2.symm
  · refine fin_ret (.inl rfl) (by cbv) (by simp) (To.fresh (.cons (.tup (.cons (.i ?_) (.cons (.b ?_) .nil))) .nil)) <;> simp_all [okOdd]
end Go.Proofs.Ytngdpbjgmajfmaa
