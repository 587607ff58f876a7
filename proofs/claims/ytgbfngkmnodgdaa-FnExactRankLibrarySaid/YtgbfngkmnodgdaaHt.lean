/- Libraries ranked: the program's side, third part. -/
import Derived.Test.YtgbfngkmnodgdaaHs
set_option linter.unusedSimpArgs false
set_option linter.unusedVariables false
namespace Go.Proofs.Ytgbfngkmnodgdaa
open Go.Aw
theorem EntTo.box1 {H H' : Heap} {σ : List Nat} {fr fr' : Bool} {a a' : AV} (hf : fr' = true → fr = true) (h : AvTo H H' σ true a a') : EntTo H H' σ (some (fr, .box [a])) (some (fr', .box [a'])) := ⟨hf, fun off b hb => by
  cases hb with | box hb =>
    match off, hb with
    | 0, hb => cases hb; exact ⟨a, .box rfl, h⟩⟩
theorem rank_no2 {l n : Nat} {s : Nat → Nat} {m : Nat → Nat} {x : Nat → Nat → Nat} (h : (!areS n m x || ((l : Int) != (m 0 : Int))) = true) : okRank l s n m x = false := by
  cases h1 : areS n m x with
  | false => simp only [okRank, h1, Bool.false_and]
  | true =>
    rw [h1] at h
    simp only [Bool.not_true, Bool.false_or, bne_iff_ne, ne_eq] at h
    simp only [okRank, h1, decide_eq_false (show ¬ l = m 0 by omega), Bool.false_and, Bool.and_false]
noncomputable def ctImplRank : CT := [(39, .r kAre), (40, .r kLike), (41, .g 1 kSorts)]
theorem ctImplRank_ok : CTok Try.prog ctImplRank := .cons implAre (.cons implLike (.cons sorts_g (.nil _)))
set_option maxHeartbeats 2000000 in
theorem implRank : Tells Try.prog 14 (.g 0 kRank) := by
  intro args Hc r hr
  unfold kRank at hr
  split at hr <;> first | (cases hr; done) | skip
  split at hr <;> cases hr
  rename_i l h n g hL hL'
  refine AnsOk.two ttok Try.func14 rfl rfl (Nat.zero_le _) (Nat.zero_le _) (allFr_tup2 .own .b) (allFr_tup2 .v .b) (noLI_fr _ _) .nil fun hF => ⟨[listF false l (rdF h), listFF false n (rowN g) (rowX g)], ⟨Sub.asLg hL hF.1, Sub.asLLg hL' hF.2, trivial⟩, ?_⟩
  have hln := hF.1.1
  have hn := hF.2.1
  have hm := fun i => hF.2.row (i := i)
  generalize rowN g = m at hm
  generalize rowX g = x
  generalize rdF h = s
  refine AW.exec ttok ctImplRank_ok (by cbv) ?_
  simp only [natCast_int, Post, All, thenA, canon0, canon064, and_true, true_and, forall_const, implies_true, decide_eq_true_eq, decide_eq_false_iff_not, Bool.not_eq_true', Bool.not_eq_false', Bool.true_and, Bool.and_true, beq_true, beq_false, Int.toNat_natCast, Int.ofNat_lt, Int.ofNat_le, Nat.zero_add, Nat.add_zero, imp_self, Bool.cond_false_right, Bool.cond_true_left, Bool.cond_true_right, IsF, rdF_eq, fOf, AV.f.injEq, exists_eq', free_list, free_fn0, List.not_mem_nil, List.mem_cons, false_imp, forall_eq, or_false, free_i, free_f, free_b, ren_f, ren_i, ren_b, and_self, bne_iff_ne, bne_eq_false_iff_eq, ne_eq, Int.natCast_inj, or_true, true_or, freeB_list, unfr_f, unfr_i, unfr_b, unfr_c, unfr_s, free_c, free_s, ren_c, ren_s, unfr_ro, unfr_rptr, ren_ro, free_ll, free_box, kill_f, kill_i, kill_b, kill_c, kill_s, kill_rof, kill_rot, Int.toNat_zero, isFF_ll, rowN_ll, rowX_ll, AllFree, Option.some.injEq, Prod.mk.injEq, Bool.false_eq_true, Bool.true_eq_false, isFFg_ll, hn, hln]
  (repeat' first | with_reducible assumption | with_reducible apply And.intro | with_reducible intro hh) <;> first | ((first | with_reducible show (_ : Int) ≤ _ | with_reducible show (_ : Int) < _ | with_reducible show (_ : Nat) ≤ _ | with_reducible show (_ : Nat) < _ | with_reducible show (_ : Int) = _ | with_reducible show (_ : Nat) = _ | with_reducible show ¬ _ | with_reducible show _ ≠ _) <;> first | omega | (simp only [Bool.and_eq_true, Bool.or_eq_false_iff, Bool.not_eq_false', Bool.not_eq_true', decide_eq_true_eq, decide_eq_false_iff_not] at *; omega) | (with_reducible assumption)) | (with_reducible assumption) | skip
  · have := (areS_facts (by assumption)).1; omega
  · exact okA.no (rank_no2 (by assumption)) (fin_ret (.inl rfl) (by cbv) (by simp) (To.fresh noL_to))
  have c : (!areS (n .u) m x || ((l .u : Int) != (m 0 : Int))) = false := by assumption
  simp only [Bool.or_eq_false_iff, Bool.not_eq_false', bne_eq_false_iff_eq] at c
  obtain ⟨h0, h4⟩ := c
  have h4 : l .u = m 0 := by omega
  have h1 := areS_facts h0
  obtain ⟨n1, n8, _, m128, rows⟩ := h1
  refine AW.loopH (ι := Nat) (fun i => i ≤ n .u ∧ ∀ j, j < i → okLike (m j) (x j) (l .u) s = true) (fun i => n .u - i) (fun i => mkE Try.f14.ntmps [(0, listF false l s), (6, .ptr 2 (fun _ => 0) 1 0), (7, .own 1 (fun _ => 0) (fun _ => i) 1), (26, listFF false n m x), (27, .i .i64 fun _ => (n .u : Int)), (28, .i .i64 fun _ => (i : Int))])
    (fun i => [blkF true (fun _ => i) (likeK m x (l .u) s), blkI true (fun _ => i) (fun p => (p : Int)), some (true, .box [.own 0 (fun _ => 0) (fun _ => i) 1])]) 0 ⟨Nat.zero_le _, fun j hj => absurd hj (Nat.not_lt_zero _)⟩ (To.pick [0, 1, 2] (by decide) (Nat.zero_le _) (fun j hj => absurd hj (Nat.not_lt_zero _)) ⟨.list (fun e => e) (Nat.le_refl _) fun j hj => absurd hj (Nat.not_lt_zero _), .list (fun e => e) (Nat.le_refl _) fun j hj => absurd hj (Nat.not_lt_zero _), EntTo.box1 (fun e => e) (AvTo.own rfl rfl rfl rfl), trivial⟩ ?_) ?_
  · (repeat' first | exact AllTo.nil | apply AllTo.cons) <;> first | exact AvTo.dead _ | exact AvTo.i rfl | exact AvTo.ptr rfl rfl rfl | exact AvTo.own rfl rfl rfl rfl | exact Free.same (free_ll.2 trivial) | exact Free.same .listF
  · rintro Q' hQ i ⟨hi, hx⟩
    refine AW.exec ttok ctImplRank_ok (by cbv) ?_
    simp only [natCast_int, Post, All, thenA, canon0, canon064, and_true, true_and, forall_const, implies_true, decide_eq_true_eq, decide_eq_false_iff_not, Bool.not_eq_true', Bool.not_eq_false', Bool.true_and, Bool.and_true, beq_true, beq_false, Int.toNat_natCast, Int.ofNat_lt, Int.ofNat_le, Nat.zero_add, Nat.add_zero, imp_self, Bool.cond_false_right, Bool.cond_true_left, Bool.cond_true_right, IsF, rdF_eq, fOf, AV.f.injEq, exists_eq', free_list, free_fn0, List.not_mem_nil, List.mem_cons, false_imp, forall_eq, or_false, free_i, free_f, free_b, ren_f, ren_i, ren_b, and_self, bne_iff_ne, bne_eq_false_iff_eq, ne_eq, Int.natCast_inj, or_true, true_or, freeB_list, unfr_f, unfr_i, unfr_b, unfr_c, unfr_s, free_c, free_s, ren_c, ren_s, unfr_ro, unfr_rptr, ren_ro, free_ll, free_box, kill_f, kill_i, kill_b, kill_c, kill_s, kill_rof, kill_rot, Int.toNat_zero, isFF_ll, rowN_ll, rowX_ll, AllFree, Option.some.injEq, Prod.mk.injEq, Bool.false_eq_true, Bool.true_eq_false, hn, hln]
    (repeat' first | with_reducible assumption | with_reducible apply And.intro | with_reducible intro hh) <;> first | ((first | with_reducible show (_ : Int) ≤ _ | with_reducible show (_ : Int) < _ | with_reducible show (_ : Nat) ≤ _ | with_reducible show (_ : Nat) < _ | with_reducible show (_ : Int) = _ | with_reducible show (_ : Nat) = _ | with_reducible show ¬ _ | with_reducible show _ ≠ _) <;> first | omega | (simp only [Bool.and_eq_true, Bool.or_eq_false_iff, Bool.not_eq_false', Bool.not_eq_true', decide_eq_true_eq, decide_eq_false_iff_not] at *; omega) | (with_reducible assumption)) | (with_reducible assumption) | skip
    · exact hm i (by assumption)
    · have h5 : okLike (m i) (x i) (l .u) s = false := by assumption
      obtain ⟨rfl⟩ := hQ
      refine Post.leaf (by cbv) ?_
      refine okA.no ?_ (fin_ret (.inl rfl) (by cbv) (by simp) (To.fresh noL_to))
      have h6 : allN (fun i => okLike (m i) (x i) (l .u) s) (n .u) = false := allN_false (n := n .u) (j := i) (by assumption) h5
      show okRank (l .u) s (n .u) m x = false
      simp only [okRank, h6, Bool.and_false]
    · have h5 : okLike (m i) (x i) (l .u) s = true := by assumption
      have hlt : i < n .u := by assumption
      refine ⟨i + 1, ⟨by omega, lt_succ_all hx h5⟩, by omega, To.pick [4, 6, 2] (by decide) (Nat.zero_le _) (fun j hj => absurd hj (Nat.not_lt_zero _)) ⟨.list (fun e => e) (Nat.le_refl _) fun j hj => app_one hj (fun _ => AvTo.f rfl) fun e => AvTo.f ?_, .list (fun e => e) (Nat.le_refl _) fun j hj => app_one hj (fun _ => AvTo.i rfl) fun e => AvTo.i (by subst e; rfl), EntTo.box1 (fun e => e) (AvTo.own rfl rfl rfl rfl), trivial⟩ ?_⟩
      · subst e
        show (bif okLike (m j) (x j) (l .u) s then likeV (m j) (x j) (l .u) s else 0) = likeK m x (l .u) s j
        rw [h5]
        rfl
      · (repeat' first | exact AllTo.nil | apply AllTo.cons) <;> first | exact AvTo.dead _ | exact AvTo.i rfl | exact AvTo.i (by simp only [natCast_int]; omega) | exact AvTo.ptr rfl rfl rfl | exact AvTo.own rfl rfl rfl rfl | exact Free.same (free_ll.2 trivial) | exact Free.same .listF
    · obtain ⟨rfl⟩ := hQ
      refine Post.eval (by cbv) ?_
      have e : i = n .u := by omega
      have hall : ∀ i, i < n .u → isFin (likeK m x (l .u) s i) = true := fun j hj => like_fin (hx j (by omega))
      have hR : okRank (l .u) s (n .u) m x = true := by
        simp only [okRank, h0, decide_eq_true h4, Bool.true_and]
        exact allN_true fun j hj => hx j (by omega)
      simp only [natCast_int, Post, All, thenA, canon0, canon064, and_true, true_and, forall_const, implies_true, decide_eq_true_eq, decide_eq_false_iff_not, Bool.not_eq_true', Bool.not_eq_false', Bool.true_and, Bool.and_true, beq_true, beq_false, Int.toNat_natCast, Int.ofNat_lt, Int.ofNat_le, Nat.zero_add, Nat.add_zero, imp_self, Bool.cond_false_right, Bool.cond_true_left, Bool.cond_true_right, IsF, rdF_eq, fOf, AV.f.injEq, exists_eq', free_list, free_fn0, List.not_mem_nil, List.mem_cons, false_imp, forall_eq, or_false, free_i, free_f, free_b, ren_f, ren_i, ren_b, and_self, bne_iff_ne, bne_eq_false_iff_eq, ne_eq, Int.natCast_inj, or_true, true_or, freeB_list, unfr_f, unfr_i, unfr_b, unfr_c, unfr_s, free_c, free_s, ren_c, ren_s, unfr_ro, unfr_rptr, ren_ro, free_ll, free_box, kill_f, kill_i, kill_b, kill_c, kill_s, kill_rof, kill_rot, Int.toNat_zero, isFF_ll, rowN_ll, rowX_ll, AllFree, Option.some.injEq, Prod.mk.injEq, Bool.false_eq_true, Bool.true_eq_false, e, hn]
      (repeat' first | with_reducible assumption | with_reducible apply And.intro | with_reducible intro hh) <;> first | ((first | with_reducible show (_ : Int) ≤ _ | with_reducible show (_ : Int) < _ | with_reducible show (_ : Nat) ≤ _ | with_reducible show (_ : Nat) < _ | with_reducible show (_ : Int) = _ | with_reducible show (_ : Nat) = _ | with_reducible show ¬ _ | with_reducible show _ ≠ _) <;> first | omega | (simp only [Bool.and_eq_true, Bool.or_eq_false_iff, Bool.not_eq_false', Bool.not_eq_true', decide_eq_true_eq, decide_eq_false_iff_not] at *; omega) | (with_reducible assumption)) | (with_reducible assumption) | skip
      · exact fun off a ha => by cases ha with | tab i c hi hc => exact .i
      · exact ⟨⟨⟨hn, fun j hj => ⟨_, rfl⟩⟩, hn, fun j hj => ⟨_, rfl⟩⟩, ⟨rfl, rfl, rfl, Nat.le_refl _, n1, n8⟩, fun p hp => rfl, hall⟩
      · exact okA.yes hR (fin_ret (.inl rfl) (by cbv) (by simp) (To.moved (k := 1) rfl (Nat.le_refl _) (fun e => e) (fun j hj => AvTo.i rfl) (.cons (.tup (.cons (AvTo.own rfl rfl rfl rfl) (.cons (.b rfl) .nil))) .nil)))
end Go.Proofs.Ytgbfngkmnodgdaa
