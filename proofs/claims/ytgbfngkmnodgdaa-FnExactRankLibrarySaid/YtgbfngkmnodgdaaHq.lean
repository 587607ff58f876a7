/- Libraries ranked: the reference's side. -/
import Derived.Test.YtgbfngkmnodgdaaHe
import Derived.Test.YtgbfngkmnodgdaaFi
import Derived.Test.YtgbfngkmnodgdaaFj
set_option linter.unusedSimpArgs false
set_option linter.unusedVariables false
namespace Go.Proofs.Ytgbfngkmnodgdaa
open Go.Aw
def likeK (m : Nat → Nat) (x : Nat → Nat → Nat) (l : Nat) (s : Nat → Nat) (i : Nat) : Nat := likeV (m i) (x i) l s
def okRank (l : Nat) (s : Nat → Nat) (n : Nat) (m : Nat → Nat) (x : Nat → Nat → Nat) : Bool := areS n m x && (decide (l = m 0) && allN (fun i => okLike (m i) (x i) l s) n)
noncomputable def rankX (l : Nat) (s : Nat → Nat) (n : Nat) (m : Nat → Nat) (x : Nat → Nat → Nat) (p : Nat) : Nat := sortOf (fun i => keyF (likeK m x l s i)) n p
noncomputable abbrev ansLI (n : Th Nat) (x : Nat → Int) (ok : Bool) (p : Prop) : Ans := .two (fun _ => ok) (.one (yesL n) [blkI true n x] fun _ => p) (.one noL [] fun _ => p)
noncomputable def kRank : Kg
  | [a, b], [] => match asLg a, asLLg b with
    | some (l, h), some (n, g) => some (ansLI n (fun p => (rankX (l .u) (rdF h) (n .u) (rowN g) (rowX g) p : Int)) (okRank (l .u) (rdF h) (n .u) (rowN g) (rowX g)) (IsF l h ∧ IsFFg n g))
    | _, _ => none
  | _, _ => none
theorem rank_no1 {l n : Nat} {s : Nat → Nat} {m : Nat → Nat} {x : Nat → Nat → Nat} (h : (!areS n m x || !isTwo l s (m 0) (x 0)) = true) : okRank l s n m x = false := by
  cases h1 : areS n m x with
  | false => simp only [okRank, h1, Bool.false_and]
  | true =>
    rw [h1] at h
    simp only [Bool.not_true, Bool.false_or, Bool.not_eq_true'] at h
    have hf := areS_facts h1
    have h2 := (hf.2.2.2.2 0 (by omega)).2
    by_cases e : l = m 0
    · simp only [isTwo, h2, decide_eq_true e, Bool.and_true] at h
      have h3 : okLike (m 0) (x 0) l s = false := by simp only [okLike, isTwo, h, Bool.false_and, Bool.and_false]
      have h5 : allN (fun i => okLike (m i) (x i) l s) n = false := allN_false (n := n) (j := 0) hf.1 h3
      simp only [okRank, h5, Bool.and_false]
    · simp only [okRank, decide_eq_false e, Bool.false_and, Bool.and_false]
theorem rank_yes1 {l n : Nat} {s : Nat → Nat} {m : Nat → Nat} {x : Nat → Nat → Nat} (h : (!areS n m x || !isTwo l s (m 0) (x 0)) = false) : areS n m x = true ∧ isList l s = true ∧ l = m 0 := by
  simp only [Bool.or_eq_false_iff, Bool.not_eq_false', isTwo, Bool.and_eq_true, decide_eq_true_eq] at h
  exact ⟨h.1, h.2.1, h.2.2.2⟩
theorem like_v {l n : Nat} {s : Nat → Nat} {m : Nat → Nat} {x : Nat → Nat → Nat} (h : areS n m x = true) (hs : isList l s = true) (hl : l = m 0) {i : Nat} (hi : i < n) : okLike (m i) (x i) l s = okLikeV (m i) (x i) l s := by
  have := (areS_facts h).2.2.2.2 i hi
  simp only [okLike, isTwo, this.2, hs, decide_eq_true (this.1.trans hl.symm), Bool.true_and]
theorem like_fin {a b : Nat} {y s : Nat → Nat} (h : okLike a y b s = true) : isFin (likeV a y b s) = true := by
  simp only [okLike, okLikeV, Bool.and_eq_true] at h
  exact h.2.2.2
theorem noLI_fr (n : Th Nat) (x : Nat → Int) : FrH [blkI true n x] := .cons (fun fr B e => by cases e; exact .tab fun _ _ _ _ => .i) .nil
def takB (σ : Nat → Nat) (r k : Nat) : Bool := (List.range r).any fun q => σ q == k
theorem takB_iff {σ : Nat → Nat} {r k : Nat} : takB σ r k = true ↔ ∃ q, q < r ∧ σ q = k := by
  simp [takB]
theorem takB_succ {σ : Nat → Nat} {r k : Nat} : takB σ (r + 1) k = (takB σ r k || (σ r == k)) := by
  simp [takB, List.range_succ]
def ctSpecRank : CT := [(36, .r kAre), (37, .r kTwo), (38, .r kLikeV)]
theorem ctSpecRank_ok : CTok Try.prog ctSpecRank := .cons l07Spectra_tells (.cons l07Two_tells (.cons l07Like_tells (.nil _)))
set_option maxHeartbeats 2000000 in
theorem specRank : Tells Try.prog 11 (.g 0 kRank) := by
  intro args Hc r hr
  unfold kRank at hr
  split at hr <;> first | (cases hr; done) | skip
  split at hr <;> cases hr
  rename_i l h n g hL hL'
  refine AnsOk.two ttok Try.func11 rfl rfl (Nat.zero_le _) (Nat.zero_le _) (allFr_tup2 .own .b) (allFr_tup2 .v .b) (noLI_fr _ _) .nil fun hF => ⟨[listF false l (rdF h), listFF false n (rowN g) (rowX g)], ⟨Sub.asLg hL hF.1, Sub.asLLg hL' hF.2, trivial⟩, ?_⟩
  have hln := hF.1.1
  have hn := hF.2.1
  have hm := fun i => hF.2.row (i := i)
  generalize rowN g = m at hm
  generalize rowX g = x
  generalize rdF h = s
  have a1 := eq_true hm
  by_cases hz : 0 < n .u
  case neg =>
    have h0 : areS (n .u) m x = false := by
      cases e : areS (n .u) m x with
      | false => rfl
      | true => have := (areS_facts e).1; omega
    refine AW.exec ttok ctSpecRank_ok (by cbv) ?_
    simp only [natCast_int, Post, All, thenA, canon0, canon064, and_true, true_and, forall_const, implies_true, decide_eq_true_eq, decide_eq_false_iff_not, Bool.not_eq_true', Bool.not_eq_false', Bool.true_and, Bool.and_true, beq_true, beq_false, Int.toNat_natCast, Int.ofNat_lt, Int.ofNat_le, Nat.zero_add, Nat.add_zero, imp_self, Bool.cond_false_right, Bool.cond_true_left, Bool.cond_true_right, IsF, rdF_eq, fOf, AV.f.injEq, exists_eq', free_list, free_fn0, List.not_mem_nil, List.mem_cons, false_imp, forall_eq, or_false, free_i, free_f, free_b, ren_f, ren_i, ren_b, and_self, bne_iff_ne, bne_eq_false_iff_eq, ne_eq, Int.natCast_inj, or_true, true_or, freeB_list, unfr_f, unfr_i, unfr_b, unfr_c, unfr_s, free_c, free_s, ren_c, ren_s, unfr_ro, unfr_rptr, ren_ro, free_ll, free_box, kill_f, kill_i, kill_b, kill_c, kill_s, kill_rof, kill_rot, Int.toNat_zero, isFF_ll, rowN_ll, rowX_ll, AllFree, Option.some.injEq, Prod.mk.injEq, Bool.false_eq_true, Bool.true_eq_false, isFFg_ll, hn, hln, a1, h0]
    (repeat' first | with_reducible assumption | with_reducible apply And.intro | with_reducible intro hh) <;> first | ((first | with_reducible show (_ : Int) ≤ _ | with_reducible show (_ : Int) < _ | with_reducible show (_ : Nat) ≤ _ | with_reducible show (_ : Nat) < _ | with_reducible show (_ : Int) = _ | with_reducible show (_ : Nat) = _ | with_reducible show ¬ _ | with_reducible show _ ≠ _) <;> first | omega | (simp only [Bool.and_eq_true, Bool.or_eq_false_iff, Bool.not_eq_false', Bool.not_eq_true', decide_eq_true_eq, decide_eq_false_iff_not] at *; omega) | (with_reducible assumption)) | (with_reducible assumption) | skip
    · exact okA.no (by simp only [okRank, h0, Bool.false_and]) (fin_ret (.inl rfl) (by cbv) (by simp) (To.fresh noL_to))
    · rename_i hh
      cases hh
  have hm0 := hm 0 hz
  refine AW.exec ttok ctSpecRank_ok (by cbv) ?_
  simp only [natCast_int, Post, All, thenA, canon0, canon064, and_true, true_and, forall_const, implies_true, decide_eq_true_eq, decide_eq_false_iff_not, Bool.not_eq_true', Bool.not_eq_false', Bool.true_and, Bool.and_true, beq_true, beq_false, Int.toNat_natCast, Int.ofNat_lt, Int.ofNat_le, Nat.zero_add, Nat.add_zero, imp_self, Bool.cond_false_right, Bool.cond_true_left, Bool.cond_true_right, IsF, rdF_eq, fOf, AV.f.injEq, exists_eq', free_list, free_fn0, List.not_mem_nil, List.mem_cons, false_imp, forall_eq, or_false, free_i, free_f, free_b, ren_f, ren_i, ren_b, and_self, bne_iff_ne, bne_eq_false_iff_eq, ne_eq, Int.natCast_inj, or_true, true_or, freeB_list, unfr_f, unfr_i, unfr_b, unfr_c, unfr_s, free_c, free_s, ren_c, ren_s, unfr_ro, unfr_rptr, ren_ro, free_ll, free_box, kill_f, kill_i, kill_b, kill_c, kill_s, kill_rof, kill_rot, Int.toNat_zero, isFF_ll, rowN_ll, rowX_ll, AllFree, Option.some.injEq, Prod.mk.injEq, Bool.false_eq_true, Bool.true_eq_false, isFFg_ll, hn, hln, a1, hm0]
  (repeat' first | with_reducible assumption | with_reducible apply And.intro | with_reducible intro hh) <;> first | ((first | with_reducible show (_ : Int) ≤ _ | with_reducible show (_ : Int) < _ | with_reducible show (_ : Nat) ≤ _ | with_reducible show (_ : Nat) < _ | with_reducible show (_ : Int) = _ | with_reducible show (_ : Nat) = _ | with_reducible show ¬ _ | with_reducible show _ ≠ _) <;> first | omega | (simp only [Bool.and_eq_true, Bool.or_eq_false_iff, Bool.not_eq_false', Bool.not_eq_true', decide_eq_true_eq, decide_eq_false_iff_not] at *; omega) | (with_reducible assumption)) | (with_reducible assumption) | skip
  · exact okA.no (rank_no1 ‹(_ || _) = true›) (fin_ret (.inl rfl) (by cbv) (by simp) (To.fresh noL_to))
  obtain ⟨h0, h3, h4⟩ := rank_yes1 ‹(_ || _) = false›
  have h1 := areS_facts h0
  obtain ⟨n1, n8, _, m128, rows⟩ := h1
  refine AW.loopH (ι := Nat) (fun i => i ≤ n .u ∧ ∀ j, j < i → okLike (m j) (x j) (l .u) s = true) (fun i => n .u - i) (fun i => mkE Try.f11.ntmps [(0, listF false l s), (1, listFF false n m x), (6, .own 0 (fun _ => 0) (fun _ => i) 1), (27, .i .i64 fun _ => (n .u : Int)), (28, .i .i64 fun _ => (i : Int))])
    (fun i => [blkF true (fun _ => i) (likeK m x (l .u) s)]) 0 ⟨Nat.zero_le _, fun j hj => absurd hj (Nat.not_lt_zero _)⟩ (To.list (Nat.zero_le _) (Nat.le_refl _) (fun e => e) (fun j hj => absurd hj (Nat.not_lt_zero _)) ?_) ?_
  · (repeat' first | exact AllTo.nil | apply AllTo.cons) <;> first | exact AvTo.dead _ | exact AvTo.i rfl | exact AvTo.own rfl rfl rfl rfl | exact Free.same (free_ll.2 trivial) | exact Free.same .listF
  · rintro Q' hQ i ⟨hi, hx⟩
    by_cases hlt : i < n .u
    · obtain ⟨e1, _⟩ := rows i hlt
      have e2 : m i = l .u := e1.trans h4.symm
      have hl7 : l .u ≤ 1048576 := by omega
      refine AW.exec ttok ctSpecRank_ok (by cbv) ?_
      simp only [natCast_int, Post, All, thenA, canon0, canon064, and_true, true_and, forall_const, implies_true, decide_eq_true_eq, decide_eq_false_iff_not, Bool.not_eq_true', Bool.not_eq_false', Bool.true_and, Bool.and_true, beq_true, beq_false, Int.toNat_natCast, Int.ofNat_lt, Int.ofNat_le, Nat.zero_add, Nat.add_zero, imp_self, Bool.cond_false_right, Bool.cond_true_left, Bool.cond_true_right, IsF, rdF_eq, fOf, AV.f.injEq, exists_eq', free_list, free_fn0, List.not_mem_nil, List.mem_cons, false_imp, forall_eq, or_false, free_i, free_f, free_b, ren_f, ren_i, ren_b, and_self, bne_iff_ne, bne_eq_false_iff_eq, ne_eq, Int.natCast_inj, or_true, true_or, freeB_list, unfr_f, unfr_i, unfr_b, unfr_c, unfr_s, free_c, free_s, ren_c, ren_s, unfr_ro, unfr_rptr, ren_ro, free_ll, free_box, kill_f, kill_i, kill_b, kill_c, kill_s, kill_rof, kill_rot, Int.toNat_zero, isFF_ll, rowN_ll, rowX_ll, AllFree, Option.some.injEq, Prod.mk.injEq, Bool.false_eq_true, Bool.true_eq_false, hn, hln, e2, hl7, Nat.le_refl]
      (repeat' first | with_reducible assumption | with_reducible apply And.intro | with_reducible intro hh) <;> first | ((first | with_reducible show (_ : Int) ≤ _ | with_reducible show (_ : Int) < _ | with_reducible show (_ : Nat) ≤ _ | with_reducible show (_ : Nat) < _ | with_reducible show (_ : Int) = _ | with_reducible show (_ : Nat) = _ | with_reducible show ¬ _ | with_reducible show _ ≠ _) <;> first | omega | (simp only [Bool.and_eq_true, Bool.or_eq_false_iff, Bool.not_eq_false', Bool.not_eq_true', decide_eq_true_eq, decide_eq_false_iff_not] at *; omega) | (with_reducible assumption)) | (with_reducible assumption) | skip
      · have h5 : okLike (m i) (x i) (l .u) s = false := (like_v h0 h3 h4 hlt).trans (by rw [e2]; assumption)
        obtain ⟨rfl⟩ := hQ
        refine Post.leaf (by cbv) ?_
        refine okA.no ?_ (fin_ret (.inl rfl) (by cbv) (by simp) (To.fresh noL_to))
        have h6 : allN (fun i => okLike (m i) (x i) (l .u) s) (n .u) = false := allN_false (n := n .u) (j := i) hlt h5
        show okRank (l .u) s (n .u) m x = false
        simp only [okRank, h6, Bool.and_false]
      · have h7 : okLikeV (l .u) (x i) (l .u) s = true := by assumption
        have h5 : okLike (m i) (x i) (l .u) s = true := (like_v h0 h3 h4 hlt).trans (by rw [e2]; exact h7)
        refine ⟨i + 1, ⟨by omega, lt_succ_all hx h5⟩, by omega, To.moved (k := 2) rfl (Nat.le_refl _) (fun e => e) (fun j hj => app_one hj (fun _ => AvTo.f rfl) fun e => AvTo.f ?_) ?_⟩
        · subst e
          show (bif okLikeV (l .u) (x j) (l .u) s then likeV (l .u) (x j) (l .u) s else 0) = likeK m x (l .u) s j
          rw [h7]
          simp only [likeK, e2, cond_true]
        · (repeat' first | exact AllTo.nil | apply AllTo.cons) <;> first | exact AvTo.dead _ | exact AvTo.i rfl | exact AvTo.i (by simp only [natCast_int]; omega) | exact AvTo.f rfl | exact AvTo.own rfl rfl rfl rfl | exact Free.same (free_ll.2 trivial) | exact Free.same .listF
      · exfalso; omega
    · refine AW.exec ttok ctSpecRank_ok (by cbv) ?_
      simp only [natCast_int, Post, All, thenA, canon0, canon064, and_true, true_and, forall_const, implies_true, decide_eq_true_eq, decide_eq_false_iff_not, Bool.not_eq_true', Bool.not_eq_false', Bool.true_and, Bool.and_true, beq_true, beq_false, Int.toNat_natCast, Int.ofNat_lt, Int.ofNat_le, Nat.zero_add, Nat.add_zero, imp_self, Bool.cond_false_right, Bool.cond_true_left, Bool.cond_true_right, IsF, rdF_eq, fOf, AV.f.injEq, exists_eq', free_list, free_fn0, List.not_mem_nil, List.mem_cons, false_imp, forall_eq, or_false, free_i, free_f, free_b, ren_f, ren_i, ren_b, and_self, bne_iff_ne, bne_eq_false_iff_eq, ne_eq, Int.natCast_inj, or_true, true_or, freeB_list, unfr_f, unfr_i, unfr_b, unfr_c, unfr_s, free_c, free_s, ren_c, ren_s, unfr_ro, unfr_rptr, ren_ro, free_ll, free_box, kill_f, kill_i, kill_b, kill_c, kill_s, kill_rof, kill_rot, Int.toNat_zero, isFF_ll, rowN_ll, rowX_ll, AllFree, Option.some.injEq, Prod.mk.injEq, Bool.false_eq_true, Bool.true_eq_false, hn, hln]
      (repeat' first | with_reducible assumption | with_reducible apply And.intro | with_reducible intro hh) <;> first | ((first | with_reducible show (_ : Int) ≤ _ | with_reducible show (_ : Int) < _ | with_reducible show (_ : Nat) ≤ _ | with_reducible show (_ : Nat) < _ | with_reducible show (_ : Int) = _ | with_reducible show (_ : Nat) = _ | with_reducible show ¬ _ | with_reducible show _ ≠ _) <;> first | omega | (simp only [Bool.and_eq_true, Bool.or_eq_false_iff, Bool.not_eq_false', Bool.not_eq_true', decide_eq_true_eq, decide_eq_false_iff_not] at *; omega) | (with_reducible assumption)) | (with_reducible assumption) | skip
      · exfalso; omega
      · exfalso; omega
      obtain ⟨rfl⟩ := hQ
      refine Post.eval (by cbv) ?_
      have e : i = n .u := by omega
      have hnn : n .u ≤ 1048576 := by omega
      have hnp : ¬ ((n .u : Int) < 0) := by omega
      simp only [natCast_int, Post, All, thenA, canon0, canon064, and_true, true_and, forall_const, implies_true, decide_eq_true_eq, decide_eq_false_iff_not, Bool.not_eq_true', Bool.not_eq_false', Bool.true_and, Bool.and_true, beq_true, beq_false, Int.toNat_natCast, Int.ofNat_lt, Int.ofNat_le, Nat.zero_add, Nat.add_zero, imp_self, Bool.cond_false_right, Bool.cond_true_left, Bool.cond_true_right, IsF, rdF_eq, fOf, AV.f.injEq, exists_eq', free_list, free_fn0, List.not_mem_nil, List.mem_cons, false_imp, forall_eq, or_false, free_i, free_f, free_b, ren_f, ren_i, ren_b, and_self, bne_iff_ne, bne_eq_false_iff_eq, ne_eq, Int.natCast_inj, or_true, true_or, freeB_list, unfr_f, unfr_i, unfr_b, unfr_c, unfr_s, free_c, free_s, ren_c, ren_s, unfr_ro, unfr_rptr, ren_ro, free_ll, free_box, kill_f, kill_i, kill_b, kill_c, kill_s, kill_rof, kill_rot, Int.toNat_zero, isFF_ll, rowN_ll, rowX_ll, AllFree, Option.some.injEq, Prod.mk.injEq, Bool.false_eq_true, Bool.true_eq_false, e, hn, hnn, hnp]
      (repeat' first | with_reducible assumption | with_reducible apply And.intro | with_reducible intro hh) <;> first | ((first | with_reducible show (_ : Int) ≤ _ | with_reducible show (_ : Int) < _ | with_reducible show (_ : Nat) ≤ _ | with_reducible show (_ : Nat) < _ | with_reducible show (_ : Int) = _ | with_reducible show (_ : Nat) = _ | with_reducible show ¬ _ | with_reducible show _ ≠ _) <;> first | omega | (simp only [Bool.and_eq_true, Bool.or_eq_false_iff, Bool.not_eq_false', Bool.not_eq_true', decide_eq_true_eq, decide_eq_false_iff_not] at *; omega) | (with_reducible assumption)) | (with_reducible assumption) | skip
      have hall : ∀ i, i < n .u → isFin (likeK m x (l .u) s i) = true := fun j hj => like_fin (hx j (by omega))
      have hR : okRank (l .u) s (n .u) m x = true := by
        simp only [okRank, h0, decide_eq_true h4, Bool.true_and]
        exact allN_true fun j hj => hx j (by omega)
      have hs : Sorted (fun i => keyF (likeK m x (l .u) s i)) (n .u) (rankX (l .u) s (n .u) m x) := sortOf_sorted _ _
      generalize rankX (l .u) s (n .u) m x = σ at hs
      refine AW.loopH (ι := Nat) (fun r => r ≤ n .u) (fun r => n .u - r) (fun r => mkE Try.f11.ntmps [(6, .own 0 (fun _ => 0) (fun _ => n .u) 1), (10, .own 1 (fun _ => 0) (fun _ => n .u) 1), (11, .own 2 (fun _ => 0) (fun _ => r) 1), (52, .i .i64 fun _ => (n .u : Int)), (53, .i .i64 fun _ => (r : Int))])
        (fun r => [blkF true (fun _ => n .u) (likeK m x (l .u) s), some (true, .tab (fun _ => n .u) 1 fun j _ => .b fun _ => takB σ r (j .u)), blkI true (fun _ => r) fun p => (σ p : Int)]) 0 (Nat.zero_le _) (To.pick [0, 1, 2] (by decide) (Nat.zero_le _) (fun j hj => absurd hj (Nat.not_lt_zero _)) ⟨.list (fun e => e) (Nat.le_refl _) fun j hj => AvTo.f rfl, .list (fun e => e) (Nat.le_refl _) fun j hj => AvTo.b rfl, .list (fun e => e) (Nat.le_refl _) fun j hj => absurd hj (Nat.not_lt_zero _), trivial⟩ ?_) ?_
      · (repeat' first | exact AllTo.nil | apply AllTo.cons) <;> first | exact AvTo.dead _ | exact AvTo.i rfl | exact AvTo.i (by simp only [natCast_int]; omega) | exact AvTo.f rfl | exact AvTo.own rfl rfl rfl rfl | exact Free.same (free_ll.2 trivial) | exact Free.same .listF
      · rintro Q2 hQ2 r hr
        refine AW.exec ttok ctSpecRank_ok (by cbv) ?_
        simp only [natCast_int, Post, All, thenA, canon0, canon064, and_true, true_and, forall_const, implies_true, decide_eq_true_eq, decide_eq_false_iff_not, Bool.not_eq_true', Bool.not_eq_false', Bool.true_and, Bool.and_true, beq_true, beq_false, Int.toNat_natCast, Int.ofNat_lt, Int.ofNat_le, Nat.zero_add, Nat.add_zero, imp_self, Bool.cond_false_right, Bool.cond_true_left, Bool.cond_true_right, IsF, rdF_eq, fOf, AV.f.injEq, exists_eq', free_list, free_fn0, List.not_mem_nil, List.mem_cons, false_imp, forall_eq, or_false, free_i, free_f, free_b, ren_f, ren_i, ren_b, and_self, bne_iff_ne, bne_eq_false_iff_eq, ne_eq, Int.natCast_inj, or_true, true_or, freeB_list, unfr_f, unfr_i, unfr_b, unfr_c, unfr_s, free_c, free_s, ren_c, ren_s, unfr_ro, unfr_rptr, ren_ro, free_ll, free_box, kill_f, kill_i, kill_b, kill_c, kill_s, kill_rof, kill_rot, Int.toNat_zero, isFF_ll, rowN_ll, rowX_ll, AllFree, Option.some.injEq, Prod.mk.injEq, Bool.false_eq_true, Bool.true_eq_false, hn]
        (repeat' first | with_reducible assumption | with_reducible apply And.intro | with_reducible intro hh) <;> first | ((first | with_reducible show (_ : Int) ≤ _ | with_reducible show (_ : Int) < _ | with_reducible show (_ : Nat) ≤ _ | with_reducible show (_ : Nat) < _ | with_reducible show (_ : Int) = _ | with_reducible show (_ : Nat) = _ | with_reducible show ¬ _ | with_reducible show _ ≠ _) <;> first | omega | (simp only [Bool.and_eq_true, Bool.or_eq_false_iff, Bool.not_eq_false', Bool.not_eq_true', decide_eq_true_eq, decide_eq_false_iff_not] at *; omega) | (with_reducible assumption)) | (with_reducible assumption) | skip
        · refine AW.loopH (ι := Nat × Int) (fun q => q.1 ≤ n .u ∧ Best (fun i => keyF (likeK m x (l .u) s i)) (fun k => takB σ r k = true) q.1 q.2) (fun q => n .u - q.1) (fun q => mkE Try.f11.ntmps [(6, .own 0 (fun _ => 0) (fun _ => n .u) 1), (10, .own 1 (fun _ => 0) (fun _ => n .u) 1), (11, .own 2 (fun _ => 0) (fun _ => r) 1), (12, .i .i64 fun _ => q.2), (52, .i .i64 fun _ => (n .u : Int)), (53, .i .i64 fun _ => (r : Int)), (56, .i .i64 fun _ => (n .u : Int)), (57, .i .i64 fun _ => (q.1 : Int))])
            (fun q => [blkF true (fun _ => n .u) (likeK m x (l .u) s), some (true, .tab (fun _ => n .u) 1 fun j _ => .b fun _ => takB σ r (j .u)), blkI true (fun _ => r) fun p => (σ p : Int)]) (0, -1) ⟨Nat.zero_le _, Best.start _ _⟩ (To.pick [0, 1, 2] (by decide) (Nat.zero_le _) (fun j hj => absurd hj (Nat.not_lt_zero _)) ⟨.list (fun e => e) (Nat.le_refl _) fun j hj => AvTo.f rfl, .list (fun e => e) (Nat.le_refl _) fun j hj => AvTo.b rfl, .list (fun e => e) (Nat.le_refl _) fun j hj => AvTo.i rfl, trivial⟩ ?_) ?_
          · (repeat' first | exact AllTo.nil | apply AllTo.cons) <;> first | exact AvTo.dead _ | exact AvTo.i rfl | exact AvTo.i (by simp only [natCast_int]; omega) | exact AvTo.f rfl | exact AvTo.own rfl rfl rfl rfl | exact Free.same (free_ll.2 trivial) | exact Free.same .listF
          · rintro Q3 hQ3 ⟨i, b⟩ ⟨hi, hB⟩
            have hi : i ≤ n .u := hi
            have hB : Best (fun i => keyF (likeK m x (l .u) s i)) (fun k => takB σ r k = true) i b := hB
            have hb0 : 0 ≤ b → b < (n .u : Int) := fun h => by have := (hB.some h).1; omega
            refine AW.exec ttok ctSpecRank_ok (by cbv) ?_
            simp only [natCast_int, Post, All, thenA, canon0, canon064, and_true, true_and, forall_const, implies_true, decide_eq_true_eq, decide_eq_false_iff_not, Bool.not_eq_true', Bool.not_eq_false', Bool.true_and, Bool.and_true, beq_true, beq_false, Int.toNat_natCast, Int.ofNat_lt, Int.ofNat_le, Nat.zero_add, Nat.add_zero, imp_self, Bool.cond_false_right, Bool.cond_true_left, Bool.cond_true_right, IsF, rdF_eq, fOf, AV.f.injEq, exists_eq', free_list, free_fn0, List.not_mem_nil, List.mem_cons, false_imp, forall_eq, or_false, free_i, free_f, free_b, ren_f, ren_i, ren_b, and_self, bne_iff_ne, bne_eq_false_iff_eq, ne_eq, Int.natCast_inj, or_true, true_or, freeB_list, unfr_f, unfr_i, unfr_b, unfr_c, unfr_s, free_c, free_s, ren_c, ren_s, unfr_ro, unfr_rptr, ren_ro, free_ll, free_box, kill_f, kill_i, kill_b, kill_c, kill_s, kill_rof, kill_rot, Int.toNat_zero, isFF_ll, rowN_ll, rowX_ll, AllFree, Option.some.injEq, Prod.mk.injEq, Bool.false_eq_true, Bool.true_eq_false, hn]
            (repeat' first | with_reducible assumption | with_reducible apply And.intro | with_reducible intro hh) <;> first | ((first | with_reducible show (_ : Int) ≤ _ | with_reducible show (_ : Int) < _ | with_reducible show (_ : Nat) ≤ _ | with_reducible show (_ : Nat) < _ | with_reducible show (_ : Int) = _ | with_reducible show (_ : Nat) = _ | with_reducible show ¬ _ | with_reducible show _ ≠ _) <;> first | omega | (simp only [Bool.and_eq_true, Bool.or_eq_false_iff, Bool.not_eq_false', Bool.not_eq_true', decide_eq_true_eq, decide_eq_false_iff_not] at *; omega) | (with_reducible assumption)) | (with_reducible assumption) | skip
            · rw [‹takB σ r i = false›, decide_eq_false ‹¬ b < 0›]
              rfl
            · have c : (!takB σ r i && (decide (b < 0) || fgt FloatKind.f32 (likeK m x (l .u) s i) (likeK m x (l .u) s b.toNat))) = true := by assumption
              have hin : i < n .u := by assumption
              simp only [Bool.and_eq_true, Bool.not_eq_true', Bool.or_eq_true, decide_eq_true_eq] at c
              refine ⟨(i + 1, (i : Int)), ⟨hin, hB.take (fun h => by rw [c.1] at h; cases h) ?_⟩, (by show n .u - (i + 1) < n .u - i; omega), To.pick [0, 1, 2] (by decide) (Nat.zero_le _) (fun j hj => absurd hj (Nat.not_lt_zero _)) ⟨.list (fun e => e) (Nat.le_refl _) fun j hj => AvTo.f rfl, .list (fun e => e) (Nat.le_refl _) fun j hj => AvTo.b rfl, .list (fun e => e) (Nat.le_refl _) fun j hj => AvTo.i rfl, trivial⟩ ?_⟩
              · rcases c.2 with h | h
                · exact .inl h
                · by_cases hb : b < 0
                  · exact .inl hb
                  · rw [gt_key (hall i hin) (hall b.toNat (by have := hb0 (by omega); omega))] at h
                    exact .inr (of_decide_eq_true h)
              · (repeat' first | exact AllTo.nil | apply AllTo.cons) <;> first | exact AvTo.dead _ | exact AvTo.i rfl | exact AvTo.i (by simp only [natCast_int]; omega) | exact AvTo.f rfl | exact AvTo.own rfl rfl rfl rfl | exact Free.same (free_ll.2 trivial) | exact Free.same .listF
            · have c : (!takB σ r i && (decide (b < 0) || fgt FloatKind.f32 (likeK m x (l .u) s i) (likeK m x (l .u) s b.toNat))) = false := by assumption
              have hin : i < n .u := by assumption
              refine ⟨(i + 1, b), ⟨hin, hB.skip ?_⟩, (by show n .u - (i + 1) < n .u - i; omega), To.pick [0, 1, 2] (by decide) (Nat.zero_le _) (fun j hj => absurd hj (Nat.not_lt_zero _)) ⟨.list (fun e => e) (Nat.le_refl _) fun j hj => AvTo.f rfl, .list (fun e => e) (Nat.le_refl _) fun j hj => AvTo.b rfl, .list (fun e => e) (Nat.le_refl _) fun j hj => AvTo.i rfl, trivial⟩ ?_⟩
              · cases ht : takB σ r i with
                | true => exact .inl rfl
                | false =>
                  rw [ht] at c
                  simp only [Bool.not_false, Bool.true_and, Bool.or_eq_false_iff, decide_eq_false_iff_not] at c
                  have h := c.2
                  rw [gt_key (hall i hin) (hall b.toNat (by have := hb0 (by omega); omega))] at h
                  exact .inr ⟨by omega, of_decide_eq_false h⟩
              · (repeat' first | exact AllTo.nil | apply AllTo.cons) <;> first | exact AvTo.dead _ | exact AvTo.i rfl | exact AvTo.i (by simp only [natCast_int]; omega) | exact AvTo.f rfl | exact AvTo.own rfl rfl rfl rfl | exact Free.same (free_ll.2 trivial) | exact Free.same .listF
            · obtain ⟨rfl⟩ := hQ3
              refine Post.eval (by cbv) ?_
              have e3 : i = n .u := by omega
              have hrn : r < n .u := by assumption
              have eb : b = (σ r : Int) := Best.end_ hs hrn (fun k hk => takB_iff) (e3 ▸ hB)
              subst eb
              have hsr := hs.bnd r hrn
              simp only [natCast_int, Post, All, thenA, canon0, canon064, and_true, true_and, forall_const, implies_true, decide_eq_true_eq, decide_eq_false_iff_not, Bool.not_eq_true', Bool.not_eq_false', Bool.true_and, Bool.and_true, beq_true, beq_false, Int.toNat_natCast, Int.ofNat_lt, Int.ofNat_le, Nat.zero_add, Nat.add_zero, imp_self, Bool.cond_false_right, Bool.cond_true_left, Bool.cond_true_right, IsF, rdF_eq, fOf, AV.f.injEq, exists_eq', free_list, free_fn0, List.not_mem_nil, List.mem_cons, false_imp, forall_eq, or_false, free_i, free_f, free_b, ren_f, ren_i, ren_b, and_self, bne_iff_ne, bne_eq_false_iff_eq, ne_eq, Int.natCast_inj, or_true, true_or, freeB_list, unfr_f, unfr_i, unfr_b, unfr_c, unfr_s, free_c, free_s, ren_c, ren_s, unfr_ro, unfr_rptr, ren_ro, free_ll, free_box, kill_f, kill_i, kill_b, kill_c, kill_s, kill_rof, kill_rot, Int.toNat_zero, isFF_ll, rowN_ll, rowX_ll, AllFree, Option.some.injEq, Prod.mk.injEq, Bool.false_eq_true, Bool.true_eq_false, e3, hn]
              (repeat' first | with_reducible assumption | with_reducible apply And.intro | with_reducible intro hh) <;> first | ((first | with_reducible show (_ : Int) ≤ _ | with_reducible show (_ : Int) < _ | with_reducible show (_ : Nat) ≤ _ | with_reducible show (_ : Nat) < _ | with_reducible show (_ : Int) = _ | with_reducible show (_ : Nat) = _ | with_reducible show ¬ _ | with_reducible show _ ≠ _) <;> first | omega | (simp only [Bool.and_eq_true, Bool.or_eq_false_iff, Bool.not_eq_false', Bool.not_eq_true', decide_eq_true_eq, decide_eq_false_iff_not] at *; omega) | (with_reducible assumption)) | (with_reducible assumption) | skip
              refine ⟨r + 1, hrn, by omega, To.pick [0, 1, 4] (by decide) (Nat.zero_le _) (fun j hj => absurd hj (Nat.not_lt_zero _)) ⟨.list (fun e => e) (Nat.le_refl _) fun j hj => AvTo.f rfl, .list (fun e => e) (Nat.le_refl _) fun j hj => ?_, .list (fun e => e) (Nat.le_refl _) fun j hj => app_one hj (fun _ => AvTo.i rfl) fun e => AvTo.i (by rw [e]), trivial⟩ ?_⟩
              · by_cases e : j = σ r
                · simp only [e, if_true, List.length_cons, List.length_nil, Nat.zero_add, Nat.le_refl, Nat.zero_lt_one, and_self, Nat.sub_self, List.getD_cons_zero]
                  exact AvTo.b (by rw [takB_succ]; simp)
                · simp only [e, if_false]
                  exact AvTo.b (by rw [takB_succ, beq_eq_false_iff_ne.2 (Ne.symm e), Bool.or_false])
              · (repeat' first | exact AllTo.nil | apply AllTo.cons) <;> first | exact AvTo.dead _ | exact AvTo.i rfl | exact AvTo.i (by simp only [natCast_int]; omega) | exact AvTo.f rfl | exact AvTo.own rfl rfl rfl rfl | exact Free.same (free_ll.2 trivial) | exact Free.same .listF
        · obtain ⟨rfl⟩ := hQ2
          refine Post.eval (by cbv) ?_
          have e : r = n .u := by omega
          simp only [natCast_int, Post, All, thenA, canon0, canon064, and_true, true_and, forall_const, implies_true, decide_eq_true_eq, decide_eq_false_iff_not, Bool.not_eq_true', Bool.not_eq_false', Bool.true_and, Bool.and_true, beq_true, beq_false, Int.toNat_natCast, Int.ofNat_lt, Int.ofNat_le, Nat.zero_add, Nat.add_zero, imp_self, Bool.cond_false_right, Bool.cond_true_left, Bool.cond_true_right, IsF, rdF_eq, fOf, AV.f.injEq, exists_eq', free_list, free_fn0, List.not_mem_nil, List.mem_cons, false_imp, forall_eq, or_false, free_i, free_f, free_b, ren_f, ren_i, ren_b, and_self, bne_iff_ne, bne_eq_false_iff_eq, ne_eq, Int.natCast_inj, or_true, true_or, freeB_list, unfr_f, unfr_i, unfr_b, unfr_c, unfr_s, free_c, free_s, ren_c, ren_s, unfr_ro, unfr_rptr, ren_ro, free_ll, free_box, kill_f, kill_i, kill_b, kill_c, kill_s, kill_rof, kill_rot, Int.toNat_zero, isFF_ll, rowN_ll, rowX_ll, AllFree, Option.some.injEq, Prod.mk.injEq, Bool.false_eq_true, Bool.true_eq_false, e, hn]
          (repeat' first | with_reducible assumption | with_reducible apply And.intro | with_reducible intro hh) <;> first | ((first | with_reducible show (_ : Int) ≤ _ | with_reducible show (_ : Int) < _ | with_reducible show (_ : Nat) ≤ _ | with_reducible show (_ : Nat) < _ | with_reducible show (_ : Int) = _ | with_reducible show (_ : Nat) = _ | with_reducible show ¬ _ | with_reducible show _ ≠ _) <;> first | omega | (simp only [Bool.and_eq_true, Bool.or_eq_false_iff, Bool.not_eq_false', Bool.not_eq_true', decide_eq_true_eq, decide_eq_false_iff_not] at *; omega) | (with_reducible assumption)) | (with_reducible assumption) | skip
          exact okA.yes hR (fin_ret (.inl rfl) (by cbv) (by simp) (To.moved (k := 2) rfl (Nat.le_refl _) (fun e => e) (fun j hj => AvTo.i rfl) (.cons (.tup (.cons (.own rfl rfl rfl rfl) (.cons (.b rfl) .nil))) .nil)))
end Go.Proofs.Ytgbfngkmnodgdaa
