/- Libraries ranked: the program's side, second part. -/
import Derived.Test.YtgbfngkmnodgdaaHr
set_option linter.unusedSimpArgs false
set_option linter.unusedVariables false
namespace Go.Proofs.Ytgbfngkmnodgdaa
open Go.Aw
noncomputable def kStab : Kg
  | [.own 0 i n 1, .i .i64 b, .fn (.func c) [] [.rptr false m h]], [some (_, .tab k 1 g)] => match Nat.beq c 42 with
    | true => match asLg (h 0) with
      | some (nl, gl) => some (.one (.tup []) [insB k (rdF gl)] fun _ => insP i n k nl m g gl ∧ b .u = (k .u : Int))
      | none => none
    | false => none
  | _, _ => none
noncomputable def kSorts : Kg
  | [.own 0 i n 1, .fn (.func c) [] [.rptr false m h]], [some (_, .tab k 1 g)] => match Nat.beq c 42 with
    | true => match asLg (h 0) with
      | some (nl, gl) => some (.one (.tup []) [insB k (rdF gl)] fun _ => insP i n k nl m g gl)
      | none => none
    | false => none
  | _, _ => none
noncomputable def ctStab : CT := [(109, .g 1 kIns)]
theorem ctStab_ok : CTok Try.prog ctStab := .cons ins_g (.nil _)
theorem insB_fr {k : Th Nat} {L : Nat → Nat} : FrH [insB k L] := .cons (fun fr B e => by cases e; exact .tab fun _ _ _ _ => .i) .nil
theorem stab_g : Tells Try.prog 76 (.g 1 kStab) := by
  intro args Hc r hr
  unfold kStab at hr
  split at hr <;> first | (cases hr; done) | skip
  split at hr <;> first | (cases hr; done) | skip
  rename_i hc
  obtain rfl := Nat.beq_eq.mp hc
  split at hr <;> cases hr
  rename_i i n b m h fr k g _ _ nl gl hL
  refine AnsOk.one ttok Try.func76 rfl rfl (Nat.le_refl _) (.tup fun x hx => by cases hx) insB_fr fun hF => ?_
  obtain ⟨⟨⟨p1, p2⟩, ⟨q1, q2, q3, q4, q5, q6⟩, q7, q8⟩, q10⟩ := hF
  refine ⟨[.own 0 (fun _ => 0) k 1, .i .i64 fun _ => (k .u : Int), likesA nl (rdF gl)], ⟨?_, ?_, Sub.fnC trivial ⟨Sub.rptrG q4 fun j hj => ?_, trivial⟩, trivial⟩, ?_⟩
  · intro w ρ N L v h
    cases h with | own hid hv => rw [q1, q2] at hv; exact .own hid hv
  · intro w ρ N L v h
    cases h with | i => rw [q10]; exact .i
  · match j, hj with
    | 0, _ => exact Sub.asLg hL p2
  have hnl := p2.1
  have hk := p1.1
  generalize rdF gl = L at q8 ⊢
  refine AW.exec ttok ctStab_ok (by cbv) ?_
  simp only [natCast_int, Post, All, thenA, canon0, canon064, and_true, true_and, forall_const, implies_true, decide_eq_true_eq, decide_eq_false_iff_not, Bool.not_eq_true', Bool.not_eq_false', Bool.true_and, Bool.and_true, beq_true, beq_false, Int.toNat_natCast, Int.ofNat_lt, Int.ofNat_le, Nat.zero_add, Nat.add_zero, imp_self, Bool.cond_false_right, Bool.cond_true_left, Bool.cond_true_right, IsF, rdF_eq, fOf, AV.f.injEq, exists_eq', free_list, free_fn0, List.not_mem_nil, List.mem_cons, false_imp, forall_eq, or_false, free_i, free_f, free_b, ren_f, ren_i, ren_b, and_self, bne_iff_ne, bne_eq_false_iff_eq, ne_eq, Int.natCast_inj, or_true, true_or, freeB_list, unfr_f, unfr_i, unfr_b, unfr_c, unfr_s, free_c, free_s, ren_c, ren_s, unfr_ro, unfr_rptr, ren_ro, free_ll, free_box, kill_f, kill_i, kill_b, kill_c, kill_s, kill_rof, kill_rot, Int.toNat_zero, isFF_ll, rowN_ll, rowX_ll, AllFree, Option.some.injEq, Prod.mk.injEq, Bool.false_eq_true, Bool.true_eq_false]
  (repeat' first | with_reducible assumption | with_reducible apply And.intro | with_reducible intro hh) <;> first | ((first | with_reducible show (_ : Int) ≤ _ | with_reducible show (_ : Int) < _ | with_reducible show (_ : Nat) ≤ _ | with_reducible show (_ : Nat) < _ | with_reducible show (_ : Int) = _ | with_reducible show (_ : Nat) = _ | with_reducible show ¬ _ | with_reducible show _ ≠ _) <;> first | omega | (simp only [Bool.and_eq_true, Bool.or_eq_false_iff, Bool.not_eq_false', Bool.not_eq_true', decide_eq_true_eq, decide_eq_false_iff_not] at *; omega) | (with_reducible assumption)) | (with_reducible assumption) | skip
  refine AW.loopH (ι := Unit) (fun _ => True) (fun _ => 0) (fun _ => mkE Try.f76.ntmps [(0, .own 0 (fun _ => 0) k 1), (1, .i .i64 fun _ => (k .u : Int)), (2, likesA nl L), (6, .i .i64 fun _ => 20), (7, .i .i64 fun _ => 0), (8, .i .i64 fun _ => 20)])
    (fun _ => [blkI false k fun p => (p : Int)]) () trivial (To.list (Nat.le_refl _) (Nat.le_refl _) (fun e => by cases e) (fun j hj => ?_) ?_) ?_
  · obtain ⟨y, hy⟩ := p1.2 j hj
    have e := q7 j hj
    simp only [rdI, hy, iOf] at e
    rw [hy]
    exact AvTo.i e
  · (repeat' first | exact AllTo.nil | apply AllTo.cons) <;> first | exact AvTo.dead _ | exact AvTo.i rfl | exact AvTo.i (by first | omega | (simp only [natCast_int]; omega)) | exact AvTo.own rfl rfl rfl rfl | exact Free.same likes_free
  · rintro Q' hQ ⟨⟩ _
    have h20 : ¬ ((20 : Int) ≤ (k .u : Int)) := by omega
    refine AW.exec ttok ctStab_ok (by cbv) ?_
    simp only [natCast_int, Post, All, thenA, canon0, canon064, and_true, true_and, forall_const, implies_true, decide_eq_true_eq, decide_eq_false_iff_not, Bool.not_eq_true', Bool.not_eq_false', Bool.true_and, Bool.and_true, beq_true, beq_false, Int.toNat_natCast, Int.ofNat_lt, Int.ofNat_le, Nat.zero_add, Nat.add_zero, imp_self, Bool.cond_false_right, Bool.cond_true_left, Bool.cond_true_right, IsF, rdF_eq, fOf, AV.f.injEq, exists_eq', free_list, free_fn0, List.not_mem_nil, List.mem_cons, false_imp, forall_eq, or_false, free_i, free_f, free_b, ren_f, ren_i, ren_b, and_self, bne_iff_ne, bne_eq_false_iff_eq, ne_eq, Int.natCast_inj, or_true, true_or, freeB_list, unfr_f, unfr_i, unfr_b, unfr_c, unfr_s, free_c, free_s, ren_c, ren_s, unfr_ro, unfr_rptr, ren_ro, free_ll, free_box, kill_f, kill_i, kill_b, kill_c, kill_s, kill_rof, kill_rot, Int.toNat_zero, isFF_ll, rowN_ll, rowX_ll, AllFree, Option.some.injEq, Prod.mk.injEq, Bool.false_eq_true, Bool.true_eq_false, h20]
    (repeat' first | with_reducible assumption | with_reducible apply And.intro | with_reducible intro hh) <;> first | ((first | with_reducible show (_ : Int) ≤ _ | with_reducible show (_ : Int) < _ | with_reducible show (_ : Nat) ≤ _ | with_reducible show (_ : Nat) < _ | with_reducible show (_ : Int) = _ | with_reducible show (_ : Nat) = _ | with_reducible show ¬ _ | with_reducible show _ ≠ _) <;> first | omega | (simp only [Bool.and_eq_true, Bool.or_eq_false_iff, Bool.not_eq_false', Bool.not_eq_true', decide_eq_true_eq, decide_eq_false_iff_not] at *; omega) | (with_reducible assumption)) | (with_reducible assumption) | skip
    · obtain ⟨rfl⟩ := hQ
      refine Post.eval (by cbv) ?_
      simp only [natCast_int, Post, All, thenA, canon0, canon064, and_true, true_and, forall_const, implies_true, decide_eq_true_eq, decide_eq_false_iff_not, Bool.not_eq_true', Bool.not_eq_false', Bool.true_and, Bool.and_true, beq_true, beq_false, Int.toNat_natCast, Int.ofNat_lt, Int.ofNat_le, Nat.zero_add, Nat.add_zero, imp_self, Bool.cond_false_right, Bool.cond_true_left, Bool.cond_true_right, IsF, rdF_eq, fOf, AV.f.injEq, exists_eq', free_list, free_fn0, List.not_mem_nil, List.mem_cons, false_imp, forall_eq, or_false, free_i, free_f, free_b, ren_f, ren_i, ren_b, and_self, bne_iff_ne, bne_eq_false_iff_eq, ne_eq, Int.natCast_inj, or_true, true_or, freeB_list, unfr_f, unfr_i, unfr_b, unfr_c, unfr_s, free_c, free_s, ren_c, ren_s, unfr_ro, unfr_rptr, ren_ro, free_ll, free_box, kill_f, kill_i, kill_b, kill_c, kill_s, kill_rof, kill_rot, Int.toNat_zero, isFF_ll, rowN_ll, rowX_ll, AllFree, Option.some.injEq, Prod.mk.injEq, Bool.false_eq_true, Bool.true_eq_false]
      (repeat' first | with_reducible assumption | with_reducible apply And.intro | with_reducible intro hh) <;> first | ((first | with_reducible show (_ : Int) ≤ _ | with_reducible show (_ : Int) < _ | with_reducible show (_ : Nat) ≤ _ | with_reducible show (_ : Nat) < _ | with_reducible show (_ : Int) = _ | with_reducible show (_ : Nat) = _ | with_reducible show ¬ _ | with_reducible show _ ≠ _) <;> first | omega | (simp only [Bool.and_eq_true, Bool.or_eq_false_iff, Bool.not_eq_false', Bool.not_eq_true', decide_eq_true_eq, decide_eq_false_iff_not] at *; omega) | (with_reducible assumption)) | (with_reducible assumption) | skip
      · exact fun off a ha => by cases ha with | tab i c hi hc => exact .i
      · exact .rptr fun j hj => by
          match j, hj with
          | 0, _ => exact .listF
      · exact ⟨⟨⟨hk, fun j hj => ⟨_, rfl⟩⟩, hnl, fun j hj => ⟨_, rfl⟩⟩, ⟨rfl, rfl, q3, Nat.le_refl _, q5, q6⟩, fun p hp => rfl, q8⟩
      refine AW.loopH (ι := Unit) (fun _ => True) (fun _ => 0) (fun _ => mkE Try.f76.ntmps [(0, .own 0 (fun _ => 0) k 1), (1, .i .i64 fun _ => (k .u : Int)), (2, likesA nl L), (6, .i .i64 fun _ => 20)])
        (fun _ => [insB k L]) () trivial (To.list (Nat.le_refl _) (Nat.le_refl _) (fun e => by cases e) (fun j hj => AvTo.i rfl) ?_) ?_
      · (repeat' first | exact AllTo.nil | apply AllTo.cons) <;> first | exact AvTo.dead _ | exact AvTo.i rfl | exact AvTo.i (by first | omega | (simp only [natCast_int]; omega)) | exact AvTo.own rfl rfl rfl rfl | exact Free.same likes_free
      · rintro Q2 hQ2 ⟨⟩ _
        have h20' : ¬ ((20 : Int) < (k .u : Int)) := by omega
        refine AW.exec ttok ctStab_ok (by cbv) ?_
        simp only [natCast_int, Post, All, thenA, canon0, canon064, and_true, true_and, forall_const, implies_true, decide_eq_true_eq, decide_eq_false_iff_not, Bool.not_eq_true', Bool.not_eq_false', Bool.true_and, Bool.and_true, beq_true, beq_false, Int.toNat_natCast, Int.ofNat_lt, Int.ofNat_le, Nat.zero_add, Nat.add_zero, imp_self, Bool.cond_false_right, Bool.cond_true_left, Bool.cond_true_right, IsF, rdF_eq, fOf, AV.f.injEq, exists_eq', free_list, free_fn0, List.not_mem_nil, List.mem_cons, false_imp, forall_eq, or_false, free_i, free_f, free_b, ren_f, ren_i, ren_b, and_self, bne_iff_ne, bne_eq_false_iff_eq, ne_eq, Int.natCast_inj, or_true, true_or, freeB_list, unfr_f, unfr_i, unfr_b, unfr_c, unfr_s, free_c, free_s, ren_c, ren_s, unfr_ro, unfr_rptr, ren_ro, free_ll, free_box, kill_f, kill_i, kill_b, kill_c, kill_s, kill_rof, kill_rot, Int.toNat_zero, isFF_ll, rowN_ll, rowX_ll, AllFree, Option.some.injEq, Prod.mk.injEq, Bool.false_eq_true, Bool.true_eq_false, h20']
        (repeat' first | with_reducible assumption | with_reducible apply And.intro | with_reducible intro hh) <;> first | ((first | with_reducible show (_ : Int) ≤ _ | with_reducible show (_ : Int) < _ | with_reducible show (_ : Nat) ≤ _ | with_reducible show (_ : Nat) < _ | with_reducible show (_ : Int) = _ | with_reducible show (_ : Nat) = _ | with_reducible show ¬ _ | with_reducible show _ ≠ _) <;> first | omega | (simp only [Bool.and_eq_true, Bool.or_eq_false_iff, Bool.not_eq_false', Bool.not_eq_true', decide_eq_true_eq, decide_eq_false_iff_not] at *; omega) | (with_reducible assumption)) | (with_reducible assumption) | skip
        obtain ⟨rfl⟩ := hQ2
        refine Post.eval (by cbv) ?_
        simp only [natCast_int, Post, All, thenA, canon0, canon064, and_true, true_and, forall_const, implies_true, decide_eq_true_eq, decide_eq_false_iff_not, Bool.not_eq_true', Bool.not_eq_false', Bool.true_and, Bool.and_true, beq_true, beq_false, Int.toNat_natCast, Int.ofNat_lt, Int.ofNat_le, Nat.zero_add, Nat.add_zero, imp_self, Bool.cond_false_right, Bool.cond_true_left, Bool.cond_true_right, IsF, rdF_eq, fOf, AV.f.injEq, exists_eq', free_list, free_fn0, List.not_mem_nil, List.mem_cons, false_imp, forall_eq, or_false, free_i, free_f, free_b, ren_f, ren_i, ren_b, and_self, bne_iff_ne, bne_eq_false_iff_eq, ne_eq, Int.natCast_inj, or_true, true_or, freeB_list, unfr_f, unfr_i, unfr_b, unfr_c, unfr_s, free_c, free_s, ren_c, ren_s, unfr_ro, unfr_rptr, ren_ro, free_ll, free_box, kill_f, kill_i, kill_b, kill_c, kill_s, kill_rof, kill_rot, Int.toNat_zero, isFF_ll, rowN_ll, rowX_ll, AllFree, Option.some.injEq, Prod.mk.injEq, Bool.false_eq_true, Bool.true_eq_false]
        (repeat' first | with_reducible assumption | with_reducible apply And.intro | with_reducible intro hh) <;> first | ((first | with_reducible show (_ : Int) ≤ _ | with_reducible show (_ : Int) < _ | with_reducible show (_ : Nat) ≤ _ | with_reducible show (_ : Nat) < _ | with_reducible show (_ : Int) = _ | with_reducible show (_ : Nat) = _ | with_reducible show ¬ _ | with_reducible show _ ≠ _) <;> first | omega | (simp only [Bool.and_eq_true, Bool.or_eq_false_iff, Bool.not_eq_false', Bool.not_eq_true', decide_eq_true_eq, decide_eq_false_iff_not] at *; omega) | (with_reducible assumption)) | (with_reducible assumption) | skip
        refine fin_ret (.inr rfl) (by cbv) (by simp) (To.list (Nat.le_refl _) (Nat.le_refl _) (fun e => by cases e) (fun j hj => AvTo.i rfl) ?_)
        exact .cons (.tup .nil) .nil
noncomputable def ctSorts : CT := [(76, .g 1 kStab)]
theorem ctSorts_ok : CTok Try.prog ctSorts := .cons stab_g (.nil _)
theorem sorts_g : Tells Try.prog 41 (.g 1 kSorts) := by
  intro args Hc r hr
  unfold kSorts at hr
  split at hr <;> first | (cases hr; done) | skip
  split at hr <;> first | (cases hr; done) | skip
  rename_i hc
  obtain rfl := Nat.beq_eq.mp hc
  split at hr <;> cases hr
  rename_i i n m h fr k g _ _ nl gl hL
  refine AnsOk.one ttok Try.func41 rfl rfl (Nat.le_refl _) (.tup fun x hx => by cases hx) insB_fr fun hF => ?_
  obtain ⟨⟨p1, p2⟩, ⟨q1, q2, q3, q4, q5, q6⟩, q7, q8⟩ := hF
  refine ⟨[.own 0 (fun _ => 0) k 1, likesA nl (rdF gl)], ⟨?_, Sub.fnC trivial ⟨Sub.rptrG q4 fun j hj => ?_, trivial⟩, trivial⟩, ?_⟩
  · intro w ρ N L v h
    cases h with | own hid hv => rw [q1, q2] at hv; exact .own hid hv
  · match j, hj with
    | 0, _ => exact Sub.asLg hL p2
  have hnl := p2.1
  have hk := p1.1
  generalize rdF gl = L at q8 ⊢
  refine AW.exec ttok ctSorts_ok (by cbv) ?_
  simp only [natCast_int, Post, All, thenA, canon0, canon064, and_true, true_and, forall_const, implies_true, decide_eq_true_eq, decide_eq_false_iff_not, Bool.not_eq_true', Bool.not_eq_false', Bool.true_and, Bool.and_true, beq_true, beq_false, Int.toNat_natCast, Int.ofNat_lt, Int.ofNat_le, Nat.zero_add, Nat.add_zero, imp_self, Bool.cond_false_right, Bool.cond_true_left, Bool.cond_true_right, IsF, rdF_eq, fOf, AV.f.injEq, exists_eq', free_list, free_fn0, List.not_mem_nil, List.mem_cons, false_imp, forall_eq, or_false, free_i, free_f, free_b, ren_f, ren_i, ren_b, and_self, bne_iff_ne, bne_eq_false_iff_eq, ne_eq, Int.natCast_inj, or_true, true_or, freeB_list, unfr_f, unfr_i, unfr_b, unfr_c, unfr_s, free_c, free_s, ren_c, ren_s, unfr_ro, unfr_rptr, ren_ro, free_ll, free_box, kill_f, kill_i, kill_b, kill_c, kill_s, kill_rof, kill_rot, Int.toNat_zero, isFF_ll, rowN_ll, rowX_ll, AllFree, Option.some.injEq, Prod.mk.injEq, Bool.false_eq_true, Bool.true_eq_false]
  (repeat' first | with_reducible assumption | with_reducible apply And.intro | with_reducible intro hh) <;> first | ((first | with_reducible show (_ : Int) ≤ _ | with_reducible show (_ : Int) < _ | with_reducible show (_ : Nat) ≤ _ | with_reducible show (_ : Nat) < _ | with_reducible show (_ : Int) = _ | with_reducible show (_ : Nat) = _ | with_reducible show ¬ _ | with_reducible show _ ≠ _) <;> first | omega | (simp only [Bool.and_eq_true, Bool.or_eq_false_iff, Bool.not_eq_false', Bool.not_eq_true', decide_eq_true_eq, decide_eq_false_iff_not] at *; omega) | (with_reducible assumption)) | (with_reducible assumption) | skip
  · exact fun off a ha => by
      cases ha with | tab i c hi hc =>
        obtain rfl : c = 0 := by omega
        obtain ⟨y, hy⟩ := p1.2 i hi
        rw [hy]
        exact .i
  · exact .rptr fun j hj => by
      match j, hj with
      | 0, _ => exact .listF
  · refine ⟨⟨⟨hk, fun j hj => ?_⟩, hnl, fun j hj => ⟨_, rfl⟩⟩, ⟨rfl, rfl, q3, Nat.le_refl _, q5, q6⟩, fun p hp => ?_, q8⟩
    · obtain ⟨y, hy⟩ := p1.2 j hj
      exact ⟨y, by show unfr (g (fun _ => j) 0) = _; rw [hy]; rfl⟩
    · obtain ⟨y, hy⟩ := p1.2 p hp
      have e := q7 p hp
      simp only [rdI, hy, iOf, unfr] at e ⊢
      exact e
  refine fin_ret (.inr rfl) (by cbv) (by simp) (To.list (Nat.le_refl _) (Nat.le_refl _) (fun e => by cases e) (fun j hj => AvTo.i rfl) ?_)
  exact .cons (.tup .nil) .nil
end Go.Proofs.Ytgbfngkmnodgdaa
