/- Lists that are moved. -/
import Derived.Test.YtdeibnannibbeaaFb
set_option linter.unusedSimpArgs false
set_option linter.unusedVariables false
namespace Go.Proofs.Ytdeibnannibbeaa
open Go.Aw
/-- Element i of a list that is moved to the right. -/
def shiftX (n : Nat) (x : Nat → Nat) (d : Int) (i : Nat) : Nat := bif decide (0 ≤ (i : Int) - d) && decide ((i : Int) - d ≤ (n : Int) - 1) then x ((i : Int) - d).toNat else 0
def kShift : Kr
  | [a, .i .i64 by_] => match asL a with
    | some (n, g) => some (.own 0 (fun _ => 0) n 1, [some (true, .tab n 1 fun i _ => .f .f32 fun _ => shiftX (n .u) (rdF g) (by_ .u) (i .u))], fun _ => IsF n g ∧ n .u ≤ 128 ∧ -128 ≤ by_ .u ∧ by_ .u ≤ 128)
    | none => none
  | _ => none
def ctShift : CT := [(45, .r kIn), (48, .r kIn)]
theorem ctShift_ok : CTok Try.prog ctShift := CTok.cons l00In_tells (CTok.cons within_tells (CTok.nil _))
theorem l07Shift_tells : Tells Try.prog 46 (.r kShift) := by
  intro args r H' p hr hp
  unfold kShift at hr
  split at hr <;> first | (cases hr; done) | skip
  split at hr <;> cases hr
  rename_i d _ n g hL
  obtain ⟨hp, hn, hd1, hd2⟩ := hp
  refine ⟨.own, .cons (fun fr B e => by cases e; exact .tab fun _ _ _ _ => .f) .nil, Con.pre (args' := [listF false n (rdF g), .i .i64 d]) ⟨.asL hL hp, Sub.refl _, trivial⟩ ?_⟩
  generalize rdF g = x
  refine Con.of ttok Try.func46 rfl rfl (Nat.zero_le _) (AW.exec ttok ctShift_ok (by cbv) ?_)
  simp only [natCast_int, Post, All, thenA, canon0, canon064, and_true, true_and, forall_const, implies_true, decide_eq_true_eq, decide_eq_false_iff_not, Bool.not_eq_true', Bool.not_eq_false', Bool.true_and, Bool.and_true, beq_true, beq_false, Int.toNat_natCast, Int.ofNat_lt, Int.ofNat_le, Nat.zero_add, Nat.add_zero, imp_self, Bool.cond_false_right, Bool.cond_true_left, Bool.cond_true_right, IsF, rdF_eq, fOf, AV.f.injEq, exists_eq', free_list, free_fn0, List.not_mem_nil, List.mem_cons, false_imp, forall_eq, or_false, free_i, free_f, free_b, ren_f, ren_i, ren_b, and_self, bne_iff_ne, bne_eq_false_iff_eq, ne_eq, Int.natCast_inj, or_true, true_or, freeB_list, unfr_f, unfr_i, unfr_b, unfr_c, unfr_s, free_c, free_s, ren_c, ren_s, unfr_ro, unfr_rptr, ren_ro, free_ll, free_box, Int.toNat_zero, isFF_ll, rowN_ll, rowX_ll, AllFree, Option.some.injEq, Prod.mk.injEq, Bool.false_eq_true, Bool.true_eq_false]
  refine ⟨by omega, fun _ => ?_⟩
  refine AW.loopTo (ι := Nat) (fun i => i ≤ n .u) (fun i => n .u - i) (fun i => mkE Try.f46.ntmps [(0, listF false n x), (1, .i .i64 d), (5, .i .i64 fun _ => (n .u : Int)), (6, .own 0 (fun _ => 0) n 1), (7, .i .i64 fun _ => (i : Int))])
    (fun i => [some (true, .tab n 1 fun j _ => .f .f32 fun _ => bif decide (j .u < i) then shiftX (n .u) x (d .u) (j .u) else 0)]) 0 (Nat.zero_le _) (To.same (Nat.zero_le _) ⟨⟨fun e => e, .tab (Nat.le_refl _) fun j c hj hc => ?_⟩, trivial⟩ ?_) ?_
  · obtain rfl : c = 0 := by omega
    exact AvTo.f (by simp)
  · (repeat' first | exact AllTo.nil | apply AllTo.cons) <;> first | exact AvTo.dead _ | exact AvTo.i rfl | exact AvTo.i (by first | omega | (simp only [natCast_int]; omega)) | exact AvTo.f rfl | exact AvTo.b rfl | exact AvTo.v _ | exact AvTo.own rfl rfl rfl rfl | exact AvTo.own rfl rfl (by first | rfl | omega) (by first | rfl | omega) | exact Free.same .listF | exact Free.same (.fn (by simp) (by simp)) | skip
  · rintro i hi
    refine AW.exec ttok ctShift_ok (by cbv) ?_
    simp only [natCast_int, Post, All, thenA, canon0, canon064, and_true, true_and, forall_const, implies_true, decide_eq_true_eq, decide_eq_false_iff_not, Bool.not_eq_true', Bool.not_eq_false', Bool.true_and, Bool.and_true, beq_true, beq_false, Int.toNat_natCast, Int.ofNat_lt, Int.ofNat_le, Nat.zero_add, Nat.add_zero, imp_self, Bool.cond_false_right, Bool.cond_true_left, Bool.cond_true_right, IsF, rdF_eq, fOf, AV.f.injEq, exists_eq', free_list, free_fn0, List.not_mem_nil, List.mem_cons, false_imp, forall_eq, or_false, free_i, free_f, free_b, ren_f, ren_i, ren_b, and_self, bne_iff_ne, bne_eq_false_iff_eq, ne_eq, Int.natCast_inj, or_true, true_or, freeB_list, unfr_f, unfr_i, unfr_b, unfr_c, unfr_s, free_c, free_s, ren_c, ren_s, unfr_ro, unfr_rptr, ren_ro, free_ll, free_box, Int.toNat_zero, isFF_ll, rowN_ll, rowX_ll, AllFree, Option.some.injEq, Prod.mk.injEq, Bool.false_eq_true, Bool.true_eq_false]
    refine ⟨fun h1 => ⟨by omega, fun _ => ⟨fun h2 => ?_, fun h2 => ⟨by omega, fun _ => ⟨i + 1, h1, by omega, To.same (Nat.zero_le _) ⟨⟨fun e => e, .tab (Nat.le_refl _) fun j c hj hc => ?_⟩, trivial⟩ ?_⟩⟩⟩⟩, fun h1 => ?_⟩
    · have h3 := h2
      simp only [Bool.and_eq_true, decide_eq_true_eq] at h3
      refine ⟨by omega, fun _ => ⟨by omega, fun _ => ⟨i + 1, h1, by omega, To.same (Nat.zero_le _) ⟨⟨fun e => e, .tab (Nat.le_refl _) fun j c hj hc => ?_⟩, trivial⟩ ?_⟩⟩⟩
      · obtain rfl : c = 0 := by omega
        by_cases e : j = i
        · subst e
          simp only [if_true, List.length_cons, List.length_nil, Nat.zero_add, Nat.le_refl, Nat.zero_lt_one, and_self, Nat.sub_self, List.getD_cons_zero]
          exact AvTo.f (by simp only [shiftX, h2, Nat.lt_succ_self, decide_true, cond_true])
        · simp only [e, if_false]
          exact AvTo.f (by simp only [show (j < i + 1) ↔ j < i by omega])
      · (repeat' first | exact AllTo.nil | apply AllTo.cons) <;> first | exact AvTo.dead _ | exact AvTo.i rfl | exact AvTo.i (by first | omega | (simp only [natCast_int]; omega)) | exact AvTo.f rfl | exact AvTo.b rfl | exact AvTo.v _ | exact AvTo.own rfl rfl rfl rfl | exact AvTo.own rfl rfl (by first | rfl | omega) (by first | rfl | omega) | exact Free.same .listF | exact Free.same (.fn (by simp) (by simp)) | skip
    · obtain rfl : c = 0 := by omega
      refine AvTo.f ?_
      by_cases e : j = i
      · subst e
        simp only [shiftX, h2, Nat.lt_irrefl, Nat.lt_succ_self, decide_true, decide_false, cond_true, cond_false]
      · simp only [show (j < i + 1) ↔ j < i by omega]
    · (repeat' first | exact AllTo.nil | apply AllTo.cons) <;> first | exact AvTo.dead _ | exact AvTo.i rfl | exact AvTo.i (by first | omega | (simp only [natCast_int]; omega)) | exact AvTo.f rfl | exact AvTo.b rfl | exact AvTo.v _ | exact AvTo.own rfl rfl rfl rfl | exact AvTo.own rfl rfl (by first | rfl | omega) (by first | rfl | omega) | exact Free.same .listF | exact Free.same (.fn (by simp) (by simp)) | skip
    · refine Post.eval (by cbv) ?_
      simp only [natCast_int, Post, All, thenA, canon0, canon064, and_true, true_and, forall_const, implies_true, decide_eq_true_eq, decide_eq_false_iff_not, Bool.not_eq_true', Bool.not_eq_false', Bool.true_and, Bool.and_true, beq_true, beq_false, Int.toNat_natCast, Int.ofNat_lt, Int.ofNat_le, Nat.zero_add, Nat.add_zero, imp_self, Bool.cond_false_right, Bool.cond_true_left, Bool.cond_true_right, IsF, rdF_eq, fOf, AV.f.injEq, exists_eq', free_list, free_fn0, List.not_mem_nil, List.mem_cons, false_imp, forall_eq, or_false, free_i, free_f, free_b, ren_f, ren_i, ren_b, and_self, bne_iff_ne, bne_eq_false_iff_eq, ne_eq, Int.natCast_inj, or_true, true_or, freeB_list, unfr_f, unfr_i, unfr_b, unfr_c, unfr_s, free_c, free_s, ren_c, ren_s, unfr_ro, unfr_rptr, ren_ro, free_ll, free_box, Int.toNat_zero, isFF_ll, rowN_ll, rowX_ll, AllFree, Option.some.injEq, Prod.mk.injEq, Bool.false_eq_true, Bool.true_eq_false]
      have e : i = n .u := by omega
      refine fin_ret (.inl rfl) (by cbv) (by simp) (To.same (Nat.zero_le _) ⟨⟨fun e => e, .tab (Nat.le_refl _) fun j c hj hc => ?_⟩, trivial⟩ ?_)
      · obtain rfl : c = 0 := by omega
        refine AvTo.f ?_
        simp only [e, hj, decide_true, cond_true]
      · (repeat' first | exact AllTo.nil | apply AllTo.cons) <;> first | exact AvTo.dead _ | exact AvTo.i rfl | exact AvTo.i (by first | omega | (simp only [natCast_int]; omega)) | exact AvTo.f rfl | exact AvTo.b rfl | exact AvTo.v _ | exact AvTo.own rfl rfl rfl rfl | exact AvTo.own rfl rfl (by first | rfl | omega) (by first | rfl | omega) | exact Free.same .listF | exact Free.same (.fn (by simp) (by simp)) | skip
theorem shifted_tells : Tells Try.prog 49 (.r kShift) := by
  intro args r H' p hr hp
  unfold kShift at hr
  split at hr <;> first | (cases hr; done) | skip
  split at hr <;> cases hr
  rename_i d _ n g hL
  obtain ⟨hp, hn, hd1, hd2⟩ := hp
  refine ⟨.own, .list, Con.pre (args' := [listF false n (rdF g), .i .i64 d]) ⟨.asL hL hp, Sub.refl _, trivial⟩ ?_⟩
  generalize rdF g = x
  refine Con.of ttok Try.func49 rfl rfl (Nat.zero_le _) (AW.exec ttok ctShift_ok (by cbv) ?_)
  simp only [natCast_int, Post, All, thenA, canon0, canon064, and_true, true_and, forall_const, implies_true, decide_eq_true_eq, decide_eq_false_iff_not, Bool.not_eq_true', Bool.not_eq_false', Bool.true_and, Bool.and_true, beq_true, beq_false, Int.toNat_natCast, Int.ofNat_lt, Int.ofNat_le, Nat.zero_add, Nat.add_zero, imp_self, Bool.cond_false_right, Bool.cond_true_left, Bool.cond_true_right, IsF, rdF_eq, fOf, AV.f.injEq, exists_eq', free_list, free_fn0, List.not_mem_nil, List.mem_cons, false_imp, forall_eq, or_false, free_i, free_f, free_b, ren_f, ren_i, ren_b, and_self, bne_iff_ne, bne_eq_false_iff_eq, ne_eq, Int.natCast_inj, or_true, true_or, freeB_list, unfr_f, unfr_i, unfr_b, unfr_c, unfr_s, free_c, free_s, ren_c, ren_s, unfr_ro, unfr_rptr, ren_ro, free_ll, free_box, Int.toNat_zero, isFF_ll, rowN_ll, rowX_ll, AllFree, Option.some.injEq, Prod.mk.injEq, Bool.false_eq_true, Bool.true_eq_false]
  refine ⟨by omega, fun _ => ?_⟩
  refine AW.loopTo (ι := Nat) (fun i => i ≤ n .u) (fun i => n .u - i) (fun i => mkE Try.f49.ntmps [(0, listF false n x), (1, .i .i64 d), (5, .own 0 (fun _ => 0) n 1), (12, .i .i64 fun _ => (n .u : Int)), (13, .i .i64 fun _ => (i : Int))])
    (fun i => [some (true, .tab n 1 fun j _ => .f .f32 fun _ => bif decide (j .u < i) then shiftX (n .u) x (d .u) (j .u) else 0)]) 0 (Nat.zero_le _) (To.list (Nat.zero_le _) (Nat.le_refl _) (fun e => e) (fun j hj => AvTo.f (by simp)) ?_) ?_
  · (repeat' first | exact AllTo.nil | apply AllTo.cons) <;> first | exact AvTo.dead _ | exact AvTo.i rfl | exact AvTo.i (by first | omega | (simp only [natCast_int]; omega)) | exact AvTo.f rfl | exact AvTo.b rfl | exact AvTo.v _ | exact AvTo.own rfl rfl rfl rfl | exact AvTo.own rfl rfl (by first | rfl | omega) (by first | rfl | omega) | exact Free.same .listF | exact Free.same (.fn (by simp) (by simp)) | skip
  · rintro i hi
    refine AW.exec ttok ctShift_ok (by cbv) ?_
    simp only [natCast_int, Post, All, thenA, canon0, canon064, and_true, true_and, forall_const, implies_true, decide_eq_true_eq, decide_eq_false_iff_not, Bool.not_eq_true', Bool.not_eq_false', Bool.true_and, Bool.and_true, beq_true, beq_false, Int.toNat_natCast, Int.ofNat_lt, Int.ofNat_le, Nat.zero_add, Nat.add_zero, imp_self, Bool.cond_false_right, Bool.cond_true_left, Bool.cond_true_right, IsF, rdF_eq, fOf, AV.f.injEq, exists_eq', free_list, free_fn0, List.not_mem_nil, List.mem_cons, false_imp, forall_eq, or_false, free_i, free_f, free_b, ren_f, ren_i, ren_b, and_self, bne_iff_ne, bne_eq_false_iff_eq, ne_eq, Int.natCast_inj, or_true, true_or, freeB_list, unfr_f, unfr_i, unfr_b, unfr_c, unfr_s, free_c, free_s, ren_c, ren_s, unfr_ro, unfr_rptr, ren_ro, free_ll, free_box, Int.toNat_zero, isFF_ll, rowN_ll, rowX_ll, AllFree, Option.some.injEq, Prod.mk.injEq, Bool.false_eq_true, Bool.true_eq_false]
    (repeat' first | with_reducible assumption | with_reducible apply And.intro | with_reducible intro hh) <;> first | ((first | with_reducible show (_ : Int) ≤ _ | with_reducible show (_ : Int) < _ | with_reducible show (_ : Nat) ≤ _ | with_reducible show (_ : Nat) < _ | with_reducible show (_ : Int) = _ | with_reducible show (_ : Nat) = _ | with_reducible show ¬ _ | with_reducible show _ ≠ _) <;> first | omega | (simp only [Bool.and_eq_true, Bool.or_eq_false_iff, Bool.not_eq_false', Bool.not_eq_true', decide_eq_true_eq, decide_eq_false_iff_not] at *; omega) | (with_reducible assumption)) | (with_reducible assumption) | skip
    · have h2 := ‹(_ && _) = true›
      refine ⟨i + 1, by omega, by omega, To.list (Nat.zero_le _) (Nat.le_refl _) (fun e => e) (fun j hj => ?_) ?_⟩
      · by_cases e : j = i
        · subst e
          simp only [if_true, List.length_cons, List.length_nil, Nat.zero_add, Nat.le_refl, Nat.zero_lt_one, and_self, Nat.sub_self, List.getD_cons_zero]
          exact AvTo.f (by simp only [shiftX, h2, Nat.lt_succ_self, decide_true, cond_true])
        · simp only [e, if_false]
          exact AvTo.f (by simp only [show (j < i + 1) ↔ j < i by omega])
      · (repeat' first | exact AllTo.nil | apply AllTo.cons) <;> first | exact AvTo.dead _ | exact AvTo.i rfl | exact AvTo.i (by first | omega | (simp only [natCast_int]; omega)) | exact AvTo.f rfl | exact AvTo.b rfl | exact AvTo.v _ | exact AvTo.own rfl rfl rfl rfl | exact AvTo.own rfl rfl (by first | rfl | omega) (by first | rfl | omega) | exact Free.same .listF | exact Free.same (.fn (by simp) (by simp)) | skip
    · have h2 := ‹(_ && _) = false›
      refine ⟨i + 1, by omega, by omega, To.list (Nat.zero_le _) (Nat.le_refl _) (fun e => e) (fun j hj => AvTo.f ?_) ?_⟩
      · by_cases e : j = i
        · subst e
          simp only [shiftX, h2, Nat.lt_irrefl, Nat.lt_succ_self, decide_true, decide_false, cond_true, cond_false]
        · simp only [show (j < i + 1) ↔ j < i by omega]
      · (repeat' first | exact AllTo.nil | apply AllTo.cons) <;> first | exact AvTo.dead _ | exact AvTo.i rfl | exact AvTo.i (by first | omega | (simp only [natCast_int]; omega)) | exact AvTo.f rfl | exact AvTo.b rfl | exact AvTo.v _ | exact AvTo.own rfl rfl rfl rfl | exact AvTo.own rfl rfl (by first | rfl | omega) (by first | rfl | omega) | exact Free.same .listF | exact Free.same (.fn (by simp) (by simp)) | skip
    · refine Post.eval (by cbv) ?_
      simp only [natCast_int, Post, All, thenA, canon0, canon064, and_true, true_and, forall_const, implies_true, decide_eq_true_eq, decide_eq_false_iff_not, Bool.not_eq_true', Bool.not_eq_false', Bool.true_and, Bool.and_true, beq_true, beq_false, Int.toNat_natCast, Int.ofNat_lt, Int.ofNat_le, Nat.zero_add, Nat.add_zero, imp_self, Bool.cond_false_right, Bool.cond_true_left, Bool.cond_true_right, IsF, rdF_eq, fOf, AV.f.injEq, exists_eq', free_list, free_fn0, List.not_mem_nil, List.mem_cons, false_imp, forall_eq, or_false, free_i, free_f, free_b, ren_f, ren_i, ren_b, and_self, bne_iff_ne, bne_eq_false_iff_eq, ne_eq, Int.natCast_inj, or_true, true_or, freeB_list, unfr_f, unfr_i, unfr_b, unfr_c, unfr_s, free_c, free_s, ren_c, ren_s, unfr_ro, unfr_rptr, ren_ro, free_ll, free_box, Int.toNat_zero, isFF_ll, rowN_ll, rowX_ll, AllFree, Option.some.injEq, Prod.mk.injEq, Bool.false_eq_true, Bool.true_eq_false]
      have e : i = n .u := by omega
      refine fin_ret (.inl rfl) (by cbv) (by simp) (To.list (Nat.zero_le _) (Nat.le_refl _) (fun e => e) (fun j hj => AvTo.f ?_) ?_)
      · simp only [e, hj, decide_true, cond_true]
      · (repeat' first | exact AllTo.nil | apply AllTo.cons) <;> first | exact AvTo.dead _ | exact AvTo.i rfl | exact AvTo.i (by first | omega | (simp only [natCast_int]; omega)) | exact AvTo.f rfl | exact AvTo.b rfl | exact AvTo.v _ | exact AvTo.own rfl rfl rfl rfl | exact AvTo.own rfl rfl (by first | rfl | omega) (by first | rfl | omega) | exact Free.same .listF | exact Free.same (.fn (by simp) (by simp)) | skip
def okShift (n : Nat) (x : Nat → Nat) (d : Int) : Bool := isList n x && (decide (-128 ≤ d) && decide (d ≤ 128))
def kShiftYes : Kr
  | [a, .i .i64 d] => match asL a with
    | some (n, g) => some (.tup [.own 0 (fun _ => 0) n 1, .b fun _ => true], [some (true, .tab n 1 fun i _ => .f .f32 fun _ => shiftX (n .u) (rdF g) (d .u) (i .u))], fun _ => IsF n g ∧ okShift (n .u) (rdF g) (d .u) = true)
    | none => none
  | _ => none
def kShiftNo : Kr
  | [a, .i .i64 d] => match asL a with
    | some (n, g) => some (.tup [.v (.slice none 0 0), .b fun _ => false], [], fun _ => IsF n g ∧ okShift (n .u) (rdF g) (d .u) = false)
    | none => none
  | _ => none
def ctSpecShift : CT := [(44, .r kList), (45, .r kIn), (46, .r kShift)]
theorem ctSpecShift_ok : CTok Try.prog ctSpecShift := CTok.cons l05List_tells (CTok.cons l00In_tells (CTok.cons l07Shift_tells (CTok.nil _)))
theorem specShiftYes : Tells Try.prog 13 (.r kShiftYes) := by
  intro args r H' p hr hp
  unfold kShiftYes at hr
  split at hr <;> first | (cases hr; done) | skip
  split at hr <;> cases hr
  rename_i d _ n g hL
  obtain ⟨hp, hok⟩ := hp
  refine ⟨allFr_tup2 .own .b, .list, Con.pre (args' := [listF false n (rdF g), .i .i64 d]) ⟨.asL hL hp, Sub.refl _, trivial⟩ ?_⟩
  have hn := hp.1
  generalize rdF g = x at hok
  refine Con.of ttok Try.func13 rfl rfl (Nat.zero_le _) (AW.exec ttok ctSpecShift_ok (by cbv) ?_)
  simp only [natCast_int, Post, All, thenA, canon0, canon064, and_true, true_and, forall_const, implies_true, decide_eq_true_eq, decide_eq_false_iff_not, Bool.not_eq_true', Bool.not_eq_false', Bool.true_and, Bool.and_true, beq_true, beq_false, Int.toNat_natCast, Int.ofNat_lt, Int.ofNat_le, Nat.zero_add, Nat.add_zero, imp_self, Bool.cond_false_right, Bool.cond_true_left, Bool.cond_true_right, IsF, rdF_eq, fOf, AV.f.injEq, exists_eq', free_list, free_fn0, List.not_mem_nil, List.mem_cons, false_imp, forall_eq, or_false, free_i, free_f, free_b, ren_f, ren_i, ren_b, and_self, bne_iff_ne, bne_eq_false_iff_eq, ne_eq, Int.natCast_inj, or_true, true_or, freeB_list, unfr_f, unfr_i, unfr_b, unfr_c, unfr_s, free_c, free_s, ren_c, ren_s, unfr_ro, unfr_rptr, ren_ro, free_ll, free_box, Int.toNat_zero, isFF_ll, rowN_ll, rowX_ll, AllFree, Option.some.injEq, Prod.mk.injEq, Bool.false_eq_true, Bool.true_eq_false]
  have hok' := hok
  simp only [okShift, isList, Bool.and_eq_true, decide_eq_true_eq] at hok'
  (repeat' first | with_reducible assumption | with_reducible apply And.intro | with_reducible intro hh) <;> first | ((first | with_reducible show (_ : Int) ≤ _ | with_reducible show (_ : Int) < _ | with_reducible show (_ : Nat) ≤ _ | with_reducible show (_ : Nat) < _ | with_reducible show (_ : Int) = _ | with_reducible show (_ : Nat) = _ | with_reducible show ¬ _ | with_reducible show _ ≠ _) <;> first | omega | (simp only [Bool.and_eq_true, Bool.or_eq_false_iff, Bool.not_eq_false', Bool.not_eq_true', decide_eq_true_eq, decide_eq_false_iff_not] at *; omega) | (with_reducible assumption)) | (with_reducible assumption) | skip
  · simp_all [okShift]
  · refine fin_ret (.inl rfl) (by cbv) (by simp) (To.list (Nat.zero_le _) (Nat.le_refl _) (fun e => e) (fun j hj => AvTo.f rfl) ?_)
    exact .cons (.tup (.cons (.own rfl rfl rfl rfl) (.cons (.b rfl) .nil))) .nil
theorem specShiftNo : Tells Try.prog 13 (.r kShiftNo) := by
  intro args r H' p hr hp
  unfold kShiftNo at hr
  split at hr <;> first | (cases hr; done) | skip
  split at hr <;> cases hr
  rename_i d _ n g hL
  obtain ⟨hp, hok⟩ := hp
  refine ⟨allFr_tup2 .v .b, .nil, Con.pre (args' := [listF false n (rdF g), .i .i64 d]) ⟨.asL hL hp, Sub.refl _, trivial⟩ ?_⟩
  have hn := hp.1
  generalize rdF g = x at hok
  refine Con.of ttok Try.func13 rfl rfl (Nat.zero_le _) (AW.exec ttok ctSpecShift_ok (by cbv) ?_)
  simp only [natCast_int, Post, All, thenA, canon0, canon064, and_true, true_and, forall_const, implies_true, decide_eq_true_eq, decide_eq_false_iff_not, Bool.not_eq_true', Bool.not_eq_false', Bool.true_and, Bool.and_true, beq_true, beq_false, Int.toNat_natCast, Int.ofNat_lt, Int.ofNat_le, Nat.zero_add, Nat.add_zero, imp_self, Bool.cond_false_right, Bool.cond_true_left, Bool.cond_true_right, IsF, rdF_eq, fOf, AV.f.injEq, exists_eq', free_list, free_fn0, List.not_mem_nil, List.mem_cons, false_imp, forall_eq, or_false, free_i, free_f, free_b, ren_f, ren_i, ren_b, and_self, bne_iff_ne, bne_eq_false_iff_eq, ne_eq, Int.natCast_inj, or_true, true_or, freeB_list, unfr_f, unfr_i, unfr_b, unfr_c, unfr_s, free_c, free_s, ren_c, ren_s, unfr_ro, unfr_rptr, ren_ro, free_ll, free_box, Int.toNat_zero, isFF_ll, rowN_ll, rowX_ll, AllFree, Option.some.injEq, Prod.mk.injEq, Bool.false_eq_true, Bool.true_eq_false]
  (repeat' first | with_reducible assumption | with_reducible apply And.intro | with_reducible intro hh) <;> first | ((first | with_reducible show (_ : Int) ≤ _ | with_reducible show (_ : Int) < _ | with_reducible show (_ : Nat) ≤ _ | with_reducible show (_ : Nat) < _ | with_reducible show (_ : Int) = _ | with_reducible show (_ : Nat) = _ | with_reducible show ¬ _ | with_reducible show _ ≠ _) <;> first | omega | (simp only [Bool.and_eq_true, Bool.or_eq_false_iff, Bool.not_eq_false', Bool.not_eq_true', decide_eq_true_eq, decide_eq_false_iff_not] at *; omega) | (with_reducible assumption)) | (with_reducible assumption) | skip
  · exact fin_ret (.inl rfl) (by cbv) (by simp) (To.fresh (.cons (.tup (.cons (.v _) (.cons (.b rfl) .nil))) .nil))
  all_goals simp_all [okShift, isList]
theorem isList_fin (n : Nat) (x : Nat → Nat) : (decide (1 ≤ (n : Int)) && (decide (n ≤ 128) && finN n x)) = isList n x := by
  simp only [isList, finN, show decide (1 ≤ (n : Int)) = decide (1 ≤ n) from decide_eq_decide.2 (by omega)]
  cases allN (fun i => isFin (x i)) n <;> simp
def ctImplShift : CT := [(47, .r kIsList), (48, .r kIn), (49, .r kShift)]
theorem ctImplShift_ok : CTok Try.prog ctImplShift := CTok.cons isList_tells (CTok.cons within_tells (CTok.cons shifted_tells (CTok.nil _)))
theorem implShiftYes : Tells Try.prog 15 (.r kShiftYes) := by
  intro args r H' p hr hp
  unfold kShiftYes at hr
  split at hr <;> first | (cases hr; done) | skip
  split at hr <;> cases hr
  rename_i d _ n g hL
  obtain ⟨hp, hok⟩ := hp
  refine ⟨allFr_tup2 .own .b, .list, Con.pre (args' := [listF false n (rdF g), .i .i64 d]) ⟨.asL hL hp, Sub.refl _, trivial⟩ ?_⟩
  have hn := hp.1
  generalize rdF g = x at hok
  refine Con.of ttok Try.func15 rfl rfl (Nat.zero_le _) (AW.exec ttok ctImplShift_ok (by cbv) ?_)
  simp only [natCast_int, Post, All, thenA, canon0, canon064, and_true, true_and, forall_const, implies_true, decide_eq_true_eq, decide_eq_false_iff_not, Bool.not_eq_true', Bool.not_eq_false', Bool.true_and, Bool.and_true, beq_true, beq_false, Int.toNat_natCast, Int.ofNat_lt, Int.ofNat_le, Nat.zero_add, Nat.add_zero, imp_self, Bool.cond_false_right, Bool.cond_true_left, Bool.cond_true_right, IsF, rdF_eq, fOf, AV.f.injEq, exists_eq', free_list, free_fn0, List.not_mem_nil, List.mem_cons, false_imp, forall_eq, or_false, free_i, free_f, free_b, ren_f, ren_i, ren_b, and_self, bne_iff_ne, bne_eq_false_iff_eq, ne_eq, Int.natCast_inj, or_true, true_or, freeB_list, unfr_f, unfr_i, unfr_b, unfr_c, unfr_s, free_c, free_s, ren_c, ren_s, unfr_ro, unfr_rptr, ren_ro, free_ll, free_box, Int.toNat_zero, isFF_ll, rowN_ll, rowX_ll, AllFree, Option.some.injEq, Prod.mk.injEq, Bool.false_eq_true, Bool.true_eq_false, isList_fin]
  have hok' := hok
  simp only [okShift, isList, Bool.and_eq_true, decide_eq_true_eq] at hok'
  (repeat' first | with_reducible assumption | with_reducible apply And.intro | with_reducible intro hh) <;> first | ((first | with_reducible show (_ : Int) ≤ _ | with_reducible show (_ : Int) < _ | with_reducible show (_ : Nat) ≤ _ | with_reducible show (_ : Nat) < _ | with_reducible show (_ : Int) = _ | with_reducible show (_ : Nat) = _ | with_reducible show ¬ _ | with_reducible show _ ≠ _) <;> first | omega | (simp only [Bool.and_eq_true, Bool.or_eq_false_iff, Bool.not_eq_false', Bool.not_eq_true', decide_eq_true_eq, decide_eq_false_iff_not] at *; omega) | (with_reducible assumption)) | (with_reducible assumption) | skip
  · simp_all [okShift]
  · refine fin_ret (.inl rfl) (by cbv) (by simp) (To.list (Nat.zero_le _) (Nat.le_refl _) (fun e => e) (fun j hj => AvTo.f rfl) ?_)
    exact .cons (.tup (.cons (.own rfl rfl rfl rfl) (.cons (.b rfl) .nil))) .nil
theorem implShiftNo : Tells Try.prog 15 (.r kShiftNo) := by
  intro args r H' p hr hp
  unfold kShiftNo at hr
  split at hr <;> first | (cases hr; done) | skip
  split at hr <;> cases hr
  rename_i d _ n g hL
  obtain ⟨hp, hok⟩ := hp
  refine ⟨allFr_tup2 .v .b, .nil, Con.pre (args' := [listF false n (rdF g), .i .i64 d]) ⟨.asL hL hp, Sub.refl _, trivial⟩ ?_⟩
  have hn := hp.1
  generalize rdF g = x at hok
  refine Con.of ttok Try.func15 rfl rfl (Nat.zero_le _) (AW.exec ttok ctImplShift_ok (by cbv) ?_)
  simp only [natCast_int, Post, All, thenA, canon0, canon064, and_true, true_and, forall_const, implies_true, decide_eq_true_eq, decide_eq_false_iff_not, Bool.not_eq_true', Bool.not_eq_false', Bool.true_and, Bool.and_true, beq_true, beq_false, Int.toNat_natCast, Int.ofNat_lt, Int.ofNat_le, Nat.zero_add, Nat.add_zero, imp_self, Bool.cond_false_right, Bool.cond_true_left, Bool.cond_true_right, IsF, rdF_eq, fOf, AV.f.injEq, exists_eq', free_list, free_fn0, List.not_mem_nil, List.mem_cons, false_imp, forall_eq, or_false, free_i, free_f, free_b, ren_f, ren_i, ren_b, and_self, bne_iff_ne, bne_eq_false_iff_eq, ne_eq, Int.natCast_inj, or_true, true_or, freeB_list, unfr_f, unfr_i, unfr_b, unfr_c, unfr_s, free_c, free_s, ren_c, ren_s, unfr_ro, unfr_rptr, ren_ro, free_ll, free_box, Int.toNat_zero, isFF_ll, rowN_ll, rowX_ll, AllFree, Option.some.injEq, Prod.mk.injEq, Bool.false_eq_true, Bool.true_eq_false, isList_fin]
  (repeat' first | with_reducible assumption | with_reducible apply And.intro | with_reducible intro hh) <;> first | ((first | with_reducible show (_ : Int) ≤ _ | with_reducible show (_ : Int) < _ | with_reducible show (_ : Nat) ≤ _ | with_reducible show (_ : Nat) < _ | with_reducible show (_ : Int) = _ | with_reducible show (_ : Nat) = _ | with_reducible show ¬ _ | with_reducible show _ ≠ _) <;> first | omega | (simp only [Bool.and_eq_true, Bool.or_eq_false_iff, Bool.not_eq_false', Bool.not_eq_true', decide_eq_true_eq, decide_eq_false_iff_not] at *; omega) | (with_reducible assumption)) | (with_reducible assumption) | skip
  · exact fin_ret (.inl rfl) (by cbv) (by simp) (To.fresh (.cons (.tup (.cons (.v _) (.cons (.b rfl) .nil))) .nil))
  all_goals simp_all [okShift, isList]
end Go.Proofs.Ytdeibnannibbeaa
