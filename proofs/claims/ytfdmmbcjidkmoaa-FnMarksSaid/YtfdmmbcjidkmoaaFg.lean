/- Numbers that are finite and at least nothing. -/
import Derived.Test.YtfdmmbcjidkmoaaFe
set_option linter.unusedSimpArgs false
set_option linter.unusedVariables false
namespace Go.Proofs.Ytfdmmbcjidkmoaa
open Go.Aw
def notRotor (x : Nat) : Bool := !isFin x || flt .f32 x 0
theorem areRotor1_tells : Tells Try.prog 126 (.r (kPred notRotor)) := by
  intro args r H' p hr hp
  unfold kPred at hr
  split at hr <;> cases hr
  refine ⟨.b, .nil, Con.of ttok Try.func126 rfl rfl (Nat.le_refl _) (AW.exec ttok ctIsFinite_ok (by cbv) ?_)⟩
  simp only [natCast_int, Post, All, thenA, canon0, canon064, and_true, true_and, forall_const, implies_true, decide_eq_true_eq, decide_eq_false_iff_not, Bool.not_eq_true', Bool.not_eq_false', Bool.true_and, Bool.and_true, beq_true, beq_false, Int.toNat_natCast, Int.ofNat_lt, Int.ofNat_le, Nat.zero_add, Nat.add_zero, imp_self, Bool.cond_false_right, Bool.cond_true_left, Bool.cond_true_right, IsF, rdF_eq, fOf, AV.f.injEq, exists_eq', free_list, free_fn0, List.not_mem_nil, List.mem_cons, false_imp, forall_eq, or_false, free_i, free_f, free_b, ren_f, ren_i, ren_b, and_self, bne_iff_ne, bne_eq_false_iff_eq, ne_eq, Int.natCast_inj, or_true, true_or, freeB_list, unfr_f, unfr_i, unfr_b, unfr_c, unfr_s, free_c, free_s, ren_c, ren_s, unfr_ro, unfr_rptr, ren_ro, free_ll, free_box, kill_f, kill_i, kill_b, kill_c, kill_s, kill_rof, kill_rot, Int.toNat_zero, isFF_ll, rowN_ll, rowX_ll, AllFree, Option.some.injEq, Prod.mk.injEq, Bool.false_eq_true, Bool.true_eq_false]
  (repeat' first | with_reducible assumption | with_reducible apply And.intro | with_reducible intro hh) <;> first | ((first | with_reducible show (_ : Int) ≤ _ | with_reducible show (_ : Int) < _ | with_reducible show (_ : Nat) ≤ _ | with_reducible show (_ : Nat) < _ | with_reducible show (_ : Int) = _ | with_reducible show (_ : Nat) = _ | with_reducible show ¬ _ | with_reducible show _ ≠ _) <;> first | omega | (simp only [Bool.and_eq_true, Bool.or_eq_false_iff, Bool.not_eq_false', Bool.not_eq_true', decide_eq_true_eq, decide_eq_false_iff_not] at *; omega) | (with_reducible assumption)) | (with_reducible assumption) | skip
  exact fin_ret (.inl rfl) (by cbv) (by simp) (To.fresh ⟨.b rfl, trivial⟩)
/-- The first place where notRotor holds, -1 where none does: slices.IndexFunc over the closure 126. -/
def kIndex_notRotor : Kr
  | [a, .fn (.func c) [] []] => match Nat.beq c 126 with
    | true => match asL a with
      | some (n, g) => some (.i .i64 fun _ => firstN (fun i => notRotor (rdF g i)) (n .u), [], fun _ => IsF n g)
      | none => none
    | false => none
  | _ => none
def ctI_notRotor : CT := [(126, .r (kPred notRotor))]
theorem ctI_notRotor_ok : CTok Try.prog ctI_notRotor := CTok.cons areRotor1_tells (CTok.nil _)
theorem index_notRotor : Tells Try.prog 147 (.r kIndex_notRotor) := by
  intro args r H' p hr hp
  unfold kIndex_notRotor at hr
  split at hr <;> first | (cases hr; done) | skip
  split at hr <;> first | (cases hr; done) | skip
  rename_i c hc
  obtain rfl := Nat.beq_eq.mp hc
  split at hr <;> cases hr
  rename_i n g hL
  refine ⟨.i, .nil, Con.pre (args' := [listF false n (rdF g), .fn (.func 126) [] []]) ⟨.asL hL hp, Sub.refl _, trivial⟩ ?_⟩
  have hn := hp.1
  generalize rdF g = x
  refine Con.of ttok Try.func147 rfl rfl (Nat.le_refl _) (AW.exec ttok ctI_notRotor_ok (by cbv) ?_)
  simp only [natCast_int, Post, All, thenA, canon0, canon064, and_true, true_and, forall_const, implies_true, decide_eq_true_eq, decide_eq_false_iff_not, Bool.not_eq_true', Bool.not_eq_false', Bool.true_and, Bool.and_true, beq_true, beq_false, Int.toNat_natCast, Int.ofNat_lt, Int.ofNat_le, Nat.zero_add, Nat.add_zero, imp_self, Bool.cond_false_right, Bool.cond_true_left, Bool.cond_true_right, IsF, rdF_eq, fOf, AV.f.injEq, exists_eq', free_list, free_fn0, List.not_mem_nil, List.mem_cons, false_imp, forall_eq, or_false, free_i, free_f, free_b, ren_f, ren_i, ren_b, and_self, bne_iff_ne, bne_eq_false_iff_eq, ne_eq, Int.natCast_inj, or_true, true_or, freeB_list, unfr_f, unfr_i, unfr_b, unfr_c, unfr_s, free_c, free_s, ren_c, ren_s, unfr_ro, unfr_rptr, ren_ro, free_ll, free_box, kill_f, kill_i, kill_b, kill_c, kill_s, kill_rof, kill_rot, Int.toNat_zero, isFF_ll, rowN_ll, rowX_ll, AllFree, Option.some.injEq, Prod.mk.injEq, Bool.false_eq_true, Bool.true_eq_false]
  refine AW.loopTo (ι := Nat) (fun i => i ≤ n .u ∧ ∀ j, j < i → notRotor (x j) = false) (fun i => n .u - i) (fun i => mkE Try.f147.ntmps [(0, listF false n x), (1, .fn (.func 126) [] []), (7, .i .i64 fun _ => (n .u : Int)), (8, .i .i64 fun _ => (i : Int))]) (fun _ => []) 0 ⟨Nat.zero_le _, fun j hj => absurd hj (Nat.not_lt_zero _)⟩ (To.same (Nat.le_refl _) trivial ?_) ?_
  · (repeat' first | exact AllTo.nil | apply AllTo.cons) <;> first | exact AvTo.dead _ | exact AvTo.i rfl | exact AvTo.i (by first | omega | (simp only [natCast_int]; omega)) | exact AvTo.f rfl | exact AvTo.b rfl | exact AvTo.v _ | exact AvTo.own rfl rfl rfl rfl | exact AvTo.own rfl rfl (by first | rfl | omega) (by first | rfl | omega) | exact Free.same .listF | exact Free.same (.fn (by simp) (by simp)) | skip
  · rintro i ⟨hi, hx⟩
    refine AW.exec ttok ctI_notRotor_ok (by cbv) ?_
    simp only [natCast_int, Post, All, thenA, canon0, canon064, and_true, true_and, forall_const, implies_true, decide_eq_true_eq, decide_eq_false_iff_not, Bool.not_eq_true', Bool.not_eq_false', Bool.true_and, Bool.and_true, beq_true, beq_false, Int.toNat_natCast, Int.ofNat_lt, Int.ofNat_le, Nat.zero_add, Nat.add_zero, imp_self, Bool.cond_false_right, Bool.cond_true_left, Bool.cond_true_right, IsF, rdF_eq, fOf, AV.f.injEq, exists_eq', free_list, free_fn0, List.not_mem_nil, List.mem_cons, false_imp, forall_eq, or_false, free_i, free_f, free_b, ren_f, ren_i, ren_b, and_self, bne_iff_ne, bne_eq_false_iff_eq, ne_eq, Int.natCast_inj, or_true, true_or, freeB_list, unfr_f, unfr_i, unfr_b, unfr_c, unfr_s, free_c, free_s, ren_c, ren_s, unfr_ro, unfr_rptr, ren_ro, free_ll, free_box, kill_f, kill_i, kill_b, kill_c, kill_s, kill_rof, kill_rot, Int.toNat_zero, isFF_ll, rowN_ll, rowX_ll, AllFree, Option.some.injEq, Prod.mk.injEq, Bool.false_eq_true, Bool.true_eq_false]
    refine ⟨fun h1 => ⟨by omega, fun _ => ⟨fun h2 => ?_, fun h2 => ⟨by omega, fun _ => ⟨i + 1, ⟨h1, lt_succ_all hx h2⟩, by omega, To.same (Nat.le_refl _) trivial ?_⟩⟩⟩⟩, fun h1 => ?_⟩
    · refine Post.leaf (by cbv) (fin_ret (.inl rfl) (by cbv) (by simp) (To.fresh ⟨.i ?_, trivial⟩))
      exact (firstN_at (q := fun i => notRotor (x i)) h1 h2 hx).symm
    · (repeat' first | exact AllTo.nil | apply AllTo.cons) <;> first | exact AvTo.dead _ | exact AvTo.i rfl | exact AvTo.i (by first | omega | (simp only [natCast_int]; omega)) | exact AvTo.f rfl | exact AvTo.b rfl | exact AvTo.v _ | exact AvTo.own rfl rfl rfl rfl | exact AvTo.own rfl rfl (by first | rfl | omega) (by first | rfl | omega) | exact Free.same .listF | exact Free.same (.fn (by simp) (by simp)) | skip
    · refine Post.eval (by cbv) ?_
      simp only [natCast_int, Post, All, thenA, canon0, canon064, and_true, true_and, forall_const, implies_true, decide_eq_true_eq, decide_eq_false_iff_not, Bool.not_eq_true', Bool.not_eq_false', Bool.true_and, Bool.and_true, beq_true, beq_false, Int.toNat_natCast, Int.ofNat_lt, Int.ofNat_le, Nat.zero_add, Nat.add_zero, imp_self, Bool.cond_false_right, Bool.cond_true_left, Bool.cond_true_right, IsF, rdF_eq, fOf, AV.f.injEq, exists_eq', free_list, free_fn0, List.not_mem_nil, List.mem_cons, false_imp, forall_eq, or_false, free_i, free_f, free_b, ren_f, ren_i, ren_b, and_self, bne_iff_ne, bne_eq_false_iff_eq, ne_eq, Int.natCast_inj, or_true, true_or, freeB_list, unfr_f, unfr_i, unfr_b, unfr_c, unfr_s, free_c, free_s, ren_c, ren_s, unfr_ro, unfr_rptr, ren_ro, free_ll, free_box, kill_f, kill_i, kill_b, kill_c, kill_s, kill_rof, kill_rot, Int.toNat_zero, isFF_ll, rowN_ll, rowX_ll, AllFree, Option.some.injEq, Prod.mk.injEq, Bool.false_eq_true, Bool.true_eq_false]
      refine fin_ret (.inl rfl) (by cbv) (by simp) (To.fresh ⟨.i ?_, trivial⟩)
      have e : i = n .u := by omega
      exact (firstN_none (q := fun i => notRotor (x i)) (e ▸ hx)).symm
def kHas_notRotor : Kr
  | [a, .fn (.func c) [] []] => match Nat.beq c 126 with
    | true => match asL a with
      | some (n, g) => some (.b fun _ => !allN (fun i => !notRotor (rdF g i)) (n .u), [], fun _ => IsF n g)
      | none => none
    | false => none
  | _ => none
def ctH_notRotor : CT := [(147, .r kIndex_notRotor)]
theorem ctH_notRotor_ok : CTok Try.prog ctH_notRotor := CTok.cons index_notRotor (CTok.nil _)
theorem has_notRotor : Tells Try.prog 124 (.r kHas_notRotor) := by
  intro args r H' p hr hp
  unfold kHas_notRotor at hr
  split at hr <;> first | (cases hr; done) | skip
  split at hr <;> first | (cases hr; done) | skip
  rename_i c hc
  obtain rfl := Nat.beq_eq.mp hc
  split at hr <;> cases hr
  rename_i n g hL
  refine ⟨.b, .nil, Con.pre (args' := [listF false n (rdF g), .fn (.func 126) [] []]) ⟨.asL hL hp, Sub.refl _, trivial⟩ ?_⟩
  have hn := hp.1
  generalize rdF g = x
  refine Con.of ttok Try.func124 rfl rfl (Nat.le_refl _) (AW.exec ttok ctH_notRotor_ok (by cbv) ?_)
  simp only [natCast_int, Post, All, thenA, canon0, canon064, and_true, true_and, forall_const, implies_true, decide_eq_true_eq, decide_eq_false_iff_not, Bool.not_eq_true', Bool.not_eq_false', Bool.true_and, Bool.and_true, beq_true, beq_false, Int.toNat_natCast, Int.ofNat_lt, Int.ofNat_le, Nat.zero_add, Nat.add_zero, imp_self, Bool.cond_false_right, Bool.cond_true_left, Bool.cond_true_right, IsF, rdF_eq, fOf, AV.f.injEq, exists_eq', free_list, free_fn0, List.not_mem_nil, List.mem_cons, false_imp, forall_eq, or_false, free_i, free_f, free_b, ren_f, ren_i, ren_b, and_self, bne_iff_ne, bne_eq_false_iff_eq, ne_eq, Int.natCast_inj, or_true, true_or, freeB_list, unfr_f, unfr_i, unfr_b, unfr_c, unfr_s, free_c, free_s, ren_c, ren_s, unfr_ro, unfr_rptr, ren_ro, free_ll, free_box, kill_f, kill_i, kill_b, kill_c, kill_s, kill_rof, kill_rot, Int.toNat_zero, isFF_ll, rowN_ll, rowX_ll, AllFree, Option.some.injEq, Prod.mk.injEq, Bool.false_eq_true, Bool.true_eq_false]
  exact ⟨hn, fun _ => fin_ret (.inl rfl) (by cbv) (by simp) (To.fresh ⟨.b (has_first (q := fun i => notRotor (x i)) (n .u)).symm, trivial⟩)⟩
def rotN (n : Nat) (x : Nat → Nat) : Bool := allN (fun i => !notRotor (x i)) n
def kRotN : Kr
  | [a] => match asL a with
    | some (n, g) => some (.b fun _ => rotN (n .u) (rdF g), [], fun _ => IsF n g)
    | none => none
  | _ => none
def ctAreRotor : CT := [(124, .r kHas_notRotor)]
theorem ctAreRotor_ok : CTok Try.prog ctAreRotor := CTok.cons has_notRotor (CTok.nil _)
theorem areRotor_tells : Tells Try.prog 74 (.r kRotN) := by
  intro args r H' p hr hp
  unfold kRotN at hr
  split at hr <;> first | (cases hr; done) | skip
  split at hr <;> cases hr
  rename_i n g hL
  refine ⟨.b, .nil, Con.pre (args' := [listF false n (rdF g)]) ⟨.asL hL hp, trivial⟩ ?_⟩
  have hn := hp.1
  generalize rdF g = x
  refine Con.of ttok Try.func74 rfl rfl (Nat.le_refl _) (AW.exec ttok ctAreRotor_ok (by cbv) ?_)
  simp only [natCast_int, Post, All, thenA, canon0, canon064, and_true, true_and, forall_const, implies_true, decide_eq_true_eq, decide_eq_false_iff_not, Bool.not_eq_true', Bool.not_eq_false', Bool.true_and, Bool.and_true, beq_true, beq_false, Int.toNat_natCast, Int.ofNat_lt, Int.ofNat_le, Nat.zero_add, Nat.add_zero, imp_self, Bool.cond_false_right, Bool.cond_true_left, Bool.cond_true_right, IsF, rdF_eq, fOf, AV.f.injEq, exists_eq', free_list, free_fn0, List.not_mem_nil, List.mem_cons, false_imp, forall_eq, or_false, free_i, free_f, free_b, ren_f, ren_i, ren_b, and_self, bne_iff_ne, bne_eq_false_iff_eq, ne_eq, Int.natCast_inj, or_true, true_or, freeB_list, unfr_f, unfr_i, unfr_b, unfr_c, unfr_s, free_c, free_s, ren_c, ren_s, unfr_ro, unfr_rptr, ren_ro, free_ll, free_box, kill_f, kill_i, kill_b, kill_c, kill_s, kill_rof, kill_rot, Int.toNat_zero, isFF_ll, rowN_ll, rowX_ll, AllFree, Option.some.injEq, Prod.mk.injEq, Bool.false_eq_true, Bool.true_eq_false]
  refine ⟨hn, fun _ => fin_ret (.inl rfl) (by cbv) (by simp) (To.fresh ⟨.b ?_, trivial⟩)⟩
  simp only [rotN, Bool.not_not]
end Go.Proofs.Ytfdmmbcjidkmoaa
