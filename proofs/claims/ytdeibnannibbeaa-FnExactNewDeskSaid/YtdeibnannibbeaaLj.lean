/- The law FnExactNewDesk answers yes; conditions: none. -/
import Derived.Test.YtdeibnannibbeaaHc
import Derived.Test.YtdeibnannibbeaaLr
set_option linter.unusedSimpArgs false
set_option linter.unusedVariables false
namespace Go.Proofs.Ytdeibnannibbeaa
open Go.Aw
/-- A desk that is made anew. -/
def edgesX : Nat → Nat
  | 0 => 0
  | _ => 1065353216
def heightsX : Nat → Nat
  | 0 => 0
  | 1 => 1073741824
  | _ => 0
def onesX (_ : Nat) : Nat := 1065353216
def kNew : Kr
  | [] => some (.agg [.own 0 (fun _ => 0) (fun _ => 2) 1, .own 1 (fun _ => 0) (fun _ => 3) 1, .f .f32 fun _ => 1065353216, .f .f32 fun _ => 0, .f .f32 fun _ => 0, .f .f32 fun _ => 1073741824, .own 2 (fun _ => 0) (fun _ => 4) 1], [blkF true (fun _ => 2) edgesX, blkF true (fun _ => 3) heightsX, blkF true (fun _ => 4) onesX], fun _ => True)
  | _ => none
theorem c1 : canon .f32 1065353216 = 1065353216 := by decide +kernel
theorem c2 : canon .f32 1073741824 = 1073741824 := by decide +kernel
theorem heldSteps_mark (n m : Nat) (k : Int) (hk : 0 ≤ k) : heldSteps n (fun i => markX k i) m (fun i => markX (k + n) i) k = k + n + m := by
  have h1 : heldL n (fun i => markX k i) k = k + n := heldL_mark n k
  have h2 : heldL m (fun i => markX (k + n) i) (k + n) = k + n + m := heldL_mark m (k + n)
  simp only [heldSteps, h1, h2]
  rw [decide_eq_false (show ¬ k + (n : Int) < 0 by omega), decide_eq_false (show ¬ k + (n : Int) + (m : Int) < 0 by omega)]
  rfl
theorem heldDesk_mark (n m l : Nat) (k : Int) (hk : 0 ≤ k) : heldDesk n (fun i => markX k i) m (fun i => markX (k + n) i) l (fun i => markX (k + n + m) i) k = k + n + m + l := by
  have h1 := heldSteps_mark n m k hk
  have h2 : heldL l (fun i => markX (k + n + m) i) (k + n + m) = k + n + m + l := heldL_mark l (k + n + m)
  simp only [heldDesk, h1, h2]
  rw [decide_eq_false (show ¬ k + (n : Int) + (m : Int) < 0 by omega), decide_eq_false (show ¬ k + (n : Int) + (m : Int) + (l : Int) < 0 by omega)]
  rfl
theorem heldDesk_new : heldDesk 2 (fun i => markX 1 i) 3 (fun i => markX (1 + ((2 : Nat) : Int)) i) 4 (fun i => markX (1 + ((2 : Nat) : Int) + ((3 : Nat) : Int)) i) 1 = 1 + ((2 : Nat) : Int) + ((3 : Nat) : Int) + ((4 : Nat) : Int) := heldDesk_mark 2 3 4 1 (by decide)
theorem new_neg : (1 + ((2 : Nat) : Int) + ((3 : Nat) : Int) + ((4 : Nat) : Int) < 0) ↔ False := by decide
theorem implNewDesk : Tells Try.prog 25 (.r kNew) := by
  intro args r H' p hr hp
  unfold kNew at hr
  split at hr <;> cases hr
  refine ⟨.agg (fun a ha => ?_), .cons (fun fr B e => by cases e; exact .tab fun _ _ _ _ => .f) (.cons (fun fr B e => by cases e; exact .tab fun _ _ _ _ => .f) .list), ?_⟩
  · simp only [List.mem_cons, List.not_mem_nil, or_false] at ha
    rcases ha with rfl | rfl | rfl | rfl | rfl | rfl | rfl <;> first | exact .own | exact .f
  refine Con.of ttok Try.func25 rfl rfl (Nat.zero_le _) (AW.exec ttok (CTok.nil _) (by cbv) ?_)
  simp only [natCast_int, Post, All, thenA, canon0, canon064, and_true, true_and, forall_const, implies_true, decide_eq_true_eq, decide_eq_false_iff_not, Bool.not_eq_true', Bool.not_eq_false', Bool.true_and, Bool.and_true, beq_true, beq_false, Int.toNat_natCast, Int.ofNat_lt, Int.ofNat_le, Nat.zero_add, Nat.add_zero, imp_self, Bool.cond_false_right, Bool.cond_true_left, Bool.cond_true_right, IsF, rdF_eq, fOf, AV.f.injEq, exists_eq', free_list, free_fn0, List.not_mem_nil, List.mem_cons, false_imp, forall_eq, or_false, free_i, free_f, free_b, ren_f, ren_i, ren_b, and_self, bne_iff_ne, bne_eq_false_iff_eq, ne_eq, Int.natCast_inj, or_true, true_or, freeB_list, unfr_f, unfr_i, unfr_b, unfr_c, unfr_s, free_c, free_s, ren_c, ren_s, unfr_ro, unfr_rptr, ren_ro, free_ll, free_box, Int.toNat_zero, isFF_ll, rowN_ll, rowX_ll, AllFree, Option.some.injEq, Prod.mk.injEq, Bool.false_eq_true, Bool.true_eq_false]
  refine fin_ret (.inl rfl) (by cbv) (by simp) (To.pick [1, 2, 3] (by decide) (Nat.zero_le _) (fun j hj => absurd hj (Nat.not_lt_zero _)) ⟨.list (fun e => e) (Nat.le_refl _) fun j hj => ?_, .list (fun e => e) (Nat.le_refl _) fun j hj => ?_, .list (fun e => e) (Nat.le_refl _) fun j hj => ?_, trivial⟩ ?_)
  · match j, hj with
    | 0, _ => exact AvTo.f rfl
    | 1, _ => exact AvTo.f c1
  · match j, hj with
    | 0, _ => exact AvTo.f rfl
    | 1, _ => exact AvTo.f c2
    | 2, _ => exact AvTo.f rfl
  · match j, hj with
    | 0, _ => exact AvTo.f c1
    | 1, _ => exact AvTo.f c1
    | 2, _ => exact AvTo.f c1
    | 3, _ => exact AvTo.f c1
  · exact .cons (.agg (.cons (ownTo rfl rfl rfl rfl) (.cons (ownTo rfl rfl rfl rfl) (.cons (.f c1) (.cons (.f rfl) (.cons (.f rfl) (.cons (.f c2) (.cons (ownTo rfl rfl rfl rfl) .nil)))))))) .nil
theorem specNewDesk : Tells Try.prog 24 (.r kNew) := by
  intro args r H' p hr hp
  unfold kNew at hr
  split at hr <;> cases hr
  refine ⟨.agg (fun a ha => ?_), .cons (fun fr B e => by cases e; exact .tab fun _ _ _ _ => .f) (.cons (fun fr B e => by cases e; exact .tab fun _ _ _ _ => .f) .list), ?_⟩
  · simp only [List.mem_cons, List.not_mem_nil, or_false] at ha
    rcases ha with rfl | rfl | rfl | rfl | rfl | rfl | rfl <;> first | exact .own | exact .f
  refine Con.of ttok Try.func24 rfl rfl (Nat.zero_le _) (AW.exec ttok (CTok.nil _) (by cbv) ?_)
  simp only [natCast_int, Post, All, thenA, canon0, canon064, and_true, true_and, forall_const, implies_true, decide_eq_true_eq, decide_eq_false_iff_not, Bool.not_eq_true', Bool.not_eq_false', Bool.true_and, Bool.and_true, beq_true, beq_false, Int.toNat_natCast, Int.ofNat_lt, Int.ofNat_le, Nat.zero_add, Nat.add_zero, imp_self, Bool.cond_false_right, Bool.cond_true_left, Bool.cond_true_right, IsF, rdF_eq, fOf, AV.f.injEq, exists_eq', free_list, free_fn0, List.not_mem_nil, List.mem_cons, false_imp, forall_eq, or_false, free_i, free_f, free_b, ren_f, ren_i, ren_b, and_self, bne_iff_ne, bne_eq_false_iff_eq, ne_eq, Int.natCast_inj, or_true, true_or, freeB_list, unfr_f, unfr_i, unfr_b, unfr_c, unfr_s, free_c, free_s, ren_c, ren_s, unfr_ro, unfr_rptr, ren_ro, free_ll, free_box, Int.toNat_zero, isFF_ll, rowN_ll, rowX_ll, AllFree, Option.some.injEq, Prod.mk.injEq, Bool.false_eq_true, Bool.true_eq_false]
  refine fin_ret (.inl rfl) (by cbv) (by simp) (To.pick [1, 2, 4] (by decide) (Nat.zero_le _) (fun j hj => absurd hj (Nat.not_lt_zero _)) ⟨.list (fun e => e) (Nat.le_refl _) fun j hj => ?_, .list (fun e => e) (Nat.le_refl _) fun j hj => ?_, .list (fun e => e) (Nat.le_refl _) fun j hj => ?_, trivial⟩ ?_)
  · match j, hj with
    | 0, _ => exact AvTo.f rfl
    | 1, _ => exact AvTo.f c1
  · match j, hj with
    | 0, _ => exact AvTo.f rfl
    | 1, _ => exact AvTo.f c2
    | 2, _ => exact AvTo.f rfl
  · match j, hj with
    | 0, _ => exact AvTo.f c1
    | 1, _ => exact AvTo.f c1
    | 2, _ => exact AvTo.f c1
    | 3, _ => exact AvTo.f c1
  · exact .cons (.agg (.cons (ownTo rfl rfl rfl rfl) (.cons (ownTo rfl rfl rfl rfl) (.cons (.f c1) (.cons (.f rfl) (.cons (.f rfl) (.cons (.f c2) (.cons (ownTo rfl rfl rfl rfl) .nil)))))))) .nil
def ctL_NewDesk : CT := [(26, .r kEqDesk), (27, .g 1 kMarkDesk), (28, .r kHeldDesk), (24, .r kNew), (25, .r kNew)]
theorem ctL_NewDesk_ok : CTok Try.prog ctL_NewDesk := .cons eqDesk_tells (.cons markDesk_tells (.cons heldDesk_tells (.cons specNewDesk (.cons implNewDesk (.nil _)))))
theorem law_NewDesk : Con Try.prog 5 [] [] (.b fun _ => true) [] := by
  refine Con.of ttok Try.func5 rfl rfl (Nat.le_refl _) (AW.exec ttok ctL_NewDesk_ok (by cbv) ?_)
  simp only [natCast_int, Post, All, thenA, canon0, canon064, and_true, true_and, forall_const, implies_true, decide_eq_true_eq, decide_eq_false_iff_not, Bool.not_eq_true', Bool.not_eq_false', Bool.true_and, Bool.and_true, beq_true, beq_false, Int.toNat_natCast, Int.ofNat_lt, Int.ofNat_le, Nat.zero_add, Nat.add_zero, imp_self, Bool.cond_false_right, Bool.cond_true_left, Bool.cond_true_right, IsF, rdF_eq, fOf, AV.f.injEq, exists_eq', free_list, free_fn0, List.not_mem_nil, List.mem_cons, false_imp, forall_eq, or_false, free_i, free_f, free_b, ren_f, ren_i, ren_b, and_self, bne_iff_ne, bne_eq_false_iff_eq, ne_eq, Int.natCast_inj, or_true, true_or, freeB_list, unfr_f, unfr_i, unfr_b, unfr_c, unfr_s, free_c, free_s, ren_c, ren_s, unfr_ro, unfr_rptr, ren_ro, free_ll, free_box, Int.toNat_zero, isFF_ll, rowN_ll, rowX_ll, AllFree, Option.some.injEq, Prod.mk.injEq, Bool.false_eq_true, Bool.true_eq_false, eqL_self, heldL_mark, heldL_zero, one_neg, Nat.zero_le, Nat.not_lt_zero, one_add_len, one_le_tb, zero_le_one', not_false_eq_true, true_imp_iff, bne_self_eq_false, Bool.or_false, Bool.false_or, Bool.not_true, Bool.not_false, Bool.true_eq_false, Bool.false_eq_true, false_imp, Nat.le_refl, decide_true, decide_false, not_true_eq_false, Int.lt_irrefl, same32_self, Bool.and_true, Bool.true_and, heldDesk_new, new_neg]
  (repeat' first | with_reducible assumption | with_reducible apply And.intro | with_reducible intro hh) <;> first | ((first | with_reducible show (_ : Int) ≤ _ | with_reducible show (_ : Int) < _ | with_reducible show (_ : Nat) ≤ _ | with_reducible show (_ : Nat) < _ | with_reducible show (_ : Int) = _ | with_reducible show (_ : Nat) = _ | with_reducible show ¬ _ | with_reducible show _ ≠ _) <;> first | omega | (simp only [Bool.and_eq_true, Bool.or_eq_false_iff, Bool.not_eq_false', Bool.not_eq_true', decide_eq_true_eq, decide_eq_false_iff_not] at *; omega) | (with_reducible assumption)) | (with_reducible assumption) | skip
  all_goals exact fin_ret (.inl rfl) (by cbv) (by simp) (To.fresh (.cons (.b rfl) .nil))
open Go.ChangeShapes in
theorem lifted_NewDesk (os : Os) (started : os.Started) (H : Type) (enc : TypeId × Value → H) :
    ReturnsInHanded {} Try.checked os 5 .any (Rows.fnExactNewDeskSpec.pre6 enc Try.prog Try.f5 Rows.fnExactNewDeskRow.domain false) (Rows.fnExactNewDeskSpec.post enc Try.prog Try.f5 Rows.fnExactNewDeskRow.apart Rows.fnExactNewDeskRow.fresh Rows.fnExactNewDeskRow.handsOn Rows.fnExactNewDeskRow.again) := by
  refine lifted (C := Try.checked) Try.own started (by kernel_rfl) Try.func5
    (ChangeSpec.witness6 (enc := enc) (C := Try.checked) false ⟨#[], #[], []⟩ 8 (by kernel_rfl) (by kernel_rfl) (by kernel_rfl) (by kernel_rfl))
    Try.laidOut Try.mapsOut Try.full (of_decide_eq_true (by kernel_rfl)) (tb := 4) (by kernel_rfl) uB rfl (fun ds h => ?_) (fun W base args ds ps hval hA => ?_)
  · match ds, h with
    | [], _ => exact ⟨rfl, rfl, rfl⟩
  · have hpar : Try.f5.params = #[] := by kernel_rfl
    rw [hpar] at hA hval
    have h0 : args.toList = [] := by
      match h : args.toList, hA with
      | [], _ => rfl
    have h1 : args.size = 0 := by rw [← Array.length_toList, h0]; rfl
    exact ⟨[], h1.symm, fun j a u ha hu => by simp at ha, law_NewDesk⟩
theorem NewDesk_said : Rows.FnExactNewDeskSaid :=
  OpenClaim.holds_of_wide 5 Try.f5 rfl rfl rfl rfl rfl rfl rfl ⟨rfl, rfl, rfl, rfl, rfl⟩ rfl rfl rfl rfl rfl (by kernel_rfl) Try.func5 (by kernel_rfl)
    (of_decide_eq_true (by kernel_rfl)) (by unfold Func.isWrapper; rw [if_neg (of_decide_eq_false (by kernel_rfl))]; exact ⟨rfl, rfl⟩)
    (fun os started H enc _ => lifted_NewDesk os started H enc)
end Go.Proofs.Ytdeibnannibbeaa
