/- Outputs counted, on both sides. -/
import Derived.Test.YtjlkflceicdcdaaDoorSc
set_option linter.unusedSimpArgs false
set_option linter.unusedVariables false
namespace Go.Proofs.YtjlkflceicdcdaaDoor
open Go.Aw
open Go.Lib (indexByte countByte extract_eq size_eq)
def badL (s : ByteArray) : Bool := s.toList == (⟨⟨[110, 111]⟩⟩ : ByteArray).toList || s.toList == (⟨⟨[119, 104, 97, 116]⟩⟩ : ByteArray).toList
def badN (x : ByteArray) : Nat → Nat
  | 0 => 0
  | k + 1 => bif badL (pieceB x 10 k) then badN x k + 1 else badN x k
theorem badN_le (x : ByteArray) : ∀ k, badN x k ≤ k := by
  intro k
  induction k with
  | zero => exact Nat.le_refl _
  | succ k ih =>
    unfold badN
    cases badL (pieceB x 10 k)
    · simp only [cond_false]; omega
    · simp only [cond_true]; omega
def kCounts : Kr
  | [.s x] => some (.tup [.i .i64 fun _ => bif okLines (x .u) then (badN (x .u) (cutN (x .u) 10 - 1) : Int) else 0, .i .i64 fun _ => bif okLines (x .u) then ((cutN (x .u) 10 - 1 : Nat) : Int) - (badN (x .u) (cutN (x .u) 10 - 1) : Int) else 0, .b fun _ => okLines (x .u)], [], fun _ => (x .u).size ≤ 1073741824)
  | _ => none
def ctImplCounts : CT := [(32, .g 0 kLines)]
theorem ctImplCounts_ok : CTok Tryd.prog ctImplCounts := .cons implLines (.nil _)
theorem implCounts : Tells Tryd.prog 10 (.r kCounts) := by
  intro args r H' p hr hp
  unfold kCounts at hr
  split at hr <;> cases hr
  rename_i x
  have hx : (x .u).size ≤ 1073741824 := hp
  refine ⟨allFr_tup3 .i .i .b, .nil, Con.of ttok Tryd.func10 rfl rfl (Nat.le_refl _) (AW.exec ttok ctImplCounts_ok (by cbv) ?_)⟩
  have hq := cutN_le (x .u) 10
  have hc := cutN_pos (x .u) 10
  have hbd := badN_le (x .u)
  simp only [natCast_int, Post, All, thenA, canon0, canon064, and_true, true_and, forall_const, implies_true, decide_eq_true_eq, decide_eq_false_iff_not, Bool.not_eq_true', Bool.not_eq_false', Bool.true_and, Bool.and_true, beq_true, beq_false, Int.toNat_natCast, Int.ofNat_lt, Int.ofNat_le, Nat.zero_add, Nat.add_zero, imp_self, Bool.cond_false_right, Bool.cond_true_left, Bool.cond_true_right, IsF, rdF_eq, fOf, AV.f.injEq, exists_eq', free_list, free_fn0, List.not_mem_nil, List.mem_cons, false_imp, forall_eq, or_false, free_i, free_f, free_b, ren_f, ren_i, ren_b, and_self, bne_iff_ne, bne_eq_false_iff_eq, ne_eq, Int.natCast_inj, or_true, true_or, freeB_list, unfr_f, unfr_i, unfr_b, unfr_c, unfr_s, free_c, free_s, ren_c, ren_s, unfr_ro, unfr_rptr, ren_ro, free_ll, free_box, kill_f, kill_i, kill_b, kill_c, kill_s, kill_rof, kill_rot, Int.toNat_zero, isFF_ll, rowN_ll, rowX_ll, AllFree, Option.some.injEq, Prod.mk.injEq, Bool.false_eq_true, Bool.true_eq_false, hx]
  (repeat' first | with_reducible assumption | with_reducible apply And.intro | with_reducible intro hh) <;> first | ((first | with_reducible show (_ : Int) ≤ _ | with_reducible show (_ : Int) < _ | with_reducible show (_ : Nat) ≤ _ | with_reducible show (_ : Nat) < _ | with_reducible show (_ : Int) = _ | with_reducible show (_ : Nat) = _ | with_reducible show ¬ _ | with_reducible show _ ≠ _) <;> first | omega | (simp only [Bool.and_eq_true, Bool.or_eq_false_iff, Bool.not_eq_false', Bool.not_eq_true', decide_eq_true_eq, decide_eq_false_iff_not] at *; omega) | (with_reducible assumption)) | (with_reducible assumption) | skip
  · have hok : okLines (x .u) = false := by assumption
    refine fin_ret (.inl rfl) (by cbv) (by simp) (To.fresh (.cons (.tup (.cons (.i ?_) (.cons (.i ?_) (.cons (.b ?_) .nil)))) .nil))
    · simp only [hok, cond_false]
    · simp only [hok, cond_false]
    · exact hok.symm
  have hok : okLines (x .u) = true := by assumption
  have hn : cutN (x .u) 10 - 1 ≤ 1073741824 := by omega
  refine AW.loopH (ι := Nat) (fun k => k ≤ cutN (x .u) 10 - 1) (fun k => cutN (x .u) 10 - 1 - k) (fun k => mkE Tryd.f10.ntmps [(5, .own 0 (fun _ => 0) (fun _ => cutN (x .u) 10 - 1) 1), (7, .i .i64 fun _ => (badN (x .u) k : Int)), (17, .own 0 (fun _ => 0) (fun _ => cutN (x .u) 10 - 1) 1), (18, .i .i64 fun _ => ((cutN (x .u) 10 - 1 : Nat) : Int)), (19, .i .i64 fun _ => (k : Int))])
    (fun _ => [blkT true (fun _ => cutN (x .u) 10) (pieceB (x .u) 10)]) 0 (Nat.zero_le _) (To.list (Nat.zero_le _) (Nat.le_refl _) (fun e => e) (fun j hj => AvTo.s rfl) ?_) ?_
  · (repeat' first | exact AllTo.nil | apply AllTo.cons) <;> first | exact AvTo.dead _ | exact AvTo.s rfl | exact AvTo.i rfl | exact AvTo.i (by first | omega | (simp only [natCast_int]; omega)) | exact AvTo.own rfl rfl rfl rfl
  · rintro Q' hQ k hk
    have h1 := hbd k
    have hs : badN (x .u) (k + 1) = bif badL (pieceB (x .u) 10 k) then badN (x .u) k + 1 else badN (x .u) k := rfl
    refine AW.exec ttok ctImplCounts_ok (by cbv) ?_
    simp only [natCast_int, Post, All, thenA, canon0, canon064, and_true, true_and, forall_const, implies_true, decide_eq_true_eq, decide_eq_false_iff_not, Bool.not_eq_true', Bool.not_eq_false', Bool.true_and, Bool.and_true, beq_true, beq_false, Int.toNat_natCast, Int.ofNat_lt, Int.ofNat_le, Nat.zero_add, Nat.add_zero, imp_self, Bool.cond_false_right, Bool.cond_true_left, Bool.cond_true_right, IsF, rdF_eq, fOf, AV.f.injEq, exists_eq', free_list, free_fn0, List.not_mem_nil, List.mem_cons, false_imp, forall_eq, or_false, free_i, free_f, free_b, ren_f, ren_i, ren_b, and_self, bne_iff_ne, bne_eq_false_iff_eq, ne_eq, Int.natCast_inj, or_true, true_or, freeB_list, unfr_f, unfr_i, unfr_b, unfr_c, unfr_s, free_c, free_s, ren_c, ren_s, unfr_ro, unfr_rptr, ren_ro, free_ll, free_box, kill_f, kill_i, kill_b, kill_c, kill_s, kill_rof, kill_rot, Int.toNat_zero, isFF_ll, rowN_ll, rowX_ll, AllFree, Option.some.injEq, Prod.mk.injEq, Bool.false_eq_true, Bool.true_eq_false]
    (repeat' first | with_reducible assumption | with_reducible apply And.intro | with_reducible intro hh) <;> first | ((first | with_reducible show (_ : Int) ≤ _ | with_reducible show (_ : Int) < _ | with_reducible show (_ : Nat) ≤ _ | with_reducible show (_ : Nat) < _ | with_reducible show (_ : Int) = _ | with_reducible show (_ : Nat) = _ | with_reducible show ¬ _ | with_reducible show _ ≠ _) <;> first | omega | (simp only [Bool.and_eq_true, Bool.or_eq_false_iff, Bool.not_eq_false', Bool.not_eq_true', decide_eq_true_eq, decide_eq_false_iff_not] at *; omega) | (with_reducible assumption)) | (with_reducible assumption) | skip
    all_goals try omega
    · have hb : badL (pieceB (x .u) 10 k) = true := by assumption
      rw [hb, cond_true] at hs
      refine ⟨k + 1, by omega, by omega, To.list (Nat.zero_le _) (Nat.le_refl _) (fun e => e) (fun j hj => AvTo.s rfl) ?_⟩
      (repeat' first | exact AllTo.nil | apply AllTo.cons) <;> first | exact AvTo.dead _ | exact AvTo.s rfl | exact AvTo.i rfl | exact AvTo.i (by first | omega | (simp only [natCast_int]; omega)) | exact AvTo.own rfl rfl rfl rfl
    · have hb : badL (pieceB (x .u) 10 k) = false := by assumption
      rw [hb, cond_false] at hs
      refine ⟨k + 1, by omega, by omega, To.list (Nat.zero_le _) (Nat.le_refl _) (fun e => e) (fun j hj => AvTo.s rfl) ?_⟩
      (repeat' first | exact AllTo.nil | apply AllTo.cons) <;> first | exact AvTo.dead _ | exact AvTo.s rfl | exact AvTo.i rfl | exact AvTo.i (by first | omega | (simp only [natCast_int]; omega)) | exact AvTo.own rfl rfl rfl rfl
    · obtain ⟨rfl⟩ := hQ
      refine Post.eval (by cbv) ?_
      have e : k = cutN (x .u) 10 - 1 := by omega
      simp only [natCast_int, Post, All, thenA, canon0, canon064, and_true, true_and, forall_const, implies_true, decide_eq_true_eq, decide_eq_false_iff_not, Bool.not_eq_true', Bool.not_eq_false', Bool.true_and, Bool.and_true, beq_true, beq_false, Int.toNat_natCast, Int.ofNat_lt, Int.ofNat_le, Nat.zero_add, Nat.add_zero, imp_self, Bool.cond_false_right, Bool.cond_true_left, Bool.cond_true_right, IsF, rdF_eq, fOf, AV.f.injEq, exists_eq', free_list, free_fn0, List.not_mem_nil, List.mem_cons, false_imp, forall_eq, or_false, free_i, free_f, free_b, ren_f, ren_i, ren_b, and_self, bne_iff_ne, bne_eq_false_iff_eq, ne_eq, Int.natCast_inj, or_true, true_or, freeB_list, unfr_f, unfr_i, unfr_b, unfr_c, unfr_s, free_c, free_s, ren_c, ren_s, unfr_ro, unfr_rptr, ren_ro, free_ll, free_box, kill_f, kill_i, kill_b, kill_c, kill_s, kill_rof, kill_rot, Int.toNat_zero, isFF_ll, rowN_ll, rowX_ll, AllFree, Option.some.injEq, Prod.mk.injEq, Bool.false_eq_true, Bool.true_eq_false]
      (repeat' first | with_reducible assumption | with_reducible apply And.intro | with_reducible intro hh) <;> first | ((first | with_reducible show (_ : Int) ≤ _ | with_reducible show (_ : Int) < _ | with_reducible show (_ : Nat) ≤ _ | with_reducible show (_ : Nat) < _ | with_reducible show (_ : Int) = _ | with_reducible show (_ : Nat) = _ | with_reducible show ¬ _ | with_reducible show _ ≠ _) <;> first | omega | (simp only [Bool.and_eq_true, Bool.or_eq_false_iff, Bool.not_eq_false', Bool.not_eq_true', decide_eq_true_eq, decide_eq_false_iff_not] at *; omega) | (with_reducible assumption)) | (with_reducible assumption) | skip
      all_goals try omega
      refine fin_ret (.inl rfl) (by cbv) (by simp) (To.fresh (.cons (.tup (.cons (.i ?_) (.cons (.i ?_) (.cons (.b ?_) .nil)))) .nil))
      · simp only [hok, cond_true, e]
      · simp only [hok, cond_true, e]
      · exact hok.symm
def ctSpecCounts : CT := [(31, .g 0 kLinesS)]
theorem ctSpecCounts_ok : CTok Tryd.prog ctSpecCounts := .cons specLines (.nil _)
theorem specCounts : Tells Tryd.prog 9 (.r kCounts) := by
  intro args r H' p hr hp
  unfold kCounts at hr
  split at hr <;> cases hr
  rename_i x
  have hx : (x .u).size ≤ 1073741824 := hp
  refine ⟨allFr_tup3 .i .i .b, .nil, Con.of ttok Tryd.func9 rfl rfl (Nat.le_refl _) (AW.exec ttok ctSpecCounts_ok (by cbv) ?_)⟩
  have hq := cutN_le (x .u) 10
  have hc := cutN_pos (x .u) 10
  have hbd := badN_le (x .u)
  simp only [natCast_int, Post, All, thenA, canon0, canon064, and_true, true_and, forall_const, implies_true, decide_eq_true_eq, decide_eq_false_iff_not, Bool.not_eq_true', Bool.not_eq_false', Bool.true_and, Bool.and_true, beq_true, beq_false, Int.toNat_natCast, Int.ofNat_lt, Int.ofNat_le, Nat.zero_add, Nat.add_zero, imp_self, Bool.cond_false_right, Bool.cond_true_left, Bool.cond_true_right, IsF, rdF_eq, fOf, AV.f.injEq, exists_eq', free_list, free_fn0, List.not_mem_nil, List.mem_cons, false_imp, forall_eq, or_false, free_i, free_f, free_b, ren_f, ren_i, ren_b, and_self, bne_iff_ne, bne_eq_false_iff_eq, ne_eq, Int.natCast_inj, or_true, true_or, freeB_list, unfr_f, unfr_i, unfr_b, unfr_c, unfr_s, free_c, free_s, ren_c, ren_s, unfr_ro, unfr_rptr, ren_ro, free_ll, free_box, kill_f, kill_i, kill_b, kill_c, kill_s, kill_rof, kill_rot, Int.toNat_zero, isFF_ll, rowN_ll, rowX_ll, AllFree, Option.some.injEq, Prod.mk.injEq, Bool.false_eq_true, Bool.true_eq_false, hx]
  (repeat' first | with_reducible assumption | with_reducible apply And.intro | with_reducible intro hh) <;> first | ((first | with_reducible show (_ : Int) ≤ _ | with_reducible show (_ : Int) < _ | with_reducible show (_ : Nat) ≤ _ | with_reducible show (_ : Nat) < _ | with_reducible show (_ : Int) = _ | with_reducible show (_ : Nat) = _ | with_reducible show ¬ _ | with_reducible show _ ≠ _) <;> first | omega | (simp only [Bool.and_eq_true, Bool.or_eq_false_iff, Bool.not_eq_false', Bool.not_eq_true', decide_eq_true_eq, decide_eq_false_iff_not] at *; omega) | (with_reducible assumption)) | (with_reducible assumption) | skip
  · have hok : okLines (x .u) = false := by simp only [okLines, decide_eq_false (show ¬ ((x .u).size : Int) ≤ 16000 by omega), Bool.and_false]
    refine fin_ret (.inl rfl) (by cbv) (by simp) (To.fresh (.cons (.tup (.cons (.i ?_) (.cons (.i ?_) (.cons (.b ?_) .nil)))) .nil))
    · simp only [hok, cond_false]
    · simp only [hok, cond_false]
    · exact hok.symm
  · have h2 : ((pieceB (x .u) 10 (cutN (x .u) 10 - 1)).toList == (⟨⟨[]⟩⟩ : ByteArray).toList) = false := by assumption
    have hok : okLines (x .u) = false := by simp only [okLines, h2, Bool.false_and]
    refine fin_ret (.inl rfl) (by cbv) (by simp) (To.fresh (.cons (.tup (.cons (.i ?_) (.cons (.i ?_) (.cons (.b ?_) .nil)))) .nil))
    · simp only [hok, cond_false]
    · simp only [hok, cond_false]
    · exact hok.symm
  have h2 : ((pieceB (x .u) 10 (cutN (x .u) 10 - 1)).toList == (⟨⟨[]⟩⟩ : ByteArray).toList) = true := by assumption
  have hok : okLines (x .u) = true := by simp only [okLines, h2, decide_eq_true (show ((x .u).size : Int) ≤ 16000 by omega), Bool.true_and]
  have hn : cutN (x .u) 10 - 1 ≤ 1073741824 := by omega
  refine AW.loopH (ι := Nat) (fun k => k ≤ cutN (x .u) 10 - 1) (fun k => cutN (x .u) 10 - 1 - k) (fun k => mkE Tryd.f9.ntmps [(5, .own 0 (fun _ => 0) (fun _ => cutN (x .u) 10 - 1) 1), (7, .i .i64 fun _ => (badN (x .u) k : Int)), (8, .i .i64 fun _ => (k : Int))])
    (fun _ => [blkT true (fun _ => cutN (x .u) 10) (pieceB (x .u) 10)]) 0 (Nat.zero_le _) (To.list (Nat.zero_le _) (Nat.le_refl _) (fun e => e) (fun j hj => AvTo.s rfl) ?_) ?_
  · (repeat' first | exact AllTo.nil | apply AllTo.cons) <;> first | exact AvTo.dead _ | exact AvTo.s rfl | exact AvTo.i rfl | exact AvTo.i (by first | omega | (simp only [natCast_int]; omega)) | exact AvTo.own rfl rfl rfl rfl
  · rintro Q' hQ k hk
    have h1 := hbd k
    have hs : badN (x .u) (k + 1) = bif badL (pieceB (x .u) 10 k) then badN (x .u) k + 1 else badN (x .u) k := rfl
    refine AW.exec ttok ctSpecCounts_ok (by cbv) ?_
    simp only [natCast_int, Post, All, thenA, canon0, canon064, and_true, true_and, forall_const, implies_true, decide_eq_true_eq, decide_eq_false_iff_not, Bool.not_eq_true', Bool.not_eq_false', Bool.true_and, Bool.and_true, beq_true, beq_false, Int.toNat_natCast, Int.ofNat_lt, Int.ofNat_le, Nat.zero_add, Nat.add_zero, imp_self, Bool.cond_false_right, Bool.cond_true_left, Bool.cond_true_right, IsF, rdF_eq, fOf, AV.f.injEq, exists_eq', free_list, free_fn0, List.not_mem_nil, List.mem_cons, false_imp, forall_eq, or_false, free_i, free_f, free_b, ren_f, ren_i, ren_b, and_self, bne_iff_ne, bne_eq_false_iff_eq, ne_eq, Int.natCast_inj, or_true, true_or, freeB_list, unfr_f, unfr_i, unfr_b, unfr_c, unfr_s, free_c, free_s, ren_c, ren_s, unfr_ro, unfr_rptr, ren_ro, free_ll, free_box, kill_f, kill_i, kill_b, kill_c, kill_s, kill_rof, kill_rot, Int.toNat_zero, isFF_ll, rowN_ll, rowX_ll, AllFree, Option.some.injEq, Prod.mk.injEq, Bool.false_eq_true, Bool.true_eq_false]
    (repeat' first | with_reducible assumption | with_reducible apply And.intro | with_reducible intro hh) <;> first | ((first | with_reducible show (_ : Int) ≤ _ | with_reducible show (_ : Int) < _ | with_reducible show (_ : Nat) ≤ _ | with_reducible show (_ : Nat) < _ | with_reducible show (_ : Int) = _ | with_reducible show (_ : Nat) = _ | with_reducible show ¬ _ | with_reducible show _ ≠ _) <;> first | omega | (simp only [Bool.and_eq_true, Bool.or_eq_false_iff, Bool.not_eq_false', Bool.not_eq_true', decide_eq_true_eq, decide_eq_false_iff_not] at *; omega) | (with_reducible assumption)) | (with_reducible assumption) | skip
    all_goals try omega
    · have hb : badL (pieceB (x .u) 10 k) = true := by assumption
      rw [hb, cond_true] at hs
      refine ⟨k + 1, by omega, by omega, To.list (Nat.zero_le _) (Nat.le_refl _) (fun e => e) (fun j hj => AvTo.s rfl) ?_⟩
      (repeat' first | exact AllTo.nil | apply AllTo.cons) <;> first | exact AvTo.dead _ | exact AvTo.s rfl | exact AvTo.i rfl | exact AvTo.i (by first | omega | (simp only [natCast_int]; omega)) | exact AvTo.own rfl rfl rfl rfl
    · have hb : badL (pieceB (x .u) 10 k) = false := by assumption
      rw [hb, cond_false] at hs
      refine ⟨k + 1, by omega, by omega, To.list (Nat.zero_le _) (Nat.le_refl _) (fun e => e) (fun j hj => AvTo.s rfl) ?_⟩
      (repeat' first | exact AllTo.nil | apply AllTo.cons) <;> first | exact AvTo.dead _ | exact AvTo.s rfl | exact AvTo.i rfl | exact AvTo.i (by first | omega | (simp only [natCast_int]; omega)) | exact AvTo.own rfl rfl rfl rfl
    · obtain ⟨rfl⟩ := hQ
      refine Post.eval (by cbv) ?_
      have e : k = cutN (x .u) 10 - 1 := by omega
      simp only [natCast_int, Post, All, thenA, canon0, canon064, and_true, true_and, forall_const, implies_true, decide_eq_true_eq, decide_eq_false_iff_not, Bool.not_eq_true', Bool.not_eq_false', Bool.true_and, Bool.and_true, beq_true, beq_false, Int.toNat_natCast, Int.ofNat_lt, Int.ofNat_le, Nat.zero_add, Nat.add_zero, imp_self, Bool.cond_false_right, Bool.cond_true_left, Bool.cond_true_right, IsF, rdF_eq, fOf, AV.f.injEq, exists_eq', free_list, free_fn0, List.not_mem_nil, List.mem_cons, false_imp, forall_eq, or_false, free_i, free_f, free_b, ren_f, ren_i, ren_b, and_self, bne_iff_ne, bne_eq_false_iff_eq, ne_eq, Int.natCast_inj, or_true, true_or, freeB_list, unfr_f, unfr_i, unfr_b, unfr_c, unfr_s, free_c, free_s, ren_c, ren_s, unfr_ro, unfr_rptr, ren_ro, free_ll, free_box, kill_f, kill_i, kill_b, kill_c, kill_s, kill_rof, kill_rot, Int.toNat_zero, isFF_ll, rowN_ll, rowX_ll, AllFree, Option.some.injEq, Prod.mk.injEq, Bool.false_eq_true, Bool.true_eq_false]
      (repeat' first | with_reducible assumption | with_reducible apply And.intro | with_reducible intro hh) <;> first | ((first | with_reducible show (_ : Int) ≤ _ | with_reducible show (_ : Int) < _ | with_reducible show (_ : Nat) ≤ _ | with_reducible show (_ : Nat) < _ | with_reducible show (_ : Int) = _ | with_reducible show (_ : Nat) = _ | with_reducible show ¬ _ | with_reducible show _ ≠ _) <;> first | omega | (simp only [Bool.and_eq_true, Bool.or_eq_false_iff, Bool.not_eq_false', Bool.not_eq_true', decide_eq_true_eq, decide_eq_false_iff_not] at *; omega) | (with_reducible assumption)) | (with_reducible assumption) | skip
      all_goals try omega
      refine fin_ret (.inl rfl) (by cbv) (by simp) (To.fresh (.cons (.tup (.cons (.i ?_) (.cons (.i ?_) (.cons (.b ?_) .nil)))) .nil))
      · simp only [hok, cond_true, e]
      · simp only [hok, cond_true, e]
      · exact hok.symm
end Go.Proofs.YtjlkflceicdcdaaDoor
