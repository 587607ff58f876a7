/- Steps read, on both sides. -/
import Derived.Test.YtkglnfkbejoheaaDoorTr
import Derived.Test.YtkglnfkbejoheaaDoorSc
set_option linter.unusedSimpArgs false
set_option linter.unusedVariables false
namespace Go.Proofs.YtkglnfkbejoheaaDoor
open Go.Aw
open Go.Lib (indexByte countByte extract_eq size_eq decDigits itoa)
def kRS : Kg
  | [.s t], [] => some (.two (fun _ => okRS (t .u)) (.one (yesS (fun _ => nS (t .u) 0) (fun _ => nS (t .u) 1)) [blkF true (fun _ => nS (t .u) 0) (xS (t .u) 0), blkF true (fun _ => nS (t .u) 1) (xS (t .u) 1)] fun _ => (t .u).size ≤ 1073741824)
      (.one noS [] fun _ => (t .u).size ≤ 1073741824))
  | _, _ => none
def ctRSI : CT := [(28, .r kCut1), (24, .g 0 kRNg), (29, .g 1 kGiveS)]
theorem ctRSI_ok : CTok Tryd.prog ctRSI := .cons cutS_tells (.cons implRNg (.cons checkedS_g (.nil _)))
theorem cutA_sz (x y : ByteArray) : (cutA x y).size ≤ x.size := by
  unfold cutA
  cases decide (0 ≤ indexByte x.data.toList (markOf y)) with
  | false => exact Nat.le_refl _
  | true => rw [cond_true, ByteArray.size_extract]; omega
theorem cutZ_sz (x y : ByteArray) : (cutZ x y).size ≤ x.size := by
  unfold cutZ
  cases decide (0 ≤ indexByte x.data.toList (markOf y)) with
  | false => exact Nat.zero_le _
  | true => rw [cond_true, ByteArray.size_extract]; omega
theorem numRN_le (s : ByteArray) : numRN s ≤ s.size + 1 := by
  have := cutN_le s 44
  unfold numRN partN
  cases okRN s with
  | false => exact Nat.zero_le _
  | true =>
    cases isNone s with
    | true => exact Nat.zero_le _
    | false => show cutN s 44 ≤ _; omega
theorem rs_first {t : ByteArray} (h : okRN (cutA t ⟨⟨[59]⟩⟩) = false) : okRS t = false := by
  by_cases hi : 0 ≤ indexByte t.data.toList 59
  · exact cut_first hi h
  · exact cut_none hi
theorem rs_second {t : ByteArray} (h : okRN (cutZ t ⟨⟨[59]⟩⟩) = false) : okRS t = false := by
  by_cases hi : 0 ≤ indexByte t.data.toList 59
  · exact cut_second hi h
  · exact cut_none hi
theorem rs_val {t : ByteArray} (hi : 0 ≤ indexByte t.data.toList 59) (ha : okRN (cutA t ⟨⟨[59]⟩⟩) = true) (hz : okRN (cutZ t ⟨⟨[59]⟩⟩) = true) :
    okRS t = stepsF (numRN (cutA t ⟨⟨[59]⟩⟩)) (fun i => xH (pieceB (cutA t ⟨⟨[59]⟩⟩) 44 i)) (numRN (cutZ t ⟨⟨[59]⟩⟩)) (fun i => xH (pieceB (cutZ t ⟨⟨[59]⟩⟩) 44 i)) := by
  obtain ⟨h1, h2, h3⟩ := cut_yes hi hz
  unfold okRS nS xS
  have ha' : okRN (cutA t semi) = true := ha
  rw [← h2, ← h3, decide_eq_true h1, ha', hz]
  rfl
set_option maxHeartbeats 1000000 in
theorem implRS : Tells Tryd.prog 10 (.g 0 kRS) := by
  intro args Hc r hr
  unfold kRS at hr
  split at hr <;> cases hr
  rename_i t
  refine AnsOk.two ttok Tryd.func10 rfl rfl (Nat.zero_le _) (Nat.zero_le _) allFr_yesS allFr_noS frH_2 .nil fun hp => ⟨[.s t], ⟨Sub.refl _, trivial⟩, ?_⟩
  have hp : (t .u).size ≤ 1073741824 := hp
  have hM : markOf ⟨⟨[59]⟩⟩ = 59 := rfl
  have hS : (⟨⟨[59]⟩⟩ : ByteArray).size = 1 := rfl
  have hA := cutA_sz (t .u) ⟨⟨[59]⟩⟩
  have hZ := cutZ_sz (t .u) ⟨⟨[59]⟩⟩
  have hnA := numRN_le (cutA (t .u) ⟨⟨[59]⟩⟩)
  have hnZ := numRN_le (cutZ (t .u) ⟨⟨[59]⟩⟩)
  refine AW.exec ttok ctRSI_ok (by cbv) ?_
  simp only [natCast_int, Post, All, thenA, canon0, canon064, and_true, true_and, forall_const, implies_true, decide_eq_true_eq, decide_eq_false_iff_not, Bool.not_eq_true', Bool.not_eq_false', Bool.true_and, Bool.and_true, beq_true, beq_false, Int.toNat_natCast, Int.ofNat_lt, Int.ofNat_le, Nat.zero_add, Nat.add_zero, imp_self, Bool.cond_false_right, Bool.cond_true_left, Bool.cond_true_right, IsF, rdF_eq, fOf, AV.f.injEq, exists_eq', free_list, free_fn0, List.not_mem_nil, List.mem_cons, false_imp, forall_eq, or_false, free_i, free_f, free_b, ren_f, ren_i, ren_b, and_self, bne_iff_ne, bne_eq_false_iff_eq, ne_eq, Int.natCast_inj, or_true, true_or, freeB_list, unfr_f, unfr_i, unfr_b, unfr_c, unfr_s, free_c, free_s, ren_c, ren_s, unfr_ro, unfr_rptr, ren_ro, free_ll, free_box, kill_f, kill_i, kill_b, kill_c, kill_s, kill_rof, kill_rot, Int.toNat_zero, isFF_ll, rowN_ll, rowX_ll, AllFree, Option.some.injEq, Prod.mk.injEq, Bool.false_eq_true, Bool.true_eq_false, hp, hM, hS]
  (repeat' first | with_reducible assumption | with_reducible apply And.intro | with_reducible intro hh) <;> first | ((first | with_reducible show (_ : Int) ≤ _ | with_reducible show (_ : Int) < _ | with_reducible show (_ : Nat) ≤ _ | with_reducible show (_ : Nat) < _ | with_reducible show (_ : Int) = _ | with_reducible show (_ : Nat) = _ | with_reducible show ¬ _ | with_reducible show _ ≠ _) <;> first | omega | (simp only [Bool.and_eq_true, Bool.or_eq_false_iff, Bool.not_eq_false', Bool.not_eq_true', decide_eq_true_eq, decide_eq_false_iff_not] at *; omega) | (with_reducible assumption)) | (with_reducible assumption) | skip
  all_goals try (exfalso; simp at *; done)
  all_goals first
    | exact okA.no (rs_first (by assumption)) (fin_ret (.inl rfl) (by cbv) (by simp) (To.fresh noS_to))
    | exact okA.no (rs_second (by assumption)) (fin_ret (.inl rfl) (by cbv) (by simp) (To.fresh noS_to))
    | exact okA.no (cut_none (by simpa only [Bool.not_true, Bool.or_false, Bool.not_eq_true', decide_eq_false_iff_not] using ‹(!decide _ || !true || !true) = true›)) (fin_ret (.inl rfl) (by cbv) (by simp) (To.fresh noS_to))
    | skip
  all_goals have hi : 0 ≤ indexByte (t .u).data.toList 59 := by simpa using ‹(!decide _ || !true || !true) = false›
  all_goals have hv := rs_val hi (by assumption) (by assumption)
  · have e := hv.trans ‹stepsF _ _ _ _ = true›
    obtain ⟨_, h2, h3⟩ := cut_yes hi (by assumption)
    have h2 : cutA (t .u) ⟨⟨[59]⟩⟩ = pieceB (t .u) 59 0 := h2
    have h3 : cutZ (t .u) ⟨⟨[59]⟩⟩ = pieceB (t .u) 59 1 := h3
    simp only [h2, h3]
    exact okA.yes e (fin_ret (.inl rfl) (by cbv) (by simp) (To.pick [1, 2] (by decide) (Nat.zero_le _) (fun j hj => absurd hj (Nat.not_lt_zero _)) ⟨.list (fun e => e) (Nat.le_refl _) fun j hj => AvTo.f rfl, .list (fun e => e) (Nat.le_refl _) fun j hj => AvTo.f rfl, trivial⟩ (.cons (.tup (.cons (.agg (.cons (.own rfl rfl rfl rfl) (.cons (.own rfl rfl rfl rfl) .nil))) (.cons (.b rfl) .nil))) .nil)))
  · exact okA.no (hv.trans ‹stepsF _ _ _ _ = false›) (fin_ret (.inl rfl) (by cbv) (by simp) (To.fresh noS_to))
theorem rs_pieces {t : ByteArray} (h2 : cutN t 59 = 2) (h0 : okRN (pieceB t 59 0) = true) (h1 : okRN (pieceB t 59 1) = true) :
    okRS t = stepsF (numRN (pieceB t 59 0)) (fun i => xH (pieceB (pieceB t 59 0) 44 i)) (numRN (pieceB t 59 1)) (fun i => xH (pieceB (pieceB t 59 1) 44 i)) := by
  unfold okRS nS xS
  rw [decide_eq_true h2, h0, h1]
  rfl
def ctRSS : CT := [(57, .g 0 kCutL), (52, .g 0 kRNg), (58, .g 1 kGiveS)]
theorem ctRSS_ok : CTok Tryd.prog ctRSS := .cons specCut (.cons specRNg (.cons giveS_g (.nil _)))
set_option maxHeartbeats 1000000 in
theorem specRS0 : Tells Tryd.prog 27 (.g 0 kRS) := by
  intro args Hc r hr
  unfold kRS at hr
  split at hr <;> cases hr
  rename_i t
  refine AnsOk.two ttok Tryd.func27 rfl rfl (Nat.zero_le _) (Nat.zero_le _) allFr_yesS allFr_noS frH_2 .nil fun hp => ⟨[.s t], ⟨Sub.refl _, trivial⟩, ?_⟩
  have hp : (t .u).size ≤ 1073741824 := hp
  have hm : UInt8.ofNat (Int.toNat 59) = 59 := rfl
  have hc := cutN_le (t .u) 59
  have hps := fun i => piece_size (t .u) 59 i
  have hn0 := numRN_le (pieceB (t .u) 59 0)
  have hn1 := numRN_le (pieceB (t .u) 59 1)
  have hp0 := hps 0
  have hp1 := hps 1
  refine AW.exec ttok ctRSS_ok (by cbv) ?_
  have ht1 : Int.toNat 1 = 1 := rfl
  simp only [natCast_int, Post, All, thenA, canon0, canon064, and_true, true_and, forall_const, implies_true, decide_eq_true_eq, decide_eq_false_iff_not, Bool.not_eq_true', Bool.not_eq_false', Bool.true_and, Bool.and_true, beq_true, beq_false, Int.toNat_natCast, Int.ofNat_lt, Int.ofNat_le, Nat.zero_add, Nat.add_zero, imp_self, Bool.cond_false_right, Bool.cond_true_left, Bool.cond_true_right, IsF, rdF_eq, fOf, AV.f.injEq, exists_eq', free_list, free_fn0, List.not_mem_nil, List.mem_cons, false_imp, forall_eq, or_false, free_i, free_f, free_b, ren_f, ren_i, ren_b, and_self, bne_iff_ne, bne_eq_false_iff_eq, ne_eq, Int.natCast_inj, or_true, true_or, freeB_list, unfr_f, unfr_i, unfr_b, unfr_c, unfr_s, free_c, free_s, ren_c, ren_s, unfr_ro, unfr_rptr, ren_ro, free_ll, free_box, kill_f, kill_i, kill_b, kill_c, kill_s, kill_rof, kill_rot, Int.toNat_zero, isFF_ll, rowN_ll, rowX_ll, AllFree, Option.some.injEq, Prod.mk.injEq, Bool.false_eq_true, Bool.true_eq_false, hp, hm, ht1]
  (repeat' first | with_reducible assumption | with_reducible apply And.intro | with_reducible intro hh) <;> first | ((first | with_reducible show (_ : Int) ≤ _ | with_reducible show (_ : Int) < _ | with_reducible show (_ : Nat) ≤ _ | with_reducible show (_ : Nat) < _ | with_reducible show (_ : Int) = _ | with_reducible show (_ : Nat) = _ | with_reducible show ¬ _ | with_reducible show _ ≠ _) <;> first | omega | (simp only [Bool.and_eq_true, Bool.or_eq_false_iff, Bool.not_eq_false', Bool.not_eq_true', decide_eq_true_eq, decide_eq_false_iff_not] at *; omega) | (with_reducible assumption)) | (with_reducible assumption) | skip
  all_goals try (exfalso; simp at *; done)
  · have e : okRS (t .u) = false := by unfold okRS; rw [decide_eq_false (by omega), Bool.false_and, Bool.false_and]
    exact okA.no e (fin_ret (.inl rfl) (by cbv) (by simp) (To.fresh noS_to))
  all_goals have h2 : cutN (t .u) 59 = 2 := by omega
  all_goals first
    | have e : okRS (t .u) = false := by
        unfold okRS
        rw [‹okRN (pieceB (t .u) 59 0) = false›, Bool.false_and, Bool.and_false, Bool.false_and]
      exact okA.no e (fin_ret (.inl rfl) (by cbv) (by simp) (To.fresh noS_to))
    | have e : okRS (t .u) = false := by
        unfold okRS
        rw [‹okRN (pieceB (t .u) 59 1) = false›, Bool.and_false, Bool.and_false, Bool.false_and]
      exact okA.no e (fin_ret (.inl rfl) (by cbv) (by simp) (To.fresh noS_to))
    | skip
  all_goals have hv := rs_pieces h2 (by assumption) (by assumption)
  · exact okA.yes (hv.trans ‹stepsF _ _ _ _ = true›) (fin_ret (.inl rfl) (by cbv) (by simp) (To.pick [2, 3] (by decide) (Nat.zero_le _) (fun j hj => absurd hj (Nat.not_lt_zero _)) ⟨.list (fun e => e) (Nat.le_refl _) fun j hj => AvTo.f rfl, .list (fun e => e) (Nat.le_refl _) fun j hj => AvTo.f rfl, trivial⟩ (.cons (.tup (.cons (.agg (.cons (.own rfl rfl rfl rfl) (.cons (.own rfl rfl rfl rfl) .nil))) (.cons (.b rfl) .nil))) .nil)))
  · exact okA.no (hv.trans ‹stepsF _ _ _ _ = false›) (fin_ret (.inl rfl) (by cbv) (by simp) (To.fresh noS_to))
def ctRSS1 : CT := [(27, .g 0 kRS)]
theorem ctRSS1_ok : CTok Tryd.prog ctRSS1 := .cons specRS0 (.nil _)
theorem specRS : Tells Tryd.prog 9 (.g 0 kRS) := by
  intro args Hc r hr
  unfold kRS at hr
  split at hr <;> cases hr
  rename_i t
  refine AnsOk.two ttok Tryd.func9 rfl rfl (Nat.zero_le _) (Nat.zero_le _) allFr_yesS allFr_noS frH_2 .nil fun hp => ⟨[.s t], ⟨Sub.refl _, trivial⟩, ?_⟩
  have hp : (t .u).size ≤ 1073741824 := hp
  refine AW.exec ttok ctRSS1_ok (by cbv) ?_
  simp only [natCast_int, Post, All, thenA, canon0, canon064, and_true, true_and, forall_const, implies_true, decide_eq_true_eq, decide_eq_false_iff_not, Bool.not_eq_true', Bool.not_eq_false', Bool.true_and, Bool.and_true, beq_true, beq_false, Int.toNat_natCast, Int.ofNat_lt, Int.ofNat_le, Nat.zero_add, Nat.add_zero, imp_self, Bool.cond_false_right, Bool.cond_true_left, Bool.cond_true_right, IsF, rdF_eq, fOf, AV.f.injEq, exists_eq', free_list, free_fn0, List.not_mem_nil, List.mem_cons, false_imp, forall_eq, or_false, free_i, free_f, free_b, ren_f, ren_i, ren_b, and_self, bne_iff_ne, bne_eq_false_iff_eq, ne_eq, Int.natCast_inj, or_true, true_or, freeB_list, unfr_f, unfr_i, unfr_b, unfr_c, unfr_s, free_c, free_s, ren_c, ren_s, unfr_ro, unfr_rptr, ren_ro, free_ll, free_box, kill_f, kill_i, kill_b, kill_c, kill_s, kill_rof, kill_rot, Int.toNat_zero, isFF_ll, rowN_ll, rowX_ll, AllFree, Option.some.injEq, Prod.mk.injEq, Bool.false_eq_true, Bool.true_eq_false, hp]
  (repeat' first | with_reducible assumption | with_reducible apply And.intro | with_reducible intro hh) <;> first | ((first | with_reducible show (_ : Int) ≤ _ | with_reducible show (_ : Int) < _ | with_reducible show (_ : Nat) ≤ _ | with_reducible show (_ : Nat) < _ | with_reducible show (_ : Int) = _ | with_reducible show (_ : Nat) = _ | with_reducible show ¬ _ | with_reducible show _ ≠ _) <;> first | omega | (simp only [Bool.and_eq_true, Bool.or_eq_false_iff, Bool.not_eq_false', Bool.not_eq_true', decide_eq_true_eq, decide_eq_false_iff_not] at *; omega) | (with_reducible assumption)) | (with_reducible assumption) | skip
  · exact okA.yes (by assumption) (fin_ret (.inl rfl) (by cbv) (by simp) (To.pick [1, 2] (by decide) (Nat.zero_le _) (fun j hj => absurd hj (Nat.not_lt_zero _)) ⟨.list (fun e => e) (Nat.le_refl _) fun j hj => AvTo.f rfl, .list (fun e => e) (Nat.le_refl _) fun j hj => AvTo.f rfl, trivial⟩ (.cons (.tup (.cons (.agg (.cons (.own rfl rfl rfl rfl) (.cons (.own rfl rfl rfl rfl) .nil))) (.cons (.b rfl) .nil))) .nil)))
  · exact okA.no (by assumption) (fin_ret (.inl rfl) (by cbv) (by simp) (To.fresh noS_to))
end Go.Proofs.YtkglnfkbejoheaaDoor
