/- Numbers read, on both sides, as lists of one's own. -/
import Derived.Test.YtkglnfkbejoheaaDoorTo
import Derived.Test.YtkglnfkbejoheaaDoorGc
set_option linter.unusedSimpArgs false
set_option linter.unusedVariables false
namespace Go.Proofs.YtkglnfkbejoheaaDoor
open Go.Aw
open Go.Lib (indexByte countByte extract_eq size_eq decDigits itoa)
def kRNg : Kg
  | [.s t], [] => some (ansL (fun _ => numRN (t .u)) (fun i => xH (pieceB (t .u) 44 i)) (okRN (t .u)) ((t .u).size ≤ 1073741824))
  | _, _ => none
set_option maxHeartbeats 1000000 in
theorem implRNg : Tells Tryd.prog 24 (.g 0 kRNg) := by
  intro args Hc r hr
  unfold kRNg at hr
  split at hr <;> cases hr
  rename_i t
  refine AnsOk.two ttok Tryd.func24 rfl rfl (Nat.zero_le _) (Nat.zero_le _) (allFr_tup2 .own .b) (allFr_tup2 .v .b) .list .nil fun hp => ⟨[.s t], ⟨Sub.refl _, trivial⟩, ?_⟩
  have hp : (t .u).size ≤ 1073741824 := hp
  have hc := cutN_le (t .u) 44
  have hpn : partN (t .u) ≤ 1073741825 := by
    unfold partN
    cases isNone (t .u)
    · show cutN (t .u) 44 ≤ _; omega
    · exact Nat.zero_le _
  have hps := fun i => piece_size (t .u) 44 i
  refine AW.exec ttok ctRN_ok (by cbv) ?_
  simp only [natCast_int, Post, All, thenA, canon0, canon064, and_true, true_and, forall_const, implies_true, decide_eq_true_eq, decide_eq_false_iff_not, Bool.not_eq_true', Bool.not_eq_false', Bool.true_and, Bool.and_true, beq_true, beq_false, Int.toNat_natCast, Int.ofNat_lt, Int.ofNat_le, Nat.zero_add, Nat.add_zero, imp_self, Bool.cond_false_right, Bool.cond_true_left, Bool.cond_true_right, IsF, rdF_eq, fOf, AV.f.injEq, exists_eq', free_list, free_fn0, List.not_mem_nil, List.mem_cons, false_imp, forall_eq, or_false, free_i, free_f, free_b, ren_f, ren_i, ren_b, and_self, bne_iff_ne, bne_eq_false_iff_eq, ne_eq, Int.natCast_inj, or_true, true_or, freeB_list, unfr_f, unfr_i, unfr_b, unfr_c, unfr_s, free_c, free_s, ren_c, ren_s, unfr_ro, unfr_rptr, ren_ro, free_ll, free_box, kill_f, kill_i, kill_b, kill_c, kill_s, kill_rof, kill_rot, Int.toNat_zero, isFF_ll, rowN_ll, rowX_ll, AllFree, Option.some.injEq, Prod.mk.injEq, Bool.false_eq_true, Bool.true_eq_false, hp]
  (repeat' first | with_reducible assumption | with_reducible apply And.intro | with_reducible intro hh) <;> first | ((first | with_reducible show (_ : Int) ≤ _ | with_reducible show (_ : Int) < _ | with_reducible show (_ : Nat) ≤ _ | with_reducible show (_ : Nat) < _ | with_reducible show (_ : Int) = _ | with_reducible show (_ : Nat) = _ | with_reducible show ¬ _ | with_reducible show _ ≠ _) <;> first | omega | (simp only [Bool.and_eq_true, Bool.or_eq_false_iff, Bool.not_eq_false', Bool.not_eq_true', decide_eq_true_eq, decide_eq_false_iff_not] at *; omega) | (with_reducible assumption)) | (with_reducible assumption) | skip
  refine AW.loopH (ι := Nat) (fun i => i ≤ partN (t .u) ∧ (0 < i → partN (t .u) ≤ 256) ∧ ∀ j, j < i → okH (pieceB (t .u) 44 j) = true) (fun i => partN (t .u) - i) (fun i => mkE Tryd.f24.ntmps [(4, .ro true (fun _ => partN (t .u)) 1 fun i _ => .s fun _ => pieceB (t .u) 44 (i .u)), (5, .own 0 (fun _ => 0) (fun _ => i) 1), (13, .ro true (fun _ => partN (t .u)) 1 fun i _ => .s fun _ => pieceB (t .u) 44 (i .u)), (14, .i .i64 fun _ => (partN (t .u) : Int)), (15, .i .i64 fun _ => (i : Int))])
    (fun i => [blkR i (t .u)]) 0 ⟨Nat.zero_le _, fun h => absurd h (Nat.lt_irrefl _), fun j hj => absurd hj (Nat.not_lt_zero _)⟩ (To.list (Nat.zero_le _) (Nat.le_refl _) (fun e => e) (fun j hj => absurd hj (Nat.not_lt_zero _)) ?_) ?_
  · (repeat' first | exact AllTo.nil | apply AllTo.cons) <;> first | exact AvTo.dead _ | exact AvTo.i rfl | exact AvTo.own rfl rfl rfl rfl | exact Free.same Free.listT | skip
  · rintro Q' hQ i ⟨hi, hfew, hok⟩
    have hpi := hps i
    refine AW.exec ttok ctRN_ok (by cbv) ?_
    simp only [natCast_int, Post, All, thenA, canon0, canon064, and_true, true_and, forall_const, implies_true, decide_eq_true_eq, decide_eq_false_iff_not, Bool.not_eq_true', Bool.not_eq_false', Bool.true_and, Bool.and_true, beq_true, beq_false, Int.toNat_natCast, Int.ofNat_lt, Int.ofNat_le, Nat.zero_add, Nat.add_zero, imp_self, Bool.cond_false_right, Bool.cond_true_left, Bool.cond_true_right, IsF, rdF_eq, fOf, AV.f.injEq, exists_eq', free_list, free_fn0, List.not_mem_nil, List.mem_cons, false_imp, forall_eq, or_false, free_i, free_f, free_b, ren_f, ren_i, ren_b, and_self, bne_iff_ne, bne_eq_false_iff_eq, ne_eq, Int.natCast_inj, or_true, true_or, freeB_list, unfr_f, unfr_i, unfr_b, unfr_c, unfr_s, free_c, free_s, ren_c, ren_s, unfr_ro, unfr_rptr, ren_ro, free_ll, free_box, kill_f, kill_i, kill_b, kill_c, kill_s, kill_rof, kill_rot, Int.toNat_zero, isFF_ll, rowN_ll, rowX_ll, AllFree, Option.some.injEq, Prod.mk.injEq, Bool.false_eq_true, Bool.true_eq_false]
    (repeat' first | with_reducible assumption | with_reducible apply And.intro | with_reducible intro hh) <;> first | ((first | with_reducible show (_ : Int) ≤ _ | with_reducible show (_ : Int) < _ | with_reducible show (_ : Nat) ≤ _ | with_reducible show (_ : Nat) < _ | with_reducible show (_ : Int) = _ | with_reducible show (_ : Nat) = _ | with_reducible show ¬ _ | with_reducible show _ ≠ _) <;> first | omega | (simp only [Bool.and_eq_true, Bool.or_eq_false_iff, Bool.not_eq_false', Bool.not_eq_true', decide_eq_true_eq, decide_eq_false_iff_not] at *; omega) | (with_reducible assumption)) | (with_reducible assumption) | skip
    · obtain ⟨rfl⟩ := hQ
      have e := okRN_bad (t := t .u) ‹i < partN (t .u)› hh
      exact Post.leaf (by cbv) (okA.no e (fin_ret (.inl rfl) (by cbv) (by simp) (To.fresh noL_to)))
    · have hgood := ‹(!okH (pieceB (t .u) 44 i) || decide (256 < (partN (t .u) : Int))) = false›
      rw [Bool.or_eq_false_iff, Bool.not_eq_false', decide_eq_false_iff_not] at hgood
      refine ⟨i + 1, ⟨by omega, fun _ => by omega, lt_succ_all hok hgood.1⟩, by omega, To.moved (k := 2) rfl (Nat.le_refl _) (fun e => e) (fun j hj => app_one hj (fun _ => AvTo.f rfl) fun e => AvTo.f (by subst e; rfl)) ?_⟩
      (repeat' first | exact AllTo.nil | apply AllTo.cons) <;> first | exact AvTo.dead _ | exact AvTo.i rfl | exact AvTo.own rfl rfl rfl rfl | exact Free.same Free.listT | skip
    · obtain ⟨rfl⟩ := hQ
      refine Post.eval (by cbv) ?_
      have ei : i = partN (t .u) := by omega
      have e : okRN (t .u) = true := okRN_all (fun h => hfew (by omega)) (fun j hj => hok j (by omega))
      have en : numRN (t .u) = partN (t .u) := by unfold numRN; rw [e]; rfl
      simp only [natCast_int, Post, All, thenA, canon0, canon064, and_true, true_and, forall_const, implies_true, decide_eq_true_eq, decide_eq_false_iff_not, Bool.not_eq_true', Bool.not_eq_false', Bool.true_and, Bool.and_true, beq_true, beq_false, Int.toNat_natCast, Int.ofNat_lt, Int.ofNat_le, Nat.zero_add, Nat.add_zero, imp_self, Bool.cond_false_right, Bool.cond_true_left, Bool.cond_true_right, IsF, rdF_eq, fOf, AV.f.injEq, exists_eq', free_list, free_fn0, List.not_mem_nil, List.mem_cons, false_imp, forall_eq, or_false, free_i, free_f, free_b, ren_f, ren_i, ren_b, and_self, bne_iff_ne, bne_eq_false_iff_eq, ne_eq, Int.natCast_inj, or_true, true_or, freeB_list, unfr_f, unfr_i, unfr_b, unfr_c, unfr_s, free_c, free_s, ren_c, ren_s, unfr_ro, unfr_rptr, ren_ro, free_ll, free_box, kill_f, kill_i, kill_b, kill_c, kill_s, kill_rof, kill_rot, Int.toNat_zero, isFF_ll, rowN_ll, rowX_ll, AllFree, Option.some.injEq, Prod.mk.injEq, Bool.false_eq_true, Bool.true_eq_false]
      (repeat' first | with_reducible assumption | with_reducible apply And.intro | with_reducible intro hh) <;> first | ((first | with_reducible show (_ : Int) ≤ _ | with_reducible show (_ : Int) < _ | with_reducible show (_ : Nat) ≤ _ | with_reducible show (_ : Nat) < _ | with_reducible show (_ : Int) = _ | with_reducible show (_ : Nat) = _ | with_reducible show ¬ _ | with_reducible show _ ≠ _) <;> first | omega | (simp only [Bool.and_eq_true, Bool.or_eq_false_iff, Bool.not_eq_false', Bool.not_eq_true', decide_eq_true_eq, decide_eq_false_iff_not] at *; omega) | (with_reducible assumption)) | (with_reducible assumption) | skip
      obtain rfl : i = numRN (t .u) := by omega
      exact okA.yes e (fin_ret (.inl rfl) (by cbv) (by simp) (To.list (Nat.zero_le _) (Nat.le_refl _) (fun e => e) (fun j hj => AvTo.f rfl) yesL_to))
set_option maxHeartbeats 4000000 in
theorem specRNg : Tells Tryd.prog 52 (.g 0 kRNg) := by
  intro args Hc r hr
  unfold kRNg at hr
  split at hr <;> cases hr
  rename_i t
  refine AnsOk.two ttok Tryd.func52 rfl rfl (Nat.zero_le _) (Nat.zero_le _) (allFr_tup2 .own .b) (allFr_tup2 .v .b) .list .nil fun hp => ⟨[.s t], ⟨Sub.refl _, trivial⟩, ?_⟩
  have hp : (t .u).size ≤ 1073741824 := hp
  have hc := cutN_le (t .u) 44
  have hm : UInt8.ofNat (Int.toNat 44) = 44 := rfl
  have hps := fun i => piece_size (t .u) 44 i
  refine AW.exec ttok ctNR_ok (by cbv) ?_
  simp only [natCast_int, Post, All, thenA, canon0, canon064, and_true, true_and, forall_const, implies_true, decide_eq_true_eq, decide_eq_false_iff_not, Bool.not_eq_true', Bool.not_eq_false', Bool.true_and, Bool.and_true, beq_true, beq_false, Int.toNat_natCast, Int.ofNat_lt, Int.ofNat_le, Nat.zero_add, Nat.add_zero, imp_self, Bool.cond_false_right, Bool.cond_true_left, Bool.cond_true_right, IsF, rdF_eq, fOf, AV.f.injEq, exists_eq', free_list, free_fn0, List.not_mem_nil, List.mem_cons, false_imp, forall_eq, or_false, free_i, free_f, free_b, ren_f, ren_i, ren_b, and_self, bne_iff_ne, bne_eq_false_iff_eq, ne_eq, Int.natCast_inj, or_true, true_or, freeB_list, unfr_f, unfr_i, unfr_b, unfr_c, unfr_s, free_c, free_s, ren_c, ren_s, unfr_ro, unfr_rptr, ren_ro, free_ll, free_box, kill_f, kill_i, kill_b, kill_c, kill_s, kill_rof, kill_rot, Int.toNat_zero, isFF_ll, rowN_ll, rowX_ll, AllFree, Option.some.injEq, Prod.mk.injEq, Bool.false_eq_true, Bool.true_eq_false, hp, hm]
  (repeat' first | with_reducible assumption | with_reducible apply And.intro | with_reducible intro hh) <;> first | ((first | with_reducible show (_ : Int) ≤ _ | with_reducible show (_ : Int) < _ | with_reducible show (_ : Nat) ≤ _ | with_reducible show (_ : Nat) < _ | with_reducible show (_ : Int) = _ | with_reducible show (_ : Nat) = _ | with_reducible show ¬ _ | with_reducible show _ ≠ _) <;> first | omega | (simp only [Bool.and_eq_true, Bool.or_eq_false_iff, Bool.not_eq_false', Bool.not_eq_true', decide_eq_true_eq, decide_eq_false_iff_not] at *; omega) | (with_reducible assumption)) | (with_reducible assumption) | skip
  · have e : isNone (t .u) = true := hh
    have z : numRN (t .u) = 0 := by unfold numRN partN; rw [okRN_none e, e]; rfl
    simp only [z]
    exact okA.yes (okRN_none e) (fin_ret (.inl rfl) (by cbv) (by simp) (To.list (Nat.zero_le _) (Nat.le_refl _) (fun e => e) (fun j hj => absurd hj (Nat.not_lt_zero _)) yesL_to))
  · have e : isNone (t .u) = false := by assumption
    have eo : okRN (t .u) = false := by unfold okRN; rw [e, cond_false, decide_eq_false (by omega), Bool.false_and]
    exact okA.no eo (fin_ret (.inl rfl) (by cbv) (by simp) (To.fresh noL_to))
  have e : isNone (t .u) = false := by assumption
  have en : partN (t .u) = cutN (t .u) 44 := by unfold partN; rw [e]; rfl
  have h256 : cutN (t .u) 44 ≤ 256 := by omega
  have bad : ∀ i, i < cutN (t .u) 44 → okH (pieceB (t .u) 44 i) = false → okRN (t .u) = false := fun i hi hb => by
    unfold okRN
    rw [e, cond_false, allN_false (q := fun i => okH (pieceB (t .u) 44 i)) hi hb, Bool.and_false]
  have bad0 : ∀ i, i < cutN (t .u) 44 → okH (pieceB (t .u) 44 i) = false → numRN (t .u) = 0 := fun i hi hb => by
    unfold numRN
    rw [bad i hi hb]
    rfl
  refine AW.loopH (ι := Nat) (fun i => i ≤ cutN (t .u) 44 ∧ ∀ j, j < i → okH (pieceB (t .u) 44 j) = true) (fun i => cutN (t .u) 44 - i) (fun i => mkE Tryd.f52.ntmps [(4, .own 0 (fun _ => 0) (fun _ => i) 1), (5, .own 1 (fun _ => 0) (fun _ => cutN (t .u) 44) 1), (6, .i .i64 fun _ => (i : Int))])
    (fun i => [blkR i (t .u), blkT true (fun _ => cutN (t .u) 44) (pieceB (t .u) 44)]) 0 ⟨Nat.zero_le _, fun j hj => absurd hj (Nat.not_lt_zero _)⟩ (To.pick [0, 1] (by decide) (Nat.zero_le _) (fun j hj => absurd hj (Nat.not_lt_zero _)) ⟨.list (fun e => e) (Nat.le_refl _) fun j hj => absurd hj (Nat.not_lt_zero _), .list (fun e => e) (Nat.le_refl _) fun j hj => AvTo.s rfl, trivial⟩ ?_) ?_
  · (repeat' first | exact AllTo.nil | apply AllTo.cons) <;> first | exact AvTo.dead _ | exact AvTo.i rfl | exact AvTo.own rfl rfl rfl rfl | skip
  · rintro Q' hQ i ⟨hi, hok⟩
    have hpi := hps i
    refine AW.exec ttok ctNR_ok (by cbv) ?_
    simp only [natCast_int, Post, All, thenA, canon0, canon064, and_true, true_and, forall_const, implies_true, decide_eq_true_eq, decide_eq_false_iff_not, Bool.not_eq_true', Bool.not_eq_false', Bool.true_and, Bool.and_true, beq_true, beq_false, Int.toNat_natCast, Int.ofNat_lt, Int.ofNat_le, Nat.zero_add, Nat.add_zero, imp_self, Bool.cond_false_right, Bool.cond_true_left, Bool.cond_true_right, IsF, rdF_eq, fOf, AV.f.injEq, exists_eq', free_list, free_fn0, List.not_mem_nil, List.mem_cons, false_imp, forall_eq, or_false, free_i, free_f, free_b, ren_f, ren_i, ren_b, and_self, bne_iff_ne, bne_eq_false_iff_eq, ne_eq, Int.natCast_inj, or_true, true_or, freeB_list, unfr_f, unfr_i, unfr_b, unfr_c, unfr_s, free_c, free_s, ren_c, ren_s, unfr_ro, unfr_rptr, ren_ro, free_ll, free_box, kill_f, kill_i, kill_b, kill_c, kill_s, kill_rof, kill_rot, Int.toNat_zero, isFF_ll, rowN_ll, rowX_ll, AllFree, Option.some.injEq, Prod.mk.injEq, Bool.false_eq_true, Bool.true_eq_false]
    (repeat' first | with_reducible assumption | with_reducible apply And.intro | with_reducible intro hh) <;> first | ((first | with_reducible show (_ : Int) ≤ _ | with_reducible show (_ : Int) < _ | with_reducible show (_ : Nat) ≤ _ | with_reducible show (_ : Nat) < _ | with_reducible show (_ : Int) = _ | with_reducible show (_ : Nat) = _ | with_reducible show ¬ _ | with_reducible show _ ≠ _) <;> first | omega | (simp only [Bool.and_eq_true, Bool.or_eq_false_iff, Bool.not_eq_false', Bool.not_eq_true', decide_eq_true_eq, decide_eq_false_iff_not] at *; omega) | (with_reducible assumption)) | (with_reducible assumption) | skip
    · obtain ⟨rfl⟩ := hQ
      have hb := okH_size (s := pieceB (t .u) 44 i) (by omega)
      exact Post.leaf (by cbv) (okA.no (bad i ‹_› hb) (fin_ret (.inl rfl) (by cbv) (by simp) (To.fresh noL_to)))
    have h8 : (pieceB (t .u) 44 i).size = 8 := by omega
    have hin : i < cutN (t .u) 44 := by assumption
    refine AW.loopH (ι := Nat × Nat) (fun q => q.1 ≤ 8 ∧ HexSt (pieceB (t .u) 44 i) q.1 q.2) (fun q => 8 - q.1) (fun q => mkE Tryd.f52.ntmps [(4, .own 0 (fun _ => 0) (fun _ => i) 1), (5, .own 1 (fun _ => 0) (fun _ => cutN (t .u) 44) 1), (6, .i .i64 fun _ => (i : Int)), (7, .i .i64 fun _ => (q.2 : Int)), (8, .i .i64 fun _ => (q.1 : Int))])
      (fun _ => [blkR i (t .u), blkT true (fun _ => cutN (t .u) 44) (pieceB (t .u) 44)]) (0, 0) ⟨Nat.zero_le _, HexSt.start _⟩ (To.pick [0, 1] (by decide) (Nat.zero_le _) (fun j hj => absurd hj (Nat.not_lt_zero _)) ⟨.list (fun e => e) (Nat.le_refl _) fun j hj => AvTo.f rfl, .list (fun e => e) (Nat.le_refl _) fun j hj => AvTo.s rfl, trivial⟩ ?_) ?_
    · (repeat' first | exact AllTo.nil | apply AllTo.cons) <;> first | exact AvTo.dead _ | exact AvTo.i rfl | exact AvTo.own rfl rfl rfl rfl | skip
    · rintro Q'' hQ' ⟨k, m⟩ ⟨hk, hst⟩
      have hk : k ≤ 8 := hk
      have hst : HexSt (pieceB (t .u) 44 i) k m := hst
      have hm16 : m < 4294967296 := Nat.lt_of_lt_of_le hst.2 (Nat.pow_le_pow_right (by decide) hk)
      obtain ⟨hb0, hb1⟩ := byteAt_lt (pieceB (t .u) 44 i) k
      have hw1 : 48 ≤ byteAt (pieceB (t .u) 44 i) k → IntKind.u8.wrap (byteAt (pieceB (t .u) 44 i) k - 48) = byteAt (pieceB (t .u) 44 i) k - 48 := fun h => by rw [IntKind.wrap_u8]; omega
      have hw2 : 97 ≤ byteAt (pieceB (t .u) 44 i) k → IntKind.u8.wrap (byteAt (pieceB (t .u) 44 i) k - 97) = byteAt (pieceB (t .u) 44 i) k - 97 := fun h => by rw [IntKind.wrap_u8]; omega
      have go : ∀ d : Nat, dl ((pieceB (t .u) 44 i).data.toList.getD k 0) = some d → k < 8 → HexSt (pieceB (t .u) 44 i) (k + 1) (16 * m + d) := fun d hd hk8 => hst.step (by omega) hd
      have no : dl ((pieceB (t .u) 44 i).data.toList.getD k 0) = none → k < 8 → okH (pieceB (t .u) 44 i) = false := fun hd hk8 => hst.bad (by omega) hd
      have dn := dl_num (s := pieceB (t .u) 44 i) (k := k)
      have dt := dl_let (s := pieceB (t .u) 44 i) (k := k)
      have dx := dl_not (s := pieceB (t .u) 44 i) (k := k)
      by_cases hk8 : k < 8
      · have hk8' : decide ((k : Int) < 8) = true := decide_eq_true (by omega)
        by_cases hD : 48 ≤ byteAt (pieceB (t .u) 44 i) k ∧ byteAt (pieceB (t .u) 44 i) k ≤ 57
        · have hD' : (decide (48 ≤ byteAt (pieceB (t .u) 44 i) k) && decide (byteAt (pieceB (t .u) 44 i) k ≤ 57)) = true := by rw [decide_eq_true hD.1, decide_eq_true hD.2]; rfl
          have hL' : (decide (97 ≤ byteAt (pieceB (t .u) 44 i) k) && decide (byteAt (pieceB (t .u) 44 i) k ≤ 102)) = false := by rw [decide_eq_false (by omega), Bool.false_and]
          have hw := hw1 hD.1
          refine AW.exec ttok ctNR_ok (by cbv) ?_
          simp only [natCast_int, Post, All, thenA, canon0, canon064, and_true, true_and, forall_const, implies_true, decide_eq_true_eq, decide_eq_false_iff_not, Bool.not_eq_true', Bool.not_eq_false', Bool.true_and, Bool.and_true, beq_true, beq_false, Int.toNat_natCast, Int.ofNat_lt, Int.ofNat_le, Nat.zero_add, Nat.add_zero, imp_self, Bool.cond_false_right, Bool.cond_true_left, Bool.cond_true_right, IsF, rdF_eq, fOf, AV.f.injEq, exists_eq', free_list, free_fn0, List.not_mem_nil, List.mem_cons, false_imp, forall_eq, or_false, free_i, free_f, free_b, ren_f, ren_i, ren_b, and_self, bne_iff_ne, bne_eq_false_iff_eq, ne_eq, Int.natCast_inj, or_true, true_or, freeB_list, unfr_f, unfr_i, unfr_b, unfr_c, unfr_s, free_c, free_s, ren_c, ren_s, unfr_ro, unfr_rptr, ren_ro, free_ll, free_box, kill_f, kill_i, kill_b, kill_c, kill_s, kill_rof, kill_rot, Int.toNat_zero, isFF_ll, rowN_ll, rowX_ll, AllFree, Option.some.injEq, Prod.mk.injEq, Bool.false_eq_true, Bool.true_eq_false, hD', hL', hw]
          (repeat' first | with_reducible assumption | with_reducible apply And.intro | with_reducible intro hh) <;> first | ((first | with_reducible show (_ : Int) ≤ _ | with_reducible show (_ : Int) < _ | with_reducible show (_ : Nat) ≤ _ | with_reducible show (_ : Nat) < _ | with_reducible show (_ : Int) = _ | with_reducible show (_ : Nat) = _ | with_reducible show ¬ _ | with_reducible show _ ≠ _) <;> first | omega | (simp only [Bool.and_eq_true, Bool.or_eq_false_iff, Bool.not_eq_false', Bool.not_eq_true', decide_eq_true_eq, decide_eq_false_iff_not] at *; omega) | (with_reducible assumption)) | (with_reducible assumption) | skip
          all_goals first | (exfalso; omega) | skip
          refine ⟨(k + 1, 16 * m + (byteAt (pieceB (t .u) 44 i) k - 48).toNat), ⟨by show k + 1 ≤ 8; omega, go _ (dn hD) hk8⟩, (by show 8 - (k + 1) < 8 - k; omega), To.pick [0, 1] (by decide) (Nat.zero_le _) (fun j hj => absurd hj (Nat.not_lt_zero _)) ⟨.list (fun e => e) (Nat.le_refl _) fun j hj => AvTo.f rfl, .list (fun e => e) (Nat.le_refl _) fun j hj => AvTo.s rfl, trivial⟩ ?_⟩
          (repeat' first | exact AllTo.nil | apply AllTo.cons) <;> first | exact AvTo.dead _ | exact AvTo.i rfl | exact AvTo.i (by first | omega | (simp only [natCast_int]; omega)) | exact AvTo.own rfl rfl rfl rfl | skip
        · have hD' : (decide (48 ≤ byteAt (pieceB (t .u) 44 i) k) && decide (byteAt (pieceB (t .u) 44 i) k ≤ 57)) = false := by rw [← Bool.decide_and]; exact decide_eq_false hD
          by_cases hL : 97 ≤ byteAt (pieceB (t .u) 44 i) k ∧ byteAt (pieceB (t .u) 44 i) k ≤ 102
          · have hL' : (decide (97 ≤ byteAt (pieceB (t .u) 44 i) k) && decide (byteAt (pieceB (t .u) 44 i) k ≤ 102)) = true := by rw [decide_eq_true hL.1, decide_eq_true hL.2]; rfl
            have hw := hw2 hL.1
            refine AW.exec ttok ctNR_ok (by cbv) ?_
            simp only [natCast_int, Post, All, thenA, canon0, canon064, and_true, true_and, forall_const, implies_true, decide_eq_true_eq, decide_eq_false_iff_not, Bool.not_eq_true', Bool.not_eq_false', Bool.true_and, Bool.and_true, beq_true, beq_false, Int.toNat_natCast, Int.ofNat_lt, Int.ofNat_le, Nat.zero_add, Nat.add_zero, imp_self, Bool.cond_false_right, Bool.cond_true_left, Bool.cond_true_right, IsF, rdF_eq, fOf, AV.f.injEq, exists_eq', free_list, free_fn0, List.not_mem_nil, List.mem_cons, false_imp, forall_eq, or_false, free_i, free_f, free_b, ren_f, ren_i, ren_b, and_self, bne_iff_ne, bne_eq_false_iff_eq, ne_eq, Int.natCast_inj, or_true, true_or, freeB_list, unfr_f, unfr_i, unfr_b, unfr_c, unfr_s, free_c, free_s, ren_c, ren_s, unfr_ro, unfr_rptr, ren_ro, free_ll, free_box, kill_f, kill_i, kill_b, kill_c, kill_s, kill_rof, kill_rot, Int.toNat_zero, isFF_ll, rowN_ll, rowX_ll, AllFree, Option.some.injEq, Prod.mk.injEq, Bool.false_eq_true, Bool.true_eq_false, hD', hL', hw]
            (repeat' first | with_reducible assumption | with_reducible apply And.intro | with_reducible intro hh) <;> first | ((first | with_reducible show (_ : Int) ≤ _ | with_reducible show (_ : Int) < _ | with_reducible show (_ : Nat) ≤ _ | with_reducible show (_ : Nat) < _ | with_reducible show (_ : Int) = _ | with_reducible show (_ : Nat) = _ | with_reducible show ¬ _ | with_reducible show _ ≠ _) <;> first | omega | (simp only [Bool.and_eq_true, Bool.or_eq_false_iff, Bool.not_eq_false', Bool.not_eq_true', decide_eq_true_eq, decide_eq_false_iff_not] at *; omega) | (with_reducible assumption)) | (with_reducible assumption) | skip
            all_goals first | (exfalso; omega) | skip
            refine ⟨(k + 1, 16 * m + (byteAt (pieceB (t .u) 44 i) k - 87).toNat), ⟨by show k + 1 ≤ 8; omega, go _ (dt hL) hk8⟩, (by show 8 - (k + 1) < 8 - k; omega), To.pick [0, 1] (by decide) (Nat.zero_le _) (fun j hj => absurd hj (Nat.not_lt_zero _)) ⟨.list (fun e => e) (Nat.le_refl _) fun j hj => AvTo.f rfl, .list (fun e => e) (Nat.le_refl _) fun j hj => AvTo.s rfl, trivial⟩ ?_⟩
            (repeat' first | exact AllTo.nil | apply AllTo.cons) <;> first | exact AvTo.dead _ | exact AvTo.i rfl | exact AvTo.i (by first | omega | (simp only [natCast_int]; omega)) | exact AvTo.own rfl rfl rfl rfl | skip
          · have hL' : (decide (97 ≤ byteAt (pieceB (t .u) 44 i) k) && decide (byteAt (pieceB (t .u) 44 i) k ≤ 102)) = false := by rw [← Bool.decide_and]; exact decide_eq_false hL
            have hb := no (dx hD hL) hk8
            refine AW.exec ttok ctNR_ok (by cbv) ?_
            simp only [natCast_int, Post, All, thenA, canon0, canon064, and_true, true_and, forall_const, implies_true, decide_eq_true_eq, decide_eq_false_iff_not, Bool.not_eq_true', Bool.not_eq_false', Bool.true_and, Bool.and_true, beq_true, beq_false, Int.toNat_natCast, Int.ofNat_lt, Int.ofNat_le, Nat.zero_add, Nat.add_zero, imp_self, Bool.cond_false_right, Bool.cond_true_left, Bool.cond_true_right, IsF, rdF_eq, fOf, AV.f.injEq, exists_eq', free_list, free_fn0, List.not_mem_nil, List.mem_cons, false_imp, forall_eq, or_false, free_i, free_f, free_b, ren_f, ren_i, ren_b, and_self, bne_iff_ne, bne_eq_false_iff_eq, ne_eq, Int.natCast_inj, or_true, true_or, freeB_list, unfr_f, unfr_i, unfr_b, unfr_c, unfr_s, free_c, free_s, ren_c, ren_s, unfr_ro, unfr_rptr, ren_ro, free_ll, free_box, kill_f, kill_i, kill_b, kill_c, kill_s, kill_rof, kill_rot, Int.toNat_zero, isFF_ll, rowN_ll, rowX_ll, AllFree, Option.some.injEq, Prod.mk.injEq, Bool.false_eq_true, Bool.true_eq_false, hD', hL']
            (repeat' first | with_reducible assumption | with_reducible apply And.intro | with_reducible intro hh) <;> first | ((first | with_reducible show (_ : Int) ≤ _ | with_reducible show (_ : Int) < _ | with_reducible show (_ : Nat) ≤ _ | with_reducible show (_ : Nat) < _ | with_reducible show (_ : Int) = _ | with_reducible show (_ : Nat) = _ | with_reducible show ¬ _ | with_reducible show _ ≠ _) <;> first | omega | (simp only [Bool.and_eq_true, Bool.or_eq_false_iff, Bool.not_eq_false', Bool.not_eq_true', decide_eq_true_eq, decide_eq_false_iff_not] at *; omega) | (with_reducible assumption)) | (with_reducible assumption) | skip
            all_goals first | (exfalso; omega) | skip
            obtain ⟨rfl⟩ := hQ'
            obtain ⟨rfl⟩ := hQ
            refine Post.leaf (by cbv) ?_
            exact Post.leaf (by cbv) (okA.no (bad i ‹_› hb) (fin_ret (.inl rfl) (by cbv) (by simp) (To.fresh noL_to)))
      · have hk' : k = 8 := by omega
        subst hk'
        obtain ⟨hokH, hm32, hxH⟩ := hst.done h8
        have hm0 : ((m : Int)).toNat = m := by omega
        have hcl := canon_lt (m := m) (by omega)
        refine AW.exec ttok ctNR_ok (by cbv) ?_
        simp only [natCast_int, Post, All, thenA, canon0, canon064, and_true, true_and, forall_const, implies_true, decide_eq_true_eq, decide_eq_false_iff_not, Bool.not_eq_true', Bool.not_eq_false', Bool.true_and, Bool.and_true, beq_true, beq_false, Int.toNat_natCast, Int.ofNat_lt, Int.ofNat_le, Nat.zero_add, Nat.add_zero, imp_self, Bool.cond_false_right, Bool.cond_true_left, Bool.cond_true_right, IsF, rdF_eq, fOf, AV.f.injEq, exists_eq', free_list, free_fn0, List.not_mem_nil, List.mem_cons, false_imp, forall_eq, or_false, free_i, free_f, free_b, ren_f, ren_i, ren_b, and_self, bne_iff_ne, bne_eq_false_iff_eq, ne_eq, Int.natCast_inj, or_true, true_or, freeB_list, unfr_f, unfr_i, unfr_b, unfr_c, unfr_s, free_c, free_s, ren_c, ren_s, unfr_ro, unfr_rptr, ren_ro, free_ll, free_box, kill_f, kill_i, kill_b, kill_c, kill_s, kill_rof, kill_rot, Int.toNat_zero, isFF_ll, rowN_ll, rowX_ll, AllFree, Option.some.injEq, Prod.mk.injEq, Bool.false_eq_true, Bool.true_eq_false]
        (repeat' first | with_reducible assumption | with_reducible apply And.intro | with_reducible intro hh) <;> first | ((first | with_reducible show (_ : Int) ≤ _ | with_reducible show (_ : Int) < _ | with_reducible show (_ : Nat) ≤ _ | with_reducible show (_ : Nat) < _ | with_reducible show (_ : Int) = _ | with_reducible show (_ : Nat) = _ | with_reducible show ¬ _ | with_reducible show _ ≠ _) <;> first | omega | (simp only [Bool.and_eq_true, Bool.or_eq_false_iff, Bool.not_eq_false', Bool.not_eq_true', decide_eq_true_eq, decide_eq_false_iff_not] at *; omega) | (with_reducible assumption)) | (with_reducible assumption) | skip
        all_goals first | (exfalso; omega) | skip
        obtain ⟨rfl⟩ := hQ'
        refine Post.eval (by cbv) ?_
        simp only [natCast_int, Post, All, thenA, canon0, canon064, and_true, true_and, forall_const, implies_true, decide_eq_true_eq, decide_eq_false_iff_not, Bool.not_eq_true', Bool.not_eq_false', Bool.true_and, Bool.and_true, beq_true, beq_false, Int.toNat_natCast, Int.ofNat_lt, Int.ofNat_le, Nat.zero_add, Nat.add_zero, imp_self, Bool.cond_false_right, Bool.cond_true_left, Bool.cond_true_right, IsF, rdF_eq, fOf, AV.f.injEq, exists_eq', free_list, free_fn0, List.not_mem_nil, List.mem_cons, false_imp, forall_eq, or_false, free_i, free_f, free_b, ren_f, ren_i, ren_b, and_self, bne_iff_ne, bne_eq_false_iff_eq, ne_eq, Int.natCast_inj, or_true, true_or, freeB_list, unfr_f, unfr_i, unfr_b, unfr_c, unfr_s, free_c, free_s, ren_c, ren_s, unfr_ro, unfr_rptr, ren_ro, free_ll, free_box, kill_f, kill_i, kill_b, kill_c, kill_s, kill_rof, kill_rot, Int.toNat_zero, isFF_ll, rowN_ll, rowX_ll, AllFree, Option.some.injEq, Prod.mk.injEq, Bool.false_eq_true, Bool.true_eq_false, hm0]
        (repeat' first | with_reducible assumption | with_reducible apply And.intro | with_reducible intro hh) <;> first | ((first | with_reducible show (_ : Int) ≤ _ | with_reducible show (_ : Int) < _ | with_reducible show (_ : Nat) ≤ _ | with_reducible show (_ : Nat) < _ | with_reducible show (_ : Int) = _ | with_reducible show (_ : Nat) = _ | with_reducible show ¬ _ | with_reducible show _ ≠ _) <;> first | omega | (simp only [Bool.and_eq_true, Bool.or_eq_false_iff, Bool.not_eq_false', Bool.not_eq_true', decide_eq_true_eq, decide_eq_false_iff_not] at *; omega) | (with_reducible assumption)) | (with_reducible assumption) | skip
        · have hb := hokH.trans (decide_eq_false (by assumption))
          obtain ⟨rfl⟩ := hQ
          exact Post.leaf (by cbv) (okA.no (bad i ‹_› hb) (fin_ret (.inl rfl) (by cbv) (by simp) (To.fresh noL_to)))
        · have hg := hokH.trans (decide_eq_true (by assumption))
          refine ⟨i + 1, ⟨by omega, lt_succ_all hok hg⟩, by omega, To.pick [3, 1] (by decide) (Nat.zero_le _) (fun j hj => absurd hj (Nat.not_lt_zero _)) ⟨.list (fun e => e) (Nat.le_refl _) fun j hj => app_one hj (fun _ => AvTo.f rfl) fun e => AvTo.f (by subst e; exact hxH.symm), .list (fun e => e) (Nat.le_refl _) fun j hj => AvTo.s rfl, trivial⟩ ?_⟩
          (repeat' first | exact AllTo.nil | apply AllTo.cons) <;> first | exact AvTo.dead _ | exact AvTo.i rfl | exact AvTo.i (by first | omega | (simp only [natCast_int]; omega)) | exact AvTo.own rfl rfl rfl rfl | skip
    · obtain ⟨rfl⟩ := hQ
      refine Post.eval (by cbv) ?_
      have ei : i = cutN (t .u) 44 := by omega
      have eo : okRN (t .u) = true := okRN_all (fun _ => by omega) (fun j hj => hok j (by omega))
      have enn : numRN (t .u) = partN (t .u) := by unfold numRN; rw [eo]; rfl
      simp only [natCast_int, Post, All, thenA, canon0, canon064, and_true, true_and, forall_const, implies_true, decide_eq_true_eq, decide_eq_false_iff_not, Bool.not_eq_true', Bool.not_eq_false', Bool.true_and, Bool.and_true, beq_true, beq_false, Int.toNat_natCast, Int.ofNat_lt, Int.ofNat_le, Nat.zero_add, Nat.add_zero, imp_self, Bool.cond_false_right, Bool.cond_true_left, Bool.cond_true_right, IsF, rdF_eq, fOf, AV.f.injEq, exists_eq', free_list, free_fn0, List.not_mem_nil, List.mem_cons, false_imp, forall_eq, or_false, free_i, free_f, free_b, ren_f, ren_i, ren_b, and_self, bne_iff_ne, bne_eq_false_iff_eq, ne_eq, Int.natCast_inj, or_true, true_or, freeB_list, unfr_f, unfr_i, unfr_b, unfr_c, unfr_s, free_c, free_s, ren_c, ren_s, unfr_ro, unfr_rptr, ren_ro, free_ll, free_box, kill_f, kill_i, kill_b, kill_c, kill_s, kill_rof, kill_rot, Int.toNat_zero, isFF_ll, rowN_ll, rowX_ll, AllFree, Option.some.injEq, Prod.mk.injEq, Bool.false_eq_true, Bool.true_eq_false]
      (repeat' first | with_reducible assumption | with_reducible apply And.intro | with_reducible intro hh) <;> first | ((first | with_reducible show (_ : Int) ≤ _ | with_reducible show (_ : Int) < _ | with_reducible show (_ : Nat) ≤ _ | with_reducible show (_ : Nat) < _ | with_reducible show (_ : Int) = _ | with_reducible show (_ : Nat) = _ | with_reducible show ¬ _ | with_reducible show _ ≠ _) <;> first | omega | (simp only [Bool.and_eq_true, Bool.or_eq_false_iff, Bool.not_eq_false', Bool.not_eq_true', decide_eq_true_eq, decide_eq_false_iff_not] at *; omega) | (with_reducible assumption)) | (with_reducible assumption) | skip
      obtain rfl : i = numRN (t .u) := by omega
      exact okA.yes eo (fin_ret (.inl rfl) (by cbv) (by simp) (To.pick [0] (by decide) (Nat.zero_le _) (fun j hj => absurd hj (Nat.not_lt_zero _)) ⟨.list (fun e => e) (Nat.le_refl _) fun j hj => AvTo.f rfl, trivial⟩ (.cons (.tup (.cons (.own rfl rfl rfl rfl) (.cons (.b rfl) .nil))) .nil)))
end Go.Proofs.YtkglnfkbejoheaaDoor
