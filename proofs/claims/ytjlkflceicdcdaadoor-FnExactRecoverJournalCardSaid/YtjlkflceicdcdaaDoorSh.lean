/- Journals recovered: the reference's side. -/
import Derived.Test.YtjlkflceicdcdaaDoorSg
set_option linter.unusedSimpArgs false
set_option linter.unusedVariables false
namespace Go.Proofs.YtjlkflceicdcdaaDoor
open Go.Aw
open Go.Lib (indexByte countByte extract_eq size_eq decDigits itoa)
theorem pos_rest (x : ByteArray) : ∀ i, i ≤ cutN x 10 - 1 → RestAt x 10 i (restB x (posN x i)) ∧ posN x i ≤ x.size := by
  intro i
  induction i with
  | zero =>
    intro _
    refine ⟨?_, Nat.zero_le _⟩
    show RestAt x 10 0 (restB x 0)
    rw [restB, List.drop_zero, toB_list]
    exact RestAt.start _ _
  | succ i ih =>
    intro h
    obtain ⟨hR, hp⟩ := ih (by omega)
    by_cases hi : 0 ≤ indexByte (restB x (posN x i)).data.toList 10
    · obtain ⟨_, k2, k3, _⟩ := hR.next hp hi
      exact ⟨k2, k3⟩
    · have := (hR.miss (by omega)).2
      omega
theorem idx_at {c : UInt8} : ∀ {l : List UInt8} {k : Nat}, (∀ p, p < k → l.getD p 0 ≠ c) → k < l.length → l.getD k 0 = c → indexByte l c = k := by
  intro l
  induction l with
  | nil => intro k _ hk; exact absurd hk (Nat.not_lt_zero _)
  | cons b l ih =>
    intro k h hk he
    unfold indexByte
    cases k with
    | zero =>
      have : b = c := by simpa using he
      simp [this]
    | succ k =>
      have hb : ¬ b = c := by simpa using h 0 (Nat.zero_lt_succ k)
      have := ih (k := k) (fun p hp => by simpa using h (p + 1) (by omega)) (by simpa using hk) (by simpa using he)
      rw [this]
      have hne : ((k : Int) == -1) = false := by simp
      simp [hb]
theorem idx_no {c : UInt8} : ∀ {l : List UInt8}, (∀ p, p < l.length → l.getD p 0 ≠ c) → indexByte l c = -1 := by
  intro l
  induction l with
  | nil => intro _; rfl
  | cons b l ih =>
    intro h
    have hb : ¬ b = c := by simpa using h 0 (by simp)
    have := ih (fun p hp => by simpa using h (p + 1) (by simpa using hp))
    unfold indexByte
    simp [hb, this]
noncomputable def kRecS : Kg
  | [.s x], [] => some (.one (.tup [.own 0 (fun _ => 0) (fun _ => recN (x .u)) 1, .i .i64 fun _ => (posN (x .u) (recN (x .u)) : Int)]) [blkT true (fun _ => recN (x .u)) (lineB (x .u))] fun _ => (x .u).size ≤ 1073741824)
  | _, _ => none
def ctRecS : CT := [(31, .g 0 kLinesS), (58, .r kChkS), (59, .r kDecN)]
theorem ctRecS_ok : CTok Tryd.prog ctRecS := .cons specLines (.cons specChk (.cons specDec (.nil _)))
set_option maxHeartbeats 2000000 in
theorem specRecS : Tells Tryd.prog 40 (.g 0 kRecS) := by
  intro args Hc r hr
  unfold kRecS at hr
  split at hr <;> cases hr
  rename_i x
  refine AnsOk.one ttok Tryd.func40 rfl rfl (Nat.zero_le _) (allFr_tup2 .own .i) frH_T fun hF => ⟨[.s x], ⟨Sub.refl _, trivial⟩, ?_⟩
  have hx : (x .u).size ≤ 1073741824 := hF
  have hj1 := cutN_le (x .u) 10
  have hj0 := cutN_pos (x .u) 10
  refine AW.exec ttok ctRecS_ok (by cbv) ?_
  simp only [natCast_int, Post, All, thenA, canon0, canon064, and_true, true_and, forall_const, implies_true, decide_eq_true_eq, decide_eq_false_iff_not, Bool.not_eq_true', Bool.not_eq_false', Bool.true_and, Bool.and_true, beq_true, beq_false, Int.toNat_natCast, Int.ofNat_lt, Int.ofNat_le, Nat.zero_add, Nat.add_zero, imp_self, Bool.cond_false_right, Bool.cond_true_left, Bool.cond_true_right, IsF, rdF_eq, fOf, AV.f.injEq, exists_eq', free_list, free_fn0, List.not_mem_nil, List.mem_cons, false_imp, forall_eq, or_false, free_i, free_f, free_b, ren_f, ren_i, ren_b, and_self, bne_iff_ne, bne_eq_false_iff_eq, ne_eq, Int.natCast_inj, or_true, true_or, freeB_list, unfr_f, unfr_i, unfr_b, unfr_c, unfr_s, free_c, free_s, ren_c, ren_s, unfr_ro, unfr_rptr, ren_ro, free_ll, free_box, kill_f, kill_i, kill_b, kill_c, kill_s, kill_rof, kill_rot, Int.toNat_zero, isFF_ll, rowN_ll, rowX_ll, AllFree, Option.some.injEq, Prod.mk.injEq, Bool.false_eq_true, Bool.true_eq_false, hx]
  (repeat' first | with_reducible assumption | with_reducible apply And.intro | with_reducible intro hh) <;> first | ((first | with_reducible show (_ : Int) ≤ _ | with_reducible show (_ : Int) < _ | with_reducible show (_ : Nat) ≤ _ | with_reducible show (_ : Nat) < _ | with_reducible show (_ : Int) = _ | with_reducible show (_ : Nat) = _ | with_reducible show ¬ _ | with_reducible show _ ≠ _) <;> first | omega | (simp only [Bool.and_eq_true, Bool.or_eq_false_iff, Bool.not_eq_false', Bool.not_eq_true', decide_eq_true_eq, decide_eq_false_iff_not] at *; omega) | (with_reducible assumption)) | (with_reducible assumption) | skip
  refine AW.loopH (ι := Nat) (fun i => i ≤ cutN (x .u) 10 - 1 ∧ ∀ k, k < i → okJ (x .u) k = true) (fun i => cutN (x .u) 10 - i) (fun i => mkE Tryd.f40.ntmps [(4, .own 0 (fun _ => 0) (fun _ => cutN (x .u) 10 - 1) 1), (6, .own 1 (fun _ => 0) (fun _ => i) 1), (7, .i .i64 fun _ => chkJ (x .u) i), (8, .i .i64 fun _ => (posN (x .u) i : Int)), (9, .i .i64 fun _ => (i : Int))])
    (fun i => [blkT true (fun _ => cutN (x .u) 10) (pieceB (x .u) 10), blkT true (fun _ => i) (lineB (x .u))]) 0 ⟨Nat.zero_le _, fun i hi => absurd hi (Nat.not_lt_zero _)⟩ (To.pick [0, 1] (by decide) (Nat.zero_le _) (fun j hj => absurd hj (Nat.not_lt_zero _)) ⟨.list (fun e => e) (Nat.le_refl _) fun j hj => AvTo.s rfl, .list (fun e => e) (Nat.le_refl _) fun j hj => absurd hj (Nat.not_lt_zero _), trivial⟩ ?_) ?_
  · (repeat' first | exact AllTo.nil | apply AllTo.cons) <;> first | exact AvTo.dead _ | exact AvTo.s rfl | exact AvTo.i rfl | exact AvTo.own rfl rfl rfl rfl
  · rintro Q' hQ i ⟨hi, hok⟩
    have hin := chkJ_in (x .u) i
    obtain ⟨hR, hp⟩ := pos_rest (x .u) i hi
    have hpl := piece_le hR
    refine AW.exec ttok ctRecS_ok (by cbv) ?_
    simp only [natCast_int, Post, All, thenA, canon0, canon064, and_true, true_and, forall_const, implies_true, decide_eq_true_eq, decide_eq_false_iff_not, Bool.not_eq_true', Bool.not_eq_false', Bool.true_and, Bool.and_true, beq_true, beq_false, Int.toNat_natCast, Int.ofNat_lt, Int.ofNat_le, Nat.zero_add, Nat.add_zero, imp_self, Bool.cond_false_right, Bool.cond_true_left, Bool.cond_true_right, IsF, rdF_eq, fOf, AV.f.injEq, exists_eq', free_list, free_fn0, List.not_mem_nil, List.mem_cons, false_imp, forall_eq, or_false, free_i, free_f, free_b, ren_f, ren_i, ren_b, and_self, bne_iff_ne, bne_eq_false_iff_eq, ne_eq, Int.natCast_inj, or_true, true_or, freeB_list, unfr_f, unfr_i, unfr_b, unfr_c, unfr_s, free_c, free_s, ren_c, ren_s, unfr_ro, unfr_rptr, ren_ro, free_ll, free_box, kill_f, kill_i, kill_b, kill_c, kill_s, kill_rof, kill_rot, Int.toNat_zero, isFF_ll, rowN_ll, rowX_ll, AllFree, Option.some.injEq, Prod.mk.injEq, Bool.false_eq_true, Bool.true_eq_false]
    (repeat' first | with_reducible assumption | with_reducible apply And.intro | with_reducible intro hh) <;> first | ((first | with_reducible show (_ : Int) ≤ _ | with_reducible show (_ : Int) < _ | with_reducible show (_ : Nat) ≤ _ | with_reducible show (_ : Nat) < _ | with_reducible show (_ : Int) = _ | with_reducible show (_ : Nat) = _ | with_reducible show ¬ _ | with_reducible show _ ≠ _) <;> first | omega | (simp only [Bool.and_eq_true, Bool.or_eq_false_iff, Bool.not_eq_false', Bool.not_eq_true', decide_eq_true_eq, decide_eq_false_iff_not] at *; omega) | (with_reducible assumption)) | (with_reducible assumption) | skip
    · refine AW.loopH (ι := Nat) (fun c => c ≤ (pieceB (x .u) 10 i).size ∧ ∀ p, p < c → (pieceB (x .u) 10 i).data.toList.getD p 0 ≠ 32) (fun c => (pieceB (x .u) 10 i).size - c) (fun c => mkE Tryd.f40.ntmps [(4, .own 0 (fun _ => 0) (fun _ => cutN (x .u) 10 - 1) 1), (6, .own 1 (fun _ => 0) (fun _ => i) 1), (7, .i .i64 fun _ => chkJ (x .u) i), (8, .i .i64 fun _ => (posN (x .u) i : Int)), (9, .i .i64 fun _ => (i : Int)), (10, .i .i64 fun _ => (c : Int))])
        (fun c => [blkT true (fun _ => cutN (x .u) 10) (pieceB (x .u) 10), blkT true (fun _ => i) (lineB (x .u))]) 0 ⟨Nat.zero_le _, fun p hp => absurd hp (Nat.not_lt_zero _)⟩ (To.pick [0, 1] (by decide) (Nat.zero_le _) (fun j hj => absurd hj (Nat.not_lt_zero _)) ⟨.list (fun e => e) (Nat.le_refl _) fun j hj => AvTo.s rfl, .list (fun e => e) (Nat.le_refl _) fun j hj => AvTo.s rfl, trivial⟩ ?_) ?_
      · (repeat' first | exact AllTo.nil | apply AllTo.cons) <;> first | exact AvTo.dead _ | exact AvTo.s rfl | exact AvTo.i rfl | exact AvTo.own rfl rfl rfl rfl
      · rintro Q2 hQ2 c ⟨hc, hno⟩
        refine AW.exec ttok ctRecS_ok (by cbv) ?_
        simp only [natCast_int, Post, All, thenA, canon0, canon064, and_true, true_and, forall_const, implies_true, decide_eq_true_eq, decide_eq_false_iff_not, Bool.not_eq_true', Bool.not_eq_false', Bool.true_and, Bool.and_true, beq_true, beq_false, Int.toNat_natCast, Int.ofNat_lt, Int.ofNat_le, Nat.zero_add, Nat.add_zero, imp_self, Bool.cond_false_right, Bool.cond_true_left, Bool.cond_true_right, IsF, rdF_eq, fOf, AV.f.injEq, exists_eq', free_list, free_fn0, List.not_mem_nil, List.mem_cons, false_imp, forall_eq, or_false, free_i, free_f, free_b, ren_f, ren_i, ren_b, and_self, bne_iff_ne, bne_eq_false_iff_eq, ne_eq, Int.natCast_inj, or_true, true_or, freeB_list, unfr_f, unfr_i, unfr_b, unfr_c, unfr_s, free_c, free_s, ren_c, ren_s, unfr_ro, unfr_rptr, ren_ro, free_ll, free_box, kill_f, kill_i, kill_b, kill_c, kill_s, kill_rof, kill_rot, Int.toNat_zero, isFF_ll, rowN_ll, rowX_ll, AllFree, Option.some.injEq, Prod.mk.injEq, Bool.false_eq_true, Bool.true_eq_false]
        (repeat' first | with_reducible assumption | with_reducible apply And.intro | with_reducible intro hh) <;> first | ((first | with_reducible show (_ : Int) ≤ _ | with_reducible show (_ : Int) < _ | with_reducible show (_ : Nat) ≤ _ | with_reducible show (_ : Nat) < _ | with_reducible show (_ : Int) = _ | with_reducible show (_ : Nat) = _ | with_reducible show ¬ _ | with_reducible show _ ≠ _) <;> first | omega | (simp only [Bool.and_eq_true, Bool.or_eq_false_iff, Bool.not_eq_false', Bool.not_eq_true', decide_eq_true_eq, decide_eq_false_iff_not] at *; omega) | (with_reducible assumption)) | (with_reducible assumption) | skip
        · have c1 : (decide (c < (pieceB (x .u) 10 i).size) && byteAt (pieceB (x .u) 10 i) c != 32) = true := by assumption
          simp only [Bool.and_eq_true, decide_eq_true_eq, bne_iff_ne, ne_eq] at c1
          refine ⟨c + 1, ⟨c1.1, fun p hp => ?_⟩, by omega, To.pick [0, 1] (by decide) (Nat.zero_le _) (fun j hj => absurd hj (Nat.not_lt_zero _)) ⟨.list (fun e => e) (Nat.le_refl _) fun j hj => AvTo.s rfl, .list (fun e => e) (Nat.le_refl _) fun j hj => AvTo.s rfl, trivial⟩ ?_⟩
          · by_cases e : p = c
            · rw [e]
              exact fun h => c1.2 (by unfold byteAt; rw [h]; rfl)
            · exact hno p (by omega)
          · (repeat' first | exact AllTo.nil | apply AllTo.cons) <;> first | exact AvTo.dead _ | exact AvTo.s rfl | exact AvTo.i rfl | exact AvTo.i (by simp only [natCast_int]; omega) | exact AvTo.own rfl rfl rfl rfl
        · have c1 : (decide (c < (pieceB (x .u) 10 i).size) && byteAt (pieceB (x .u) 10 i) c != 32) = false := by assumption
          have hcase : (c = (pieceB (x .u) 10 i).size ∧ indexByte (pieceB (x .u) 10 i).data.toList 32 = -1) ∨ (c < (pieceB (x .u) 10 i).size ∧ indexByte (pieceB (x .u) 10 i).data.toList 32 = (c : Int)) := by
            have hse := size_eq (pieceB (x .u) 10 i)
            by_cases hl : c < (pieceB (x .u) 10 i).size
            · right
              refine ⟨hl, idx_at hno (by omega) ?_⟩
              simp only [hl, decide_true, Bool.true_and, bne_eq_false_iff_eq] at c1
              exact (byte_eq _ c (by decide) (by decide)).1 c1
            · left
              exact ⟨by omega, idx_no fun p hp => hno p (by omega)⟩
          have hM2 : markOf ⟨⟨[32]⟩⟩ = 32 := rfl
          rcases hcase with ⟨hce, hidx⟩ | ⟨hce, hidx⟩
          · have hceq : ((c : Int) == ((pieceB (x .u) 10 i).size : Int)) = true := by rw [hce]; simp
            have hrec : recN (x .u) = i := recN_eq hi hok (.inr (by rw [okJ, hidx]; rfl))
            obtain ⟨rfl⟩ := hQ2
            refine Post.eval (by cbv) ?_
            simp only [natCast_int, Post, All, thenA, canon0, canon064, and_true, true_and, forall_const, implies_true, decide_eq_true_eq, decide_eq_false_iff_not, Bool.not_eq_true', Bool.not_eq_false', Bool.true_and, Bool.and_true, beq_true, beq_false, Int.toNat_natCast, Int.ofNat_lt, Int.ofNat_le, Nat.zero_add, Nat.add_zero, imp_self, Bool.cond_false_right, Bool.cond_true_left, Bool.cond_true_right, IsF, rdF_eq, fOf, AV.f.injEq, exists_eq', free_list, free_fn0, List.not_mem_nil, List.mem_cons, false_imp, forall_eq, or_false, free_i, free_f, free_b, ren_f, ren_i, ren_b, and_self, bne_iff_ne, bne_eq_false_iff_eq, ne_eq, Int.natCast_inj, or_true, true_or, freeB_list, unfr_f, unfr_i, unfr_b, unfr_c, unfr_s, free_c, free_s, ren_c, ren_s, unfr_ro, unfr_rptr, ren_ro, free_ll, free_box, kill_f, kill_i, kill_b, kill_c, kill_s, kill_rof, kill_rot, Int.toNat_zero, isFF_ll, rowN_ll, rowX_ll, AllFree, Option.some.injEq, Prod.mk.injEq, Bool.false_eq_true, Bool.true_eq_false, hceq, Bool.true_eq_false, false_imp]
            (repeat' first | with_reducible assumption | with_reducible apply And.intro | with_reducible intro hh) <;> first | ((first | with_reducible show (_ : Int) ≤ _ | with_reducible show (_ : Int) < _ | with_reducible show (_ : Nat) ≤ _ | with_reducible show (_ : Nat) < _ | with_reducible show (_ : Int) = _ | with_reducible show (_ : Nat) = _ | with_reducible show ¬ _ | with_reducible show _ ≠ _) <;> first | omega | (simp only [Bool.and_eq_true, Bool.or_eq_false_iff, Bool.not_eq_false', Bool.not_eq_true', decide_eq_true_eq, decide_eq_false_iff_not] at *; omega) | (with_reducible assumption)) | (with_reducible assumption) | skip
            all_goals try omega
            obtain ⟨rfl⟩ := hQ
            refine Post.eval (by cbv) ?_
            simp only [natCast_int, Post, All, thenA, canon0, canon064, and_true, true_and, forall_const, implies_true, decide_eq_true_eq, decide_eq_false_iff_not, Bool.not_eq_true', Bool.not_eq_false', Bool.true_and, Bool.and_true, beq_true, beq_false, Int.toNat_natCast, Int.ofNat_lt, Int.ofNat_le, Nat.zero_add, Nat.add_zero, imp_self, Bool.cond_false_right, Bool.cond_true_left, Bool.cond_true_right, IsF, rdF_eq, fOf, AV.f.injEq, exists_eq', free_list, free_fn0, List.not_mem_nil, List.mem_cons, false_imp, forall_eq, or_false, free_i, free_f, free_b, ren_f, ren_i, ren_b, and_self, bne_iff_ne, bne_eq_false_iff_eq, ne_eq, Int.natCast_inj, or_true, true_or, freeB_list, unfr_f, unfr_i, unfr_b, unfr_c, unfr_s, free_c, free_s, ren_c, ren_s, unfr_ro, unfr_rptr, ren_ro, free_ll, free_box, kill_f, kill_i, kill_b, kill_c, kill_s, kill_rof, kill_rot, Int.toNat_zero, isFF_ll, rowN_ll, rowX_ll, AllFree, Option.some.injEq, Prod.mk.injEq, Bool.false_eq_true, Bool.true_eq_false]
            (repeat' first | with_reducible assumption | with_reducible apply And.intro | with_reducible intro hh) <;> first | ((first | with_reducible show (_ : Int) ≤ _ | with_reducible show (_ : Int) < _ | with_reducible show (_ : Nat) ≤ _ | with_reducible show (_ : Nat) < _ | with_reducible show (_ : Int) = _ | with_reducible show (_ : Nat) = _ | with_reducible show ¬ _ | with_reducible show _ ≠ _) <;> first | omega | (simp only [Bool.and_eq_true, Bool.or_eq_false_iff, Bool.not_eq_false', Bool.not_eq_true', decide_eq_true_eq, decide_eq_false_iff_not] at *; omega) | (with_reducible assumption)) | (with_reducible assumption) | skip
            refine fin_ret (.inl rfl) (by cbv) (by simp) (To.moved (k := 1) rfl (by show recN (x .u) ≤ i; omega) (fun e => e) (fun j hj => AvTo.s rfl) (.cons (.tup (.cons (AvTo.own rfl rfl rfl (by show i = recN (x .u); omega)) (.cons (.i (by show (posN (x .u) i : Int) = (posN (x .u) (recN (x .u)) : Int); rw [hrec])) .nil))) .nil))
          · have hceq : ((c : Int) == ((pieceB (x .u) 10 i).size : Int)) = false := by simp; omega
            have hcn : ((c : Int) + 1).toNat = c + 1 := by omega
            have hidx0 : decide (0 ≤ indexByte (pieceB (x .u) 10 i).data.toList 32) = true := by rw [hidx]; exact decide_eq_true (by omega)
            have hL : (pieceB (x .u) 10 i).extract (c + 1) (pieceB (x .u) 10 i).size = lineB (x .u) i := by
              rw [lineB, cutZ, hM2, hidx0, cond_true, hidx, Int.toNat_natCast]
            have hH : (pieceB (x .u) 10 i).extract 0 c = headB (x .u) i := by
              rw [headB, cutA, hM2, hidx0, cond_true, hidx, Int.toNat_natCast]
            have hLs : (lineB (x .u) i).size ≤ 1073741824 := by
              have := cutZ_le (pieceB (x .u) 10 i) ⟨⟨[32]⟩⟩
              show (cutZ (pieceB (x .u) 10 i) ⟨⟨[32]⟩⟩).size ≤ _
              omega
            have hK : chkN (chkJ (x .u) i) (lineB (x .u) i) (lineB (x .u) i).size = chkJ (x .u) (i + 1) := rfl
            have hin2 := chkJ_in (x .u) (i + 1)
            have hokd : okJ (x .u) i = ((headB (x .u) i).toList == (decB (chkJ (x .u) (i + 1))).toList) := by rw [okJ, hidx0, Bool.true_and]
            have hp2 := (pos_rest (x .u) (i + 1) (by omega)).2
            have hpe : posN (x .u) (i + 1) = posN (x .u) i + (pieceB (x .u) 10 i).size + 1 := rfl
            obtain ⟨rfl⟩ := hQ2
            refine Post.eval (by cbv) ?_
            simp only [natCast_int, Post, All, thenA, canon0, canon064, and_true, true_and, forall_const, implies_true, decide_eq_true_eq, decide_eq_false_iff_not, Bool.not_eq_true', Bool.not_eq_false', Bool.true_and, Bool.and_true, beq_true, beq_false, Int.toNat_natCast, Int.ofNat_lt, Int.ofNat_le, Nat.zero_add, Nat.add_zero, imp_self, Bool.cond_false_right, Bool.cond_true_left, Bool.cond_true_right, IsF, rdF_eq, fOf, AV.f.injEq, exists_eq', free_list, free_fn0, List.not_mem_nil, List.mem_cons, false_imp, forall_eq, or_false, free_i, free_f, free_b, ren_f, ren_i, ren_b, and_self, bne_iff_ne, bne_eq_false_iff_eq, ne_eq, Int.natCast_inj, or_true, true_or, freeB_list, unfr_f, unfr_i, unfr_b, unfr_c, unfr_s, free_c, free_s, ren_c, ren_s, unfr_ro, unfr_rptr, ren_ro, free_ll, free_box, kill_f, kill_i, kill_b, kill_c, kill_s, kill_rof, kill_rot, Int.toNat_zero, isFF_ll, rowN_ll, rowX_ll, AllFree, Option.some.injEq, Prod.mk.injEq, Bool.false_eq_true, Bool.true_eq_false, hceq, hcn, hL, hH, hK, Bool.false_eq_true, false_imp]
            (repeat' first | with_reducible assumption | with_reducible apply And.intro | with_reducible intro hh) <;> first | ((first | with_reducible show (_ : Int) ≤ _ | with_reducible show (_ : Int) < _ | with_reducible show (_ : Nat) ≤ _ | with_reducible show (_ : Nat) < _ | with_reducible show (_ : Int) = _ | with_reducible show (_ : Nat) = _ | with_reducible show ¬ _ | with_reducible show _ ≠ _) <;> first | omega | (simp only [Bool.and_eq_true, Bool.or_eq_false_iff, Bool.not_eq_false', Bool.not_eq_true', decide_eq_true_eq, decide_eq_false_iff_not] at *; omega) | (with_reducible assumption)) | (with_reducible assumption) | skip
            · have hrec : recN (x .u) = i := recN_eq hi hok (.inr (by rw [hokd]; assumption))
              obtain ⟨rfl⟩ := hQ
              refine Post.eval (by cbv) ?_
              simp only [natCast_int, Post, All, thenA, canon0, canon064, and_true, true_and, forall_const, implies_true, decide_eq_true_eq, decide_eq_false_iff_not, Bool.not_eq_true', Bool.not_eq_false', Bool.true_and, Bool.and_true, beq_true, beq_false, Int.toNat_natCast, Int.ofNat_lt, Int.ofNat_le, Nat.zero_add, Nat.add_zero, imp_self, Bool.cond_false_right, Bool.cond_true_left, Bool.cond_true_right, IsF, rdF_eq, fOf, AV.f.injEq, exists_eq', free_list, free_fn0, List.not_mem_nil, List.mem_cons, false_imp, forall_eq, or_false, free_i, free_f, free_b, ren_f, ren_i, ren_b, and_self, bne_iff_ne, bne_eq_false_iff_eq, ne_eq, Int.natCast_inj, or_true, true_or, freeB_list, unfr_f, unfr_i, unfr_b, unfr_c, unfr_s, free_c, free_s, ren_c, ren_s, unfr_ro, unfr_rptr, ren_ro, free_ll, free_box, kill_f, kill_i, kill_b, kill_c, kill_s, kill_rof, kill_rot, Int.toNat_zero, isFF_ll, rowN_ll, rowX_ll, AllFree, Option.some.injEq, Prod.mk.injEq, Bool.false_eq_true, Bool.true_eq_false]
              (repeat' first | with_reducible assumption | with_reducible apply And.intro | with_reducible intro hh) <;> first | ((first | with_reducible show (_ : Int) ≤ _ | with_reducible show (_ : Int) < _ | with_reducible show (_ : Nat) ≤ _ | with_reducible show (_ : Nat) < _ | with_reducible show (_ : Int) = _ | with_reducible show (_ : Nat) = _ | with_reducible show ¬ _ | with_reducible show _ ≠ _) <;> first | omega | (simp only [Bool.and_eq_true, Bool.or_eq_false_iff, Bool.not_eq_false', Bool.not_eq_true', decide_eq_true_eq, decide_eq_false_iff_not] at *; omega) | (with_reducible assumption)) | (with_reducible assumption) | skip
              refine fin_ret (.inl rfl) (by cbv) (by simp) (To.moved (k := 1) rfl (by show recN (x .u) ≤ i; omega) (fun e => e) (fun j hj => AvTo.s rfl) (.cons (.tup (.cons (AvTo.own rfl rfl rfl (by show i = recN (x .u); omega)) (.cons (.i (by show (posN (x .u) i : Int) = (posN (x .u) (recN (x .u)) : Int); rw [hrec])) .nil))) .nil))
            · have hokj : okJ (x .u) i = true := by rw [hokd]; assumption
              refine ⟨i + 1, ⟨by omega, lt_succ_all hok hokj⟩, by omega, To.pick [0, 3] (by decide) (Nat.zero_le _) (fun j hj => absurd hj (Nat.not_lt_zero _)) ⟨.list (fun e => e) (Nat.le_refl _) fun j hj => AvTo.s rfl, .list (fun e => e) (Nat.le_refl _) fun j hj => app_one hj (fun _ => AvTo.s rfl) fun e => AvTo.s (by subst e; rfl), trivial⟩ ?_⟩
              (repeat' first | exact AllTo.nil | apply AllTo.cons) <;> first | exact AvTo.dead _ | exact AvTo.s rfl | exact AvTo.i rfl | exact AvTo.i (by first | omega | (simp only [natCast_int]; omega)) | exact AvTo.own rfl rfl rfl rfl
    · have hrec : recN (x .u) = i := recN_eq hi hok (.inl (by omega))
      obtain ⟨rfl⟩ := hQ
      refine Post.eval (by cbv) ?_
      simp only [natCast_int, Post, All, thenA, canon0, canon064, and_true, true_and, forall_const, implies_true, decide_eq_true_eq, decide_eq_false_iff_not, Bool.not_eq_true', Bool.not_eq_false', Bool.true_and, Bool.and_true, beq_true, beq_false, Int.toNat_natCast, Int.ofNat_lt, Int.ofNat_le, Nat.zero_add, Nat.add_zero, imp_self, Bool.cond_false_right, Bool.cond_true_left, Bool.cond_true_right, IsF, rdF_eq, fOf, AV.f.injEq, exists_eq', free_list, free_fn0, List.not_mem_nil, List.mem_cons, false_imp, forall_eq, or_false, free_i, free_f, free_b, ren_f, ren_i, ren_b, and_self, bne_iff_ne, bne_eq_false_iff_eq, ne_eq, Int.natCast_inj, or_true, true_or, freeB_list, unfr_f, unfr_i, unfr_b, unfr_c, unfr_s, free_c, free_s, ren_c, ren_s, unfr_ro, unfr_rptr, ren_ro, free_ll, free_box, kill_f, kill_i, kill_b, kill_c, kill_s, kill_rof, kill_rot, Int.toNat_zero, isFF_ll, rowN_ll, rowX_ll, AllFree, Option.some.injEq, Prod.mk.injEq, Bool.false_eq_true, Bool.true_eq_false]
      (repeat' first | with_reducible assumption | with_reducible apply And.intro | with_reducible intro hh) <;> first | ((first | with_reducible show (_ : Int) ≤ _ | with_reducible show (_ : Int) < _ | with_reducible show (_ : Nat) ≤ _ | with_reducible show (_ : Nat) < _ | with_reducible show (_ : Int) = _ | with_reducible show (_ : Nat) = _ | with_reducible show ¬ _ | with_reducible show _ ≠ _) <;> first | omega | (simp only [Bool.and_eq_true, Bool.or_eq_false_iff, Bool.not_eq_false', Bool.not_eq_true', decide_eq_true_eq, decide_eq_false_iff_not] at *; omega) | (with_reducible assumption)) | (with_reducible assumption) | skip
      refine fin_ret (.inl rfl) (by cbv) (by simp) (To.moved (k := 1) rfl (by show recN (x .u) ≤ i; omega) (fun e => e) (fun j hj => AvTo.s rfl) (.cons (.tup (.cons (AvTo.own rfl rfl rfl (by show i = recN (x .u); omega)) (.cons (.i (by show (posN (x .u) i : Int) = (posN (x .u) (recN (x .u)) : Int); rw [hrec])) .nil))) .nil))
noncomputable def ctSpecRec : CT := [(40, .g 0 kRecS)]
theorem ctSpecRec_ok : CTok Tryd.prog ctSpecRec := .cons specRecS (.nil _)
theorem specRec : Tells Tryd.prog 16 (.g 0 kRec) := by
  intro args Hc r hr
  unfold kRec at hr
  split at hr <;> cases hr
  rename_i x
  refine AnsOk.two ttok Tryd.func16 rfl rfl (Nat.zero_le _) (Nat.zero_le _) (allFr_tup3 .own .i .b) (allFr_tup3 .v .i .b) frH_T .nil fun hF => ⟨[.s x], ⟨Sub.refl _, trivial⟩, ?_⟩
  have hx : (x .u).size ≤ 1073741824 := hF
  refine AW.exec ttok ctSpecRec_ok (by cbv) ?_
  simp only [natCast_int, Post, All, thenA, canon0, canon064, and_true, true_and, forall_const, implies_true, decide_eq_true_eq, decide_eq_false_iff_not, Bool.not_eq_true', Bool.not_eq_false', Bool.true_and, Bool.and_true, beq_true, beq_false, Int.toNat_natCast, Int.ofNat_lt, Int.ofNat_le, Nat.zero_add, Nat.add_zero, imp_self, Bool.cond_false_right, Bool.cond_true_left, Bool.cond_true_right, IsF, rdF_eq, fOf, AV.f.injEq, exists_eq', free_list, free_fn0, List.not_mem_nil, List.mem_cons, false_imp, forall_eq, or_false, free_i, free_f, free_b, ren_f, ren_i, ren_b, and_self, bne_iff_ne, bne_eq_false_iff_eq, ne_eq, Int.natCast_inj, or_true, true_or, freeB_list, unfr_f, unfr_i, unfr_b, unfr_c, unfr_s, free_c, free_s, ren_c, ren_s, unfr_ro, unfr_rptr, ren_ro, free_ll, free_box, kill_f, kill_i, kill_b, kill_c, kill_s, kill_rof, kill_rot, Int.toNat_zero, isFF_ll, rowN_ll, rowX_ll, AllFree, Option.some.injEq, Prod.mk.injEq, Bool.false_eq_true, Bool.true_eq_false, hx]
  (repeat' first | with_reducible assumption | with_reducible apply And.intro | with_reducible intro hh) <;> first | ((first | with_reducible show (_ : Int) ≤ _ | with_reducible show (_ : Int) < _ | with_reducible show (_ : Nat) ≤ _ | with_reducible show (_ : Nat) < _ | with_reducible show (_ : Int) = _ | with_reducible show (_ : Nat) = _ | with_reducible show ¬ _ | with_reducible show _ ≠ _) <;> first | omega | (simp only [Bool.and_eq_true, Bool.or_eq_false_iff, Bool.not_eq_false', Bool.not_eq_true', decide_eq_true_eq, decide_eq_false_iff_not] at *; omega) | (with_reducible assumption)) | (with_reducible assumption) | skip
  · exact okA.no (decide_eq_false (by omega)) (fin_ret (.inl rfl) (by cbv) (by simp) (To.fresh (.cons (.tup (.cons (.v _) (.cons (.i rfl) (.cons (.b rfl) .nil)))) .nil)))
  · exact okA.yes (decide_eq_true (by omega)) (fin_ret (.inl rfl) (by cbv) (by simp) (To.list (Nat.zero_le _) (Nat.le_refl _) (fun e => e) (fun i hi => AvTo.s rfl) (.cons (.tup (.cons (AvTo.own rfl rfl rfl rfl) (.cons (.i rfl) (.cons (.b rfl) .nil)))) .nil)))
end Go.Proofs.YtjlkflceicdcdaaDoor
