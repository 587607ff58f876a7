/- Stitched lists, spread lists, sharpened lists, walked. -/
import Derived.Test.YtfdmmbcjidkmoaaPb
import Derived.Test.YtfdmmbcjidkmoaaAwq
set_option linter.unusedSimpArgs false
set_option linter.unusedVariables false
namespace Go.Proofs.Ytfdmmbcjidkmoaa
open Go.Aw
/-! Stitched lists. -/
def stQ (n : Nat) (x y : Nat → Nat) (v : Nat) : Nat := fdiv .f32 (sumN (fun j => x (n - v + j)) v) (sumN y v)
def stX (n : Nat) (x y : Nat → Nat) (v q i : Nat) : Nat := bif decide (i < n - v) then x i else bif decide (i < n) then fmul .f32 1056964608 (fadd .f32 (x i) (fmul .f32 (y (i - (n - v))) q)) else fmul .f32 (y (i - (n - v))) q
def stP (n : Nat) (x y : Nat → Nat) (v q k i : Nat) : Nat := bif decide (i < n - v + k) then stX n x y v q i else x i
theorem stP_zero (n : Nat) (x y : Nat → Nat) (v q i : Nat) : stP n x y v q 0 i = x i := by
  unfold stP stX
  by_cases h : i < n - v
  · rw [decide_eq_true (show i < n - v + 0 from h), decide_eq_true h]; rfl
  · rw [decide_eq_false (show ¬ i < n - v + 0 from h)]; rfl
theorem stP_succ {n : Nat} {x y : Nat → Nat} {v q k i : Nat} (h : i ≠ n - v + k) : stP n x y v q (k + 1) i = stP n x y v q k i := by
  unfold stP
  rw [show decide (i < n - v + (k + 1)) = decide (i < n - v + k) from decide_eq_decide.2 (by omega)]
theorem stP_at {n : Nat} {x y : Nat → Nat} {v q k i : Nat} (h : i = n - v + k) : stP n x y v q (k + 1) i = bif decide (k < v ∧ v ≤ n) then fmul .f32 1056964608 (fadd .f32 (x i) (fmul .f32 (y k) q)) else stX n x y v q i := by
  unfold stP stX
  subst h
  rw [decide_eq_true (show n - v + k < n - v + (k + 1) by omega), decide_eq_false (show ¬ n - v + k < n - v by omega), show n - v + k - (n - v) = k by omega]
  by_cases hk : k < v ∧ v ≤ n
  · rw [decide_eq_true hk, decide_eq_true (show n - v + k < n by omega)]; rfl
  · rw [decide_eq_false hk]; rfl
def kStitch : Kg
  | [a, b, .i .i64 v], [] => match asLg a, asLg b with
    | some (n, g), some (m, h) => some (.one (.tup [.own 0 (fun _ => 0) (fun _ => n .u + m .u - (v .u).toNat) 1, .b fun _ => true]) [blkF true (fun _ => n .u + m .u - (v .u).toNat) (stX (n .u) (rdF g) (rdF h) (v .u).toNat (stQ (n .u) (rdF g) (rdF h) (v .u).toNat))] fun _ => IsF n g ∧ IsF m h ∧ binsN 1 (n .u) (rdF g) = true ∧ binsN 1 (m .u) (rdF h) = true ∧ 1 ≤ v .u ∧ v .u ≤ (n .u : Int) ∧ v .u ≤ (m .u : Int) ∧ (n .u : Int) + (m .u : Int) - v .u ≤ 64 ∧
        isFin (stQ (n .u) (rdF g) (rdF h) (v .u).toNat) = true ∧ finN (n .u + m .u - (v .u).toNat) (stX (n .u) (rdF g) (rdF h) (v .u).toNat (stQ (n .u) (rdF g) (rdF h) (v .u).toNat)) = true)
    | _, _ => none
  | _, _ => none
def ctStitch : CT := [(98, .r kIsBins), (87, .r kSum), (76, .r kClone), (78, .r kFin), (69, .g 1 kGive)]
theorem ctStitch_ok : CTok Try.prog ctStitch := .cons isBins_tells (.cons sum_tells (.cons clone_tells (.cons IsFinite_tells (.cons checked_g (.nil _)))))
def lenS (n v k : Nat) : Nat := if k ≤ v then n else n - v + k
set_option maxHeartbeats 4000000 in
theorem stitch_g : Tells Try.prog 40 (.g 0 kStitch) := by
  intro args Hc r hr
  unfold kStitch at hr
  split at hr <;> first | (cases hr; done) | skip
  split at hr <;> cases hr
  rename_i v _ _ n g m h hL hL'
  refine AnsOk.one ttok Try.func40 rfl rfl (Nat.zero_le _) (allFr_tup2 .own .b) .list fun ⟨hF, hF', h1, h2, h3, h4, h5, h6, h7, h8⟩ => ⟨[listF false n (rdF g), listF false m (rdF h), .i .i64 v], ⟨.asLg hL hF, .asLg hL' hF', Sub.refl _, trivial⟩, ?_⟩
  have hn := hF.1
  have hm := hF'.1
  generalize rdF g = x at *
  generalize rdF h = y at *
  have hn64 : 1 ≤ n .u ∧ n .u ≤ 64 := by
    unfold binsN at h1
    simp only [Bool.and_eq_true, decide_eq_true_eq] at h1
    omega
  have hm64 : 1 ≤ m .u ∧ m .u ≤ 64 := by
    unfold binsN at h2
    simp only [Bool.and_eq_true, decide_eq_true_eq] at h2
    omega
  obtain ⟨V, hV⟩ := Int.eq_ofNat_of_zero_le (show 0 ≤ v .u by omega)
  have hVn : (v .u).toNat = V := by omega
  rw [hVn] at h7 h8 ⊢
  have a1 : (v .u < 1) ↔ False := iff_false_intro (by omega)
  have a2 : ((n .u : Int) < v .u) ↔ False := iff_false_intro (by omega)
  have a3 : ((m .u : Int) < v .u) ↔ False := iff_false_intro (by omega)
  have a4 : (64 < (n .u : Int) + (m .u : Int) - v .u) ↔ False := iff_false_intro (by omega)
  have n1 : n .u ≤ 1048576 := by omega
  have n0 : 0 < n .u := by omega
  have b1 : ((n .u : Int) - ((n .u : Int) - v .u)).toNat = V := by omega
  have b2 : ((n .u : Int) - v .u).toNat = n .u - V := by omega
  refine AW.exec ttok ctStitch_ok (by cbv) ?_
  simp only [natCast_int, Post, All, thenA, canon0, canon064, and_true, true_and, forall_const, implies_true, decide_eq_true_eq, decide_eq_false_iff_not, Bool.not_eq_true', Bool.not_eq_false', Bool.true_and, Bool.and_true, beq_true, beq_false, Int.toNat_natCast, Int.ofNat_lt, Int.ofNat_le, Nat.zero_add, Nat.add_zero, imp_self, Bool.cond_false_right, Bool.cond_true_left, Bool.cond_true_right, IsF, rdF_eq, fOf, AV.f.injEq, exists_eq', free_list, free_fn0, List.not_mem_nil, List.mem_cons, false_imp, forall_eq, or_false, free_i, free_f, free_b, ren_f, ren_i, ren_b, and_self, bne_iff_ne, bne_eq_false_iff_eq, ne_eq, Int.natCast_inj, or_true, true_or, freeB_list, unfr_f, unfr_i, unfr_b, unfr_c, unfr_s, free_c, free_s, ren_c, ren_s, unfr_ro, unfr_rptr, ren_ro, free_ll, free_box, kill_f, kill_i, kill_b, kill_c, kill_s, kill_rof, kill_rot, Int.toNat_zero, isFF_ll, rowN_ll, rowX_ll, AllFree, Option.some.injEq, Prod.mk.injEq, Bool.false_eq_true, Bool.true_eq_false, eqL_self, heldL_mark, heldL_zero, one_neg, Nat.zero_le, Nat.not_lt_zero, one_add_len, one_le_tb, zero_le_one', not_false_eq_true, true_imp_iff, bne_self_eq_false, Bool.or_false, Bool.false_or, Bool.not_true, Bool.not_false, Bool.true_eq_false, Bool.false_eq_true, false_imp, Nat.le_refl, decide_true, decide_false, not_true_eq_false, Int.lt_irrefl, hn, hm, h1, h2, a1, a2, a3, a4, n1, n0, b1, b2, hVn, Int.sub_zero]
  (repeat' first | with_reducible assumption | with_reducible apply And.intro | with_reducible intro hh) <;> first | ((first | with_reducible show (_ : Int) ≤ _ | with_reducible show (_ : Int) < _ | with_reducible show (_ : Nat) ≤ _ | with_reducible show (_ : Nat) < _ | with_reducible show (_ : Int) = _ | with_reducible show (_ : Nat) = _ | with_reducible show ¬ _ | with_reducible show _ ≠ _) <;> first | omega | (simp only [Bool.and_eq_true, Bool.or_eq_false_iff, Bool.not_eq_false', Bool.not_eq_true', decide_eq_true_eq, decide_eq_false_iff_not] at *; omega) | (with_reducible assumption)) | (with_reducible assumption) | skip
  refine AW.loopH (ι := Nat) (fun k => k ≤ m .u) (fun k => m .u - k) (fun k => mkE Try.f40.ntmps [(0, listF false n x), (2, .i .i64 v), (8, .i .i64 fun _ => (n .u : Int) - v .u), (9, .f .f32 fun _ => stQ (n .u) x y V), (10, .own 0 (fun _ => 0) (fun _ => lenS (n .u) V k) 1), (63, listF false m y), (64, .i .i64 fun _ => (m .u : Int)), (65, .i .i64 fun _ => (k : Int))])
    (fun k => [blkF true (fun _ => lenS (n .u) V k) (stP (n .u) x y V (stQ (n .u) x y V) k)]) 0 (Nat.zero_le _) ?_ ?_
  · have e0 : lenS (n .u) V 0 = n .u := by unfold lenS; rw [if_pos (Nat.zero_le _)]
    refine To.list (Nat.zero_le _) (Nat.le_of_eq e0) (fun e => e) (fun j hj => AvTo.f (stP_zero _ _ _ _ _ _).symm) ?_
    (repeat' first | exact AllTo.nil | apply AllTo.cons) <;> first | exact AvTo.dead _ | exact AvTo.i rfl | exact AvTo.f rfl | exact AvTo.own rfl rfl rfl e0.symm | exact Free.same .listF | trace_state
  rintro Q' hQ k hk
  generalize hq : stQ (n .u) x y V = q at *
  rcases Nat.lt_or_eq_of_le hk with hlt | rfl
  · have l1 : (k : Int) < (m .u : Int) := by omega
    by_cases hkv : k < V
    · have c1 : ((k : Int) < v .u) ↔ True := iff_true_intro (by omega)
      have c2 : ((n .u : Int) - v .u + (k : Int)).toNat = n .u - V + k := by omega
      have c3 : lenS (n .u) V k = n .u := by unfold lenS; rw [if_pos (by omega)]
      have c4 : lenS (n .u) V (k + 1) = n .u := by unfold lenS; rw [if_pos (by omega)]
      refine AW.exec ttok ctStitch_ok (by cbv) ?_
      simp only [natCast_int, Post, All, thenA, canon0, canon064, and_true, true_and, forall_const, implies_true, decide_eq_true_eq, decide_eq_false_iff_not, Bool.not_eq_true', Bool.not_eq_false', Bool.true_and, Bool.and_true, beq_true, beq_false, Int.toNat_natCast, Int.ofNat_lt, Int.ofNat_le, Nat.zero_add, Nat.add_zero, imp_self, Bool.cond_false_right, Bool.cond_true_left, Bool.cond_true_right, IsF, rdF_eq, fOf, AV.f.injEq, exists_eq', free_list, free_fn0, List.not_mem_nil, List.mem_cons, false_imp, forall_eq, or_false, free_i, free_f, free_b, ren_f, ren_i, ren_b, and_self, bne_iff_ne, bne_eq_false_iff_eq, ne_eq, Int.natCast_inj, or_true, true_or, freeB_list, unfr_f, unfr_i, unfr_b, unfr_c, unfr_s, free_c, free_s, ren_c, ren_s, unfr_ro, unfr_rptr, ren_ro, free_ll, free_box, kill_f, kill_i, kill_b, kill_c, kill_s, kill_rof, kill_rot, Int.toNat_zero, isFF_ll, rowN_ll, rowX_ll, AllFree, Option.some.injEq, Prod.mk.injEq, Bool.false_eq_true, Bool.true_eq_false, eqL_self, heldL_mark, heldL_zero, one_neg, Nat.zero_le, Nat.not_lt_zero, one_add_len, one_le_tb, zero_le_one', not_false_eq_true, true_imp_iff, bne_self_eq_false, Bool.or_false, Bool.false_or, Bool.not_true, Bool.not_false, Bool.true_eq_false, Bool.false_eq_true, false_imp, Nat.le_refl, decide_true, decide_false, not_true_eq_false, Int.lt_irrefl, hn, hm, l1, hlt, c1, c2, c3, cnhP]
      (repeat' first | with_reducible assumption | with_reducible apply And.intro | with_reducible intro hh) <;> first | ((first | with_reducible show (_ : Int) ≤ _ | with_reducible show (_ : Int) < _ | with_reducible show (_ : Nat) ≤ _ | with_reducible show (_ : Nat) < _ | with_reducible show (_ : Int) = _ | with_reducible show (_ : Nat) = _ | with_reducible show ¬ _ | with_reducible show _ ≠ _) <;> first | omega | (simp only [Bool.and_eq_true, Bool.or_eq_false_iff, Bool.not_eq_false', Bool.not_eq_true', decide_eq_true_eq, decide_eq_false_iff_not] at *; omega) | (with_reducible assumption)) | (with_reducible assumption) | skip
      refine ⟨k + 1, by omega, by omega, ?_⟩
      rw [c4]
      refine To.list (Nat.zero_le _) (Nat.le_refl _) (fun e => e) (fun j hj => put_one (fun e => AvTo.f ?_) (fun e => AvTo.f ?_)) ?_
      · rw [stP_at (show j = n .u - V + k from e), decide_eq_true (show k < V ∧ V ≤ n .u by omega), show j = n .u - V + k from e]; rfl
      · rw [stP_succ e]
      · (repeat' first | exact AllTo.nil | apply AllTo.cons) <;> first | exact AvTo.dead _ | exact AvTo.i rfl | exact AvTo.f rfl | exact AvTo.own rfl rfl rfl rfl | exact Free.same .listF | trace_state
    · have c1 : ((k : Int) < v .u) ↔ False := iff_false_intro (by omega)
      have c3 : lenS (n .u) V k = n .u - V + k := by unfold lenS; split <;> omega
      have c4 : lenS (n .u) V (k + 1) = n .u - V + k + 1 := by unfold lenS; split <;> omega
      refine AW.exec ttok ctStitch_ok (by cbv) ?_
      simp only [natCast_int, Post, All, thenA, canon0, canon064, and_true, true_and, forall_const, implies_true, decide_eq_true_eq, decide_eq_false_iff_not, Bool.not_eq_true', Bool.not_eq_false', Bool.true_and, Bool.and_true, beq_true, beq_false, Int.toNat_natCast, Int.ofNat_lt, Int.ofNat_le, Nat.zero_add, Nat.add_zero, imp_self, Bool.cond_false_right, Bool.cond_true_left, Bool.cond_true_right, IsF, rdF_eq, fOf, AV.f.injEq, exists_eq', free_list, free_fn0, List.not_mem_nil, List.mem_cons, false_imp, forall_eq, or_false, free_i, free_f, free_b, ren_f, ren_i, ren_b, and_self, bne_iff_ne, bne_eq_false_iff_eq, ne_eq, Int.natCast_inj, or_true, true_or, freeB_list, unfr_f, unfr_i, unfr_b, unfr_c, unfr_s, free_c, free_s, ren_c, ren_s, unfr_ro, unfr_rptr, ren_ro, free_ll, free_box, kill_f, kill_i, kill_b, kill_c, kill_s, kill_rof, kill_rot, Int.toNat_zero, isFF_ll, rowN_ll, rowX_ll, AllFree, Option.some.injEq, Prod.mk.injEq, Bool.false_eq_true, Bool.true_eq_false, eqL_self, heldL_mark, heldL_zero, one_neg, Nat.zero_le, Nat.not_lt_zero, one_add_len, one_le_tb, zero_le_one', not_false_eq_true, true_imp_iff, bne_self_eq_false, Bool.or_false, Bool.false_or, Bool.not_true, Bool.not_false, Bool.true_eq_false, Bool.false_eq_true, false_imp, Nat.le_refl, decide_true, decide_false, not_true_eq_false, Int.lt_irrefl, hn, hm, l1, hlt, c1, c3]
      (repeat' first | with_reducible assumption | with_reducible apply And.intro | with_reducible intro hh) <;> first | ((first | with_reducible show (_ : Int) ≤ _ | with_reducible show (_ : Int) < _ | with_reducible show (_ : Nat) ≤ _ | with_reducible show (_ : Nat) < _ | with_reducible show (_ : Int) = _ | with_reducible show (_ : Nat) = _ | with_reducible show ¬ _ | with_reducible show _ ≠ _) <;> first | omega | (simp only [Bool.and_eq_true, Bool.or_eq_false_iff, Bool.not_eq_false', Bool.not_eq_true', decide_eq_true_eq, decide_eq_false_iff_not] at *; omega) | (with_reducible assumption)) | (with_reducible assumption) | skip
      refine ⟨k + 1, by omega, by omega, ?_⟩
      rw [c4]
      refine To.moved (k := 2) rfl (Nat.le_refl _) (fun e => e) (fun j hj => app_one hj (fun h => AvTo.f ?_) fun e => AvTo.f ?_) ?_
      · rw [stP_succ (show j ≠ n .u - V + k by omega)]
      · rw [stP_at e, decide_eq_false (show ¬ (k < V ∧ V ≤ n .u) by omega)]
        show _ = stX (n .u) x y V q j
        unfold stX
        rw [decide_eq_false (show ¬ j < n .u - V by omega), decide_eq_false (show ¬ j < n .u by omega), show j - (n .u - V) = k by omega]
        rfl
      · (repeat' first | exact AllTo.nil | apply AllTo.cons) <;> first | exact AvTo.dead _ | exact AvTo.i rfl | exact AvTo.f rfl | exact AvTo.own rfl rfl rfl rfl | exact Free.same .listF | trace_state
  · refine AW.seq (AW.exec ttok (CTok.nil _) (by cbv) ?_)
    simp only [natCast_int, Post, All, thenA, canon0, canon064, and_true, true_and, forall_const, implies_true, decide_eq_true_eq, decide_eq_false_iff_not, Bool.not_eq_true', Bool.not_eq_false', Bool.true_and, Bool.and_true, beq_true, beq_false, Int.toNat_natCast, Int.ofNat_lt, Int.ofNat_le, Nat.zero_add, Nat.add_zero, imp_self, Bool.cond_false_right, Bool.cond_true_left, Bool.cond_true_right, IsF, rdF_eq, fOf, AV.f.injEq, exists_eq', free_list, free_fn0, List.not_mem_nil, List.mem_cons, false_imp, forall_eq, or_false, free_i, free_f, free_b, ren_f, ren_i, ren_b, and_self, bne_iff_ne, bne_eq_false_iff_eq, ne_eq, Int.natCast_inj, or_true, true_or, freeB_list, unfr_f, unfr_i, unfr_b, unfr_c, unfr_s, free_c, free_s, ren_c, ren_s, unfr_ro, unfr_rptr, ren_ro, free_ll, free_box, kill_f, kill_i, kill_b, kill_c, kill_s, kill_rof, kill_rot, Int.toNat_zero, isFF_ll, rowN_ll, rowX_ll, AllFree, Option.some.injEq, Prod.mk.injEq, Bool.false_eq_true, Bool.true_eq_false]
    refine AW.seq (AW.cond rfl (fun h => absurd (of_decide_eq_true h) (Nat.lt_irrefl _)) fun _ => AW.exit ?_)
    simp only [thenA]
    obtain ⟨rfl⟩ := hQ
    refine Post.eval (by cbv) ?_
    have hL : lenS (n .u) V (m .u) = n .u + m .u - V := by unfold lenS; split <;> omega
    have hc : ∀ j, j < n .u + m .u - V → stP (n .u) x y V q (m .u) j = stX (n .u) x y V q j := fun j hj => by
      unfold stP
      rw [decide_eq_true (show j < n .u - V + m .u by omega)]
      rfl
    have hfin' : finN (n .u + m .u - V) (fun j => stP (n .u) x y V q (m .u) j) = true := by rw [finN_congr hc]; exact h8
    have hl64 : n .u + m .u - V ≤ 9223372036854775807 := by omega
    simp only [natCast_int, Post, All, thenA, canon0, canon064, and_true, true_and, forall_const, implies_true, decide_eq_true_eq, decide_eq_false_iff_not, Bool.not_eq_true', Bool.not_eq_false', Bool.true_and, Bool.and_true, beq_true, beq_false, Int.toNat_natCast, Int.ofNat_lt, Int.ofNat_le, Nat.zero_add, Nat.add_zero, imp_self, Bool.cond_false_right, Bool.cond_true_left, Bool.cond_true_right, IsF, rdF_eq, fOf, AV.f.injEq, exists_eq', free_list, free_fn0, List.not_mem_nil, List.mem_cons, false_imp, forall_eq, or_false, free_i, free_f, free_b, ren_f, ren_i, ren_b, and_self, bne_iff_ne, bne_eq_false_iff_eq, ne_eq, Int.natCast_inj, or_true, true_or, freeB_list, unfr_f, unfr_i, unfr_b, unfr_c, unfr_s, free_c, free_s, ren_c, ren_s, unfr_ro, unfr_rptr, ren_ro, free_ll, free_box, kill_f, kill_i, kill_b, kill_c, kill_s, kill_rof, kill_rot, Int.toNat_zero, isFF_ll, rowN_ll, rowX_ll, AllFree, Option.some.injEq, Prod.mk.injEq, Bool.false_eq_true, Bool.true_eq_false, eqL_self, heldL_mark, heldL_zero, one_neg, Nat.zero_le, Nat.not_lt_zero, one_add_len, one_le_tb, zero_le_one', not_false_eq_true, true_imp_iff, bne_self_eq_false, Bool.or_false, Bool.false_or, Bool.not_true, Bool.not_false, Bool.true_eq_false, Bool.false_eq_true, false_imp, Nat.le_refl, decide_true, decide_false, not_true_eq_false, Int.lt_irrefl, hn, hL, hfin', h7, hl64]
    (repeat' first | with_reducible assumption | with_reducible apply And.intro | with_reducible intro hh) <;> first | ((first | with_reducible show (_ : Int) ≤ _ | with_reducible show (_ : Int) < _ | with_reducible show (_ : Nat) ≤ _ | with_reducible show (_ : Nat) < _ | with_reducible show (_ : Int) = _ | with_reducible show (_ : Nat) = _ | with_reducible show ¬ _ | with_reducible show _ ≠ _) <;> first | omega | (simp only [Bool.and_eq_true, Bool.or_eq_false_iff, Bool.not_eq_false', Bool.not_eq_true', decide_eq_true_eq, decide_eq_false_iff_not] at *; omega) | (with_reducible assumption)) | (with_reducible assumption) | skip
    refine fin_ret (.inl rfl) (by cbv) (by simp) (To.list (Nat.zero_le _) (Nat.le_refl _) (fun e => e) (fun j hj => AvTo.f (hc j hj)) (.cons (.tup (.cons (.own rfl rfl rfl rfl) (.cons (.b rfl) .nil))) .nil))
/-! Spread lists. -/
def clI (n : Nat) (z : Int) : Int := if (n : Int) - 1 < (if z < 0 then 0 else z) then (n : Int) - 1 else if z < 0 then 0 else z
theorem clI_in {n : Nat} (hn : 1 ≤ n) (z : Int) : 0 ≤ clI n z ∧ clI n z < (n : Int) := by
  unfold clI
  split <;> split at * <;> omega
def accS (n : Nat) (x w : Nat → Nat) (m i : Nat) : Nat → Nat
  | 0 => 0
  | k + 1 => fadd .f32 (accS n x w m i k) (fmul .f32 (w k) (x (clI n ((i : Int) + (k : Int) - ((m / 2 : Nat) : Int))).toNat))
def sprX (n : Nat) (x : Nat → Nat) (m : Nat) (w : Nat → Nat) (i : Nat) : Nat := fdiv .f32 (accS n x w m i m) (sumN w m)
def kSpread : Kg
  | [a, b], [] => match asLg a, asLg b with
    | some (n, g), some (m, h) => some (.one (.own 0 (fun _ => 0) n 1) [blkF true n (sprX (n .u) (rdF g) (m .u) (rdF h))] fun _ => IsF n g ∧ IsF m h ∧ 1 ≤ n .u ∧ n .u ≤ 64 ∧ m .u ≤ 5)
    | _, _ => none
  | _, _ => none
def ctSpread : CT := [(87, .r kSum)]
theorem ctSpread_ok : CTok Try.prog ctSpread := .cons sum_tells (.nil _)
set_option maxHeartbeats 4000000 in
theorem spread_g : Tells Try.prog 100 (.g 0 kSpread) := by
  intro args Hc r hr
  unfold kSpread at hr
  split at hr <;> first | (cases hr; done) | skip
  split at hr <;> cases hr
  rename_i _ _ n g m h hL hL'
  refine AnsOk.one ttok Try.func100 rfl rfl (Nat.zero_le _) .own .list fun ⟨hF, hF', h1, h2, h3⟩ => ⟨[listF false n (rdF g), listF false m (rdF h)], ⟨.asLg hL hF, .asLg hL' hF', trivial⟩, ?_⟩
  have hn := hF.1
  have hm := hF'.1
  generalize rdF g = x at *
  generalize rdF h = w at *
  have hd : ((m .u : Int)).tdiv 2 = ((m .u / 2 : Nat) : Int) := rfl
  refine AW.exec ttok ctSpread_ok (by cbv) ?_
  simp only [natCast_int, Post, All, thenA, canon0, canon064, and_true, true_and, forall_const, implies_true, decide_eq_true_eq, decide_eq_false_iff_not, Bool.not_eq_true', Bool.not_eq_false', Bool.true_and, Bool.and_true, beq_true, beq_false, Int.toNat_natCast, Int.ofNat_lt, Int.ofNat_le, Nat.zero_add, Nat.add_zero, imp_self, Bool.cond_false_right, Bool.cond_true_left, Bool.cond_true_right, IsF, rdF_eq, fOf, AV.f.injEq, exists_eq', free_list, free_fn0, List.not_mem_nil, List.mem_cons, false_imp, forall_eq, or_false, free_i, free_f, free_b, ren_f, ren_i, ren_b, and_self, bne_iff_ne, bne_eq_false_iff_eq, ne_eq, Int.natCast_inj, or_true, true_or, freeB_list, unfr_f, unfr_i, unfr_b, unfr_c, unfr_s, free_c, free_s, ren_c, ren_s, unfr_ro, unfr_rptr, ren_ro, free_ll, free_box, kill_f, kill_i, kill_b, kill_c, kill_s, kill_rof, kill_rot, Int.toNat_zero, isFF_ll, rowN_ll, rowX_ll, AllFree, Option.some.injEq, Prod.mk.injEq, Bool.false_eq_true, Bool.true_eq_false, eqL_self, heldL_mark, heldL_zero, one_neg, Nat.zero_le, Nat.not_lt_zero, one_add_len, one_le_tb, zero_le_one', not_false_eq_true, true_imp_iff, bne_self_eq_false, Bool.or_false, Bool.false_or, Bool.not_true, Bool.not_false, Bool.true_eq_false, Bool.false_eq_true, false_imp, Nat.le_refl, decide_true, decide_false, not_true_eq_false, Int.lt_irrefl, hn, hm, hd]
  (repeat' first | with_reducible assumption | with_reducible apply And.intro | with_reducible intro hh) <;> first | ((first | with_reducible show (_ : Int) ≤ _ | with_reducible show (_ : Int) < _ | with_reducible show (_ : Nat) ≤ _ | with_reducible show (_ : Nat) < _ | with_reducible show (_ : Int) = _ | with_reducible show (_ : Nat) = _ | with_reducible show ¬ _ | with_reducible show _ ≠ _) <;> first | omega | (simp only [Bool.and_eq_true, Bool.or_eq_false_iff, Bool.not_eq_false', Bool.not_eq_true', decide_eq_true_eq, decide_eq_false_iff_not] at *; omega) | (with_reducible assumption)) | (with_reducible assumption) | skip
  refine AW.loopH (ι := Nat) (fun i => i ≤ n .u) (fun i => n .u - i) (fun i => mkE Try.f100.ntmps [(0, listF false n x), (1, listF false m w), (5, .i .i64 fun _ => ((m .u / 2 : Nat) : Int)), (6, .f .f32 fun _ => sumN w (m .u)), (7, .own 0 (fun _ => 0) (fun _ => i) 1), (20, .i .i64 fun _ => (n .u : Int)), (21, .i .i64 fun _ => (i : Int))])
    (fun i => [blkF true (fun _ => i) (sprX (n .u) x (m .u) w)]) 0 (Nat.zero_le _) ?_ ?_
  · refine To.list (Nat.zero_le _) (Nat.le_refl _) (fun e => e) (fun j hj => absurd hj (Nat.not_lt_zero _)) ?_
    (repeat' first | exact AllTo.nil | apply AllTo.cons) <;> first | exact AvTo.dead _ | exact AvTo.i rfl | exact AvTo.i (by first | omega | (simp only [natCast_int]; omega)) | exact AvTo.f rfl | exact AvTo.b rfl | exact AvTo.v _ | exact AvTo.own rfl rfl rfl rfl | exact AvTo.own rfl rfl (by first | rfl | omega) (by first | rfl | omega) | exact Free.same .listF | exact Free.same (.fn (by simp) (by simp)) | skip
  rintro Q' hQ i hi
  rcases Nat.lt_or_eq_of_le hi with hlt | rfl
  · refine AW.exec ttok ctSpread_ok (by cbv) ?_
    simp only [natCast_int, Post, All, thenA, canon0, canon064, and_true, true_and, forall_const, implies_true, decide_eq_true_eq, decide_eq_false_iff_not, Bool.not_eq_true', Bool.not_eq_false', Bool.true_and, Bool.and_true, beq_true, beq_false, Int.toNat_natCast, Int.ofNat_lt, Int.ofNat_le, Nat.zero_add, Nat.add_zero, imp_self, Bool.cond_false_right, Bool.cond_true_left, Bool.cond_true_right, IsF, rdF_eq, fOf, AV.f.injEq, exists_eq', free_list, free_fn0, List.not_mem_nil, List.mem_cons, false_imp, forall_eq, or_false, free_i, free_f, free_b, ren_f, ren_i, ren_b, and_self, bne_iff_ne, bne_eq_false_iff_eq, ne_eq, Int.natCast_inj, or_true, true_or, freeB_list, unfr_f, unfr_i, unfr_b, unfr_c, unfr_s, free_c, free_s, ren_c, ren_s, unfr_ro, unfr_rptr, ren_ro, free_ll, free_box, kill_f, kill_i, kill_b, kill_c, kill_s, kill_rof, kill_rot, Int.toNat_zero, isFF_ll, rowN_ll, rowX_ll, AllFree, Option.some.injEq, Prod.mk.injEq, Bool.false_eq_true, Bool.true_eq_false, eqL_self, heldL_mark, heldL_zero, one_neg, Nat.zero_le, Nat.not_lt_zero, one_add_len, one_le_tb, zero_le_one', not_false_eq_true, true_imp_iff, bne_self_eq_false, Bool.or_false, Bool.false_or, Bool.not_true, Bool.not_false, Bool.true_eq_false, Bool.false_eq_true, false_imp, Nat.le_refl, decide_true, decide_false, not_true_eq_false, Int.lt_irrefl, hn, hm, hlt]
    (repeat' first | with_reducible assumption | with_reducible apply And.intro | with_reducible intro hh) <;> first | ((first | with_reducible show (_ : Int) ≤ _ | with_reducible show (_ : Int) < _ | with_reducible show (_ : Nat) ≤ _ | with_reducible show (_ : Nat) < _ | with_reducible show (_ : Int) = _ | with_reducible show (_ : Nat) = _ | with_reducible show ¬ _ | with_reducible show _ ≠ _) <;> first | omega | (simp only [Bool.and_eq_true, Bool.or_eq_false_iff, Bool.not_eq_false', Bool.not_eq_true', decide_eq_true_eq, decide_eq_false_iff_not] at *; omega) | (with_reducible assumption)) | (with_reducible assumption) | skip
    refine AW.loopH (ι := Nat) (fun k => k ≤ m .u) (fun k => m .u - k) (fun k => mkE Try.f100.ntmps [(0, listF false n x), (1, listF false m w), (5, .i .i64 fun _ => ((m .u / 2 : Nat) : Int)), (6, .f .f32 fun _ => sumN w (m .u)), (7, .own 0 (fun _ => 0) (fun _ => i) 1), (8, .i .i64 fun _ => (i : Int)), (9, .f .f32 fun _ => accS (n .u) x w (m .u) i k), (20, .i .i64 fun _ => (n .u : Int)), (21, .i .i64 fun _ => (i : Int)), (24, listF false m w), (25, .i .i64 fun _ => (m .u : Int)), (26, .i .i64 fun _ => (k : Int))])
      (fun k => [blkF true (fun _ => i) (sprX (n .u) x (m .u) w)]) 0 (Nat.zero_le _) ?_ ?_
    · refine To.list (Nat.zero_le _) (Nat.le_refl _) (fun e => e) (fun j hj => AvTo.f rfl) ?_
      (repeat' first | exact AllTo.nil | apply AllTo.cons) <;> first | exact AvTo.dead _ | exact AvTo.i rfl | exact AvTo.i (by first | omega | (simp only [natCast_int]; omega)) | exact AvTo.f rfl | exact AvTo.b rfl | exact AvTo.v _ | exact AvTo.own rfl rfl rfl rfl | exact AvTo.own rfl rfl (by first | rfl | omega) (by first | rfl | omega) | exact Free.same .listF | exact Free.same (.fn (by simp) (by simp)) | skip
    rintro Q2 hQ2 k hk
    rcases Nat.lt_or_eq_of_le hk with hkt | rfl
    · have hcl := clI_in h1 ((i : Int) + (k : Int) - ((m .u / 2 : Nat) : Int))
      have hm2 : m .u / 2 ≤ 2 := by omega
      have hacc : accS (n .u) x w (m .u) i (k + 1) = fadd .f32 (accS (n .u) x w (m .u) i k) (fmul .f32 (w k) (x (clI (n .u) ((i : Int) + (k : Int) - ((m .u / 2 : Nat) : Int))).toNat)) := rfl
      unfold clI at hcl hacc
      refine AW.exec ttok ctSpread_ok (by cbv) ?_
      simp only [natCast_int, Post, All, thenA, canon0, canon064, and_true, true_and, forall_const, implies_true, decide_eq_true_eq, decide_eq_false_iff_not, Bool.not_eq_true', Bool.not_eq_false', Bool.true_and, Bool.and_true, beq_true, beq_false, Int.toNat_natCast, Int.ofNat_lt, Int.ofNat_le, Nat.zero_add, Nat.add_zero, imp_self, Bool.cond_false_right, Bool.cond_true_left, Bool.cond_true_right, IsF, rdF_eq, fOf, AV.f.injEq, exists_eq', free_list, free_fn0, List.not_mem_nil, List.mem_cons, false_imp, forall_eq, or_false, free_i, free_f, free_b, ren_f, ren_i, ren_b, and_self, bne_iff_ne, bne_eq_false_iff_eq, ne_eq, Int.natCast_inj, or_true, true_or, freeB_list, unfr_f, unfr_i, unfr_b, unfr_c, unfr_s, free_c, free_s, ren_c, ren_s, unfr_ro, unfr_rptr, ren_ro, free_ll, free_box, kill_f, kill_i, kill_b, kill_c, kill_s, kill_rof, kill_rot, Int.toNat_zero, isFF_ll, rowN_ll, rowX_ll, AllFree, Option.some.injEq, Prod.mk.injEq, Bool.false_eq_true, Bool.true_eq_false, eqL_self, heldL_mark, heldL_zero, one_neg, Nat.zero_le, Nat.not_lt_zero, one_add_len, one_le_tb, zero_le_one', not_false_eq_true, true_imp_iff, bne_self_eq_false, Bool.or_false, Bool.false_or, Bool.not_true, Bool.not_false, Bool.true_eq_false, Bool.false_eq_true, false_imp, Nat.le_refl, decide_true, decide_false, not_true_eq_false, Int.lt_irrefl, hn, hm, hkt]
      generalize m .u / 2 = M at *
      (repeat' first | with_reducible assumption | with_reducible apply And.intro | with_reducible intro hh) <;> first | ((first | with_reducible show (_ : Int) ≤ _ | with_reducible show (_ : Int) < _ | with_reducible show (_ : Nat) ≤ _ | with_reducible show (_ : Nat) < _ | with_reducible show (_ : Int) = _ | with_reducible show (_ : Nat) = _ | with_reducible show ¬ _ | with_reducible show _ ≠ _) <;> first | omega | (simp only [Bool.and_eq_true, Bool.or_eq_false_iff, Bool.not_eq_false', Bool.not_eq_true', decide_eq_true_eq, decide_eq_false_iff_not] at *; omega) | (with_reducible assumption)) | (with_reducible assumption) | skip
      refine ⟨k + 1, by omega, by omega, ?_⟩
      rw [hacc]
      refine To.list (Nat.zero_le _) (Nat.le_refl _) (fun e => e) (fun j hj => AvTo.f rfl) ?_
      (repeat' first | exact AllTo.nil | apply AllTo.cons) <;> first | exact AvTo.dead _ | exact AvTo.i rfl | exact AvTo.f rfl | exact AvTo.own rfl rfl rfl rfl | exact Free.same .listF | trace_state
    · refine AW.seq (AW.exec ttok (CTok.nil _) (by cbv) ?_)
      simp only [natCast_int, Post, All, thenA, canon0, canon064, and_true, true_and, forall_const, implies_true, decide_eq_true_eq, decide_eq_false_iff_not, Bool.not_eq_true', Bool.not_eq_false', Bool.true_and, Bool.and_true, beq_true, beq_false, Int.toNat_natCast, Int.ofNat_lt, Int.ofNat_le, Nat.zero_add, Nat.add_zero, imp_self, Bool.cond_false_right, Bool.cond_true_left, Bool.cond_true_right, IsF, rdF_eq, fOf, AV.f.injEq, exists_eq', free_list, free_fn0, List.not_mem_nil, List.mem_cons, false_imp, forall_eq, or_false, free_i, free_f, free_b, ren_f, ren_i, ren_b, and_self, bne_iff_ne, bne_eq_false_iff_eq, ne_eq, Int.natCast_inj, or_true, true_or, freeB_list, unfr_f, unfr_i, unfr_b, unfr_c, unfr_s, free_c, free_s, ren_c, ren_s, unfr_ro, unfr_rptr, ren_ro, free_ll, free_box, kill_f, kill_i, kill_b, kill_c, kill_s, kill_rof, kill_rot, Int.toNat_zero, isFF_ll, rowN_ll, rowX_ll, AllFree, Option.some.injEq, Prod.mk.injEq, Bool.false_eq_true, Bool.true_eq_false]
      refine AW.seq (AW.cond rfl (fun h => absurd (of_decide_eq_true h) (Nat.lt_irrefl _)) fun _ => AW.exit ?_)
      simp only [thenA]
      obtain ⟨rfl⟩ := hQ2
      refine Post.eval (by cbv) ?_
      simp only [natCast_int, Post, All, thenA, canon0, canon064, and_true, true_and, forall_const, implies_true, decide_eq_true_eq, decide_eq_false_iff_not, Bool.not_eq_true', Bool.not_eq_false', Bool.true_and, Bool.and_true, beq_true, beq_false, Int.toNat_natCast, Int.ofNat_lt, Int.ofNat_le, Nat.zero_add, Nat.add_zero, imp_self, Bool.cond_false_right, Bool.cond_true_left, Bool.cond_true_right, IsF, rdF_eq, fOf, AV.f.injEq, exists_eq', free_list, free_fn0, List.not_mem_nil, List.mem_cons, false_imp, forall_eq, or_false, free_i, free_f, free_b, ren_f, ren_i, ren_b, and_self, bne_iff_ne, bne_eq_false_iff_eq, ne_eq, Int.natCast_inj, or_true, true_or, freeB_list, unfr_f, unfr_i, unfr_b, unfr_c, unfr_s, free_c, free_s, ren_c, ren_s, unfr_ro, unfr_rptr, ren_ro, free_ll, free_box, kill_f, kill_i, kill_b, kill_c, kill_s, kill_rof, kill_rot, Int.toNat_zero, isFF_ll, rowN_ll, rowX_ll, AllFree, Option.some.injEq, Prod.mk.injEq, Bool.false_eq_true, Bool.true_eq_false, eqL_self, heldL_mark, heldL_zero, one_neg, Nat.zero_le, Nat.not_lt_zero, one_add_len, one_le_tb, zero_le_one', not_false_eq_true, true_imp_iff, bne_self_eq_false, Bool.or_false, Bool.false_or, Bool.not_true, Bool.not_false, Bool.true_eq_false, Bool.false_eq_true, false_imp, Nat.le_refl, decide_true, decide_false, not_true_eq_false, Int.lt_irrefl, hn]
      (repeat' first | with_reducible assumption | with_reducible apply And.intro | with_reducible intro hh) <;> first | ((first | with_reducible show (_ : Int) ≤ _ | with_reducible show (_ : Int) < _ | with_reducible show (_ : Nat) ≤ _ | with_reducible show (_ : Nat) < _ | with_reducible show (_ : Int) = _ | with_reducible show (_ : Nat) = _ | with_reducible show ¬ _ | with_reducible show _ ≠ _) <;> first | omega | (simp only [Bool.and_eq_true, Bool.or_eq_false_iff, Bool.not_eq_false', Bool.not_eq_true', decide_eq_true_eq, decide_eq_false_iff_not] at *; omega) | (with_reducible assumption)) | (with_reducible assumption) | skip
      refine ⟨i + 1, by omega, by omega, To.moved (k := 2) rfl (Nat.le_refl _) (fun e => e) (fun j hj => app_one hj (fun _ => AvTo.f rfl) fun e => AvTo.f (by rw [show j = i from e]; rfl)) ?_⟩
      (repeat' first | exact AllTo.nil | apply AllTo.cons) <;> first | exact AvTo.dead _ | exact AvTo.i rfl | exact AvTo.i (by first | omega | (simp only [natCast_int]; omega)) | exact AvTo.f rfl | exact AvTo.b rfl | exact AvTo.v _ | exact AvTo.own rfl rfl rfl rfl | exact AvTo.own rfl rfl (by first | rfl | omega) (by first | rfl | omega) | exact Free.same .listF | exact Free.same (.fn (by simp) (by simp)) | skip
  · refine AW.seq (AW.exec ttok (CTok.nil _) (by cbv) ?_)
    simp only [natCast_int, Post, All, thenA, canon0, canon064, and_true, true_and, forall_const, implies_true, decide_eq_true_eq, decide_eq_false_iff_not, Bool.not_eq_true', Bool.not_eq_false', Bool.true_and, Bool.and_true, beq_true, beq_false, Int.toNat_natCast, Int.ofNat_lt, Int.ofNat_le, Nat.zero_add, Nat.add_zero, imp_self, Bool.cond_false_right, Bool.cond_true_left, Bool.cond_true_right, IsF, rdF_eq, fOf, AV.f.injEq, exists_eq', free_list, free_fn0, List.not_mem_nil, List.mem_cons, false_imp, forall_eq, or_false, free_i, free_f, free_b, ren_f, ren_i, ren_b, and_self, bne_iff_ne, bne_eq_false_iff_eq, ne_eq, Int.natCast_inj, or_true, true_or, freeB_list, unfr_f, unfr_i, unfr_b, unfr_c, unfr_s, free_c, free_s, ren_c, ren_s, unfr_ro, unfr_rptr, ren_ro, free_ll, free_box, kill_f, kill_i, kill_b, kill_c, kill_s, kill_rof, kill_rot, Int.toNat_zero, isFF_ll, rowN_ll, rowX_ll, AllFree, Option.some.injEq, Prod.mk.injEq, Bool.false_eq_true, Bool.true_eq_false]
    refine AW.seq (AW.cond rfl (fun h => absurd (of_decide_eq_true h) (Nat.lt_irrefl _)) fun _ => AW.exit ?_)
    simp only [thenA]
    obtain ⟨rfl⟩ := hQ
    refine Post.eval (by cbv) ?_
    simp only [natCast_int, Post, All, thenA, canon0, canon064, and_true, true_and, forall_const, implies_true, decide_eq_true_eq, decide_eq_false_iff_not, Bool.not_eq_true', Bool.not_eq_false', Bool.true_and, Bool.and_true, beq_true, beq_false, Int.toNat_natCast, Int.ofNat_lt, Int.ofNat_le, Nat.zero_add, Nat.add_zero, imp_self, Bool.cond_false_right, Bool.cond_true_left, Bool.cond_true_right, IsF, rdF_eq, fOf, AV.f.injEq, exists_eq', free_list, free_fn0, List.not_mem_nil, List.mem_cons, false_imp, forall_eq, or_false, free_i, free_f, free_b, ren_f, ren_i, ren_b, and_self, bne_iff_ne, bne_eq_false_iff_eq, ne_eq, Int.natCast_inj, or_true, true_or, freeB_list, unfr_f, unfr_i, unfr_b, unfr_c, unfr_s, free_c, free_s, ren_c, ren_s, unfr_ro, unfr_rptr, ren_ro, free_ll, free_box, kill_f, kill_i, kill_b, kill_c, kill_s, kill_rof, kill_rot, Int.toNat_zero, isFF_ll, rowN_ll, rowX_ll, AllFree, Option.some.injEq, Prod.mk.injEq, Bool.false_eq_true, Bool.true_eq_false, eqL_self, heldL_mark, heldL_zero, one_neg, Nat.zero_le, Nat.not_lt_zero, one_add_len, one_le_tb, zero_le_one', not_false_eq_true, true_imp_iff, bne_self_eq_false, Bool.or_false, Bool.false_or, Bool.not_true, Bool.not_false, Bool.true_eq_false, Bool.false_eq_true, false_imp, Nat.le_refl, decide_true, decide_false, not_true_eq_false, Int.lt_irrefl, hn]
    (repeat' first | with_reducible assumption | with_reducible apply And.intro | with_reducible intro hh) <;> first | ((first | with_reducible show (_ : Int) ≤ _ | with_reducible show (_ : Int) < _ | with_reducible show (_ : Nat) ≤ _ | with_reducible show (_ : Nat) < _ | with_reducible show (_ : Int) = _ | with_reducible show (_ : Nat) = _ | with_reducible show ¬ _ | with_reducible show _ ≠ _) <;> first | omega | (simp only [Bool.and_eq_true, Bool.or_eq_false_iff, Bool.not_eq_false', Bool.not_eq_true', decide_eq_true_eq, decide_eq_false_iff_not] at *; omega) | (with_reducible assumption)) | (with_reducible assumption) | skip
    exact fin_ret (.inl rfl) (by cbv) (by simp) (To.list (Nat.zero_le _) (Nat.le_refl _) (fun e => e) (fun j hj => AvTo.f rfl) (.cons (.own rfl rfl rfl rfl) .nil))
/-! Spread lists that are checked. -/
theorem binsN_le {l : Int} {n : Nat} {x : Nat → Nat} (h : binsN l n x = true) : l ≤ (n : Int) ∧ n ≤ 64 := by
  unfold binsN at h
  simp only [Bool.and_eq_true, decide_eq_true_eq] at h
  exact ⟨h.1, h.2.1⟩
theorem kernN_le {n : Nat} {x : Nat → Nat} (h : kernN n x = true) : 1 ≤ n ∧ n ≤ 5 := by
  unfold kernN at h
  simp only [Bool.and_eq_true, Bool.or_eq_true, decide_eq_true_eq] at h
  omega
def okSpr (n : Nat) (x : Nat → Nat) (m : Nat) (w : Nat → Nat) : Bool := binsN 1 n x && (kernN m w && finN n (sprX n x m w))
def kSprBy : Kg
  | [a, b], [] => match asLg a, asLg b with
    | some (n, g), some (m, h) => some (.one (yesL n) [blkF true n (sprX (n .u) (rdF g) (m .u) (rdF h))] fun _ => IsF n g ∧ IsF m h ∧ okSpr (n .u) (rdF g) (m .u) (rdF h) = true)
    | _, _ => none
  | _, _ => none
def ctSprBy : CT := [(98, .r kIsBins), (99, .r kIsKern), (100, .g 0 kSpread), (69, .g 1 kGive)]
theorem ctSprBy_ok : CTok Try.prog ctSprBy := .cons isBins_tells (.cons isKern_tells (.cons spread_g (.cons checked_g (.nil _))))
set_option maxHeartbeats 4000000 in
theorem sprBy_g : Tells Try.prog 41 (.g 0 kSprBy) := by
  intro args Hc r hr
  unfold kSprBy at hr
  split at hr <;> first | (cases hr; done) | skip
  split at hr <;> cases hr
  rename_i _ _ n g m h hL hL'
  refine AnsOk.one ttok Try.func41 rfl rfl (Nat.zero_le _) (allFr_tup2 .own .b) .list fun ⟨hF, hF', hok⟩ => ⟨[listF false n (rdF g), listF false m (rdF h)], ⟨.asLg hL hF, .asLg hL' hF', trivial⟩, ?_⟩
  have hn := hF.1
  have hm := hF'.1
  generalize rdF g = x at *
  generalize rdF h = w at *
  simp only [okSpr, Bool.and_eq_true] at hok
  obtain ⟨h1, h2, h3⟩ := hok
  have g1 := binsN_le h1
  have g2 := kernN_le h2
  have g3 : n .u ≤ 64 := g1.2
  have g4 : m .u ≤ 5 := g2.2
  have g5 : 1 ≤ n .u := by omega
  refine AW.exec ttok ctSprBy_ok (by cbv) ?_
  simp only [natCast_int, Post, All, thenA, canon0, canon064, and_true, true_and, forall_const, implies_true, decide_eq_true_eq, decide_eq_false_iff_not, Bool.not_eq_true', Bool.not_eq_false', Bool.true_and, Bool.and_true, beq_true, beq_false, Int.toNat_natCast, Int.ofNat_lt, Int.ofNat_le, Nat.zero_add, Nat.add_zero, imp_self, Bool.cond_false_right, Bool.cond_true_left, Bool.cond_true_right, IsF, rdF_eq, fOf, AV.f.injEq, exists_eq', free_list, free_fn0, List.not_mem_nil, List.mem_cons, false_imp, forall_eq, or_false, free_i, free_f, free_b, ren_f, ren_i, ren_b, and_self, bne_iff_ne, bne_eq_false_iff_eq, ne_eq, Int.natCast_inj, or_true, true_or, freeB_list, unfr_f, unfr_i, unfr_b, unfr_c, unfr_s, free_c, free_s, ren_c, ren_s, unfr_ro, unfr_rptr, ren_ro, free_ll, free_box, kill_f, kill_i, kill_b, kill_c, kill_s, kill_rof, kill_rot, Int.toNat_zero, isFF_ll, rowN_ll, rowX_ll, AllFree, Option.some.injEq, Prod.mk.injEq, Bool.false_eq_true, Bool.true_eq_false, eqL_self, heldL_mark, heldL_zero, one_neg, Nat.zero_le, Nat.not_lt_zero, one_add_len, one_le_tb, zero_le_one', not_false_eq_true, true_imp_iff, bne_self_eq_false, Bool.or_false, Bool.false_or, Bool.not_true, Bool.not_false, Bool.true_eq_false, Bool.false_eq_true, false_imp, Nat.le_refl, decide_true, decide_false, not_true_eq_false, Int.lt_irrefl, hn, hm, h1, h2, h3, g3, g4, g5]
  (repeat' first | with_reducible assumption | with_reducible apply And.intro | with_reducible intro hh) <;> first | ((first | with_reducible show (_ : Int) ≤ _ | with_reducible show (_ : Int) < _ | with_reducible show (_ : Nat) ≤ _ | with_reducible show (_ : Nat) < _ | with_reducible show (_ : Int) = _ | with_reducible show (_ : Nat) = _ | with_reducible show ¬ _ | with_reducible show _ ≠ _) <;> first | omega | (simp only [Bool.and_eq_true, Bool.or_eq_false_iff, Bool.not_eq_false', Bool.not_eq_true', decide_eq_true_eq, decide_eq_false_iff_not] at *; omega) | (with_reducible assumption)) | (with_reducible assumption) | skip
  exact fin_ret (.inl rfl) (by cbv) (by simp) (To.list (Nat.zero_le _) (Nat.le_refl _) (fun e => e) (fun j hj => AvTo.f rfl) yesL_to)
end Go.Proofs.Ytfdmmbcjidkmoaa
