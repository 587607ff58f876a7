/- The law FnExactRankLibrary answers yes for every argument; conditions: none. -/
import Derived.Test.YtgbfngkmnodgdaaHt
import Derived.Test.YtgbfngkmnodgdaaFi
import Derived.Test.YtgbfngkmnodgdaaFf
import Derived.Test.YtgbfngkmnodgdaaLt
set_option linter.unusedSimpArgs false
set_option linter.unusedVariables false
namespace Go.Proofs.Ytgbfngkmnodgdaa
open Go.Aw
theorem isI_list {n : Th Nat} {k : Th Nat → Nat → Th Int} : (IsI n fun j c => .i .i64 (k j c)) ↔ n .u ≤ 9223372036854775807 := ⟨fun h => h.1, fun h => ⟨h, fun _ _ => ⟨_, rfl⟩⟩⟩
theorem freeB_listI {n : Th Nat} {k : IntKind} {x : Th Nat → Nat → Th Int} : FreeB (.tab n 1 fun i c => .i k (x i c)) ↔ True := iff_true_intro fun off a ha => by
  cases ha with | tab i c hi hc => exact .i
theorem heldIL_mark' {n : Nat} {k : Int} : heldIL n (rdI fun j _ => .i .i64 fun _ => k + (j .u : Int)) k = k + n := heldIL_mark n k
theorem isI_nil : (IsI (fun _ => 0) fun _ _ => .dead) ↔ True := iff_true_intro ⟨Nat.zero_le _, fun _ h => absurd h (Nat.not_lt_zero _)⟩
noncomputable def ctL_RankLibrary (w : Bool) : CT := [(10, .r kSzS), (13, .r kToSSo), (17, .r kEqSS), (19, .s kMarkSS), (12, .r kTo), (16, .r kEq), (18, .m kMark kMarkNil), (24, .r kHeld), (15, .r kEqI), (20, .m kMarkI kMarkNilI), (21, .r kHeldI), (11, .g 0 (pickK w kRank)), (14, .g 0 (pickK w kRank))]
theorem ctL_RankLibrary_ok (w : Bool) : CTok Try.prog (ctL_RankLibrary w) := .cons szS_tells (.cons toSSo_tells (.cons eqSS_tells (.cons markSS_tells (.cons to_tells (.cons eq_tells (.cons mark_tells (.cons held_tells (.cons eqI_tells (.cons markI_tells (.cons heldI_tells (.cons (pick_tells w specRank) (.cons (pick_tells w implRank) (.nil _)))))))))))))
set_option maxRecDepth 100000 in
set_option maxHeartbeats 4000000 in
theorem law_RankLibrary (n0 : Nat) (x0 : Nat → Nat) (n1 : Nat) (m1 : Nat → Nat) (x1 : Nat → Nat → Nat) (hn0 : n0 ≤ 9223372036854775807) (hn1 : n1 ≤ 9223372036854775807) (hm1 : ∀ i, i < n1 → m1 i ≤ 9223372036854775807) : Con Try.prog 3 [listF false (fun _ => n0) x0, listFF false (fun _ => n1) m1 x1] [] (.b fun _ => true) [] := by
  cases hok : okRank n0 x0 n1 m1 x1 with
  | true =>
    refine Con.of ttok Try.func3 rfl rfl (Nat.le_refl _) (AW.exec ttok (ctL_RankLibrary_ok true) (by cbv) ?_)
    by_cases hb0 : (1048576 : Int) < (n0 : Int)
    · simp only [natCast_int, Post, All, thenA, canon0, canon064, and_true, true_and, forall_const, implies_true, decide_eq_true_eq, decide_eq_false_iff_not, Bool.not_eq_true', Bool.not_eq_false', Bool.true_and, Bool.and_true, beq_true, beq_false, Int.toNat_natCast, Int.ofNat_lt, Int.ofNat_le, Nat.zero_add, Nat.add_zero, imp_self, Bool.cond_false_right, Bool.cond_true_left, Bool.cond_true_right, IsF, rdF_eq, fOf, AV.f.injEq, exists_eq', free_list, free_fn0, List.not_mem_nil, List.mem_cons, false_imp, forall_eq, or_false, free_i, free_f, free_b, ren_f, ren_i, ren_b, and_self, bne_iff_ne, bne_eq_false_iff_eq, ne_eq, Int.natCast_inj, or_true, true_or, freeB_list, unfr_f, unfr_i, unfr_b, unfr_c, unfr_s, free_c, free_s, ren_c, ren_s, unfr_ro, unfr_rptr, ren_ro, free_ll, free_box, kill_f, kill_i, kill_b, kill_c, kill_s, kill_rof, kill_rot, Int.toNat_zero, isFF_ll, rowN_ll, rowX_ll, AllFree, Option.some.injEq, Prod.mk.injEq, Bool.false_eq_true, Bool.true_eq_false, eqL_self, heldL_mark, heldL_zero, one_neg, Nat.zero_le, Nat.not_lt_zero, one_add_len, one_le_tb, zero_le_one', not_false_eq_true, true_imp_iff, bne_self_eq_false, Bool.or_false, Bool.false_or, Bool.not_true, Bool.not_false, Bool.true_eq_false, Bool.false_eq_true, false_imp, Nat.le_refl, decide_true, decide_false, not_true_eq_false, Int.lt_irrefl, hb0, hb0]
      all_goals exact fin_ret (.inl rfl) (by cbv) (by simp) (To.fresh (.cons (.b rfl) .nil))
    have hl0 : n0 ≤ 1048576 := by omega
    by_cases hb1 : szLL n1 (fun i => m1 i) 1048576 < 0
    · simp only [natCast_int, Post, All, thenA, canon0, canon064, and_true, true_and, forall_const, implies_true, decide_eq_true_eq, decide_eq_false_iff_not, Bool.not_eq_true', Bool.not_eq_false', Bool.true_and, Bool.and_true, beq_true, beq_false, Int.toNat_natCast, Int.ofNat_lt, Int.ofNat_le, Nat.zero_add, Nat.add_zero, imp_self, Bool.cond_false_right, Bool.cond_true_left, Bool.cond_true_right, IsF, rdF_eq, fOf, AV.f.injEq, exists_eq', free_list, free_fn0, List.not_mem_nil, List.mem_cons, false_imp, forall_eq, or_false, free_i, free_f, free_b, ren_f, ren_i, ren_b, and_self, bne_iff_ne, bne_eq_false_iff_eq, ne_eq, Int.natCast_inj, or_true, true_or, freeB_list, unfr_f, unfr_i, unfr_b, unfr_c, unfr_s, free_c, free_s, ren_c, ren_s, unfr_ro, unfr_rptr, ren_ro, free_ll, free_box, kill_f, kill_i, kill_b, kill_c, kill_s, kill_rof, kill_rot, Int.toNat_zero, isFF_ll, rowN_ll, rowX_ll, AllFree, Option.some.injEq, Prod.mk.injEq, Bool.false_eq_true, Bool.true_eq_false, eqL_self, heldL_mark, heldL_zero, one_neg, Nat.zero_le, Nat.not_lt_zero, one_add_len, one_le_tb, zero_le_one', not_false_eq_true, true_imp_iff, bne_self_eq_false, Bool.or_false, Bool.false_or, Bool.not_true, Bool.not_false, Bool.true_eq_false, Bool.false_eq_true, false_imp, Nat.le_refl, decide_true, decide_false, not_true_eq_false, Int.lt_irrefl, hb1, hb0, hl0, hn0, hn1]
      (repeat' first | with_reducible assumption | with_reducible apply And.intro | with_reducible intro hh) <;> first | ((first | with_reducible show (_ : Int) ≤ _ | with_reducible show (_ : Int) < _ | with_reducible show (_ : Nat) ≤ _ | with_reducible show (_ : Nat) < _ | with_reducible show (_ : Int) = _ | with_reducible show (_ : Nat) = _ | with_reducible show ¬ _ | with_reducible show _ ≠ _) <;> first | omega | (simp only [Bool.and_eq_true, Bool.or_eq_false_iff, Bool.not_eq_false', Bool.not_eq_true', decide_eq_true_eq, decide_eq_false_iff_not] at *; omega) | (with_reducible assumption)) | (with_reducible assumption) | skip
      all_goals exact fin_ret (.inl rfl) (by cbv) (by simp) (To.fresh (.cons (.b rfl) .nil))
    obtain ⟨h11, h21⟩ := szLL_le hb1 (Int.le_refl _)
    have h31 : sumM (fun i => m1 i) n1 ≤ 1048576 := szLL_sum2 hb1 (Int.le_refl _)
    have a11 := eq_true hm1
    have a21 := eq_true h21
    have t1 : szLL n1 (fun i => m1 i) 1048576 ≤ 1048576 := Int.le_trans (szLL_top hb1) (Int.le_refl _)
    have u1 : 0 ≤ szLL n1 (fun i => m1 i) 1048576 := by omega
    have k0 : 1 + (n0 : Int) ≤ 1099511627776 := by
      omega
    have l0 : 1 + (n0 : Int) ≤ 9223372036854775807 := by omega
    have z0 : 0 ≤ 1 + (n0 : Int) := by omega
    have y0 : ¬ 1 + (n0 : Int) < 0 := by omega
    have k1 : 1 + (n0 : Int) + ((sumM (fun i => m1 i) n1 : Nat) : Int) ≤ 1099511627776 := by
      omega
    have l1 : 1 + (n0 : Int) + ((sumM (fun i => m1 i) n1 : Nat) : Int) ≤ 9223372036854775807 := by omega
    have z1 : 0 ≤ 1 + (n0 : Int) + ((sumM (fun i => m1 i) n1 : Nat) : Int) := by omega
    have y1 : ¬ 1 + (n0 : Int) + ((sumM (fun i => m1 i) n1 : Nat) : Int) < 0 := by omega
    have h6 := areS_facts (by simp only [okRank, Bool.and_eq_true] at hok; exact hok.1)
    have a3 : n1 ≤ 1048576 := by omega
    have a4 : n1 ≤ 9223372036854775807 := by omega
    have a5 : m1 0 ≤ 1048576 := by omega
    simp only [natCast_int, Post, All, thenA, canon0, canon064, and_true, true_and, forall_const, implies_true, decide_eq_true_eq, decide_eq_false_iff_not, Bool.not_eq_true', Bool.not_eq_false', Bool.true_and, Bool.and_true, beq_true, beq_false, Int.toNat_natCast, Int.ofNat_lt, Int.ofNat_le, Nat.zero_add, Nat.add_zero, imp_self, Bool.cond_false_right, Bool.cond_true_left, Bool.cond_true_right, IsF, rdF_eq, fOf, AV.f.injEq, exists_eq', free_list, free_fn0, List.not_mem_nil, List.mem_cons, false_imp, forall_eq, or_false, free_i, free_f, free_b, ren_f, ren_i, ren_b, and_self, bne_iff_ne, bne_eq_false_iff_eq, ne_eq, Int.natCast_inj, or_true, true_or, freeB_list, unfr_f, unfr_i, unfr_b, unfr_c, unfr_s, free_c, free_s, ren_c, ren_s, unfr_ro, unfr_rptr, ren_ro, free_ll, free_box, kill_f, kill_i, kill_b, kill_c, kill_s, kill_rof, kill_rot, Int.toNat_zero, isFF_ll, rowN_ll, rowX_ll, AllFree, Option.some.injEq, Prod.mk.injEq, Bool.false_eq_true, Bool.true_eq_false, eqL_self, heldL_mark, heldL_zero, one_neg, Nat.zero_le, Nat.not_lt_zero, one_add_len, one_le_tb, zero_le_one', not_false_eq_true, true_imp_iff, bne_self_eq_false, Bool.or_false, Bool.false_or, Bool.not_true, Bool.not_false, Bool.true_eq_false, Bool.false_eq_true, false_imp, Nat.le_refl, decide_true, decide_false, not_true_eq_false, Int.lt_irrefl, hb0, hl0, hn0, hb1, h11, hn1, a11, a21, t1, u1, k0, l0, z0, y0, k1, l1, z1, y1, a3, a4, a5, hok, eqLL_self, eqIL_self, isI_list, isI_nil, freeB_listI, heldIL_mark', heldIL_zero, isRowB_ro, isFFg_ll, or_true, true_or]
    (repeat' first | with_reducible assumption | with_reducible apply And.intro | with_reducible intro hh) <;> first | ((first | with_reducible show (_ : Int) ≤ _ | with_reducible show (_ : Int) < _ | with_reducible show (_ : Nat) ≤ _ | with_reducible show (_ : Nat) < _ | with_reducible show (_ : Int) = _ | with_reducible show (_ : Nat) = _ | with_reducible show ¬ _ | with_reducible show _ ≠ _) <;> first | omega | (simp only [Bool.and_eq_true, Bool.or_eq_false_iff, Bool.not_eq_false', Bool.not_eq_true', decide_eq_true_eq, decide_eq_false_iff_not] at *; omega) | (with_reducible assumption)) | (with_reducible assumption) | skip
    all_goals exact fin_ret (.inl rfl) (by cbv) (by simp) (To.fresh (.cons (.b rfl) .nil))
  | false =>
    refine Con.of ttok Try.func3 rfl rfl (Nat.le_refl _) (AW.exec ttok (ctL_RankLibrary_ok false) (by cbv) ?_)
    by_cases hb0 : (1048576 : Int) < (n0 : Int)
    · simp only [natCast_int, Post, All, thenA, canon0, canon064, and_true, true_and, forall_const, implies_true, decide_eq_true_eq, decide_eq_false_iff_not, Bool.not_eq_true', Bool.not_eq_false', Bool.true_and, Bool.and_true, beq_true, beq_false, Int.toNat_natCast, Int.ofNat_lt, Int.ofNat_le, Nat.zero_add, Nat.add_zero, imp_self, Bool.cond_false_right, Bool.cond_true_left, Bool.cond_true_right, IsF, rdF_eq, fOf, AV.f.injEq, exists_eq', free_list, free_fn0, List.not_mem_nil, List.mem_cons, false_imp, forall_eq, or_false, free_i, free_f, free_b, ren_f, ren_i, ren_b, and_self, bne_iff_ne, bne_eq_false_iff_eq, ne_eq, Int.natCast_inj, or_true, true_or, freeB_list, unfr_f, unfr_i, unfr_b, unfr_c, unfr_s, free_c, free_s, ren_c, ren_s, unfr_ro, unfr_rptr, ren_ro, free_ll, free_box, kill_f, kill_i, kill_b, kill_c, kill_s, kill_rof, kill_rot, Int.toNat_zero, isFF_ll, rowN_ll, rowX_ll, AllFree, Option.some.injEq, Prod.mk.injEq, Bool.false_eq_true, Bool.true_eq_false, eqL_self, heldL_mark, heldL_zero, one_neg, Nat.zero_le, Nat.not_lt_zero, one_add_len, one_le_tb, zero_le_one', not_false_eq_true, true_imp_iff, bne_self_eq_false, Bool.or_false, Bool.false_or, Bool.not_true, Bool.not_false, Bool.true_eq_false, Bool.false_eq_true, false_imp, Nat.le_refl, decide_true, decide_false, not_true_eq_false, Int.lt_irrefl, hb0, hb0]
      all_goals exact fin_ret (.inl rfl) (by cbv) (by simp) (To.fresh (.cons (.b rfl) .nil))
    have hl0 : n0 ≤ 1048576 := by omega
    by_cases hb1 : szLL n1 (fun i => m1 i) 1048576 < 0
    · simp only [natCast_int, Post, All, thenA, canon0, canon064, and_true, true_and, forall_const, implies_true, decide_eq_true_eq, decide_eq_false_iff_not, Bool.not_eq_true', Bool.not_eq_false', Bool.true_and, Bool.and_true, beq_true, beq_false, Int.toNat_natCast, Int.ofNat_lt, Int.ofNat_le, Nat.zero_add, Nat.add_zero, imp_self, Bool.cond_false_right, Bool.cond_true_left, Bool.cond_true_right, IsF, rdF_eq, fOf, AV.f.injEq, exists_eq', free_list, free_fn0, List.not_mem_nil, List.mem_cons, false_imp, forall_eq, or_false, free_i, free_f, free_b, ren_f, ren_i, ren_b, and_self, bne_iff_ne, bne_eq_false_iff_eq, ne_eq, Int.natCast_inj, or_true, true_or, freeB_list, unfr_f, unfr_i, unfr_b, unfr_c, unfr_s, free_c, free_s, ren_c, ren_s, unfr_ro, unfr_rptr, ren_ro, free_ll, free_box, kill_f, kill_i, kill_b, kill_c, kill_s, kill_rof, kill_rot, Int.toNat_zero, isFF_ll, rowN_ll, rowX_ll, AllFree, Option.some.injEq, Prod.mk.injEq, Bool.false_eq_true, Bool.true_eq_false, eqL_self, heldL_mark, heldL_zero, one_neg, Nat.zero_le, Nat.not_lt_zero, one_add_len, one_le_tb, zero_le_one', not_false_eq_true, true_imp_iff, bne_self_eq_false, Bool.or_false, Bool.false_or, Bool.not_true, Bool.not_false, Bool.true_eq_false, Bool.false_eq_true, false_imp, Nat.le_refl, decide_true, decide_false, not_true_eq_false, Int.lt_irrefl, hb1, hb0, hl0, hn0, hn1]
      (repeat' first | with_reducible assumption | with_reducible apply And.intro | with_reducible intro hh) <;> first | ((first | with_reducible show (_ : Int) ≤ _ | with_reducible show (_ : Int) < _ | with_reducible show (_ : Nat) ≤ _ | with_reducible show (_ : Nat) < _ | with_reducible show (_ : Int) = _ | with_reducible show (_ : Nat) = _ | with_reducible show ¬ _ | with_reducible show _ ≠ _) <;> first | omega | (simp only [Bool.and_eq_true, Bool.or_eq_false_iff, Bool.not_eq_false', Bool.not_eq_true', decide_eq_true_eq, decide_eq_false_iff_not] at *; omega) | (with_reducible assumption)) | (with_reducible assumption) | skip
      all_goals exact fin_ret (.inl rfl) (by cbv) (by simp) (To.fresh (.cons (.b rfl) .nil))
    obtain ⟨h11, h21⟩ := szLL_le hb1 (Int.le_refl _)
    have h31 : sumM (fun i => m1 i) n1 ≤ 1048576 := szLL_sum2 hb1 (Int.le_refl _)
    have a11 := eq_true hm1
    have a21 := eq_true h21
    have t1 : szLL n1 (fun i => m1 i) 1048576 ≤ 1048576 := Int.le_trans (szLL_top hb1) (Int.le_refl _)
    have u1 : 0 ≤ szLL n1 (fun i => m1 i) 1048576 := by omega
    have k0 : 1 + (n0 : Int) ≤ 1099511627776 := by
      omega
    have l0 : 1 + (n0 : Int) ≤ 9223372036854775807 := by omega
    have z0 : 0 ≤ 1 + (n0 : Int) := by omega
    have y0 : ¬ 1 + (n0 : Int) < 0 := by omega
    have k1 : 1 + (n0 : Int) + ((sumM (fun i => m1 i) n1 : Nat) : Int) ≤ 1099511627776 := by
      omega
    have l1 : 1 + (n0 : Int) + ((sumM (fun i => m1 i) n1 : Nat) : Int) ≤ 9223372036854775807 := by omega
    have z1 : 0 ≤ 1 + (n0 : Int) + ((sumM (fun i => m1 i) n1 : Nat) : Int) := by omega
    have y1 : ¬ 1 + (n0 : Int) + ((sumM (fun i => m1 i) n1 : Nat) : Int) < 0 := by omega
    simp only [natCast_int, Post, All, thenA, canon0, canon064, and_true, true_and, forall_const, implies_true, decide_eq_true_eq, decide_eq_false_iff_not, Bool.not_eq_true', Bool.not_eq_false', Bool.true_and, Bool.and_true, beq_true, beq_false, Int.toNat_natCast, Int.ofNat_lt, Int.ofNat_le, Nat.zero_add, Nat.add_zero, imp_self, Bool.cond_false_right, Bool.cond_true_left, Bool.cond_true_right, IsF, rdF_eq, fOf, AV.f.injEq, exists_eq', free_list, free_fn0, List.not_mem_nil, List.mem_cons, false_imp, forall_eq, or_false, free_i, free_f, free_b, ren_f, ren_i, ren_b, and_self, bne_iff_ne, bne_eq_false_iff_eq, ne_eq, Int.natCast_inj, or_true, true_or, freeB_list, unfr_f, unfr_i, unfr_b, unfr_c, unfr_s, free_c, free_s, ren_c, ren_s, unfr_ro, unfr_rptr, ren_ro, free_ll, free_box, kill_f, kill_i, kill_b, kill_c, kill_s, kill_rof, kill_rot, Int.toNat_zero, isFF_ll, rowN_ll, rowX_ll, AllFree, Option.some.injEq, Prod.mk.injEq, Bool.false_eq_true, Bool.true_eq_false, eqL_self, heldL_mark, heldL_zero, one_neg, Nat.zero_le, Nat.not_lt_zero, one_add_len, one_le_tb, zero_le_one', not_false_eq_true, true_imp_iff, bne_self_eq_false, Bool.or_false, Bool.false_or, Bool.not_true, Bool.not_false, Bool.true_eq_false, Bool.false_eq_true, false_imp, Nat.le_refl, decide_true, decide_false, not_true_eq_false, Int.lt_irrefl, hb0, hl0, hn0, hb1, h11, hn1, a11, a21, t1, u1, k0, l0, z0, y0, k1, l1, z1, y1, hok, eqLL_self, eqIL_self, isI_list, isI_nil, freeB_listI, heldIL_mark', heldIL_zero, isRowB_ro, isFFg_ll, or_true, true_or]
    (repeat' first | with_reducible assumption | with_reducible apply And.intro | with_reducible intro hh) <;> first | ((first | with_reducible show (_ : Int) ≤ _ | with_reducible show (_ : Int) < _ | with_reducible show (_ : Nat) ≤ _ | with_reducible show (_ : Nat) < _ | with_reducible show (_ : Int) = _ | with_reducible show (_ : Nat) = _ | with_reducible show ¬ _ | with_reducible show _ ≠ _) <;> first | omega | (simp only [Bool.and_eq_true, Bool.or_eq_false_iff, Bool.not_eq_false', Bool.not_eq_true', decide_eq_true_eq, decide_eq_false_iff_not] at *; omega) | (with_reducible assumption)) | (with_reducible assumption) | skip
    all_goals exact fin_ret (.inl rfl) (by cbv) (by simp) (To.fresh (.cons (.b rfl) .nil))
set_option maxRecDepth 100000 in
open Go.ChangeShapes in
theorem lifted_RankLibrary (os : Os) (started : os.Started) (H : Type) (enc : TypeId × Value → H) :
    ReturnsInHanded {} Try.checked os 3 .any (Rows.fnExactRankLibrarySpec.pre6 enc Try.prog Try.f3 Rows.fnExactRankLibraryRow.domain false) (Rows.fnExactRankLibrarySpec.post enc Try.prog Try.f3 Rows.fnExactRankLibraryRow.apart Rows.fnExactRankLibraryRow.fresh Rows.fnExactRankLibraryRow.handsOn Rows.fnExactRankLibraryRow.again) := by
  refine lifted (C := Try.checked) Try.own started (by kernel_rfl) Try.func3
    (ChangeSpec.witness6 (enc := enc) (C := Try.checked) false ⟨#[], #[.slice none 0 0, .slice none 0 0], []⟩ 8 (by kernel_rfl) (by kernel_rfl) (by kernel_rfl) (by kernel_rfl))
    Try.laidOut Try.mapsOut Try.full (of_decide_eq_true (by kernel_rfl)) (tb := 4) (by kernel_rfl) uB rfl (fun ds h => ?_) (fun W base args ds ps hval hA => ?_)
  · match ds, h with
    | [d0, d1], _ => exact ⟨rfl, rfl, rfl⟩
  · have hpar : Try.f3.params = #[22, 23] := by kernel_rfl
    rw [hpar] at hA hval
    obtain ⟨v0, v1, e0, e1, p0, p1, rfl, rfl, rfl, r0, r1⟩ := trodAll_two hA
    obtain ⟨n0, x0, hn0, s0⟩ := read_floats uFs uF cF (hval 0 _ v0 rfl rfl) r0
    obtain ⟨n1, m1, x1, hn1, hm1, s1⟩ := read_rows uFss cFs uFs uF cF (hval 1 _ v1 rfl rfl) r1
    refine ⟨[listF false (fun _ => n0) x0, listFF false (fun _ => n1) m1 x1], rfl, fun j a u ha hu => ?_, law_RankLibrary n0 x0 n1 m1 x1 hn0 hn1 hm1⟩
    match j, ha, hu with
    | 0, ha, hu => cases ha; cases hu; exact s0
    | 1, ha, hu => cases ha; cases hu; exact s1
theorem RankLibrary_said : Rows.FnExactRankLibrarySaid :=
  OpenClaim.holds_of_wide 3 Try.f3 rfl rfl rfl rfl rfl rfl rfl ⟨rfl, rfl, rfl, rfl, rfl⟩ rfl rfl rfl rfl rfl (by kernel_rfl) Try.func3 (by kernel_rfl)
    (of_decide_eq_true (by kernel_rfl)) (by unfold Func.isWrapper; rw [if_neg (of_decide_eq_false (by kernel_rfl))]; exact ⟨rfl, rfl⟩)
    (fun os started H enc _ => lifted_RankLibrary os started H enc)
end Go.Proofs.Ytgbfngkmnodgdaa
