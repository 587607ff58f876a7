/- The law FnExactJournalOf answers yes for every list of texts, and its card is tied; conditions: the listed tables as the program's text lays them. -/
import Derived.Test.YtjlkflceicdcdaaDoorTc
import Derived.Test.YtjlkflceicdcdaaDoorSi
import Derived.Test.YtjlkflceicdcdaaDoorLr
import Derived.Test.YtjlkflceicdcdaaDoorAwx
import Derived.Test.YtjlkflceicdcdaaDoorCards
import Derived.Test.YtjlkflceicdcdaaDoorTie
set_option linter.unusedSimpArgs false
set_option linter.unusedVariables false
namespace Go.Proofs.YtjlkflceicdcdaaDoor
open Go.Aw
section
open Go.ChangeShapes Go.WideShapes Go.RowKit
variable {H : Type} {enc : TypeId × Value → H} {P : Program}
theorem read_strC {w : World} {t : TypeId} {v : Value} {fuel : Nat} {x : DataW H × List MemPlace} (ht : P.underlying t = some .string) (h : DataW.trod enc P w 0 (fun _ => true) true fuel t [v] = some x) : ∃ b : ByteArray, v = .string b ∧ b.size ≤ 9223372036854775807 := by
  cases fuel with
  | zero => simp [DataW.trod] at h
  | succ fuel =>
    cases v <;> simp [DataW.trod, ht] at h
    refine ⟨_, rfl, ?_⟩
    have := h.1
    unfold maxLen at this
    omega
theorem read_texts {w : World} {t e : TypeId} {v : Value} {base : Nat} {d : DataW H} {ps : List MemPlace} (ht : P.underlying t = some (.slice e)) (he : P.underlying e = some .string) (hc : P.cellsOf e = 1) (ho : Value.okWide P w .any base t v)
    (h : DataW.Trod enc P w 0 (fun _ => true) true t v d ps) : ∃ (n : Nat) (x : Nat → ByteArray), n ≤ 9223372036854775807 ∧ (∀ i, i < n → (x i).size ≤ 9223372036854775807) ∧ Sim w noMp 0 w.heap.size (listT false (fun _ => n) x) v := by
  obtain ⟨a0, len, cap, rfl⟩ := okWide_slice ht ho
  obtain ⟨fuel, hf⟩ := h
  rcases Deep.open_slice1 ht hc hf with ⟨hcs, _⟩ | ⟨a, len', cap', m, k, V, D, Pl, hcs, _, hl, hmx, hm, _, hx⟩
  · simp [Value.cells] at hcs
    obtain ⟨rfl, rfl, rfl⟩ := hcs
    exact ⟨0, fun _ => ⟨#[]⟩, by omega, fun i hi => absurd hi (Nat.not_lt_zero _), .ro0 rfl⟩
  · simp [Value.cells] at hcs
    obtain ⟨rfl, rfl, rfl⟩ := hcs
    simp only [if_true] at hm
    have hx' : ∀ i, i < len → w.cell? (a.add i) = some (V i) ∧ ∃ b : ByteArray, V i = .string b ∧ b.size ≤ 9223372036854775807 := fun i hi => ⟨(hx i (by omega)).1, read_strC he (hx i (by omega)).2⟩
    have hmax : len ≤ 9223372036854775807 := by unfold maxLen at hmx; omega
    rcases Nat.eq_zero_or_pos len with h0 | h0
    · subst h0
      exact ⟨0, fun _ => ⟨#[]⟩, by omega, fun i hi => absurd hi (Nat.not_lt_zero _), .ro0 rfl⟩
    · obtain ⟨b, off, spot⟩ := a
      have hspot : spot = none := by simpa [Addr.add] using World.cell?_spot (hx' 0 h0).1
      subst hspot
      have hblk : b < w.heap.size := by
        have := (hx' 0 h0).1
        rw [Addr.add_lit] at this
        rcases Nat.lt_or_ge b w.heap.size with h' | h'
        · exact h'
        · simp [World.cell?, Array.getElem?_eq_none h'] at this
      refine ⟨len, fun i => match V i with
        | .string b => b
        | _ => ⟨#[]⟩, hmax, fun i hi => ?_, .ro (fun i _ => V i) hl ⟨hblk, fun id h => (by cases h), fun h => (by cases h), fun _ => hblk⟩ (fun i c hi hcc => ?_) (fun i c hi hcc => ?_)⟩
      · obtain ⟨_, b', h2, h3⟩ := hx' i hi
        simp only [h2]
        exact h3
      · obtain rfl : c = 0 := by omega
        obtain ⟨h1, b', h2, _⟩ := hx' i hi
        rw [Addr.add_lit] at h1
        exact ⟨by simpa using h1, by rw [h2]; rfl⟩
      · obtain ⟨_, b', h2, _⟩ := hx' i hi
        simp only [h2]
        exact .s
end
theorem rdT_listT {x : Nat → ByteArray} : (rdT fun i _ => .s fun _ => x (i .u)) = x := rfl
theorem isT_listT {n : Th Nat} {k : Th Nat → Nat → Th ByteArray} : (IsT n fun j c => .s (k j c)) ↔ n .u ≤ 9223372036854775807 := ⟨fun h => h.1, fun h => ⟨h, fun _ _ => ⟨_, rfl⟩⟩⟩
theorem free_listT {fr : Bool} {n : Th Nat} {x : Th Nat → Nat → Th ByteArray} : Free (.ro fr n 1 fun i c => .s (x i c)) ↔ True := iff_true_intro Free.listT
theorem freeB_listT' {n : Th Nat} {x : Th Nat → Nat → Th ByteArray} : FreeB (.tab n 1 fun i c => .s (x i c)) ↔ True := iff_true_intro fun off a ha => by
  cases ha with | tab i c hi hc => exact .s
noncomputable def ctL_JournalOf : CT := [(11, .r kSzT), (13, .r kToT), (15, .r kEqT), (12, .r kJrn), (14, .r kJrn)]
theorem ctL_JournalOf_ok : CTok Tryd.prog ctL_JournalOf := .cons szT_tells (.cons toT_tells (.cons eqT_tells (.cons specJournal (.cons implJournal (.nil _)))))
set_option maxHeartbeats 4000000 in
theorem law_JournalOf (n : Nat) (x : Nat → ByteArray) (hn : n ≤ 9223372036854775807) (hx : ∀ i, i < n → (x i).size ≤ 9223372036854775807) : Con Tryd.prog 4 [listT false (fun _ => n) x] [] (.b fun _ => true) [] := by
  refine Con.of ttok Tryd.func4 rfl rfl (Nat.le_refl _) (AW.exec ttok ctL_JournalOf_ok (by cbv) ?_)
  by_cases hz : szT n x 1048576 < 0
  · simp only [natCast_int, Post, All, thenA, canon0, canon064, and_true, true_and, forall_const, implies_true, decide_eq_true_eq, decide_eq_false_iff_not, Bool.not_eq_true', Bool.not_eq_false', Bool.true_and, Bool.and_true, beq_true, beq_false, Int.toNat_natCast, Int.ofNat_lt, Int.ofNat_le, Nat.zero_add, Nat.add_zero, imp_self, Bool.cond_false_right, Bool.cond_true_left, Bool.cond_true_right, IsF, rdF_eq, fOf, AV.f.injEq, exists_eq', free_list, free_fn0, List.not_mem_nil, List.mem_cons, false_imp, forall_eq, or_false, free_i, free_f, free_b, ren_f, ren_i, ren_b, and_self, bne_iff_ne, bne_eq_false_iff_eq, ne_eq, Int.natCast_inj, or_true, true_or, freeB_list, unfr_f, unfr_i, unfr_b, unfr_c, unfr_s, free_c, free_s, ren_c, ren_s, unfr_ro, unfr_rptr, ren_ro, free_ll, free_box, kill_f, kill_i, kill_b, kill_c, kill_s, kill_rof, kill_rot, Int.toNat_zero, isFF_ll, rowN_ll, rowX_ll, AllFree, Option.some.injEq, Prod.mk.injEq, Bool.false_eq_true, Bool.true_eq_false, eqL_self, heldL_mark, heldL_zero, one_neg, Nat.zero_le, Nat.not_lt_zero, one_add_len, one_le_tb, zero_le_one', not_false_eq_true, true_imp_iff, bne_self_eq_false, Bool.or_false, Bool.false_or, Bool.not_true, Bool.not_false, Bool.true_eq_false, Bool.false_eq_true, false_imp, Nat.le_refl, decide_true, decide_false, not_true_eq_false, Int.lt_irrefl, rdT_listT, isT_listT, free_listT, freeB_listT', hz, hn]
    (repeat' first | with_reducible assumption | with_reducible apply And.intro | with_reducible intro hh) <;> first | ((first | with_reducible show (_ : Int) ≤ _ | with_reducible show (_ : Int) < _ | with_reducible show (_ : Nat) ≤ _ | with_reducible show (_ : Nat) < _ | with_reducible show (_ : Int) = _ | with_reducible show (_ : Nat) = _ | with_reducible show ¬ _ | with_reducible show _ ≠ _) <;> first | omega | (simp only [Bool.and_eq_true, Bool.or_eq_false_iff, Bool.not_eq_false', Bool.not_eq_true', decide_eq_true_eq, decide_eq_false_iff_not] at *; omega) | (with_reducible assumption)) | (with_reducible assumption) | skip
    all_goals first | exact fin_ret (.inl rfl) (by cbv) (by simp) (To.fresh (.cons (.b rfl) .nil)) | exact hx _ ‹_› | trace_state
  · obtain ⟨h1, h2, h3⟩ := szT_le hz (Int.le_refl _)
    have h4 : ∀ i, i < n → (x i).size ≤ 1073741824 := fun i hi => Nat.le_trans (h3 i hi) (by decide)
    simp only [natCast_int, Post, All, thenA, canon0, canon064, and_true, true_and, forall_const, implies_true, decide_eq_true_eq, decide_eq_false_iff_not, Bool.not_eq_true', Bool.not_eq_false', Bool.true_and, Bool.and_true, beq_true, beq_false, Int.toNat_natCast, Int.ofNat_lt, Int.ofNat_le, Nat.zero_add, Nat.add_zero, imp_self, Bool.cond_false_right, Bool.cond_true_left, Bool.cond_true_right, IsF, rdF_eq, fOf, AV.f.injEq, exists_eq', free_list, free_fn0, List.not_mem_nil, List.mem_cons, false_imp, forall_eq, or_false, free_i, free_f, free_b, ren_f, ren_i, ren_b, and_self, bne_iff_ne, bne_eq_false_iff_eq, ne_eq, Int.natCast_inj, or_true, true_or, freeB_list, unfr_f, unfr_i, unfr_b, unfr_c, unfr_s, free_c, free_s, ren_c, ren_s, unfr_ro, unfr_rptr, ren_ro, free_ll, free_box, kill_f, kill_i, kill_b, kill_c, kill_s, kill_rof, kill_rot, Int.toNat_zero, isFF_ll, rowN_ll, rowX_ll, AllFree, Option.some.injEq, Prod.mk.injEq, Bool.false_eq_true, Bool.true_eq_false, eqL_self, heldL_mark, heldL_zero, one_neg, Nat.zero_le, Nat.not_lt_zero, one_add_len, one_le_tb, zero_le_one', not_false_eq_true, true_imp_iff, bne_self_eq_false, Bool.or_false, Bool.false_or, Bool.not_true, Bool.not_false, Bool.true_eq_false, Bool.false_eq_true, false_imp, Nat.le_refl, decide_true, decide_false, not_true_eq_false, Int.lt_irrefl, rdT_listT, isT_listT, free_listT, freeB_listT', hz, hn, h1, eqTL_self]
    (repeat' first | with_reducible assumption | with_reducible apply And.intro | with_reducible intro hh) <;> first | ((first | with_reducible show (_ : Int) ≤ _ | with_reducible show (_ : Int) < _ | with_reducible show (_ : Nat) ≤ _ | with_reducible show (_ : Nat) < _ | with_reducible show (_ : Int) = _ | with_reducible show (_ : Nat) = _ | with_reducible show ¬ _ | with_reducible show _ ≠ _) <;> first | omega | (simp only [Bool.and_eq_true, Bool.or_eq_false_iff, Bool.not_eq_false', Bool.not_eq_true', decide_eq_true_eq, decide_eq_false_iff_not] at *; omega) | (with_reducible assumption)) | (with_reducible assumption) | skip
    all_goals first | exact fin_ret (.inl rfl) (by cbv) (by simp) (To.fresh (.cons (.b rfl) .nil)) | exact hx _ ‹_› | exact h4 _ ‹_› | (rename_i hh; rw [beq_self_eq_true] at hh; cases hh) | trace_state
set_option maxRecDepth 100000 in
open Go.ChangeShapes in
theorem lifted_JournalOf (os : Os) (started : os.Started) (H : Type) (enc : TypeId × Value → H) :
    ReturnsInHanded {} Tryd.checked os 4 .any (fun w args => (Rows.fnExactJournalOfSpec.pre enc Tryd.prog Tryd.f4 Rows.fnExactJournalOfRow.domain false w args ∧ laidMetH Tryd.prog Rows.fnExactJournalOfRow.laid w) ∧ sizedMet enc Tryd.prog Tryd.f4 (OpenSpec.ofChange Rows.fnExactJournalOfSpec) false w args)
      (Rows.fnExactJournalOfSpec.post enc Tryd.prog Tryd.f4 Rows.fnExactJournalOfRow.apart Rows.fnExactJournalOfRow.fresh Rows.fnExactJournalOfRow.handsOn Rows.fnExactJournalOfRow.again) := by
  refine liftedL (C := Tryd.checked) Tryd.own started (by kernel_rfl) Tryd.func4
    (ChangeSpec.witness_shaped (enc := enc) (C := Tryd.checked) (os := os) (X := fun w _ => laidMetH Tryd.prog Rows.fnExactJournalOfRow.laid w) false (World.laidAll Tryd.prog os Rows.fnExactJournalOfRow.laid) #[.slice none 0 0] 8 (World.laidAll_os _ _ _)
      (World.shaped_of_ZipB (by kernel_rfl) (by kernel_rfl)) (by kernel_rfl) (by kernel_rfl) (by kernel_rfl)
      (by rw [MakeChecks.laidMetH_plain _ _ _ (by kernel_rfl)]; exact laidMet_laidAll _ (by kernel_rfl) (by kernel_rfl)))
    Tryd.laidOut Tryd.mapsOut Tryd.full (of_decide_eq_true (by kernel_rfl)) (tb := 4) (by kernel_rfl) uB rfl (fun ds h => ?_) (fun W base args ds ps hL hval hA => ?_) (fun W hL => by
      rw [MakeChecks.laidMetH_plain _ _ _ (by kernel_rfl)] at hL
      exact lore_of_head hL.tail.tail)
  · match ds, h with
    | [d1], _ => exact ⟨rfl, rfl, rfl⟩
  · have hpar : Tryd.f4.params = #[25] := by kernel_rfl
    rw [hpar] at hA hval
    obtain ⟨v, d, rfl, rfl, h1⟩ := trodAll_one hA
    obtain ⟨n, x, hn, hx, s1⟩ := read_texts (e := 9) (by kernel_rfl) (by kernel_rfl) (by kernel_rfl) (hval 0 _ v rfl rfl) h1
    refine ⟨[listT false (fun _ => n) x], rfl, fun j a u ha hu => ?_, law_JournalOf n x hn hx⟩
    match j, ha, hu with
    | 0, ha, hu => cases ha; cases hu; exact s1
theorem JournalOf_said : Rows.FnExactJournalOfSaid :=
  OpenClaim.holds_of_wide 4 Tryd.f4 rfl rfl rfl rfl rfl rfl rfl ⟨rfl, rfl, rfl, rfl, rfl⟩ rfl rfl rfl rfl rfl (by kernel_rfl) Tryd.func4 (by kernel_rfl)
    (of_decide_eq_true (by kernel_rfl)) (by unfold Func.isWrapper; rw [if_neg (of_decide_eq_false (by kernel_rfl))]; exact ⟨rfl, rfl⟩)
    (fun os started H enc _ => lifted_JournalOf os started H enc)
theorem JournalOf_card : Rows.FnExactJournalOfCardSaid :=
  Claim7.holds_tied_plain_at .later [] [.data, .data, .data] true Rows.fnExactJournalOfCard.stood.harness true JournalOf_said (fun _ h => by cases h) (by kernel_rfl) (fun _ h => by cases h) fnExactJournalOf_row_tie rfl ⟨rfl, rfl⟩ (by kernel_rfl) rfl
    (fun f fn hf hfn => by
      obtain rfl : f = 4 := Option.some.inj ((show Tryd.prog.funcNamed "loop.example/g01403/laws.FnExactJournalOf" = some 4 by kernel_rfl).symm.trans hf) |>.symm
      obtain rfl : fn = Tryd.f4 := (Option.some.inj (Tryd.func4.symm.trans hfn)).symm
      exact ⟨by kernel_rfl, fun j t ht => by
        rw [show Tryd.f4.params = #[25] by kernel_rfl] at ht
        have hm : t ∈ [25] := by simpa using Array.mem_of_getElem? ht
        have hall : ([25].all fun u => !Tryd.prog.wantsStandIn u) = true := by kernel_rfl
        exact (show Tryd.prog.wantsStandIn t = false by simpa using List.all_eq_true.1 hall t hm)⟩)
    (by kernel_rfl)
end Go.Proofs.YtjlkflceicdcdaaDoor
