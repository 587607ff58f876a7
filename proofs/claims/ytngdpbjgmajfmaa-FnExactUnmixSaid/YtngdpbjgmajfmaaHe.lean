/- The mean of spectra on both sides. -/
import Derived.Test.YtngdpbjgmajfmaaHd
set_option linter.unusedSimpArgs false
set_option linter.unusedVariables false
namespace Go.Proofs.Ytngdpbjgmajfmaa
open Go.Aw
/-! Lists of lists, as a function by cases sees them. -/
def asLLg : AV → Option (Th Nat × (Th Nat → Nat → AV))
  | .ro false n 1 g => some (n, g)
  | .v (.slice none 0 0) => some (fun _ => 0, fun _ _ => .dead)
  | _ => none
theorem asLg_asL {a : AV} {p : Th Nat × (Th Nat → Nat → AV)} (h : asLg a = some p) : asL a = some p := by
  unfold asLg at h
  split at h <;> first | (cases h; done) | skip
  · exact h
  · exact h
def IsFFg (n : Th Nat) (g : Th Nat → Nat → AV) : Prop := n .u ≤ 9223372036854775807 ∧ ∀ i, i < n .u → ∃ k h, asLg (g (fun _ => i) 0) = some (k, h) ∧ IsF k h
theorem IsFFg.row {n : Th Nat} {g : Th Nat → Nat → AV} (h : IsFFg n g) {i : Nat} (hi : i < n .u) : rowN g i ≤ 9223372036854775807 := by
  obtain ⟨k, h', hk, hkF⟩ := h.2 i hi
  simp only [rowN, asLg_asL hk]
  exact hkF.1
theorem isFFg_ll {n : Th Nat} {k : Th Nat → Nat → Th Nat} {x : Th Nat → Nat → Th Nat → Nat → Th Nat} : IsFFg n (fun i c => .ro false (k i c) 1 fun j c' => .f .f32 (x i c j c')) ↔ n .u ≤ 9223372036854775807 ∧ ∀ i, i < n .u → (k (fun _ => i) 0) .u ≤ 9223372036854775807 :=
  ⟨fun h => ⟨h.1, fun i hi => by
    obtain ⟨k', h', hk, hkF⟩ := h.2 i hi
    simp only [asLg, Option.some.injEq, Prod.mk.injEq] at hk
    obtain ⟨rfl, rfl⟩ := hk
    exact hkF.1⟩, fun h => ⟨h.1, fun i hi => ⟨_, _, rfl, h.2 i hi, fun j hj => ⟨_, rfl⟩⟩⟩⟩
theorem Sub.asLLg {a : AV} {n : Th Nat} {g : Th Nat → Nat → AV} (h : asLLg a = some (n, g)) (hF : IsFFg n g) : Sub a (listFF false n (rowN g) (rowX g)) := by
  unfold Go.Proofs.Ytngdpbjgmajfmaa.asLLg at h
  split at h <;> cases h
  · intro w ρ N L v hs
    cases hs with
    | ro0 h0 => exact .ro0 h0
    | ro u hn hq hc hsim =>
      refine .ro u hn hq hc fun i c hi hcc => ?_
      obtain rfl : c = 0 := by omega
      obtain ⟨k, h, hk, hkF⟩ := hF.2 i hi
      have := Sub.asLg hk hkF _ _ _ _ _ (hsim i 0 hi (by omega))
      have e1 : rowN g i = k .u := by simp only [rowN, asLg_asL hk]
      have e2 : rowX g i = rdF h := by simp only [rowX, asLg_asL hk]
      simp only [e1, e2]
      exact this
  · intro w ρ N L v hs
    cases hs.v_inv
    exact .ro0 rfl
theorem allN_at {q : Nat → Bool} {n : Nat} (h : allN q n = true) {i : Nat} (hi : i < n) : q i = true := by
  simp only [allN, List.all_eq_true, List.mem_range] at h
  exact h i hi
theorem areS_facts {n : Nat} {m : Nat → Nat} {x : Nat → Nat → Nat} (h : areS n m x = true) : 1 ≤ n ∧ n ≤ 8 ∧ 1 ≤ m 0 ∧ m 0 ≤ 128 ∧ ∀ i, i < n → m i = m 0 ∧ isList (m i) (x i) = true := by
  simp only [areS, Bool.and_eq_true, decide_eq_true_eq] at h
  obtain ⟨h1, h2, h3⟩ := h
  have h0 := two_eq (allN_at h1 (i := 0) (by omega))
  refine ⟨h2, h3, h0.2.2, h0.2.1, fun i hi => ⟨(two_eq (allN_at h1 hi)).1, ?_⟩⟩
  have := allN_at h1 hi
  simp only [isTwo, Bool.and_eq_true] at this
  exact this.1
def colN (x : Nat → Nat → Nat) (k : Nat) : Nat → Nat
  | 0 => 0
  | n + 1 => fadd .f32 (colN x k n) (x n k)
def meanX (n : Nat) (x : Nat → Nat → Nat) (k : Nat) : Nat := fdiv .f32 (colN x k n) (itof .f32 (n : Int))
def okMean (n : Nat) (m : Nat → Nat) (x : Nat → Nat → Nat) : Bool := areS n m x && finN (m 0) (meanX n x)
def kMean : Kg
  | [a], [] => match asLLg a with
    | some (n, g) => some (ansL (fun _ => rowN g 0) (meanX (n .u) (rowX g)) (okMean (n .u) (rowN g) (rowX g)) (IsFFg n g))
    | none => none
  | _, _ => none
def ctSpecMeanS : CT := [(46, .r kAre), (47, .g 1 kGive)]
theorem ctSpecMeanS_ok : CTok Try.prog ctSpecMeanS := .cons l07Spectra_tells (.cons give_g (.nil _))
set_option maxHeartbeats 1000000 in
theorem specMeanS : Tells Try.prog 14 (.g 0 kMean) := by
  intro args Hc r hr
  unfold kMean at hr
  split at hr <;> first | (cases hr; done) | skip
  split at hr <;> cases hr
  rename_i n g hL
  refine AnsOk.two ttok Try.func14 rfl rfl (Nat.zero_le _) (Nat.zero_le _) (allFr_tup2 .own .b) (allFr_tup2 .v .b) .list .nil fun hF => ⟨[listFF false n (rowN g) (rowX g)], ⟨Sub.asLLg hL hF, trivial⟩, ?_⟩
  have hn := hF.1
  have hm := fun i => hF.row (i := i)
  generalize rowN g = m at hm
  generalize rowX g = x
  refine AW.exec ttok ctSpecMeanS_ok (by cbv) ?_
  simp only [natCast_int, Post, All, thenA, canon0, canon064, and_true, true_and, forall_const, implies_true, decide_eq_true_eq, decide_eq_false_iff_not, Bool.not_eq_true', Bool.not_eq_false', Bool.true_and, Bool.and_true, beq_true, beq_false, Int.toNat_natCast, Int.ofNat_lt, Int.ofNat_le, Nat.zero_add, Nat.add_zero, imp_self, Bool.cond_false_right, Bool.cond_true_left, Bool.cond_true_right, IsF, rdF_eq, fOf, AV.f.injEq, exists_eq', free_list, free_fn0, List.not_mem_nil, List.mem_cons, false_imp, forall_eq, or_false, free_i, free_f, free_b, ren_f, ren_i, ren_b, and_self, bne_iff_ne, bne_eq_false_iff_eq, ne_eq, Int.natCast_inj, or_true, true_or, freeB_list, unfr_f, unfr_i, unfr_b, unfr_c, unfr_s, free_c, free_s, ren_c, ren_s, unfr_ro, unfr_rptr, ren_ro, free_ll, free_box, kill_f, kill_i, kill_b, kill_c, kill_s, kill_rof, kill_rot, Int.toNat_zero, isFF_ll, rowN_ll, rowX_ll, AllFree, Option.some.injEq, Prod.mk.injEq, Bool.false_eq_true, Bool.true_eq_false, isFFg_ll, hn]
  (repeat' first | with_reducible assumption | with_reducible apply And.intro | with_reducible intro hh) <;> first | ((first | with_reducible show (_ : Int) ≤ _ | with_reducible show (_ : Int) < _ | with_reducible show (_ : Nat) ≤ _ | with_reducible show (_ : Nat) < _ | with_reducible show (_ : Int) = _ | with_reducible show (_ : Nat) = _ | with_reducible show ¬ _ | with_reducible show _ ≠ _) <;> first | omega | (simp only [Bool.and_eq_true, Bool.or_eq_false_iff, Bool.not_eq_false', Bool.not_eq_true', decide_eq_true_eq, decide_eq_false_iff_not] at *; omega) | (with_reducible assumption)) | (with_reducible assumption) | skip
  · exact okA.no (by simp only [okMean]; rw [‹areS _ _ _ = false›, Bool.false_and]) (fin_ret (.inl rfl) (by cbv) (by simp) (To.fresh noL_to))
  · have h1 := areS_facts ‹areS _ _ _ = true›; omega
  have h0 : areS (n .u) m x = true := by assumption
  have h1 := areS_facts h0
  have h2 := hm 0 (by omega)
  refine AW.loopH (ι := Nat) (fun k => k ≤ m 0) (fun k => m 0 - k) (fun k => mkE Try.f14.ntmps [(0, listFF false n m x), (4, .own 0 (fun _ => 0) (fun _ => k) 1), (15, .i .i64 fun _ => (m 0 : Int)), (16, .i .i64 fun _ => (k : Int))])
    (fun k => [blkF true (fun _ => k) (meanX (n .u) x)]) 0 (Nat.zero_le _) (To.list (Nat.zero_le _) (Nat.le_refl _) (fun e => e) (fun j hj => absurd hj (Nat.not_lt_zero _)) ?_) ?_
  · (repeat' first | exact AllTo.nil | apply AllTo.cons) <;> first | exact AvTo.dead _ | exact AvTo.i rfl | exact AvTo.own rfl rfl rfl rfl | exact Free.same (free_ll.2 trivial)
  · rintro Q' hQ k hk
    refine AW.exec ttok ctSpecMeanS_ok (by cbv) ?_
    simp only [natCast_int, Post, All, thenA, canon0, canon064, and_true, true_and, forall_const, implies_true, decide_eq_true_eq, decide_eq_false_iff_not, Bool.not_eq_true', Bool.not_eq_false', Bool.true_and, Bool.and_true, beq_true, beq_false, Int.toNat_natCast, Int.ofNat_lt, Int.ofNat_le, Nat.zero_add, Nat.add_zero, imp_self, Bool.cond_false_right, Bool.cond_true_left, Bool.cond_true_right, IsF, rdF_eq, fOf, AV.f.injEq, exists_eq', free_list, free_fn0, List.not_mem_nil, List.mem_cons, false_imp, forall_eq, or_false, free_i, free_f, free_b, ren_f, ren_i, ren_b, and_self, bne_iff_ne, bne_eq_false_iff_eq, ne_eq, Int.natCast_inj, or_true, true_or, freeB_list, unfr_f, unfr_i, unfr_b, unfr_c, unfr_s, free_c, free_s, ren_c, ren_s, unfr_ro, unfr_rptr, ren_ro, free_ll, free_box, kill_f, kill_i, kill_b, kill_c, kill_s, kill_rof, kill_rot, Int.toNat_zero, isFF_ll, rowN_ll, rowX_ll, AllFree, Option.some.injEq, Prod.mk.injEq, Bool.false_eq_true, Bool.true_eq_false, hn]
    (repeat' first | with_reducible assumption | with_reducible apply And.intro | with_reducible intro hh) <;> first | ((first | with_reducible show (_ : Int) ≤ _ | with_reducible show (_ : Int) < _ | with_reducible show (_ : Nat) ≤ _ | with_reducible show (_ : Nat) < _ | with_reducible show (_ : Int) = _ | with_reducible show (_ : Nat) = _ | with_reducible show ¬ _ | with_reducible show _ ≠ _) <;> first | omega | (simp only [Bool.and_eq_true, Bool.or_eq_false_iff, Bool.not_eq_false', Bool.not_eq_true', decide_eq_true_eq, decide_eq_false_iff_not] at *; omega) | (with_reducible assumption)) | (with_reducible assumption) | skip
    · refine AW.loopH (ι := Nat) (fun i => i ≤ n .u) (fun i => n .u - i) (fun i => mkE Try.f14.ntmps [(0, listFF false n m x), (4, .own 0 (fun _ => 0) (fun _ => k) 1), (5, .i .i64 fun _ => (k : Int)), (6, .f .f32 fun _ => colN x k i), (15, .i .i64 fun _ => (m 0 : Int)), (16, .i .i64 fun _ => (k : Int)), (20, .i .i64 fun _ => (n .u : Int)), (21, .i .i64 fun _ => (i : Int))])
        (fun i => [blkF true (fun _ => k) (meanX (n .u) x)]) 0 (Nat.zero_le _) (To.list (Nat.zero_le _) (Nat.le_refl _) (fun e => e) (fun j hj => AvTo.f rfl) ?_) ?_
      · (repeat' first | exact AllTo.nil | apply AllTo.cons) <;> first | exact AvTo.dead _ | exact AvTo.i rfl | exact AvTo.f rfl | exact AvTo.own rfl rfl rfl rfl | exact Free.same (free_ll.2 trivial)
      · rintro Q2 hQ2 i hi
        have hmi := h1.2.2.2.2 i
        refine AW.exec ttok ctSpecMeanS_ok (by cbv) ?_
        simp only [natCast_int, Post, All, thenA, canon0, canon064, and_true, true_and, forall_const, implies_true, decide_eq_true_eq, decide_eq_false_iff_not, Bool.not_eq_true', Bool.not_eq_false', Bool.true_and, Bool.and_true, beq_true, beq_false, Int.toNat_natCast, Int.ofNat_lt, Int.ofNat_le, Nat.zero_add, Nat.add_zero, imp_self, Bool.cond_false_right, Bool.cond_true_left, Bool.cond_true_right, IsF, rdF_eq, fOf, AV.f.injEq, exists_eq', free_list, free_fn0, List.not_mem_nil, List.mem_cons, false_imp, forall_eq, or_false, free_i, free_f, free_b, ren_f, ren_i, ren_b, and_self, bne_iff_ne, bne_eq_false_iff_eq, ne_eq, Int.natCast_inj, or_true, true_or, freeB_list, unfr_f, unfr_i, unfr_b, unfr_c, unfr_s, free_c, free_s, ren_c, ren_s, unfr_ro, unfr_rptr, ren_ro, free_ll, free_box, kill_f, kill_i, kill_b, kill_c, kill_s, kill_rof, kill_rot, Int.toNat_zero, isFF_ll, rowN_ll, rowX_ll, AllFree, Option.some.injEq, Prod.mk.injEq, Bool.false_eq_true, Bool.true_eq_false, hn]
        (repeat' first | with_reducible assumption | with_reducible apply And.intro | with_reducible intro hh) <;> first | ((first | with_reducible show (_ : Int) ≤ _ | with_reducible show (_ : Int) < _ | with_reducible show (_ : Nat) ≤ _ | with_reducible show (_ : Nat) < _ | with_reducible show (_ : Int) = _ | with_reducible show (_ : Nat) = _ | with_reducible show ¬ _ | with_reducible show _ ≠ _) <;> first | omega | (simp only [Bool.and_eq_true, Bool.or_eq_false_iff, Bool.not_eq_false', Bool.not_eq_true', decide_eq_true_eq, decide_eq_false_iff_not] at *; omega) | (with_reducible assumption)) | (with_reducible assumption) | skip
        · refine ⟨i + 1, by omega, by omega, To.list (Nat.zero_le _) (Nat.le_refl _) (fun e => e) (fun j hj => AvTo.f rfl) ?_⟩
          (repeat' first | exact AllTo.nil | apply AllTo.cons) <;> first | exact AvTo.dead _ | exact AvTo.i rfl | exact AvTo.i (by simp only [natCast_int]; omega) | exact AvTo.f rfl | exact AvTo.own rfl rfl rfl rfl | exact Free.same (free_ll.2 trivial) | exact Free.same .listF
        · obtain ⟨rfl⟩ := hQ2
          refine Post.eval (by cbv) ?_
          have e : i = n .u := by omega
          simp only [natCast_int, Post, All, thenA, canon0, canon064, and_true, true_and, forall_const, implies_true, decide_eq_true_eq, decide_eq_false_iff_not, Bool.not_eq_true', Bool.not_eq_false', Bool.true_and, Bool.and_true, beq_true, beq_false, Int.toNat_natCast, Int.ofNat_lt, Int.ofNat_le, Nat.zero_add, Nat.add_zero, imp_self, Bool.cond_false_right, Bool.cond_true_left, Bool.cond_true_right, IsF, rdF_eq, fOf, AV.f.injEq, exists_eq', free_list, free_fn0, List.not_mem_nil, List.mem_cons, false_imp, forall_eq, or_false, free_i, free_f, free_b, ren_f, ren_i, ren_b, and_self, bne_iff_ne, bne_eq_false_iff_eq, ne_eq, Int.natCast_inj, or_true, true_or, freeB_list, unfr_f, unfr_i, unfr_b, unfr_c, unfr_s, free_c, free_s, ren_c, ren_s, unfr_ro, unfr_rptr, ren_ro, free_ll, free_box, kill_f, kill_i, kill_b, kill_c, kill_s, kill_rof, kill_rot, Int.toNat_zero, isFF_ll, rowN_ll, rowX_ll, AllFree, Option.some.injEq, Prod.mk.injEq, Bool.false_eq_true, Bool.true_eq_false, hn, e]
          (repeat' first | with_reducible assumption | with_reducible apply And.intro | with_reducible intro hh) <;> first | ((first | with_reducible show (_ : Int) ≤ _ | with_reducible show (_ : Int) < _ | with_reducible show (_ : Nat) ≤ _ | with_reducible show (_ : Nat) < _ | with_reducible show (_ : Int) = _ | with_reducible show (_ : Nat) = _ | with_reducible show ¬ _ | with_reducible show _ ≠ _) <;> first | omega | (simp only [Bool.and_eq_true, Bool.or_eq_false_iff, Bool.not_eq_false', Bool.not_eq_true', decide_eq_true_eq, decide_eq_false_iff_not] at *; omega) | (with_reducible assumption)) | (with_reducible assumption) | skip
          refine ⟨k + 1, by omega, by omega, To.moved (k := 2) rfl (Nat.le_refl _) (fun e => e) (fun j hj => app_one hj (fun _ => AvTo.f rfl) fun e => AvTo.f (by rw [e]; rfl)) ?_⟩
          (repeat' first | exact AllTo.nil | apply AllTo.cons) <;> first | exact AvTo.dead _ | exact AvTo.i rfl | exact AvTo.i (by simp only [natCast_int]; omega) | exact AvTo.f rfl | exact AvTo.own rfl rfl rfl rfl | exact Free.same (free_ll.2 trivial) | exact Free.same .listF
    · obtain ⟨rfl⟩ := hQ
      refine Post.eval (by cbv) ?_
      have e : k = m 0 := by omega
      simp only [natCast_int, Post, All, thenA, canon0, canon064, and_true, true_and, forall_const, implies_true, decide_eq_true_eq, decide_eq_false_iff_not, Bool.not_eq_true', Bool.not_eq_false', Bool.true_and, Bool.and_true, beq_true, beq_false, Int.toNat_natCast, Int.ofNat_lt, Int.ofNat_le, Nat.zero_add, Nat.add_zero, imp_self, Bool.cond_false_right, Bool.cond_true_left, Bool.cond_true_right, IsF, rdF_eq, fOf, AV.f.injEq, exists_eq', free_list, free_fn0, List.not_mem_nil, List.mem_cons, false_imp, forall_eq, or_false, free_i, free_f, free_b, ren_f, ren_i, ren_b, and_self, bne_iff_ne, bne_eq_false_iff_eq, ne_eq, Int.natCast_inj, or_true, true_or, freeB_list, unfr_f, unfr_i, unfr_b, unfr_c, unfr_s, free_c, free_s, ren_c, ren_s, unfr_ro, unfr_rptr, ren_ro, free_ll, free_box, kill_f, kill_i, kill_b, kill_c, kill_s, kill_rof, kill_rot, Int.toNat_zero, isFF_ll, rowN_ll, rowX_ll, AllFree, Option.some.injEq, Prod.mk.injEq, Bool.false_eq_true, Bool.true_eq_false, e, h2]
      (repeat' first | with_reducible assumption | with_reducible apply And.intro | with_reducible intro hh) <;> first | ((first | with_reducible show (_ : Int) ≤ _ | with_reducible show (_ : Int) < _ | with_reducible show (_ : Nat) ≤ _ | with_reducible show (_ : Nat) < _ | with_reducible show (_ : Int) = _ | with_reducible show (_ : Nat) = _ | with_reducible show ¬ _ | with_reducible show _ ≠ _) <;> first | omega | (simp only [Bool.and_eq_true, Bool.or_eq_false_iff, Bool.not_eq_false', Bool.not_eq_true', decide_eq_true_eq, decide_eq_false_iff_not] at *; omega) | (with_reducible assumption)) | (with_reducible assumption) | skip
      · exact okA.yes (by simp only [okMean, h0, Bool.true_and]; assumption) (fin_ret (.inl rfl) (by cbv) (by simp) (To.list (Nat.zero_le _) (Nat.le_refl _) (fun e => e) (fun j hj => AvTo.f rfl) yesL_to))
      · exact okA.no (by simp only [okMean, h0, Bool.true_and]; assumption) (fin_ret (.inl rfl) (by cbv) (by simp) (To.fresh noL_to))
def ctImplMeanS : CT := [(48, .r kAre), (49, .g 0 kOver)]
theorem ctImplMeanS_ok : CTok Try.prog ctImplMeanS := .cons implAre (.cons over_g (.nil _))
set_option maxHeartbeats 1000000 in
theorem implMeanS : Tells Try.prog 16 (.g 0 kMean) := by
  intro args Hc r hr
  unfold kMean at hr
  split at hr <;> first | (cases hr; done) | skip
  split at hr <;> cases hr
  rename_i n g hL
  refine AnsOk.two ttok Try.func16 rfl rfl (Nat.zero_le _) (Nat.zero_le _) (allFr_tup2 .own .b) (allFr_tup2 .v .b) .list .nil fun hF => ⟨[listFF false n (rowN g) (rowX g)], ⟨Sub.asLLg hL hF, trivial⟩, ?_⟩
  have hn := hF.1
  have hm := fun i => hF.row (i := i)
  generalize rowN g = m at hm
  generalize rowX g = x
  refine AW.exec ttok ctImplMeanS_ok (by cbv) ?_
  simp only [natCast_int, Post, All, thenA, canon0, canon064, and_true, true_and, forall_const, implies_true, decide_eq_true_eq, decide_eq_false_iff_not, Bool.not_eq_true', Bool.not_eq_false', Bool.true_and, Bool.and_true, beq_true, beq_false, Int.toNat_natCast, Int.ofNat_lt, Int.ofNat_le, Nat.zero_add, Nat.add_zero, imp_self, Bool.cond_false_right, Bool.cond_true_left, Bool.cond_true_right, IsF, rdF_eq, fOf, AV.f.injEq, exists_eq', free_list, free_fn0, List.not_mem_nil, List.mem_cons, false_imp, forall_eq, or_false, free_i, free_f, free_b, ren_f, ren_i, ren_b, and_self, bne_iff_ne, bne_eq_false_iff_eq, ne_eq, Int.natCast_inj, or_true, true_or, freeB_list, unfr_f, unfr_i, unfr_b, unfr_c, unfr_s, free_c, free_s, ren_c, ren_s, unfr_ro, unfr_rptr, ren_ro, free_ll, free_box, kill_f, kill_i, kill_b, kill_c, kill_s, kill_rof, kill_rot, Int.toNat_zero, isFF_ll, rowN_ll, rowX_ll, AllFree, Option.some.injEq, Prod.mk.injEq, Bool.false_eq_true, Bool.true_eq_false, isFFg_ll, hn]
  (repeat' first | with_reducible assumption | with_reducible apply And.intro | with_reducible intro hh) <;> first | ((first | with_reducible show (_ : Int) ≤ _ | with_reducible show (_ : Int) < _ | with_reducible show (_ : Nat) ≤ _ | with_reducible show (_ : Nat) < _ | with_reducible show (_ : Int) = _ | with_reducible show (_ : Nat) = _ | with_reducible show ¬ _ | with_reducible show _ ≠ _) <;> first | omega | (simp only [Bool.and_eq_true, Bool.or_eq_false_iff, Bool.not_eq_false', Bool.not_eq_true', decide_eq_true_eq, decide_eq_false_iff_not] at *; omega) | (with_reducible assumption)) | (with_reducible assumption) | skip
  · exact okA.no (by simp only [okMean]; rw [‹areS _ _ _ = false›, Bool.false_and]) (fin_ret (.inl rfl) (by cbv) (by simp) (To.fresh noL_to))
  all_goals try (have h1 := areS_facts ‹areS _ _ _ = true›; have h2 := hm 0 (by omega))
  · omega
  · omega
  · omega
  have h0 : areS (n .u) m x = true := by assumption
  refine AW.loopH (ι := Nat) (fun i => i ≤ n .u) (fun i => n .u - i) (fun i => mkE Try.f16.ntmps [(0, listFF false n m x), (4, .own 0 (fun _ => 0) (fun _ => m 0) 1), (17, listFF false n m x), (18, .i .i64 fun _ => (n .u : Int)), (19, .i .i64 fun _ => (i : Int))])
    (fun i => [blkF true (fun _ => m 0) (fun k => colN x k i)]) 0 (Nat.zero_le _) (To.list (Nat.zero_le _) (Nat.le_refl _) (fun e => e) (fun j hj => AvTo.f rfl) ?_) ?_
  · (repeat' first | exact AllTo.nil | apply AllTo.cons) <;> first | exact AvTo.dead _ | exact AvTo.i rfl | exact AvTo.i (by simp only [natCast_int]; omega) | exact AvTo.f rfl | exact AvTo.own rfl rfl rfl rfl | exact Free.same (free_ll.2 trivial) | exact Free.same .listF
  · rintro Q' hQ i hi
    have hmi := h1.2.2.2.2 i
    refine AW.exec ttok ctImplMeanS_ok (by cbv) ?_
    simp only [natCast_int, Post, All, thenA, canon0, canon064, and_true, true_and, forall_const, implies_true, decide_eq_true_eq, decide_eq_false_iff_not, Bool.not_eq_true', Bool.not_eq_false', Bool.true_and, Bool.and_true, beq_true, beq_false, Int.toNat_natCast, Int.ofNat_lt, Int.ofNat_le, Nat.zero_add, Nat.add_zero, imp_self, Bool.cond_false_right, Bool.cond_true_left, Bool.cond_true_right, IsF, rdF_eq, fOf, AV.f.injEq, exists_eq', free_list, free_fn0, List.not_mem_nil, List.mem_cons, false_imp, forall_eq, or_false, free_i, free_f, free_b, ren_f, ren_i, ren_b, and_self, bne_iff_ne, bne_eq_false_iff_eq, ne_eq, Int.natCast_inj, or_true, true_or, freeB_list, unfr_f, unfr_i, unfr_b, unfr_c, unfr_s, free_c, free_s, ren_c, ren_s, unfr_ro, unfr_rptr, ren_ro, free_ll, free_box, kill_f, kill_i, kill_b, kill_c, kill_s, kill_rof, kill_rot, Int.toNat_zero, isFF_ll, rowN_ll, rowX_ll, AllFree, Option.some.injEq, Prod.mk.injEq, Bool.false_eq_true, Bool.true_eq_false, hn]
    (repeat' first | with_reducible assumption | with_reducible apply And.intro | with_reducible intro hh) <;> first | ((first | with_reducible show (_ : Int) ≤ _ | with_reducible show (_ : Int) < _ | with_reducible show (_ : Nat) ≤ _ | with_reducible show (_ : Nat) < _ | with_reducible show (_ : Int) = _ | with_reducible show (_ : Nat) = _ | with_reducible show ¬ _ | with_reducible show _ ≠ _) <;> first | omega | (simp only [Bool.and_eq_true, Bool.or_eq_false_iff, Bool.not_eq_false', Bool.not_eq_true', decide_eq_true_eq, decide_eq_false_iff_not] at *; omega) | (with_reducible assumption)) | (with_reducible assumption) | skip
    · refine AW.loopH (ι := Nat) (fun k => k ≤ m i) (fun k => m i - k) (fun k => mkE Try.f16.ntmps [(0, listFF false n m x), (4, .own 0 (fun _ => 0) (fun _ => m 0) 1), (17, listFF false n m x), (18, .i .i64 fun _ => (n .u : Int)), (19, .i .i64 fun _ => (i : Int)), (23, listF false (fun _ => m i) (x i)), (24, .i .i64 fun _ => (m i : Int)), (25, .i .i64 fun _ => (k : Int))])
        (fun k => [blkF true (fun _ => m 0) (fun j => bif decide (j < k) then colN x j (i + 1) else colN x j i)]) 0 (Nat.zero_le _) (To.list (Nat.zero_le _) (Nat.le_refl _) (fun e => e) (fun j hj => AvTo.f (by simp)) ?_) ?_
      · (repeat' first | exact AllTo.nil | apply AllTo.cons) <;> first | exact AvTo.dead _ | exact AvTo.i rfl | exact AvTo.i (by simp only [natCast_int]; omega) | exact AvTo.f rfl | exact AvTo.own rfl rfl rfl rfl | exact Free.same (free_ll.2 trivial) | exact Free.same .listF
      · rintro Q2 hQ2 k hk
        refine AW.exec ttok ctImplMeanS_ok (by cbv) ?_
        simp only [natCast_int, Post, All, thenA, canon0, canon064, and_true, true_and, forall_const, implies_true, decide_eq_true_eq, decide_eq_false_iff_not, Bool.not_eq_true', Bool.not_eq_false', Bool.true_and, Bool.and_true, beq_true, beq_false, Int.toNat_natCast, Int.ofNat_lt, Int.ofNat_le, Nat.zero_add, Nat.add_zero, imp_self, Bool.cond_false_right, Bool.cond_true_left, Bool.cond_true_right, IsF, rdF_eq, fOf, AV.f.injEq, exists_eq', free_list, free_fn0, List.not_mem_nil, List.mem_cons, false_imp, forall_eq, or_false, free_i, free_f, free_b, ren_f, ren_i, ren_b, and_self, bne_iff_ne, bne_eq_false_iff_eq, ne_eq, Int.natCast_inj, or_true, true_or, freeB_list, unfr_f, unfr_i, unfr_b, unfr_c, unfr_s, free_c, free_s, ren_c, ren_s, unfr_ro, unfr_rptr, ren_ro, free_ll, free_box, kill_f, kill_i, kill_b, kill_c, kill_s, kill_rof, kill_rot, Int.toNat_zero, isFF_ll, rowN_ll, rowX_ll, AllFree, Option.some.injEq, Prod.mk.injEq, Bool.false_eq_true, Bool.true_eq_false, hn]
        (repeat' first | with_reducible assumption | with_reducible apply And.intro | with_reducible intro hh) <;> first | ((first | with_reducible show (_ : Int) ≤ _ | with_reducible show (_ : Int) < _ | with_reducible show (_ : Nat) ≤ _ | with_reducible show (_ : Nat) < _ | with_reducible show (_ : Int) = _ | with_reducible show (_ : Nat) = _ | with_reducible show ¬ _ | with_reducible show _ ≠ _) <;> first | omega | (simp only [Bool.and_eq_true, Bool.or_eq_false_iff, Bool.not_eq_false', Bool.not_eq_true', decide_eq_true_eq, decide_eq_false_iff_not] at *; omega) | (with_reducible assumption)) | (with_reducible assumption) | skip
        · refine ⟨k + 1, by omega, by omega, To.list (Nat.zero_le _) (Nat.le_refl _) (fun e => e) (fun j hj => put_one (fun e => ?_) fun e => ?_) ?_⟩
          · rw [e]; exact AvTo.f (by simp [colN])
          · have e' : j ≠ k := e
            exact AvTo.f (by show (bif decide (j < k) then _ else _) = (bif decide (j < k + 1) then _ else _); rw [show decide (j < k + 1) = decide (j < k) from decide_eq_decide.2 (by omega)])
          (repeat' first | exact AllTo.nil | apply AllTo.cons) <;> first | exact AvTo.dead _ | exact AvTo.i rfl | exact AvTo.i (by simp only [natCast_int]; omega) | exact AvTo.f rfl | exact AvTo.own rfl rfl rfl rfl | exact Free.same (free_ll.2 trivial) | exact Free.same .listF
        · obtain ⟨rfl⟩ := hQ2
          refine Post.eval (by cbv) ?_
          simp only [natCast_int, Post, All, thenA, canon0, canon064, and_true, true_and, forall_const, implies_true, decide_eq_true_eq, decide_eq_false_iff_not, Bool.not_eq_true', Bool.not_eq_false', Bool.true_and, Bool.and_true, beq_true, beq_false, Int.toNat_natCast, Int.ofNat_lt, Int.ofNat_le, Nat.zero_add, Nat.add_zero, imp_self, Bool.cond_false_right, Bool.cond_true_left, Bool.cond_true_right, IsF, rdF_eq, fOf, AV.f.injEq, exists_eq', free_list, free_fn0, List.not_mem_nil, List.mem_cons, false_imp, forall_eq, or_false, free_i, free_f, free_b, ren_f, ren_i, ren_b, and_self, bne_iff_ne, bne_eq_false_iff_eq, ne_eq, Int.natCast_inj, or_true, true_or, freeB_list, unfr_f, unfr_i, unfr_b, unfr_c, unfr_s, free_c, free_s, ren_c, ren_s, unfr_ro, unfr_rptr, ren_ro, free_ll, free_box, kill_f, kill_i, kill_b, kill_c, kill_s, kill_rof, kill_rot, Int.toNat_zero, isFF_ll, rowN_ll, rowX_ll, AllFree, Option.some.injEq, Prod.mk.injEq, Bool.false_eq_true, Bool.true_eq_false, hn]
          (repeat' first | with_reducible assumption | with_reducible apply And.intro | with_reducible intro hh) <;> first | ((first | with_reducible show (_ : Int) ≤ _ | with_reducible show (_ : Int) < _ | with_reducible show (_ : Nat) ≤ _ | with_reducible show (_ : Nat) < _ | with_reducible show (_ : Int) = _ | with_reducible show (_ : Nat) = _ | with_reducible show ¬ _ | with_reducible show _ ≠ _) <;> first | omega | (simp only [Bool.and_eq_true, Bool.or_eq_false_iff, Bool.not_eq_false', Bool.not_eq_true', decide_eq_true_eq, decide_eq_false_iff_not] at *; omega) | (with_reducible assumption)) | (with_reducible assumption) | skip
          refine ⟨i + 1, by omega, by omega, To.list (Nat.zero_le _) (Nat.le_refl _) (fun e => e) (fun j hj => AvTo.f ?_) ?_⟩
          · simp only [show decide (j < k) = true from decide_eq_true (by omega), cond_true]
          (repeat' first | exact AllTo.nil | apply AllTo.cons) <;> first | exact AvTo.dead _ | exact AvTo.i rfl | exact AvTo.i (by simp only [natCast_int]; omega) | exact AvTo.f rfl | exact AvTo.own rfl rfl rfl rfl | exact Free.same (free_ll.2 trivial) | exact Free.same .listF
    · obtain ⟨rfl⟩ := hQ
      refine Post.eval (by cbv) ?_
      have e : i = n .u := by omega
      simp only [natCast_int, Post, All, thenA, canon0, canon064, and_true, true_and, forall_const, implies_true, decide_eq_true_eq, decide_eq_false_iff_not, Bool.not_eq_true', Bool.not_eq_false', Bool.true_and, Bool.and_true, beq_true, beq_false, Int.toNat_natCast, Int.ofNat_lt, Int.ofNat_le, Nat.zero_add, Nat.add_zero, imp_self, Bool.cond_false_right, Bool.cond_true_left, Bool.cond_true_right, IsF, rdF_eq, fOf, AV.f.injEq, exists_eq', free_list, free_fn0, List.not_mem_nil, List.mem_cons, false_imp, forall_eq, or_false, free_i, free_f, free_b, ren_f, ren_i, ren_b, and_self, bne_iff_ne, bne_eq_false_iff_eq, ne_eq, Int.natCast_inj, or_true, true_or, freeB_list, unfr_f, unfr_i, unfr_b, unfr_c, unfr_s, free_c, free_s, ren_c, ren_s, unfr_ro, unfr_rptr, ren_ro, free_ll, free_box, kill_f, kill_i, kill_b, kill_c, kill_s, kill_rof, kill_rot, Int.toNat_zero, isFF_ll, rowN_ll, rowX_ll, AllFree, Option.some.injEq, Prod.mk.injEq, Bool.false_eq_true, Bool.true_eq_false, e, h2, hn]
      (repeat' first | with_reducible assumption | with_reducible apply And.intro | with_reducible intro hh) <;> first | ((first | with_reducible show (_ : Int) ≤ _ | with_reducible show (_ : Int) < _ | with_reducible show (_ : Nat) ≤ _ | with_reducible show (_ : Nat) < _ | with_reducible show (_ : Int) = _ | with_reducible show (_ : Nat) = _ | with_reducible show ¬ _ | with_reducible show _ ≠ _) <;> first | omega | (simp only [Bool.and_eq_true, Bool.or_eq_false_iff, Bool.not_eq_false', Bool.not_eq_true', decide_eq_true_eq, decide_eq_false_iff_not] at *; omega) | (with_reducible assumption)) | (with_reducible assumption) | skip
      · exact okA.yes (by simp only [okMean, h0, Bool.true_and]; assumption) (fin_ret (.inl rfl) (by cbv) (by simp) (To.moved (k := 1) rfl (Nat.le_refl _) (fun e => e) (fun j hj => AvTo.f rfl) (.cons (.tup (.cons (.own rfl rfl rfl rfl) (.cons (.b rfl) .nil))) .nil)))
      · exact okA.no (by simp only [okMean, h0, Bool.true_and]; assumption) (fin_ret (.inl rfl) (by cbv) (by simp) (To.fresh noL_to))
end Go.Proofs.Ytngdpbjgmajfmaa
