/- Lists of whole numbers: the laws' own comparisons, marks and readings of marks. -/
import Derived.Test.YtgbfngkmnodgdaaFd
set_option linter.unusedSimpArgs false
set_option linter.unusedVariables false
namespace Go.Proofs.Ytgbfngkmnodgdaa
open Go.Aw
def iOf : AV → Int
  | .i _ x => x .u
  | _ => 0
def rdI (g : Th Nat → Nat → AV) : Nat → Int := fun i => iOf (g (fun _ => i) 0)
theorem rdI_eq (g : Th Nat → Nat → AV) : rdI g = fun i => iOf (g (fun _ => i) 0) := rfl
def IsI (n : Th Nat) (g : Th Nat → Nat → AV) : Prop := n .u ≤ 9223372036854775807 ∧ ∀ i, i < n .u → ∃ y, g (fun _ => i) 0 = .i .i64 y
abbrev listI (fr : Bool) (n : Th Nat) (x : Nat → Int) : AV := .ro fr n 1 fun i _ => .i .i64 fun _ => x (i .u)
abbrev blkI (fr : Bool) (n : Th Nat) (x : Nat → Int) : Option (Bool × Blk) := some (fr, .tab n 1 fun i _ => .i .i64 fun _ => x (i .u))
theorem Free.listI {fr : Bool} {n : Th Nat} {x : Th Nat → Nat → Th Int} : Free (.ro fr n 1 fun i c => .i .i64 (x i c)) := .ro fun _ _ _ _ => .i
theorem Sub.asI {a : AV} {n : Th Nat} {g : Th Nat → Nat → AV} (h : asL a = some (n, g)) (hI : IsI n g) : Sub (unfr a) (.ro false n 1 fun i _ => .i .i64 fun _ => rdI g (i .u)) := by
  unfold asL at h
  split at h <;> cases h
  · intro w ρ N L v hs
    simp only [unfr] at hs
    cases hs with
    | ro0 h0 => exact .ro0 h0
    | ro u hn hq hc hsim =>
      refine .ro u hn hq hc fun i c hi hcc => ?_
      obtain rfl : c = 0 := by omega
      obtain ⟨y, hy⟩ := hI.2 i hi
      have := hsim i 0 hi (by omega)
      simp only [hy, unfr] at this
      simp only [rdI, hy, iOf]
      exact this
  · intro w ρ N L v hs
    simp only [unfr] at hs
    cases hs.v_inv
    exact .ro0 rfl
def eqIL (n : Nat) (x : Nat → Int) (m : Nat) (y : Nat → Int) : Bool := decide (n = m) && allN (fun i => x i == y i) n
theorem eqIL_self (n : Nat) (x : Nat → Int) : eqIL n x n x = true := by
  simp only [eqIL, decide_true, Bool.true_and]
  exact allN_true fun j _ => beq_self_eq_true _
def kEqI : Kr
  | [a, b] => match asL a, asL b with
    | some (n, g), some (m, h) => some (.b fun _ => eqIL (n .u) (rdI g) (m .u) (rdI h), [], fun _ => IsI n g ∧ IsI m h)
    | _, _ => none
  | _ => none
theorem eqI_tells : Tells Try.prog 15 (.r kEqI) := by
  intro args r H' p hr hp
  unfold kEqI at hr
  split at hr <;> first | (cases hr; done) | skip
  split at hr <;> cases hr
  rename_i n g m h hL hL'
  obtain ⟨hp, hp'⟩ := hp
  refine ⟨.b, .nil, Con.pre (args' := [listI false n (rdI g), listI false m (rdI h)]) ⟨Sub.asI hL hp, Sub.asI hL' hp', trivial⟩ ?_⟩
  have hn := hp.1
  generalize rdI g = x
  generalize rdI h = y
  refine Con.of ttok Try.func15 rfl rfl (Nat.zero_le _) (AW.exec ttok (CTok.nil _) (by cbv) ?_)
  simp only [natCast_int, Post, All, thenA, canon0, canon064, and_true, true_and, forall_const, implies_true, decide_eq_true_eq, decide_eq_false_iff_not, Bool.not_eq_true', Bool.not_eq_false', Bool.true_and, Bool.and_true, beq_true, beq_false, Int.toNat_natCast, Int.ofNat_lt, Int.ofNat_le, Nat.zero_add, Nat.add_zero, imp_self, Bool.cond_false_right, Bool.cond_true_left, Bool.cond_true_right, IsF, rdF_eq, fOf, AV.f.injEq, exists_eq', free_list, free_fn0, List.not_mem_nil, List.mem_cons, false_imp, forall_eq, or_false, free_i, free_f, free_b, ren_f, ren_i, ren_b, and_self, bne_iff_ne, bne_eq_false_iff_eq, ne_eq, Int.natCast_inj, or_true, true_or, freeB_list, unfr_f, unfr_i, unfr_b, unfr_c, unfr_s, free_c, free_s, ren_c, ren_s, unfr_ro, unfr_rptr, ren_ro, free_ll, free_box, kill_f, kill_i, kill_b, kill_c, kill_s, kill_rof, kill_rot, Int.toNat_zero, isFF_ll, rowN_ll, rowX_ll, AllFree, Option.some.injEq, Prod.mk.injEq, Bool.false_eq_true, Bool.true_eq_false]
  refine ⟨fun h1 => ?_, fun h1 => ?_⟩
  · refine fin_ret (.inl rfl) (by cbv) (by simp) (To.fresh (.cons (.b ?_) .nil))
    simp only [eqIL, decide_eq_false h1, Bool.false_and]
  have hnm : n .u = m .u := h1
  refine AW.loopTo (ι := Nat) (fun i => i ≤ n .u ∧ ∀ j, j < i → (x j == y j) = true) (fun i => n .u - i) (fun i => mkE Try.f15.ntmps [(0, listI false n x), (1, listI false m y), (5, .i .i64 fun _ => (i : Int))])
    (fun _ => []) 0 ⟨Nat.zero_le _, fun j hj => absurd hj (Nat.not_lt_zero _)⟩ (To.same (Nat.le_refl _) trivial ?_) ?_
  · (repeat' first | exact AllTo.nil | apply AllTo.cons) <;> first | exact AvTo.dead _ | exact AvTo.i rfl | exact Free.same Free.listI | skip
  · rintro i ⟨hi, hx⟩
    refine AW.exec ttok (CTok.nil _) (by cbv) ?_
    simp only [natCast_int, Post, All, thenA, canon0, canon064, and_true, true_and, forall_const, implies_true, decide_eq_true_eq, decide_eq_false_iff_not, Bool.not_eq_true', Bool.not_eq_false', Bool.true_and, Bool.and_true, beq_true, beq_false, Int.toNat_natCast, Int.ofNat_lt, Int.ofNat_le, Nat.zero_add, Nat.add_zero, imp_self, Bool.cond_false_right, Bool.cond_true_left, Bool.cond_true_right, IsF, rdF_eq, fOf, AV.f.injEq, exists_eq', free_list, free_fn0, List.not_mem_nil, List.mem_cons, false_imp, forall_eq, or_false, free_i, free_f, free_b, ren_f, ren_i, ren_b, and_self, bne_iff_ne, bne_eq_false_iff_eq, ne_eq, Int.natCast_inj, or_true, true_or, freeB_list, unfr_f, unfr_i, unfr_b, unfr_c, unfr_s, free_c, free_s, ren_c, ren_s, unfr_ro, unfr_rptr, ren_ro, free_ll, free_box, kill_f, kill_i, kill_b, kill_c, kill_s, kill_rof, kill_rot, Int.toNat_zero, isFF_ll, rowN_ll, rowX_ll, AllFree, Option.some.injEq, Prod.mk.injEq, Bool.false_eq_true, Bool.true_eq_false]
    (repeat' first | with_reducible assumption | with_reducible apply And.intro | with_reducible intro hh) <;> first | ((first | with_reducible show (_ : Int) ≤ _ | with_reducible show (_ : Int) < _ | with_reducible show (_ : Nat) ≤ _ | with_reducible show (_ : Nat) < _ | with_reducible show (_ : Int) = _ | with_reducible show (_ : Nat) = _ | with_reducible show ¬ _ | with_reducible show _ ≠ _) <;> first | omega | (simp only [Bool.and_eq_true, Bool.or_eq_false_iff, Bool.not_eq_false', Bool.not_eq_true', decide_eq_true_eq, decide_eq_false_iff_not] at *; omega) | (with_reducible assumption)) | (with_reducible assumption) | skip
    · rename_i hh
      refine Post.leaf (by cbv) (fin_ret (.inl rfl) (by cbv) (by simp) (To.fresh ⟨.b ?_, trivial⟩))
      simp only [eqIL]
      rw [allN_false ‹i < n .u› (q := fun i => x i == y i) (by simpa using hh), Bool.and_false]
    · refine ⟨i + 1, ⟨by omega, lt_succ_all hx (by simpa using ‹x i = y i›)⟩, by omega, To.same (Nat.le_refl _) trivial ?_⟩
      (repeat' first | exact AllTo.nil | apply AllTo.cons) <;> first | exact AvTo.dead _ | exact AvTo.i rfl | exact Free.same Free.listI | skip
    · refine Post.eval (by cbv) ?_
      simp only [natCast_int, Post, All, thenA, canon0, canon064, and_true, true_and, forall_const, implies_true, decide_eq_true_eq, decide_eq_false_iff_not, Bool.not_eq_true', Bool.not_eq_false', Bool.true_and, Bool.and_true, beq_true, beq_false, Int.toNat_natCast, Int.ofNat_lt, Int.ofNat_le, Nat.zero_add, Nat.add_zero, imp_self, Bool.cond_false_right, Bool.cond_true_left, Bool.cond_true_right, IsF, rdF_eq, fOf, AV.f.injEq, exists_eq', free_list, free_fn0, List.not_mem_nil, List.mem_cons, false_imp, forall_eq, or_false, free_i, free_f, free_b, ren_f, ren_i, ren_b, and_self, bne_iff_ne, bne_eq_false_iff_eq, ne_eq, Int.natCast_inj, or_true, true_or, freeB_list, unfr_f, unfr_i, unfr_b, unfr_c, unfr_s, free_c, free_s, ren_c, ren_s, unfr_ro, unfr_rptr, ren_ro, free_ll, free_box, kill_f, kill_i, kill_b, kill_c, kill_s, kill_rof, kill_rot, Int.toNat_zero, isFF_ll, rowN_ll, rowX_ll, AllFree, Option.some.injEq, Prod.mk.injEq, Bool.false_eq_true, Bool.true_eq_false]
      have e : i = n .u := by omega
      refine fin_ret (.inl rfl) (by cbv) (by simp) (To.fresh ⟨.b ?_, trivial⟩)
      simp only [eqIL, hnm, decide_true, Bool.true_and]
      exact (allN_true (hnm ▸ e ▸ hx)).symm
def kMarkI : Km
  | i, n, 1, [.i .i64 k], .tab m 1 g => some (.i .i64 fun _ => k .u + (n .u : Int), .tab m 1 fun i _ => .i .i64 fun _ => k .u + (i .u : Int), fun _ => IsI m g ∧ i .u = 0 ∧ n .u = m .u ∧ n .u ≤ 1048576 ∧ 0 ≤ k .u ∧ k .u ≤ 1099511627776)
  | _, _, _, _, _ => none
def kMarkNilI : Kr
  | [.v (.slice none 0 0), .i .i64 k] => some (.i .i64 fun _ => k .u, [], fun _ => True)
  | _ => none
theorem markNilI_tells : Tells Try.prog 20 (.r kMarkNilI) := by
  intro args r H' p hr hp
  unfold kMarkNilI at hr
  split at hr <;> cases hr
  rename_i k
  refine ⟨.i, .nil, ?_⟩
  refine Con.of ttok Try.func20 rfl rfl (Nat.le_refl _) (AW.exec ttok (CTok.nil _) (by cbv) ?_)
  simp only [natCast_int, Post, All, thenA, canon0, canon064, and_true, true_and, forall_const, implies_true, decide_eq_true_eq, decide_eq_false_iff_not, Bool.not_eq_true', Bool.not_eq_false', Bool.true_and, Bool.and_true, beq_true, beq_false, Int.toNat_natCast, Int.ofNat_lt, Int.ofNat_le, Nat.zero_add, Nat.add_zero, imp_self, Bool.cond_false_right, Bool.cond_true_left, Bool.cond_true_right, IsF, rdF_eq, fOf, AV.f.injEq, exists_eq', free_list, free_fn0, List.not_mem_nil, List.mem_cons, false_imp, forall_eq, or_false, free_i, free_f, free_b, ren_f, ren_i, ren_b, and_self, bne_iff_ne, bne_eq_false_iff_eq, ne_eq, Int.natCast_inj, or_true, true_or, freeB_list, unfr_f, unfr_i, unfr_b, unfr_c, unfr_s, free_c, free_s, ren_c, ren_s, unfr_ro, unfr_rptr, ren_ro, free_ll, free_box, kill_f, kill_i, kill_b, kill_c, kill_s, kill_rof, kill_rot, Int.toNat_zero, isFF_ll, rowN_ll, rowX_ll, AllFree, Option.some.injEq, Prod.mk.injEq, Bool.false_eq_true, Bool.true_eq_false]
  refine AW.loopTo (ι := Nat) (fun i => i = 0) (fun i => i) (fun i => mkE Try.f20.ntmps [(0, .v (.slice none 0 0)), (1, .i .i64 k), (5, .i .i64 fun _ => 0)]) (fun _ => []) 0 rfl (To.same (Nat.le_refl _) trivial ?_) ?_
  · (repeat' first | exact AllTo.nil | apply AllTo.cons) <;> first | exact AvTo.dead _ | exact AvTo.i rfl | exact AvTo.i (by first | omega | (simp only [natCast_int]; omega)) | exact AvTo.f rfl | exact AvTo.b rfl | exact AvTo.v _ | exact AvTo.own rfl rfl rfl rfl | exact AvTo.own rfl rfl (by first | rfl | omega) (by first | rfl | omega) | exact Free.same .listF | exact Free.same (.fn (by simp) (by simp)) | skip
  · rintro q rfl
    refine AW.exec ttok (CTok.nil _) (by cbv) ?_
    simp only [natCast_int, Post, All, thenA, canon0, canon064, and_true, true_and, forall_const, implies_true, decide_eq_true_eq, decide_eq_false_iff_not, Bool.not_eq_true', Bool.not_eq_false', Bool.true_and, Bool.and_true, beq_true, beq_false, Int.toNat_natCast, Int.ofNat_lt, Int.ofNat_le, Nat.zero_add, Nat.add_zero, imp_self, Bool.cond_false_right, Bool.cond_true_left, Bool.cond_true_right, IsF, rdF_eq, fOf, AV.f.injEq, exists_eq', free_list, free_fn0, List.not_mem_nil, List.mem_cons, false_imp, forall_eq, or_false, free_i, free_f, free_b, ren_f, ren_i, ren_b, and_self, bne_iff_ne, bne_eq_false_iff_eq, ne_eq, Int.natCast_inj, or_true, true_or, freeB_list, unfr_f, unfr_i, unfr_b, unfr_c, unfr_s, free_c, free_s, ren_c, ren_s, unfr_ro, unfr_rptr, ren_ro, free_ll, free_box, kill_f, kill_i, kill_b, kill_c, kill_s, kill_rof, kill_rot, Int.toNat_zero, isFF_ll, rowN_ll, rowX_ll, AllFree, Option.some.injEq, Prod.mk.injEq, Bool.false_eq_true, Bool.true_eq_false, Int.lt_irrefl, decide_false]
    (repeat' first | with_reducible assumption | with_reducible apply And.intro | with_reducible intro hh) <;> first | ((first | with_reducible show (_ : Int) ≤ _ | with_reducible show (_ : Int) < _ | with_reducible show (_ : Nat) ≤ _ | with_reducible show (_ : Nat) < _ | with_reducible show (_ : Int) = _ | with_reducible show (_ : Nat) = _ | with_reducible show ¬ _ | with_reducible show _ ≠ _) <;> first | omega | (simp only [Bool.and_eq_true, Bool.or_eq_false_iff, Bool.not_eq_false', Bool.not_eq_true', decide_eq_true_eq, decide_eq_false_iff_not] at *; omega) | (with_reducible assumption)) | (with_reducible assumption) | skip
    all_goals first | (exfalso; simp_all; done) | skip
    refine Post.eval (by cbv) ?_
    simp only [natCast_int, Post, All, thenA, canon0, canon064, and_true, true_and, forall_const, implies_true, decide_eq_true_eq, decide_eq_false_iff_not, Bool.not_eq_true', Bool.not_eq_false', Bool.true_and, Bool.and_true, beq_true, beq_false, Int.toNat_natCast, Int.ofNat_lt, Int.ofNat_le, Nat.zero_add, Nat.add_zero, imp_self, Bool.cond_false_right, Bool.cond_true_left, Bool.cond_true_right, IsF, rdF_eq, fOf, AV.f.injEq, exists_eq', free_list, free_fn0, List.not_mem_nil, List.mem_cons, false_imp, forall_eq, or_false, free_i, free_f, free_b, ren_f, ren_i, ren_b, and_self, bne_iff_ne, bne_eq_false_iff_eq, ne_eq, Int.natCast_inj, or_true, true_or, freeB_list, unfr_f, unfr_i, unfr_b, unfr_c, unfr_s, free_c, free_s, ren_c, ren_s, unfr_ro, unfr_rptr, ren_ro, free_ll, free_box, kill_f, kill_i, kill_b, kill_c, kill_s, kill_rof, kill_rot, Int.toNat_zero, isFF_ll, rowN_ll, rowX_ll, AllFree, Option.some.injEq, Prod.mk.injEq, Bool.false_eq_true, Bool.true_eq_false]
    exact fin_ret (.inl rfl) (by cbv) (by simp) (To.fresh (.cons (.i rfl) .nil))
theorem markI_tells : Tells Try.prog 20 (.m kMarkI kMarkNilI) := by
  refine ⟨markNilI_tells, ?_⟩
  intro i n sz args B r B' p hr hp
  unfold kMarkI at hr
  split at hr <;> cases hr
  rename_i k m g
  obtain ⟨hp, hi, hn, hn1, hk0, hk1⟩ := hp
  refine ⟨.i, .tab fun _ _ _ _ => .i, ?_⟩
  refine Con.of ttok Try.func20 rfl rfl (Nat.le_refl _) (AW.exec ttok (CTok.nil _) (by cbv) ?_)
  simp only [natCast_int, Post, All, thenA, canon0, canon064, and_true, true_and, forall_const, implies_true, decide_eq_true_eq, decide_eq_false_iff_not, Bool.not_eq_true', Bool.not_eq_false', Bool.true_and, Bool.and_true, beq_true, beq_false, Int.toNat_natCast, Int.ofNat_lt, Int.ofNat_le, Nat.zero_add, Nat.add_zero, imp_self, Bool.cond_false_right, Bool.cond_true_left, Bool.cond_true_right, IsF, rdF_eq, fOf, AV.f.injEq, exists_eq', free_list, free_fn0, List.not_mem_nil, List.mem_cons, false_imp, forall_eq, or_false, free_i, free_f, free_b, ren_f, ren_i, ren_b, and_self, bne_iff_ne, bne_eq_false_iff_eq, ne_eq, Int.natCast_inj, or_true, true_or, freeB_list, unfr_f, unfr_i, unfr_b, unfr_c, unfr_s, free_c, free_s, ren_c, ren_s, unfr_ro, unfr_rptr, ren_ro, free_ll, free_box, kill_f, kill_i, kill_b, kill_c, kill_s, kill_rof, kill_rot, Int.toNat_zero, isFF_ll, rowN_ll, rowX_ll, AllFree, Option.some.injEq, Prod.mk.injEq, Bool.false_eq_true, Bool.true_eq_false]
  refine AW.loopTo (ι := Nat) (fun i => i ≤ m .u) (fun i => m .u - i) (fun i => mkE Try.f20.ntmps [(0, .own 0 (fun _ => 0) m 1), (1, .i .i64 fun _ => k .u + (i : Int)), (5, .i .i64 fun _ => (i : Int))])
    (fun i => [some (false, .tab m 1 fun j _ => .i .i64 fun _ => bif decide (j .u < i) then k .u + (j .u : Int) else rdI g (j .u))]) 0 (Nat.zero_le _) (To.list (Nat.le_refl _) (Nat.le_refl _) (fun e => e) (fun j hj => ?_) ?_) ?_
  · obtain ⟨y, hy⟩ := hp.2 j hj
    simp only [hy, unfr]
    exact AvTo.i (by simp [rdI, iOf, hy])
  · (repeat' first | exact AllTo.nil | apply AllTo.cons) <;> first | exact AvTo.dead _ | exact AvTo.i rfl | exact AvTo.i (by simp) | exact AvTo.own rfl rfl hi hn | skip
  · rintro q hq
    refine AW.exec ttok (CTok.nil _) (by cbv) ?_
    simp only [natCast_int, Post, All, thenA, canon0, canon064, and_true, true_and, forall_const, implies_true, decide_eq_true_eq, decide_eq_false_iff_not, Bool.not_eq_true', Bool.not_eq_false', Bool.true_and, Bool.and_true, beq_true, beq_false, Int.toNat_natCast, Int.ofNat_lt, Int.ofNat_le, Nat.zero_add, Nat.add_zero, imp_self, Bool.cond_false_right, Bool.cond_true_left, Bool.cond_true_right, IsF, rdF_eq, fOf, AV.f.injEq, exists_eq', free_list, free_fn0, List.not_mem_nil, List.mem_cons, false_imp, forall_eq, or_false, free_i, free_f, free_b, ren_f, ren_i, ren_b, and_self, bne_iff_ne, bne_eq_false_iff_eq, ne_eq, Int.natCast_inj, or_true, true_or, freeB_list, unfr_f, unfr_i, unfr_b, unfr_c, unfr_s, free_c, free_s, ren_c, ren_s, unfr_ro, unfr_rptr, ren_ro, free_ll, free_box, kill_f, kill_i, kill_b, kill_c, kill_s, kill_rof, kill_rot, Int.toNat_zero, isFF_ll, rowN_ll, rowX_ll, AllFree, Option.some.injEq, Prod.mk.injEq, Bool.false_eq_true, Bool.true_eq_false]
    (repeat' first | with_reducible assumption | with_reducible apply And.intro | with_reducible intro hh) <;> first | ((first | with_reducible show (_ : Int) ≤ _ | with_reducible show (_ : Int) < _ | with_reducible show (_ : Nat) ≤ _ | with_reducible show (_ : Nat) < _ | with_reducible show (_ : Int) = _ | with_reducible show (_ : Nat) = _ | with_reducible show ¬ _ | with_reducible show _ ≠ _) <;> first | omega | (simp only [Bool.and_eq_true, Bool.or_eq_false_iff, Bool.not_eq_false', Bool.not_eq_true', decide_eq_true_eq, decide_eq_false_iff_not] at *; omega) | (with_reducible assumption)) | (with_reducible assumption) | skip
    · refine ⟨q + 1, by omega, by omega, To.list (Nat.le_refl _) (Nat.le_refl _) (fun e => e) (fun j hj => ?_) ?_⟩
      · by_cases e : j = q
        · subst e
          simp only [if_true, List.length_cons, List.length_nil, Nat.zero_add, Nat.le_refl, Nat.zero_lt_one, and_self, Nat.sub_self, List.getD_cons_zero]
          exact AvTo.i (by simp only [Nat.lt_succ_self, decide_true, cond_true])
        · simp only [e, if_false]
          exact AvTo.i (by simp only [show (j < q + 1) ↔ j < q by omega])
      · (repeat' first | exact AllTo.nil | apply AllTo.cons) <;> first | exact AvTo.dead _ | exact AvTo.i rfl | exact AvTo.i (by first | omega | (simp only [natCast_int]; omega)) | exact AvTo.f rfl | exact AvTo.b rfl | exact AvTo.v _ | exact AvTo.own rfl rfl rfl rfl | exact AvTo.own rfl rfl (by first | rfl | omega) (by first | rfl | omega) | exact Free.same .listF | exact Free.same (.fn (by simp) (by simp)) | skip
    · refine Post.eval (by cbv) ?_
      simp only [natCast_int, Post, All, thenA, canon0, canon064, and_true, true_and, forall_const, implies_true, decide_eq_true_eq, decide_eq_false_iff_not, Bool.not_eq_true', Bool.not_eq_false', Bool.true_and, Bool.and_true, beq_true, beq_false, Int.toNat_natCast, Int.ofNat_lt, Int.ofNat_le, Nat.zero_add, Nat.add_zero, imp_self, Bool.cond_false_right, Bool.cond_true_left, Bool.cond_true_right, IsF, rdF_eq, fOf, AV.f.injEq, exists_eq', free_list, free_fn0, List.not_mem_nil, List.mem_cons, false_imp, forall_eq, or_false, free_i, free_f, free_b, ren_f, ren_i, ren_b, and_self, bne_iff_ne, bne_eq_false_iff_eq, ne_eq, Int.natCast_inj, or_true, true_or, freeB_list, unfr_f, unfr_i, unfr_b, unfr_c, unfr_s, free_c, free_s, ren_c, ren_s, unfr_ro, unfr_rptr, ren_ro, free_ll, free_box, kill_f, kill_i, kill_b, kill_c, kill_s, kill_rof, kill_rot, Int.toNat_zero, isFF_ll, rowN_ll, rowX_ll, AllFree, Option.some.injEq, Prod.mk.injEq, Bool.false_eq_true, Bool.true_eq_false]
      have e : q = m .u := by omega
      refine fin_ret (.inl rfl) (by cbv) (by simp) (To.list (Nat.le_refl _) (Nat.le_refl _) (fun e => e) (fun j hj => AvTo.i ?_) ?_)
      · simp only [e, hj, decide_true, cond_true]
      · exact .cons (.i (by simp only [natCast_int]; omega)) .nil
def heldIL (n : Nat) (x : Nat → Int) (k : Int) : Int := bif allN (fun i => x i == k + (i : Int)) n then k + n else -1
theorem heldIL_mark (n : Nat) (k : Int) : heldIL n (fun i => k + (i : Int)) k = k + n := by
  unfold heldIL
  rw [allN_true fun j _ => beq_self_eq_true _]
  rfl
theorem heldIL_zero (x : Nat → Int) (k : Int) : heldIL 0 x k = k := by simp [heldIL, allN]
def kHeldI : Kr
  | [a, .i .i64 k] => match asL a with
    | some (n, g) => some (.i .i64 fun _ => heldIL (n .u) (rdI g) (k .u), [], fun _ => IsI n g ∧ n .u ≤ 1048576 ∧ 0 ≤ k .u ∧ k .u ≤ 1099511627776)
    | none => none
  | _ => none
theorem heldI_tells : Tells Try.prog 21 (.r kHeldI) := by
  intro args r H' p hr hp
  unfold kHeldI at hr
  split at hr <;> first | (cases hr; done) | skip
  split at hr <;> cases hr
  rename_i k _ n g hL
  obtain ⟨hp, hn, hk0, hk1⟩ := hp
  refine ⟨.i, .nil, Con.pre (args' := [listI false n (rdI g), .i .i64 k]) ⟨Sub.asI hL hp, Sub.refl _, trivial⟩ ?_⟩
  generalize rdI g = x
  refine Con.of ttok Try.func21 rfl rfl (Nat.zero_le _) (AW.exec ttok (CTok.nil _) (by cbv) ?_)
  simp only [natCast_int, Post, All, thenA, canon0, canon064, and_true, true_and, forall_const, implies_true, decide_eq_true_eq, decide_eq_false_iff_not, Bool.not_eq_true', Bool.not_eq_false', Bool.true_and, Bool.and_true, beq_true, beq_false, Int.toNat_natCast, Int.ofNat_lt, Int.ofNat_le, Nat.zero_add, Nat.add_zero, imp_self, Bool.cond_false_right, Bool.cond_true_left, Bool.cond_true_right, IsF, rdF_eq, fOf, AV.f.injEq, exists_eq', free_list, free_fn0, List.not_mem_nil, List.mem_cons, false_imp, forall_eq, or_false, free_i, free_f, free_b, ren_f, ren_i, ren_b, and_self, bne_iff_ne, bne_eq_false_iff_eq, ne_eq, Int.natCast_inj, or_true, true_or, freeB_list, unfr_f, unfr_i, unfr_b, unfr_c, unfr_s, free_c, free_s, ren_c, ren_s, unfr_ro, unfr_rptr, ren_ro, free_ll, free_box, kill_f, kill_i, kill_b, kill_c, kill_s, kill_rof, kill_rot, Int.toNat_zero, isFF_ll, rowN_ll, rowX_ll, AllFree, Option.some.injEq, Prod.mk.injEq, Bool.false_eq_true, Bool.true_eq_false]
  refine AW.loopTo (ι := Nat) (fun i => i ≤ n .u ∧ ∀ j, j < i → (x j == k .u + (j : Int)) = true) (fun i => n .u - i) (fun i => mkE Try.f21.ntmps [(0, listI false n x), (1, .i .i64 fun _ => k .u + (i : Int)), (5, .i .i64 fun _ => (i : Int))])
    (fun _ => []) 0 ⟨Nat.zero_le _, fun j hj => absurd hj (Nat.not_lt_zero _)⟩ (To.same (Nat.le_refl _) trivial ?_) ?_
  · (repeat' first | exact AllTo.nil | apply AllTo.cons) <;> first | exact AvTo.dead _ | exact AvTo.i rfl | exact AvTo.i (by simp) | exact Free.same Free.listI | skip
  · rintro i ⟨hi, hx⟩
    refine AW.exec ttok (CTok.nil _) (by cbv) ?_
    simp only [natCast_int, Post, All, thenA, canon0, canon064, and_true, true_and, forall_const, implies_true, decide_eq_true_eq, decide_eq_false_iff_not, Bool.not_eq_true', Bool.not_eq_false', Bool.true_and, Bool.and_true, beq_true, beq_false, Int.toNat_natCast, Int.ofNat_lt, Int.ofNat_le, Nat.zero_add, Nat.add_zero, imp_self, Bool.cond_false_right, Bool.cond_true_left, Bool.cond_true_right, IsF, rdF_eq, fOf, AV.f.injEq, exists_eq', free_list, free_fn0, List.not_mem_nil, List.mem_cons, false_imp, forall_eq, or_false, free_i, free_f, free_b, ren_f, ren_i, ren_b, and_self, bne_iff_ne, bne_eq_false_iff_eq, ne_eq, Int.natCast_inj, or_true, true_or, freeB_list, unfr_f, unfr_i, unfr_b, unfr_c, unfr_s, free_c, free_s, ren_c, ren_s, unfr_ro, unfr_rptr, ren_ro, free_ll, free_box, kill_f, kill_i, kill_b, kill_c, kill_s, kill_rof, kill_rot, Int.toNat_zero, isFF_ll, rowN_ll, rowX_ll, AllFree, Option.some.injEq, Prod.mk.injEq, Bool.false_eq_true, Bool.true_eq_false]
    (repeat' first | with_reducible assumption | with_reducible apply And.intro | with_reducible intro hh) <;> first | ((first | with_reducible show (_ : Int) ≤ _ | with_reducible show (_ : Int) < _ | with_reducible show (_ : Nat) ≤ _ | with_reducible show (_ : Nat) < _ | with_reducible show (_ : Int) = _ | with_reducible show (_ : Nat) = _ | with_reducible show ¬ _ | with_reducible show _ ≠ _) <;> first | omega | (simp only [Bool.and_eq_true, Bool.or_eq_false_iff, Bool.not_eq_false', Bool.not_eq_true', decide_eq_true_eq, decide_eq_false_iff_not] at *; omega) | (with_reducible assumption)) | (with_reducible assumption) | skip
    · rename_i hh
      refine Post.leaf (by cbv) (fin_ret (.inl rfl) (by cbv) (by simp) (To.fresh ⟨.i ?_, trivial⟩))
      rw [heldIL, allN_false ‹i < n .u› (q := fun i => x i == k .u + (i : Int)) (by simpa using hh)]
      rfl
    · refine ⟨i + 1, ⟨by omega, lt_succ_all hx (by simpa using ‹x i = k .u + (i : Int)›)⟩, by omega, To.same (Nat.le_refl _) trivial ?_⟩
      (repeat' first | exact AllTo.nil | apply AllTo.cons) <;> first | exact AvTo.dead _ | exact AvTo.i rfl | exact AvTo.i (by first | omega | (simp only [natCast_int]; omega)) | exact Free.same Free.listI | skip
    · refine Post.eval (by cbv) ?_
      simp only [natCast_int, Post, All, thenA, canon0, canon064, and_true, true_and, forall_const, implies_true, decide_eq_true_eq, decide_eq_false_iff_not, Bool.not_eq_true', Bool.not_eq_false', Bool.true_and, Bool.and_true, beq_true, beq_false, Int.toNat_natCast, Int.ofNat_lt, Int.ofNat_le, Nat.zero_add, Nat.add_zero, imp_self, Bool.cond_false_right, Bool.cond_true_left, Bool.cond_true_right, IsF, rdF_eq, fOf, AV.f.injEq, exists_eq', free_list, free_fn0, List.not_mem_nil, List.mem_cons, false_imp, forall_eq, or_false, free_i, free_f, free_b, ren_f, ren_i, ren_b, and_self, bne_iff_ne, bne_eq_false_iff_eq, ne_eq, Int.natCast_inj, or_true, true_or, freeB_list, unfr_f, unfr_i, unfr_b, unfr_c, unfr_s, free_c, free_s, ren_c, ren_s, unfr_ro, unfr_rptr, ren_ro, free_ll, free_box, kill_f, kill_i, kill_b, kill_c, kill_s, kill_rof, kill_rot, Int.toNat_zero, isFF_ll, rowN_ll, rowX_ll, AllFree, Option.some.injEq, Prod.mk.injEq, Bool.false_eq_true, Bool.true_eq_false]
      have e : i = n .u := by omega
      refine fin_ret (.inl rfl) (by cbv) (by simp) (To.fresh ⟨.i ?_, trivial⟩)
      rw [heldIL, allN_true (e ▸ hx)]
      simp only [cond_true, e]
end Go.Proofs.Ytgbfngkmnodgdaa
