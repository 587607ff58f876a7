/- The laws' own helpers for lists of complex numbers: comparisons, marks, readings of marks. -/
import Derived.Test.YtjkibcdmpjppbaaUe
set_option linter.unusedSimpArgs false
set_option linter.unusedVariables false
namespace Go.Proofs.Ytjkibcdmpjppbaa
open Go.Aw
theorem cn1' : canon .f64 4607182418800017408 = 4607182418800017408 := by decide +kernel
def kSameC : Kr
  | [.c .f64 a b, .c .f64 c d] => some (.b fun _ => same64 (a .u) (c .u) && same64 (b .u) (d .u), [], fun _ => True)
  | _ => none
theorem sameC_tells : Tells Try.prog 40 (.r kSameC) := by
  intro args r H' p hr hp
  unfold kSameC at hr
  split at hr <;> cases hr
  refine ⟨.b, .nil, Con.of ttok Try.func40 rfl rfl (Nat.le_refl _) (AW.exec ttok ctSame_ok (by cbv) ?_)⟩
  simp only [natCast_int, Post, All, thenA, canon0, canon064, and_true, true_and, forall_const, implies_true, decide_eq_true_eq, decide_eq_false_iff_not, Bool.not_eq_true', Bool.not_eq_false', Bool.true_and, Bool.and_true, beq_true, beq_false, Int.toNat_natCast, Int.ofNat_lt, Int.ofNat_le, Nat.zero_add, Nat.add_zero, imp_self, Bool.cond_false_right, Bool.cond_true_left, Bool.cond_true_right, IsF, rdF_eq, fOf, AV.f.injEq, exists_eq', free_list, free_fn0, List.not_mem_nil, List.mem_cons, false_imp, forall_eq, or_false, free_i, free_f, free_b, ren_f, ren_i, ren_b, and_self, bne_iff_ne, bne_eq_false_iff_eq, ne_eq, Int.natCast_inj, or_true, true_or, freeB_list, unfr_f, unfr_i, unfr_b, unfr_c, unfr_s, free_c, free_s, ren_c, ren_s, unfr_ro, unfr_rptr, ren_ro, free_ll, free_box, kill_f, kill_i, kill_b, kill_c, kill_s, kill_rof, kill_rot, Int.toNat_zero, isFF_ll, rowN_ll, rowX_ll, AllFree, Option.some.injEq, Prod.mk.injEq, Bool.false_eq_true, Bool.true_eq_false]
  (repeat' first | with_reducible assumption | with_reducible apply And.intro | with_reducible intro hh) <;> first | ((first | with_reducible show (_ : Int) ≤ _ | with_reducible show (_ : Int) < _ | with_reducible show (_ : Nat) ≤ _ | with_reducible show (_ : Nat) < _ | with_reducible show (_ : Int) = _ | with_reducible show (_ : Nat) = _ | with_reducible show ¬ _ | with_reducible show _ ≠ _) <;> first | omega | (simp only [Bool.and_eq_true, Bool.or_eq_false_iff, Bool.not_eq_false', Bool.not_eq_true', decide_eq_true_eq, decide_eq_false_iff_not] at *; omega) | (with_reducible assumption)) | (with_reducible assumption) | skip
  all_goals exact fin_ret (.inl rfl) (by cbv) (by simp) (To.fresh ⟨.b (by first | rfl | simp_all), trivial⟩)
def sameCC (x y x' y' : Nat → Nat) (i : Nat) : Bool := same64 (f2f .f32 (x i) .f64) (f2f .f32 (x' i) .f64) && same64 (f2f .f32 (y i) .f64) (f2f .f32 (y' i) .f64)
def eqC (n : Nat) (x y : Nat → Nat) (m : Nat) (x' y' : Nat → Nat) : Bool := decide (n = m) && allN (sameCC x y x' y') n
theorem eqC_self (n : Nat) (x y : Nat → Nat) : eqC n x y n x y = true := by
  simp only [eqC, decide_true, Bool.true_and]
  exact allN_true fun j _ => by unfold sameCC; rw [same64_self, same64_self]; rfl
def kEqC : Kr
  | [a, b] => match asL a, asL b with
    | some (n, g), some (m, h) => some (.b fun _ => eqC (n .u) (rdRe g) (rdIm g) (m .u) (rdRe h) (rdIm h), [], fun _ => IsC n g ∧ IsC m h)
    | _, _ => none
  | _ => none
def ctEqC : CT := [(40, .r kSameC)]
theorem ctEqC_ok : CTok Try.prog ctEqC := CTok.cons sameC_tells (CTok.nil _)
theorem eqC_tells : Tells Try.prog 9 (.r kEqC) := by
  intro args r H' p hr hp
  unfold kEqC at hr
  split at hr <;> first | (cases hr; done) | skip
  split at hr <;> cases hr
  rename_i n g m h hL hL'
  obtain ⟨hp, hp'⟩ := hp
  refine ⟨.b, .nil, Con.pre (args' := [listC false n (rdRe g) (rdIm g), listC false m (rdRe h) (rdIm h)]) ⟨Sub.asC hL hp, Sub.asC hL' hp', trivial⟩ ?_⟩
  have hn := hp.1
  have hm := hp'.1
  generalize rdRe g = x
  generalize rdIm g = y
  generalize rdRe h = x'
  generalize rdIm h = y'
  refine Con.of ttok Try.func9 rfl rfl (Nat.zero_le _) (AW.exec ttok ctEqC_ok (by cbv) ?_)
  simp only [natCast_int, Post, All, thenA, canon0, canon064, and_true, true_and, forall_const, implies_true, decide_eq_true_eq, decide_eq_false_iff_not, Bool.not_eq_true', Bool.not_eq_false', Bool.true_and, Bool.and_true, beq_true, beq_false, Int.toNat_natCast, Int.ofNat_lt, Int.ofNat_le, Nat.zero_add, Nat.add_zero, imp_self, Bool.cond_false_right, Bool.cond_true_left, Bool.cond_true_right, IsF, rdF_eq, fOf, AV.f.injEq, exists_eq', free_list, free_fn0, List.not_mem_nil, List.mem_cons, false_imp, forall_eq, or_false, free_i, free_f, free_b, ren_f, ren_i, ren_b, and_self, bne_iff_ne, bne_eq_false_iff_eq, ne_eq, Int.natCast_inj, or_true, true_or, freeB_list, unfr_f, unfr_i, unfr_b, unfr_c, unfr_s, free_c, free_s, ren_c, ren_s, unfr_ro, unfr_rptr, ren_ro, free_ll, free_box, kill_f, kill_i, kill_b, kill_c, kill_s, kill_rof, kill_rot, Int.toNat_zero, isFF_ll, rowN_ll, rowX_ll, AllFree, Option.some.injEq, Prod.mk.injEq, Bool.false_eq_true, Bool.true_eq_false]
  refine ⟨fun h1 => ?_, fun h1 => ?_⟩
  · refine fin_ret (.inl rfl) (by cbv) (by simp) (To.fresh (.cons (.b ?_) .nil))
    simp only [eqC, decide_eq_false h1, Bool.false_and]
  have hnm : n .u = m .u := h1
  refine AW.loopH (ι := Nat) (fun i => i ≤ n .u ∧ ∀ j, j < i → sameCC x y x' y' j = true) (fun i => n .u - i) (fun i => mkE Try.f9.ntmps [(0, listC false n x y), (1, listC false m x' y'), (5, .i .i64 fun _ => (i : Int))])
    (fun _ => []) 0 ⟨Nat.zero_le _, fun j hj => absurd hj (Nat.not_lt_zero _)⟩ (To.same (Nat.le_refl _) trivial ?_) ?_
  · (repeat' first | exact AllTo.nil | apply AllTo.cons) <;> first | exact AvTo.dead _ | exact AvTo.i rfl | exact Free.same Free.listC | skip
  · rintro Q' hQ i ⟨hi, hx⟩
    refine AW.exec ttok ctEqC_ok (by cbv) ?_
    simp only [natCast_int, Post, All, thenA, canon0, canon064, and_true, true_and, forall_const, implies_true, decide_eq_true_eq, decide_eq_false_iff_not, Bool.not_eq_true', Bool.not_eq_false', Bool.true_and, Bool.and_true, beq_true, beq_false, Int.toNat_natCast, Int.ofNat_lt, Int.ofNat_le, Nat.zero_add, Nat.add_zero, imp_self, Bool.cond_false_right, Bool.cond_true_left, Bool.cond_true_right, IsF, rdF_eq, fOf, AV.f.injEq, exists_eq', free_list, free_fn0, List.not_mem_nil, List.mem_cons, false_imp, forall_eq, or_false, free_i, free_f, free_b, ren_f, ren_i, ren_b, and_self, bne_iff_ne, bne_eq_false_iff_eq, ne_eq, Int.natCast_inj, or_true, true_or, freeB_list, unfr_f, unfr_i, unfr_b, unfr_c, unfr_s, free_c, free_s, ren_c, ren_s, unfr_ro, unfr_rptr, ren_ro, free_ll, free_box, kill_f, kill_i, kill_b, kill_c, kill_s, kill_rof, kill_rot, Int.toNat_zero, isFF_ll, rowN_ll, rowX_ll, AllFree, Option.some.injEq, Prod.mk.injEq, Bool.false_eq_true, Bool.true_eq_false]
    (repeat' first | with_reducible assumption | with_reducible apply And.intro | with_reducible intro hh) <;> first | ((first | with_reducible show (_ : Int) ≤ _ | with_reducible show (_ : Int) < _ | with_reducible show (_ : Nat) ≤ _ | with_reducible show (_ : Nat) < _ | with_reducible show (_ : Int) = _ | with_reducible show (_ : Nat) = _ | with_reducible show ¬ _ | with_reducible show _ ≠ _) <;> first | omega | (simp only [Bool.and_eq_true, Bool.or_eq_false_iff, Bool.not_eq_false', Bool.not_eq_true', decide_eq_true_eq, decide_eq_false_iff_not] at *; omega) | (with_reducible assumption)) | (with_reducible assumption) | skip
    · obtain ⟨rfl⟩ := hQ
      refine Post.leaf (by cbv) (fin_ret (.inl rfl) (by cbv) (by simp) (To.fresh ⟨.b ?_, trivial⟩))
      simp only [eqC]
      rw [allN_false ‹i < n .u› (q := sameCC x y x' y') hh, Bool.and_false]
    · refine ⟨i + 1, ⟨by omega, lt_succ_all hx (show sameCC x y x' y' i = true by assumption)⟩, by omega, To.same (Nat.le_refl _) trivial ?_⟩
      (repeat' first | exact AllTo.nil | apply AllTo.cons) <;> first | exact AvTo.dead _ | exact AvTo.i rfl | exact Free.same Free.listC | skip
    · obtain ⟨rfl⟩ := hQ
      refine Post.eval (by cbv) ?_
      simp only [natCast_int, Post, All, thenA, canon0, canon064, and_true, true_and, forall_const, implies_true, decide_eq_true_eq, decide_eq_false_iff_not, Bool.not_eq_true', Bool.not_eq_false', Bool.true_and, Bool.and_true, beq_true, beq_false, Int.toNat_natCast, Int.ofNat_lt, Int.ofNat_le, Nat.zero_add, Nat.add_zero, imp_self, Bool.cond_false_right, Bool.cond_true_left, Bool.cond_true_right, IsF, rdF_eq, fOf, AV.f.injEq, exists_eq', free_list, free_fn0, List.not_mem_nil, List.mem_cons, false_imp, forall_eq, or_false, free_i, free_f, free_b, ren_f, ren_i, ren_b, and_self, bne_iff_ne, bne_eq_false_iff_eq, ne_eq, Int.natCast_inj, or_true, true_or, freeB_list, unfr_f, unfr_i, unfr_b, unfr_c, unfr_s, free_c, free_s, ren_c, ren_s, unfr_ro, unfr_rptr, ren_ro, free_ll, free_box, kill_f, kill_i, kill_b, kill_c, kill_s, kill_rof, kill_rot, Int.toNat_zero, isFF_ll, rowN_ll, rowX_ll, AllFree, Option.some.injEq, Prod.mk.injEq, Bool.false_eq_true, Bool.true_eq_false]
      have e : i = n .u := by omega
      refine fin_ret (.inl rfl) (by cbv) (by simp) (To.fresh ⟨.b ?_, trivial⟩)
      simp only [eqC, hnm, decide_true, Bool.true_and]
      exact (allN_true (hnm ▸ e ▸ hx)).symm
/-! Marks. -/
theorem itof_cl {n : Int} (h0 : 0 ≤ n) (h1 : n ≤ 2199023255552) : Cl (itof .f64 n) 41 := by
  unfold itof FloatKind.nearest FloatKind.encode
  refine cl_write (j := 41) ?_ (by decide) (by decide) (by decide)
  have : (2 : Nat) ^ 41 = 2199023255552 := by decide
  rw [this]
  omega
theorem nan_f2f {s k : FloatKind} {x : Nat} (hx : isNaN s x = false) (h : f2fOk s x k) (hk : s ≠ k) : isNaN k (f2f s x k) = false := by
  obtain ⟨r, hr⟩ := Option.isSome_iff_exists.1 (h.resolve_left (by simp [hx]))
  unfold f2f
  rw [hr, Option.getD_some]
  unfold floatToFloatBits at hr
  rw [if_neg hk] at hr
  split at hr
  · cases hr
  · cases hr; exact isNaN_encode_inf ..
  · split at hr
    · cases hr
    · cases hr; exact isNaN_encode_number ..
def oneC : Nat := f2f .f64 4607182418800017408 .f32
def markC (k : Int) (i : Nat) : Nat := f2f .f64 (itof .f64 (k + (i : Int))) .f32
theorem oneC_ok : f2fOk .f64 4607182418800017408 .f32 := cl_one.narrow (by decide)
theorem markC_ok {k : Int} (h0 : 0 ≤ k) (h1 : k ≤ 2199023255552) : f2fOk .f64 (itof .f64 k) .f32 := (itof_cl h0 h1).narrow (by decide)
def heldCC (x y : Nat → Nat) (k : Int) (i : Nat) : Bool := feq .f32 (x i) (markC k i) && feq .f32 (y i) oneC
def heldC (n : Nat) (x y : Nat → Nat) (k : Int) : Int := bif allN (heldCC x y k) n then k + n else -1
theorem heldC_mark {n : Nat} {k : Int} (h0 : 0 ≤ k) (h1 : k + (n : Int) ≤ 2199023255552) : heldC n (markC k) (fun _ => oneC) k = k + n := by
  unfold heldC
  rw [allN_true fun j hj => ?_]
  · rfl
  · unfold heldCC
    have e1 : feq .f32 (markC k j) (markC k j) = true := feq_self (nan_f2f (itof_cl (by omega) (by omega)).nan (markC_ok (by omega) (by omega)) (by simp))
    have e2 : feq .f32 oneC oneC = true := feq_self (nan_f2f cl_one.nan oneC_ok (by simp))
    rw [e1, e2]
    rfl
theorem heldC_zero (x y : Nat → Nat) (k : Int) : heldC 0 x y k = k := by simp [heldC, allN]
def kMarkC : Km
  | i, n, 1, [.i .i64 k], .tab m 1 g => some (.i .i64 fun _ => k .u + (n .u : Int), .tab m 1 fun i _ => .c .f32 (fun _ => markC (k .u) (i .u)) fun _ => oneC, fun _ => IsC m g ∧ i .u = 0 ∧ n .u = m .u ∧ n .u ≤ 1048576 ∧ 0 ≤ k .u ∧ k .u ≤ 1099511627776)
  | _, _, _, _, _ => none
def kMarkNilC : Kr
  | [.v (.slice none 0 0), .i .i64 k] => some (.i .i64 fun _ => k .u, [], fun _ => True)
  | _ => none
theorem markNilC_tells : Tells Try.prog 12 (.r kMarkNilC) := by
  intro args r H' p hr hp
  unfold kMarkNilC at hr
  split at hr <;> cases hr
  rename_i k
  refine ⟨.i, .nil, ?_⟩
  refine Con.of ttok Try.func12 rfl rfl (Nat.le_refl _) (AW.exec ttok (CTok.nil _) (by cbv) ?_)
  simp only [natCast_int, Post, All, thenA, canon0, canon064, and_true, true_and, forall_const, implies_true, decide_eq_true_eq, decide_eq_false_iff_not, Bool.not_eq_true', Bool.not_eq_false', Bool.true_and, Bool.and_true, beq_true, beq_false, Int.toNat_natCast, Int.ofNat_lt, Int.ofNat_le, Nat.zero_add, Nat.add_zero, imp_self, Bool.cond_false_right, Bool.cond_true_left, Bool.cond_true_right, IsF, rdF_eq, fOf, AV.f.injEq, exists_eq', free_list, free_fn0, List.not_mem_nil, List.mem_cons, false_imp, forall_eq, or_false, free_i, free_f, free_b, ren_f, ren_i, ren_b, and_self, bne_iff_ne, bne_eq_false_iff_eq, ne_eq, Int.natCast_inj, or_true, true_or, freeB_list, unfr_f, unfr_i, unfr_b, unfr_c, unfr_s, free_c, free_s, ren_c, ren_s, unfr_ro, unfr_rptr, ren_ro, free_ll, free_box, kill_f, kill_i, kill_b, kill_c, kill_s, kill_rof, kill_rot, Int.toNat_zero, isFF_ll, rowN_ll, rowX_ll, AllFree, Option.some.injEq, Prod.mk.injEq, Bool.false_eq_true, Bool.true_eq_false]
  refine AW.loopTo (ι := Nat) (fun i => i = 0) (fun i => i) (fun i => mkE Try.f12.ntmps [(0, .v (.slice none 0 0)), (1, .i .i64 k), (5, .i .i64 fun _ => 0)]) (fun _ => []) 0 rfl (To.same (Nat.le_refl _) trivial ?_) ?_
  · (repeat' first | exact AllTo.nil | apply AllTo.cons) <;> first | exact AvTo.dead _ | exact AvTo.i rfl | exact AvTo.i (by first | omega | (simp only [natCast_int]; omega)) | exact AvTo.f rfl | exact AvTo.b rfl | exact AvTo.v _ | exact AvTo.own rfl rfl rfl rfl | exact AvTo.own rfl rfl (by first | rfl | omega) (by first | rfl | omega) | exact Free.same .listF | exact Free.same (.fn (by simp) (by simp)) | skip
  · rintro q rfl
    refine AW.exec ttok (CTok.nil _) (by cbv) ?_
    simp only [natCast_int, Post, All, thenA, canon0, canon064, and_true, true_and, forall_const, implies_true, decide_eq_true_eq, decide_eq_false_iff_not, Bool.not_eq_true', Bool.not_eq_false', Bool.true_and, Bool.and_true, beq_true, beq_false, Int.toNat_natCast, Int.ofNat_lt, Int.ofNat_le, Nat.zero_add, Nat.add_zero, imp_self, Bool.cond_false_right, Bool.cond_true_left, Bool.cond_true_right, IsF, rdF_eq, fOf, AV.f.injEq, exists_eq', free_list, free_fn0, List.not_mem_nil, List.mem_cons, false_imp, forall_eq, or_false, free_i, free_f, free_b, ren_f, ren_i, ren_b, and_self, bne_iff_ne, bne_eq_false_iff_eq, ne_eq, Int.natCast_inj, or_true, true_or, freeB_list, unfr_f, unfr_i, unfr_b, unfr_c, unfr_s, free_c, free_s, ren_c, ren_s, unfr_ro, unfr_rptr, ren_ro, free_ll, free_box, kill_f, kill_i, kill_b, kill_c, kill_s, kill_rof, kill_rot, Int.toNat_zero, isFF_ll, rowN_ll, rowX_ll, AllFree, Option.some.injEq, Prod.mk.injEq, Bool.false_eq_true, Bool.true_eq_false, Int.lt_irrefl, decide_false]
    (repeat' first | with_reducible assumption | with_reducible apply And.intro | with_reducible intro hh) <;> first | ((first | with_reducible show (_ : Int) ≤ _ | with_reducible show (_ : Int) < _ | with_reducible show (_ : Nat) ≤ _ | with_reducible show (_ : Nat) < _ | with_reducible show (_ : Int) = _ | with_reducible show (_ : Nat) = _ | with_reducible show ¬ _ | with_reducible show _ ≠ _) <;> first | omega | (simp only [Bool.and_eq_true, Bool.or_eq_false_iff, Bool.not_eq_false', Bool.not_eq_true', decide_eq_true_eq, decide_eq_false_iff_not] at *; omega) | (with_reducible assumption)) | (with_reducible assumption) | skip
    all_goals first | (exfalso; simp_all; done) | skip
    refine Post.eval (by cbv) ?_
    simp only [natCast_int, Post, All, thenA, canon0, canon064, and_true, true_and, forall_const, implies_true, decide_eq_true_eq, decide_eq_false_iff_not, Bool.not_eq_true', Bool.not_eq_false', Bool.true_and, Bool.and_true, beq_true, beq_false, Int.toNat_natCast, Int.ofNat_lt, Int.ofNat_le, Nat.zero_add, Nat.add_zero, imp_self, Bool.cond_false_right, Bool.cond_true_left, Bool.cond_true_right, IsF, rdF_eq, fOf, AV.f.injEq, exists_eq', free_list, free_fn0, List.not_mem_nil, List.mem_cons, false_imp, forall_eq, or_false, free_i, free_f, free_b, ren_f, ren_i, ren_b, and_self, bne_iff_ne, bne_eq_false_iff_eq, ne_eq, Int.natCast_inj, or_true, true_or, freeB_list, unfr_f, unfr_i, unfr_b, unfr_c, unfr_s, free_c, free_s, ren_c, ren_s, unfr_ro, unfr_rptr, ren_ro, free_ll, free_box, kill_f, kill_i, kill_b, kill_c, kill_s, kill_rof, kill_rot, Int.toNat_zero, isFF_ll, rowN_ll, rowX_ll, AllFree, Option.some.injEq, Prod.mk.injEq, Bool.false_eq_true, Bool.true_eq_false]
    exact fin_ret (.inl rfl) (by cbv) (by simp) (To.fresh (.cons (.i rfl) .nil))
theorem markC_tells : Tells Try.prog 12 (.m kMarkC kMarkNilC) := by
  refine ⟨markNilC_tells, ?_⟩
  intro i n sz args B r B' p hr hp
  unfold kMarkC at hr
  split at hr <;> cases hr
  rename_i k m g
  obtain ⟨hp, hi, hn, hn1, hk0, hk1⟩ := hp
  refine ⟨.i, .tab fun _ _ _ _ => .c, ?_⟩
  refine Con.of ttok Try.func12 rfl rfl (Nat.le_refl _) (AW.exec ttok (CTok.nil _) (by cbv) ?_)
  simp only [natCast_int, Post, All, thenA, canon0, canon064, and_true, true_and, forall_const, implies_true, decide_eq_true_eq, decide_eq_false_iff_not, Bool.not_eq_true', Bool.not_eq_false', Bool.true_and, Bool.and_true, beq_true, beq_false, Int.toNat_natCast, Int.ofNat_lt, Int.ofNat_le, Nat.zero_add, Nat.add_zero, imp_self, Bool.cond_false_right, Bool.cond_true_left, Bool.cond_true_right, IsF, rdF_eq, fOf, AV.f.injEq, exists_eq', free_list, free_fn0, List.not_mem_nil, List.mem_cons, false_imp, forall_eq, or_false, free_i, free_f, free_b, ren_f, ren_i, ren_b, and_self, bne_iff_ne, bne_eq_false_iff_eq, ne_eq, Int.natCast_inj, or_true, true_or, freeB_list, unfr_f, unfr_i, unfr_b, unfr_c, unfr_s, free_c, free_s, ren_c, ren_s, unfr_ro, unfr_rptr, ren_ro, free_ll, free_box, kill_f, kill_i, kill_b, kill_c, kill_s, kill_rof, kill_rot, Int.toNat_zero, isFF_ll, rowN_ll, rowX_ll, AllFree, Option.some.injEq, Prod.mk.injEq, Bool.false_eq_true, Bool.true_eq_false]
  refine AW.loopTo (ι := Nat) (fun i => i ≤ m .u) (fun i => m .u - i) (fun i => mkE Try.f12.ntmps [(0, .own 0 (fun _ => 0) m 1), (1, .i .i64 fun _ => k .u + (i : Int)), (5, .i .i64 fun _ => (i : Int))])
    (fun i => [some (false, .tab m 1 fun j _ => .c .f32 (fun _ => bif decide (j .u < i) then markC (k .u) (j .u) else rdRe g (j .u)) fun _ => bif decide (j .u < i) then oneC else rdIm g (j .u))]) 0 (Nat.zero_le _) (To.list (Nat.le_refl _) (Nat.le_refl _) (fun e => e) (fun j hj => ?_) ?_) ?_
  · obtain ⟨x, y, hy⟩ := hp.2 j hj
    simp only [hy, unfr]
    exact AvTo.c (by simp [rdRe, reOf, hy]) (by simp [rdIm, imOf, hy])
  · (repeat' first | exact AllTo.nil | apply AllTo.cons) <;> first | exact AvTo.dead _ | exact AvTo.i rfl | exact AvTo.i (by simp) | exact AvTo.own rfl rfl hi hn | skip
  · rintro q hq
    have hok : f2fOk .f64 (itof .f64 (k .u + (q : Int))) .f32 := markC_ok (by omega) (by omega)
    have h1 := oneC_ok
    refine AW.exec ttok (CTok.nil _) (by cbv) ?_
    simp only [natCast_int, Post, All, thenA, canon0, canon064, and_true, true_and, forall_const, implies_true, decide_eq_true_eq, decide_eq_false_iff_not, Bool.not_eq_true', Bool.not_eq_false', Bool.true_and, Bool.and_true, beq_true, beq_false, Int.toNat_natCast, Int.ofNat_lt, Int.ofNat_le, Nat.zero_add, Nat.add_zero, imp_self, Bool.cond_false_right, Bool.cond_true_left, Bool.cond_true_right, IsF, rdF_eq, fOf, AV.f.injEq, exists_eq', free_list, free_fn0, List.not_mem_nil, List.mem_cons, false_imp, forall_eq, or_false, free_i, free_f, free_b, ren_f, ren_i, ren_b, and_self, bne_iff_ne, bne_eq_false_iff_eq, ne_eq, Int.natCast_inj, or_true, true_or, freeB_list, unfr_f, unfr_i, unfr_b, unfr_c, unfr_s, free_c, free_s, ren_c, ren_s, unfr_ro, unfr_rptr, ren_ro, free_ll, free_box, kill_f, kill_i, kill_b, kill_c, kill_s, kill_rof, kill_rot, Int.toNat_zero, isFF_ll, rowN_ll, rowX_ll, AllFree, Option.some.injEq, Prod.mk.injEq, Bool.false_eq_true, Bool.true_eq_false, cn1', hok, h1]
    (repeat' first | with_reducible assumption | with_reducible apply And.intro | with_reducible intro hh) <;> first | ((first | with_reducible show (_ : Int) ≤ _ | with_reducible show (_ : Int) < _ | with_reducible show (_ : Nat) ≤ _ | with_reducible show (_ : Nat) < _ | with_reducible show (_ : Int) = _ | with_reducible show (_ : Nat) = _ | with_reducible show ¬ _ | with_reducible show _ ≠ _) <;> first | omega | (simp only [Bool.and_eq_true, Bool.or_eq_false_iff, Bool.not_eq_false', Bool.not_eq_true', decide_eq_true_eq, decide_eq_false_iff_not] at *; omega) | (with_reducible assumption)) | (with_reducible assumption) | skip
    · refine ⟨q + 1, by omega, by omega, To.list (Nat.le_refl _) (Nat.le_refl _) (fun e => e) (fun j hj => ?_) ?_⟩
      · by_cases e : j = q
        · subst e
          simp only [if_true, List.length_cons, List.length_nil, Nat.zero_add, Nat.le_refl, Nat.zero_lt_one, and_self, Nat.sub_self, List.getD_cons_zero]
          exact AvTo.c (by simp only [Nat.lt_succ_self, decide_true, cond_true, markC]) (by simp only [Nat.lt_succ_self, decide_true, cond_true, oneC])
        · simp only [e, if_false]
          exact AvTo.c (by simp only [show (j < q + 1) ↔ j < q by omega]) (by simp only [show (j < q + 1) ↔ j < q by omega])
      · (repeat' first | exact AllTo.nil | apply AllTo.cons) <;> first | exact AvTo.dead _ | exact AvTo.i rfl | exact AvTo.i (by first | omega | (simp only [natCast_int]; omega)) | exact AvTo.f rfl | exact AvTo.b rfl | exact AvTo.v _ | exact AvTo.own rfl rfl rfl rfl | exact AvTo.own rfl rfl (by first | rfl | omega) (by first | rfl | omega) | exact Free.same .listF | exact Free.same (.fn (by simp) (by simp)) | skip
    · refine Post.eval (by cbv) ?_
      simp only [natCast_int, Post, All, thenA, canon0, canon064, and_true, true_and, forall_const, implies_true, decide_eq_true_eq, decide_eq_false_iff_not, Bool.not_eq_true', Bool.not_eq_false', Bool.true_and, Bool.and_true, beq_true, beq_false, Int.toNat_natCast, Int.ofNat_lt, Int.ofNat_le, Nat.zero_add, Nat.add_zero, imp_self, Bool.cond_false_right, Bool.cond_true_left, Bool.cond_true_right, IsF, rdF_eq, fOf, AV.f.injEq, exists_eq', free_list, free_fn0, List.not_mem_nil, List.mem_cons, false_imp, forall_eq, or_false, free_i, free_f, free_b, ren_f, ren_i, ren_b, and_self, bne_iff_ne, bne_eq_false_iff_eq, ne_eq, Int.natCast_inj, or_true, true_or, freeB_list, unfr_f, unfr_i, unfr_b, unfr_c, unfr_s, free_c, free_s, ren_c, ren_s, unfr_ro, unfr_rptr, ren_ro, free_ll, free_box, kill_f, kill_i, kill_b, kill_c, kill_s, kill_rof, kill_rot, Int.toNat_zero, isFF_ll, rowN_ll, rowX_ll, AllFree, Option.some.injEq, Prod.mk.injEq, Bool.false_eq_true, Bool.true_eq_false]
      have e : q = m .u := by omega
      refine fin_ret (.inl rfl) (by cbv) (by simp) (To.list (Nat.le_refl _) (Nat.le_refl _) (fun e => e) (fun j hj => AvTo.c ?_ ?_) ?_)
      · simp only [e, hj, decide_true, cond_true]
      · simp only [e, hj, decide_true, cond_true]
      · exact .cons (.i (by simp only [natCast_int]; omega)) .nil
def kHeldC : Kr
  | [a, .i .i64 k] => match asL a with
    | some (n, g) => some (.i .i64 fun _ => heldC (n .u) (rdRe g) (rdIm g) (k .u), [], fun _ => IsC n g ∧ n .u ≤ 1048576 ∧ 0 ≤ k .u ∧ k .u ≤ 1099511627776)
    | none => none
  | _ => none
theorem heldC_tells : Tells Try.prog 13 (.r kHeldC) := by
  intro args r H' p hr hp
  unfold kHeldC at hr
  split at hr <;> first | (cases hr; done) | skip
  split at hr <;> cases hr
  rename_i k _ n g hL
  obtain ⟨hp, hn, hk0, hk1⟩ := hp
  refine ⟨.i, .nil, Con.pre (args' := [listC false n (rdRe g) (rdIm g), .i .i64 k]) ⟨Sub.asC hL hp, Sub.refl _, trivial⟩ ?_⟩
  generalize rdRe g = x
  generalize rdIm g = y
  refine Con.of ttok Try.func13 rfl rfl (Nat.zero_le _) (AW.exec ttok (CTok.nil _) (by cbv) ?_)
  simp only [natCast_int, Post, All, thenA, canon0, canon064, and_true, true_and, forall_const, implies_true, decide_eq_true_eq, decide_eq_false_iff_not, Bool.not_eq_true', Bool.not_eq_false', Bool.true_and, Bool.and_true, beq_true, beq_false, Int.toNat_natCast, Int.ofNat_lt, Int.ofNat_le, Nat.zero_add, Nat.add_zero, imp_self, Bool.cond_false_right, Bool.cond_true_left, Bool.cond_true_right, IsF, rdF_eq, fOf, AV.f.injEq, exists_eq', free_list, free_fn0, List.not_mem_nil, List.mem_cons, false_imp, forall_eq, or_false, free_i, free_f, free_b, ren_f, ren_i, ren_b, and_self, bne_iff_ne, bne_eq_false_iff_eq, ne_eq, Int.natCast_inj, or_true, true_or, freeB_list, unfr_f, unfr_i, unfr_b, unfr_c, unfr_s, free_c, free_s, ren_c, ren_s, unfr_ro, unfr_rptr, ren_ro, free_ll, free_box, kill_f, kill_i, kill_b, kill_c, kill_s, kill_rof, kill_rot, Int.toNat_zero, isFF_ll, rowN_ll, rowX_ll, AllFree, Option.some.injEq, Prod.mk.injEq, Bool.false_eq_true, Bool.true_eq_false]
  refine AW.loopH (ι := Nat) (fun i => i ≤ n .u ∧ ∀ j, j < i → heldCC x y (k .u) j = true) (fun i => n .u - i) (fun i => mkE Try.f13.ntmps [(0, listC false n x y), (1, .i .i64 fun _ => k .u + (i : Int)), (5, .i .i64 fun _ => (i : Int))])
    (fun _ => []) 0 ⟨Nat.zero_le _, fun j hj => absurd hj (Nat.not_lt_zero _)⟩ (To.same (Nat.le_refl _) trivial ?_) ?_
  · (repeat' first | exact AllTo.nil | apply AllTo.cons) <;> first | exact AvTo.dead _ | exact AvTo.i rfl | exact AvTo.i (by simp) | exact Free.same Free.listC | skip
  · rintro Q' hQ i ⟨hi, hx⟩
    have hok : f2fOk .f64 (itof .f64 (k .u + (i : Int))) .f32 := markC_ok (by omega) (by omega)
    have h1 := oneC_ok
    refine AW.exec ttok (CTok.nil _) (by cbv) ?_
    simp only [natCast_int, Post, All, thenA, canon0, canon064, and_true, true_and, forall_const, implies_true, decide_eq_true_eq, decide_eq_false_iff_not, Bool.not_eq_true', Bool.not_eq_false', Bool.true_and, Bool.and_true, beq_true, beq_false, Int.toNat_natCast, Int.ofNat_lt, Int.ofNat_le, Nat.zero_add, Nat.add_zero, imp_self, Bool.cond_false_right, Bool.cond_true_left, Bool.cond_true_right, IsF, rdF_eq, fOf, AV.f.injEq, exists_eq', free_list, free_fn0, List.not_mem_nil, List.mem_cons, false_imp, forall_eq, or_false, free_i, free_f, free_b, ren_f, ren_i, ren_b, and_self, bne_iff_ne, bne_eq_false_iff_eq, ne_eq, Int.natCast_inj, or_true, true_or, freeB_list, unfr_f, unfr_i, unfr_b, unfr_c, unfr_s, free_c, free_s, ren_c, ren_s, unfr_ro, unfr_rptr, ren_ro, free_ll, free_box, kill_f, kill_i, kill_b, kill_c, kill_s, kill_rof, kill_rot, Int.toNat_zero, isFF_ll, rowN_ll, rowX_ll, AllFree, Option.some.injEq, Prod.mk.injEq, Bool.false_eq_true, Bool.true_eq_false, cn1', hok, h1]
    (repeat' first | with_reducible assumption | with_reducible apply And.intro | with_reducible intro hh) <;> first | ((first | with_reducible show (_ : Int) ≤ _ | with_reducible show (_ : Int) < _ | with_reducible show (_ : Nat) ≤ _ | with_reducible show (_ : Nat) < _ | with_reducible show (_ : Int) = _ | with_reducible show (_ : Nat) = _ | with_reducible show ¬ _ | with_reducible show _ ≠ _) <;> first | omega | (simp only [Bool.and_eq_true, Bool.or_eq_false_iff, Bool.not_eq_false', Bool.not_eq_true', decide_eq_true_eq, decide_eq_false_iff_not] at *; omega) | (with_reducible assumption)) | (with_reducible assumption) | skip
    · obtain ⟨rfl⟩ := hQ
      refine Post.leaf (by cbv) (fin_ret (.inl rfl) (by cbv) (by simp) (To.fresh ⟨.i ?_, trivial⟩))
      have h : heldCC x y (k .u) i = false := hh
      rw [heldC, allN_false ‹i < n .u› (q := heldCC x y (k .u)) h]
      rfl
    · have h : heldCC x y (k .u) i = true := ‹(feq .f32 (x i) _ && feq .f32 (y i) _) = true›
      refine ⟨i + 1, ⟨by omega, lt_succ_all hx h⟩, by omega, To.same (Nat.le_refl _) trivial ?_⟩
      (repeat' first | exact AllTo.nil | apply AllTo.cons) <;> first | exact AvTo.dead _ | exact AvTo.i rfl | exact AvTo.i (by first | omega | (simp only [natCast_int]; omega)) | exact Free.same Free.listC | skip
    · obtain ⟨rfl⟩ := hQ
      refine Post.eval (by cbv) ?_
      simp only [natCast_int, Post, All, thenA, canon0, canon064, and_true, true_and, forall_const, implies_true, decide_eq_true_eq, decide_eq_false_iff_not, Bool.not_eq_true', Bool.not_eq_false', Bool.true_and, Bool.and_true, beq_true, beq_false, Int.toNat_natCast, Int.ofNat_lt, Int.ofNat_le, Nat.zero_add, Nat.add_zero, imp_self, Bool.cond_false_right, Bool.cond_true_left, Bool.cond_true_right, IsF, rdF_eq, fOf, AV.f.injEq, exists_eq', free_list, free_fn0, List.not_mem_nil, List.mem_cons, false_imp, forall_eq, or_false, free_i, free_f, free_b, ren_f, ren_i, ren_b, and_self, bne_iff_ne, bne_eq_false_iff_eq, ne_eq, Int.natCast_inj, or_true, true_or, freeB_list, unfr_f, unfr_i, unfr_b, unfr_c, unfr_s, free_c, free_s, ren_c, ren_s, unfr_ro, unfr_rptr, ren_ro, free_ll, free_box, kill_f, kill_i, kill_b, kill_c, kill_s, kill_rof, kill_rot, Int.toNat_zero, isFF_ll, rowN_ll, rowX_ll, AllFree, Option.some.injEq, Prod.mk.injEq, Bool.false_eq_true, Bool.true_eq_false]
      have e : i = n .u := by omega
      refine fin_ret (.inl rfl) (by cbv) (by simp) (To.fresh ⟨.i ?_, trivial⟩)
      rw [heldC, allN_true (e ▸ hx)]
      simp only [cond_true, e]
end Go.Proofs.Ytjkibcdmpjppbaa
