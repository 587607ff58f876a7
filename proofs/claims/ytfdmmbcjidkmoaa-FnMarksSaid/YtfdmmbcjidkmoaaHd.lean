/- Lists with a sum of squares of 1, on both sides. -/
import Derived.Test.YtfdmmbcjidkmoaaHb
import Derived.Test.YtfdmmbcjidkmoaaGc
set_option linter.unusedSimpArgs false
set_option linter.unusedVariables false
namespace Go.Proofs.Ytfdmmbcjidkmoaa
open Go.Aw
theorem fin_num {x : Nat} (h : isFin x = true) : isNaN .f32 x = false := by
  cases hn : isNaN .f32 x with
  | false => rfl
  | true =>
    exfalso
    have h' : (FloatKind.f32.format.read x).isNaN = true := hn
    have e : fsub .f32 x x = nanOf .f32 := by
      unfold fsub Ieee.Format.sub
      cases hd : FloatKind.f32.format.read x with
      | nan s t => rfl
      | infinity s => rw [hd] at h'; cases h'
      | number s m i => rw [hd] at h'; cases h'
    rw [isFin, e] at h
    exact absurd h (by decide +kernel)
theorem order_some {d e : Ieee.Datum} (hd : d.isNaN = false) (he : e.isNaN = false) : ∃ o, d.order e = some o := by
  cases d <;> cases e <;> first | (cases hd; done) | (cases he; done) | exact ⟨_, rfl⟩
theorem le_not_gt {k : FloatKind} {x y : Nat} (hx : isNaN k x = false) (hy : isNaN k y = false) : fle k x y = !fgt k x y := by
  obtain ⟨o, ho⟩ := order_some (d := k.format.read x) (e := k.format.read y) hx hy
  unfold fle flt feq fgt Ieee.Format.order
  rw [ho]
  cases o <;> rfl
def notPos (x : Nat) : Bool := !isFin x || fle .f32 x 0
def posF (x : Nat) : Bool := isFin x && fgt .f32 x 0
theorem not_notPos (x : Nat) : (!notPos x) = posF x := by
  unfold notPos posF
  cases h : isFin x with
  | false => rfl
  | true => rw [le_not_gt (fin_num h) (by decide +kernel)]; simp
theorem arePositive1_tells : Tells Try.prog 134 (.r (kPred notPos)) := by
  intro args r H' p hr hp
  unfold kPred at hr
  split at hr <;> cases hr
  refine ⟨.b, .nil, Con.of ttok Try.func134 rfl rfl (Nat.le_refl _) (AW.exec ttok ctIsFinite_ok (by cbv) ?_)⟩
  simp only [natCast_int, Post, All, thenA, canon0, canon064, and_true, true_and, forall_const, implies_true, decide_eq_true_eq, decide_eq_false_iff_not, Bool.not_eq_true', Bool.not_eq_false', Bool.true_and, Bool.and_true, beq_true, beq_false, Int.toNat_natCast, Int.ofNat_lt, Int.ofNat_le, Nat.zero_add, Nat.add_zero, imp_self, Bool.cond_false_right, Bool.cond_true_left, Bool.cond_true_right, IsF, rdF_eq, fOf, AV.f.injEq, exists_eq', free_list, free_fn0, List.not_mem_nil, List.mem_cons, false_imp, forall_eq, or_false, free_i, free_f, free_b, ren_f, ren_i, ren_b, and_self, bne_iff_ne, bne_eq_false_iff_eq, ne_eq, Int.natCast_inj, or_true, true_or, freeB_list, unfr_f, unfr_i, unfr_b, unfr_c, unfr_s, free_c, free_s, ren_c, ren_s, unfr_ro, unfr_rptr, ren_ro, free_ll, free_box, kill_f, kill_i, kill_b, kill_c, kill_s, kill_rof, kill_rot, Int.toNat_zero, isFF_ll, rowN_ll, rowX_ll, AllFree, Option.some.injEq, Prod.mk.injEq, Bool.false_eq_true, Bool.true_eq_false]
  (repeat' first | with_reducible assumption | with_reducible apply And.intro | with_reducible intro hh) <;> first | ((first | with_reducible show (_ : Int) ≤ _ | with_reducible show (_ : Int) < _ | with_reducible show (_ : Nat) ≤ _ | with_reducible show (_ : Nat) < _ | with_reducible show (_ : Int) = _ | with_reducible show (_ : Nat) = _ | with_reducible show ¬ _ | with_reducible show _ ≠ _) <;> first | omega | (simp only [Bool.and_eq_true, Bool.or_eq_false_iff, Bool.not_eq_false', Bool.not_eq_true', decide_eq_true_eq, decide_eq_false_iff_not] at *; omega) | (with_reducible assumption)) | (with_reducible assumption) | skip
  exact fin_ret (.inl rfl) (by cbv) (by simp) (To.fresh ⟨.b rfl, trivial⟩)
/-- The first place where notPos holds, -1 where none does: slices.IndexFunc over the closure 134. -/
def kIndex_notPos : Kr
  | [a, .fn (.func c) [] []] => match Nat.beq c 134 with
    | true => match asL a with
      | some (n, g) => some (.i .i64 fun _ => firstN (fun i => notPos (rdF g i)) (n .u), [], fun _ => IsF n g)
      | none => none
    | false => none
  | _ => none
def ctI_notPos : CT := [(134, .r (kPred notPos))]
theorem ctI_notPos_ok : CTok Try.prog ctI_notPos := CTok.cons arePositive1_tells (CTok.nil _)
theorem index_notPos : Tells Try.prog 147 (.r kIndex_notPos) := by
  intro args r H' p hr hp
  unfold kIndex_notPos at hr
  split at hr <;> first | (cases hr; done) | skip
  split at hr <;> first | (cases hr; done) | skip
  rename_i c hc
  obtain rfl := Nat.beq_eq.mp hc
  split at hr <;> cases hr
  rename_i n g hL
  refine ⟨.i, .nil, Con.pre (args' := [listF false n (rdF g), .fn (.func 134) [] []]) ⟨.asL hL hp, Sub.refl _, trivial⟩ ?_⟩
  have hn := hp.1
  generalize rdF g = x
  refine Con.of ttok Try.func147 rfl rfl (Nat.le_refl _) (AW.exec ttok ctI_notPos_ok (by cbv) ?_)
  simp only [natCast_int, Post, All, thenA, canon0, canon064, and_true, true_and, forall_const, implies_true, decide_eq_true_eq, decide_eq_false_iff_not, Bool.not_eq_true', Bool.not_eq_false', Bool.true_and, Bool.and_true, beq_true, beq_false, Int.toNat_natCast, Int.ofNat_lt, Int.ofNat_le, Nat.zero_add, Nat.add_zero, imp_self, Bool.cond_false_right, Bool.cond_true_left, Bool.cond_true_right, IsF, rdF_eq, fOf, AV.f.injEq, exists_eq', free_list, free_fn0, List.not_mem_nil, List.mem_cons, false_imp, forall_eq, or_false, free_i, free_f, free_b, ren_f, ren_i, ren_b, and_self, bne_iff_ne, bne_eq_false_iff_eq, ne_eq, Int.natCast_inj, or_true, true_or, freeB_list, unfr_f, unfr_i, unfr_b, unfr_c, unfr_s, free_c, free_s, ren_c, ren_s, unfr_ro, unfr_rptr, ren_ro, free_ll, free_box, kill_f, kill_i, kill_b, kill_c, kill_s, kill_rof, kill_rot, Int.toNat_zero, isFF_ll, rowN_ll, rowX_ll, AllFree, Option.some.injEq, Prod.mk.injEq, Bool.false_eq_true, Bool.true_eq_false]
  refine AW.loopTo (ι := Nat) (fun i => i ≤ n .u ∧ ∀ j, j < i → notPos (x j) = false) (fun i => n .u - i) (fun i => mkE Try.f147.ntmps [(0, listF false n x), (1, .fn (.func 134) [] []), (7, .i .i64 fun _ => (n .u : Int)), (8, .i .i64 fun _ => (i : Int))]) (fun _ => []) 0 ⟨Nat.zero_le _, fun j hj => absurd hj (Nat.not_lt_zero _)⟩ (To.same (Nat.le_refl _) trivial ?_) ?_
  · (repeat' first | exact AllTo.nil | apply AllTo.cons) <;> first | exact AvTo.dead _ | exact AvTo.i rfl | exact AvTo.i (by first | omega | (simp only [natCast_int]; omega)) | exact AvTo.f rfl | exact AvTo.b rfl | exact AvTo.v _ | exact AvTo.own rfl rfl rfl rfl | exact AvTo.own rfl rfl (by first | rfl | omega) (by first | rfl | omega) | exact Free.same .listF | exact Free.same (.fn (by simp) (by simp)) | skip
  · rintro i ⟨hi, hx⟩
    refine AW.exec ttok ctI_notPos_ok (by cbv) ?_
    simp only [natCast_int, Post, All, thenA, canon0, canon064, and_true, true_and, forall_const, implies_true, decide_eq_true_eq, decide_eq_false_iff_not, Bool.not_eq_true', Bool.not_eq_false', Bool.true_and, Bool.and_true, beq_true, beq_false, Int.toNat_natCast, Int.ofNat_lt, Int.ofNat_le, Nat.zero_add, Nat.add_zero, imp_self, Bool.cond_false_right, Bool.cond_true_left, Bool.cond_true_right, IsF, rdF_eq, fOf, AV.f.injEq, exists_eq', free_list, free_fn0, List.not_mem_nil, List.mem_cons, false_imp, forall_eq, or_false, free_i, free_f, free_b, ren_f, ren_i, ren_b, and_self, bne_iff_ne, bne_eq_false_iff_eq, ne_eq, Int.natCast_inj, or_true, true_or, freeB_list, unfr_f, unfr_i, unfr_b, unfr_c, unfr_s, free_c, free_s, ren_c, ren_s, unfr_ro, unfr_rptr, ren_ro, free_ll, free_box, kill_f, kill_i, kill_b, kill_c, kill_s, kill_rof, kill_rot, Int.toNat_zero, isFF_ll, rowN_ll, rowX_ll, AllFree, Option.some.injEq, Prod.mk.injEq, Bool.false_eq_true, Bool.true_eq_false]
    refine ⟨fun h1 => ⟨by omega, fun _ => ⟨fun h2 => ?_, fun h2 => ⟨by omega, fun _ => ⟨i + 1, ⟨h1, lt_succ_all hx h2⟩, by omega, To.same (Nat.le_refl _) trivial ?_⟩⟩⟩⟩, fun h1 => ?_⟩
    · refine Post.leaf (by cbv) (fin_ret (.inl rfl) (by cbv) (by simp) (To.fresh ⟨.i ?_, trivial⟩))
      exact (firstN_at (q := fun i => notPos (x i)) h1 h2 hx).symm
    · (repeat' first | exact AllTo.nil | apply AllTo.cons) <;> first | exact AvTo.dead _ | exact AvTo.i rfl | exact AvTo.i (by first | omega | (simp only [natCast_int]; omega)) | exact AvTo.f rfl | exact AvTo.b rfl | exact AvTo.v _ | exact AvTo.own rfl rfl rfl rfl | exact AvTo.own rfl rfl (by first | rfl | omega) (by first | rfl | omega) | exact Free.same .listF | exact Free.same (.fn (by simp) (by simp)) | skip
    · refine Post.eval (by cbv) ?_
      simp only [natCast_int, Post, All, thenA, canon0, canon064, and_true, true_and, forall_const, implies_true, decide_eq_true_eq, decide_eq_false_iff_not, Bool.not_eq_true', Bool.not_eq_false', Bool.true_and, Bool.and_true, beq_true, beq_false, Int.toNat_natCast, Int.ofNat_lt, Int.ofNat_le, Nat.zero_add, Nat.add_zero, imp_self, Bool.cond_false_right, Bool.cond_true_left, Bool.cond_true_right, IsF, rdF_eq, fOf, AV.f.injEq, exists_eq', free_list, free_fn0, List.not_mem_nil, List.mem_cons, false_imp, forall_eq, or_false, free_i, free_f, free_b, ren_f, ren_i, ren_b, and_self, bne_iff_ne, bne_eq_false_iff_eq, ne_eq, Int.natCast_inj, or_true, true_or, freeB_list, unfr_f, unfr_i, unfr_b, unfr_c, unfr_s, free_c, free_s, ren_c, ren_s, unfr_ro, unfr_rptr, ren_ro, free_ll, free_box, kill_f, kill_i, kill_b, kill_c, kill_s, kill_rof, kill_rot, Int.toNat_zero, isFF_ll, rowN_ll, rowX_ll, AllFree, Option.some.injEq, Prod.mk.injEq, Bool.false_eq_true, Bool.true_eq_false]
      refine fin_ret (.inl rfl) (by cbv) (by simp) (To.fresh ⟨.i ?_, trivial⟩)
      have e : i = n .u := by omega
      exact (firstN_none (q := fun i => notPos (x i)) (e ▸ hx)).symm
def kHas_notPos : Kr
  | [a, .fn (.func c) [] []] => match Nat.beq c 134 with
    | true => match asL a with
      | some (n, g) => some (.b fun _ => !allN (fun i => !notPos (rdF g i)) (n .u), [], fun _ => IsF n g)
      | none => none
    | false => none
  | _ => none
def ctH_notPos : CT := [(147, .r kIndex_notPos)]
theorem ctH_notPos_ok : CTok Try.prog ctH_notPos := CTok.cons index_notPos (CTok.nil _)
theorem has_notPos : Tells Try.prog 124 (.r kHas_notPos) := by
  intro args r H' p hr hp
  unfold kHas_notPos at hr
  split at hr <;> first | (cases hr; done) | skip
  split at hr <;> first | (cases hr; done) | skip
  rename_i c hc
  obtain rfl := Nat.beq_eq.mp hc
  split at hr <;> cases hr
  rename_i n g hL
  refine ⟨.b, .nil, Con.pre (args' := [listF false n (rdF g), .fn (.func 134) [] []]) ⟨.asL hL hp, Sub.refl _, trivial⟩ ?_⟩
  have hn := hp.1
  generalize rdF g = x
  refine Con.of ttok Try.func124 rfl rfl (Nat.le_refl _) (AW.exec ttok ctH_notPos_ok (by cbv) ?_)
  simp only [natCast_int, Post, All, thenA, canon0, canon064, and_true, true_and, forall_const, implies_true, decide_eq_true_eq, decide_eq_false_iff_not, Bool.not_eq_true', Bool.not_eq_false', Bool.true_and, Bool.and_true, beq_true, beq_false, Int.toNat_natCast, Int.ofNat_lt, Int.ofNat_le, Nat.zero_add, Nat.add_zero, imp_self, Bool.cond_false_right, Bool.cond_true_left, Bool.cond_true_right, IsF, rdF_eq, fOf, AV.f.injEq, exists_eq', free_list, free_fn0, List.not_mem_nil, List.mem_cons, false_imp, forall_eq, or_false, free_i, free_f, free_b, ren_f, ren_i, ren_b, and_self, bne_iff_ne, bne_eq_false_iff_eq, ne_eq, Int.natCast_inj, or_true, true_or, freeB_list, unfr_f, unfr_i, unfr_b, unfr_c, unfr_s, free_c, free_s, ren_c, ren_s, unfr_ro, unfr_rptr, ren_ro, free_ll, free_box, kill_f, kill_i, kill_b, kill_c, kill_s, kill_rof, kill_rot, Int.toNat_zero, isFF_ll, rowN_ll, rowX_ll, AllFree, Option.some.injEq, Prod.mk.injEq, Bool.false_eq_true, Bool.true_eq_false]
  exact ⟨hn, fun _ => fin_ret (.inl rfl) (by cbv) (by simp) (To.fresh ⟨.b (has_first (q := fun i => notPos (x i)) (n .u)).symm, trivial⟩)⟩
def posN (n : Nat) (x : Nat → Nat) : Bool := allN (fun i => posF (x i)) n
theorem posN_one (x : Nat → Nat) : posN 1 x = posF (x 0) := by simp [posN, allN]
theorem pos_of {y : Nat} {b : Bool} (h : posN 1 (fun i => match [AV.f .f32 fun _ => y].getD (i * 1) .dead with
  | .f _ x => x .u
  | _ => 0) = b) : posF y = b := by rw [posN_one] at h; exact h
def kPosN : Kr
  | [a] => match asL a with
    | some (n, g) => some (.b fun _ => posN (n .u) (rdF g), [], fun _ => IsF n g)
    | none => none
  | _ => none
def ctArePos : CT := [(124, .r kHas_notPos)]
theorem ctArePos_ok : CTok Try.prog ctArePos := CTok.cons has_notPos (CTok.nil _)
theorem arePositive_tells : Tells Try.prog 101 (.r kPosN) := by
  intro args r H' p hr hp
  unfold kPosN at hr
  split at hr <;> first | (cases hr; done) | skip
  split at hr <;> cases hr
  rename_i n g hL
  refine ⟨.b, .nil, Con.pre (args' := [listF false n (rdF g)]) ⟨.asL hL hp, trivial⟩ ?_⟩
  have hn := hp.1
  generalize rdF g = x
  refine Con.of ttok Try.func101 rfl rfl (Nat.le_refl _) (AW.exec ttok ctArePos_ok (by cbv) ?_)
  simp only [natCast_int, Post, All, thenA, canon0, canon064, and_true, true_and, forall_const, implies_true, decide_eq_true_eq, decide_eq_false_iff_not, Bool.not_eq_true', Bool.not_eq_false', Bool.true_and, Bool.and_true, beq_true, beq_false, Int.toNat_natCast, Int.ofNat_lt, Int.ofNat_le, Nat.zero_add, Nat.add_zero, imp_self, Bool.cond_false_right, Bool.cond_true_left, Bool.cond_true_right, IsF, rdF_eq, fOf, AV.f.injEq, exists_eq', free_list, free_fn0, List.not_mem_nil, List.mem_cons, false_imp, forall_eq, or_false, free_i, free_f, free_b, ren_f, ren_i, ren_b, and_self, bne_iff_ne, bne_eq_false_iff_eq, ne_eq, Int.natCast_inj, or_true, true_or, freeB_list, unfr_f, unfr_i, unfr_b, unfr_c, unfr_s, free_c, free_s, ren_c, ren_s, unfr_ro, unfr_rptr, ren_ro, free_ll, free_box, kill_f, kill_i, kill_b, kill_c, kill_s, kill_rof, kill_rot, Int.toNat_zero, isFF_ll, rowN_ll, rowX_ll, AllFree, Option.some.injEq, Prod.mk.injEq, Bool.false_eq_true, Bool.true_eq_false]
  refine ⟨hn, fun _ => fin_ret (.inl rfl) (by cbv) (by simp) (To.fresh ⟨.b ?_, trivial⟩)⟩
  simp only [posN, not_notPos, Bool.not_not]
theorem l05Product_tells : Tells Try.prog 95 (.r kDot) := by
  intro args r H' p hr hp
  unfold kDot at hr
  split at hr <;> first | (cases hr; done) | skip
  split at hr <;> cases hr
  rename_i n g m h hL hL'
  obtain ⟨hp, hp', hnm⟩ := hp
  refine ⟨.f, .nil, Con.pre (args' := [listF false n (rdF g), listF false m (rdF h)]) ⟨.asL hL hp, .asL hL' hp', trivial⟩ ?_⟩
  have hn := hp.1
  generalize rdF g = x
  generalize rdF h = y
  refine Con.of ttok Try.func95 rfl rfl (Nat.le_refl _) (AW.exec ttok (CTok.nil _) (by cbv) ?_)
  simp only [natCast_int, Post, All, thenA, canon0, canon064, and_true, true_and, forall_const, implies_true, decide_eq_true_eq, decide_eq_false_iff_not, Bool.not_eq_true', Bool.not_eq_false', Bool.true_and, Bool.and_true, beq_true, beq_false, Int.toNat_natCast, Int.ofNat_lt, Int.ofNat_le, Nat.zero_add, Nat.add_zero, imp_self, Bool.cond_false_right, Bool.cond_true_left, Bool.cond_true_right, IsF, rdF_eq, fOf, AV.f.injEq, exists_eq', free_list, free_fn0, List.not_mem_nil, List.mem_cons, false_imp, forall_eq, or_false, free_i, free_f, free_b, ren_f, ren_i, ren_b, and_self, bne_iff_ne, bne_eq_false_iff_eq, ne_eq, Int.natCast_inj, or_true, true_or, freeB_list, unfr_f, unfr_i, unfr_b, unfr_c, unfr_s, free_c, free_s, ren_c, ren_s, unfr_ro, unfr_rptr, ren_ro, free_ll, free_box, kill_f, kill_i, kill_b, kill_c, kill_s, kill_rof, kill_rot, Int.toNat_zero, isFF_ll, rowN_ll, rowX_ll, AllFree, Option.some.injEq, Prod.mk.injEq, Bool.false_eq_true, Bool.true_eq_false]
  refine AW.loopTo (ι := Nat) (fun i => i ≤ n .u) (fun i => n .u - i) (fun i => mkE Try.f95.ntmps [(0, listF false n x), (1, listF false m y), (5, .f .f32 fun _ => dotN x y i), (8, .i .i64 fun _ => (n .u : Int)), (9, .i .i64 fun _ => (i : Int))])
    (fun _ => []) 0 (Nat.zero_le _) (To.same (Nat.le_refl _) trivial ?_) ?_
  · (repeat' first | exact AllTo.nil | apply AllTo.cons) <;> first | exact AvTo.dead _ | exact AvTo.i rfl | exact AvTo.i (by first | omega | (simp only [natCast_int]; omega)) | exact AvTo.f rfl | exact AvTo.b rfl | exact AvTo.v _ | exact AvTo.own rfl rfl rfl rfl | exact AvTo.own rfl rfl (by first | rfl | omega) (by first | rfl | omega) | exact Free.same .listF | exact Free.same (.fn (by simp) (by simp)) | skip
  · rintro q hq
    refine AW.exec ttok (CTok.nil _) (by cbv) ?_
    simp only [natCast_int, Post, All, thenA, canon0, canon064, and_true, true_and, forall_const, implies_true, decide_eq_true_eq, decide_eq_false_iff_not, Bool.not_eq_true', Bool.not_eq_false', Bool.true_and, Bool.and_true, beq_true, beq_false, Int.toNat_natCast, Int.ofNat_lt, Int.ofNat_le, Nat.zero_add, Nat.add_zero, imp_self, Bool.cond_false_right, Bool.cond_true_left, Bool.cond_true_right, IsF, rdF_eq, fOf, AV.f.injEq, exists_eq', free_list, free_fn0, List.not_mem_nil, List.mem_cons, false_imp, forall_eq, or_false, free_i, free_f, free_b, ren_f, ren_i, ren_b, and_self, bne_iff_ne, bne_eq_false_iff_eq, ne_eq, Int.natCast_inj, or_true, true_or, freeB_list, unfr_f, unfr_i, unfr_b, unfr_c, unfr_s, free_c, free_s, ren_c, ren_s, unfr_ro, unfr_rptr, ren_ro, free_ll, free_box, kill_f, kill_i, kill_b, kill_c, kill_s, kill_rof, kill_rot, Int.toNat_zero, isFF_ll, rowN_ll, rowX_ll, AllFree, Option.some.injEq, Prod.mk.injEq, Bool.false_eq_true, Bool.true_eq_false]
    (repeat' first | with_reducible assumption | with_reducible apply And.intro | with_reducible intro hh) <;> first | ((first | with_reducible show (_ : Int) ≤ _ | with_reducible show (_ : Int) < _ | with_reducible show (_ : Nat) ≤ _ | with_reducible show (_ : Nat) < _ | with_reducible show (_ : Int) = _ | with_reducible show (_ : Nat) = _ | with_reducible show ¬ _ | with_reducible show _ ≠ _) <;> first | omega | (simp only [Bool.and_eq_true, Bool.or_eq_false_iff, Bool.not_eq_false', Bool.not_eq_true', decide_eq_true_eq, decide_eq_false_iff_not] at *; omega) | (with_reducible assumption)) | (with_reducible assumption) | skip
    · refine ⟨q + 1, by omega, by omega, To.same (Nat.le_refl _) trivial ?_⟩
      (repeat' first | exact AllTo.nil | apply AllTo.cons) <;> first | exact AvTo.dead _ | exact AvTo.i rfl | exact AvTo.i (by first | omega | (simp only [natCast_int]; omega)) | exact AvTo.f rfl | exact AvTo.b rfl | exact AvTo.v _ | exact AvTo.own rfl rfl rfl rfl | exact AvTo.own rfl rfl (by first | rfl | omega) (by first | rfl | omega) | exact Free.same .listF | exact Free.same (.fn (by simp) (by simp)) | skip
    · refine Post.eval (by cbv) ?_
      simp only [natCast_int, Post, All, thenA, canon0, canon064, and_true, true_and, forall_const, implies_true, decide_eq_true_eq, decide_eq_false_iff_not, Bool.not_eq_true', Bool.not_eq_false', Bool.true_and, Bool.and_true, beq_true, beq_false, Int.toNat_natCast, Int.ofNat_lt, Int.ofNat_le, Nat.zero_add, Nat.add_zero, imp_self, Bool.cond_false_right, Bool.cond_true_left, Bool.cond_true_right, IsF, rdF_eq, fOf, AV.f.injEq, exists_eq', free_list, free_fn0, List.not_mem_nil, List.mem_cons, false_imp, forall_eq, or_false, free_i, free_f, free_b, ren_f, ren_i, ren_b, and_self, bne_iff_ne, bne_eq_false_iff_eq, ne_eq, Int.natCast_inj, or_true, true_or, freeB_list, unfr_f, unfr_i, unfr_b, unfr_c, unfr_s, free_c, free_s, ren_c, ren_s, unfr_ro, unfr_rptr, ren_ro, free_ll, free_box, kill_f, kill_i, kill_b, kill_c, kill_s, kill_rof, kill_rot, Int.toNat_zero, isFF_ll, rowN_ll, rowX_ll, AllFree, Option.some.injEq, Prod.mk.injEq, Bool.false_eq_true, Bool.true_eq_false]
      have e : q = n .u := by omega
      exact fin_ret (.inl rfl) (by cbv) (by simp) (To.fresh (.cons (.f (by rw [e])) .nil))
/-! Normal lists. -/
def normX (n : Nat) (x : Nat → Nat) : Nat → Nat := overX x (rootF (dotN x x n))
def okNorm (n : Nat) (x : Nat → Nat) : Bool := posF (dotN x x n) && finN n (normX n x)
def okNormal (n : Nat) (x : Nat → Nat) : Bool := isList n x && okNorm n x
theorem not_norm {n : Nat} {x : Nat → Nat} (h : (!isFin (dotN x x n) || !fgt .f32 (dotN x x n) 0) = true) : okNorm n x = false := by
  unfold okNorm posF
  cases h1 : isFin (dotN x x n) <;> simp_all
theorem is_pos {y : Nat} (h : (!isFin y || !fgt .f32 y 0) = false) : posF y = true := by
  unfold posF
  cases h1 : isFin y <;> simp_all
def kNorm : Kg
  | [a], [] => match asLg a with
    | some (n, g) => some (ansL n (normX (n .u) (rdF g)) (okNorm (n .u) (rdF g)) (IsF n g ∧ n .u ≤ 1048576))
    | none => none
  | _, _ => none
def kNormal : Kg
  | [a], [] => match asLg a with
    | some (n, g) => some (ansL n (normX (n .u) (rdF g)) (okNormal (n .u) (rdF g)) (IsF n g))
    | none => none
  | _, _ => none
def ctNorm : CT := [(95, .r kDot), (71, .r kFin), (148, .r kRoot), (72, .g 1 kGive)]
theorem ctNorm_ok : CTok Try.prog ctNorm := .cons l05Product_tells (.cons l01Finite_tells (.cons l01Sqrt_tells (.cons give_g (.nil _))))
theorem l07Normal_g : Tells Try.prog 133 (.g 0 kNorm) := by
  intro args Hc r hr
  unfold kNorm at hr
  split at hr <;> first | (cases hr; done) | skip
  split at hr <;> cases hr
  rename_i n g hL
  refine AnsOk.two ttok Try.func133 rfl rfl (Nat.zero_le _) (Nat.zero_le _) (allFr_tup2 .own .b) (allFr_tup2 .v .b) .list .nil fun ⟨hF, hn⟩ => ⟨[listF false n (rdF g)], ⟨.asLg hL hF, trivial⟩, ?_⟩
  have hn1 := hF.1
  generalize rdF g = x
  refine AW.exec ttok ctNorm_ok (by cbv) ?_
  simp only [natCast_int, Post, All, thenA, canon0, canon064, and_true, true_and, forall_const, implies_true, decide_eq_true_eq, decide_eq_false_iff_not, Bool.not_eq_true', Bool.not_eq_false', Bool.true_and, Bool.and_true, beq_true, beq_false, Int.toNat_natCast, Int.ofNat_lt, Int.ofNat_le, Nat.zero_add, Nat.add_zero, imp_self, Bool.cond_false_right, Bool.cond_true_left, Bool.cond_true_right, IsF, rdF_eq, fOf, AV.f.injEq, exists_eq', free_list, free_fn0, List.not_mem_nil, List.mem_cons, false_imp, forall_eq, or_false, free_i, free_f, free_b, ren_f, ren_i, ren_b, and_self, bne_iff_ne, bne_eq_false_iff_eq, ne_eq, Int.natCast_inj, or_true, true_or, freeB_list, unfr_f, unfr_i, unfr_b, unfr_c, unfr_s, free_c, free_s, ren_c, ren_s, unfr_ro, unfr_rptr, ren_ro, free_ll, free_box, kill_f, kill_i, kill_b, kill_c, kill_s, kill_rof, kill_rot, Int.toNat_zero, isFF_ll, rowN_ll, rowX_ll, AllFree, Option.some.injEq, Prod.mk.injEq, Bool.false_eq_true, Bool.true_eq_false, eqL_self, heldL_mark, heldL_zero, one_neg, Nat.zero_le, Nat.not_lt_zero, one_add_len, one_le_tb, zero_le_one', not_false_eq_true, true_imp_iff, bne_self_eq_false, Bool.or_false, Bool.false_or, Bool.not_true, Bool.not_false, Bool.true_eq_false, Bool.false_eq_true, false_imp, Nat.le_refl, decide_true, decide_false, not_true_eq_false, Int.lt_irrefl, hn1, Nat.le_refl]
  (repeat' first | with_reducible assumption | with_reducible apply And.intro | with_reducible intro hh) <;> first | ((first | with_reducible show (_ : Int) ≤ _ | with_reducible show (_ : Int) < _ | with_reducible show (_ : Nat) ≤ _ | with_reducible show (_ : Nat) < _ | with_reducible show (_ : Int) = _ | with_reducible show (_ : Nat) = _ | with_reducible show ¬ _ | with_reducible show _ ≠ _) <;> first | omega | (simp only [Bool.and_eq_true, Bool.or_eq_false_iff, Bool.not_eq_false', Bool.not_eq_true', decide_eq_true_eq, decide_eq_false_iff_not] at *; omega) | (with_reducible assumption)) | (with_reducible assumption) | skip
  · have h2 : (!isFin (dotN x x (n .u)) || !fgt .f32 (dotN x x (n .u)) 0) = true := by assumption
    refine okA.no (not_norm h2) (fin_ret (.inl rfl) (by cbv) (by simp) (To.fresh noL_to))
  have h2 : (!isFin (dotN x x (n .u)) || !fgt .f32 (dotN x x (n .u)) 0) = false := by assumption
  have h3 := is_pos h2
  refine AW.loopH (ι := Nat) (fun i => i ≤ n .u) (fun i => n .u - i) (fun i => mkE Try.f133.ntmps [(0, listF false n x), (5, .f .f32 fun _ => rootF (dotN x x (n .u))), (6, .own 0 (fun _ => 0) (fun _ => i) 1), (23, .i .i64 fun _ => (n .u : Int)), (24, .i .i64 fun _ => (i : Int))])
    (fun i => [blkF true (fun _ => i) (normX (n .u) x)]) 0 (Nat.zero_le _) (To.list (Nat.zero_le _) (Nat.le_refl _) (fun e => e) (fun j hj => absurd hj (Nat.not_lt_zero _)) ?_) ?_
  · (repeat' first | exact AllTo.nil | apply AllTo.cons) <;> first | exact AvTo.dead _ | exact AvTo.i rfl | exact AvTo.i (by first | omega | (simp only [natCast_int]; omega)) | exact AvTo.f rfl | exact AvTo.b rfl | exact AvTo.v _ | exact AvTo.own rfl rfl rfl rfl | exact AvTo.own rfl rfl (by first | rfl | omega) (by first | rfl | omega) | exact Free.same .listF | exact Free.same (.fn (by simp) (by simp)) | skip
  · rintro Q' hQ q hq
    refine AW.exec ttok ctNorm_ok (by cbv) ?_
    simp only [natCast_int, Post, All, thenA, canon0, canon064, and_true, true_and, forall_const, implies_true, decide_eq_true_eq, decide_eq_false_iff_not, Bool.not_eq_true', Bool.not_eq_false', Bool.true_and, Bool.and_true, beq_true, beq_false, Int.toNat_natCast, Int.ofNat_lt, Int.ofNat_le, Nat.zero_add, Nat.add_zero, imp_self, Bool.cond_false_right, Bool.cond_true_left, Bool.cond_true_right, IsF, rdF_eq, fOf, AV.f.injEq, exists_eq', free_list, free_fn0, List.not_mem_nil, List.mem_cons, false_imp, forall_eq, or_false, free_i, free_f, free_b, ren_f, ren_i, ren_b, and_self, bne_iff_ne, bne_eq_false_iff_eq, ne_eq, Int.natCast_inj, or_true, true_or, freeB_list, unfr_f, unfr_i, unfr_b, unfr_c, unfr_s, free_c, free_s, ren_c, ren_s, unfr_ro, unfr_rptr, ren_ro, free_ll, free_box, kill_f, kill_i, kill_b, kill_c, kill_s, kill_rof, kill_rot, Int.toNat_zero, isFF_ll, rowN_ll, rowX_ll, AllFree, Option.some.injEq, Prod.mk.injEq, Bool.false_eq_true, Bool.true_eq_false]
    (repeat' first | with_reducible assumption | with_reducible apply And.intro | with_reducible intro hh) <;> first | ((first | with_reducible show (_ : Int) ≤ _ | with_reducible show (_ : Int) < _ | with_reducible show (_ : Nat) ≤ _ | with_reducible show (_ : Nat) < _ | with_reducible show (_ : Int) = _ | with_reducible show (_ : Nat) = _ | with_reducible show ¬ _ | with_reducible show _ ≠ _) <;> first | omega | (simp only [Bool.and_eq_true, Bool.or_eq_false_iff, Bool.not_eq_false', Bool.not_eq_true', decide_eq_true_eq, decide_eq_false_iff_not] at *; omega) | (with_reducible assumption)) | (with_reducible assumption) | skip
    · refine ⟨q + 1, by omega, by omega, To.moved (k := 2) rfl (Nat.le_refl _) (fun e => e) (fun j hj => app_one hj (fun _ => AvTo.f rfl) fun e => AvTo.f (by rw [e]; rfl)) ?_⟩
      (repeat' first | exact AllTo.nil | apply AllTo.cons) <;> first | exact AvTo.dead _ | exact AvTo.i rfl | exact AvTo.i (by first | omega | (simp only [natCast_int]; omega)) | exact AvTo.f rfl | exact AvTo.b rfl | exact AvTo.v _ | exact AvTo.own rfl rfl rfl rfl | exact AvTo.own rfl rfl (by first | rfl | omega) (by first | rfl | omega) | exact Free.same .listF | exact Free.same (.fn (by simp) (by simp)) | skip
    · obtain ⟨rfl⟩ := hQ
      refine Post.eval (by cbv) ?_
      have e : q = n .u := by omega
      simp only [natCast_int, Post, All, thenA, canon0, canon064, and_true, true_and, forall_const, implies_true, decide_eq_true_eq, decide_eq_false_iff_not, Bool.not_eq_true', Bool.not_eq_false', Bool.true_and, Bool.and_true, beq_true, beq_false, Int.toNat_natCast, Int.ofNat_lt, Int.ofNat_le, Nat.zero_add, Nat.add_zero, imp_self, Bool.cond_false_right, Bool.cond_true_left, Bool.cond_true_right, IsF, rdF_eq, fOf, AV.f.injEq, exists_eq', free_list, free_fn0, List.not_mem_nil, List.mem_cons, false_imp, forall_eq, or_false, free_i, free_f, free_b, ren_f, ren_i, ren_b, and_self, bne_iff_ne, bne_eq_false_iff_eq, ne_eq, Int.natCast_inj, or_true, true_or, freeB_list, unfr_f, unfr_i, unfr_b, unfr_c, unfr_s, free_c, free_s, ren_c, ren_s, unfr_ro, unfr_rptr, ren_ro, free_ll, free_box, kill_f, kill_i, kill_b, kill_c, kill_s, kill_rof, kill_rot, Int.toNat_zero, isFF_ll, rowN_ll, rowX_ll, AllFree, Option.some.injEq, Prod.mk.injEq, Bool.false_eq_true, Bool.true_eq_false, e, hn1]
      (repeat' first | with_reducible assumption | with_reducible apply And.intro | with_reducible intro hh) <;> first | ((first | with_reducible show (_ : Int) ≤ _ | with_reducible show (_ : Int) < _ | with_reducible show (_ : Nat) ≤ _ | with_reducible show (_ : Nat) < _ | with_reducible show (_ : Int) = _ | with_reducible show (_ : Nat) = _ | with_reducible show ¬ _ | with_reducible show _ ≠ _) <;> first | omega | (simp only [Bool.and_eq_true, Bool.or_eq_false_iff, Bool.not_eq_false', Bool.not_eq_true', decide_eq_true_eq, decide_eq_false_iff_not] at *; omega) | (with_reducible assumption)) | (with_reducible assumption) | skip
      · exact okA.yes (by simp only [okNorm, h3, Bool.true_and]; assumption) (fin_ret (.inl rfl) (by cbv) (by simp) (To.list (Nat.zero_le _) (Nat.le_refl _) (fun e => e) (fun j hj => AvTo.f rfl) yesL_to))
      · exact okA.no (by simp only [okNorm, h3, Bool.true_and]; assumption) (fin_ret (.inl rfl) (by cbv) (by simp) (To.fresh noL_to))
def ctSpecNormal : CT := [(132, .r kList), (133, .g 0 kNorm)]
theorem ctSpecNormal_ok : CTok Try.prog ctSpecNormal := .cons l05List_tells (.cons l07Normal_g (.nil _))
def ctImplNormal : CT := [(75, .r kIsList), (77, .r kDot), (101, .r kPosN), (44, .r kRoot), (88, .g 0 kOver)]
theorem ctImplNormal_ok : CTok Try.prog ctImplNormal := .cons isList_tells (.cons dot_tells (.cons arePositive_tells (.cons RootNumber_tells (.cons over_g (.nil _)))))
theorem implNormal : Tells Try.prog 93 (.g 0 kNormal) := by
  intro args Hc r hr
  unfold kNormal at hr
  split at hr <;> first | (cases hr; done) | skip
  split at hr <;> cases hr
  rename_i n g hL
  refine AnsOk.two ttok Try.func93 rfl rfl (Nat.zero_le _) (Nat.zero_le _) (allFr_tup2 .own .b) (allFr_tup2 .v .b) .list .nil fun hF => ⟨[listF false n (rdF g)], ⟨.asLg hL hF, trivial⟩, ?_⟩
  have hn1 := hF.1
  generalize rdF g = x
  refine AW.exec ttok ctImplNormal_ok (by cbv) ?_
  simp only [natCast_int, Post, All, thenA, canon0, canon064, and_true, true_and, forall_const, implies_true, decide_eq_true_eq, decide_eq_false_iff_not, Bool.not_eq_true', Bool.not_eq_false', Bool.true_and, Bool.and_true, beq_true, beq_false, Int.toNat_natCast, Int.ofNat_lt, Int.ofNat_le, Nat.zero_add, Nat.add_zero, imp_self, Bool.cond_false_right, Bool.cond_true_left, Bool.cond_true_right, IsF, rdF_eq, fOf, AV.f.injEq, exists_eq', free_list, free_fn0, List.not_mem_nil, List.mem_cons, false_imp, forall_eq, or_false, free_i, free_f, free_b, ren_f, ren_i, ren_b, and_self, bne_iff_ne, bne_eq_false_iff_eq, ne_eq, Int.natCast_inj, or_true, true_or, freeB_list, unfr_f, unfr_i, unfr_b, unfr_c, unfr_s, free_c, free_s, ren_c, ren_s, unfr_ro, unfr_rptr, ren_ro, free_ll, free_box, kill_f, kill_i, kill_b, kill_c, kill_s, kill_rof, kill_rot, Int.toNat_zero, isFF_ll, rowN_ll, rowX_ll, AllFree, Option.some.injEq, Prod.mk.injEq, Bool.false_eq_true, Bool.true_eq_false, isList_fin, hn1, Nat.le_refl]
  (repeat' first | with_reducible assumption | with_reducible apply And.intro | with_reducible intro hh) <;> first | ((first | with_reducible show (_ : Int) ≤ _ | with_reducible show (_ : Int) < _ | with_reducible show (_ : Nat) ≤ _ | with_reducible show (_ : Nat) < _ | with_reducible show (_ : Int) = _ | with_reducible show (_ : Nat) = _ | with_reducible show ¬ _ | with_reducible show _ ≠ _) <;> first | omega | (simp only [Bool.and_eq_true, Bool.or_eq_false_iff, Bool.not_eq_false', Bool.not_eq_true', decide_eq_true_eq, decide_eq_false_iff_not] at *; omega) | (with_reducible assumption)) | (with_reducible assumption) | skip
  · exact okA.no (by simp only [okNormal, ‹isList _ _ = false›, Bool.false_and]) (fin_ret (.inl rfl) (by cbv) (by simp) (To.fresh noL_to))
  · rename_i j c hj
    obtain rfl : j = 0 := by omega
    obtain rfl : c = 0 := by omega
    exact .f
  · rename_i j
    obtain rfl : j = 0 := by omega
    exact ⟨_, rfl⟩
  · have h1 := ‹isList _ _ = true›
    have h2 : posF (dotN x x (n .u)) = false := pos_of hh
    exact okA.no (by simp only [okNormal, okNorm, h2, Bool.false_and, Bool.and_false]) (fin_ret (.inl rfl) (by cbv) (by simp) (To.fresh noL_to))
  · have h8 := isList_le ‹isList _ _ = true›; omega
  · have h1 := ‹isList _ _ = true›
    have h2 : posF (dotN x x (n .u)) = true := pos_of ‹posN 1 _ = true›
    exact okA.yes (by simp only [okNormal, okNorm, h1, h2, Bool.true_and]; assumption) (fin_ret (.inl rfl) (by cbv) (by simp) (To.moved (k := 1) rfl (Nat.le_refl _) (fun e => e) (fun j hj => AvTo.f rfl) (.cons (.tup (.cons (.own rfl rfl rfl rfl) (.cons (.b rfl) .nil))) .nil)))
  · have h8 := isList_le ‹isList _ _ = true›; omega
  · have h1 := ‹isList _ _ = true›
    have h2 : posF (dotN x x (n .u)) = true := pos_of ‹posN 1 _ = true›
    exact okA.no (by simp only [okNormal, okNorm, h1, h2, Bool.true_and]; assumption) (fin_ret (.inl rfl) (by cbv) (by simp) (To.fresh noL_to))
/-! How alike two lists are. -/
def likeV (n : Nat) (x : Nat → Nat) (m : Nat) (y : Nat → Nat) : Nat := dotN (normX n x) (normX m y) n
def okLikeV (n : Nat) (x : Nat → Nat) (m : Nat) (y : Nat → Nat) : Bool := okNorm n x && (okNorm m y && isFin (likeV n x m y))
def okLike (n : Nat) (x : Nat → Nat) (m : Nat) (y : Nat → Nat) : Bool := isTwo n x m y && okLikeV n x m y
theorem okLike_eq (n : Nat) (x : Nat → Nat) (m : Nat) (y : Nat → Nat) : okLike n x m y = (decide (n = m) && (okNormal n x && (okNormal m y && isFin (likeV n x m y)))) := by
  simp only [okLike, okLikeV, okNormal, isTwo]
  cases isList n x <;> cases isList m y <;> cases decide (n = m) <;> cases okNorm n x <;> cases okNorm m y <;> rfl
def kLikeV : Kr
  | [a, b] => match asL a, asL b with
    | some (n, g), some (m, h) => some (numA (likeV (n .u) (rdF g) (m .u) (rdF h)) (okLikeV (n .u) (rdF g) (m .u) (rdF h)), [], fun _ => IsF n g ∧ IsF m h ∧ n .u = m .u ∧ n .u ≤ 1048576)
    | _, _ => none
  | _ => none
def kLike : Kr
  | [a, b] => match asL a, asL b with
    | some (n, g), some (m, h) => some (numA (likeV (n .u) (rdF g) (m .u) (rdF h)) (okLike (n .u) (rdF g) (m .u) (rdF h)), [], fun _ => IsF n g ∧ IsF m h)
    | _, _ => none
  | _ => none
def ctLikeV : CT := [(133, .g 0 kNorm), (95, .r kDot), (127, .r kNum)]
theorem ctLikeV_ok : CTok Try.prog ctLikeV := .cons l07Normal_g (.cons l05Product_tells (.cons l02Number_tells (.nil _)))
theorem l07Like_tells : Tells Try.prog 92 (.r kLikeV) := by
  intro args r H' p hr hp
  unfold kLikeV at hr
  split at hr <;> first | (cases hr; done) | skip
  split at hr <;> cases hr
  rename_i n g m h hL hL'
  obtain ⟨hp, hp', hnm, hn0⟩ := hp
  refine ⟨allFr_num, .nil, Con.pre (args' := [listF false n (rdF g), listF false m (rdF h)]) ⟨.asL hL hp, .asL hL' hp', trivial⟩ ?_⟩
  have hn := hp.1
  have hm := hp'.1
  generalize rdF g = x
  generalize rdF h = y
  refine Con.of ttok Try.func92 rfl rfl (Nat.le_refl _) (AW.exec ttok ctLikeV_ok (by cbv) ?_)
  simp only [natCast_int, Post, All, thenA, canon0, canon064, and_true, true_and, forall_const, implies_true, decide_eq_true_eq, decide_eq_false_iff_not, Bool.not_eq_true', Bool.not_eq_false', Bool.true_and, Bool.and_true, beq_true, beq_false, Int.toNat_natCast, Int.ofNat_lt, Int.ofNat_le, Nat.zero_add, Nat.add_zero, imp_self, Bool.cond_false_right, Bool.cond_true_left, Bool.cond_true_right, IsF, rdF_eq, fOf, AV.f.injEq, exists_eq', free_list, free_fn0, List.not_mem_nil, List.mem_cons, false_imp, forall_eq, or_false, free_i, free_f, free_b, ren_f, ren_i, ren_b, and_self, bne_iff_ne, bne_eq_false_iff_eq, ne_eq, Int.natCast_inj, or_true, true_or, freeB_list, unfr_f, unfr_i, unfr_b, unfr_c, unfr_s, free_c, free_s, ren_c, ren_s, unfr_ro, unfr_rptr, ren_ro, free_ll, free_box, kill_f, kill_i, kill_b, kill_c, kill_s, kill_rof, kill_rot, Int.toNat_zero, isFF_ll, rowN_ll, rowX_ll, AllFree, Option.some.injEq, Prod.mk.injEq, Bool.false_eq_true, Bool.true_eq_false, hn, hm, hn0, ← hnm, Nat.le_refl]
  (repeat' first | with_reducible assumption | with_reducible apply And.intro | with_reducible intro hh) <;> first | ((first | with_reducible show (_ : Int) ≤ _ | with_reducible show (_ : Int) < _ | with_reducible show (_ : Nat) ≤ _ | with_reducible show (_ : Nat) < _ | with_reducible show (_ : Int) = _ | with_reducible show (_ : Nat) = _ | with_reducible show ¬ _ | with_reducible show _ ≠ _) <;> first | omega | (simp only [Bool.and_eq_true, Bool.or_eq_false_iff, Bool.not_eq_false', Bool.not_eq_true', decide_eq_true_eq, decide_eq_false_iff_not] at *; omega) | (with_reducible assumption)) | (with_reducible assumption) | skip
  all_goals first
    | exact absurd ‹(!true || !true) = true› (by decide)
    | exact absurd ‹(!true || !false) = false› (by decide)
    | exact absurd ‹(!false || !true) = false› (by decide)
    | exact absurd ‹(!false || !false) = false› (by decide)
    | (refine fin_ret (.inl rfl) (by cbv) (by simp) (To.fresh (.cons (.tup (.cons (.f ?_) (.cons (.b ?_) .nil))) .nil)) <;> simp_all [okLikeV, likeV, okLike, okNormal, isTwo])
def ctSpecLike : CT := [(91, .r kTwo), (92, .r kLikeV)]
theorem ctSpecLike_ok : CTok Try.prog ctSpecLike := .cons l07Two_tells (.cons l07Like_tells (.nil _))
def ctImplLike : CT := [(93, .g 0 kNormal), (77, .r kDot), (94, .r kNum)]
theorem ctImplLike_ok : CTok Try.prog ctImplLike := .cons implNormal (.cons dot_tells (.cons checkedNum_tells (.nil _)))
theorem implLike : Tells Try.prog 23 (.r kLike) := by
  intro args r H' p hr hp
  unfold kLike at hr
  split at hr <;> first | (cases hr; done) | skip
  split at hr <;> cases hr
  rename_i n g m h hL hL'
  obtain ⟨hp, hp'⟩ := hp
  refine ⟨allFr_num, .nil, Con.pre (args' := [listF false n (rdF g), listF false m (rdF h)]) ⟨.asL hL hp, .asL hL' hp', trivial⟩ ?_⟩
  have hn := hp.1
  have hm := hp'.1
  generalize rdF g = x
  generalize rdF h = y
  refine Con.of ttok Try.func23 rfl rfl (Nat.le_refl _) (AW.exec ttok ctImplLike_ok (by cbv) ?_)
  simp only [natCast_int, Post, All, thenA, canon0, canon064, and_true, true_and, forall_const, implies_true, decide_eq_true_eq, decide_eq_false_iff_not, Bool.not_eq_true', Bool.not_eq_false', Bool.true_and, Bool.and_true, beq_true, beq_false, Int.toNat_natCast, Int.ofNat_lt, Int.ofNat_le, Nat.zero_add, Nat.add_zero, imp_self, Bool.cond_false_right, Bool.cond_true_left, Bool.cond_true_right, IsF, rdF_eq, fOf, AV.f.injEq, exists_eq', free_list, free_fn0, List.not_mem_nil, List.mem_cons, false_imp, forall_eq, or_false, free_i, free_f, free_b, ren_f, ren_i, ren_b, and_self, bne_iff_ne, bne_eq_false_iff_eq, ne_eq, Int.natCast_inj, or_true, true_or, freeB_list, unfr_f, unfr_i, unfr_b, unfr_c, unfr_s, free_c, free_s, ren_c, ren_s, unfr_ro, unfr_rptr, ren_ro, free_ll, free_box, kill_f, kill_i, kill_b, kill_c, kill_s, kill_rof, kill_rot, Int.toNat_zero, isFF_ll, rowN_ll, rowX_ll, AllFree, Option.some.injEq, Prod.mk.injEq, Bool.false_eq_true, Bool.true_eq_false, hn, hm]
  (repeat' first | with_reducible assumption | with_reducible apply And.intro | with_reducible intro hh) <;> first | ((first | with_reducible show (_ : Int) ≤ _ | with_reducible show (_ : Int) < _ | with_reducible show (_ : Nat) ≤ _ | with_reducible show (_ : Nat) < _ | with_reducible show (_ : Int) = _ | with_reducible show (_ : Nat) = _ | with_reducible show ¬ _ | with_reducible show _ ≠ _) <;> first | omega | (simp only [Bool.and_eq_true, Bool.or_eq_false_iff, Bool.not_eq_false', Bool.not_eq_true', decide_eq_true_eq, decide_eq_false_iff_not] at *; omega) | (with_reducible assumption)) | (with_reducible assumption) | skip
  all_goals first
    | exact absurd ‹(!true || !true) = true› (by decide)
    | exact absurd ‹(!true || !false) = false› (by decide)
    | exact absurd ‹(!false || !true) = false› (by decide)
    | exact absurd ‹(!false || !false) = false› (by decide)
    | (refine fin_ret (.inl rfl) (by cbv) (by simp) (To.fresh (.cons (.tup (.cons (.f ?_) (.cons (.b ?_) .nil))) .nil)) <;> simp_all [okLike_eq, likeV])
end Go.Proofs.Ytfdmmbcjidkmoaa
