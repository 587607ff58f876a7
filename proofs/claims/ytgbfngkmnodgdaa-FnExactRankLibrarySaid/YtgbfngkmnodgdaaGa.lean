/- Lists that are handed on when all their numbers are finite; lists divided by a number; sums of products; copies. -/
import Derived.Test.YtgbfngkmnodgdaaFe
set_option linter.unusedSimpArgs false
set_option linter.unusedVariables false
namespace Go.Proofs.Ytgbfngkmnodgdaa
open Go.Aw
/-- A list of one's own under the first name, and nil with no. -/
abbrev yesL (n : Th Nat) : AV := .tup [.own 0 (fun _ => 0) n 1, .b fun _ => true]
abbrev noL : AV := .tup [.v (.slice none 0 0), .b fun _ => false]
abbrev blkF (fr : Bool) (n : Th Nat) (x : Nat → Nat) : Option (Bool × Blk) := some (fr, .tab n 1 fun i _ => .f .f32 fun _ => x (i .u))
theorem noL_to {H H' : Heap} {σ : List Nat} : AllTo H H' σ true [noL] [noL] := .cons (.tup (.cons (.v _) (.cons (.b rfl) .nil))) .nil
theorem yesL_to {fr fr' : Bool} {n : Th Nat} {g g' : Th Nat → Nat → AV} : AllTo [some (fr, .tab n 1 g)] [some (fr', .tab n 1 g')] [0] true [yesL n] [yesL n] := .cons (.tup (.cons (.own rfl rfl rfl rfl) (.cons (.b rfl) .nil))) .nil
def kGive : Kg
  | [.own 0 i n 1], [some (_, .tab m 1 g)] => some (.two (fun _ => finN (m .u) (rdF g)) (.one (yesL m) [blkF false m (rdF g)] fun _ => IsF m g ∧ i .u = 0 ∧ n .u = m .u) (.one noL [blkF false m (rdF g)] fun _ => IsF m g ∧ i .u = 0 ∧ n .u = m .u))
  | _, _ => none
theorem own_sub {i n m : Th Nat} (hi : i .u = 0) (hn : n .u = m .u) : AllSub [.own 0 i n 1] [.own 0 (fun _ => 0) m 1] := ⟨fun w ρ N L v h => by
  cases h with | own hid hv => rw [hi, hn] at hv; exact .own hid hv, trivial⟩
theorem give_g : Tells Try.prog 103 (.g 1 kGive) := by
  intro args Hc r hr
  unfold kGive at hr
  split at hr <;> cases hr
  rename_i i n fr m g
  refine AnsOk.two ttok Try.func103 rfl rfl (Nat.le_refl _) (Nat.le_refl _) (allFr_tup2 .own .b) (allFr_tup2 .v .b) .list .list fun ⟨hF, hi, hn⟩ => ⟨_, own_sub hi hn, AW.toG hF (env' := mkE Try.f103.ntmps [(0, .own 0 (fun _ => 0) m 1)]) ?_ ?_⟩
  · (repeat' first | exact AllTo.nil | apply AllTo.cons) <;> first | exact AvTo.dead _ | exact AvTo.i rfl | exact AvTo.i (by first | omega | (simp only [natCast_int]; omega)) | exact AvTo.f rfl | exact AvTo.b rfl | exact AvTo.v _ | exact AvTo.own rfl rfl rfl rfl | exact AvTo.own rfl rfl (by first | rfl | omega) (by first | rfl | omega) | exact Free.same .listF | exact Free.same (.fn (by simp) (by simp)) | skip
  have hm := hF.1
  generalize rdF g = x
  refine AW.exec ttok ctFin_ok (by cbv) ?_
  simp only [natCast_int, Post, All, thenA, canon0, canon064, and_true, true_and, forall_const, implies_true, decide_eq_true_eq, decide_eq_false_iff_not, Bool.not_eq_true', Bool.not_eq_false', Bool.true_and, Bool.and_true, beq_true, beq_false, Int.toNat_natCast, Int.ofNat_lt, Int.ofNat_le, Nat.zero_add, Nat.add_zero, imp_self, Bool.cond_false_right, Bool.cond_true_left, Bool.cond_true_right, IsF, rdF_eq, fOf, AV.f.injEq, exists_eq', free_list, free_fn0, List.not_mem_nil, List.mem_cons, false_imp, forall_eq, or_false, free_i, free_f, free_b, ren_f, ren_i, ren_b, and_self, bne_iff_ne, bne_eq_false_iff_eq, ne_eq, Int.natCast_inj, or_true, true_or, freeB_list, unfr_f, unfr_i, unfr_b, unfr_c, unfr_s, free_c, free_s, ren_c, ren_s, unfr_ro, unfr_rptr, ren_ro, free_ll, free_box, kill_f, kill_i, kill_b, kill_c, kill_s, kill_rof, kill_rot, Int.toNat_zero, isFF_ll, rowN_ll, rowX_ll, AllFree, Option.some.injEq, Prod.mk.injEq, Bool.false_eq_true, Bool.true_eq_false]
  refine AW.loopTo (ι := Nat) (fun i => i ≤ m .u ∧ ∀ j, j < i → isFin (x j) = true) (fun i => m .u - i) (fun i => mkE Try.f103.ntmps [(0, .own 0 (fun _ => 0) m 1), (6, .i .i64 fun _ => (m .u : Int)), (7, .i .i64 fun _ => (i : Int))])
    (fun i => [blkF false m x]) 0 ⟨Nat.zero_le _, fun j hj => absurd hj (Nat.not_lt_zero _)⟩ (To.list (Nat.le_refl _) (Nat.le_refl _) (fun e => e) (fun j hj => AvTo.f rfl) ?_) ?_
  · (repeat' first | exact AllTo.nil | apply AllTo.cons) <;> first | exact AvTo.dead _ | exact AvTo.i rfl | exact AvTo.i (by first | omega | (simp only [natCast_int]; omega)) | exact AvTo.f rfl | exact AvTo.b rfl | exact AvTo.v _ | exact AvTo.own rfl rfl rfl rfl | exact AvTo.own rfl rfl (by first | rfl | omega) (by first | rfl | omega) | exact Free.same .listF | exact Free.same (.fn (by simp) (by simp)) | skip
  · rintro q ⟨hq, hx⟩
    refine AW.exec ttok ctFin_ok (by cbv) ?_
    simp only [natCast_int, Post, All, thenA, canon0, canon064, and_true, true_and, forall_const, implies_true, decide_eq_true_eq, decide_eq_false_iff_not, Bool.not_eq_true', Bool.not_eq_false', Bool.true_and, Bool.and_true, beq_true, beq_false, Int.toNat_natCast, Int.ofNat_lt, Int.ofNat_le, Nat.zero_add, Nat.add_zero, imp_self, Bool.cond_false_right, Bool.cond_true_left, Bool.cond_true_right, IsF, rdF_eq, fOf, AV.f.injEq, exists_eq', free_list, free_fn0, List.not_mem_nil, List.mem_cons, false_imp, forall_eq, or_false, free_i, free_f, free_b, ren_f, ren_i, ren_b, and_self, bne_iff_ne, bne_eq_false_iff_eq, ne_eq, Int.natCast_inj, or_true, true_or, freeB_list, unfr_f, unfr_i, unfr_b, unfr_c, unfr_s, free_c, free_s, ren_c, ren_s, unfr_ro, unfr_rptr, ren_ro, free_ll, free_box, kill_f, kill_i, kill_b, kill_c, kill_s, kill_rof, kill_rot, Int.toNat_zero, isFF_ll, rowN_ll, rowX_ll, AllFree, Option.some.injEq, Prod.mk.injEq, Bool.false_eq_true, Bool.true_eq_false]
    (repeat' first | with_reducible assumption | with_reducible apply And.intro | with_reducible intro hh) <;> first | ((first | with_reducible show (_ : Int) ≤ _ | with_reducible show (_ : Int) < _ | with_reducible show (_ : Nat) ≤ _ | with_reducible show (_ : Nat) < _ | with_reducible show (_ : Int) = _ | with_reducible show (_ : Nat) = _ | with_reducible show ¬ _ | with_reducible show _ ≠ _) <;> first | omega | (simp only [Bool.and_eq_true, Bool.or_eq_false_iff, Bool.not_eq_false', Bool.not_eq_true', decide_eq_true_eq, decide_eq_false_iff_not] at *; omega) | (with_reducible assumption)) | (with_reducible assumption) | skip
    · refine Post.leaf (by cbv) (okA.no (allN_false ‹q < m .u› (q := fun i => isFin (x i)) (by assumption)) (fin_ret (.inl rfl) (by cbv) (by simp) (To.list (Nat.le_refl _) (Nat.le_refl _) (fun e => e) (fun j hj => AvTo.f rfl) noL_to)))
    · refine ⟨q + 1, ⟨by omega, lt_succ_all hx (by assumption)⟩, by omega, To.list (Nat.le_refl _) (Nat.le_refl _) (fun e => e) (fun j hj => AvTo.f rfl) ?_⟩
      (repeat' first | exact AllTo.nil | apply AllTo.cons) <;> first | exact AvTo.dead _ | exact AvTo.i rfl | exact AvTo.i (by first | omega | (simp only [natCast_int]; omega)) | exact AvTo.f rfl | exact AvTo.b rfl | exact AvTo.v _ | exact AvTo.own rfl rfl rfl rfl | exact AvTo.own rfl rfl (by first | rfl | omega) (by first | rfl | omega) | exact Free.same .listF | exact Free.same (.fn (by simp) (by simp)) | skip
    · refine Post.eval (by cbv) ?_
      simp only [natCast_int, Post, All, thenA, canon0, canon064, and_true, true_and, forall_const, implies_true, decide_eq_true_eq, decide_eq_false_iff_not, Bool.not_eq_true', Bool.not_eq_false', Bool.true_and, Bool.and_true, beq_true, beq_false, Int.toNat_natCast, Int.ofNat_lt, Int.ofNat_le, Nat.zero_add, Nat.add_zero, imp_self, Bool.cond_false_right, Bool.cond_true_left, Bool.cond_true_right, IsF, rdF_eq, fOf, AV.f.injEq, exists_eq', free_list, free_fn0, List.not_mem_nil, List.mem_cons, false_imp, forall_eq, or_false, free_i, free_f, free_b, ren_f, ren_i, ren_b, and_self, bne_iff_ne, bne_eq_false_iff_eq, ne_eq, Int.natCast_inj, or_true, true_or, freeB_list, unfr_f, unfr_i, unfr_b, unfr_c, unfr_s, free_c, free_s, ren_c, ren_s, unfr_ro, unfr_rptr, ren_ro, free_ll, free_box, kill_f, kill_i, kill_b, kill_c, kill_s, kill_rof, kill_rot, Int.toNat_zero, isFF_ll, rowN_ll, rowX_ll, AllFree, Option.some.injEq, Prod.mk.injEq, Bool.false_eq_true, Bool.true_eq_false]
      have e : q = m .u := by omega
      exact okA.yes (allN_true (e ▸ hx)) (fin_ret (.inl rfl) (by cbv) (by simp) (To.list (Nat.le_refl _) (Nat.le_refl _) (fun e => e) (fun j hj => AvTo.f rfl) yesL_to))
theorem checked_g : Tells Try.prog 63 (.g 1 kGive) := by
  intro args Hc r hr
  unfold kGive at hr
  split at hr <;> cases hr
  rename_i i n fr m g
  refine AnsOk.two ttok Try.func63 rfl rfl (Nat.le_refl _) (Nat.le_refl _) (allFr_tup2 .own .b) (allFr_tup2 .v .b) .list .list fun ⟨hF, hi, hn⟩ => ⟨_, own_sub hi hn, AW.toG hF (env' := mkE Try.f63.ntmps [(0, .own 0 (fun _ => 0) m 1)]) ?_ ?_⟩
  · (repeat' first | exact AllTo.nil | apply AllTo.cons) <;> first | exact AvTo.dead _ | exact AvTo.i rfl | exact AvTo.i (by first | omega | (simp only [natCast_int]; omega)) | exact AvTo.f rfl | exact AvTo.b rfl | exact AvTo.v _ | exact AvTo.own rfl rfl rfl rfl | exact AvTo.own rfl rfl (by first | rfl | omega) (by first | rfl | omega) | exact Free.same .listF | exact Free.same (.fn (by simp) (by simp)) | skip
  have hm := hF.1
  generalize rdF g = x
  refine AW.exec ttok ctIsList_ok (by cbv) ?_
  simp only [natCast_int, Post, All, thenA, canon0, canon064, and_true, true_and, forall_const, implies_true, decide_eq_true_eq, decide_eq_false_iff_not, Bool.not_eq_true', Bool.not_eq_false', Bool.true_and, Bool.and_true, beq_true, beq_false, Int.toNat_natCast, Int.ofNat_lt, Int.ofNat_le, Nat.zero_add, Nat.add_zero, imp_self, Bool.cond_false_right, Bool.cond_true_left, Bool.cond_true_right, IsF, rdF_eq, fOf, AV.f.injEq, exists_eq', free_list, free_fn0, List.not_mem_nil, List.mem_cons, false_imp, forall_eq, or_false, free_i, free_f, free_b, ren_f, ren_i, ren_b, and_self, bne_iff_ne, bne_eq_false_iff_eq, ne_eq, Int.natCast_inj, or_true, true_or, freeB_list, unfr_f, unfr_i, unfr_b, unfr_c, unfr_s, free_c, free_s, ren_c, ren_s, unfr_ro, unfr_rptr, ren_ro, free_ll, free_box, kill_f, kill_i, kill_b, kill_c, kill_s, kill_rof, kill_rot, Int.toNat_zero, isFF_ll, rowN_ll, rowX_ll, AllFree, Option.some.injEq, Prod.mk.injEq, Bool.false_eq_true, Bool.true_eq_false, hm, eqL_self, heldL_mark, heldL_zero, one_neg, Nat.zero_le, Nat.not_lt_zero, one_add_len, one_le_tb, zero_le_one', not_false_eq_true, true_imp_iff, bne_self_eq_false, Bool.or_false, Bool.false_or, Bool.not_true, Bool.not_false, Bool.true_eq_false, Bool.false_eq_true, false_imp, Nat.le_refl, decide_true, decide_false, not_true_eq_false, Int.lt_irrefl]
  (repeat' first | with_reducible assumption | with_reducible apply And.intro | with_reducible intro hh) <;> first | ((first | with_reducible show (_ : Int) ≤ _ | with_reducible show (_ : Int) < _ | with_reducible show (_ : Nat) ≤ _ | with_reducible show (_ : Nat) < _ | with_reducible show (_ : Int) = _ | with_reducible show (_ : Nat) = _ | with_reducible show ¬ _ | with_reducible show _ ≠ _) <;> first | omega | (simp only [Bool.and_eq_true, Bool.or_eq_false_iff, Bool.not_eq_false', Bool.not_eq_true', decide_eq_true_eq, decide_eq_false_iff_not] at *; omega) | (with_reducible assumption)) | (with_reducible assumption) | skip
  · exact okA.no (by assumption) (fin_ret (.inl rfl) (by cbv) (by simp) (To.list (Nat.le_refl _) (Nat.le_refl _) (fun e => e) (fun j hj => AvTo.f rfl) noL_to))
  · exact okA.yes (by assumption) (fin_ret (.inl rfl) (by cbv) (by simp) (To.list (Nat.le_refl _) (Nat.le_refl _) (fun e => e) (fun j hj => AvTo.f rfl) yesL_to))
def ctChk : CT := [(63, .g 1 kGive)]
theorem ctChk_ok : CTok Try.prog ctChk := .cons checked_g (.nil _)
/-- A list that is made, where all its numbers are finite. -/
abbrev ansL (n : Th Nat) (x : Nat → Nat) (ok : Bool) (p : Prop) : Ans := .two (fun _ => ok) (.one (yesL n) [blkF true n x] fun _ => p) (.one noL [] fun _ => p)
def kOver : Kg
  | [a, .f .f32 d], [] => match asLg a with
    | some (n, g) => some (ansL n (overX (rdF g) (d .u)) (finN (n .u) (overX (rdF g) (d .u))) (IsF n g ∧ n .u ≤ 1048576))
    | none => none
  | _, _ => none
theorem over_g : Tells Try.prog 106 (.g 0 kOver) := by
  intro args Hc r hr
  unfold kOver at hr
  split at hr <;> first | (cases hr; done) | skip
  split at hr <;> cases hr
  rename_i d _ n g hL
  refine AnsOk.two ttok Try.func106 rfl rfl (Nat.zero_le _) (Nat.zero_le _) (allFr_tup2 .own .b) (allFr_tup2 .v .b) .list .nil fun ⟨hF, hn⟩ => ⟨[listF false n (rdF g), .f .f32 d], ⟨.asLg hL hF, Sub.refl _, trivial⟩, ?_⟩
  generalize rdF g = x
  refine AW.exec ttok ctChk_ok (by cbv) ?_
  simp only [natCast_int, Post, All, thenA, canon0, canon064, and_true, true_and, forall_const, implies_true, decide_eq_true_eq, decide_eq_false_iff_not, Bool.not_eq_true', Bool.not_eq_false', Bool.true_and, Bool.and_true, beq_true, beq_false, Int.toNat_natCast, Int.ofNat_lt, Int.ofNat_le, Nat.zero_add, Nat.add_zero, imp_self, Bool.cond_false_right, Bool.cond_true_left, Bool.cond_true_right, IsF, rdF_eq, fOf, AV.f.injEq, exists_eq', free_list, free_fn0, List.not_mem_nil, List.mem_cons, false_imp, forall_eq, or_false, free_i, free_f, free_b, ren_f, ren_i, ren_b, and_self, bne_iff_ne, bne_eq_false_iff_eq, ne_eq, Int.natCast_inj, or_true, true_or, freeB_list, unfr_f, unfr_i, unfr_b, unfr_c, unfr_s, free_c, free_s, ren_c, ren_s, unfr_ro, unfr_rptr, ren_ro, free_ll, free_box, kill_f, kill_i, kill_b, kill_c, kill_s, kill_rof, kill_rot, Int.toNat_zero, isFF_ll, rowN_ll, rowX_ll, AllFree, Option.some.injEq, Prod.mk.injEq, Bool.false_eq_true, Bool.true_eq_false]
  refine AW.loopTo (ι := Nat) (fun i => i ≤ n .u) (fun i => n .u - i) (fun i => mkE Try.f106.ntmps [(1, .f .f32 d), (6, .own 0 (fun _ => 0) (fun _ => i) 1), (10, listF false n x), (11, .i .i64 fun _ => (n .u : Int)), (12, .i .i64 fun _ => (i : Int))])
    (fun i => [blkF true (fun _ => i) (overX x (d .u))]) 0 (Nat.zero_le _) (To.list (Nat.zero_le _) (Nat.le_refl _) (fun e => e) (fun j hj => absurd hj (Nat.not_lt_zero _)) ?_) ?_
  · (repeat' first | exact AllTo.nil | apply AllTo.cons) <;> first | exact AvTo.dead _ | exact AvTo.i rfl | exact AvTo.i (by first | omega | (simp only [natCast_int]; omega)) | exact AvTo.f rfl | exact AvTo.b rfl | exact AvTo.v _ | exact AvTo.own rfl rfl rfl rfl | exact AvTo.own rfl rfl (by first | rfl | omega) (by first | rfl | omega) | exact Free.same .listF | exact Free.same (.fn (by simp) (by simp)) | skip
  · rintro q hq
    refine AW.exec ttok ctChk_ok (by cbv) ?_
    simp only [natCast_int, Post, All, thenA, canon0, canon064, and_true, true_and, forall_const, implies_true, decide_eq_true_eq, decide_eq_false_iff_not, Bool.not_eq_true', Bool.not_eq_false', Bool.true_and, Bool.and_true, beq_true, beq_false, Int.toNat_natCast, Int.ofNat_lt, Int.ofNat_le, Nat.zero_add, Nat.add_zero, imp_self, Bool.cond_false_right, Bool.cond_true_left, Bool.cond_true_right, IsF, rdF_eq, fOf, AV.f.injEq, exists_eq', free_list, free_fn0, List.not_mem_nil, List.mem_cons, false_imp, forall_eq, or_false, free_i, free_f, free_b, ren_f, ren_i, ren_b, and_self, bne_iff_ne, bne_eq_false_iff_eq, ne_eq, Int.natCast_inj, or_true, true_or, freeB_list, unfr_f, unfr_i, unfr_b, unfr_c, unfr_s, free_c, free_s, ren_c, ren_s, unfr_ro, unfr_rptr, ren_ro, free_ll, free_box, kill_f, kill_i, kill_b, kill_c, kill_s, kill_rof, kill_rot, Int.toNat_zero, isFF_ll, rowN_ll, rowX_ll, AllFree, Option.some.injEq, Prod.mk.injEq, Bool.false_eq_true, Bool.true_eq_false]
    (repeat' first | with_reducible assumption | with_reducible apply And.intro | with_reducible intro hh) <;> first | ((first | with_reducible show (_ : Int) ≤ _ | with_reducible show (_ : Int) < _ | with_reducible show (_ : Nat) ≤ _ | with_reducible show (_ : Nat) < _ | with_reducible show (_ : Int) = _ | with_reducible show (_ : Nat) = _ | with_reducible show ¬ _ | with_reducible show _ ≠ _) <;> first | omega | (simp only [Bool.and_eq_true, Bool.or_eq_false_iff, Bool.not_eq_false', Bool.not_eq_true', decide_eq_true_eq, decide_eq_false_iff_not] at *; omega) | (with_reducible assumption)) | (with_reducible assumption) | skip
    · refine ⟨q + 1, by omega, by omega, To.moved (k := 2) rfl (Nat.le_refl _) (fun e => e) (fun j hj => app_one hj (fun _ => AvTo.f rfl) fun e => AvTo.f (by rw [e]; rfl)) ?_⟩
      (repeat' first | exact AllTo.nil | apply AllTo.cons) <;> first | exact AvTo.dead _ | exact AvTo.i rfl | exact AvTo.i (by first | omega | (simp only [natCast_int]; omega)) | exact AvTo.f rfl | exact AvTo.b rfl | exact AvTo.v _ | exact AvTo.own rfl rfl rfl rfl | exact AvTo.own rfl rfl (by first | rfl | omega) (by first | rfl | omega) | exact Free.same .listF | exact Free.same (.fn (by simp) (by simp)) | skip
    · refine Post.eval (by cbv) ?_
      have e : q = n .u := by omega
      have hn' : n .u ≤ 9223372036854775807 := by omega
      simp only [natCast_int, Post, All, thenA, canon0, canon064, and_true, true_and, forall_const, implies_true, decide_eq_true_eq, decide_eq_false_iff_not, Bool.not_eq_true', Bool.not_eq_false', Bool.true_and, Bool.and_true, beq_true, beq_false, Int.toNat_natCast, Int.ofNat_lt, Int.ofNat_le, Nat.zero_add, Nat.add_zero, imp_self, Bool.cond_false_right, Bool.cond_true_left, Bool.cond_true_right, IsF, rdF_eq, fOf, AV.f.injEq, exists_eq', free_list, free_fn0, List.not_mem_nil, List.mem_cons, false_imp, forall_eq, or_false, free_i, free_f, free_b, ren_f, ren_i, ren_b, and_self, bne_iff_ne, bne_eq_false_iff_eq, ne_eq, Int.natCast_inj, or_true, true_or, freeB_list, unfr_f, unfr_i, unfr_b, unfr_c, unfr_s, free_c, free_s, ren_c, ren_s, unfr_ro, unfr_rptr, ren_ro, free_ll, free_box, kill_f, kill_i, kill_b, kill_c, kill_s, kill_rof, kill_rot, Int.toNat_zero, isFF_ll, rowN_ll, rowX_ll, AllFree, Option.some.injEq, Prod.mk.injEq, Bool.false_eq_true, Bool.true_eq_false, e, hn']
      (repeat' first | with_reducible assumption | with_reducible apply And.intro | with_reducible intro hh) <;> first | ((first | with_reducible show (_ : Int) ≤ _ | with_reducible show (_ : Int) < _ | with_reducible show (_ : Nat) ≤ _ | with_reducible show (_ : Nat) < _ | with_reducible show (_ : Int) = _ | with_reducible show (_ : Nat) = _ | with_reducible show ¬ _ | with_reducible show _ ≠ _) <;> first | omega | (simp only [Bool.and_eq_true, Bool.or_eq_false_iff, Bool.not_eq_false', Bool.not_eq_true', decide_eq_true_eq, decide_eq_false_iff_not] at *; omega) | (with_reducible assumption)) | (with_reducible assumption) | skip
      · exact okA.yes (by assumption) (fin_ret (.inl rfl) (by cbv) (by simp) (To.list (Nat.zero_le _) (Nat.le_refl _) (fun e => e) (fun j hj => AvTo.f rfl) yesL_to))
      · exact okA.no (by assumption) (fin_ret (.inl rfl) (by cbv) (by simp) (To.fresh noL_to))
end Go.Proofs.Ytgbfngkmnodgdaa
