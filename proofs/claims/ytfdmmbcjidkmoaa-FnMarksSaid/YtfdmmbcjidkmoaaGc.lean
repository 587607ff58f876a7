/- Lists that are handed on when all their numbers are finite; lists divided by a number; sums of products; copies. -/
/- Sums of products and copies on the program's side. -/
/- The base of a list on both sides. -/
import Derived.Test.YtfdmmbcjidkmoaaFe
set_option linter.unusedSimpArgs false
set_option linter.unusedVariables false
namespace Go.Proofs.Ytfdmmbcjidkmoaa
open Go.Aw
/-- A list of one's own under the first name, and nil with no. -/
abbrev yesL (n : Th Nat) : AV := .tup [.own 0 (fun _ => 0) n 1, .b fun _ => true]
abbrev noL : AV := .tup [.v (.slice none 0 0), .b fun _ => false]
abbrev blkF (fr : Bool) (n : Th Nat) (x : Nat → Nat) : Option (Bool × Blk) := some (fr, .tab n 1 fun i _ => .f .f32 fun _ => x (i .u))
theorem noL_to {H H' : Heap} {σ : List Nat} : AllTo H H' σ true [noL] [noL] := .cons (.tup (.cons (.v _) (.cons (.b rfl) .nil))) .nil
theorem yesL_to {fr fr' : Bool} {n : Th Nat} {g g' : Th Nat → Nat → AV} : AllTo [some (fr, .tab n 1 g)] [some (fr', .tab n 1 g')] [0] true [yesL n] [yesL n] := .cons (.tup (.cons (.own rfl rfl rfl rfl) (.cons (.b rfl) .nil))) .nil
def kGive : Kg
  | [.own 0 i n 1], [some (_, .tab m 1 g)] => some (.two (fun _ => finN (m .u) (rdF g)) (.one (yesL m) [blkF false m (rdF g)] fun _ => IsF m g ∧ i .u = 0 ∧ n .u = m .u) (.one noL [blkF false m (rdF g)] fun _ => IsF m g ∧ i .u = 0 ∧ n .u = m .u))
  | _, _ => none
theorem own_sub {i n m : Th Nat} (hi : i .u = 0) (hn : n .u = m .u) : AllSub [.own 0 i n 1] [.own 0 (fun _ => 0) m 1] := ⟨fun w ρ N L v h => by
  cases h with | own hid hv => rw [hi, hn] at hv; exact .own hid hv, trivial⟩
theorem give_g : Tells Try.prog 72 (.g 1 kGive) := by
  intro args Hc r hr
  unfold kGive at hr
  split at hr <;> cases hr
  rename_i i n fr m g
  refine AnsOk.two ttok Try.func72 rfl rfl (Nat.le_refl _) (Nat.le_refl _) (allFr_tup2 .own .b) (allFr_tup2 .v .b) .list .list fun ⟨hF, hi, hn⟩ => ⟨_, own_sub hi hn, AW.toG hF (env' := mkE Try.f72.ntmps [(0, .own 0 (fun _ => 0) m 1)]) ?_ ?_⟩
  · (repeat' first | exact AllTo.nil | apply AllTo.cons) <;> first | exact AvTo.dead _ | exact AvTo.i rfl | exact AvTo.i (by first | omega | (simp only [natCast_int]; omega)) | exact AvTo.f rfl | exact AvTo.b rfl | exact AvTo.v _ | exact AvTo.own rfl rfl rfl rfl | exact AvTo.own rfl rfl (by first | rfl | omega) (by first | rfl | omega) | exact Free.same .listF | exact Free.same (.fn (by simp) (by simp)) | skip
  have hm := hF.1
  generalize rdF g = x
  refine AW.exec ttok ctFin_ok (by cbv) ?_
  simp only [natCast_int, Post, All, thenA, canon0, canon064, and_true, true_and, forall_const, implies_true, decide_eq_true_eq, decide_eq_false_iff_not, Bool.not_eq_true', Bool.not_eq_false', Bool.true_and, Bool.and_true, beq_true, beq_false, Int.toNat_natCast, Int.ofNat_lt, Int.ofNat_le, Nat.zero_add, Nat.add_zero, imp_self, Bool.cond_false_right, Bool.cond_true_left, Bool.cond_true_right, IsF, rdF_eq, fOf, AV.f.injEq, exists_eq', free_list, free_fn0, List.not_mem_nil, List.mem_cons, false_imp, forall_eq, or_false, free_i, free_f, free_b, ren_f, ren_i, ren_b, and_self, bne_iff_ne, bne_eq_false_iff_eq, ne_eq, Int.natCast_inj, or_true, true_or, freeB_list, unfr_f, unfr_i, unfr_b, unfr_c, unfr_s, free_c, free_s, ren_c, ren_s, unfr_ro, unfr_rptr, ren_ro, free_ll, free_box, kill_f, kill_i, kill_b, kill_c, kill_s, kill_rof, kill_rot, Int.toNat_zero, isFF_ll, rowN_ll, rowX_ll, AllFree, Option.some.injEq, Prod.mk.injEq, Bool.false_eq_true, Bool.true_eq_false]
  refine AW.loopTo (ι := Nat) (fun i => i ≤ m .u ∧ ∀ j, j < i → isFin (x j) = true) (fun i => m .u - i) (fun i => mkE Try.f72.ntmps [(0, .own 0 (fun _ => 0) m 1), (6, .i .i64 fun _ => (m .u : Int)), (7, .i .i64 fun _ => (i : Int))])
    (fun i => [blkF false m x]) 0 ⟨Nat.zero_le _, fun j hj => absurd hj (Nat.not_lt_zero _)⟩ (To.list (Nat.le_refl _) (Nat.le_refl _) (fun e => e) (fun j hj => AvTo.f rfl) ?_) ?_
  · (repeat' first | exact AllTo.nil | apply AllTo.cons) <;> first | exact AvTo.dead _ | exact AvTo.i rfl | exact AvTo.i (by first | omega | (simp only [natCast_int]; omega)) | exact AvTo.f rfl | exact AvTo.b rfl | exact AvTo.v _ | exact AvTo.own rfl rfl rfl rfl | exact AvTo.own rfl rfl (by first | rfl | omega) (by first | rfl | omega) | exact Free.same .listF | exact Free.same (.fn (by simp) (by simp)) | skip
  · rintro q ⟨hq, hx⟩
    refine AW.exec ttok ctFin_ok (by cbv) ?_
    simp only [natCast_int, Post, All, thenA, canon0, canon064, and_true, true_and, forall_const, implies_true, decide_eq_true_eq, decide_eq_false_iff_not, Bool.not_eq_true', Bool.not_eq_false', Bool.true_and, Bool.and_true, beq_true, beq_false, Int.toNat_natCast, Int.ofNat_lt, Int.ofNat_le, Nat.zero_add, Nat.add_zero, imp_self, Bool.cond_false_right, Bool.cond_true_left, Bool.cond_true_right, IsF, rdF_eq, fOf, AV.f.injEq, exists_eq', free_list, free_fn0, List.not_mem_nil, List.mem_cons, false_imp, forall_eq, or_false, free_i, free_f, free_b, ren_f, ren_i, ren_b, and_self, bne_iff_ne, bne_eq_false_iff_eq, ne_eq, Int.natCast_inj, or_true, true_or, freeB_list, unfr_f, unfr_i, unfr_b, unfr_c, unfr_s, free_c, free_s, ren_c, ren_s, unfr_ro, unfr_rptr, ren_ro, free_ll, free_box, kill_f, kill_i, kill_b, kill_c, kill_s, kill_rof, kill_rot, Int.toNat_zero, isFF_ll, rowN_ll, rowX_ll, AllFree, Option.some.injEq, Prod.mk.injEq, Bool.false_eq_true, Bool.true_eq_false]
    (repeat' first | with_reducible assumption | with_reducible apply And.intro | with_reducible intro hh) <;> first | ((first | with_reducible show (_ : Int) ≤ _ | with_reducible show (_ : Int) < _ | with_reducible show (_ : Nat) ≤ _ | with_reducible show (_ : Nat) < _ | with_reducible show (_ : Int) = _ | with_reducible show (_ : Nat) = _ | with_reducible show ¬ _ | with_reducible show _ ≠ _) <;> first | omega | (simp only [Bool.and_eq_true, Bool.or_eq_false_iff, Bool.not_eq_false', Bool.not_eq_true', decide_eq_true_eq, decide_eq_false_iff_not] at *; omega) | (with_reducible assumption)) | (with_reducible assumption) | skip
    · refine Post.leaf (by cbv) (okA.no (allN_false ‹q < m .u› (q := fun i => isFin (x i)) (by assumption)) (fin_ret (.inl rfl) (by cbv) (by simp) (To.list (Nat.le_refl _) (Nat.le_refl _) (fun e => e) (fun j hj => AvTo.f rfl) noL_to)))
    · refine ⟨q + 1, ⟨by omega, lt_succ_all hx (by assumption)⟩, by omega, To.list (Nat.le_refl _) (Nat.le_refl _) (fun e => e) (fun j hj => AvTo.f rfl) ?_⟩
      (repeat' first | exact AllTo.nil | apply AllTo.cons) <;> first | exact AvTo.dead _ | exact AvTo.i rfl | exact AvTo.i (by first | omega | (simp only [natCast_int]; omega)) | exact AvTo.f rfl | exact AvTo.b rfl | exact AvTo.v _ | exact AvTo.own rfl rfl rfl rfl | exact AvTo.own rfl rfl (by first | rfl | omega) (by first | rfl | omega) | exact Free.same .listF | exact Free.same (.fn (by simp) (by simp)) | skip
    · refine Post.eval (by cbv) ?_
      simp only [natCast_int, Post, All, thenA, canon0, canon064, and_true, true_and, forall_const, implies_true, decide_eq_true_eq, decide_eq_false_iff_not, Bool.not_eq_true', Bool.not_eq_false', Bool.true_and, Bool.and_true, beq_true, beq_false, Int.toNat_natCast, Int.ofNat_lt, Int.ofNat_le, Nat.zero_add, Nat.add_zero, imp_self, Bool.cond_false_right, Bool.cond_true_left, Bool.cond_true_right, IsF, rdF_eq, fOf, AV.f.injEq, exists_eq', free_list, free_fn0, List.not_mem_nil, List.mem_cons, false_imp, forall_eq, or_false, free_i, free_f, free_b, ren_f, ren_i, ren_b, and_self, bne_iff_ne, bne_eq_false_iff_eq, ne_eq, Int.natCast_inj, or_true, true_or, freeB_list, unfr_f, unfr_i, unfr_b, unfr_c, unfr_s, free_c, free_s, ren_c, ren_s, unfr_ro, unfr_rptr, ren_ro, free_ll, free_box, kill_f, kill_i, kill_b, kill_c, kill_s, kill_rof, kill_rot, Int.toNat_zero, isFF_ll, rowN_ll, rowX_ll, AllFree, Option.some.injEq, Prod.mk.injEq, Bool.false_eq_true, Bool.true_eq_false]
      have e : q = m .u := by omega
      exact okA.yes (allN_true (e ▸ hx)) (fin_ret (.inl rfl) (by cbv) (by simp) (To.list (Nat.le_refl _) (Nat.le_refl _) (fun e => e) (fun j hj => AvTo.f rfl) yesL_to))
theorem checked_g : Tells Try.prog 69 (.g 1 kGive) := by
  intro args Hc r hr
  unfold kGive at hr
  split at hr <;> cases hr
  rename_i i n fr m g
  refine AnsOk.two ttok Try.func69 rfl rfl (Nat.le_refl _) (Nat.le_refl _) (allFr_tup2 .own .b) (allFr_tup2 .v .b) .list .list fun ⟨hF, hi, hn⟩ => ⟨_, own_sub hi hn, AW.toG hF (env' := mkE Try.f69.ntmps [(0, .own 0 (fun _ => 0) m 1)]) ?_ ?_⟩
  · (repeat' first | exact AllTo.nil | apply AllTo.cons) <;> first | exact AvTo.dead _ | exact AvTo.i rfl | exact AvTo.i (by first | omega | (simp only [natCast_int]; omega)) | exact AvTo.f rfl | exact AvTo.b rfl | exact AvTo.v _ | exact AvTo.own rfl rfl rfl rfl | exact AvTo.own rfl rfl (by first | rfl | omega) (by first | rfl | omega) | exact Free.same .listF | exact Free.same (.fn (by simp) (by simp)) | skip
  have hm := hF.1
  generalize rdF g = x
  refine AW.exec ttok ctIsList_ok (by cbv) ?_
  simp only [natCast_int, Post, All, thenA, canon0, canon064, and_true, true_and, forall_const, implies_true, decide_eq_true_eq, decide_eq_false_iff_not, Bool.not_eq_true', Bool.not_eq_false', Bool.true_and, Bool.and_true, beq_true, beq_false, Int.toNat_natCast, Int.ofNat_lt, Int.ofNat_le, Nat.zero_add, Nat.add_zero, imp_self, Bool.cond_false_right, Bool.cond_true_left, Bool.cond_true_right, IsF, rdF_eq, fOf, AV.f.injEq, exists_eq', free_list, free_fn0, List.not_mem_nil, List.mem_cons, false_imp, forall_eq, or_false, free_i, free_f, free_b, ren_f, ren_i, ren_b, and_self, bne_iff_ne, bne_eq_false_iff_eq, ne_eq, Int.natCast_inj, or_true, true_or, freeB_list, unfr_f, unfr_i, unfr_b, unfr_c, unfr_s, free_c, free_s, ren_c, ren_s, unfr_ro, unfr_rptr, ren_ro, free_ll, free_box, kill_f, kill_i, kill_b, kill_c, kill_s, kill_rof, kill_rot, Int.toNat_zero, isFF_ll, rowN_ll, rowX_ll, AllFree, Option.some.injEq, Prod.mk.injEq, Bool.false_eq_true, Bool.true_eq_false, hm, eqL_self, heldL_mark, heldL_zero, one_neg, Nat.zero_le, Nat.not_lt_zero, one_add_len, one_le_tb, zero_le_one', not_false_eq_true, true_imp_iff, bne_self_eq_false, Bool.or_false, Bool.false_or, Bool.not_true, Bool.not_false, Bool.true_eq_false, Bool.false_eq_true, false_imp, Nat.le_refl, decide_true, decide_false, not_true_eq_false, Int.lt_irrefl]
  (repeat' first | with_reducible assumption | with_reducible apply And.intro | with_reducible intro hh) <;> first | ((first | with_reducible show (_ : Int) ≤ _ | with_reducible show (_ : Int) < _ | with_reducible show (_ : Nat) ≤ _ | with_reducible show (_ : Nat) < _ | with_reducible show (_ : Int) = _ | with_reducible show (_ : Nat) = _ | with_reducible show ¬ _ | with_reducible show _ ≠ _) <;> first | omega | (simp only [Bool.and_eq_true, Bool.or_eq_false_iff, Bool.not_eq_false', Bool.not_eq_true', decide_eq_true_eq, decide_eq_false_iff_not] at *; omega) | (with_reducible assumption)) | (with_reducible assumption) | skip
  · exact okA.no (by assumption) (fin_ret (.inl rfl) (by cbv) (by simp) (To.list (Nat.le_refl _) (Nat.le_refl _) (fun e => e) (fun j hj => AvTo.f rfl) noL_to))
  · exact okA.yes (by assumption) (fin_ret (.inl rfl) (by cbv) (by simp) (To.list (Nat.le_refl _) (Nat.le_refl _) (fun e => e) (fun j hj => AvTo.f rfl) yesL_to))
def ctChk : CT := [(69, .g 1 kGive)]
theorem ctChk_ok : CTok Try.prog ctChk := .cons checked_g (.nil _)
/-- A list that is made, where all its numbers are finite. -/
abbrev ansL (n : Th Nat) (x : Nat → Nat) (ok : Bool) (p : Prop) : Ans := .two (fun _ => ok) (.one (yesL n) [blkF true n x] fun _ => p) (.one noL [] fun _ => p)
def kOver : Kg
  | [a, .f .f32 d], [] => match asLg a with
    | some (n, g) => some (ansL n (overX (rdF g) (d .u)) (finN (n .u) (overX (rdF g) (d .u))) (IsF n g ∧ n .u ≤ 1048576))
    | none => none
  | _, _ => none
theorem over_g : Tells Try.prog 88 (.g 0 kOver) := by
  intro args Hc r hr
  unfold kOver at hr
  split at hr <;> first | (cases hr; done) | skip
  split at hr <;> cases hr
  rename_i d _ n g hL
  refine AnsOk.two ttok Try.func88 rfl rfl (Nat.zero_le _) (Nat.zero_le _) (allFr_tup2 .own .b) (allFr_tup2 .v .b) .list .nil fun ⟨hF, hn⟩ => ⟨[listF false n (rdF g), .f .f32 d], ⟨.asLg hL hF, Sub.refl _, trivial⟩, ?_⟩
  generalize rdF g = x
  refine AW.exec ttok ctChk_ok (by cbv) ?_
  simp only [natCast_int, Post, All, thenA, canon0, canon064, and_true, true_and, forall_const, implies_true, decide_eq_true_eq, decide_eq_false_iff_not, Bool.not_eq_true', Bool.not_eq_false', Bool.true_and, Bool.and_true, beq_true, beq_false, Int.toNat_natCast, Int.ofNat_lt, Int.ofNat_le, Nat.zero_add, Nat.add_zero, imp_self, Bool.cond_false_right, Bool.cond_true_left, Bool.cond_true_right, IsF, rdF_eq, fOf, AV.f.injEq, exists_eq', free_list, free_fn0, List.not_mem_nil, List.mem_cons, false_imp, forall_eq, or_false, free_i, free_f, free_b, ren_f, ren_i, ren_b, and_self, bne_iff_ne, bne_eq_false_iff_eq, ne_eq, Int.natCast_inj, or_true, true_or, freeB_list, unfr_f, unfr_i, unfr_b, unfr_c, unfr_s, free_c, free_s, ren_c, ren_s, unfr_ro, unfr_rptr, ren_ro, free_ll, free_box, kill_f, kill_i, kill_b, kill_c, kill_s, kill_rof, kill_rot, Int.toNat_zero, isFF_ll, rowN_ll, rowX_ll, AllFree, Option.some.injEq, Prod.mk.injEq, Bool.false_eq_true, Bool.true_eq_false]
  refine AW.loopTo (ι := Nat) (fun i => i ≤ n .u) (fun i => n .u - i) (fun i => mkE Try.f88.ntmps [(1, .f .f32 d), (6, .own 0 (fun _ => 0) (fun _ => i) 1), (10, listF false n x), (11, .i .i64 fun _ => (n .u : Int)), (12, .i .i64 fun _ => (i : Int))])
    (fun i => [blkF true (fun _ => i) (overX x (d .u))]) 0 (Nat.zero_le _) (To.list (Nat.zero_le _) (Nat.le_refl _) (fun e => e) (fun j hj => absurd hj (Nat.not_lt_zero _)) ?_) ?_
  · (repeat' first | exact AllTo.nil | apply AllTo.cons) <;> first | exact AvTo.dead _ | exact AvTo.i rfl | exact AvTo.i (by first | omega | (simp only [natCast_int]; omega)) | exact AvTo.f rfl | exact AvTo.b rfl | exact AvTo.v _ | exact AvTo.own rfl rfl rfl rfl | exact AvTo.own rfl rfl (by first | rfl | omega) (by first | rfl | omega) | exact Free.same .listF | exact Free.same (.fn (by simp) (by simp)) | skip
  · rintro q hq
    refine AW.exec ttok ctChk_ok (by cbv) ?_
    simp only [natCast_int, Post, All, thenA, canon0, canon064, and_true, true_and, forall_const, implies_true, decide_eq_true_eq, decide_eq_false_iff_not, Bool.not_eq_true', Bool.not_eq_false', Bool.true_and, Bool.and_true, beq_true, beq_false, Int.toNat_natCast, Int.ofNat_lt, Int.ofNat_le, Nat.zero_add, Nat.add_zero, imp_self, Bool.cond_false_right, Bool.cond_true_left, Bool.cond_true_right, IsF, rdF_eq, fOf, AV.f.injEq, exists_eq', free_list, free_fn0, List.not_mem_nil, List.mem_cons, false_imp, forall_eq, or_false, free_i, free_f, free_b, ren_f, ren_i, ren_b, and_self, bne_iff_ne, bne_eq_false_iff_eq, ne_eq, Int.natCast_inj, or_true, true_or, freeB_list, unfr_f, unfr_i, unfr_b, unfr_c, unfr_s, free_c, free_s, ren_c, ren_s, unfr_ro, unfr_rptr, ren_ro, free_ll, free_box, kill_f, kill_i, kill_b, kill_c, kill_s, kill_rof, kill_rot, Int.toNat_zero, isFF_ll, rowN_ll, rowX_ll, AllFree, Option.some.injEq, Prod.mk.injEq, Bool.false_eq_true, Bool.true_eq_false]
    (repeat' first | with_reducible assumption | with_reducible apply And.intro | with_reducible intro hh) <;> first | ((first | with_reducible show (_ : Int) ≤ _ | with_reducible show (_ : Int) < _ | with_reducible show (_ : Nat) ≤ _ | with_reducible show (_ : Nat) < _ | with_reducible show (_ : Int) = _ | with_reducible show (_ : Nat) = _ | with_reducible show ¬ _ | with_reducible show _ ≠ _) <;> first | omega | (simp only [Bool.and_eq_true, Bool.or_eq_false_iff, Bool.not_eq_false', Bool.not_eq_true', decide_eq_true_eq, decide_eq_false_iff_not] at *; omega) | (with_reducible assumption)) | (with_reducible assumption) | skip
    · refine ⟨q + 1, by omega, by omega, To.moved (k := 2) rfl (Nat.le_refl _) (fun e => e) (fun j hj => app_one hj (fun _ => AvTo.f rfl) fun e => AvTo.f (by rw [e]; rfl)) ?_⟩
      (repeat' first | exact AllTo.nil | apply AllTo.cons) <;> first | exact AvTo.dead _ | exact AvTo.i rfl | exact AvTo.i (by first | omega | (simp only [natCast_int]; omega)) | exact AvTo.f rfl | exact AvTo.b rfl | exact AvTo.v _ | exact AvTo.own rfl rfl rfl rfl | exact AvTo.own rfl rfl (by first | rfl | omega) (by first | rfl | omega) | exact Free.same .listF | exact Free.same (.fn (by simp) (by simp)) | skip
    · refine Post.eval (by cbv) ?_
      have e : q = n .u := by omega
      have hn' : n .u ≤ 9223372036854775807 := by omega
      simp only [natCast_int, Post, All, thenA, canon0, canon064, and_true, true_and, forall_const, implies_true, decide_eq_true_eq, decide_eq_false_iff_not, Bool.not_eq_true', Bool.not_eq_false', Bool.true_and, Bool.and_true, beq_true, beq_false, Int.toNat_natCast, Int.ofNat_lt, Int.ofNat_le, Nat.zero_add, Nat.add_zero, imp_self, Bool.cond_false_right, Bool.cond_true_left, Bool.cond_true_right, IsF, rdF_eq, fOf, AV.f.injEq, exists_eq', free_list, free_fn0, List.not_mem_nil, List.mem_cons, false_imp, forall_eq, or_false, free_i, free_f, free_b, ren_f, ren_i, ren_b, and_self, bne_iff_ne, bne_eq_false_iff_eq, ne_eq, Int.natCast_inj, or_true, true_or, freeB_list, unfr_f, unfr_i, unfr_b, unfr_c, unfr_s, free_c, free_s, ren_c, ren_s, unfr_ro, unfr_rptr, ren_ro, free_ll, free_box, kill_f, kill_i, kill_b, kill_c, kill_s, kill_rof, kill_rot, Int.toNat_zero, isFF_ll, rowN_ll, rowX_ll, AllFree, Option.some.injEq, Prod.mk.injEq, Bool.false_eq_true, Bool.true_eq_false, e, hn']
      (repeat' first | with_reducible assumption | with_reducible apply And.intro | with_reducible intro hh) <;> first | ((first | with_reducible show (_ : Int) ≤ _ | with_reducible show (_ : Int) < _ | with_reducible show (_ : Nat) ≤ _ | with_reducible show (_ : Nat) < _ | with_reducible show (_ : Int) = _ | with_reducible show (_ : Nat) = _ | with_reducible show ¬ _ | with_reducible show _ ≠ _) <;> first | omega | (simp only [Bool.and_eq_true, Bool.or_eq_false_iff, Bool.not_eq_false', Bool.not_eq_true', decide_eq_true_eq, decide_eq_false_iff_not] at *; omega) | (with_reducible assumption)) | (with_reducible assumption) | skip
      · exact okA.yes (by assumption) (fin_ret (.inl rfl) (by cbv) (by simp) (To.list (Nat.zero_le _) (Nat.le_refl _) (fun e => e) (fun j hj => AvTo.f rfl) yesL_to))
      · exact okA.no (by assumption) (fin_ret (.inl rfl) (by cbv) (by simp) (To.fresh noL_to))
end Go.Proofs.Ytfdmmbcjidkmoaa
set_option linter.unusedSimpArgs false
set_option linter.unusedVariables false
namespace Go.Proofs.Ytfdmmbcjidkmoaa
open Go.Aw
/-- One element is another one. -/
theorem put_one {H H' : Heap} {σ : List Nat} {keep : Bool} {q j : Nat} {a b B : AV} (h1 : j = q → AvTo H H' σ keep a b) (h2 : j ≠ q → AvTo H H' σ keep B b) :
    AvTo H H' σ keep (if j = q then if 0 ≤ 0 ∧ 0 < [a].length then [a].getD (0 - 0) .dead else B else B) b := by
  by_cases e : j = q
  · simp only [e, if_true, List.length_cons, List.length_nil, Nat.zero_add, Nat.le_refl, Nat.zero_lt_one, and_self, Nat.sub_self, List.getD_cons_zero]
    exact h1 e
  · simp only [e, if_false]
    exact h2 e
def dotN (x y : Nat → Nat) : Nat → Nat
  | 0 => 0
  | k + 1 => fadd .f32 (dotN x y k) (fmul .f32 (x k) (y k))
theorem dotN_congr {x x' y y' : Nat → Nat} : ∀ {k : Nat}, (∀ j, j < k → x j = x' j) → (∀ j, j < k → y j = y' j) → dotN x y k = dotN x' y' k := by
  intro k
  induction k with
  | zero => intro _ _; rfl
  | succ k ih => intro h1 h2; simp only [dotN, h1 k (Nat.lt_succ_self k), h2 k (Nat.lt_succ_self k), ih (fun j hj => h1 j (by omega)) fun j hj => h2 j (by omega)]
def kDot : Kr
  | [a, b] => match asL a, asL b with
    | some (n, g), some (m, h) => some (.f .f32 fun _ => dotN (rdF g) (rdF h) (n .u), [], fun _ => IsF n g ∧ IsF m h ∧ n .u ≤ m .u)
    | _, _ => none
  | _ => none
theorem dot_tells : Tells Try.prog 77 (.r kDot) := by
  intro args r H' p hr hp
  unfold kDot at hr
  split at hr <;> first | (cases hr; done) | skip
  split at hr <;> cases hr
  rename_i n g m h hL hL'
  obtain ⟨hp, hp', hnm⟩ := hp
  refine ⟨.f, .nil, Con.pre (args' := [listF false n (rdF g), listF false m (rdF h)]) ⟨.asL hL hp, .asL hL' hp', trivial⟩ ?_⟩
  have hn := hp.1
  generalize rdF g = x
  generalize rdF h = y
  refine Con.of ttok Try.func77 rfl rfl (Nat.le_refl _) (AW.exec ttok (CTok.nil _) (by cbv) ?_)
  simp only [natCast_int, Post, All, thenA, canon0, canon064, and_true, true_and, forall_const, implies_true, decide_eq_true_eq, decide_eq_false_iff_not, Bool.not_eq_true', Bool.not_eq_false', Bool.true_and, Bool.and_true, beq_true, beq_false, Int.toNat_natCast, Int.ofNat_lt, Int.ofNat_le, Nat.zero_add, Nat.add_zero, imp_self, Bool.cond_false_right, Bool.cond_true_left, Bool.cond_true_right, IsF, rdF_eq, fOf, AV.f.injEq, exists_eq', free_list, free_fn0, List.not_mem_nil, List.mem_cons, false_imp, forall_eq, or_false, free_i, free_f, free_b, ren_f, ren_i, ren_b, and_self, bne_iff_ne, bne_eq_false_iff_eq, ne_eq, Int.natCast_inj, or_true, true_or, freeB_list, unfr_f, unfr_i, unfr_b, unfr_c, unfr_s, free_c, free_s, ren_c, ren_s, unfr_ro, unfr_rptr, ren_ro, free_ll, free_box, kill_f, kill_i, kill_b, kill_c, kill_s, kill_rof, kill_rot, Int.toNat_zero, isFF_ll, rowN_ll, rowX_ll, AllFree, Option.some.injEq, Prod.mk.injEq, Bool.false_eq_true, Bool.true_eq_false]
  refine AW.loopTo (ι := Nat) (fun i => i ≤ n .u) (fun i => n .u - i) (fun i => mkE Try.f77.ntmps [(1, listF false m y), (5, .f .f32 fun _ => dotN x y i), (8, listF false n x), (9, .i .i64 fun _ => (n .u : Int)), (10, .i .i64 fun _ => (i : Int))])
    (fun _ => []) 0 (Nat.zero_le _) (To.same (Nat.le_refl _) trivial ?_) ?_
  · (repeat' first | exact AllTo.nil | apply AllTo.cons) <;> first | exact AvTo.dead _ | exact AvTo.i rfl | exact AvTo.i (by first | omega | (simp only [natCast_int]; omega)) | exact AvTo.f rfl | exact AvTo.b rfl | exact AvTo.v _ | exact AvTo.own rfl rfl rfl rfl | exact AvTo.own rfl rfl (by first | rfl | omega) (by first | rfl | omega) | exact Free.same .listF | exact Free.same (.fn (by simp) (by simp)) | skip
  · rintro q hq
    refine AW.exec ttok (CTok.nil _) (by cbv) ?_
    simp only [natCast_int, Post, All, thenA, canon0, canon064, and_true, true_and, forall_const, implies_true, decide_eq_true_eq, decide_eq_false_iff_not, Bool.not_eq_true', Bool.not_eq_false', Bool.true_and, Bool.and_true, beq_true, beq_false, Int.toNat_natCast, Int.ofNat_lt, Int.ofNat_le, Nat.zero_add, Nat.add_zero, imp_self, Bool.cond_false_right, Bool.cond_true_left, Bool.cond_true_right, IsF, rdF_eq, fOf, AV.f.injEq, exists_eq', free_list, free_fn0, List.not_mem_nil, List.mem_cons, false_imp, forall_eq, or_false, free_i, free_f, free_b, ren_f, ren_i, ren_b, and_self, bne_iff_ne, bne_eq_false_iff_eq, ne_eq, Int.natCast_inj, or_true, true_or, freeB_list, unfr_f, unfr_i, unfr_b, unfr_c, unfr_s, free_c, free_s, ren_c, ren_s, unfr_ro, unfr_rptr, ren_ro, free_ll, free_box, kill_f, kill_i, kill_b, kill_c, kill_s, kill_rof, kill_rot, Int.toNat_zero, isFF_ll, rowN_ll, rowX_ll, AllFree, Option.some.injEq, Prod.mk.injEq, Bool.false_eq_true, Bool.true_eq_false]
    (repeat' first | with_reducible assumption | with_reducible apply And.intro | with_reducible intro hh) <;> first | ((first | with_reducible show (_ : Int) ≤ _ | with_reducible show (_ : Int) < _ | with_reducible show (_ : Nat) ≤ _ | with_reducible show (_ : Nat) < _ | with_reducible show (_ : Int) = _ | with_reducible show (_ : Nat) = _ | with_reducible show ¬ _ | with_reducible show _ ≠ _) <;> first | omega | (simp only [Bool.and_eq_true, Bool.or_eq_false_iff, Bool.not_eq_false', Bool.not_eq_true', decide_eq_true_eq, decide_eq_false_iff_not] at *; omega) | (with_reducible assumption)) | (with_reducible assumption) | skip
    · refine ⟨q + 1, by omega, by omega, To.same (Nat.le_refl _) trivial ?_⟩
      (repeat' first | exact AllTo.nil | apply AllTo.cons) <;> first | exact AvTo.dead _ | exact AvTo.i rfl | exact AvTo.i (by first | omega | (simp only [natCast_int]; omega)) | exact AvTo.f rfl | exact AvTo.b rfl | exact AvTo.v _ | exact AvTo.own rfl rfl rfl rfl | exact AvTo.own rfl rfl (by first | rfl | omega) (by first | rfl | omega) | exact Free.same .listF | exact Free.same (.fn (by simp) (by simp)) | skip
    · refine Post.eval (by cbv) ?_
      simp only [natCast_int, Post, All, thenA, canon0, canon064, and_true, true_and, forall_const, implies_true, decide_eq_true_eq, decide_eq_false_iff_not, Bool.not_eq_true', Bool.not_eq_false', Bool.true_and, Bool.and_true, beq_true, beq_false, Int.toNat_natCast, Int.ofNat_lt, Int.ofNat_le, Nat.zero_add, Nat.add_zero, imp_self, Bool.cond_false_right, Bool.cond_true_left, Bool.cond_true_right, IsF, rdF_eq, fOf, AV.f.injEq, exists_eq', free_list, free_fn0, List.not_mem_nil, List.mem_cons, false_imp, forall_eq, or_false, free_i, free_f, free_b, ren_f, ren_i, ren_b, and_self, bne_iff_ne, bne_eq_false_iff_eq, ne_eq, Int.natCast_inj, or_true, true_or, freeB_list, unfr_f, unfr_i, unfr_b, unfr_c, unfr_s, free_c, free_s, ren_c, ren_s, unfr_ro, unfr_rptr, ren_ro, free_ll, free_box, kill_f, kill_i, kill_b, kill_c, kill_s, kill_rof, kill_rot, Int.toNat_zero, isFF_ll, rowN_ll, rowX_ll, AllFree, Option.some.injEq, Prod.mk.injEq, Bool.false_eq_true, Bool.true_eq_false]
      have e : q = n .u := by omega
      exact fin_ret (.inl rfl) (by cbv) (by simp) (To.fresh (.cons (.f (by rw [e])) .nil))
def kClone : Kr
  | [a] => match asL a with
    | some (n, g) => some (.own 0 (fun _ => 0) n 1, [blkF true n (rdF g)], fun _ => IsF n g ∧ 0 < n .u ∧ n .u ≤ 1048576)
    | none => none
  | _ => none
theorem clone_tells : Tells Try.prog 76 (.r kClone) := by
  intro args r H' p hr hp
  unfold kClone at hr
  split at hr <;> first | (cases hr; done) | skip
  split at hr <;> cases hr
  rename_i n g hL
  obtain ⟨hp, h0, hn⟩ := hp
  refine ⟨.own, .list, Con.pre (args' := [listF false n (rdF g)]) ⟨.asL hL hp, trivial⟩ ?_⟩
  generalize rdF g = x
  refine Con.of ttok Try.func76 rfl rfl (Nat.zero_le _) (AW.exec ttok (CTok.nil _) (by cbv) ?_)
  simp only [natCast_int, Post, All, thenA, canon0, canon064, and_true, true_and, forall_const, implies_true, decide_eq_true_eq, decide_eq_false_iff_not, Bool.not_eq_true', Bool.not_eq_false', Bool.true_and, Bool.and_true, beq_true, beq_false, Int.toNat_natCast, Int.ofNat_lt, Int.ofNat_le, Nat.zero_add, Nat.add_zero, imp_self, Bool.cond_false_right, Bool.cond_true_left, Bool.cond_true_right, IsF, rdF_eq, fOf, AV.f.injEq, exists_eq', free_list, free_fn0, List.not_mem_nil, List.mem_cons, false_imp, forall_eq, or_false, free_i, free_f, free_b, ren_f, ren_i, ren_b, and_self, bne_iff_ne, bne_eq_false_iff_eq, ne_eq, Int.natCast_inj, or_true, true_or, freeB_list, unfr_f, unfr_i, unfr_b, unfr_c, unfr_s, free_c, free_s, ren_c, ren_s, unfr_ro, unfr_rptr, ren_ro, free_ll, free_box, kill_f, kill_i, kill_b, kill_c, kill_s, kill_rof, kill_rot, Int.toNat_zero, isFF_ll, rowN_ll, rowX_ll, AllFree, Option.some.injEq, Prod.mk.injEq, Bool.false_eq_true, Bool.true_eq_false, h0]
  (repeat' first | with_reducible assumption | with_reducible apply And.intro | with_reducible intro hh) <;> first | ((first | with_reducible show (_ : Int) ≤ _ | with_reducible show (_ : Int) < _ | with_reducible show (_ : Nat) ≤ _ | with_reducible show (_ : Nat) < _ | with_reducible show (_ : Int) = _ | with_reducible show (_ : Nat) = _ | with_reducible show ¬ _ | with_reducible show _ ≠ _) <;> first | omega | (simp only [Bool.and_eq_true, Bool.or_eq_false_iff, Bool.not_eq_false', Bool.not_eq_true', decide_eq_true_eq, decide_eq_false_iff_not] at *; omega) | (with_reducible assumption)) | (with_reducible assumption) | skip
  refine fin_ret (.inl rfl) (by cbv) (by simp) (To.moved (k := 1) rfl (Nat.le_refl _) (fun e => e) (fun j hj => ?_) (.cons (.own rfl rfl rfl rfl) .nil))
  simp only [aapp, Nat.not_lt_zero, if_false, Nat.sub_zero]
  exact AvTo.f rfl
end Go.Proofs.Ytfdmmbcjidkmoaa
set_option linter.unusedSimpArgs false
set_option linter.unusedVariables false
namespace Go.Proofs.Ytfdmmbcjidkmoaa
open Go.Aw
theorem isList_le {n : Nat} {x : Nat → Nat} (h : isList n x = true) : 1 ≤ n ∧ n ≤ 128 := by simp only [isList, Bool.and_eq_true, decide_eq_true_eq] at h; exact h.2
theorem finN_congr {x y : Nat → Nat} {n : Nat} (h : ∀ j, j < n → x j = y j) : finN n x = finN n y := by
  unfold finN allN
  rw [Bool.eq_iff_iff]
  simp only [List.all_eq_true, List.mem_range]
  exact ⟨fun k j hj => by rw [← h j hj]; exact k j hj, fun k j hj => by rw [h j hj]; exact k j hj⟩
def halfX (y : Nat → Nat) (i : Nat) : Nat := fmul .f32 1056964608 (fadd .f32 (y (i - 1)) (y (i + 1)))
def stepX (n : Nat) (y : Nat → Nat) (i : Nat) : Nat := bif decide (1 ≤ i) && (decide (i + 1 < n) && flt .f32 (halfX y i) (y i)) then halfX y i else y i
def baseN (n : Nat) (x : Nat → Nat) : Nat → Nat → Nat
  | 0 => x
  | r + 1 => stepX n (baseN n x r)
/-- The next list, as far as it is made. -/
def partX (n : Nat) (y : Nat → Nat) (i j : Nat) : Nat := bif decide (j < i) then stepX n y j else y j
theorem partX_one (n : Nat) (y : Nat → Nat) (j : Nat) : partX n y 1 j = y j := by
  unfold partX stepX
  by_cases h : j < 1
  · have h' : ¬ 1 ≤ j := by omega
    simp [h, h']
  · simp [h]
theorem partX_end (n : Nat) (y : Nat → Nat) (i j : Nat) (hi : n ≤ i + 1) : partX n y i j = stepX n y j := by
  unfold partX
  by_cases h : j < i
  · simp [h]
  · have : ¬ j + 1 < n := by omega
    simp [h, stepX, this]
theorem partX_succ {n : Nat} {y : Nat → Nat} {i j : Nat} (h : j ≠ i) : partX n y (i + 1) j = partX n y i j := by
  unfold partX
  rw [show decide (j < i + 1) = decide (j < i) from decide_eq_decide.2 (by omega)]
theorem partX_at (n : Nat) (y : Nat → Nat) (i : Nat) : partX n y (i + 1) i = stepX n y i := by simp [partX]
theorem partX_keep {n : Nat} {y : Nat → Nat} {i : Nat} : partX n y i i = y i := by simp [partX]
theorem step_yes {n : Nat} (y : Nat → Nat) (i : Nat) (h1 : 1 ≤ i) (h2 : i + 1 < n) (hf : flt .f32 (fmul .f32 (canon .f32 1056964608) (fadd .f32 (y ((i : Int) - 1).toNat) (y ((i : Int) + 1).toNat))) (y i) = true) :
    stepX n y i = fmul .f32 (canon .f32 1056964608) (fadd .f32 (y ((i : Int) - 1).toNat) (y ((i : Int) + 1).toNat)) := by
  rw [show ((i : Int) - 1).toNat = i - 1 by omega, show ((i : Int) + 1).toNat = i + 1 by omega, show canon .f32 1056964608 = 1056964608 from by decide] at *
  have h3 : decide (1 ≤ i) = true := by simpa using h1
  have h4 : decide (i + 1 < n) = true := by simpa using h2
  simp only [stepX, h3, h4, halfX, hf, Bool.and_self, cond_true]
theorem step_no {n : Nat} (y : Nat → Nat) (i : Nat) (h1 : 1 ≤ i) (h2 : i + 1 < n) (hf : flt .f32 (fmul .f32 (canon .f32 1056964608) (fadd .f32 (y ((i : Int) - 1).toNat) (y ((i : Int) + 1).toNat))) (y i) = false) :
    stepX n y i = y i := by
  rw [show ((i : Int) - 1).toNat = i - 1 by omega, show ((i : Int) + 1).toNat = i + 1 by omega, show canon .f32 1056964608 = 1056964608 from by decide] at hf
  simp only [stepX, halfX, hf, Bool.and_false, cond_false]
def kBase : Kr
  | [a, .i .i64 r] => match asL a with
    | some (n, g) => some (.own 0 (fun _ => 0) n 1, [blkF true n (baseN (n .u) (rdF g) (r .u).toNat)], fun _ => IsF n g ∧ n .u ≤ 128 ∧ 0 ≤ r .u ∧ r .u ≤ 64)
    | none => none
  | _ => none
def okBase (n : Nat) (x : Nat → Nat) (r : Int) : Bool := isList n x && (decide (0 ≤ r) && decide (r ≤ 64)) && finN n (baseN n x r.toNat)
def kBaseOf : Kg
  | [a, .i .i64 r], [] => match asLg a with
    | some (n, g) => some (ansL n (baseN (n .u) (rdF g) (r .u).toNat) (okBase (n .u) (rdF g) (r .u)) (IsF n g))
    | none => none
  | _, _ => none
def ctImplBase : CT := [(75, .r kIsList), (79, .r kIn), (76, .r kClone), (69, .g 1 kGive)]
theorem ctImplBase_ok : CTok Try.prog ctImplBase := .cons isList_tells (.cons within_tells (.cons clone_tells (.cons checked_g (.nil _))))
end Go.Proofs.Ytfdmmbcjidkmoaa
