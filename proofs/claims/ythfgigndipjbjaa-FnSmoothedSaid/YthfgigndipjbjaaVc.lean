/- A drawn list; the best shift; lists that are the same. -/
/- Lists that are the same, as the laws ask. -/
import Derived.Test.YthfgigndipjbjaaVa
import Derived.Test.YthfgigndipjbjaaUk
import Derived.Test.YthfgigndipjbjaaHo
set_option linter.unusedSimpArgs false
set_option linter.unusedVariables false
namespace Go.Proofs.Ythfgigndipjbjaa
open Go.Aw
/-! The list that is drawn. -/
theorem isB_list {n : Th Nat} {b : Nat → Int} : (IsB n fun i c => .i .u8 fun _ => b (i .u)) ↔ (n .u ≤ 1048576 ∧ ∀ i, i < n .u → 0 ≤ b i ∧ b i < 256) :=
  ⟨fun h => ⟨h.1, fun i hi => by
    obtain ⟨x, hx, h2⟩ := h.2 i hi
    cases hx
    exact h2⟩, fun h => ⟨h.1, fun i hi => ⟨_, rfl, h.2 i hi⟩⟩⟩
theorem rdB_list {b : Nat → Int} : rdB (fun i c => .i .u8 fun _ => b (i .u)) = b := rfl
theorem free_lb {fr : Bool} {n : Th Nat} {b : Th Nat → Nat → Th Int} : Free (.ro fr n 1 fun i c => .i .u8 (b i c)) ↔ True := iff_true_intro (.ro fun _ _ _ _ => .i)
def quarW (p : Int) : Nat := fdiv .f32 (itof .f32 (p - 2)) 1082130432
def pick17 (n : Nat) (b : Nat → Int) (j : Nat) : Int := pickN 17 n b j (sdK n b j)
theorem pick17_in {n : Nat} {b : Nat → Int} (hb : ∀ k, k < n → 0 ≤ b k ∧ b k < 256) (j : Nat) : 0 ≤ pick17 n b j ∧ pick17 n b j < 17 := by
  unfold pick17 pickN
  omega
def drawX (n : Nat) (b : Nat → Int) (i : Nat) : Nat := quarW (pick17 n b i)
def kDraw : Kg
  | [.ptr 0 z 3 0, .i .i64 m], [some (_, .box [.ro false n 1 g, .i .i64 k, .i .u64 s])] => some (.one (.own 1 (fun _ => 0) (fun _ => (m .u).toNat) 1) [some (false, .box [.dead, .dead, .dead]), blkF true (fun _ => (m .u).toNat) (drawX (n .u) (rdB g))] fun _ => IsB n g ∧ (z .u = 0 ∧ k .u = 0 ∧ s .u = 0) ∧ 0 ≤ m .u ∧ m .u ≤ 1048576)
  | _, _ => none
theorem frB_dead3 : FrB (.box [.dead, .dead, .dead]) := fun off a ha => by
  cases ha with | box ha =>
    match off, ha with
    | 0, ha => cases ha; exact .dead
    | 1, ha => cases ha; exact .dead
    | 2, ha => cases ha; exact .dead
set_option maxHeartbeats 2000000 in
theorem draw_g : Tells Try.prog 20 (.g 1 kDraw) := by
  intro args Hc r hr
  unfold kDraw at hr
  split at hr <;> cases hr
  rename_i z m fr n g k s
  refine AnsOk.one ttok Try.func20 rfl rfl (Nat.le_succ _) .own (.cons (fun fr B e => by cases e; exact frB_dead3) .list) fun ⟨hB, ⟨hz, hk, hs⟩, h0, h1⟩ => ⟨[.ptr 0 z 3 0, .i .i64 m], ⟨Sub.refl _, Sub.refl _, trivial⟩, AW.via (H' := [srcEf false n (rdB g) 0 0]) (env' := mkE Try.f20.ntmps [(0, .ptr 0 (fun _ => 0) 3 0), (1, .i .i64 m)]) (To.same (Nat.le_refl _) ⟨⟨fun e => absurd e (by simp), BlkTo.box ?_⟩, trivial⟩ ?_) ?_⟩
  · refine .cons (AvTo.ro rfl FrOK.same fun i c hi hc => ?_) (.cons (.i hk) (.cons (.i hs) .nil))
    obtain rfl : c = 0 := by omega
    obtain ⟨x, hx, _⟩ := hB.2 i hi
    simp only [rdB, hx, iOf]
    exact .i rfl
  · (repeat' first | exact AllTo.nil | apply AllTo.cons) <;> first | exact AvTo.dead _ | exact AvTo.i rfl | exact AvTo.ptr rfl rfl hz | skip
  have hn := hB.1
  have hbb : ∀ k, k < n .u → 0 ≤ rdB g k ∧ rdB g k < 256 := fun k hk => by
    obtain ⟨x, hx, h2⟩ := hB.2 k hk
    simp only [rdB, hx, iOf]
    exact h2
  generalize rdB g = b at hbb
  refine AW.exec ttok (CTok.nil _) (by cbv) ?_
  simp only [natCast_int, Post, All, thenA, canon0, canon064, and_true, true_and, forall_const, implies_true, decide_eq_true_eq, decide_eq_false_iff_not, Bool.not_eq_true', Bool.not_eq_false', Bool.true_and, Bool.and_true, beq_true, beq_false, Int.toNat_natCast, Int.ofNat_lt, Int.ofNat_le, Nat.zero_add, Nat.add_zero, imp_self, Bool.cond_false_right, Bool.cond_true_left, Bool.cond_true_right, IsF, rdF_eq, fOf, AV.f.injEq, exists_eq', free_list, free_fn0, List.not_mem_nil, List.mem_cons, false_imp, forall_eq, or_false, free_i, free_f, free_b, ren_f, ren_i, ren_b, and_self, bne_iff_ne, bne_eq_false_iff_eq, ne_eq, Int.natCast_inj, or_true, true_or, freeB_list, unfr_f, unfr_i, unfr_b, unfr_c, unfr_s, free_c, free_s, ren_c, ren_s, unfr_ro, unfr_rptr, ren_ro, free_ll, free_box, kill_f, kill_i, kill_b, kill_c, kill_s, kill_rof, kill_rot, Int.toNat_zero, isFF_ll, rowN_ll, rowX_ll, AllFree, Option.some.injEq, Prod.mk.injEq, Bool.false_eq_true, Bool.true_eq_false]
  (repeat' first | with_reducible assumption | with_reducible apply And.intro | with_reducible intro hh) <;> first | ((first | with_reducible show (_ : Int) ≤ _ | with_reducible show (_ : Int) < _ | with_reducible show (_ : Nat) ≤ _ | with_reducible show (_ : Nat) < _ | with_reducible show (_ : Int) = _ | with_reducible show (_ : Nat) = _ | with_reducible show ¬ _ | with_reducible show _ ≠ _) <;> first | omega | (simp only [Bool.and_eq_true, Bool.or_eq_false_iff, Bool.not_eq_false', Bool.not_eq_true', decide_eq_true_eq, decide_eq_false_iff_not] at *; omega) | (with_reducible assumption)) | (with_reducible assumption) | skip
  refine AW.loopH (ι := Nat) (fun i => i ≤ (m .u).toNat) (fun i => (m .u).toNat - i) (fun i => mkE Try.f20.ntmps [(0, .ptr 0 (fun _ => 0) 3 0), (1, .i .i64 fun _ => m .u - (i : Int)), (5, .own 1 (fun _ => 0) (fun _ => i) 1)])
    (fun i => [srcEf false n b i (sdK (n .u) b i), blkF true (fun _ => i) (drawX (n .u) b)]) 0 (Nat.zero_le _) ?_ ?_
  · refine To.same (Nat.le_succ _) ⟨⟨fun e => e, BlkTo.box (.cons (Free.same (.ro fun _ _ _ _ => .i)) (.cons (.i rfl) (.cons (.i rfl) .nil)))⟩, .list (fun e => e) (Nat.le_refl _) fun j hj => absurd hj (Nat.not_lt_zero _), trivial⟩ ?_
    (repeat' first | exact AllTo.nil | apply AllTo.cons) <;> first | exact AvTo.dead _ | exact AvTo.i (by first | omega | (simp only [natCast_int]; omega)) | exact AvTo.own rfl rfl rfl rfl | exact AvTo.ptr rfl rfl rfl | skip
  rintro Q' hQ i hi
  have hA : 0 ≤ pickN 17 (n .u) b i (sdK (n .u) b i) ∧ pickN 17 (n .u) b i (sdK (n .u) b i) < 17 := pick17_in hbb i
  refine AW.exec ttok (CTok.nil _) (by cbv) ?_
  simp only [natCast_int, Post, All, thenA, canon0, canon064, and_true, true_and, forall_const, implies_true, decide_eq_true_eq, decide_eq_false_iff_not, Bool.not_eq_true', Bool.not_eq_false', Bool.true_and, Bool.and_true, beq_true, beq_false, Int.toNat_natCast, Int.ofNat_lt, Int.ofNat_le, Nat.zero_add, Nat.add_zero, imp_self, Bool.cond_false_right, Bool.cond_true_left, Bool.cond_true_right, IsF, rdF_eq, fOf, AV.f.injEq, exists_eq', free_list, free_fn0, List.not_mem_nil, List.mem_cons, false_imp, forall_eq, or_false, free_i, free_f, free_b, ren_f, ren_i, ren_b, and_self, bne_iff_ne, bne_eq_false_iff_eq, ne_eq, Int.natCast_inj, or_true, true_or, freeB_list, unfr_f, unfr_i, unfr_b, unfr_c, unfr_s, free_c, free_s, ren_c, ren_s, unfr_ro, unfr_rptr, ren_ro, free_ll, free_box, kill_f, kill_i, kill_b, kill_c, kill_s, kill_rof, kill_rot, Int.toNat_zero, isFF_ll, rowN_ll, rowX_ll, AllFree, Option.some.injEq, Prod.mk.injEq, Bool.false_eq_true, Bool.true_eq_false]
  (repeat' first | with_reducible assumption | with_reducible apply And.intro | with_reducible intro hh) <;> first | ((first | with_reducible show (_ : Int) ≤ _ | with_reducible show (_ : Int) < _ | with_reducible show (_ : Nat) ≤ _ | with_reducible show (_ : Nat) < _ | with_reducible show (_ : Int) = _ | with_reducible show (_ : Nat) = _ | with_reducible show ¬ _ | with_reducible show _ ≠ _) <;> first | omega | (simp only [Bool.and_eq_true, Bool.or_eq_false_iff, Bool.not_eq_false', Bool.not_eq_true', decide_eq_true_eq, decide_eq_false_iff_not] at *; omega) | (with_reducible assumption)) | (with_reducible assumption) | skip
  · refine AOps.callL rfl rfl rfl rfl (enters_of Try.func39 rfl rfl) (fun w ρ L vals hL hR hl hs => pick_callF (fr := false) (id := 0) (n := n) (b := b) (k := i) (s := sdK (n .u) b i) (m := 17) rfl (by decide) (by decide) (by omega) (by omega) hbb w ρ L vals hL hR hl hs) ?_
    refine AOps.run ttok (by cbv) (by simp only [natCast_int, Post, All, thenA, canon0, canon064, and_true, true_and, forall_const, implies_true, decide_eq_true_eq, decide_eq_false_iff_not, Bool.not_eq_true', Bool.not_eq_false', Bool.true_and, Bool.and_true, beq_true, beq_false, Int.toNat_natCast, Int.ofNat_lt, Int.ofNat_le, Nat.zero_add, Nat.add_zero, imp_self, Bool.cond_false_right, Bool.cond_true_left, Bool.cond_true_right, IsF, rdF_eq, fOf, AV.f.injEq, exists_eq', free_list, free_fn0, List.not_mem_nil, List.mem_cons, false_imp, forall_eq, or_false, free_i, free_f, free_b, ren_f, ren_i, ren_b, and_self, bne_iff_ne, bne_eq_false_iff_eq, ne_eq, Int.natCast_inj, or_true, true_or, freeB_list, unfr_f, unfr_i, unfr_b, unfr_c, unfr_s, free_c, free_s, ren_c, ren_s, unfr_ro, unfr_rptr, ren_ro, free_ll, free_box, kill_f, kill_i, kill_b, kill_c, kill_s, kill_rof, kill_rot, Int.toNat_zero, isFF_ll, rowN_ll, rowX_ll, AllFree, Option.some.injEq, Prod.mk.injEq, Bool.false_eq_true, Bool.true_eq_false]; omega) (AOps.done (Nat.le_refl _) ?_)
    refine Post.eval (by cbv) ?_
    simp only [natCast_int, Post, All, thenA, canon0, canon064, and_true, true_and, forall_const, implies_true, decide_eq_true_eq, decide_eq_false_iff_not, Bool.not_eq_true', Bool.not_eq_false', Bool.true_and, Bool.and_true, beq_true, beq_false, Int.toNat_natCast, Int.ofNat_lt, Int.ofNat_le, Nat.zero_add, Nat.add_zero, imp_self, Bool.cond_false_right, Bool.cond_true_left, Bool.cond_true_right, IsF, rdF_eq, fOf, AV.f.injEq, exists_eq', free_list, free_fn0, List.not_mem_nil, List.mem_cons, false_imp, forall_eq, or_false, free_i, free_f, free_b, ren_f, ren_i, ren_b, and_self, bne_iff_ne, bne_eq_false_iff_eq, ne_eq, Int.natCast_inj, or_true, true_or, freeB_list, unfr_f, unfr_i, unfr_b, unfr_c, unfr_s, free_c, free_s, ren_c, ren_s, unfr_ro, unfr_rptr, ren_ro, free_ll, free_box, kill_f, kill_i, kill_b, kill_c, kill_s, kill_rof, kill_rot, Int.toNat_zero, isFF_ll, rowN_ll, rowX_ll, AllFree, Option.some.injEq, Prod.mk.injEq, Bool.false_eq_true, Bool.true_eq_false, cn4f]
    (repeat' first | with_reducible assumption | with_reducible apply And.intro | with_reducible intro hh) <;> first | ((first | with_reducible show (_ : Int) ≤ _ | with_reducible show (_ : Int) < _ | with_reducible show (_ : Nat) ≤ _ | with_reducible show (_ : Nat) < _ | with_reducible show (_ : Int) = _ | with_reducible show (_ : Nat) = _ | with_reducible show ¬ _ | with_reducible show _ ≠ _) <;> first | omega | (simp only [Bool.and_eq_true, Bool.or_eq_false_iff, Bool.not_eq_false', Bool.not_eq_true', decide_eq_true_eq, decide_eq_false_iff_not] at *; omega) | (with_reducible assumption)) | (with_reducible assumption) | skip
    refine ⟨i + 1, by omega, by omega, To.pick [0, 3] (by decide) (Nat.le_succ _) (fun j hj => by
      obtain rfl : j = 0 := by simpa using hj
      rfl) ⟨EntTo.boxL (fun e => e) (.cons (Free.same (.ro fun _ _ _ _ => .i)) (.cons (.i rfl) (.cons (.i rfl) .nil))), .list (fun e => e) (Nat.le_refl _) fun j hj => app_one hj (fun _ => AvTo.f rfl) fun e => AvTo.f (by subst e; rfl), trivial⟩ ?_⟩
    (repeat' first | exact AllTo.nil | apply AllTo.cons) <;> first | exact AvTo.dead _ | exact AvTo.i (by first | omega | (simp only [natCast_int]; omega)) | exact AvTo.own rfl rfl rfl rfl | exact AvTo.ptr rfl rfl rfl | skip
  · have e : i = (m .u).toNat := by omega
    obtain ⟨rfl⟩ := hQ
    refine Post.eval (by cbv) ?_
    simp only [natCast_int, Post, All, thenA, canon0, canon064, and_true, true_and, forall_const, implies_true, decide_eq_true_eq, decide_eq_false_iff_not, Bool.not_eq_true', Bool.not_eq_false', Bool.true_and, Bool.and_true, beq_true, beq_false, Int.toNat_natCast, Int.ofNat_lt, Int.ofNat_le, Nat.zero_add, Nat.add_zero, imp_self, Bool.cond_false_right, Bool.cond_true_left, Bool.cond_true_right, IsF, rdF_eq, fOf, AV.f.injEq, exists_eq', free_list, free_fn0, List.not_mem_nil, List.mem_cons, false_imp, forall_eq, or_false, free_i, free_f, free_b, ren_f, ren_i, ren_b, and_self, bne_iff_ne, bne_eq_false_iff_eq, ne_eq, Int.natCast_inj, or_true, true_or, freeB_list, unfr_f, unfr_i, unfr_b, unfr_c, unfr_s, free_c, free_s, ren_c, ren_s, unfr_ro, unfr_rptr, ren_ro, free_ll, free_box, kill_f, kill_i, kill_b, kill_c, kill_s, kill_rof, kill_rot, Int.toNat_zero, isFF_ll, rowN_ll, rowX_ll, AllFree, Option.some.injEq, Prod.mk.injEq, Bool.false_eq_true, Bool.true_eq_false]
    (repeat' first | with_reducible assumption | with_reducible apply And.intro | with_reducible intro hh) <;> first | ((first | with_reducible show (_ : Int) ≤ _ | with_reducible show (_ : Int) < _ | with_reducible show (_ : Nat) ≤ _ | with_reducible show (_ : Nat) < _ | with_reducible show (_ : Int) = _ | with_reducible show (_ : Nat) = _ | with_reducible show ¬ _ | with_reducible show _ ≠ _) <;> first | omega | (simp only [Bool.and_eq_true, Bool.or_eq_false_iff, Bool.not_eq_false', Bool.not_eq_true', decide_eq_true_eq, decide_eq_false_iff_not] at *; omega) | (with_reducible assumption)) | (with_reducible assumption) | skip
    rw [e]
    exact fin_ret (.inl rfl) (by cbv) (by simp) (To.same (Nat.le_succ _) ⟨EntTo.boxL (fun e => e) (.cons (.dead _) (.cons (.dead _) (.cons (.dead _) .nil))), .list (fun e => e) (Nat.le_refl _) fun j hj => AvTo.f rfl, trivial⟩ (.cons (.own rfl rfl rfl rfl) .nil))
def kList10 : Kg
  | [.ro false n 1 g, .i .i64 m], [] => some (.one (.own 0 (fun _ => 0) (fun _ => (m .u).toNat) 1) [blkF true (fun _ => (m .u).toNat) (drawX (n .u) (rdB g))] fun _ => IsB n g ∧ 0 ≤ m .u ∧ m .u ≤ 1048576)
  | _, _ => none
def ctList10 : CT := [(20, .g 1 kDraw)]
theorem ctList10_ok : CTok Try.prog ctList10 := .cons draw_g (.nil _)
theorem list10_g : Tells Try.prog 6 (.g 0 kList10) := by
  intro args Hc r hr
  unfold kList10 at hr
  split at hr <;> cases hr
  rename_i n g m
  refine AnsOk.one ttok Try.func6 rfl rfl (Nat.zero_le _) .own .list fun ⟨hB, h0, h1⟩ => ⟨[listB n (rdB g), .i .i64 m], ⟨Sub.listB hB, Sub.refl _, trivial⟩, ?_⟩
  have hn := hB.1
  have hbb : ∀ k, k < n .u → 0 ≤ rdB g k ∧ rdB g k < 256 := fun k hk => by
    obtain ⟨x, hx, h2⟩ := hB.2 k hk
    simp only [rdB, hx, iOf]
    exact h2
  generalize rdB g = b at hbb
  clear hB
  refine AW.exec ttok ctList10_ok (by cbv) ?_
  simp only [natCast_int, Post, All, thenA, canon0, canon064, and_true, true_and, forall_const, implies_true, decide_eq_true_eq, decide_eq_false_iff_not, Bool.not_eq_true', Bool.not_eq_false', Bool.true_and, Bool.and_true, beq_true, beq_false, Int.toNat_natCast, Int.ofNat_lt, Int.ofNat_le, Nat.zero_add, Nat.add_zero, imp_self, Bool.cond_false_right, Bool.cond_true_left, Bool.cond_true_right, IsF, rdF_eq, fOf, AV.f.injEq, exists_eq', free_list, free_fn0, List.not_mem_nil, List.mem_cons, false_imp, forall_eq, or_false, free_i, free_f, free_b, ren_f, ren_i, ren_b, and_self, bne_iff_ne, bne_eq_false_iff_eq, ne_eq, Int.natCast_inj, or_true, true_or, freeB_list, unfr_f, unfr_i, unfr_b, unfr_c, unfr_s, free_c, free_s, ren_c, ren_s, unfr_ro, unfr_rptr, ren_ro, free_ll, free_box, kill_f, kill_i, kill_b, kill_c, kill_s, kill_rof, kill_rot, Int.toNat_zero, isFF_ll, rowN_ll, rowX_ll, AllFree, Option.some.injEq, Prod.mk.injEq, Bool.false_eq_true, Bool.true_eq_false]
  (repeat' first | with_reducible assumption | with_reducible apply And.intro | with_reducible intro hh) <;> first | ((first | with_reducible show (_ : Int) ≤ _ | with_reducible show (_ : Int) < _ | with_reducible show (_ : Nat) ≤ _ | with_reducible show (_ : Nat) < _ | with_reducible show (_ : Int) = _ | with_reducible show (_ : Nat) = _ | with_reducible show ¬ _ | with_reducible show _ ≠ _) <;> first | omega | (simp only [Bool.and_eq_true, Bool.or_eq_false_iff, Bool.not_eq_false', Bool.not_eq_true', decide_eq_true_eq, decide_eq_false_iff_not] at *; omega) | (with_reducible assumption)) | (with_reducible assumption) | skip
  refine AOps.callL rfl rfl rfl rfl (enters_of Try.func19 rfl rfl) (fun w ρ L vals hL hR hl hs => from_call (n := n) (b := b) w ρ L vals hL hR hl hs) ?_
  refine AOps.run ttok (by cbv) (by simp only [natCast_int, Post, All, thenA, canon0, canon064, and_true, true_and, forall_const, implies_true, decide_eq_true_eq, decide_eq_false_iff_not, Bool.not_eq_true', Bool.not_eq_false', Bool.true_and, Bool.and_true, beq_true, beq_false, Int.toNat_natCast, Int.ofNat_lt, Int.ofNat_le, Nat.zero_add, Nat.add_zero, imp_self, Bool.cond_false_right, Bool.cond_true_left, Bool.cond_true_right, IsF, rdF_eq, fOf, AV.f.injEq, exists_eq', free_list, free_fn0, List.not_mem_nil, List.mem_cons, false_imp, forall_eq, or_false, free_i, free_f, free_b, ren_f, ren_i, ren_b, and_self, bne_iff_ne, bne_eq_false_iff_eq, ne_eq, Int.natCast_inj, or_true, true_or, freeB_list, unfr_f, unfr_i, unfr_b, unfr_c, unfr_s, free_c, free_s, ren_c, ren_s, unfr_ro, unfr_rptr, ren_ro, free_ll, free_box, kill_f, kill_i, kill_b, kill_c, kill_s, kill_rof, kill_rot, Int.toNat_zero, isFF_ll, rowN_ll, rowX_ll, AllFree, Option.some.injEq, Prod.mk.injEq, Bool.false_eq_true, Bool.true_eq_false]) (AOps.done (Nat.le_refl _) ?_)
  refine Post.eval (by cbv) ?_
  have u2 : (∀ (i : Nat), i < n .u → 0 ≤ b i ∧ b i < 256) ↔ True := iff_true_intro hbb
  simp only [natCast_int, Post, All, thenA, canon0, canon064, and_true, true_and, forall_const, implies_true, decide_eq_true_eq, decide_eq_false_iff_not, Bool.not_eq_true', Bool.not_eq_false', Bool.true_and, Bool.and_true, beq_true, beq_false, Int.toNat_natCast, Int.ofNat_lt, Int.ofNat_le, Nat.zero_add, Nat.add_zero, imp_self, Bool.cond_false_right, Bool.cond_true_left, Bool.cond_true_right, IsF, rdF_eq, fOf, AV.f.injEq, exists_eq', free_list, free_fn0, List.not_mem_nil, List.mem_cons, false_imp, forall_eq, or_false, free_i, free_f, free_b, ren_f, ren_i, ren_b, and_self, bne_iff_ne, bne_eq_false_iff_eq, ne_eq, Int.natCast_inj, or_true, true_or, freeB_list, unfr_f, unfr_i, unfr_b, unfr_c, unfr_s, free_c, free_s, ren_c, ren_s, unfr_ro, unfr_rptr, ren_ro, free_ll, free_box, kill_f, kill_i, kill_b, kill_c, kill_s, kill_rof, kill_rot, Int.toNat_zero, isFF_ll, rowN_ll, rowX_ll, AllFree, Option.some.injEq, Prod.mk.injEq, Bool.false_eq_true, Bool.true_eq_false, isB_list, free_lb, hn, u2, h0, h1, rdB_list]
  (repeat' first | with_reducible assumption | with_reducible apply And.intro | with_reducible intro hh) <;> first | ((first | with_reducible show (_ : Int) ≤ _ | with_reducible show (_ : Int) < _ | with_reducible show (_ : Nat) ≤ _ | with_reducible show (_ : Nat) < _ | with_reducible show (_ : Int) = _ | with_reducible show (_ : Nat) = _ | with_reducible show ¬ _ | with_reducible show _ ≠ _) <;> first | omega | (simp only [Bool.and_eq_true, Bool.or_eq_false_iff, Bool.not_eq_false', Bool.not_eq_true', decide_eq_true_eq, decide_eq_false_iff_not] at *; omega) | (with_reducible assumption)) | (with_reducible assumption) | skip
  exact fin_ret (.inl rfl) (by cbv) (by simp) (To.pick [1] (by decide) (Nat.zero_le _) (fun j hj => absurd hj (Nat.not_lt_zero _)) ⟨.list (fun e => e) (Nat.le_refl _) fun j hj => AvTo.f rfl, trivial⟩ (.cons (.own rfl rfl rfl rfl) .nil))
/-! The best shift. -/
def stepB (n : Nat) (x y : Nat → Nat) (st : Int × Nat) (s : Int) : Int × Nat := bif fgt .f32 (dotN (shiftX n x s) y n) st.2 then (s, dotN (shiftX n x s) y n) else st
def bestB (n : Nat) (x y : Nat → Nat) : Nat → Int × Nat
  | 0 => (0, dotN x y n)
  | k + 1 => stepB n x y (stepB n x y (bestB n x y k) ((k : Int) + 1)) (-((k : Int) + 1))
def kBest : Kr
  | [a, a', .i .i64 d] => match asL a, asL a' with
    | some (n, g), some (m, h) => some (.tup [.i .i64 fun _ => (bestB (n .u) (rdF g) (rdF h) (d .u).toNat).1, .b fun _ => true], [], fun _ => (IsF n g ∧ isList (n .u) (rdF g) = true) ∧ (IsF m h ∧ isList (m .u) (rdF h) = true) ∧ n .u = m .u ∧ 0 ≤ d .u ∧ d .u ≤ 128)
    | _, _ => none
  | _ => none
abbrev blkBy (k : Nat) : Option (Bool × Blk) := some (true, .tab (fun _ => 2) 1 fun i _ => .i .i64 fun _ => if i .u = 0 then (k : Int) + 1 else -((k : Int) + 1))
def byJ (k j : Nat) : Int := if j = 0 then (k : Int) + 1 else -((k : Int) + 1)
def halfB (n : Nat) (x y : Nat → Nat) (k : Nat) : Nat → Int × Nat
  | 0 => bestB n x y k
  | j + 1 => stepB n x y (halfB n x y k j) (byJ k j)
def ctBest : CT := [(21, .r kIsList), (25, .r kIn), (23, .r kDot), (36, .r kShift)]
theorem ctBest_ok : CTok Try.prog ctBest := .cons isList_tells (.cons within_tells (.cons dot_tells (.cons shifted_tells (.nil _))))
set_option maxHeartbeats 2000000 in
theorem best_tells : Tells Try.prog 17 (.r kBest) := by
  intro args r H' p hr hp
  unfold kBest at hr
  split at hr <;> first | (cases hr; done) | skip
  split at hr <;> cases hr
  rename_i d _ _ n g m h hL hL'
  obtain ⟨⟨hF, hi⟩, ⟨hF', hi'⟩, hnm, hd0, hd1⟩ := hp
  obtain rfl : n = m := funext fun q => by cases q; exact hnm
  refine ⟨allFr_tup2 .i .b, .nil, Con.pre (args' := [listF false n (rdF g), listF false n (rdF h), .i .i64 d]) ⟨.asL hL hF, .asL hL' hF', Sub.refl _, trivial⟩ ?_⟩
  have hn := hF.1
  have hm : True := trivial
  generalize rdF g = x at hi
  generalize rdF h = y at hi'
  have h8 := isList_le hi
  refine Con.of ttok Try.func17 rfl rfl (Nat.zero_le _) (AW.exec ttok ctBest_ok (by cbv) ?_)
  have q1 : isList (n .u) (fun i => x i) = true := hi
  have q2 : isList (n .u) (fun i => y i) = true := hi'
  simp only [natCast_int, Post, All, thenA, canon0, canon064, and_true, true_and, forall_const, implies_true, decide_eq_true_eq, decide_eq_false_iff_not, Bool.not_eq_true', Bool.not_eq_false', Bool.true_and, Bool.and_true, beq_true, beq_false, Int.toNat_natCast, Int.ofNat_lt, Int.ofNat_le, Nat.zero_add, Nat.add_zero, imp_self, Bool.cond_false_right, Bool.cond_true_left, Bool.cond_true_right, IsF, rdF_eq, fOf, AV.f.injEq, exists_eq', free_list, free_fn0, List.not_mem_nil, List.mem_cons, false_imp, forall_eq, or_false, free_i, free_f, free_b, ren_f, ren_i, ren_b, and_self, bne_iff_ne, bne_eq_false_iff_eq, ne_eq, Int.natCast_inj, or_true, true_or, freeB_list, unfr_f, unfr_i, unfr_b, unfr_c, unfr_s, free_c, free_s, ren_c, ren_s, unfr_ro, unfr_rptr, ren_ro, free_ll, free_box, kill_f, kill_i, kill_b, kill_c, kill_s, kill_rof, kill_rot, Int.toNat_zero, isFF_ll, rowN_ll, rowX_ll, AllFree, Option.some.injEq, Prod.mk.injEq, Bool.false_eq_true, Bool.true_eq_false, eqL_self, heldL_mark, heldL_zero, one_neg, Nat.zero_le, Nat.not_lt_zero, one_add_len, one_le_tb, zero_le_one', not_false_eq_true, true_imp_iff, bne_self_eq_false, Bool.or_false, Bool.false_or, Bool.not_true, Bool.not_false, Bool.true_eq_false, Bool.false_eq_true, false_imp, Nat.le_refl, decide_true, decide_false, not_true_eq_false, Int.lt_irrefl, isList_fin, hn, q1, q2, hd0, hd1]
  (repeat' first | with_reducible assumption | with_reducible apply And.intro | with_reducible intro hh) <;> first | ((first | with_reducible show (_ : Int) ≤ _ | with_reducible show (_ : Int) < _ | with_reducible show (_ : Nat) ≤ _ | with_reducible show (_ : Nat) < _ | with_reducible show (_ : Int) = _ | with_reducible show (_ : Nat) = _ | with_reducible show ¬ _ | with_reducible show _ ≠ _) <;> first | omega | (simp only [Bool.and_eq_true, Bool.or_eq_false_iff, Bool.not_eq_false', Bool.not_eq_true', decide_eq_true_eq, decide_eq_false_iff_not] at *; omega) | (with_reducible assumption)) | (with_reducible assumption) | skip
  refine AW.loopH (ι := Nat) (fun k => k ≤ (d .u).toNat) (fun k => (d .u).toNat - k) (fun k => mkE Try.f17.ntmps [(0, listF false n x), (1, listF false n y), (2, .i .i64 d), (8, .i .i64 fun _ => (bestB (n .u) x y k).1), (9, .f .f32 fun _ => (bestB (n .u) x y k).2), (10, .i .i64 fun _ => (k : Int) + 1)])
    (fun _ => []) 0 (Nat.zero_le _) (To.same (Nat.le_refl _) trivial ?_) ?_
  · (repeat' first | exact AllTo.nil | apply AllTo.cons) <;> first | exact AvTo.dead _ | exact AvTo.i rfl | exact AvTo.f rfl | exact Free.same .listF | trace_state
  rintro Q' hQ k hk
  refine AW.exec ttok ctBest_ok (by cbv) ?_
  simp only [natCast_int, Post, All, thenA, canon0, canon064, and_true, true_and, forall_const, implies_true, decide_eq_true_eq, decide_eq_false_iff_not, Bool.not_eq_true', Bool.not_eq_false', Bool.true_and, Bool.and_true, beq_true, beq_false, Int.toNat_natCast, Int.ofNat_lt, Int.ofNat_le, Nat.zero_add, Nat.add_zero, imp_self, Bool.cond_false_right, Bool.cond_true_left, Bool.cond_true_right, IsF, rdF_eq, fOf, AV.f.injEq, exists_eq', free_list, free_fn0, List.not_mem_nil, List.mem_cons, false_imp, forall_eq, or_false, free_i, free_f, free_b, ren_f, ren_i, ren_b, and_self, bne_iff_ne, bne_eq_false_iff_eq, ne_eq, Int.natCast_inj, or_true, true_or, freeB_list, unfr_f, unfr_i, unfr_b, unfr_c, unfr_s, free_c, free_s, ren_c, ren_s, unfr_ro, unfr_rptr, ren_ro, free_ll, free_box, kill_f, kill_i, kill_b, kill_c, kill_s, kill_rof, kill_rot, Int.toNat_zero, isFF_ll, rowN_ll, rowX_ll, AllFree, Option.some.injEq, Prod.mk.injEq, Bool.false_eq_true, Bool.true_eq_false]
  (repeat' first | with_reducible assumption | with_reducible apply And.intro | with_reducible intro hh) <;> first | ((first | with_reducible show (_ : Int) ≤ _ | with_reducible show (_ : Int) < _ | with_reducible show (_ : Nat) ≤ _ | with_reducible show (_ : Nat) < _ | with_reducible show (_ : Int) = _ | with_reducible show (_ : Nat) = _ | with_reducible show ¬ _ | with_reducible show _ ≠ _) <;> first | omega | (simp only [Bool.and_eq_true, Bool.or_eq_false_iff, Bool.not_eq_false', Bool.not_eq_true', decide_eq_true_eq, decide_eq_false_iff_not] at *; omega) | (with_reducible assumption)) | (with_reducible assumption) | skip
  · refine AW.loopH (ι := Nat) (fun j => j ≤ 2) (fun j => 2 - j) (fun j => mkE Try.f17.ntmps [(0, listF false n x), (1, listF false n y), (2, .i .i64 d), (8, .i .i64 fun _ => (halfB (n .u) x y k j).1), (9, .f .f32 fun _ => (halfB (n .u) x y k j).2), (10, .i .i64 fun _ => (k : Int) + 1), (45, .own 0 (fun _ => 0) (fun _ => 2) 1), (46, .i .i64 fun _ => 2), (47, .i .i64 fun _ => (j : Int))])
      (fun _ => [blkBy k]) 0 (Nat.zero_le _) (To.list (Nat.zero_le _) (Nat.le_refl _) (fun e => e) (fun j hj => ?_) ?_) ?_
    · match j, hj with
      | 0, _ => exact AvTo.i rfl
      | 1, _ => exact AvTo.i rfl
    · (repeat' first | exact AllTo.nil | apply AllTo.cons) <;> first | exact AvTo.dead _ | exact AvTo.i rfl | exact AvTo.f rfl | exact AvTo.own rfl rfl rfl rfl | exact Free.same .listF | trace_state
    rintro Q2 hQ2 j hj
    refine AW.exec ttok ctBest_ok (by cbv) ?_
    simp only [natCast_int, Post, All, thenA, canon0, canon064, and_true, true_and, forall_const, implies_true, decide_eq_true_eq, decide_eq_false_iff_not, Bool.not_eq_true', Bool.not_eq_false', Bool.true_and, Bool.and_true, beq_true, beq_false, Int.toNat_natCast, Int.ofNat_lt, Int.ofNat_le, Nat.zero_add, Nat.add_zero, imp_self, Bool.cond_false_right, Bool.cond_true_left, Bool.cond_true_right, IsF, rdF_eq, fOf, AV.f.injEq, exists_eq', free_list, free_fn0, List.not_mem_nil, List.mem_cons, false_imp, forall_eq, or_false, free_i, free_f, free_b, ren_f, ren_i, ren_b, and_self, bne_iff_ne, bne_eq_false_iff_eq, ne_eq, Int.natCast_inj, or_true, true_or, freeB_list, unfr_f, unfr_i, unfr_b, unfr_c, unfr_s, free_c, free_s, ren_c, ren_s, unfr_ro, unfr_rptr, ren_ro, free_ll, free_box, kill_f, kill_i, kill_b, kill_c, kill_s, kill_rof, kill_rot, Int.toNat_zero, isFF_ll, rowN_ll, rowX_ll, AllFree, Option.some.injEq, Prod.mk.injEq, Bool.false_eq_true, Bool.true_eq_false, hn]
    (repeat' first | with_reducible assumption | with_reducible apply And.intro | with_reducible intro hh) <;> first | ((first | with_reducible show (_ : Int) ≤ _ | with_reducible show (_ : Int) < _ | with_reducible show (_ : Nat) ≤ _ | with_reducible show (_ : Nat) < _ | with_reducible show (_ : Int) = _ | with_reducible show (_ : Nat) = _ | with_reducible show ¬ _ | with_reducible show _ ≠ _) <;> first | omega | (simp only [Bool.and_eq_true, Bool.or_eq_false_iff, Bool.not_eq_false', Bool.not_eq_true', decide_eq_true_eq, decide_eq_false_iff_not] at *; omega) | (with_reducible assumption)) | (with_reducible assumption) | skip
    · have hf : fgt .f32 (dotN (shiftX (n .u) x (byJ k j)) y (n .u)) (halfB (n .u) x y k j).2 = true := by assumption
      have e1 : halfB (n .u) x y k (j + 1) = (byJ k j, dotN (shiftX (n .u) x (byJ k j)) y (n .u)) := by
        show stepB _ _ _ _ _ = _
        unfold stepB
        rw [hf]
        rfl
      refine ⟨j + 1, by omega, by omega, To.pick [0] (by decide) (Nat.zero_le _) (fun j hj => absurd hj (Nat.not_lt_zero _)) ⟨EntTo.list (fun e => e) (Nat.le_refl _) fun j hj => AvTo.i rfl, trivial⟩ ?_⟩
      (repeat' first | exact AllTo.nil | apply AllTo.cons) <;> first | exact AvTo.dead _ | exact AvTo.i rfl | exact AvTo.f rfl | exact AvTo.own rfl rfl rfl rfl | exact Free.same .listF | exact AvTo.i (by show _ = (halfB (n .u) x y k (j + 1)).1; rw [e1]; rfl) | exact AvTo.f (by show _ = (halfB (n .u) x y k (j + 1)).2; rw [e1]; rfl) | trace_state
    · have hf : fgt .f32 (dotN (shiftX (n .u) x (byJ k j)) y (n .u)) (halfB (n .u) x y k j).2 = false := by assumption
      have e1 : halfB (n .u) x y k (j + 1) = halfB (n .u) x y k j := by
        show stepB _ _ _ _ _ = _
        unfold stepB
        rw [hf]
        rfl
      refine ⟨j + 1, by omega, by omega, To.pick [0] (by decide) (Nat.zero_le _) (fun j hj => absurd hj (Nat.not_lt_zero _)) ⟨EntTo.list (fun e => e) (Nat.le_refl _) fun j hj => AvTo.i rfl, trivial⟩ ?_⟩
      (repeat' first | exact AllTo.nil | apply AllTo.cons) <;> first | exact AvTo.dead _ | exact AvTo.i rfl | exact AvTo.f rfl | exact AvTo.own rfl rfl rfl rfl | exact Free.same .listF | exact AvTo.i (by show _ = (halfB (n .u) x y k (j + 1)).1; rw [e1]) | exact AvTo.f (by show _ = (halfB (n .u) x y k (j + 1)).2; rw [e1]) | trace_state
    · obtain rfl : j = 2 := by omega
      obtain ⟨rfl⟩ := hQ2
      refine Post.eval (by cbv) ?_
      simp only [natCast_int, Post, All, thenA, canon0, canon064, and_true, true_and, forall_const, implies_true, decide_eq_true_eq, decide_eq_false_iff_not, Bool.not_eq_true', Bool.not_eq_false', Bool.true_and, Bool.and_true, beq_true, beq_false, Int.toNat_natCast, Int.ofNat_lt, Int.ofNat_le, Nat.zero_add, Nat.add_zero, imp_self, Bool.cond_false_right, Bool.cond_true_left, Bool.cond_true_right, IsF, rdF_eq, fOf, AV.f.injEq, exists_eq', free_list, free_fn0, List.not_mem_nil, List.mem_cons, false_imp, forall_eq, or_false, free_i, free_f, free_b, ren_f, ren_i, ren_b, and_self, bne_iff_ne, bne_eq_false_iff_eq, ne_eq, Int.natCast_inj, or_true, true_or, freeB_list, unfr_f, unfr_i, unfr_b, unfr_c, unfr_s, free_c, free_s, ren_c, ren_s, unfr_ro, unfr_rptr, ren_ro, free_ll, free_box, kill_f, kill_i, kill_b, kill_c, kill_s, kill_rof, kill_rot, Int.toNat_zero, isFF_ll, rowN_ll, rowX_ll, AllFree, Option.some.injEq, Prod.mk.injEq, Bool.false_eq_true, Bool.true_eq_false]
      (repeat' first | with_reducible assumption | with_reducible apply And.intro | with_reducible intro hh) <;> first | ((first | with_reducible show (_ : Int) ≤ _ | with_reducible show (_ : Int) < _ | with_reducible show (_ : Nat) ≤ _ | with_reducible show (_ : Nat) < _ | with_reducible show (_ : Int) = _ | with_reducible show (_ : Nat) = _ | with_reducible show ¬ _ | with_reducible show _ ≠ _) <;> first | omega | (simp only [Bool.and_eq_true, Bool.or_eq_false_iff, Bool.not_eq_false', Bool.not_eq_true', decide_eq_true_eq, decide_eq_false_iff_not] at *; omega) | (with_reducible assumption)) | (with_reducible assumption) | skip
      refine ⟨k + 1, by omega, by omega, To.pick [] (by decide) (Nat.zero_le _) (fun j hj => absurd hj (Nat.not_lt_zero _)) trivial ?_⟩
      (repeat' first | exact AllTo.nil | apply AllTo.cons) <;> first | exact AvTo.dead _ | exact AvTo.i rfl | exact AvTo.f rfl | exact AvTo.own rfl rfl rfl rfl | exact Free.same .listF | trace_state
  · obtain ⟨rfl⟩ := hQ
    refine Post.eval (by cbv) ?_
    simp only [natCast_int, Post, All, thenA, canon0, canon064, and_true, true_and, forall_const, implies_true, decide_eq_true_eq, decide_eq_false_iff_not, Bool.not_eq_true', Bool.not_eq_false', Bool.true_and, Bool.and_true, beq_true, beq_false, Int.toNat_natCast, Int.ofNat_lt, Int.ofNat_le, Nat.zero_add, Nat.add_zero, imp_self, Bool.cond_false_right, Bool.cond_true_left, Bool.cond_true_right, IsF, rdF_eq, fOf, AV.f.injEq, exists_eq', free_list, free_fn0, List.not_mem_nil, List.mem_cons, false_imp, forall_eq, or_false, free_i, free_f, free_b, ren_f, ren_i, ren_b, and_self, bne_iff_ne, bne_eq_false_iff_eq, ne_eq, Int.natCast_inj, or_true, true_or, freeB_list, unfr_f, unfr_i, unfr_b, unfr_c, unfr_s, free_c, free_s, ren_c, ren_s, unfr_ro, unfr_rptr, ren_ro, free_ll, free_box, kill_f, kill_i, kill_b, kill_c, kill_s, kill_rof, kill_rot, Int.toNat_zero, isFF_ll, rowN_ll, rowX_ll, AllFree, Option.some.injEq, Prod.mk.injEq, Bool.false_eq_true, Bool.true_eq_false]
    (repeat' first | with_reducible assumption | with_reducible apply And.intro | with_reducible intro hh) <;> first | ((first | with_reducible show (_ : Int) ≤ _ | with_reducible show (_ : Int) < _ | with_reducible show (_ : Nat) ≤ _ | with_reducible show (_ : Nat) < _ | with_reducible show (_ : Int) = _ | with_reducible show (_ : Nat) = _ | with_reducible show ¬ _ | with_reducible show _ ≠ _) <;> first | omega | (simp only [Bool.and_eq_true, Bool.or_eq_false_iff, Bool.not_eq_false', Bool.not_eq_true', decide_eq_true_eq, decide_eq_false_iff_not] at *; omega) | (with_reducible assumption)) | (with_reducible assumption) | skip
    obtain rfl : k = (d .u).toNat := by omega
    exact fin_ret (.inl rfl) (by cbv) (by simp) (To.fresh (.cons (.tup (.cons (.i rfl) (.cons (.b rfl) .nil))) .nil))
end Go.Proofs.Ythfgigndipjbjaa
set_option linter.unusedSimpArgs false
set_option linter.unusedVariables false
namespace Go.Proofs.Ythfgigndipjbjaa
open Go.Aw
def ctSame3 : CT := [(45, .r kSameN)]
theorem ctSame3_ok : CTok Try.prog ctSame3 := .cons l01Same_tells (.nil _)
theorem specSame_tells : Tells Try.prog 35 (.r kSameN) := by
  intro args r H' p hr hp
  unfold kSameN at hr
  split at hr <;> cases hr
  rename_i a b
  obtain ⟨h1, h2⟩ := hp
  refine ⟨.b, .nil, Con.of ttok Try.func35 rfl rfl (Nat.zero_le _) (AW.exec ttok ctSame3_ok (by cbv) ?_)⟩
  simp only [natCast_int, Post, All, thenA, canon0, canon064, and_true, true_and, forall_const, implies_true, decide_eq_true_eq, decide_eq_false_iff_not, Bool.not_eq_true', Bool.not_eq_false', Bool.true_and, Bool.and_true, beq_true, beq_false, Int.toNat_natCast, Int.ofNat_lt, Int.ofNat_le, Nat.zero_add, Nat.add_zero, imp_self, Bool.cond_false_right, Bool.cond_true_left, Bool.cond_true_right, IsF, rdF_eq, fOf, AV.f.injEq, exists_eq', free_list, free_fn0, List.not_mem_nil, List.mem_cons, false_imp, forall_eq, or_false, free_i, free_f, free_b, ren_f, ren_i, ren_b, and_self, bne_iff_ne, bne_eq_false_iff_eq, ne_eq, Int.natCast_inj, or_true, true_or, freeB_list, unfr_f, unfr_i, unfr_b, unfr_c, unfr_s, free_c, free_s, ren_c, ren_s, unfr_ro, unfr_rptr, ren_ro, free_ll, free_box, kill_f, kill_i, kill_b, kill_c, kill_s, kill_rof, kill_rot, Int.toNat_zero, isFF_ll, rowN_ll, rowX_ll, AllFree, Option.some.injEq, Prod.mk.injEq, Bool.false_eq_true, Bool.true_eq_false, h1, h2]
  (repeat' first | with_reducible assumption | with_reducible apply And.intro | with_reducible intro hh) <;> first | ((first | with_reducible show (_ : Int) ≤ _ | with_reducible show (_ : Int) < _ | with_reducible show (_ : Nat) ≤ _ | with_reducible show (_ : Nat) < _ | with_reducible show (_ : Int) = _ | with_reducible show (_ : Nat) = _ | with_reducible show ¬ _ | with_reducible show _ ≠ _) <;> first | omega | (simp only [Bool.and_eq_true, Bool.or_eq_false_iff, Bool.not_eq_false', Bool.not_eq_true', decide_eq_true_eq, decide_eq_false_iff_not] at *; omega) | (with_reducible assumption)) | (with_reducible assumption) | skip
  exact fin_ret (.inl rfl) (by cbv) (by simp) (To.fresh ⟨.b rfl, trivial⟩)
theorem sameW_self (a : Nat) : sameW a a = true := by unfold sameW; exact decide_eq_true rfl
def kB10L : Kr
  | [a, a'] => match asL a, asL a' with
    | some (n, g), some (m, h) => some (.b fun _ => true, [], fun _ => IsF n g ∧ IsF m h ∧ n .u = m .u ∧ ∀ i, i < n .u → rdF g i = rdF h i ∧ rdF g i < 4294967296)
    | _, _ => none
  | _ => none
def ctB10L : CT := [(35, .r kSameN)]
theorem ctB10L_ok : CTok Try.prog ctB10L := .cons specSame_tells (.nil _)
theorem b10List_tells : Tells Try.prog 14 (.r kB10L) := by
  intro args r H' p hr hp
  unfold kB10L at hr
  split at hr <;> first | (cases hr; done) | skip
  split at hr <;> cases hr
  rename_i _ _ n g m h hL hL'
  obtain ⟨hF, hF', hnm, he⟩ := hp
  obtain rfl : n = m := funext fun q => by cases q; exact hnm
  refine ⟨.b, .nil, Con.pre (args' := [listF false n (rdF g), listF false n (rdF h)]) ⟨.asL hL hF, .asL hL' hF', trivial⟩ ?_⟩
  have hn := hF.1
  generalize rdF g = x at he
  generalize rdF h = y at he
  refine Con.of ttok Try.func14 rfl rfl (Nat.zero_le _) (AW.exec ttok ctB10L_ok (by cbv) ?_)
  simp only [natCast_int, Post, All, thenA, canon0, canon064, and_true, true_and, forall_const, implies_true, decide_eq_true_eq, decide_eq_false_iff_not, Bool.not_eq_true', Bool.not_eq_false', Bool.true_and, Bool.and_true, beq_true, beq_false, Int.toNat_natCast, Int.ofNat_lt, Int.ofNat_le, Nat.zero_add, Nat.add_zero, imp_self, Bool.cond_false_right, Bool.cond_true_left, Bool.cond_true_right, IsF, rdF_eq, fOf, AV.f.injEq, exists_eq', free_list, free_fn0, List.not_mem_nil, List.mem_cons, false_imp, forall_eq, or_false, free_i, free_f, free_b, ren_f, ren_i, ren_b, and_self, bne_iff_ne, bne_eq_false_iff_eq, ne_eq, Int.natCast_inj, or_true, true_or, freeB_list, unfr_f, unfr_i, unfr_b, unfr_c, unfr_s, free_c, free_s, ren_c, ren_s, unfr_ro, unfr_rptr, ren_ro, free_ll, free_box, kill_f, kill_i, kill_b, kill_c, kill_s, kill_rof, kill_rot, Int.toNat_zero, isFF_ll, rowN_ll, rowX_ll, AllFree, Option.some.injEq, Prod.mk.injEq, Bool.false_eq_true, Bool.true_eq_false, eqL_self, heldL_mark, heldL_zero, one_neg, Nat.zero_le, Nat.not_lt_zero, one_add_len, one_le_tb, zero_le_one', not_false_eq_true, true_imp_iff, bne_self_eq_false, Bool.or_false, Bool.false_or, Bool.not_true, Bool.not_false, Bool.true_eq_false, Bool.false_eq_true, false_imp, Nat.le_refl, decide_true, decide_false, not_true_eq_false, Int.lt_irrefl, hn]
  (repeat' first | with_reducible assumption | with_reducible apply And.intro | with_reducible intro hh) <;> first | ((first | with_reducible show (_ : Int) ≤ _ | with_reducible show (_ : Int) < _ | with_reducible show (_ : Nat) ≤ _ | with_reducible show (_ : Nat) < _ | with_reducible show (_ : Int) = _ | with_reducible show (_ : Nat) = _ | with_reducible show ¬ _ | with_reducible show _ ≠ _) <;> first | omega | (simp only [Bool.and_eq_true, Bool.or_eq_false_iff, Bool.not_eq_false', Bool.not_eq_true', decide_eq_true_eq, decide_eq_false_iff_not] at *; omega) | (with_reducible assumption)) | (with_reducible assumption) | skip
  refine AW.loopH (ι := Nat) (fun i => i ≤ n .u) (fun i => n .u - i) (fun i => mkE Try.f14.ntmps [(0, listF false n x), (1, listF false n y), (12, .i .i64 fun _ => (n .u : Int)), (13, .i .i64 fun _ => (i : Int))])
    (fun _ => []) 0 (Nat.zero_le _) (To.same (Nat.le_refl _) trivial ?_) ?_
  · (repeat' first | exact AllTo.nil | apply AllTo.cons) <;> first | exact AvTo.dead _ | exact AvTo.i rfl | exact Free.same .listF | trace_state
  rintro Q' hQ i hi
  rcases Nat.lt_or_eq_of_le hi with hl | rfl
  · obtain ⟨e1, e2⟩ := he i hl
    have e3 : sameW (x i) (y i) = true := by rw [← e1]; exact sameW_self _
    have e4 : y i < 4294967296 := by rw [← e1]; exact e2
    refine AW.exec ttok ctB10L_ok (by cbv) ?_
    simp only [natCast_int, Post, All, thenA, canon0, canon064, and_true, true_and, forall_const, implies_true, decide_eq_true_eq, decide_eq_false_iff_not, Bool.not_eq_true', Bool.not_eq_false', Bool.true_and, Bool.and_true, beq_true, beq_false, Int.toNat_natCast, Int.ofNat_lt, Int.ofNat_le, Nat.zero_add, Nat.add_zero, imp_self, Bool.cond_false_right, Bool.cond_true_left, Bool.cond_true_right, IsF, rdF_eq, fOf, AV.f.injEq, exists_eq', free_list, free_fn0, List.not_mem_nil, List.mem_cons, false_imp, forall_eq, or_false, free_i, free_f, free_b, ren_f, ren_i, ren_b, and_self, bne_iff_ne, bne_eq_false_iff_eq, ne_eq, Int.natCast_inj, or_true, true_or, freeB_list, unfr_f, unfr_i, unfr_b, unfr_c, unfr_s, free_c, free_s, ren_c, ren_s, unfr_ro, unfr_rptr, ren_ro, free_ll, free_box, kill_f, kill_i, kill_b, kill_c, kill_s, kill_rof, kill_rot, Int.toNat_zero, isFF_ll, rowN_ll, rowX_ll, AllFree, Option.some.injEq, Prod.mk.injEq, Bool.false_eq_true, Bool.true_eq_false, eqL_self, heldL_mark, heldL_zero, one_neg, Nat.zero_le, Nat.not_lt_zero, one_add_len, one_le_tb, zero_le_one', not_false_eq_true, true_imp_iff, bne_self_eq_false, Bool.or_false, Bool.false_or, Bool.not_true, Bool.not_false, Bool.true_eq_false, Bool.false_eq_true, false_imp, Nat.le_refl, decide_true, decide_false, not_true_eq_false, Int.lt_irrefl, e2, e3, e4, hl]
    (repeat' first | with_reducible assumption | with_reducible apply And.intro | with_reducible intro hh) <;> first | ((first | with_reducible show (_ : Int) ≤ _ | with_reducible show (_ : Int) < _ | with_reducible show (_ : Nat) ≤ _ | with_reducible show (_ : Nat) < _ | with_reducible show (_ : Int) = _ | with_reducible show (_ : Nat) = _ | with_reducible show ¬ _ | with_reducible show _ ≠ _) <;> first | omega | (simp only [Bool.and_eq_true, Bool.or_eq_false_iff, Bool.not_eq_false', Bool.not_eq_true', decide_eq_true_eq, decide_eq_false_iff_not] at *; omega) | (with_reducible assumption)) | (with_reducible assumption) | skip
    · refine ⟨i + 1, by omega, by omega, To.same (Nat.le_refl _) trivial ?_⟩
      (repeat' first | exact AllTo.nil | apply AllTo.cons) <;> first | exact AvTo.dead _ | exact AvTo.i rfl | exact Free.same .listF | trace_state
    all_goals first | (exact absurd trivial hh) | trace_state
  · refine AW.seq (AW.exec ttok (CTok.nil _) (by cbv) ?_)
    simp only [natCast_int, Post, All, thenA, canon0, canon064, and_true, true_and, forall_const, implies_true, decide_eq_true_eq, decide_eq_false_iff_not, Bool.not_eq_true', Bool.not_eq_false', Bool.true_and, Bool.and_true, beq_true, beq_false, Int.toNat_natCast, Int.ofNat_lt, Int.ofNat_le, Nat.zero_add, Nat.add_zero, imp_self, Bool.cond_false_right, Bool.cond_true_left, Bool.cond_true_right, IsF, rdF_eq, fOf, AV.f.injEq, exists_eq', free_list, free_fn0, List.not_mem_nil, List.mem_cons, false_imp, forall_eq, or_false, free_i, free_f, free_b, ren_f, ren_i, ren_b, and_self, bne_iff_ne, bne_eq_false_iff_eq, ne_eq, Int.natCast_inj, or_true, true_or, freeB_list, unfr_f, unfr_i, unfr_b, unfr_c, unfr_s, free_c, free_s, ren_c, ren_s, unfr_ro, unfr_rptr, ren_ro, free_ll, free_box, kill_f, kill_i, kill_b, kill_c, kill_s, kill_rof, kill_rot, Int.toNat_zero, isFF_ll, rowN_ll, rowX_ll, AllFree, Option.some.injEq, Prod.mk.injEq, Bool.false_eq_true, Bool.true_eq_false]
    refine AW.seq (AW.cond rfl (fun h => absurd (of_decide_eq_true h) (Nat.lt_irrefl _)) fun _ => AW.exit ?_)
    simp only [thenA]
    obtain ⟨rfl⟩ := hQ
    refine Post.eval (by cbv) ?_
    simp only [natCast_int, Post, All, thenA, canon0, canon064, and_true, true_and, forall_const, implies_true, decide_eq_true_eq, decide_eq_false_iff_not, Bool.not_eq_true', Bool.not_eq_false', Bool.true_and, Bool.and_true, beq_true, beq_false, Int.toNat_natCast, Int.ofNat_lt, Int.ofNat_le, Nat.zero_add, Nat.add_zero, imp_self, Bool.cond_false_right, Bool.cond_true_left, Bool.cond_true_right, IsF, rdF_eq, fOf, AV.f.injEq, exists_eq', free_list, free_fn0, List.not_mem_nil, List.mem_cons, false_imp, forall_eq, or_false, free_i, free_f, free_b, ren_f, ren_i, ren_b, and_self, bne_iff_ne, bne_eq_false_iff_eq, ne_eq, Int.natCast_inj, or_true, true_or, freeB_list, unfr_f, unfr_i, unfr_b, unfr_c, unfr_s, free_c, free_s, ren_c, ren_s, unfr_ro, unfr_rptr, ren_ro, free_ll, free_box, kill_f, kill_i, kill_b, kill_c, kill_s, kill_rof, kill_rot, Int.toNat_zero, isFF_ll, rowN_ll, rowX_ll, AllFree, Option.some.injEq, Prod.mk.injEq, Bool.false_eq_true, Bool.true_eq_false]
    (repeat' first | with_reducible assumption | with_reducible apply And.intro | with_reducible intro hh) <;> first | ((first | with_reducible show (_ : Int) ≤ _ | with_reducible show (_ : Int) < _ | with_reducible show (_ : Nat) ≤ _ | with_reducible show (_ : Nat) < _ | with_reducible show (_ : Int) = _ | with_reducible show (_ : Nat) = _ | with_reducible show ¬ _ | with_reducible show _ ≠ _) <;> first | omega | (simp only [Bool.and_eq_true, Bool.or_eq_false_iff, Bool.not_eq_false', Bool.not_eq_true', decide_eq_true_eq, decide_eq_false_iff_not] at *; omega) | (with_reducible assumption)) | (with_reducible assumption) | skip
    exact fin_ret (.inl rfl) (by cbv) (by simp) (To.fresh (.cons (.b rfl) .nil))
end Go.Proofs.Ythfgigndipjbjaa
