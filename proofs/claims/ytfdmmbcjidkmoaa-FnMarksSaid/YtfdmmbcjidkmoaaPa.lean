/- What the laws on marks, films, lamps and scans call: gaps, chosen numbers, drawn lists; lists of bins; kernels; noise. -/
import Derived.Test.YtfdmmbcjidkmoaaFg
import Derived.Test.YtfdmmbcjidkmoaaGd
import Derived.Test.YtfdmmbcjidkmoaaHd
import Derived.Test.YtfdmmbcjidkmoaaUk
set_option linter.unusedSimpArgs false
set_option linter.unusedVariables false
namespace Go.Proofs.Ytfdmmbcjidkmoaa
open Go.Aw
theorem isB_listP {n : Th Nat} {b : Nat → Int} : (IsB n fun i c => .i .u8 fun _ => b (i .u)) ↔ (n .u ≤ 1048576 ∧ ∀ i, i < n .u → 0 ≤ b i ∧ b i < 256) :=
  ⟨fun h => ⟨h.1, fun i hi => by
    obtain ⟨x, hx, h2⟩ := h.2 i hi
    cases hx
    exact h2⟩, fun h => ⟨h.1, fun i hi => ⟨_, rfl, h.2 i hi⟩⟩⟩
theorem rdB_listP {b : Nat → Int} : rdB (fun i c => .i .u8 fun _ => b (i .u)) = b := rfl
theorem free_lbP {fr : Bool} {n : Th Nat} {b : Th Nat → Nat → Th Int} : Free (.ro fr n 1 fun i c => .i .u8 (b i c)) ↔ True := iff_true_intro (.ro fun _ _ _ _ => .i)
theorem Sub.iE {k : IntKind} {x y : Th Int} (h : x .u = y .u) : Sub (.i k x) (.i k y) := fun w ρ N L v hs => by
  have := hs.i_inv
  subst this
  rw [h]
  exact .i
/-! Gaps, chosen numbers. -/
def gap8 (a b : Nat) : Nat := fmax .f64 (fsub .f64 (wd a) (wd b)) (fsub .f64 (wd b) (wd a))
def kGap8 : Kr
  | [.f .f32 a, .f .f32 b] => some (.f .f64 fun _ => gap8 (a .u) (b .u), [], fun _ => True)
  | _ => none
theorem gap8_tells : Tells Try.prog 38 (.r kGap8) := by
  intro args r H' p hr hp
  unfold kGap8 at hr
  split at hr <;> cases hr
  refine ⟨.f, .nil, Con.of ttok Try.func38 rfl rfl (Nat.le_refl _) (AW.exec ttok (CTok.nil _) (by cbv) ?_)⟩
  simp only [natCast_int, Post, All, thenA, canon0, canon064, and_true, true_and, forall_const, implies_true, decide_eq_true_eq, decide_eq_false_iff_not, Bool.not_eq_true', Bool.not_eq_false', Bool.true_and, Bool.and_true, beq_true, beq_false, Int.toNat_natCast, Int.ofNat_lt, Int.ofNat_le, Nat.zero_add, Nat.add_zero, imp_self, Bool.cond_false_right, Bool.cond_true_left, Bool.cond_true_right, IsF, rdF_eq, fOf, AV.f.injEq, exists_eq', free_list, free_fn0, List.not_mem_nil, List.mem_cons, false_imp, forall_eq, or_false, free_i, free_f, free_b, ren_f, ren_i, ren_b, and_self, bne_iff_ne, bne_eq_false_iff_eq, ne_eq, Int.natCast_inj, or_true, true_or, freeB_list, unfr_f, unfr_i, unfr_b, unfr_c, unfr_s, free_c, free_s, ren_c, ren_s, unfr_ro, unfr_rptr, ren_ro, free_ll, free_box, kill_f, kill_i, kill_b, kill_c, kill_s, kill_rof, kill_rot, Int.toNat_zero, isFF_ll, rowN_ll, rowX_ll, AllFree, Option.some.injEq, Prod.mk.injEq, Bool.false_eq_true, Bool.true_eq_false]
  (repeat' first | with_reducible assumption | with_reducible apply And.intro | with_reducible intro hh) <;> first | ((first | with_reducible show (_ : Int) ≤ _ | with_reducible show (_ : Int) < _ | with_reducible show (_ : Nat) ≤ _ | with_reducible show (_ : Nat) < _ | with_reducible show (_ : Int) = _ | with_reducible show (_ : Nat) = _ | with_reducible show ¬ _ | with_reducible show _ ≠ _) <;> first | omega | (simp only [Bool.and_eq_true, Bool.or_eq_false_iff, Bool.not_eq_false', Bool.not_eq_true', decide_eq_true_eq, decide_eq_false_iff_not] at *; omega) | (with_reducible assumption)) | (with_reducible assumption) | skip
  all_goals exact fin_ret (.inl rfl) (by cbv) (by simp) (To.fresh ⟨.f rfl, trivial⟩)
def kLong8 : Kr
  | [.ro _ n 1 _, .ro _ m 1 _] => some (.b fun _ => decide (48 < (n .u : Int)) || decide (48 < (m .u : Int)), [], fun _ => True)
  | _ => none
theorem long8_tells : Tells Try.prog 33 (.r kLong8) := by
  intro args r H' p hr hp
  unfold kLong8 at hr
  split at hr <;> cases hr
  refine ⟨.b, .nil, Con.of ttok Try.func33 rfl rfl (Nat.le_refl _) (AW.exec ttok (CTok.nil _) (by cbv) ?_)⟩
  simp only [natCast_int, Post, All, thenA, canon0, canon064, and_true, true_and, forall_const, implies_true, decide_eq_true_eq, decide_eq_false_iff_not, Bool.not_eq_true', Bool.not_eq_false', Bool.true_and, Bool.and_true, beq_true, beq_false, Int.toNat_natCast, Int.ofNat_lt, Int.ofNat_le, Nat.zero_add, Nat.add_zero, imp_self, Bool.cond_false_right, Bool.cond_true_left, Bool.cond_true_right, IsF, rdF_eq, fOf, AV.f.injEq, exists_eq', free_list, free_fn0, List.not_mem_nil, List.mem_cons, false_imp, forall_eq, or_false, free_i, free_f, free_b, ren_f, ren_i, ren_b, and_self, bne_iff_ne, bne_eq_false_iff_eq, ne_eq, Int.natCast_inj, or_true, true_or, freeB_list, unfr_f, unfr_i, unfr_b, unfr_c, unfr_s, free_c, free_s, ren_c, ren_s, unfr_ro, unfr_rptr, ren_ro, free_ll, free_box, kill_f, kill_i, kill_b, kill_c, kill_s, kill_rof, kill_rot, Int.toNat_zero, isFF_ll, rowN_ll, rowX_ll, AllFree, Option.some.injEq, Prod.mk.injEq, Bool.false_eq_true, Bool.true_eq_false]
  (repeat' first | with_reducible assumption | with_reducible apply And.intro | with_reducible intro hh) <;> first | ((first | with_reducible show (_ : Int) ≤ _ | with_reducible show (_ : Int) < _ | with_reducible show (_ : Nat) ≤ _ | with_reducible show (_ : Nat) < _ | with_reducible show (_ : Int) = _ | with_reducible show (_ : Nat) = _ | with_reducible show ¬ _ | with_reducible show _ ≠ _) <;> first | omega | (simp only [Bool.and_eq_true, Bool.or_eq_false_iff, Bool.not_eq_false', Bool.not_eq_true', decide_eq_true_eq, decide_eq_false_iff_not] at *; omega) | (with_reducible assumption)) | (with_reducible assumption) | skip
  all_goals exact fin_ret (.inl rfl) (by cbv) (by simp) (To.fresh ⟨.b (by first | rfl | simp_all), trivial⟩)
def at8 (l : Nat) (b : Nat → Int) (i n : Int) : Int := if i < (l : Int) then (b i.toNat).tmod n else 0
def kAt8 : Kr
  | [.ro false l 1 g, .i .i64 i, .i .i64 n] => some (.i .i64 fun _ => at8 (l .u) (rdB g) (i .u) (n .u), [], fun _ => IsB l g ∧ 0 ≤ i .u ∧ i .u ≤ 1000 ∧ 1 < n .u ∧ n .u ≤ 1000)
  | _ => none
theorem at8_tells : Tells Try.prog 34 (.r kAt8) := by
  intro args r H' p hr hp
  unfold kAt8 at hr
  split at hr <;> cases hr
  rename_i l g i n
  obtain ⟨hB, h0, h1, h2, h3⟩ := hp
  have hbb : ∀ k, k < l .u → 0 ≤ rdB g k ∧ rdB g k < 256 := fun k hk => by
    obtain ⟨x, hx, h2⟩ := hB.2 k hk
    simp only [rdB, hx, iOf]
    exact h2
  have hl := hB.1
  refine ⟨.i, .nil, Con.pre (args' := [listB l (rdB g), .i .i64 i, .i .i64 n]) ⟨?_, Sub.refl _, Sub.refl _, trivial⟩ ?_⟩
  · exact Sub.listBu hB
  generalize rdB g = b at hbb
  have hbi : i .u < (l .u : Int) → 0 ≤ b (i .u).toNat ∧ b (i .u).toNat < 256 := fun hb => hbb (i .u).toNat (by omega)
  clear hbb
  have q1 : (n .u ≤ 1) ↔ False := iff_false_intro (by omega)
  by_cases hlt : i .u < (l .u : Int)
  · have q2 : ((l .u : Int) ≤ i .u) ↔ False := iff_false_intro (by omega)
    obtain ⟨b0, b1⟩ := hbi hlt
    refine Con.of ttok Try.func34 rfl rfl (Nat.le_refl _) (AW.exec ttok (CTok.nil _) (by cbv) ?_)
    simp only [natCast_int, Post, All, thenA, canon0, canon064, and_true, true_and, forall_const, implies_true, decide_eq_true_eq, decide_eq_false_iff_not, Bool.not_eq_true', Bool.not_eq_false', Bool.true_and, Bool.and_true, beq_true, beq_false, Int.toNat_natCast, Int.ofNat_lt, Int.ofNat_le, Nat.zero_add, Nat.add_zero, imp_self, Bool.cond_false_right, Bool.cond_true_left, Bool.cond_true_right, IsF, rdF_eq, fOf, AV.f.injEq, exists_eq', free_list, free_fn0, List.not_mem_nil, List.mem_cons, false_imp, forall_eq, or_false, free_i, free_f, free_b, ren_f, ren_i, ren_b, and_self, bne_iff_ne, bne_eq_false_iff_eq, ne_eq, Int.natCast_inj, or_true, true_or, freeB_list, unfr_f, unfr_i, unfr_b, unfr_c, unfr_s, free_c, free_s, ren_c, ren_s, unfr_ro, unfr_rptr, ren_ro, free_ll, free_box, kill_f, kill_i, kill_b, kill_c, kill_s, kill_rof, kill_rot, Int.toNat_zero, isFF_ll, rowN_ll, rowX_ll, AllFree, Option.some.injEq, Prod.mk.injEq, Bool.false_eq_true, Bool.true_eq_false, eqL_self, heldL_mark, heldL_zero, one_neg, Nat.zero_le, Nat.not_lt_zero, one_add_len, one_le_tb, zero_le_one', not_false_eq_true, true_imp_iff, bne_self_eq_false, Bool.or_false, Bool.false_or, Bool.not_true, Bool.not_false, Bool.true_eq_false, Bool.false_eq_true, false_imp, Nat.le_refl, decide_true, decide_false, not_true_eq_false, Int.lt_irrefl, q1, q2, Bool.or_self]
    (repeat' first | with_reducible assumption | with_reducible apply And.intro | with_reducible intro hh) <;> first | ((first | with_reducible show (_ : Int) ≤ _ | with_reducible show (_ : Int) < _ | with_reducible show (_ : Nat) ≤ _ | with_reducible show (_ : Nat) < _ | with_reducible show (_ : Int) = _ | with_reducible show (_ : Nat) = _ | with_reducible show ¬ _ | with_reducible show _ ≠ _) <;> first | omega | (simp only [Bool.and_eq_true, Bool.or_eq_false_iff, Bool.not_eq_false', Bool.not_eq_true', decide_eq_true_eq, decide_eq_false_iff_not] at *; omega) | (with_reducible assumption)) | (with_reducible assumption) | skip
    all_goals refine fin_ret (.inl rfl) (by cbv) (by simp) (To.fresh ⟨.i ?_, trivial⟩)
    all_goals
      unfold at8
      rw [if_pos hlt]
  · have q2 : ((l .u : Int) ≤ i .u) ↔ True := iff_true_intro (by omega)
    refine Con.of ttok Try.func34 rfl rfl (Nat.le_refl _) (AW.exec ttok (CTok.nil _) (by cbv) ?_)
    simp only [natCast_int, Post, All, thenA, canon0, canon064, and_true, true_and, forall_const, implies_true, decide_eq_true_eq, decide_eq_false_iff_not, Bool.not_eq_true', Bool.not_eq_false', Bool.true_and, Bool.and_true, beq_true, beq_false, Int.toNat_natCast, Int.ofNat_lt, Int.ofNat_le, Nat.zero_add, Nat.add_zero, imp_self, Bool.cond_false_right, Bool.cond_true_left, Bool.cond_true_right, IsF, rdF_eq, fOf, AV.f.injEq, exists_eq', free_list, free_fn0, List.not_mem_nil, List.mem_cons, false_imp, forall_eq, or_false, free_i, free_f, free_b, ren_f, ren_i, ren_b, and_self, bne_iff_ne, bne_eq_false_iff_eq, ne_eq, Int.natCast_inj, or_true, true_or, freeB_list, unfr_f, unfr_i, unfr_b, unfr_c, unfr_s, free_c, free_s, ren_c, ren_s, unfr_ro, unfr_rptr, ren_ro, free_ll, free_box, kill_f, kill_i, kill_b, kill_c, kill_s, kill_rof, kill_rot, Int.toNat_zero, isFF_ll, rowN_ll, rowX_ll, AllFree, Option.some.injEq, Prod.mk.injEq, Bool.false_eq_true, Bool.true_eq_false, eqL_self, heldL_mark, heldL_zero, one_neg, Nat.zero_le, Nat.not_lt_zero, one_add_len, one_le_tb, zero_le_one', not_false_eq_true, true_imp_iff, bne_self_eq_false, Bool.or_false, Bool.false_or, Bool.not_true, Bool.not_false, Bool.true_eq_false, Bool.false_eq_true, false_imp, Nat.le_refl, decide_true, decide_false, not_true_eq_false, Int.lt_irrefl, q1, q2, Bool.or_self]
    (repeat' first | with_reducible assumption | with_reducible apply And.intro | with_reducible intro hh) <;> first | ((first | with_reducible show (_ : Int) ≤ _ | with_reducible show (_ : Int) < _ | with_reducible show (_ : Nat) ≤ _ | with_reducible show (_ : Nat) < _ | with_reducible show (_ : Int) = _ | with_reducible show (_ : Nat) = _ | with_reducible show ¬ _ | with_reducible show _ ≠ _) <;> first | omega | (simp only [Bool.and_eq_true, Bool.or_eq_false_iff, Bool.not_eq_false', Bool.not_eq_true', decide_eq_true_eq, decide_eq_false_iff_not] at *; omega) | (with_reducible assumption)) | (with_reducible assumption) | skip
    all_goals refine fin_ret (.inl rfl) (by cbv) (by simp) (To.fresh ⟨.i ?_, trivial⟩)
    all_goals
      unfold at8
      rw [if_neg hlt]
theorem at8_in {l : Nat} {b : Nat → Int} (hb : ∀ k, k < l → 0 ≤ b k ∧ b k < 256) {i n : Int} (h0 : 0 ≤ i) (hn : 1 < n) : 0 ≤ at8 l b i n ∧ at8 l b i n < n := by
  have key : ∀ x : Int, 0 ≤ x → 0 ≤ x.tmod n ∧ x.tmod n < n := fun x hx => ⟨Int.tmod_nonneg _ hx, Int.tmod_lt_of_pos _ (by omega)⟩
  unfold at8
  split
  · exact key _ (hb i.toNat (by omega)).1
  · omega
/-! A drawn list of numbers above nothing. -/
theorem cn4p : canon .f32 1082130432 = 1082130432 := by decide +kernel
def pick16 (n : Nat) (b : Nat → Int) (j : Nat) : Int := pickN 16 n b j (sdK n b j)
theorem pick16_in {n : Nat} {b : Nat → Int} (hb : ∀ k, k < n → 0 ≤ b k ∧ b k < 256) (j : Nat) : 0 ≤ pick16 n b j ∧ pick16 n b j < 16 := by
  unfold pick16 pickN
  omega
def aboveX (n : Nat) (b : Nat → Int) (i : Nat) : Nat := fdiv .f32 (itof .f32 (1 + pick16 n b i)) 1082130432
def kAbove : Kg
  | [.ro false n 1 g, .i .i64 m], [] => some (.one (.own 0 (fun _ => 0) (fun _ => (m .u).toNat) 1) [blkF true (fun _ => (m .u).toNat) (aboveX (n .u) (rdB g))] fun _ => IsB n g ∧ 0 ≤ m .u ∧ m .u ≤ 1048576)
  | _, _ => none
set_option maxHeartbeats 2000000 in
theorem above_g : Tells Try.prog 35 (.g 0 kAbove) := by
  intro args Hc r hr
  unfold kAbove at hr
  split at hr <;> cases hr
  rename_i n g m
  refine AnsOk.one ttok Try.func35 rfl rfl (Nat.zero_le _) .own .list fun ⟨hB, h0, h1⟩ => ⟨[listB n (rdB g), .i .i64 m], ⟨Sub.listB hB, Sub.refl _, trivial⟩, ?_⟩
  have hn := hB.1
  have hbb : ∀ k, k < n .u → 0 ≤ rdB g k ∧ rdB g k < 256 := fun k hk => by
    obtain ⟨x, hx, h2⟩ := hB.2 k hk
    simp only [rdB, hx, iOf]
    exact h2
  generalize rdB g = b at hbb
  clear hB
  refine AW.exec ttok (CTok.nil _) (by cbv) ?_
  simp only [natCast_int, Post, All, thenA, canon0, canon064, and_true, true_and, forall_const, implies_true, decide_eq_true_eq, decide_eq_false_iff_not, Bool.not_eq_true', Bool.not_eq_false', Bool.true_and, Bool.and_true, beq_true, beq_false, Int.toNat_natCast, Int.ofNat_lt, Int.ofNat_le, Nat.zero_add, Nat.add_zero, imp_self, Bool.cond_false_right, Bool.cond_true_left, Bool.cond_true_right, IsF, rdF_eq, fOf, AV.f.injEq, exists_eq', free_list, free_fn0, List.not_mem_nil, List.mem_cons, false_imp, forall_eq, or_false, free_i, free_f, free_b, ren_f, ren_i, ren_b, and_self, bne_iff_ne, bne_eq_false_iff_eq, ne_eq, Int.natCast_inj, or_true, true_or, freeB_list, unfr_f, unfr_i, unfr_b, unfr_c, unfr_s, free_c, free_s, ren_c, ren_s, unfr_ro, unfr_rptr, ren_ro, free_ll, free_box, kill_f, kill_i, kill_b, kill_c, kill_s, kill_rof, kill_rot, Int.toNat_zero, isFF_ll, rowN_ll, rowX_ll, AllFree, Option.some.injEq, Prod.mk.injEq, Bool.false_eq_true, Bool.true_eq_false]
  (repeat' first | with_reducible assumption | with_reducible apply And.intro | with_reducible intro hh) <;> first | ((first | with_reducible show (_ : Int) ≤ _ | with_reducible show (_ : Int) < _ | with_reducible show (_ : Nat) ≤ _ | with_reducible show (_ : Nat) < _ | with_reducible show (_ : Int) = _ | with_reducible show (_ : Nat) = _ | with_reducible show ¬ _ | with_reducible show _ ≠ _) <;> first | omega | (simp only [Bool.and_eq_true, Bool.or_eq_false_iff, Bool.not_eq_false', Bool.not_eq_true', decide_eq_true_eq, decide_eq_false_iff_not] at *; omega) | (with_reducible assumption)) | (with_reducible assumption) | skip
  refine AOps.callL rfl rfl rfl rfl (enters_of Try.func66 rfl rfl) (fun w ρ L vals hL hR hl hs => from_call (n := n) (b := b) w ρ L vals hL hR hl hs) ?_
  refine AOps.run ttok (by cbv) (by simp only [natCast_int, Post, All, thenA, canon0, canon064, and_true, true_and, forall_const, implies_true, decide_eq_true_eq, decide_eq_false_iff_not, Bool.not_eq_true', Bool.not_eq_false', Bool.true_and, Bool.and_true, beq_true, beq_false, Int.toNat_natCast, Int.ofNat_lt, Int.ofNat_le, Nat.zero_add, Nat.add_zero, imp_self, Bool.cond_false_right, Bool.cond_true_left, Bool.cond_true_right, IsF, rdF_eq, fOf, AV.f.injEq, exists_eq', free_list, free_fn0, List.not_mem_nil, List.mem_cons, false_imp, forall_eq, or_false, free_i, free_f, free_b, ren_f, ren_i, ren_b, and_self, bne_iff_ne, bne_eq_false_iff_eq, ne_eq, Int.natCast_inj, or_true, true_or, freeB_list, unfr_f, unfr_i, unfr_b, unfr_c, unfr_s, free_c, free_s, ren_c, ren_s, unfr_ro, unfr_rptr, ren_ro, free_ll, free_box, kill_f, kill_i, kill_b, kill_c, kill_s, kill_rof, kill_rot, Int.toNat_zero, isFF_ll, rowN_ll, rowX_ll, AllFree, Option.some.injEq, Prod.mk.injEq, Bool.false_eq_true, Bool.true_eq_false]) (AOps.done (Nat.le_refl _) ?_)
  refine Post.eval (by cbv) ?_
  simp only [natCast_int, Post, All, thenA, canon0, canon064, and_true, true_and, forall_const, implies_true, decide_eq_true_eq, decide_eq_false_iff_not, Bool.not_eq_true', Bool.not_eq_false', Bool.true_and, Bool.and_true, beq_true, beq_false, Int.toNat_natCast, Int.ofNat_lt, Int.ofNat_le, Nat.zero_add, Nat.add_zero, imp_self, Bool.cond_false_right, Bool.cond_true_left, Bool.cond_true_right, IsF, rdF_eq, fOf, AV.f.injEq, exists_eq', free_list, free_fn0, List.not_mem_nil, List.mem_cons, false_imp, forall_eq, or_false, free_i, free_f, free_b, ren_f, ren_i, ren_b, and_self, bne_iff_ne, bne_eq_false_iff_eq, ne_eq, Int.natCast_inj, or_true, true_or, freeB_list, unfr_f, unfr_i, unfr_b, unfr_c, unfr_s, free_c, free_s, ren_c, ren_s, unfr_ro, unfr_rptr, ren_ro, free_ll, free_box, kill_f, kill_i, kill_b, kill_c, kill_s, kill_rof, kill_rot, Int.toNat_zero, isFF_ll, rowN_ll, rowX_ll, AllFree, Option.some.injEq, Prod.mk.injEq, Bool.false_eq_true, Bool.true_eq_false]
  (repeat' first | with_reducible assumption | with_reducible apply And.intro | with_reducible intro hh) <;> first | ((first | with_reducible show (_ : Int) ≤ _ | with_reducible show (_ : Int) < _ | with_reducible show (_ : Nat) ≤ _ | with_reducible show (_ : Nat) < _ | with_reducible show (_ : Int) = _ | with_reducible show (_ : Nat) = _ | with_reducible show ¬ _ | with_reducible show _ ≠ _) <;> first | omega | (simp only [Bool.and_eq_true, Bool.or_eq_false_iff, Bool.not_eq_false', Bool.not_eq_true', decide_eq_true_eq, decide_eq_false_iff_not] at *; omega) | (with_reducible assumption)) | (with_reducible assumption) | skip
  refine AW.loopH (ι := Nat) (fun i => i ≤ (m .u).toNat) (fun i => (m .u).toNat - i) (fun i => mkE Try.f35.ntmps [(1, .i .i64 fun _ => m .u - (i : Int)), (5, .ptr 0 (fun _ => 0) 3 0), (6, .own 1 (fun _ => 0) (fun _ => i) 1)])
    (fun i => [srcE n b i (sdK (n .u) b i), blkF true (fun _ => i) (aboveX (n .u) b)]) 0 (Nat.zero_le _) ?_ ?_
  · refine To.pick [0, 1] (by decide) (Nat.zero_le _) (fun j hj => absurd hj (Nat.not_lt_zero _)) ⟨EntTo.boxL (fun e => e) (.cons (Free.same (.ro fun _ _ _ _ => .i)) (.cons (.i rfl) (.cons (.i rfl) .nil))), .list (fun e => e) (Nat.le_refl _) fun j hj => absurd hj (Nat.not_lt_zero _), trivial⟩ ?_
    (repeat' first | exact AllTo.nil | apply AllTo.cons) <;> first | exact AvTo.dead _ | exact AvTo.i (by first | omega | (simp only [natCast_int]; omega)) | exact AvTo.own rfl rfl rfl rfl | exact AvTo.ptr rfl rfl rfl | skip
  rintro Q' hQ i hi
  have hA : 0 ≤ pickN 16 (n .u) b i (sdK (n .u) b i) ∧ pickN 16 (n .u) b i (sdK (n .u) b i) < 16 := pick16_in hbb i
  refine AW.exec ttok (CTok.nil _) (by cbv) ?_
  simp only [natCast_int, Post, All, thenA, canon0, canon064, and_true, true_and, forall_const, implies_true, decide_eq_true_eq, decide_eq_false_iff_not, Bool.not_eq_true', Bool.not_eq_false', Bool.true_and, Bool.and_true, beq_true, beq_false, Int.toNat_natCast, Int.ofNat_lt, Int.ofNat_le, Nat.zero_add, Nat.add_zero, imp_self, Bool.cond_false_right, Bool.cond_true_left, Bool.cond_true_right, IsF, rdF_eq, fOf, AV.f.injEq, exists_eq', free_list, free_fn0, List.not_mem_nil, List.mem_cons, false_imp, forall_eq, or_false, free_i, free_f, free_b, ren_f, ren_i, ren_b, and_self, bne_iff_ne, bne_eq_false_iff_eq, ne_eq, Int.natCast_inj, or_true, true_or, freeB_list, unfr_f, unfr_i, unfr_b, unfr_c, unfr_s, free_c, free_s, ren_c, ren_s, unfr_ro, unfr_rptr, ren_ro, free_ll, free_box, kill_f, kill_i, kill_b, kill_c, kill_s, kill_rof, kill_rot, Int.toNat_zero, isFF_ll, rowN_ll, rowX_ll, AllFree, Option.some.injEq, Prod.mk.injEq, Bool.false_eq_true, Bool.true_eq_false]
  (repeat' first | with_reducible assumption | with_reducible apply And.intro | with_reducible intro hh) <;> first | ((first | with_reducible show (_ : Int) ≤ _ | with_reducible show (_ : Int) < _ | with_reducible show (_ : Nat) ≤ _ | with_reducible show (_ : Nat) < _ | with_reducible show (_ : Int) = _ | with_reducible show (_ : Nat) = _ | with_reducible show ¬ _ | with_reducible show _ ≠ _) <;> first | omega | (simp only [Bool.and_eq_true, Bool.or_eq_false_iff, Bool.not_eq_false', Bool.not_eq_true', decide_eq_true_eq, decide_eq_false_iff_not] at *; omega) | (with_reducible assumption)) | (with_reducible assumption) | skip
  · refine AOps.callL rfl rfl rfl rfl (enters_of Try.func67 rfl rfl) (fun w ρ L vals hL hR hl hs => pick_call (id := 0) (n := n) (b := b) (k := i) (s := sdK (n .u) b i) (m := 16) rfl (by decide) (by decide) (by omega) (by omega) hbb w ρ L vals hL hR hl hs) ?_
    refine AOps.run ttok (by cbv) (by simp only [natCast_int, Post, All, thenA, canon0, canon064, and_true, true_and, forall_const, implies_true, decide_eq_true_eq, decide_eq_false_iff_not, Bool.not_eq_true', Bool.not_eq_false', Bool.true_and, Bool.and_true, beq_true, beq_false, Int.toNat_natCast, Int.ofNat_lt, Int.ofNat_le, Nat.zero_add, Nat.add_zero, imp_self, Bool.cond_false_right, Bool.cond_true_left, Bool.cond_true_right, IsF, rdF_eq, fOf, AV.f.injEq, exists_eq', free_list, free_fn0, List.not_mem_nil, List.mem_cons, false_imp, forall_eq, or_false, free_i, free_f, free_b, ren_f, ren_i, ren_b, and_self, bne_iff_ne, bne_eq_false_iff_eq, ne_eq, Int.natCast_inj, or_true, true_or, freeB_list, unfr_f, unfr_i, unfr_b, unfr_c, unfr_s, free_c, free_s, ren_c, ren_s, unfr_ro, unfr_rptr, ren_ro, free_ll, free_box, kill_f, kill_i, kill_b, kill_c, kill_s, kill_rof, kill_rot, Int.toNat_zero, isFF_ll, rowN_ll, rowX_ll, AllFree, Option.some.injEq, Prod.mk.injEq, Bool.false_eq_true, Bool.true_eq_false]; omega) (AOps.done (Nat.le_refl _) ?_)
    refine Post.eval (by cbv) ?_
    simp only [natCast_int, Post, All, thenA, canon0, canon064, and_true, true_and, forall_const, implies_true, decide_eq_true_eq, decide_eq_false_iff_not, Bool.not_eq_true', Bool.not_eq_false', Bool.true_and, Bool.and_true, beq_true, beq_false, Int.toNat_natCast, Int.ofNat_lt, Int.ofNat_le, Nat.zero_add, Nat.add_zero, imp_self, Bool.cond_false_right, Bool.cond_true_left, Bool.cond_true_right, IsF, rdF_eq, fOf, AV.f.injEq, exists_eq', free_list, free_fn0, List.not_mem_nil, List.mem_cons, false_imp, forall_eq, or_false, free_i, free_f, free_b, ren_f, ren_i, ren_b, and_self, bne_iff_ne, bne_eq_false_iff_eq, ne_eq, Int.natCast_inj, or_true, true_or, freeB_list, unfr_f, unfr_i, unfr_b, unfr_c, unfr_s, free_c, free_s, ren_c, ren_s, unfr_ro, unfr_rptr, ren_ro, free_ll, free_box, kill_f, kill_i, kill_b, kill_c, kill_s, kill_rof, kill_rot, Int.toNat_zero, isFF_ll, rowN_ll, rowX_ll, AllFree, Option.some.injEq, Prod.mk.injEq, Bool.false_eq_true, Bool.true_eq_false, cn4p]
    (repeat' first | with_reducible assumption | with_reducible apply And.intro | with_reducible intro hh) <;> first | ((first | with_reducible show (_ : Int) ≤ _ | with_reducible show (_ : Int) < _ | with_reducible show (_ : Nat) ≤ _ | with_reducible show (_ : Nat) < _ | with_reducible show (_ : Int) = _ | with_reducible show (_ : Nat) = _ | with_reducible show ¬ _ | with_reducible show _ ≠ _) <;> first | omega | (simp only [Bool.and_eq_true, Bool.or_eq_false_iff, Bool.not_eq_false', Bool.not_eq_true', decide_eq_true_eq, decide_eq_false_iff_not] at *; omega) | (with_reducible assumption)) | (with_reducible assumption) | skip
    refine ⟨i + 1, by omega, by omega, To.pick [0, 3] (by decide) (Nat.zero_le _) (fun j hj => absurd hj (Nat.not_lt_zero _)) ⟨EntTo.boxL (fun e => e) (.cons (Free.same (.ro fun _ _ _ _ => .i)) (.cons (.i rfl) (.cons (.i rfl) .nil))), .list (fun e => e) (Nat.le_refl _) fun j hj => app_one hj (fun _ => AvTo.f rfl) fun e => AvTo.f (by subst e; rfl), trivial⟩ ?_⟩
    (repeat' first | exact AllTo.nil | apply AllTo.cons) <;> first | exact AvTo.dead _ | exact AvTo.i (by first | omega | (simp only [natCast_int]; omega)) | exact AvTo.own rfl rfl rfl rfl | exact AvTo.ptr rfl rfl rfl | skip
  · have e : i = (m .u).toNat := by omega
    obtain ⟨rfl⟩ := hQ
    refine Post.eval (by cbv) ?_
    simp only [natCast_int, Post, All, thenA, canon0, canon064, and_true, true_and, forall_const, implies_true, decide_eq_true_eq, decide_eq_false_iff_not, Bool.not_eq_true', Bool.not_eq_false', Bool.true_and, Bool.and_true, beq_true, beq_false, Int.toNat_natCast, Int.ofNat_lt, Int.ofNat_le, Nat.zero_add, Nat.add_zero, imp_self, Bool.cond_false_right, Bool.cond_true_left, Bool.cond_true_right, IsF, rdF_eq, fOf, AV.f.injEq, exists_eq', free_list, free_fn0, List.not_mem_nil, List.mem_cons, false_imp, forall_eq, or_false, free_i, free_f, free_b, ren_f, ren_i, ren_b, and_self, bne_iff_ne, bne_eq_false_iff_eq, ne_eq, Int.natCast_inj, or_true, true_or, freeB_list, unfr_f, unfr_i, unfr_b, unfr_c, unfr_s, free_c, free_s, ren_c, ren_s, unfr_ro, unfr_rptr, ren_ro, free_ll, free_box, kill_f, kill_i, kill_b, kill_c, kill_s, kill_rof, kill_rot, Int.toNat_zero, isFF_ll, rowN_ll, rowX_ll, AllFree, Option.some.injEq, Prod.mk.injEq, Bool.false_eq_true, Bool.true_eq_false]
    (repeat' first | with_reducible assumption | with_reducible apply And.intro | with_reducible intro hh) <;> first | ((first | with_reducible show (_ : Int) ≤ _ | with_reducible show (_ : Int) < _ | with_reducible show (_ : Nat) ≤ _ | with_reducible show (_ : Nat) < _ | with_reducible show (_ : Int) = _ | with_reducible show (_ : Nat) = _ | with_reducible show ¬ _ | with_reducible show _ ≠ _) <;> first | omega | (simp only [Bool.and_eq_true, Bool.or_eq_false_iff, Bool.not_eq_false', Bool.not_eq_true', decide_eq_true_eq, decide_eq_false_iff_not] at *; omega) | (with_reducible assumption)) | (with_reducible assumption) | skip
    rw [e]
    exact fin_ret (.inl rfl) (by cbv) (by simp) (To.pick [1] (by decide) (Nat.zero_le _) (fun j hj => absurd hj (Nat.not_lt_zero _)) ⟨.list (fun e => e) (Nat.le_refl _) fun j hj => AvTo.f rfl, trivial⟩ (.cons (.own rfl rfl rfl rfl) .nil))
/-! Lists of bins, kernels. -/
def binsN (l : Int) (n : Nat) (x : Nat → Nat) : Bool := decide (l ≤ (n : Int)) && (decide (n ≤ 64) && finN n x)
def kIsBins : Kr
  | [a, .i .i64 l] => match asL a with
    | some (n, g) => some (.b fun _ => binsN (l .u) (n .u) (rdF g), [], fun _ => IsF n g)
    | none => none
  | _ => none
theorem isBins_tells : Tells Try.prog 98 (.r kIsBins) := by
  intro args r H' p hr hp
  unfold kIsBins at hr
  split at hr <;> first | (cases hr; done) | skip
  split at hr <;> cases hr
  rename_i l _ n g hL
  refine ⟨.b, .nil, Con.pre (args' := [listF false n (rdF g), .i .i64 l]) ⟨.asL hL hp, Sub.refl _, trivial⟩ ?_⟩
  have hn := hp.1
  generalize rdF g = x
  refine Con.of ttok Try.func98 rfl rfl (Nat.le_refl _) (AW.exec ttok ctIsList_ok (by cbv) ?_)
  simp only [natCast_int, Post, All, thenA, canon0, canon064, and_true, true_and, forall_const, implies_true, decide_eq_true_eq, decide_eq_false_iff_not, Bool.not_eq_true', Bool.not_eq_false', Bool.true_and, Bool.and_true, beq_true, beq_false, Int.toNat_natCast, Int.ofNat_lt, Int.ofNat_le, Nat.zero_add, Nat.add_zero, imp_self, Bool.cond_false_right, Bool.cond_true_left, Bool.cond_true_right, IsF, rdF_eq, fOf, AV.f.injEq, exists_eq', free_list, free_fn0, List.not_mem_nil, List.mem_cons, false_imp, forall_eq, or_false, free_i, free_f, free_b, ren_f, ren_i, ren_b, and_self, bne_iff_ne, bne_eq_false_iff_eq, ne_eq, Int.natCast_inj, or_true, true_or, freeB_list, unfr_f, unfr_i, unfr_b, unfr_c, unfr_s, free_c, free_s, ren_c, ren_s, unfr_ro, unfr_rptr, ren_ro, free_ll, free_box, kill_f, kill_i, kill_b, kill_c, kill_s, kill_rof, kill_rot, Int.toNat_zero, isFF_ll, rowN_ll, rowX_ll, AllFree, Option.some.injEq, Prod.mk.injEq, Bool.false_eq_true, Bool.true_eq_false]
  refine ⟨fun h => ⟨h, hn⟩, fun _ => fin_ret (.inl rfl) (by cbv) (by simp) (To.fresh ⟨.b ?_, trivial⟩)⟩
  simp only [binsN, Bool.and_assoc]
  rw [show decide ((n U.u : Int) ≤ 64) = decide (n .u ≤ 64) from decide_eq_decide.2 (by omega)]
def kernN (n : Nat) (x : Nat → Nat) : Bool := (decide (n = 1) || (decide (n = 3) || decide (n = 5))) && (rotN n x && fgt .f32 (sumN x n) 0)
def kIsKern : Kr
  | [a] => match asL a with
    | some (n, g) => some (.b fun _ => kernN (n .u) (rdF g), [], fun _ => IsF n g)
    | none => none
  | _ => none
def ctIsKern : CT := [(74, .r kRotN), (87, .r kSum)]
theorem ctIsKern_ok : CTok Try.prog ctIsKern := .cons areRotor_tells (.cons sum_tells (.nil _))
theorem isKern_tells : Tells Try.prog 99 (.r kIsKern) := by
  intro args r H' p hr hp
  unfold kIsKern at hr
  split at hr <;> first | (cases hr; done) | skip
  split at hr <;> cases hr
  rename_i n g hL
  refine ⟨.b, .nil, Con.pre (args' := [listF false n (rdF g)]) ⟨.asL hL hp, trivial⟩ ?_⟩
  have hn := hp.1
  generalize rdF g = x
  refine Con.of ttok Try.func99 rfl rfl (Nat.le_refl _) (AW.exec ttok ctIsKern_ok (by cbv) ?_)
  simp only [natCast_int, Post, All, thenA, canon0, canon064, and_true, true_and, forall_const, implies_true, decide_eq_true_eq, decide_eq_false_iff_not, Bool.not_eq_true', Bool.not_eq_false', Bool.true_and, Bool.and_true, beq_true, beq_false, Int.toNat_natCast, Int.ofNat_lt, Int.ofNat_le, Nat.zero_add, Nat.add_zero, imp_self, Bool.cond_false_right, Bool.cond_true_left, Bool.cond_true_right, IsF, rdF_eq, fOf, AV.f.injEq, exists_eq', free_list, free_fn0, List.not_mem_nil, List.mem_cons, false_imp, forall_eq, or_false, free_i, free_f, free_b, ren_f, ren_i, ren_b, and_self, bne_iff_ne, bne_eq_false_iff_eq, ne_eq, Int.natCast_inj, or_true, true_or, freeB_list, unfr_f, unfr_i, unfr_b, unfr_c, unfr_s, free_c, free_s, ren_c, ren_s, unfr_ro, unfr_rptr, ren_ro, free_ll, free_box, kill_f, kill_i, kill_b, kill_c, kill_s, kill_rof, kill_rot, Int.toNat_zero, isFF_ll, rowN_ll, rowX_ll, AllFree, Option.some.injEq, Prod.mk.injEq, Bool.false_eq_true, Bool.true_eq_false, hn]
  (repeat' first | with_reducible assumption | with_reducible apply And.intro | with_reducible intro hh) <;> first | ((first | with_reducible show (_ : Int) ≤ _ | with_reducible show (_ : Int) < _ | with_reducible show (_ : Nat) ≤ _ | with_reducible show (_ : Nat) < _ | with_reducible show (_ : Int) = _ | with_reducible show (_ : Nat) = _ | with_reducible show ¬ _ | with_reducible show _ ≠ _) <;> first | omega | (simp only [Bool.and_eq_true, Bool.or_eq_false_iff, Bool.not_eq_false', Bool.not_eq_true', decide_eq_true_eq, decide_eq_false_iff_not] at *; omega) | (with_reducible assumption)) | (with_reducible assumption) | skip
  refine fin_ret (.inl rfl) (by cbv) (by simp) (To.fresh ⟨.b ?_, trivial⟩)
  unfold kernN
  have e1 : ((n .u : Int) == 1) = decide (n .u = 1) := by rw [Bool.eq_iff_iff]; simp; omega
  have e3 : ((n .u : Int) == 3) = decide (n .u = 3) := by rw [Bool.eq_iff_iff]; simp; omega
  have e5 : ((n .u : Int) == 5) = decide (n .u = 5) := by rw [Bool.eq_iff_iff]; simp; omega
  rw [e1, e3, e5]
  cases decide (n .u = 1) <;> cases decide (n .u = 3) <;> cases decide (n .u = 5) <;> cases rotN (n .u) x <;> rfl
/-! Noise. -/
def noiseX (n : Nat) (x : Nat → Nat) : Nat := fdiv .f32 (sumN x n) (rootF (sumN x n))
def kNoise : Kr
  | [a, .i .i64 s, .i .i64 t] => match asL a with
    | some (n, g) => some (.tup [.f .f32 fun _ => noiseX (n .u) (rdF g), .b fun _ => true], [], fun _ => IsF n g ∧ s .u = 0 ∧ t .u = (n .u : Int) ∧ 0 < n .u ∧ binsN 1 (n .u) (rdF g) = true ∧ rotN (n .u) (rdF g) = true ∧ fgt .f32 (sumN (rdF g) (n .u)) 0 = true ∧ isFin (noiseX (n .u) (rdF g)) = true)
    | none => none
  | _ => none
def ctNoise : CT := [(98, .r kIsBins), (74, .r kRotN), (87, .r kSum), (44, .r kRoot), (94, .r kNum)]
theorem ctNoise_ok : CTok Try.prog ctNoise := .cons isBins_tells (.cons areRotor_tells (.cons sum_tells (.cons RootNumber_tells (.cons checkedNum_tells (.nil _)))))
theorem noise_tells : Tells Try.prog 39 (.r kNoise) := by
  intro args r H' p hr hp
  unfold kNoise at hr
  split at hr <;> first | (cases hr; done) | skip
  split at hr <;> cases hr
  rename_i s t _ n g hL
  obtain ⟨hp, hs, ht, h0, h1, h2, h3, h4⟩ := hp
  refine ⟨allFr_tup2 .f .b, .nil, Con.pre (args' := [listF false n (rdF g), .i .i64 fun _ => 0, .i .i64 fun _ => (n .u : Int)]) ⟨.asL hL hp, Sub.iE hs, Sub.iE ht, trivial⟩ ?_⟩
  have hn := hp.1
  generalize rdF g = x at *
  refine Con.of ttok Try.func39 rfl rfl (Nat.le_refl _) (AW.exec ttok ctNoise_ok (by cbv) ?_)
  have h0' : ((n .u : Int) ≤ 0) ↔ False := iff_false_intro (by omega)
  have hq : ((n .u : Int) - 0).toNat = n .u := by omega
  simp only [natCast_int, Post, All, thenA, canon0, canon064, and_true, true_and, forall_const, implies_true, decide_eq_true_eq, decide_eq_false_iff_not, Bool.not_eq_true', Bool.not_eq_false', Bool.true_and, Bool.and_true, beq_true, beq_false, Int.toNat_natCast, Int.ofNat_lt, Int.ofNat_le, Nat.zero_add, Nat.add_zero, imp_self, Bool.cond_false_right, Bool.cond_true_left, Bool.cond_true_right, IsF, rdF_eq, fOf, AV.f.injEq, exists_eq', free_list, free_fn0, List.not_mem_nil, List.mem_cons, false_imp, forall_eq, or_false, free_i, free_f, free_b, ren_f, ren_i, ren_b, and_self, bne_iff_ne, bne_eq_false_iff_eq, ne_eq, Int.natCast_inj, or_true, true_or, freeB_list, unfr_f, unfr_i, unfr_b, unfr_c, unfr_s, free_c, free_s, ren_c, ren_s, unfr_ro, unfr_rptr, ren_ro, free_ll, free_box, kill_f, kill_i, kill_b, kill_c, kill_s, kill_rof, kill_rot, Int.toNat_zero, isFF_ll, rowN_ll, rowX_ll, AllFree, Option.some.injEq, Prod.mk.injEq, Bool.false_eq_true, Bool.true_eq_false, eqL_self, heldL_mark, heldL_zero, one_neg, Nat.zero_le, Nat.not_lt_zero, one_add_len, one_le_tb, zero_le_one', not_false_eq_true, true_imp_iff, bne_self_eq_false, Bool.or_false, Bool.false_or, Bool.not_true, Bool.not_false, Bool.true_eq_false, Bool.false_eq_true, false_imp, Nat.le_refl, decide_true, decide_false, not_true_eq_false, Int.lt_irrefl, hn, h1, h2, h3, h0', hq]
  (repeat' first | with_reducible assumption | with_reducible apply And.intro | with_reducible intro hh) <;> first | ((first | with_reducible show (_ : Int) ≤ _ | with_reducible show (_ : Int) < _ | with_reducible show (_ : Nat) ≤ _ | with_reducible show (_ : Nat) < _ | with_reducible show (_ : Int) = _ | with_reducible show (_ : Nat) = _ | with_reducible show ¬ _ | with_reducible show _ ≠ _) <;> first | omega | (simp only [Bool.and_eq_true, Bool.or_eq_false_iff, Bool.not_eq_false', Bool.not_eq_true', decide_eq_true_eq, decide_eq_false_iff_not] at *; omega) | (with_reducible assumption)) | (with_reducible assumption) | skip
  refine fin_ret (.inl rfl) (by cbv) (by simp) (To.fresh (.cons (.tup (.cons (.f ?_) (.cons (.b ?_) .nil))) .nil))
  · show (bif isFin (noiseX (n .u) x) then noiseX (n .u) x else 0) = _
    rw [h4]
    rfl
  · exact h4
end Go.Proofs.Ytfdmmbcjidkmoaa
