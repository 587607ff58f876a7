/- The laws' own helpers for lists of lists: sizes, copies, comparisons. -/
import Derived.Test.YtgbfngkmnodgdaaGd
set_option linter.unusedSimpArgs false
set_option linter.unusedVariables false
namespace Go.Proofs.Ytgbfngkmnodgdaa
open Go.Aw
def szL (n : Nat) (l : Int) : Int := bif decide (l - (n : Int) < 0) then -1 else l - (n : Int)
def kSz : Kr
  | [a, .i .i64 l] => match asL a with
    | some (n, g) => some (.i .i64 fun _ => szL (n .u) (l .u), [], fun _ => IsF n g ∧ 0 ≤ l .u ∧ l .u ≤ 1048576)
    | none => none
  | _ => none
theorem sz_tells : Tells Try.prog 35 (.r kSz) := by
  intro args r H' p hr hp
  unfold kSz at hr
  split at hr <;> first | (cases hr; done) | skip
  split at hr <;> cases hr
  rename_i l _ n g hL
  obtain ⟨hp, h0, h1⟩ := hp
  refine ⟨.i, .nil, Con.pre (args' := [listF false n (rdF g), .i .i64 l]) ⟨.asL hL hp, Sub.refl _, trivial⟩ ?_⟩
  have hn := hp.1
  generalize rdF g = x
  refine Con.of ttok Try.func35 rfl rfl (Nat.le_refl _) (AW.exec ttok (CTok.nil _) (by cbv) ?_)
  simp only [natCast_int, Post, All, thenA, canon0, canon064, and_true, true_and, forall_const, implies_true, decide_eq_true_eq, decide_eq_false_iff_not, Bool.not_eq_true', Bool.not_eq_false', Bool.true_and, Bool.and_true, beq_true, beq_false, Int.toNat_natCast, Int.ofNat_lt, Int.ofNat_le, Nat.zero_add, Nat.add_zero, imp_self, Bool.cond_false_right, Bool.cond_true_left, Bool.cond_true_right, IsF, rdF_eq, fOf, AV.f.injEq, exists_eq', free_list, free_fn0, List.not_mem_nil, List.mem_cons, false_imp, forall_eq, or_false, free_i, free_f, free_b, ren_f, ren_i, ren_b, and_self, bne_iff_ne, bne_eq_false_iff_eq, ne_eq, Int.natCast_inj, or_true, true_or, freeB_list, unfr_f, unfr_i, unfr_b, unfr_c, unfr_s, free_c, free_s, ren_c, ren_s, unfr_ro, unfr_rptr, ren_ro, free_ll, free_box, kill_f, kill_i, kill_b, kill_c, kill_s, kill_rof, kill_rot, Int.toNat_zero, isFF_ll, rowN_ll, rowX_ll, AllFree, Option.some.injEq, Prod.mk.injEq, Bool.false_eq_true, Bool.true_eq_false]
  (repeat' first | with_reducible assumption | with_reducible apply And.intro | with_reducible intro hh) <;> first | ((first | with_reducible show (_ : Int) ≤ _ | with_reducible show (_ : Int) < _ | with_reducible show (_ : Nat) ≤ _ | with_reducible show (_ : Nat) < _ | with_reducible show (_ : Int) = _ | with_reducible show (_ : Nat) = _ | with_reducible show ¬ _ | with_reducible show _ ≠ _) <;> first | omega | (simp only [Bool.and_eq_true, Bool.or_eq_false_iff, Bool.not_eq_false', Bool.not_eq_true', decide_eq_true_eq, decide_eq_false_iff_not] at *; omega) | (with_reducible assumption)) | (with_reducible assumption) | skip
  · exact fin_ret (.inl rfl) (by cbv) (by simp) (To.fresh (.cons (.i (by simp only [szL, decide_eq_true ‹l .u - (n .u : Int) < 0›, cond_true])) .nil))
  · exact fin_ret (.inl rfl) (by cbv) (by simp) (To.fresh (.cons (.i (by simp only [szL, decide_eq_false ‹¬ l .u - (n .u : Int) < 0›, cond_false])) .nil))
def sumM (m : Nat → Nat) : Nat → Nat
  | 0 => 0
  | k + 1 => sumM m k + m k
theorem sumM_le (m : Nat → Nat) : ∀ {k n : Nat}, k ≤ n → sumM m k ≤ sumM m n := by
  intro k n h
  induction n with
  | zero => have : k = 0 := by omega
            rw [this]; exact Nat.le_refl _
  | succ n ih =>
    rcases Nat.lt_or_eq_of_le h with h' | h'
    · exact Nat.le_trans (ih (by omega)) (Nat.le_add_right _ _)
    · rw [h']; exact Nat.le_refl _
theorem sumM_at (m : Nat → Nat) {k n : Nat} (h : k < n) : m k ≤ sumM m n := by
  have := sumM_le m (Nat.succ_le_of_lt h)
  have e : sumM m k.succ = sumM m k + m k := rfl
  omega
def szLL (n : Nat) (m : Nat → Nat) (l : Int) : Int := bif decide (l - (n : Int) - (sumM m n : Int) < 0) then -1 else l - (n : Int) - (sumM m n : Int)
def kSzS : Kr
  | [a, .i .i64 l] => match asLL a with
    | some (n, g) => some (.i .i64 fun _ => szLL (n .u) (rowN g) (l .u), [], fun _ => IsFF n g ∧ 0 ≤ l .u ∧ l .u ≤ 1048576)
    | none => none
  | _ => none
def ctSz : CT := [(35, .r kSz)]
theorem ctSz_ok : CTok Try.prog ctSz := .cons sz_tells (.nil _)
theorem szS_tells : Tells Try.prog 10 (.r kSzS) := by
  intro args r H' p hr hp
  unfold kSzS at hr
  split at hr <;> first | (cases hr; done) | skip
  split at hr <;> cases hr
  rename_i l _ n g hL
  obtain ⟨hp, h0, h1⟩ := hp
  refine ⟨.i, .nil, Con.pre (args' := [listFF false n (rowN g) (rowX g), .i .i64 l]) ⟨.asLL hL hp, Sub.refl _, trivial⟩ ?_⟩
  have hn := hp.1
  have hm := fun i => hp.row (i := i)
  generalize rowN g = m at hm
  generalize rowX g = x
  refine Con.of ttok Try.func10 rfl rfl (Nat.le_refl _) (AW.exec ttok ctSz_ok (by cbv) ?_)
  simp only [natCast_int, Post, All, thenA, canon0, canon064, and_true, true_and, forall_const, implies_true, decide_eq_true_eq, decide_eq_false_iff_not, Bool.not_eq_true', Bool.not_eq_false', Bool.true_and, Bool.and_true, beq_true, beq_false, Int.toNat_natCast, Int.ofNat_lt, Int.ofNat_le, Nat.zero_add, Nat.add_zero, imp_self, Bool.cond_false_right, Bool.cond_true_left, Bool.cond_true_right, IsF, rdF_eq, fOf, AV.f.injEq, exists_eq', free_list, free_fn0, List.not_mem_nil, List.mem_cons, false_imp, forall_eq, or_false, free_i, free_f, free_b, ren_f, ren_i, ren_b, and_self, bne_iff_ne, bne_eq_false_iff_eq, ne_eq, Int.natCast_inj, or_true, true_or, freeB_list, unfr_f, unfr_i, unfr_b, unfr_c, unfr_s, free_c, free_s, ren_c, ren_s, unfr_ro, unfr_rptr, ren_ro, free_ll, free_box, kill_f, kill_i, kill_b, kill_c, kill_s, kill_rof, kill_rot, Int.toNat_zero, isFF_ll, rowN_ll, rowX_ll, AllFree, Option.some.injEq, Prod.mk.injEq, Bool.false_eq_true, Bool.true_eq_false]
  (repeat' first | with_reducible assumption | with_reducible apply And.intro | with_reducible intro hh) <;> first | ((first | with_reducible show (_ : Int) ≤ _ | with_reducible show (_ : Int) < _ | with_reducible show (_ : Nat) ≤ _ | with_reducible show (_ : Nat) < _ | with_reducible show (_ : Int) = _ | with_reducible show (_ : Nat) = _ | with_reducible show ¬ _ | with_reducible show _ ≠ _) <;> first | omega | (simp only [Bool.and_eq_true, Bool.or_eq_false_iff, Bool.not_eq_false', Bool.not_eq_true', decide_eq_true_eq, decide_eq_false_iff_not] at *; omega) | (with_reducible assumption)) | (with_reducible assumption) | skip
  · refine fin_ret (.inl rfl) (by cbv) (by simp) (To.fresh (.cons (.i ?_) .nil))
    have : l .u - (n .u : Int) - (sumM m (n .u) : Int) < 0 := by omega
    simp only [szLL, decide_eq_true this, cond_true]
  refine AW.loopH (ι := Nat) (fun i => i ≤ n .u ∧ 0 ≤ l .u - (n .u : Int) - (sumM m i : Int)) (fun i => n .u - i) (fun i => mkE Try.f10.ntmps [(0, listFF false n m x), (1, .i .i64 fun _ => l .u - (n .u : Int) - (sumM m i : Int)), (5, .i .i64 fun _ => (i : Int))])
    (fun _ => []) 0 ⟨Nat.zero_le _, by simp only [sumM]; omega⟩ (To.same (Nat.le_refl _) trivial ?_) ?_
  · (repeat' first | exact AllTo.nil | apply AllTo.cons) <;> first | exact AvTo.dead _ | exact AvTo.i rfl | exact AvTo.i (by simp [sumM]) | exact Free.same (free_ll.2 trivial)
  · rintro Q' hQ i ⟨hi, hs⟩
    refine AW.exec ttok ctSz_ok (by cbv) ?_
    simp only [natCast_int, Post, All, thenA, canon0, canon064, and_true, true_and, forall_const, implies_true, decide_eq_true_eq, decide_eq_false_iff_not, Bool.not_eq_true', Bool.not_eq_false', Bool.true_and, Bool.and_true, beq_true, beq_false, Int.toNat_natCast, Int.ofNat_lt, Int.ofNat_le, Nat.zero_add, Nat.add_zero, imp_self, Bool.cond_false_right, Bool.cond_true_left, Bool.cond_true_right, IsF, rdF_eq, fOf, AV.f.injEq, exists_eq', free_list, free_fn0, List.not_mem_nil, List.mem_cons, false_imp, forall_eq, or_false, free_i, free_f, free_b, ren_f, ren_i, ren_b, and_self, bne_iff_ne, bne_eq_false_iff_eq, ne_eq, Int.natCast_inj, or_true, true_or, freeB_list, unfr_f, unfr_i, unfr_b, unfr_c, unfr_s, free_c, free_s, ren_c, ren_s, unfr_ro, unfr_rptr, ren_ro, free_ll, free_box, kill_f, kill_i, kill_b, kill_c, kill_s, kill_rof, kill_rot, Int.toNat_zero, isFF_ll, rowN_ll, rowX_ll, AllFree, Option.some.injEq, Prod.mk.injEq, Bool.false_eq_true, Bool.true_eq_false]
    have hrow := hm i
    have es : sumM m (i + 1) = sumM m i + m i := rfl
    (repeat' first | with_reducible assumption | with_reducible apply And.intro | with_reducible intro hh) <;> first | ((first | with_reducible show (_ : Int) ≤ _ | with_reducible show (_ : Int) < _ | with_reducible show (_ : Nat) ≤ _ | with_reducible show (_ : Nat) < _ | with_reducible show (_ : Int) = _ | with_reducible show (_ : Nat) = _ | with_reducible show ¬ _ | with_reducible show _ ≠ _) <;> first | omega | (simp only [Bool.and_eq_true, Bool.or_eq_false_iff, Bool.not_eq_false', Bool.not_eq_true', decide_eq_true_eq, decide_eq_false_iff_not] at *; omega) | (with_reducible assumption)) | (with_reducible assumption) | skip
    · obtain ⟨rfl⟩ := hQ
      have h2 := ‹szL _ _ < 0›
      have h3 : l .u - (n .u : Int) - (sumM m i : Int) - (m i : Int) < 0 := by
        simp only [szL] at h2
        by_cases h : l .u - (n .u : Int) - (sumM m i : Int) - (m i : Int) < 0
        · exact h
        · simp only [decide_eq_false h, cond_false] at h2; exact h2
      refine Post.leaf (by cbv) (fin_ret (.inl rfl) (by cbv) (by simp) (To.fresh (.cons (.i ?_) .nil)))
      have h4 := sumM_le m (show i + 1 ≤ n .u by omega)
      have : l .u - (n .u : Int) - (sumM m (n .u) : Int) < 0 := by omega
      simp only [szLL, decide_eq_true this, cond_true]
    · have h2 := ‹¬ szL _ _ < 0›
      have h3 : ¬ l .u - (n .u : Int) - (sumM m i : Int) - (m i : Int) < 0 := by
        intro h
        simp only [szL, decide_eq_true h, cond_true] at h2
        omega
      have h5 : szL (m i) (l .u - (n .u : Int) - (sumM m i : Int)) = l .u - (n .u : Int) - (sumM m i : Int) - (m i : Int) := by simp only [szL, decide_eq_false h3, cond_false]
      refine ⟨i + 1, ⟨by omega, by omega⟩, by omega, To.same (Nat.le_refl _) trivial ?_⟩
      (repeat' first | exact AllTo.nil | apply AllTo.cons) <;> first | exact AvTo.dead _ | exact AvTo.i rfl | exact AvTo.i (by simp only [h5, es]; omega) | exact Free.same (free_ll.2 trivial)
    · obtain ⟨rfl⟩ := hQ
      refine Post.eval (by cbv) ?_
      have e : i = n .u := by omega
      simp only [natCast_int, Post, All, thenA, canon0, canon064, and_true, true_and, forall_const, implies_true, decide_eq_true_eq, decide_eq_false_iff_not, Bool.not_eq_true', Bool.not_eq_false', Bool.true_and, Bool.and_true, beq_true, beq_false, Int.toNat_natCast, Int.ofNat_lt, Int.ofNat_le, Nat.zero_add, Nat.add_zero, imp_self, Bool.cond_false_right, Bool.cond_true_left, Bool.cond_true_right, IsF, rdF_eq, fOf, AV.f.injEq, exists_eq', free_list, free_fn0, List.not_mem_nil, List.mem_cons, false_imp, forall_eq, or_false, free_i, free_f, free_b, ren_f, ren_i, ren_b, and_self, bne_iff_ne, bne_eq_false_iff_eq, ne_eq, Int.natCast_inj, or_true, true_or, freeB_list, unfr_f, unfr_i, unfr_b, unfr_c, unfr_s, free_c, free_s, ren_c, ren_s, unfr_ro, unfr_rptr, ren_ro, free_ll, free_box, kill_f, kill_i, kill_b, kill_c, kill_s, kill_rof, kill_rot, Int.toNat_zero, isFF_ll, rowN_ll, rowX_ll, AllFree, Option.some.injEq, Prod.mk.injEq, Bool.false_eq_true, Bool.true_eq_false]
      refine fin_ret (.inl rfl) (by cbv) (by simp) (To.fresh (.cons (.i ?_) .nil))
      subst e
      simp only [szLL, decide_eq_false (show ¬ l .u - (n .u : Int) - (sumM m (n .u) : Int) < 0 by omega), cond_false]
theorem szLL_le {n : Nat} {m : Nat → Nat} {l : Int} (h : ¬ szLL n m l < 0) (hl : l ≤ 1048576) : n ≤ 1048576 ∧ ∀ i, i < n → m i ≤ 1048576 := by
  have h3 : ¬ l - (n : Int) - (sumM m n : Int) < 0 := by
    intro h'
    simp only [szLL, decide_eq_true h', cond_true] at h
    omega
  refine ⟨by omega, fun i hi => ?_⟩
  have := sumM_at m hi
  omega
/-! Copies. -/
def kToSS : Kr
  | [a] => match asLL a with
    | some (n, g) => some (listFF true n (rowN g) (rowX g), [], fun _ => IsFF n g ∧ n .u ≤ 1048576 ∧ ∀ i, i < n .u → rowN g i ≤ 1048576)
    | none => none
  | _ => none
theorem allFr_ll {n : Th Nat} {m : Nat → Nat} {x : Nat → Nat → Nat} : AllFr (listFF true n m x) := .ro fun _ _ _ _ => .ro fun _ _ _ _ => .f
def ctToSS : CT := [(12, .r kTo)]
theorem ctToSS_ok : CTok Try.prog ctToSS := .cons to_tells (.nil _)
abbrev blkRows (n : Th Nat) (m : Nat → Nat) (x : Nat → Nat → Nat) (i : Nat) : Option (Bool × Blk) := some (true, .tab n 1 fun j _ => .ro true (fun _ => bif decide (j .u < i) then m (j .u) else 0) 1 fun k _ => .f .f32 fun _ => x (j .u) (k .u))
theorem toSS_tells : Tells Try.prog 13 (.r kToSS) := by
  intro args r H' p hr hp
  unfold kToSS at hr
  split at hr <;> first | (cases hr; done) | skip
  split at hr <;> cases hr
  rename_i n g hL
  obtain ⟨hp, hn, hmm⟩ := hp
  refine ⟨allFr_ll, .nil, Con.pre (args' := [listFF false n (rowN g) (rowX g)]) ⟨.asLL hL hp, trivial⟩ ?_⟩
  generalize rowN g = m at hmm
  generalize rowX g = x
  refine Con.of ttok Try.func13 rfl rfl (Nat.zero_le _) (AW.exec ttok ctToSS_ok (by cbv) ?_)
  simp only [natCast_int, Post, All, thenA, canon0, canon064, and_true, true_and, forall_const, implies_true, decide_eq_true_eq, decide_eq_false_iff_not, Bool.not_eq_true', Bool.not_eq_false', Bool.true_and, Bool.and_true, beq_true, beq_false, Int.toNat_natCast, Int.ofNat_lt, Int.ofNat_le, Nat.zero_add, Nat.add_zero, imp_self, Bool.cond_false_right, Bool.cond_true_left, Bool.cond_true_right, IsF, rdF_eq, fOf, AV.f.injEq, exists_eq', free_list, free_fn0, List.not_mem_nil, List.mem_cons, false_imp, forall_eq, or_false, free_i, free_f, free_b, ren_f, ren_i, ren_b, and_self, bne_iff_ne, bne_eq_false_iff_eq, ne_eq, Int.natCast_inj, or_true, true_or, freeB_list, unfr_f, unfr_i, unfr_b, unfr_c, unfr_s, free_c, free_s, ren_c, ren_s, unfr_ro, unfr_rptr, ren_ro, free_ll, free_box, kill_f, kill_i, kill_b, kill_c, kill_s, kill_rof, kill_rot, Int.toNat_zero, isFF_ll, rowN_ll, rowX_ll, AllFree, Option.some.injEq, Prod.mk.injEq, Bool.false_eq_true, Bool.true_eq_false]
  (repeat' first | with_reducible assumption | with_reducible apply And.intro | with_reducible intro hh) <;> first | ((first | with_reducible show (_ : Int) ≤ _ | with_reducible show (_ : Int) < _ | with_reducible show (_ : Nat) ≤ _ | with_reducible show (_ : Nat) < _ | with_reducible show (_ : Int) = _ | with_reducible show (_ : Nat) = _ | with_reducible show ¬ _ | with_reducible show _ ≠ _) <;> first | omega | (simp only [Bool.and_eq_true, Bool.or_eq_false_iff, Bool.not_eq_false', Bool.not_eq_true', decide_eq_true_eq, decide_eq_false_iff_not] at *; omega) | (with_reducible assumption)) | (with_reducible assumption) | skip
  refine AW.loopH (ι := Nat) (fun i => i ≤ n .u) (fun i => n .u - i) (fun i => mkE Try.f13.ntmps [(0, listFF false n m x), (3, .own 0 (fun _ => 0) n 1), (4, .i .i64 fun _ => (i : Int))])
    (fun i => [blkRows n m x i]) 0 (Nat.zero_le _) (To.list (Nat.zero_le _) (Nat.le_refl _) (fun e => e) (fun j hj => ?_) ?_) ?_
  · exact AvTo.nilRo (by simp)
  · (repeat' first | exact AllTo.nil | apply AllTo.cons) <;> first | exact AvTo.dead _ | exact AvTo.i rfl | exact AvTo.own rfl rfl rfl rfl | exact Free.same (free_ll.2 trivial)
  · rintro Q' hQ i hi
    refine AW.exec ttok ctToSS_ok (by cbv) ?_
    simp only [natCast_int, Post, All, thenA, canon0, canon064, and_true, true_and, forall_const, implies_true, decide_eq_true_eq, decide_eq_false_iff_not, Bool.not_eq_true', Bool.not_eq_false', Bool.true_and, Bool.and_true, beq_true, beq_false, Int.toNat_natCast, Int.ofNat_lt, Int.ofNat_le, Nat.zero_add, Nat.add_zero, imp_self, Bool.cond_false_right, Bool.cond_true_left, Bool.cond_true_right, IsF, rdF_eq, fOf, AV.f.injEq, exists_eq', free_list, free_fn0, List.not_mem_nil, List.mem_cons, false_imp, forall_eq, or_false, free_i, free_f, free_b, ren_f, ren_i, ren_b, and_self, bne_iff_ne, bne_eq_false_iff_eq, ne_eq, Int.natCast_inj, or_true, true_or, freeB_list, unfr_f, unfr_i, unfr_b, unfr_c, unfr_s, free_c, free_s, ren_c, ren_s, unfr_ro, unfr_rptr, ren_ro, free_ll, free_box, kill_f, kill_i, kill_b, kill_c, kill_s, kill_rof, kill_rot, Int.toNat_zero, isFF_ll, rowN_ll, rowX_ll, AllFree, Option.some.injEq, Prod.mk.injEq, Bool.false_eq_true, Bool.true_eq_false]
    have hrow := hmm i
    (repeat' first | with_reducible assumption | with_reducible apply And.intro | with_reducible intro hh) <;> first | ((first | with_reducible show (_ : Int) ≤ _ | with_reducible show (_ : Int) < _ | with_reducible show (_ : Nat) ≤ _ | with_reducible show (_ : Nat) < _ | with_reducible show (_ : Int) = _ | with_reducible show (_ : Nat) = _ | with_reducible show ¬ _ | with_reducible show _ ≠ _) <;> first | omega | (simp only [Bool.and_eq_true, Bool.or_eq_false_iff, Bool.not_eq_false', Bool.not_eq_true', decide_eq_true_eq, decide_eq_false_iff_not] at *; omega) | (with_reducible assumption)) | (with_reducible assumption) | skip
    · refine ⟨i + 1, by omega, by omega, To.moved (k := 0) rfl (Nat.le_refl _) (fun e => e) (fun j hj => put_one (fun e => ?_) fun e => ?_) ?_⟩
      · subst e
        refine AvTo.view (id := 1) (fr := true) rfl (by simp) (fun j' hj' => ?_) (by simp) .new fun k c hk hc => ?_
        · match j' with
          | 0 => simp
          | j' + 1 => simp
        · exact AvTo.f (by simp)
      · have e' : j ≠ i := e
        exact AvTo.ro (show (bif decide (j < i) then m j else 0) = (bif decide (j < i + 1) then m j else 0) by rw [show decide (j < i + 1) = decide (j < i) from decide_eq_decide.2 (by omega)]) .same fun k c hk hc => AvTo.f rfl
      · (repeat' first | exact AllTo.nil | apply AllTo.cons) <;> first | exact AvTo.dead _ | exact AvTo.i rfl | exact AvTo.own rfl rfl rfl rfl | exact Free.same (free_ll.2 trivial)
    · obtain ⟨rfl⟩ := hQ
      refine Post.eval (by cbv) ?_
      have e : i = n .u := by omega
      simp only [natCast_int, Post, All, thenA, canon0, canon064, and_true, true_and, forall_const, implies_true, decide_eq_true_eq, decide_eq_false_iff_not, Bool.not_eq_true', Bool.not_eq_false', Bool.true_and, Bool.and_true, beq_true, beq_false, Int.toNat_natCast, Int.ofNat_lt, Int.ofNat_le, Nat.zero_add, Nat.add_zero, imp_self, Bool.cond_false_right, Bool.cond_true_left, Bool.cond_true_right, IsF, rdF_eq, fOf, AV.f.injEq, exists_eq', free_list, free_fn0, List.not_mem_nil, List.mem_cons, false_imp, forall_eq, or_false, free_i, free_f, free_b, ren_f, ren_i, ren_b, and_self, bne_iff_ne, bne_eq_false_iff_eq, ne_eq, Int.natCast_inj, or_true, true_or, freeB_list, unfr_f, unfr_i, unfr_b, unfr_c, unfr_s, free_c, free_s, ren_c, ren_s, unfr_ro, unfr_rptr, ren_ro, free_ll, free_box, kill_f, kill_i, kill_b, kill_c, kill_s, kill_rof, kill_rot, Int.toNat_zero, isFF_ll, rowN_ll, rowX_ll, AllFree, Option.some.injEq, Prod.mk.injEq, Bool.false_eq_true, Bool.true_eq_false]
      refine fin_ret (.inl rfl) (by cbv) (by simp) (To.fresh (.cons (AvTo.view (id := 0) (fr := true) rfl (by simp) (left_nil _ _) rfl .new fun k c hk hc => ?_) .nil))
      refine AvTo.ro ?_ .same fun k' c' hk' hc' => AvTo.f (by simp)
      subst e
      simp only [Nat.zero_add, hk, decide_true, cond_true]
/-! Comparisons. -/
def eqLL (n : Nat) (m : Nat → Nat) (x : Nat → Nat → Nat) (n' : Nat) (m' : Nat → Nat) (x' : Nat → Nat → Nat) : Bool := decide (n = n') && allN (fun i => eqL (m i) (x i) (m' i) (x' i)) n
theorem eqLL_self (n : Nat) (m : Nat → Nat) (x : Nat → Nat → Nat) : eqLL n m x n m x = true := by
  simp only [eqLL, decide_true, Bool.true_and]
  exact allN_true fun j _ => eqL_self _ _
def kEqSS : Kr
  | [a, b] => match asLL a, asLL b with
    | some (n, g), some (n', h) => some (.b fun _ => eqLL (n .u) (rowN g) (rowX g) (n' .u) (rowN h) (rowX h), [], fun _ => IsFF n g ∧ IsFF n' h)
    | _, _ => none
  | _ => none
def ctEqSS : CT := [(16, .r kEq)]
theorem ctEqSS_ok : CTok Try.prog ctEqSS := .cons eq_tells (.nil _)
theorem eqSS_tells : Tells Try.prog 17 (.r kEqSS) := by
  intro args r H' p hr hp
  unfold kEqSS at hr
  split at hr <;> first | (cases hr; done) | skip
  split at hr <;> cases hr
  rename_i n g n' h hL hL'
  obtain ⟨hp, hp'⟩ := hp
  refine ⟨.b, .nil, Con.pre (args' := [listFF false n (rowN g) (rowX g), listFF false n' (rowN h) (rowX h)]) ⟨.asLL hL hp, .asLL hL' hp', trivial⟩ ?_⟩
  have hn := hp.1
  have hm := fun i => hp.row (i := i)
  have hm' := fun i => hp'.row (i := i)
  generalize rowN g = m at hm
  generalize rowX g = x
  generalize rowN h = m' at hm'
  generalize rowX h = x'
  refine Con.of ttok Try.func17 rfl rfl (Nat.zero_le _) (AW.exec ttok ctEqSS_ok (by cbv) ?_)
  simp only [natCast_int, Post, All, thenA, canon0, canon064, and_true, true_and, forall_const, implies_true, decide_eq_true_eq, decide_eq_false_iff_not, Bool.not_eq_true', Bool.not_eq_false', Bool.true_and, Bool.and_true, beq_true, beq_false, Int.toNat_natCast, Int.ofNat_lt, Int.ofNat_le, Nat.zero_add, Nat.add_zero, imp_self, Bool.cond_false_right, Bool.cond_true_left, Bool.cond_true_right, IsF, rdF_eq, fOf, AV.f.injEq, exists_eq', free_list, free_fn0, List.not_mem_nil, List.mem_cons, false_imp, forall_eq, or_false, free_i, free_f, free_b, ren_f, ren_i, ren_b, and_self, bne_iff_ne, bne_eq_false_iff_eq, ne_eq, Int.natCast_inj, or_true, true_or, freeB_list, unfr_f, unfr_i, unfr_b, unfr_c, unfr_s, free_c, free_s, ren_c, ren_s, unfr_ro, unfr_rptr, ren_ro, free_ll, free_box, kill_f, kill_i, kill_b, kill_c, kill_s, kill_rof, kill_rot, Int.toNat_zero, isFF_ll, rowN_ll, rowX_ll, AllFree, Option.some.injEq, Prod.mk.injEq, Bool.false_eq_true, Bool.true_eq_false]
  (repeat' first | with_reducible assumption | with_reducible apply And.intro | with_reducible intro hh) <;> first | ((first | with_reducible show (_ : Int) ≤ _ | with_reducible show (_ : Int) < _ | with_reducible show (_ : Nat) ≤ _ | with_reducible show (_ : Nat) < _ | with_reducible show (_ : Int) = _ | with_reducible show (_ : Nat) = _ | with_reducible show ¬ _ | with_reducible show _ ≠ _) <;> first | omega | (simp only [Bool.and_eq_true, Bool.or_eq_false_iff, Bool.not_eq_false', Bool.not_eq_true', decide_eq_true_eq, decide_eq_false_iff_not] at *; omega) | (with_reducible assumption)) | (with_reducible assumption) | skip
  · refine fin_ret (.inl rfl) (by cbv) (by simp) (To.fresh (.cons (.b ?_) .nil))
    simp only [eqLL, decide_eq_false ‹¬ n .u = n' .u›, Bool.false_and]
  have hnm : n .u = n' .u := by assumption
  refine AW.loopH (ι := Nat) (fun i => i ≤ n .u ∧ ∀ j, j < i → eqL (m j) (x j) (m' j) (x' j) = true) (fun i => n .u - i) (fun i => mkE Try.f17.ntmps [(0, listFF false n m x), (1, listFF false n' m' x'), (5, .i .i64 fun _ => (i : Int))])
    (fun _ => []) 0 ⟨Nat.zero_le _, fun j hj => absurd hj (Nat.not_lt_zero _)⟩ (To.same (Nat.le_refl _) trivial ?_) ?_
  · (repeat' first | exact AllTo.nil | apply AllTo.cons) <;> first | exact AvTo.dead _ | exact AvTo.i rfl | exact Free.same (free_ll.2 trivial)
  · rintro Q' hQ i ⟨hi, hx⟩
    have h1 := hm i
    have h2 := hm' i
    refine AW.exec ttok ctEqSS_ok (by cbv) ?_
    simp only [natCast_int, Post, All, thenA, canon0, canon064, and_true, true_and, forall_const, implies_true, decide_eq_true_eq, decide_eq_false_iff_not, Bool.not_eq_true', Bool.not_eq_false', Bool.true_and, Bool.and_true, beq_true, beq_false, Int.toNat_natCast, Int.ofNat_lt, Int.ofNat_le, Nat.zero_add, Nat.add_zero, imp_self, Bool.cond_false_right, Bool.cond_true_left, Bool.cond_true_right, IsF, rdF_eq, fOf, AV.f.injEq, exists_eq', free_list, free_fn0, List.not_mem_nil, List.mem_cons, false_imp, forall_eq, or_false, free_i, free_f, free_b, ren_f, ren_i, ren_b, and_self, bne_iff_ne, bne_eq_false_iff_eq, ne_eq, Int.natCast_inj, or_true, true_or, freeB_list, unfr_f, unfr_i, unfr_b, unfr_c, unfr_s, free_c, free_s, ren_c, ren_s, unfr_ro, unfr_rptr, ren_ro, free_ll, free_box, kill_f, kill_i, kill_b, kill_c, kill_s, kill_rof, kill_rot, Int.toNat_zero, isFF_ll, rowN_ll, rowX_ll, AllFree, Option.some.injEq, Prod.mk.injEq, Bool.false_eq_true, Bool.true_eq_false]
    (repeat' first | with_reducible assumption | with_reducible apply And.intro | with_reducible intro hh) <;> first | ((first | with_reducible show (_ : Int) ≤ _ | with_reducible show (_ : Int) < _ | with_reducible show (_ : Nat) ≤ _ | with_reducible show (_ : Nat) < _ | with_reducible show (_ : Int) = _ | with_reducible show (_ : Nat) = _ | with_reducible show ¬ _ | with_reducible show _ ≠ _) <;> first | omega | (simp only [Bool.and_eq_true, Bool.or_eq_false_iff, Bool.not_eq_false', Bool.not_eq_true', decide_eq_true_eq, decide_eq_false_iff_not] at *; omega) | (with_reducible assumption)) | (with_reducible assumption) | skip
    · obtain ⟨rfl⟩ := hQ
      refine Post.leaf (by cbv) (fin_ret (.inl rfl) (by cbv) (by simp) (To.fresh ⟨.b ?_, trivial⟩))
      simp only [eqLL]
      rw [allN_false ‹i < n .u› (q := fun i => eqL (m i) (x i) (m' i) (x' i)) (by assumption), Bool.and_false]
    · refine ⟨i + 1, ⟨by omega, lt_succ_all hx (by assumption)⟩, by omega, To.same (Nat.le_refl _) trivial ?_⟩
      (repeat' first | exact AllTo.nil | apply AllTo.cons) <;> first | exact AvTo.dead _ | exact AvTo.i rfl | exact AvTo.i (by simp only [natCast_int]; omega) | exact Free.same (free_ll.2 trivial)
    · obtain ⟨rfl⟩ := hQ
      refine Post.eval (by cbv) ?_
      simp only [natCast_int, Post, All, thenA, canon0, canon064, and_true, true_and, forall_const, implies_true, decide_eq_true_eq, decide_eq_false_iff_not, Bool.not_eq_true', Bool.not_eq_false', Bool.true_and, Bool.and_true, beq_true, beq_false, Int.toNat_natCast, Int.ofNat_lt, Int.ofNat_le, Nat.zero_add, Nat.add_zero, imp_self, Bool.cond_false_right, Bool.cond_true_left, Bool.cond_true_right, IsF, rdF_eq, fOf, AV.f.injEq, exists_eq', free_list, free_fn0, List.not_mem_nil, List.mem_cons, false_imp, forall_eq, or_false, free_i, free_f, free_b, ren_f, ren_i, ren_b, and_self, bne_iff_ne, bne_eq_false_iff_eq, ne_eq, Int.natCast_inj, or_true, true_or, freeB_list, unfr_f, unfr_i, unfr_b, unfr_c, unfr_s, free_c, free_s, ren_c, ren_s, unfr_ro, unfr_rptr, ren_ro, free_ll, free_box, kill_f, kill_i, kill_b, kill_c, kill_s, kill_rof, kill_rot, Int.toNat_zero, isFF_ll, rowN_ll, rowX_ll, AllFree, Option.some.injEq, Prod.mk.injEq, Bool.false_eq_true, Bool.true_eq_false]
      have e : i = n .u := by omega
      refine fin_ret (.inl rfl) (by cbv) (by simp) (To.fresh ⟨.b ?_, trivial⟩)
      simp only [eqLL, hnm, decide_true, Bool.true_and]
      exact (allN_true (hnm ▸ e ▸ hx)).symm
end Go.Proofs.Ytgbfngkmnodgdaa
