/- The laws' own copies and sizes of steps, pulses and desks. -/
import Derived.Test.YtjlkflceicdcdaaDoorHc
set_option linter.unusedSimpArgs false
set_option linter.unusedVariables false
namespace Go.Proofs.YtjlkflceicdcdaaDoor
open Go.Aw
theorem szL_lt {n : Nat} {l : Int} : szL n l < 0 ↔ l - (n : Int) < 0 := by
  unfold szL
  by_cases h : l - (n : Int) < 0
  · simp only [decide_eq_true h, cond_true]; exact ⟨fun _ => h, fun _ => by decide⟩
  · simp only [decide_eq_false h, cond_false]
theorem szL_val {n : Nat} {l : Int} (h : ¬ l - (n : Int) < 0) : szL n l = l - (n : Int) := by
  unfold szL
  simp only [decide_eq_false h, cond_false]
theorem szL_neg {n : Nat} {l : Int} (h : l - (n : Int) < 0) : szL n l = -1 := by
  unfold szL
  simp only [decide_eq_true h, cond_true]
theorem szL_add (n m : Nat) (l : Int) (hn : ¬ szL n l < 0) : szL m (szL n l) = szL (n + m) l := by
  have h1 : ¬ l - (n : Int) < 0 := fun h => hn (szL_lt.2 h)
  rw [szL_val h1]
  unfold szL
  rw [show l - (n : Int) - (m : Int) = l - ((n + m : Nat) : Int) by omega]
theorem szL_more (n m : Nat) (l : Int) (hn : szL n l < 0) : szL (n + m) l = -1 := by
  have := szL_lt.1 hn
  exact szL_neg (by omega)
theorem szL_top {n : Nat} {l : Int} (h : ¬ szL n l < 0) (hl : l ≤ 1048576) : 0 ≤ szL n l ∧ szL n l ≤ 1048576 := by
  have h1 : ¬ l - (n : Int) < 0 := fun h' => h (szL_lt.2 h')
  rw [szL_val h1]
  omega
def kSzSteps : Kr
  | [.agg [a, b], .i .i64 l] => match asL a, asL b with
    | some (n, g), some (m, h) => some (.i .i64 fun _ => szL (n .u + m .u) (l .u), [], fun _ => IsF n g ∧ IsF m h ∧ 0 ≤ l .u ∧ l .u ≤ 1048576)
    | _, _ => none
  | _ => none
def ctSzS : CT := [(47, .r kSz)]
theorem ctSzS_ok : CTok Tryd.prog ctSzS := .cons sz_tells (.nil _)
theorem szSteps_tells : Tells Tryd.prog 23 (.r kSzSteps) := by
  intro args r H' p hr hp
  unfold kSzSteps at hr
  split at hr <;> first | (cases hr; done) | skip
  split at hr <;> cases hr
  rename_i a b l _ _ n g m h hL hL'
  obtain ⟨p1, p2, hl0, hl1⟩ := hp
  refine ⟨.i, .nil, Con.pre (args' := [.agg [listF false n (rdF g), listF false m (rdF h)], .i .i64 l]) ⟨Sub.aggL ⟨.asL hL p1, .asL hL' p2, trivial⟩, Sub.refl _, trivial⟩ ?_⟩
  have hn := p1.1
  have hm := p2.1
  generalize rdF g = x
  generalize rdF h = y
  refine Con.of ttok Tryd.func23 rfl rfl (Nat.zero_le _) (AW.exec ttok ctSzS_ok (by cbv) ?_)
  simp only [natCast_int, Post, All, thenA, canon0, canon064, and_true, true_and, forall_const, implies_true, decide_eq_true_eq, decide_eq_false_iff_not, Bool.not_eq_true', Bool.not_eq_false', Bool.true_and, Bool.and_true, beq_true, beq_false, Int.toNat_natCast, Int.ofNat_lt, Int.ofNat_le, Nat.zero_add, Nat.add_zero, imp_self, Bool.cond_false_right, Bool.cond_true_left, Bool.cond_true_right, IsF, rdF_eq, fOf, AV.f.injEq, exists_eq', free_list, free_fn0, List.not_mem_nil, List.mem_cons, false_imp, forall_eq, or_false, free_i, free_f, free_b, ren_f, ren_i, ren_b, and_self, bne_iff_ne, bne_eq_false_iff_eq, ne_eq, Int.natCast_inj, or_true, true_or, freeB_list, unfr_f, unfr_i, unfr_b, unfr_c, unfr_s, free_c, free_s, ren_c, ren_s, unfr_ro, unfr_rptr, ren_ro, free_ll, free_box, kill_f, kill_i, kill_b, kill_c, kill_s, kill_rof, kill_rot, Int.toNat_zero, isFF_ll, rowN_ll, rowX_ll, AllFree, Option.some.injEq, Prod.mk.injEq, Bool.false_eq_true, Bool.true_eq_false, hn, hm, hl0, hl1]
  (repeat' first | with_reducible assumption | with_reducible apply And.intro | with_reducible intro hh) <;> first | ((first | with_reducible show (_ : Int) ≤ _ | with_reducible show (_ : Int) < _ | with_reducible show (_ : Nat) ≤ _ | with_reducible show (_ : Nat) < _ | with_reducible show (_ : Int) = _ | with_reducible show (_ : Nat) = _ | with_reducible show ¬ _ | with_reducible show _ ≠ _) <;> first | omega | (simp only [Bool.and_eq_true, Bool.or_eq_false_iff, Bool.not_eq_false', Bool.not_eq_true', decide_eq_true_eq, decide_eq_false_iff_not] at *; omega) | (with_reducible assumption)) | (with_reducible assumption) | skip
  · refine fin_ret (.inl rfl) (by cbv) (by simp) (To.fresh ⟨.i ?_, trivial⟩)
    exact (szL_more (n .u) (m .u) (l .u) (by assumption)).symm
  · exact (szL_top (by assumption) hl1).2
  · refine fin_ret (.inl rfl) (by cbv) (by simp) (To.fresh ⟨.i ?_, trivial⟩)
    have e := szL_add (n .u) (m .u) (l .u) (by assumption)
    have h2 := ‹szL (m .u) (szL (n .u) (l .u)) < 0›
    rw [e] at h2
    exact (szL_neg (szL_lt.1 h2)).symm
  · refine fin_ret (.inl rfl) (by cbv) (by simp) (To.fresh ⟨.i ?_, trivial⟩)
    exact szL_add (n .u) (m .u) (l .u) (by assumption)
def kToSteps : Kr
  | [.agg [a, b]] => match asL a, asL b with
    | some (n, g), some (m, h) => some (.agg [.own 0 (fun _ => 0) n 1, .own 1 (fun _ => 0) m 1], [blkF true n (rdF g), blkF true m (rdF h)], fun _ => (IsF n g ∧ n .u ≤ 1048576) ∧ IsF m h ∧ m .u ≤ 1048576)
    | _, _ => none
  | _ => none
def ctToS : CT := [(50, .r kTo)]
theorem ctToS_ok : CTok Tryd.prog ctToS := .cons to_tells (.nil _)
theorem toSteps_tells : Tells Tryd.prog 25 (.r kToSteps) := by
  intro args r H' p hr hp
  unfold kToSteps at hr
  split at hr <;> first | (cases hr; done) | skip
  split at hr <;> cases hr
  rename_i a b _ _ n g m h hL hL'
  obtain ⟨⟨p1, hn⟩, p2, hm⟩ := hp
  refine ⟨.agg (fun a ha => ?_), .cons (fun fr B e => by cases e; exact .tab fun _ _ _ _ => .f) .list, Con.pre (args' := [.agg [listF false n (rdF g), listF false m (rdF h)]]) ⟨Sub.aggL ⟨.asL hL p1, .asL hL' p2, trivial⟩, trivial⟩ ?_⟩
  · simp only [List.mem_cons, List.not_mem_nil, or_false] at ha
    rcases ha with rfl | rfl <;> exact .own
  generalize rdF g = x
  generalize rdF h = y
  refine Con.of ttok Tryd.func25 rfl rfl (Nat.zero_le _) (AW.exec ttok ctToS_ok (by cbv) ?_)
  simp only [natCast_int, Post, All, thenA, canon0, canon064, and_true, true_and, forall_const, implies_true, decide_eq_true_eq, decide_eq_false_iff_not, Bool.not_eq_true', Bool.not_eq_false', Bool.true_and, Bool.and_true, beq_true, beq_false, Int.toNat_natCast, Int.ofNat_lt, Int.ofNat_le, Nat.zero_add, Nat.add_zero, imp_self, Bool.cond_false_right, Bool.cond_true_left, Bool.cond_true_right, IsF, rdF_eq, fOf, AV.f.injEq, exists_eq', free_list, free_fn0, List.not_mem_nil, List.mem_cons, false_imp, forall_eq, or_false, free_i, free_f, free_b, ren_f, ren_i, ren_b, and_self, bne_iff_ne, bne_eq_false_iff_eq, ne_eq, Int.natCast_inj, or_true, true_or, freeB_list, unfr_f, unfr_i, unfr_b, unfr_c, unfr_s, free_c, free_s, ren_c, ren_s, unfr_ro, unfr_rptr, ren_ro, free_ll, free_box, kill_f, kill_i, kill_b, kill_c, kill_s, kill_rof, kill_rot, Int.toNat_zero, isFF_ll, rowN_ll, rowX_ll, AllFree, Option.some.injEq, Prod.mk.injEq, Bool.false_eq_true, Bool.true_eq_false, hn, hm]
  (repeat' first | with_reducible assumption | with_reducible apply And.intro | with_reducible intro hh) <;> first | ((first | with_reducible show (_ : Int) ≤ _ | with_reducible show (_ : Int) < _ | with_reducible show (_ : Nat) ≤ _ | with_reducible show (_ : Nat) < _ | with_reducible show (_ : Int) = _ | with_reducible show (_ : Nat) = _ | with_reducible show ¬ _ | with_reducible show _ ≠ _) <;> first | omega | (simp only [Bool.and_eq_true, Bool.or_eq_false_iff, Bool.not_eq_false', Bool.not_eq_true', decide_eq_true_eq, decide_eq_false_iff_not] at *; omega) | (with_reducible assumption)) | (with_reducible assumption) | skip
  refine fin_ret (.inl rfl) (by cbv) (by simp) (To.pick [3, 4] (by decide) (Nat.zero_le _) (fun j hj => absurd hj (Nat.not_lt_zero _)) ⟨.list (fun e => e) (Nat.le_refl _) fun j hj => AvTo.f rfl, .list (fun e => e) (Nat.le_refl _) fun j hj => AvTo.f rfl, trivial⟩ ?_)
  exact .cons (.agg (.cons (ownTo rfl rfl rfl rfl) (.cons (ownTo rfl rfl rfl rfl) .nil))) .nil
def kToPulse : Kr
  | [.agg [.f .f32 a, .f .f32 b, .f .f32 c, .f .f32 d]] => some (.agg [.f .f32 a, .f .f32 b, .f .f32 c, .f .f32 d], [], fun _ => True)
  | _ => none
theorem toPulse_tells : Tells Tryd.prog 21 (.r kToPulse) := by
  intro args r H' p hr hp
  unfold kToPulse at hr
  split at hr <;> cases hr
  rename_i a b c d
  refine ⟨.agg (fun a ha => ?_), .nil, Con.of ttok Tryd.func21 rfl rfl (Nat.zero_le _) (AW.exec ttok (CTok.nil _) (by cbv) ?_)⟩
  · simp only [List.mem_cons, List.not_mem_nil, or_false] at ha
    rcases ha with rfl | rfl | rfl | rfl <;> exact .f
  simp only [natCast_int, Post, All, thenA, canon0, canon064, and_true, true_and, forall_const, implies_true, decide_eq_true_eq, decide_eq_false_iff_not, Bool.not_eq_true', Bool.not_eq_false', Bool.true_and, Bool.and_true, beq_true, beq_false, Int.toNat_natCast, Int.ofNat_lt, Int.ofNat_le, Nat.zero_add, Nat.add_zero, imp_self, Bool.cond_false_right, Bool.cond_true_left, Bool.cond_true_right, IsF, rdF_eq, fOf, AV.f.injEq, exists_eq', free_list, free_fn0, List.not_mem_nil, List.mem_cons, false_imp, forall_eq, or_false, free_i, free_f, free_b, ren_f, ren_i, ren_b, and_self, bne_iff_ne, bne_eq_false_iff_eq, ne_eq, Int.natCast_inj, or_true, true_or, freeB_list, unfr_f, unfr_i, unfr_b, unfr_c, unfr_s, free_c, free_s, ren_c, ren_s, unfr_ro, unfr_rptr, ren_ro, free_ll, free_box, kill_f, kill_i, kill_b, kill_c, kill_s, kill_rof, kill_rot, Int.toNat_zero, isFF_ll, rowN_ll, rowX_ll, AllFree, Option.some.injEq, Prod.mk.injEq, Bool.false_eq_true, Bool.true_eq_false]
  (repeat' first | with_reducible assumption | with_reducible apply And.intro | with_reducible intro hh) <;> first | ((first | with_reducible show (_ : Int) ≤ _ | with_reducible show (_ : Int) < _ | with_reducible show (_ : Nat) ≤ _ | with_reducible show (_ : Nat) < _ | with_reducible show (_ : Int) = _ | with_reducible show (_ : Nat) = _ | with_reducible show ¬ _ | with_reducible show _ ≠ _) <;> first | omega | (simp only [Bool.and_eq_true, Bool.or_eq_false_iff, Bool.not_eq_false', Bool.not_eq_true', decide_eq_true_eq, decide_eq_false_iff_not] at *; omega) | (with_reducible assumption)) | (with_reducible assumption) | skip
  exact fin_ret (.inl rfl) (by cbv) (by simp) (To.fresh (.cons (.agg (.cons (.f rfl) (.cons (.f rfl) (.cons (.f rfl) (.cons (.f rfl) .nil))))) .nil))
def kSzDesk : Kr
  | [.agg [a, b, .f .f32 _, .f .f32 _, .f .f32 _, .f .f32 _, c], .i .i64 l] => match asL a, asL b, asL c with
    | some (n, g), some (m, h), some (k, f) => some (.i .i64 fun _ => szL (n .u + m .u + k .u) (l .u), [], fun _ => IsF n g ∧ IsF m h ∧ IsF k f ∧ 0 ≤ l .u ∧ l .u ≤ 1048576)
    | _, _, _ => none
  | _ => none
def ctSzD : CT := [(47, .r kSz), (23, .r kSzSteps)]
theorem ctSzD_ok : CTok Tryd.prog ctSzD := .cons sz_tells (.cons szSteps_tells (.nil _))
def kToDesk : Kr
  | [.agg [a, b, .f .f32 p, .f .f32 q, .f .f32 r, .f .f32 s, c]] => match asL a, asL b, asL c with
    | some (n, g), some (m, h), some (k, f) => some (.agg [.own 0 (fun _ => 0) n 1, .own 1 (fun _ => 0) m 1, .f .f32 p, .f .f32 q, .f .f32 r, .f .f32 s, .own 2 (fun _ => 0) k 1], [blkF true n (rdF g), blkF true m (rdF h), blkF true k (rdF f)], fun _ => (IsF n g ∧ n .u ≤ 1048576) ∧ (IsF m h ∧ m .u ≤ 1048576) ∧ IsF k f ∧ k .u ≤ 1048576)
    | _, _, _ => none
  | _ => none
def ctToD : CT := [(50, .r kTo), (25, .r kToSteps), (21, .r kToPulse)]
theorem ctToD_ok : CTok Tryd.prog ctToD := .cons to_tells (.cons toSteps_tells (.cons toPulse_tells (.nil _)))
end Go.Proofs.YtjlkflceicdcdaaDoor
