/- The laws' own helpers for steps, pulses and desks: comparisons, marks, readings of marks. -/
import Derived.Test.YtkglnfkbejoheaaDoorHb
set_option linter.unusedSimpArgs false
set_option linter.unusedVariables false
namespace Go.Proofs.YtkglnfkbejoheaaDoor
open Go.Aw
theorem Sub.aggL {l l' : List AV} (h : AllSub l l') : Sub (.agg l) (.agg l') := by
  intro w ρ N L v hs
  cases hs with
  | agg h1 h2 =>
    refine .agg (h.len.symm.trans h1) fun j a u ha hu => ?_
    obtain ⟨b, hb, hsub⟩ := h.get j a ha
    exact hsub _ _ _ _ _ (h2 j b u hb hu)
def kEqSteps : Kr
  | [.agg [a, b], .agg [c, d]] => match asL a, asL b, asL c, asL d with
    | some (n, g), some (m, h), some (n', g'), some (m', h') => some (.b fun _ => eqL (n .u) (rdF g) (n' .u) (rdF g') && eqL (m .u) (rdF h) (m' .u) (rdF h'), [], fun _ => IsF n g ∧ IsF m h ∧ IsF n' g' ∧ IsF m' h')
    | _, _, _, _ => none
  | _ => none
def ctEqSteps : CT := [(30, .r kEq)]
theorem ctEqSteps_ok : CTok Tryd.prog ctEqSteps := .cons eq_tells (.nil _)
theorem eqSteps_tells : Tells Tryd.prog 11 (.r kEqSteps) := by
  intro args r H' p hr hp
  unfold kEqSteps at hr
  split at hr <;> first | (cases hr; done) | skip
  split at hr <;> cases hr
  rename_i a b c d n g m h n' g' m' h' h1 h2 h3 h4
  obtain ⟨p1, p2, p3, p4⟩ := hp
  refine ⟨.b, .nil, Con.pre (args' := [.agg [listF false n (rdF g), listF false m (rdF h)], .agg [listF false n' (rdF g'), listF false m' (rdF h')]]) ⟨Sub.aggL ⟨.asL h1 p1, .asL h2 p2, trivial⟩, Sub.aggL ⟨.asL h3 p3, .asL h4 p4, trivial⟩, trivial⟩ ?_⟩
  have q1 := p1.1
  have q2 := p2.1
  have q3 := p3.1
  have q4 := p4.1
  generalize rdF g = x
  generalize rdF h = y
  generalize rdF g' = x'
  generalize rdF h' = y'
  refine Con.of ttok Tryd.func11 rfl rfl (Nat.zero_le _) (AW.exec ttok ctEqSteps_ok (by cbv) ?_)
  simp only [natCast_int, Post, All, thenA, canon0, canon064, and_true, true_and, forall_const, implies_true, decide_eq_true_eq, decide_eq_false_iff_not, Bool.not_eq_true', Bool.not_eq_false', Bool.true_and, Bool.and_true, beq_true, beq_false, Int.toNat_natCast, Int.ofNat_lt, Int.ofNat_le, Nat.zero_add, Nat.add_zero, imp_self, Bool.cond_false_right, Bool.cond_true_left, Bool.cond_true_right, IsF, rdF_eq, fOf, AV.f.injEq, exists_eq', free_list, free_fn0, List.not_mem_nil, List.mem_cons, false_imp, forall_eq, or_false, free_i, free_f, free_b, ren_f, ren_i, ren_b, and_self, bne_iff_ne, bne_eq_false_iff_eq, ne_eq, Int.natCast_inj, or_true, true_or, freeB_list, unfr_f, unfr_i, unfr_b, unfr_c, unfr_s, free_c, free_s, ren_c, ren_s, unfr_ro, unfr_rptr, ren_ro, free_ll, free_box, kill_f, kill_i, kill_b, kill_c, kill_s, kill_rof, kill_rot, Int.toNat_zero, isFF_ll, rowN_ll, rowX_ll, AllFree, Option.some.injEq, Prod.mk.injEq, Bool.false_eq_true, Bool.true_eq_false]
  (repeat' first | with_reducible assumption | with_reducible apply And.intro | with_reducible intro hh) <;> first | ((first | with_reducible show (_ : Int) ≤ _ | with_reducible show (_ : Int) < _ | with_reducible show (_ : Nat) ≤ _ | with_reducible show (_ : Nat) < _ | with_reducible show (_ : Int) = _ | with_reducible show (_ : Nat) = _ | with_reducible show ¬ _ | with_reducible show _ ≠ _) <;> first | omega | (simp only [Bool.and_eq_true, Bool.or_eq_false_iff, Bool.not_eq_false', Bool.not_eq_true', decide_eq_true_eq, decide_eq_false_iff_not] at *; omega) | (with_reducible assumption)) | (with_reducible assumption) | skip
  · refine fin_ret (.inl rfl) (by cbv) (by simp) (To.fresh ⟨.b ?_, trivial⟩)
    simp_all
  · refine fin_ret (.inl rfl) (by cbv) (by simp) (To.fresh ⟨.b ?_, trivial⟩)
    simp_all
  · refine fin_ret (.inl rfl) (by cbv) (by simp) (To.fresh ⟨.b ?_, trivial⟩)
    simp_all
def same32 (a b : Nat) : Bool := same64 (f2f .f32 a .f64) (f2f .f32 b .f64)
theorem same32_self (a : Nat) : same32 a a = true := same64_self _
def kEqPulse : Kr
  | [.agg [.f .f32 a, .f .f32 b, .f .f32 c, .f .f32 d], .agg [.f .f32 a', .f .f32 b', .f .f32 c', .f .f32 d']] => some (.b fun _ => same32 (a .u) (a' .u) && (same32 (b .u) (b' .u) && (same32 (c .u) (c' .u) && same32 (d .u) (d' .u))), [], fun _ => True)
  | _ => none
theorem eqPulse_tells : Tells Tryd.prog 8 (.r kEqPulse) := by
  intro args r H' p hr hp
  unfold kEqPulse at hr
  split at hr <;> cases hr
  rename_i a b c d a' b' c' d'
  refine ⟨.b, .nil, Con.of ttok Tryd.func8 rfl rfl (Nat.zero_le _) (AW.exec ttok ctSame_ok (by cbv) ?_)⟩
  simp only [natCast_int, Post, All, thenA, canon0, canon064, and_true, true_and, forall_const, implies_true, decide_eq_true_eq, decide_eq_false_iff_not, Bool.not_eq_true', Bool.not_eq_false', Bool.true_and, Bool.and_true, beq_true, beq_false, Int.toNat_natCast, Int.ofNat_lt, Int.ofNat_le, Nat.zero_add, Nat.add_zero, imp_self, Bool.cond_false_right, Bool.cond_true_left, Bool.cond_true_right, IsF, rdF_eq, fOf, AV.f.injEq, exists_eq', free_list, free_fn0, List.not_mem_nil, List.mem_cons, false_imp, forall_eq, or_false, free_i, free_f, free_b, ren_f, ren_i, ren_b, and_self, bne_iff_ne, bne_eq_false_iff_eq, ne_eq, Int.natCast_inj, or_true, true_or, freeB_list, unfr_f, unfr_i, unfr_b, unfr_c, unfr_s, free_c, free_s, ren_c, ren_s, unfr_ro, unfr_rptr, ren_ro, free_ll, free_box, kill_f, kill_i, kill_b, kill_c, kill_s, kill_rof, kill_rot, Int.toNat_zero, isFF_ll, rowN_ll, rowX_ll, AllFree, Option.some.injEq, Prod.mk.injEq, Bool.false_eq_true, Bool.true_eq_false]
  (repeat' first | with_reducible assumption | with_reducible apply And.intro | with_reducible intro hh) <;> first | ((first | with_reducible show (_ : Int) ≤ _ | with_reducible show (_ : Int) < _ | with_reducible show (_ : Nat) ≤ _ | with_reducible show (_ : Nat) < _ | with_reducible show (_ : Int) = _ | with_reducible show (_ : Nat) = _ | with_reducible show ¬ _ | with_reducible show _ ≠ _) <;> first | omega | (simp only [Bool.and_eq_true, Bool.or_eq_false_iff, Bool.not_eq_false', Bool.not_eq_true', decide_eq_true_eq, decide_eq_false_iff_not] at *; omega) | (with_reducible assumption)) | (with_reducible assumption) | skip
  all_goals refine fin_ret (.inl rfl) (by cbv) (by simp) (To.fresh ⟨.b ?_, trivial⟩)
  all_goals simp_all [same32]
def kEqDesk : Kr
  | [.agg [a, b, .f .f32 p, .f .f32 q, .f .f32 r, .f .f32 s, c], .agg [a', b', .f .f32 p', .f .f32 q', .f .f32 r', .f .f32 s', c']] => match asL a, asL b, asL c, asL a', asL b', asL c' with
    | some (n, g), some (m, h), some (l, k), some (n', g'), some (m', h'), some (l', k') => some (.b fun _ => (eqL (n .u) (rdF g) (n' .u) (rdF g') && eqL (m .u) (rdF h) (m' .u) (rdF h')) && ((same32 (p .u) (p' .u) && (same32 (q .u) (q' .u) && (same32 (r .u) (r' .u) && same32 (s .u) (s' .u)))) && eqL (l .u) (rdF k) (l' .u) (rdF k')), [], fun _ => (IsF n g ∧ IsF m h ∧ IsF l k) ∧ (IsF n' g' ∧ IsF m' h' ∧ IsF l' k'))
    | _, _, _, _, _, _ => none
  | _ => none
def ctEqDesk : CT := [(30, .r kEq), (11, .r kEqSteps), (8, .r kEqPulse)]
theorem ctEqDesk_ok : CTok Tryd.prog ctEqDesk := .cons eq_tells (.cons eqSteps_tells (.cons eqPulse_tells (.nil _)))
/-! Marks. -/
def heldSteps (n : Nat) (x : Nat → Nat) (m : Nat) (y : Nat → Nat) (k : Int) : Int := bif decide (heldL n x k < 0) then -1 else bif decide (heldL m y (heldL n x k) < 0) then -1 else heldL m y (heldL n x k)
theorem heldL_le (n : Nat) (x : Nat → Nat) (k : Int) : heldL n x k ≤ k + n ∨ heldL n x k < 0 := by
  unfold heldL
  cases allN (fun i => feq .f32 (x i) (itof .f32 (k + (i : Int)))) n
  · right; exact show (-1 : Int) < 0 by decide
  · left; exact Int.le_refl _
theorem AW.via {P : Program} {N0 : Nat} {c : Code} {Q : Exit → List AV → Heap → Prop} {env env' : List AV} {H H' : Heap} (h : To N0 env H env' H') (hw : AW P N0 c Q env' H') : AW P N0 c Q env H := by
  obtain ⟨σ, h1, h2, h3, h4⟩ := h
  exact AW.to σ h1 h2 h3 h4 hw
theorem isF_to {H H' : Heap} {σ : List Nat} {keep : Bool} {n : Th Nat} {g : Th Nat → Nat → AV} (h : IsF n g) {j : Nat} (hj : j < n .u) : AvTo H H' σ keep (g (fun _ => j) 0) (.f .f32 fun _ => rdF g j) := by
  obtain ⟨y, hy⟩ := h.2 j hj
  simp only [hy]
  exact AvTo.f (by simp [rdF, fOf, hy])
theorem ownTo {H H' : Heap} {σ : List Nat} {keep : Bool} {j id : Nat} {i n m : Th Nat} (hl : live H' j = true) (hj : σ[j]? = some id) (hi : i .u = 0) (hn : n .u = m .u) : AvTo H H' σ keep (.own id i n 1) (.own j (fun _ => 0) m 1) := .own hl hj hi hn
def kHeldSteps : Kr
  | [.agg [a, b], .i .i64 k] => match asL a, asL b with
    | some (n, g), some (m, h) => some (.i .i64 fun _ => heldSteps (n .u) (rdF g) (m .u) (rdF h) (k .u), [], fun _ => (IsF n g ∧ n .u ≤ 1048576) ∧ (IsF m h ∧ m .u ≤ 1048576) ∧ 0 ≤ k .u ∧ k .u ≤ 1099509530624)
    | _, _ => none
  | _ => none
def ctHeldS : CT := [(32, .r kHeld)]
theorem ctHeldS_ok : CTok Tryd.prog ctHeldS := .cons held_tells (.nil _)
theorem heldSteps_tells : Tells Tryd.prog 13 (.r kHeldSteps) := by
  intro args r H' p hr hp
  unfold kHeldSteps at hr
  split at hr <;> first | (cases hr; done) | skip
  split at hr <;> cases hr
  rename_i a b k _ _ n g m h h1 h2
  obtain ⟨⟨p1, hn⟩, ⟨p2, hm⟩, hk0, hk1⟩ := hp
  refine ⟨.i, .nil, Con.pre (args' := [.agg [listF false n (rdF g), listF false m (rdF h)], .i .i64 k]) ⟨Sub.aggL ⟨.asL h1 p1, .asL h2 p2, trivial⟩, Sub.refl _, trivial⟩ ?_⟩
  generalize rdF g = x
  generalize rdF h = y
  have hl := heldL_le (n .u) x (k .u)
  refine Con.of ttok Tryd.func13 rfl rfl (Nat.zero_le _) (AW.exec ttok ctHeldS_ok (by cbv) ?_)
  simp only [natCast_int, Post, All, thenA, canon0, canon064, and_true, true_and, forall_const, implies_true, decide_eq_true_eq, decide_eq_false_iff_not, Bool.not_eq_true', Bool.not_eq_false', Bool.true_and, Bool.and_true, beq_true, beq_false, Int.toNat_natCast, Int.ofNat_lt, Int.ofNat_le, Nat.zero_add, Nat.add_zero, imp_self, Bool.cond_false_right, Bool.cond_true_left, Bool.cond_true_right, IsF, rdF_eq, fOf, AV.f.injEq, exists_eq', free_list, free_fn0, List.not_mem_nil, List.mem_cons, false_imp, forall_eq, or_false, free_i, free_f, free_b, ren_f, ren_i, ren_b, and_self, bne_iff_ne, bne_eq_false_iff_eq, ne_eq, Int.natCast_inj, or_true, true_or, freeB_list, unfr_f, unfr_i, unfr_b, unfr_c, unfr_s, free_c, free_s, ren_c, ren_s, unfr_ro, unfr_rptr, ren_ro, free_ll, free_box, kill_f, kill_i, kill_b, kill_c, kill_s, kill_rof, kill_rot, Int.toNat_zero, isFF_ll, rowN_ll, rowX_ll, AllFree, Option.some.injEq, Prod.mk.injEq, Bool.false_eq_true, Bool.true_eq_false]
  (repeat' first | with_reducible assumption | with_reducible apply And.intro | with_reducible intro hh) <;> first | ((first | with_reducible show (_ : Int) ≤ _ | with_reducible show (_ : Int) < _ | with_reducible show (_ : Nat) ≤ _ | with_reducible show (_ : Nat) < _ | with_reducible show (_ : Int) = _ | with_reducible show (_ : Nat) = _ | with_reducible show ¬ _ | with_reducible show _ ≠ _) <;> first | omega | (simp only [Bool.and_eq_true, Bool.or_eq_false_iff, Bool.not_eq_false', Bool.not_eq_true', decide_eq_true_eq, decide_eq_false_iff_not] at *; omega) | (with_reducible assumption)) | (with_reducible assumption) | skip
  · refine fin_ret (.inl rfl) (by cbv) (by simp) (To.fresh ⟨.i ?_, trivial⟩)
    have e1 : decide (heldL (n .u) x (k .u) < 0) = true := by assumption
    simp only [heldSteps, e1, cond_true]
  · have e1 : decide (heldL (n .u) x (k .u) < 0) = false := by assumption
    have e2 := of_decide_eq_false e1
    show 0 ≤ heldL (n .u) x (k .u)
    omega
  · have e1 : decide (heldL (n .u) x (k .u) < 0) = false := by assumption
    have e2 := of_decide_eq_false e1
    show heldL (n .u) x (k .u) ≤ _
    omega
  · refine fin_ret (.inl rfl) (by cbv) (by simp) (To.fresh ⟨.i ?_, trivial⟩)
    have e1 : decide (heldL (n .u) x (k .u) < 0) = false := by assumption
    have e2 : decide (heldL (m .u) y (heldL (n .u) x (k .u)) < 0) = true := by assumption
    simp only [heldSteps, e1, e2, cond_true, cond_false]
  · refine fin_ret (.inl rfl) (by cbv) (by simp) (To.fresh ⟨.i ?_, trivial⟩)
    have e1 : decide (heldL (n .u) x (k .u) < 0) = false := by assumption
    have e2 : decide (heldL (m .u) y (heldL (n .u) x (k .u)) < 0) = false := by assumption
    simp only [heldSteps, e1, e2, cond_false]
def markX (k : Int) (i : Nat) : Nat := itof .f32 (k + (i : Int))
theorem Sub.own1 {id : Nat} {i n m : Th Nat} (hi : i .u = 0) (hn : n .u = m .u) : Sub (.own id i n 1) (.own id (fun _ => 0) m 1) := fun w ρ N L v h => by
  cases h with | own hid hv => rw [hi, hn] at hv; exact .own hid hv
def kMarkSteps : Kg
  | [.agg [.own 0 i n 1, .own 1 j m 1], .i .i64 k], [some (_, .tab n' 1 g), some (_, .tab m' 1 h)] => some (.one (.i .i64 fun _ => k .u + (n' .u : Int) + (m' .u : Int)) [blkF false n' (markX (k .u)), blkF false m' (markX (k .u + (n' .u : Int)))] fun _ => (IsF n' g ∧ i .u = 0 ∧ n .u = n' .u ∧ n' .u ≤ 1048576) ∧ (IsF m' h ∧ j .u = 0 ∧ m .u = m' .u ∧ m' .u ≤ 1048576) ∧ 0 ≤ k .u ∧ k .u ≤ 1099509530624)
  | _, _ => none
def ctMarkS : CT := [(31, .m kMark kMarkNil)]
theorem ctMarkS_ok : CTok Tryd.prog ctMarkS := .cons mark_tells (.nil _)
theorem markSteps_tells : Tells Tryd.prog 12 (.g 1 kMarkSteps) := by
  intro args Hc r hr
  unfold kMarkSteps at hr
  split at hr <;> cases hr
  rename_i i n j m k fr n' g fr' m' h
  refine AnsOk.one ttok Tryd.func12 rfl rfl (Nat.le_refl _) .i (.cons (fun fr B e => by cases e; exact .tab fun _ _ _ _ => .f) .list) fun ⟨⟨p1, hi, hn, hn'⟩, ⟨p2, hj, hm, hm'⟩, hk0, hk1⟩ => ⟨[.agg [.own 0 i n 1, .own 1 j m 1], .i .i64 k], ⟨Sub.refl _, Sub.refl _, trivial⟩, AW.via (H' := [blkF false n' (rdF g), blkF false m' (rdF h)]) (env' := mkE Tryd.f12.ntmps [(0, .agg [.own 0 (fun _ => 0) n' 1, .own 1 (fun _ => 0) m' 1]), (1, .i .i64 k)]) (To.same (Nat.le_refl _) ⟨.list (fun e => absurd e (by simp)) (Nat.le_refl _) fun j hj => isF_to p1 hj, .list (fun e => absurd e (by simp)) (Nat.le_refl _) fun j hj => isF_to p2 hj, trivial⟩ ?_) ?_⟩
  · (repeat' first | exact AllTo.nil | apply AllTo.cons) <;> first | exact AvTo.dead _ | exact AvTo.i rfl | exact AvTo.agg ⟨ownTo rfl rfl hi hn, ownTo rfl rfl hj hm, trivial⟩
  generalize rdF g = x
  generalize rdF h = y
  refine AW.exec ttok ctMarkS_ok (by cbv) ?_
  simp only [natCast_int, Post, All, thenA, canon0, canon064, and_true, true_and, forall_const, implies_true, decide_eq_true_eq, decide_eq_false_iff_not, Bool.not_eq_true', Bool.not_eq_false', Bool.true_and, Bool.and_true, beq_true, beq_false, Int.toNat_natCast, Int.ofNat_lt, Int.ofNat_le, Nat.zero_add, Nat.add_zero, imp_self, Bool.cond_false_right, Bool.cond_true_left, Bool.cond_true_right, IsF, rdF_eq, fOf, AV.f.injEq, exists_eq', free_list, free_fn0, List.not_mem_nil, List.mem_cons, false_imp, forall_eq, or_false, free_i, free_f, free_b, ren_f, ren_i, ren_b, and_self, bne_iff_ne, bne_eq_false_iff_eq, ne_eq, Int.natCast_inj, or_true, true_or, freeB_list, unfr_f, unfr_i, unfr_b, unfr_c, unfr_s, free_c, free_s, ren_c, ren_s, unfr_ro, unfr_rptr, ren_ro, free_ll, free_box, kill_f, kill_i, kill_b, kill_c, kill_s, kill_rof, kill_rot, Int.toNat_zero, isFF_ll, rowN_ll, rowX_ll, AllFree, Option.some.injEq, Prod.mk.injEq, Bool.false_eq_true, Bool.true_eq_false]
  (repeat' first | with_reducible assumption | with_reducible apply And.intro | with_reducible intro hh) <;> first | ((first | with_reducible show (_ : Int) ≤ _ | with_reducible show (_ : Int) < _ | with_reducible show (_ : Nat) ≤ _ | with_reducible show (_ : Nat) < _ | with_reducible show (_ : Int) = _ | with_reducible show (_ : Nat) = _ | with_reducible show ¬ _ | with_reducible show _ ≠ _) <;> first | omega | (simp only [Bool.and_eq_true, Bool.or_eq_false_iff, Bool.not_eq_false', Bool.not_eq_true', decide_eq_true_eq, decide_eq_false_iff_not] at *; omega) | (with_reducible assumption)) | (with_reducible assumption) | skip
  refine fin_ret (.inl rfl) (by cbv) (by simp) (To.pick [0, 1] (by decide) (Nat.le_refl _) (fun j hj => ?_) ⟨.list (fun e => e) (Nat.le_refl _) fun j hj => AvTo.f rfl, .list (fun e => e) (Nat.le_refl _) fun j hj => AvTo.f rfl, trivial⟩ ⟨.i rfl, trivial⟩)
  match j, hj with
  | 0, _ => rfl
  | 1, _ => rfl
def kMarkDesk : Kg
  | [.agg [.own 0 i n 1, .own 1 j m 1, .f .f32 a, .f .f32 b, .f .f32 c, .f .f32 d, .own 2 q l 1], .i .i64 k], [some (_, .tab n' 1 g), some (_, .tab m' 1 h), some (_, .tab l' 1 f)] => some (.one (.i .i64 fun _ => k .u + (n' .u : Int) + (m' .u : Int) + (l' .u : Int)) [blkF false n' (markX (k .u)), blkF false m' (markX (k .u + (n' .u : Int))), blkF false l' (markX (k .u + (n' .u : Int) + (m' .u : Int)))] fun _ => (IsF n' g ∧ i .u = 0 ∧ n .u = n' .u ∧ n' .u ≤ 1048576) ∧ (IsF m' h ∧ j .u = 0 ∧ m .u = m' .u ∧ m' .u ≤ 1048576) ∧ (IsF l' f ∧ q .u = 0 ∧ l .u = l' .u ∧ l' .u ≤ 1048576) ∧ 0 ≤ k .u ∧ k .u ≤ 1099507433472)
  | _, _ => none
def ctMarkD : CT := [(31, .m kMark kMarkNil), (12, .g 1 kMarkSteps)]
theorem ctMarkD_ok : CTok Tryd.prog ctMarkD := .cons mark_tells (.cons markSteps_tells (.nil _))
def heldDesk (n : Nat) (x : Nat → Nat) (m : Nat) (y : Nat → Nat) (l : Nat) (z : Nat → Nat) (k : Int) : Int := bif decide (heldSteps n x m y k < 0) then -1 else bif decide (heldL l z (heldSteps n x m y k) < 0) then -1 else heldL l z (heldSteps n x m y k)
theorem heldSteps_le (n : Nat) (x : Nat → Nat) (m : Nat) (y : Nat → Nat) (k : Int) : heldSteps n x m y k ≤ k + n + m ∨ heldSteps n x m y k < 0 := by
  unfold heldSteps
  cases e : decide (heldL n x k < 0)
  · cases e' : decide (heldL m y (heldL n x k) < 0)
    · left
      have e1 := of_decide_eq_false e
      have e2 := of_decide_eq_false e'
      have h1 := heldL_le n x k
      have h2 := heldL_le m y (heldL n x k)
      simp only [cond_false]
      omega
    · right; exact show (-1 : Int) < 0 by decide
  · right; exact show (-1 : Int) < 0 by decide
def kHeldDesk : Kr
  | [.agg [a, b, .f .f32 _, .f .f32 _, .f .f32 _, .f .f32 _, c], .i .i64 k] => match asL a, asL b, asL c with
    | some (n, g), some (m, h), some (l, f) => some (.i .i64 fun _ => heldDesk (n .u) (rdF g) (m .u) (rdF h) (l .u) (rdF f) (k .u), [], fun _ => (IsF n g ∧ n .u ≤ 1048576) ∧ (IsF m h ∧ m .u ≤ 1048576) ∧ (IsF l f ∧ l .u ≤ 1048576) ∧ 0 ≤ k .u ∧ k .u ≤ 1099507433472)
    | _, _, _ => none
  | _ => none
def ctHeldD : CT := [(32, .r kHeld), (13, .r kHeldSteps)]
theorem ctHeldD_ok : CTok Tryd.prog ctHeldD := .cons held_tells (.cons heldSteps_tells (.nil _))
end Go.Proofs.YtkglnfkbejoheaaDoor
