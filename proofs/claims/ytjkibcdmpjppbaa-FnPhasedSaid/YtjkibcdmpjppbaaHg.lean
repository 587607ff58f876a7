/- Desks that are valid, on both sides. -/
import Derived.Test.YtjkibcdmpjppbaaHc
import Derived.Test.YtjkibcdmpjppbaaHd
set_option linter.unusedSimpArgs false
set_option linter.unusedVariables false
namespace Go.Proofs.Ytjkibcdmpjppbaa
open Go.Aw
theorem Sub.rptrL {fr : Bool} {m k : Nat} {h h' : Nat → AV} (hk : k ≤ m) (hs : ∀ j, j < k → Sub (unfr (h j)) (h' j)) : Sub (unfr (.rptr fr m h)) (.rptr false k h') := by
  intro w ρ N L v hv
  simp only [unfr] at hv
  cases hv with
  | rptr u hq hc hsim => exact .rptr u hq (fun c hcc => hc c (by omega)) fun c hcc => hs c hcc _ _ _ _ _ (hsim c (by omega))
theorem l02Finite_tells : Tells Try.prog 62 (.r kFinN) := by
  intro args r H' p hr hp
  unfold kFinN at hr
  split at hr <;> first | (cases hr; done) | skip
  split at hr <;> cases hr
  rename_i n g hL
  refine ⟨.b, .nil, Con.pre (args' := [listF false n (rdF g)]) ⟨.asL hL hp, trivial⟩ ?_⟩
  have hn := hp.1
  generalize rdF g = x
  refine Con.of ttok Try.func62 rfl rfl (Nat.zero_le _) (AW.exec ttok ctFin_ok (by cbv) ?_)
  simp only [natCast_int, Post, All, thenA, canon0, canon064, and_true, true_and, forall_const, implies_true, decide_eq_true_eq, decide_eq_false_iff_not, Bool.not_eq_true', Bool.not_eq_false', Bool.true_and, Bool.and_true, beq_true, beq_false, Int.toNat_natCast, Int.ofNat_lt, Int.ofNat_le, Nat.zero_add, Nat.add_zero, imp_self, Bool.cond_false_right, Bool.cond_true_left, Bool.cond_true_right, IsF, rdF_eq, fOf, AV.f.injEq, exists_eq', free_list, free_fn0, List.not_mem_nil, List.mem_cons, false_imp, forall_eq, or_false, free_i, free_f, free_b, ren_f, ren_i, ren_b, and_self, bne_iff_ne, bne_eq_false_iff_eq, ne_eq, Int.natCast_inj, or_true, true_or, freeB_list, unfr_f, unfr_i, unfr_b, unfr_c, unfr_s, free_c, free_s, ren_c, ren_s, unfr_ro, unfr_rptr, ren_ro, free_ll, free_box, kill_f, kill_i, kill_b, kill_c, kill_s, kill_rof, kill_rot, Int.toNat_zero, isFF_ll, rowN_ll, rowX_ll, AllFree, Option.some.injEq, Prod.mk.injEq, Bool.false_eq_true, Bool.true_eq_false]
  refine AW.loopH (ι := Nat) (fun i => i ≤ n .u ∧ ∀ j, j < i → isFin (x j) = true) (fun i => n .u - i) (fun i => mkE Try.f62.ntmps [(0, listF false n x), (3, .i .i64 fun _ => (i : Int))])
    (fun _ => []) 0 ⟨Nat.zero_le _, fun j hj => absurd hj (Nat.not_lt_zero _)⟩ (To.same (Nat.le_refl _) trivial ?_) ?_
  · (repeat' first | exact AllTo.nil | apply AllTo.cons) <;> first | exact AvTo.dead _ | exact AvTo.i rfl | exact AvTo.i (by first | omega | (simp only [natCast_int]; omega)) | exact AvTo.f rfl | exact AvTo.b rfl | exact AvTo.v _ | exact AvTo.own rfl rfl rfl rfl | exact AvTo.own rfl rfl (by first | rfl | omega) (by first | rfl | omega) | exact Free.same .listF | exact Free.same (.fn (by simp) (by simp)) | skip
  · rintro Q' hQ i ⟨hi, hx⟩
    refine AW.exec ttok ctFin_ok (by cbv) ?_
    simp only [natCast_int, Post, All, thenA, canon0, canon064, and_true, true_and, forall_const, implies_true, decide_eq_true_eq, decide_eq_false_iff_not, Bool.not_eq_true', Bool.not_eq_false', Bool.true_and, Bool.and_true, beq_true, beq_false, Int.toNat_natCast, Int.ofNat_lt, Int.ofNat_le, Nat.zero_add, Nat.add_zero, imp_self, Bool.cond_false_right, Bool.cond_true_left, Bool.cond_true_right, IsF, rdF_eq, fOf, AV.f.injEq, exists_eq', free_list, free_fn0, List.not_mem_nil, List.mem_cons, false_imp, forall_eq, or_false, free_i, free_f, free_b, ren_f, ren_i, ren_b, and_self, bne_iff_ne, bne_eq_false_iff_eq, ne_eq, Int.natCast_inj, or_true, true_or, freeB_list, unfr_f, unfr_i, unfr_b, unfr_c, unfr_s, free_c, free_s, ren_c, ren_s, unfr_ro, unfr_rptr, ren_ro, free_ll, free_box, kill_f, kill_i, kill_b, kill_c, kill_s, kill_rof, kill_rot, Int.toNat_zero, isFF_ll, rowN_ll, rowX_ll, AllFree, Option.some.injEq, Prod.mk.injEq, Bool.false_eq_true, Bool.true_eq_false, hn]
    (repeat' first | with_reducible assumption | with_reducible apply And.intro | with_reducible intro hh) <;> first | ((first | with_reducible show (_ : Int) ≤ _ | with_reducible show (_ : Int) < _ | with_reducible show (_ : Nat) ≤ _ | with_reducible show (_ : Nat) < _ | with_reducible show (_ : Int) = _ | with_reducible show (_ : Nat) = _ | with_reducible show ¬ _ | with_reducible show _ ≠ _) <;> first | omega | (simp only [Bool.and_eq_true, Bool.or_eq_false_iff, Bool.not_eq_false', Bool.not_eq_true', decide_eq_true_eq, decide_eq_false_iff_not] at *; omega) | (with_reducible assumption)) | (with_reducible assumption) | skip
    · obtain ⟨rfl⟩ := hQ
      refine Post.leaf (by cbv) (fin_ret (.inl rfl) (by cbv) (by simp) (To.fresh ⟨.b ?_, trivial⟩))
      exact (allN_false ‹i < n .u› (q := fun i => isFin (x i)) (by assumption)).symm
    · refine ⟨i + 1, ⟨by omega, lt_succ_all hx (by assumption)⟩, by omega, To.same (Nat.le_refl _) trivial ?_⟩
      (repeat' first | exact AllTo.nil | apply AllTo.cons) <;> first | exact AvTo.dead _ | exact AvTo.i rfl | exact AvTo.i (by first | omega | (simp only [natCast_int]; omega)) | exact AvTo.f rfl | exact AvTo.b rfl | exact AvTo.v _ | exact AvTo.own rfl rfl rfl rfl | exact AvTo.own rfl rfl (by first | rfl | omega) (by first | rfl | omega) | exact Free.same .listF | exact Free.same (.fn (by simp) (by simp)) | skip
    · obtain ⟨rfl⟩ := hQ
      refine Post.eval (by cbv) ?_
      simp only [natCast_int, Post, All, thenA, canon0, canon064, and_true, true_and, forall_const, implies_true, decide_eq_true_eq, decide_eq_false_iff_not, Bool.not_eq_true', Bool.not_eq_false', Bool.true_and, Bool.and_true, beq_true, beq_false, Int.toNat_natCast, Int.ofNat_lt, Int.ofNat_le, Nat.zero_add, Nat.add_zero, imp_self, Bool.cond_false_right, Bool.cond_true_left, Bool.cond_true_right, IsF, rdF_eq, fOf, AV.f.injEq, exists_eq', free_list, free_fn0, List.not_mem_nil, List.mem_cons, false_imp, forall_eq, or_false, free_i, free_f, free_b, ren_f, ren_i, ren_b, and_self, bne_iff_ne, bne_eq_false_iff_eq, ne_eq, Int.natCast_inj, or_true, true_or, freeB_list, unfr_f, unfr_i, unfr_b, unfr_c, unfr_s, free_c, free_s, ren_c, ren_s, unfr_ro, unfr_rptr, ren_ro, free_ll, free_box, kill_f, kill_i, kill_b, kill_c, kill_s, kill_rof, kill_rot, Int.toNat_zero, isFF_ll, rowN_ll, rowX_ll, AllFree, Option.some.injEq, Prod.mk.injEq, Bool.false_eq_true, Bool.true_eq_false]
      have e : i = n .u := by omega
      exact fin_ret (.inl rfl) (by cbv) (by simp) (To.fresh ⟨.b (allN_true (q := fun i => isFin (x i)) (e ▸ hx)).symm, trivial⟩)
def leastF (x : Nat) : Bool := isFin x && fge .f32 x 0
def kLeast : Kr
  | [.f .f32 x] => some (.b fun _ => leastF (x .u), [], fun _ => True)
  | _ => none
def binsF (n : Nat) (x : Nat → Nat) : Bool := decide (2 ≤ n) && (decide (n ≤ 64) && finN n x)
def kBins : Kr
  | [a, .i .i64 k] => match asL a with
    | some (n, g) => some (.b fun _ => binsF (n .u) (rdF g), [], fun _ => IsF n g ∧ k .u = 2)
    | none => none
  | _ => none
def ctFinite2 : CT := [(62, .r kFinN)]
theorem ctFinite2_ok : CTok Try.prog ctFinite2 := .cons l02Finite_tells (.nil _)
theorem two_le (n : Nat) : decide ((2 : Int) ≤ (n : Int)) = decide (2 ≤ n) := decide_eq_decide.2 (by omega)
theorem le_64 (n : Nat) : decide ((n : Int) ≤ 64) = decide (n ≤ 64) := decide_eq_decide.2 (by omega)
theorem l06Bins_tells : Tells Try.prog 32 (.r kBins) := by
  intro args r H' p hr hp
  unfold kBins at hr
  split at hr <;> first | (cases hr; done) | skip
  split at hr <;> cases hr
  rename_i k _ n g hL
  obtain ⟨hp, hk⟩ := hp
  refine ⟨.b, .nil, Con.pre (args' := [listF false n (rdF g), .i .i64 k]) ⟨.asL hL hp, Sub.refl _, trivial⟩ ?_⟩
  have hn := hp.1
  generalize rdF g = x
  refine Con.of ttok Try.func32 rfl rfl (Nat.zero_le _) (AW.exec ttok ctFinite2_ok (by cbv) ?_)
  simp only [natCast_int, Post, All, thenA, canon0, canon064, and_true, true_and, forall_const, implies_true, decide_eq_true_eq, decide_eq_false_iff_not, Bool.not_eq_true', Bool.not_eq_false', Bool.true_and, Bool.and_true, beq_true, beq_false, Int.toNat_natCast, Int.ofNat_lt, Int.ofNat_le, Nat.zero_add, Nat.add_zero, imp_self, Bool.cond_false_right, Bool.cond_true_left, Bool.cond_true_right, IsF, rdF_eq, fOf, AV.f.injEq, exists_eq', free_list, free_fn0, List.not_mem_nil, List.mem_cons, false_imp, forall_eq, or_false, free_i, free_f, free_b, ren_f, ren_i, ren_b, and_self, bne_iff_ne, bne_eq_false_iff_eq, ne_eq, Int.natCast_inj, or_true, true_or, freeB_list, unfr_f, unfr_i, unfr_b, unfr_c, unfr_s, free_c, free_s, ren_c, ren_s, unfr_ro, unfr_rptr, ren_ro, free_ll, free_box, kill_f, kill_i, kill_b, kill_c, kill_s, kill_rof, kill_rot, Int.toNat_zero, isFF_ll, rowN_ll, rowX_ll, AllFree, Option.some.injEq, Prod.mk.injEq, Bool.false_eq_true, Bool.true_eq_false, hn, hk]
  (repeat' first | with_reducible assumption | with_reducible apply And.intro | with_reducible intro hh) <;> first | ((first | with_reducible show (_ : Int) ≤ _ | with_reducible show (_ : Int) < _ | with_reducible show (_ : Nat) ≤ _ | with_reducible show (_ : Nat) < _ | with_reducible show (_ : Int) = _ | with_reducible show (_ : Nat) = _ | with_reducible show ¬ _ | with_reducible show _ ≠ _) <;> first | omega | (simp only [Bool.and_eq_true, Bool.or_eq_false_iff, Bool.not_eq_false', Bool.not_eq_true', decide_eq_true_eq, decide_eq_false_iff_not] at *; omega) | (with_reducible assumption)) | (with_reducible assumption) | skip
  refine fin_ret (.inl rfl) (by cbv) (by simp) (To.fresh ⟨.b ?_, trivial⟩)
  rw [two_le, le_64, Bool.and_assoc]
  rfl
def kScan : Kr
  | [a] => match asL a with
    | some (n, g) => some (.b fun _ => binsF (n .u) (rdF g), [], fun _ => IsF n g)
    | none => none
  | _ => none
theorem isScan_tells : Tells Try.prog 35 (.r kScan) := by
  intro args r H' p hr hp
  unfold kScan at hr
  split at hr <;> first | (cases hr; done) | skip
  split at hr <;> cases hr
  rename_i n g hL
  refine ⟨.b, .nil, Con.pre (args' := [listF false n (rdF g)]) ⟨.asL hL hp, trivial⟩ ?_⟩
  have hn := hp.1
  generalize rdF g = x
  refine Con.of ttok Try.func35 rfl rfl (Nat.zero_le _) (AW.exec ttok ctIsList_ok (by cbv) ?_)
  simp only [natCast_int, Post, All, thenA, canon0, canon064, and_true, true_and, forall_const, implies_true, decide_eq_true_eq, decide_eq_false_iff_not, Bool.not_eq_true', Bool.not_eq_false', Bool.true_and, Bool.and_true, beq_true, beq_false, Int.toNat_natCast, Int.ofNat_lt, Int.ofNat_le, Nat.zero_add, Nat.add_zero, imp_self, Bool.cond_false_right, Bool.cond_true_left, Bool.cond_true_right, IsF, rdF_eq, fOf, AV.f.injEq, exists_eq', free_list, free_fn0, List.not_mem_nil, List.mem_cons, false_imp, forall_eq, or_false, free_i, free_f, free_b, ren_f, ren_i, ren_b, and_self, bne_iff_ne, bne_eq_false_iff_eq, ne_eq, Int.natCast_inj, or_true, true_or, freeB_list, unfr_f, unfr_i, unfr_b, unfr_c, unfr_s, free_c, free_s, ren_c, ren_s, unfr_ro, unfr_rptr, ren_ro, free_ll, free_box, kill_f, kill_i, kill_b, kill_c, kill_s, kill_rof, kill_rot, Int.toNat_zero, isFF_ll, rowN_ll, rowX_ll, AllFree, Option.some.injEq, Prod.mk.injEq, Bool.false_eq_true, Bool.true_eq_false, hn]
  (repeat' first | with_reducible assumption | with_reducible apply And.intro | with_reducible intro hh) <;> first | ((first | with_reducible show (_ : Int) ≤ _ | with_reducible show (_ : Int) < _ | with_reducible show (_ : Nat) ≤ _ | with_reducible show (_ : Nat) < _ | with_reducible show (_ : Int) = _ | with_reducible show (_ : Nat) = _ | with_reducible show ¬ _ | with_reducible show _ ≠ _) <;> first | omega | (simp only [Bool.and_eq_true, Bool.or_eq_false_iff, Bool.not_eq_false', Bool.not_eq_true', decide_eq_true_eq, decide_eq_false_iff_not] at *; omega) | (with_reducible assumption)) | (with_reducible assumption) | skip
  refine fin_ret (.inl rfl) (by cbv) (by simp) (To.fresh ⟨.b ?_, trivial⟩)
  rw [two_le, le_64, Bool.and_assoc]
  rfl
/-! Pulses. -/
def pulseF (a b c d : Nat) : Bool := leastF a && (isFin b && (isFin c && leastF d))
def kPulseP : Kr
  | [.rptr fr m h] => match h 0, h 1, h 2, h 3 with
    | .f .f32 a, .f .f32 b, .f .f32 c, .f .f32 d => some (.b fun _ => pulseF (a .u) (b .u) (c .u) (d .u), [], fun _ => 4 ≤ m)
    | _, _, _, _ => none
  | _ => none
theorem finN_four (x : Nat → Nat) : finN 4 x = (isFin (x 0) && (isFin (x 1) && (isFin (x 2) && isFin (x 3)))) := by
  simp [finN, allN, List.range, List.range.loop]
theorem pulse_eq (a b c d : Th Nat) : ((finN 4 fun i => match [AV.f .f32 a, AV.f .f32 b, AV.f .f32 c, AV.f .f32 d].getD (i * 1) .dead with
  | .f _ x => x .u
  | _ => 0) && fge .f32 (a .u) 0 && fge .f32 (d .u) 0) = pulseF (a .u) (b .u) (c .u) (d .u) := by
  rw [finN_four]
  show (isFin (a .u) && (isFin (b .u) && (isFin (c .u) && isFin (d .u))) && fge .f32 (a .u) 0 && fge .f32 (d .u) 0) = _
  simp only [pulseF, leastF]
  cases isFin (a .u) <;> cases isFin (b .u) <;> cases isFin (c .u) <;> cases isFin (d .u) <;> cases fge .f32 (a .u) 0 <;> cases fge .f32 (d .u) 0 <;> rfl
def kPulseV : Kr
  | [.agg [.f .f32 a, .f .f32 b, .f .f32 c, .f .f32 d]] => some (.b fun _ => pulseF (a .u) (b .u) (c .u) (d .u), [], fun _ => True)
  | _ => none
/-! Steps. -/
def ascN (n : Nat) (x : Nat → Nat) : Bool := allN (fun i => decide (i = 0) || fgt .f32 (x i) (x (i - 1))) n
def kAsc : Kr
  | [a] => match asL a with
    | some (n, g) => some (.b fun _ => ascN (n .u) (rdF g), [], fun _ => IsF n g)
    | none => none
  | _ => none
theorem all_at {n : Nat} {x : Nat → Nat} (h : finN n x = true) {i : Nat} (hi : i < n) : isFin (x i) = true := by
  simp only [finN, allN, List.all_eq_true, List.mem_range] at h
  exact h i hi
theorem asc_at {x : Nat → Nat} {i : Nat} (hi : 1 ≤ i) : (decide (i = 0) || fgt .f32 (x i) (x (i - 1))) = fgt .f32 (x i) (x ((i : Int) - 1).toNat) := by
  rw [show ((i : Int) - 1).toNat = i - 1 by omega, decide_eq_false (show ¬ i = 0 by omega), Bool.false_or]
theorem asc_le {n : Nat} {x : Nat → Nat} (hf : finN n x = true) {i : Nat} (hi : 1 ≤ i) (hn : i < n) : fle .f32 (x i) (x ((i : Int) - 1).toNat) = !fgt .f32 (x i) (x ((i : Int) - 1).toNat) :=
  le_not_gt (fin_num (all_at hf hn)) (fin_num (all_at hf (show ((i : Int) - 1).toNat < n by omega)))
theorem lt_12 (n : Nat) : decide ((n : Int) < 12) = decide (n < 12) := decide_eq_decide.2 (by omega)
theorem eq_succ (m n : Nat) : ((m : Int) == (n : Int) + 1) = decide (m = n + 1) := by
  rw [Bool.eq_iff_iff]; simp; omega
def preS (n : Nat) (x : Nat → Nat) (k : Nat) (y : Nat → Nat) : Bool := decide (n < 12) && (decide (k = n + 1) && (finN n x && finN k y))
theorem steps_pre {n : Nat} {x : Nat → Nat} {k : Nat} {y : Nat → Nat} : (((decide ((12 : Int) ≤ (n : Int)) || ((k : Int) != (n : Int) + 1)) || !finN n x) || !finN k y) = !preS n x k y := by
  have e1 : decide ((12 : Int) ≤ (n : Int)) = !decide (n < 12) := by rw [← decide_not]; exact decide_eq_decide.2 (by omega)
  have e2 : ((k : Int) != (n : Int) + 1) = !decide (k = n + 1) := by rw [← eq_succ]; rfl
  rw [e1, e2]
  simp only [preS]
  cases decide (n < 12) <;> cases decide (k = n + 1) <;> cases finN n x <;> cases finN k y <;> rfl
theorem free_two (n k : Th Nat) (x y : Nat → Nat) : Free (.rptr false 2 fun j => [listF false n x, listF false k y].getD j .dead) := .rptr fun j hj => by
  match j, hj with
  | 0, _ => exact .listF
  | 1, _ => exact .listF
def stepsF (n : Nat) (x : Nat → Nat) (k : Nat) (y : Nat → Nat) : Bool := decide (n < 12) && (decide (k = n + 1) && (finN n x && (finN k y && ascN n x)))
theorem stepsF_eq (n : Nat) (x : Nat → Nat) (k : Nat) (y : Nat → Nat) : stepsF n x k y = (preS n x k y && ascN n x) := by
  simp only [stepsF, preS, Bool.and_assoc]
def kStepsV : Kr
  | [.agg [a, b]] => match asL a, asL b with
    | some (n, g), some (m, h) => some (.b fun _ => stepsF (n .u) (rdF g) (m .u) (rdF h), [], fun _ => IsF n g ∧ IsF m h)
    | _, _ => none
  | _ => none
def kStepsP : Kr
  | [.rptr fr m h] => match asL (h 0), asL (h 1) with
    | some (n, g), some (k, f) => some (.b fun _ => stepsF (n .u) (rdF g) (k .u) (rdF f), [], fun _ => IsF n g ∧ IsF k f ∧ 2 ≤ m)
    | _, _ => none
  | _ => none
/-! Desks. -/
def deskF (n : Nat) (x : Nat → Nat) (k : Nat) (y : Nat → Nat) (a b c d l : Nat) (z : Nat → Nat) : Bool := stepsF n x k y && (pulseF a b c d && binsF l z)
theorem free_get {l : List AV} (h : ∀ a ∈ l, Free a) {i : Nat} : Free (l.getD i .dead) := by
  rw [List.getD_eq_getElem?_getD]
  cases hi : l[i]? with
  | none => exact .dead
  | some a => exact h a (List.mem_of_getElem? hi)
def kDeskP : Kr
  | [.rptr fr m h] => match asL (h 0), asL (h 1), h 2, h 3, h 4, h 5, asL (h 6) with
    | some (n, g), some (k, f), .f .f32 a, .f .f32 b, .f .f32 c, .f .f32 d, some (l, q) => some (.b fun _ => deskF (n .u) (rdF g) (k .u) (rdF f) (a .u) (b .u) (c .u) (d .u) (l .u) (rdF q), [], fun _ => IsF n g ∧ IsF k f ∧ IsF l q ∧ 7 ≤ m)
    | _, _, _, _, _, _, _ => none
  | _ => none
def kDeskV : Kr
  | [.agg [u, v, .f .f32 a, .f .f32 b, .f .f32 c, .f .f32 d, w]] => match asL u, asL v, asL w with
    | some (n, g), some (k, f), some (l, q) => some (.b fun _ => deskF (n .u) (rdF g) (k .u) (rdF f) (a .u) (b .u) (c .u) (d .u) (l .u) (rdF q), [], fun _ => IsF n g ∧ IsF k f ∧ IsF l q)
    | _, _, _ => none
  | _ => none
end Go.Proofs.Ytjkibcdmpjppbaa
