/- Phases turned, and their mean. -/
import Derived.Test.YtjkibcdmpjppbaaUk
import Derived.Test.YtjkibcdmpjppbaaUg
set_option linter.unusedSimpArgs false
set_option linter.unusedVariables false
namespace Go.Proofs.Ytjkibcdmpjppbaa
open Go.Aw
theorem Sub.asLgC {a : AV} {n : Th Nat} {g : Th Nat → Nat → AV} (h : Aw.asLg a = some (n, g)) (hF : IsC n g) : Sub a (Go.Proofs.Ytjkibcdmpjppbaa.listC false n (rdRe g) (rdIm g)) := by
  unfold Aw.asLg at h
  split at h <;> cases h
  · intro w ρ N L v hs
    cases hs with
    | ro0 h0 => exact .ro0 h0
    | ro u hn hq hc hsim =>
      refine .ro u hn hq hc fun i c hi hcc => ?_
      obtain rfl : c = 0 := by omega
      obtain ⟨x, y, hy⟩ := hF.2 i hi
      have := hsim i 0 hi (by omega)
      simp only [hy] at this
      simp only [rdRe, rdIm, hy, reOf, imOf]
      exact this
  · intro w ρ N L v hs
    cases hs.v_inv
    exact .ro0 rfl
def turnP (t i : Nat) : Nat := fmul .f64 (wd t) (itof .f64 (i : Int))
def tpRe (x y : Nat → Nat) (t i : Nat) : Nat := mRe (x i) (y i) (phC (turnP t i)) (phS (turnP t i))
def tpIm (x y : Nat → Nat) (t i : Nat) : Nat := mIm (x i) (y i) (phC (turnP t i)) (phS (turnP t i))
def okTP (n : Nat) (x y : Nat → Nat) (t : Nat) : Bool := ((decide (n ≤ 128) && allC n x y) && isFin t) && allC n (tpRe x y t) (tpIm x y t)
def pTP (n : Nat) (x y : Nat → Nat) (t : Nat) : Prop := ∀ i, i < n → Cl (turnP t i) 51 ∧ f2fOk .f64 (tRe (x i) (y i) (phC (turnP t i)) (phS (turnP t i))) .f32 ∧ f2fOk .f64 (tIm (x i) (y i) (phC (turnP t i)) (phS (turnP t i))) .f32
def kTP : Kg
  | [a, .f .f32 t], [] => match asLg a with
    | some (n, g) => some (ansC n (tpRe (rdRe g) (rdIm g) (t .u)) (tpIm (rdRe g) (rdIm g) (t .u)) (okTP (n .u) (rdRe g) (rdIm g) (t .u)) (IsC n g ∧ pTP (n .u) (rdRe g) (rdIm g) (t .u)))
    | none => none
  | _, _ => none
def ctTP : CT := [(44, .r kAreP), (45, .r kFin), (38, .r kPh), (46, .r kMulC), (39, .g 1 kGiveC)]
theorem ctTP_ok : CTok Try.prog ctTP := .cons areP_tells (.cons IsFinite_tells (.cons implPh (.cons mulC_tells (.cons checkedC_g (.nil _)))))
theorem tpNo {p a b : Bool} (hp : p = true) (h : (!(p && a) || !b) = true) : (a && b) = false := by
  subst hp
  cases a <;> cases b <;> simp_all
theorem tpYes {p a b : Bool} (hp : p = true) (h : (!(p && a) || !b) = false) : (a && b) = true := by
  subst hp
  cases a <;> cases b <;> simp_all
set_option maxHeartbeats 2000000 in
theorem turnP_g : Tells Try.prog 17 (.g 0 kTP) := by
  intro args Hc r hr
  unfold kTP at hr
  split at hr <;> first | (cases hr; done) | skip
  split at hr <;> cases hr
  rename_i t _ n g hL
  refine AnsOk.two ttok Try.func17 rfl rfl (Nat.zero_le _) (Nat.zero_le _) (allFr_tup2 .own .b) (allFr_tup2 .v .b) frH_C .nil fun ⟨hF, hP⟩ => ⟨[listC false n (rdRe g) (rdIm g), .f .f32 t], ⟨Sub.asLgC hL hF, Sub.refl _, trivial⟩, ?_⟩
  have hn := hF.1
  generalize rdRe g = x at hP ⊢
  generalize rdIm g = y at hP ⊢
  refine AW.exec ttok ctTP_ok (by cbv) ?_
  simp only [natCast_int, Post, All, thenA, canon0, canon064, and_true, true_and, forall_const, implies_true, decide_eq_true_eq, decide_eq_false_iff_not, Bool.not_eq_true', Bool.not_eq_false', Bool.true_and, Bool.and_true, beq_true, beq_false, Int.toNat_natCast, Int.ofNat_lt, Int.ofNat_le, Nat.zero_add, Nat.add_zero, imp_self, Bool.cond_false_right, Bool.cond_true_left, Bool.cond_true_right, IsF, rdF_eq, fOf, AV.f.injEq, exists_eq', free_list, free_fn0, List.not_mem_nil, List.mem_cons, false_imp, forall_eq, or_false, free_i, free_f, free_b, ren_f, ren_i, ren_b, and_self, bne_iff_ne, bne_eq_false_iff_eq, ne_eq, Int.natCast_inj, or_true, true_or, freeB_list, unfr_f, unfr_i, unfr_b, unfr_c, unfr_s, free_c, free_s, ren_c, ren_s, unfr_ro, unfr_rptr, ren_ro, free_ll, free_box, kill_f, kill_i, kill_b, kill_c, kill_s, kill_rof, kill_rot, Int.toNat_zero, isFF_ll, rowN_ll, rowX_ll, AllFree, Option.some.injEq, Prod.mk.injEq, Bool.false_eq_true, Bool.true_eq_false, isC_list, free_lc, hn]
  (repeat' first | with_reducible assumption | with_reducible apply And.intro | with_reducible intro hh) <;> first | ((first | with_reducible show (_ : Int) ≤ _ | with_reducible show (_ : Int) < _ | with_reducible show (_ : Nat) ≤ _ | with_reducible show (_ : Nat) < _ | with_reducible show (_ : Int) = _ | with_reducible show (_ : Nat) = _ | with_reducible show ¬ _ | with_reducible show _ ≠ _) <;> first | omega | (simp only [Bool.and_eq_true, Bool.or_eq_false_iff, Bool.not_eq_false', Bool.not_eq_true', decide_eq_true_eq, decide_eq_false_iff_not] at *; omega) | (with_reducible assumption)) | (with_reducible assumption) | skip
  · have h : ((decide (n .u ≤ 128) && allC (n .u) x y) && isFin (t .u)) = false := tpNo (decide_eq_true (Int.natCast_nonneg _)) hh
    exact okA.no (by unfold okTP; rw [h, Bool.false_and]) (fin_ret (.inl rfl) (by cbv) (by simp) (To.fresh noL_to))
  have h : ((decide (n .u ≤ 128) && allC (n .u) x y) && isFin (t .u)) = true := tpYes (decide_eq_true (Int.natCast_nonneg _)) hh
  have h128 : n .u ≤ 128 := by
    rw [Bool.and_eq_true, Bool.and_eq_true, decide_eq_true_eq] at h
    exact h.1.1
  refine AW.loopH (ι := Nat) (fun i => i ≤ n .u) (fun i => n .u - i) (fun i => mkE Try.f17.ntmps [(0, listC false n x y), (1, .f .f32 t), (6, .own 0 (fun _ => 0) (fun _ => i) 1), (18, listC false n x y), (19, .i .i64 fun _ => (n .u : Int)), (20, .i .i64 fun _ => (i : Int))])
    (fun i => [blkC true (fun _ => i) (tpRe x y (t .u)) (tpIm x y (t .u))]) 0 (Nat.zero_le _) (To.list (Nat.zero_le _) (Nat.le_refl _) (fun e => e) (fun j hj => absurd hj (Nat.not_lt_zero _)) ?_) ?_
  · (repeat' first | exact AllTo.nil | apply AllTo.cons) <;> first | exact AvTo.dead _ | exact AvTo.i rfl | exact AvTo.f rfl | exact AvTo.own rfl rfl rfl rfl | exact Free.same Free.listC | skip
  rintro Q' hQ i hi
  refine AW.exec ttok ctTP_ok (by cbv) ?_
  simp only [natCast_int, Post, All, thenA, canon0, canon064, and_true, true_and, forall_const, implies_true, decide_eq_true_eq, decide_eq_false_iff_not, Bool.not_eq_true', Bool.not_eq_false', Bool.true_and, Bool.and_true, beq_true, beq_false, Int.toNat_natCast, Int.ofNat_lt, Int.ofNat_le, Nat.zero_add, Nat.add_zero, imp_self, Bool.cond_false_right, Bool.cond_true_left, Bool.cond_true_right, IsF, rdF_eq, fOf, AV.f.injEq, exists_eq', free_list, free_fn0, List.not_mem_nil, List.mem_cons, false_imp, forall_eq, or_false, free_i, free_f, free_b, ren_f, ren_i, ren_b, and_self, bne_iff_ne, bne_eq_false_iff_eq, ne_eq, Int.natCast_inj, or_true, true_or, freeB_list, unfr_f, unfr_i, unfr_b, unfr_c, unfr_s, free_c, free_s, ren_c, ren_s, unfr_ro, unfr_rptr, ren_ro, free_ll, free_box, kill_f, kill_i, kill_b, kill_c, kill_s, kill_rof, kill_rot, Int.toNat_zero, isFF_ll, rowN_ll, rowX_ll, AllFree, Option.some.injEq, Prod.mk.injEq, Bool.false_eq_true, Bool.true_eq_false, hn]
  (repeat' first | with_reducible assumption | with_reducible apply And.intro | with_reducible intro hh) <;> first | ((first | with_reducible show (_ : Int) ≤ _ | with_reducible show (_ : Int) < _ | with_reducible show (_ : Nat) ≤ _ | with_reducible show (_ : Nat) < _ | with_reducible show (_ : Int) = _ | with_reducible show (_ : Nat) = _ | with_reducible show ¬ _ | with_reducible show _ ≠ _) <;> first | omega | (simp only [Bool.and_eq_true, Bool.or_eq_false_iff, Bool.not_eq_false', Bool.not_eq_true', decide_eq_true_eq, decide_eq_false_iff_not] at *; omega) | (with_reducible assumption)) | (with_reducible assumption) | skip
  · exact (hP i ‹_›).1
  · exact (hP i ‹_›).2.1
  · exact (hP i ‹_›).2.2
  · refine ⟨i + 1, by omega, by omega, To.moved (k := 2) rfl (Nat.le_refl _) (fun e => e) (fun j hj => app_one hj (fun _ => AvTo.c rfl rfl) fun e => AvTo.c (by subst e; rfl) (by subst e; rfl)) ?_⟩
    (repeat' first | exact AllTo.nil | apply AllTo.cons) <;> first | exact AvTo.dead _ | exact AvTo.i rfl | exact AvTo.f rfl | exact AvTo.own rfl rfl rfl rfl | exact Free.same Free.listC | skip
  · obtain rfl : i = n .u := by omega
    obtain ⟨rfl⟩ := hQ
    refine Post.eval (by cbv) ?_
    simp only [natCast_int, Post, All, thenA, canon0, canon064, and_true, true_and, forall_const, implies_true, decide_eq_true_eq, decide_eq_false_iff_not, Bool.not_eq_true', Bool.not_eq_false', Bool.true_and, Bool.and_true, beq_true, beq_false, Int.toNat_natCast, Int.ofNat_lt, Int.ofNat_le, Nat.zero_add, Nat.add_zero, imp_self, Bool.cond_false_right, Bool.cond_true_left, Bool.cond_true_right, IsF, rdF_eq, fOf, AV.f.injEq, exists_eq', free_list, free_fn0, List.not_mem_nil, List.mem_cons, false_imp, forall_eq, or_false, free_i, free_f, free_b, ren_f, ren_i, ren_b, and_self, bne_iff_ne, bne_eq_false_iff_eq, ne_eq, Int.natCast_inj, or_true, true_or, freeB_list, unfr_f, unfr_i, unfr_b, unfr_c, unfr_s, free_c, free_s, ren_c, ren_s, unfr_ro, unfr_rptr, ren_ro, free_ll, free_box, kill_f, kill_i, kill_b, kill_c, kill_s, kill_rof, kill_rot, Int.toNat_zero, isFF_ll, rowN_ll, rowX_ll, AllFree, Option.some.injEq, Prod.mk.injEq, Bool.false_eq_true, Bool.true_eq_false, isC_list, isC_nil, free_lc, free_cc, freeB_listC, hn]
    (repeat' first | with_reducible assumption | with_reducible apply And.intro | with_reducible intro hh) <;> first | ((first | with_reducible show (_ : Int) ≤ _ | with_reducible show (_ : Int) < _ | with_reducible show (_ : Nat) ≤ _ | with_reducible show (_ : Nat) < _ | with_reducible show (_ : Int) = _ | with_reducible show (_ : Nat) = _ | with_reducible show ¬ _ | with_reducible show _ ≠ _) <;> first | omega | (simp only [Bool.and_eq_true, Bool.or_eq_false_iff, Bool.not_eq_false', Bool.not_eq_true', decide_eq_true_eq, decide_eq_false_iff_not] at *; omega) | (with_reducible assumption)) | (with_reducible assumption) | skip
    · have h2 : allC (n .u) (tpRe x y (t .u)) (tpIm x y (t .u)) = true := hh
      exact okA.yes (by unfold okTP; rw [h, h2]; rfl) (fin_ret (.inl rfl) (by cbv) (by simp) (To.pick [0] (by decide) (Nat.zero_le _) (fun j hj => absurd hj (Nat.not_lt_zero _)) ⟨.list (fun e => e) (Nat.le_refl _) fun j hj => AvTo.c rfl rfl, trivial⟩ (.cons (.tup (.cons (.own rfl rfl rfl rfl) (.cons (.b rfl) .nil))) .nil)))
    · have h2 : allC (n .u) (tpRe x y (t .u)) (tpIm x y (t .u)) = false := hh
      exact okA.no (by unfold okTP; rw [h, h2]; rfl) (fin_ret (.inl rfl) (by cbv) (by simp) (To.fresh noL_to))
/-! The mean. -/
def sumC (x : Nat → Nat) : Nat → Nat
  | 0 => 0
  | i + 1 => fadd .f32 (sumC x i) (x i)
def meanX (n : Nat) (x : Nat → Nat) : Nat := fdiv .f32 (sumC x n) (itof .f32 (n : Int))
def okMP (n : Nat) (x y : Nat → Nat) : Bool := (decide (1 ≤ (n : Int)) && (decide (n ≤ 128) && allC n x y)) && (isFin (meanX n x) && isFin (meanX n y))
def kMP : Kr
  | [a] => match asL a with
    | some (n, g) => some (.tup [.c .f32 (fun _ => bif okMP (n .u) (rdRe g) (rdIm g) then meanX (n .u) (rdRe g) else 0) fun _ => bif okMP (n .u) (rdRe g) (rdIm g) then meanX (n .u) (rdIm g) else 0, .b fun _ => okMP (n .u) (rdRe g) (rdIm g)], [], fun _ => IsC n g)
    | none => none
  | _ => none
def ctMP : CT := [(44, .r kAreP), (36, .r kPlus), (47, .r kFinC)]
theorem ctMP_ok : CTok Try.prog ctMP := .cons areP_tells (.cons plus_tells (.cons finC_tells (.nil _)))
set_option maxHeartbeats 2000000 in
theorem meanP_tells : Tells Try.prog 18 (.r kMP) := by
  intro args r H' p hr hp
  unfold kMP at hr
  split at hr <;> first | (cases hr; done) | skip
  split at hr <;> cases hr
  rename_i _ n g hL
  refine ⟨allFr_tup2 .c .b, .nil, Con.pre (args' := [listC false n (rdRe g) (rdIm g)]) ⟨Sub.asC hL hp, trivial⟩ ?_⟩
  have hn := hp.1
  generalize rdRe g = x
  generalize rdIm g = y
  refine Con.of ttok Try.func18 rfl rfl (Nat.zero_le _) (AW.exec ttok ctMP_ok (by cbv) ?_)
  simp only [natCast_int, Post, All, thenA, canon0, canon064, and_true, true_and, forall_const, implies_true, decide_eq_true_eq, decide_eq_false_iff_not, Bool.not_eq_true', Bool.not_eq_false', Bool.true_and, Bool.and_true, beq_true, beq_false, Int.toNat_natCast, Int.ofNat_lt, Int.ofNat_le, Nat.zero_add, Nat.add_zero, imp_self, Bool.cond_false_right, Bool.cond_true_left, Bool.cond_true_right, IsF, rdF_eq, fOf, AV.f.injEq, exists_eq', free_list, free_fn0, List.not_mem_nil, List.mem_cons, false_imp, forall_eq, or_false, free_i, free_f, free_b, ren_f, ren_i, ren_b, and_self, bne_iff_ne, bne_eq_false_iff_eq, ne_eq, Int.natCast_inj, or_true, true_or, freeB_list, unfr_f, unfr_i, unfr_b, unfr_c, unfr_s, free_c, free_s, ren_c, ren_s, unfr_ro, unfr_rptr, ren_ro, free_ll, free_box, kill_f, kill_i, kill_b, kill_c, kill_s, kill_rof, kill_rot, Int.toNat_zero, isFF_ll, rowN_ll, rowX_ll, AllFree, Option.some.injEq, Prod.mk.injEq, Bool.false_eq_true, Bool.true_eq_false, isC_list, free_lc, hn]
  (repeat' first | with_reducible assumption | with_reducible apply And.intro | with_reducible intro hh) <;> first | ((first | with_reducible show (_ : Int) ≤ _ | with_reducible show (_ : Int) < _ | with_reducible show (_ : Nat) ≤ _ | with_reducible show (_ : Nat) < _ | with_reducible show (_ : Int) = _ | with_reducible show (_ : Nat) = _ | with_reducible show ¬ _ | with_reducible show _ ≠ _) <;> first | omega | (simp only [Bool.and_eq_true, Bool.or_eq_false_iff, Bool.not_eq_false', Bool.not_eq_true', decide_eq_true_eq, decide_eq_false_iff_not] at *; omega) | (with_reducible assumption)) | (with_reducible assumption) | skip
  · have h : (decide (1 ≤ (n .u : Int)) && (decide (n .u ≤ 128) && allC (n .u) x y)) = false := hh
    refine fin_ret (.inl rfl) (by cbv) (by simp) (To.fresh (.cons (.tup (.cons (.c ?_ ?_) (.cons (.b ?_) .nil))) .nil))
    all_goals unfold okMP
    all_goals rw [h]
    all_goals rfl
  have h : (decide (1 ≤ (n .u : Int)) && (decide (n .u ≤ 128) && allC (n .u) x y)) = true := by assumption
  have h128 : n .u ≤ 128 := by
    rw [Bool.and_eq_true, Bool.and_eq_true, decide_eq_true_eq, decide_eq_true_eq] at h
    exact h.2.1
  refine AW.loopH (ι := Nat) (fun i => i ≤ n .u) (fun i => n .u - i) (fun i => mkE Try.f18.ntmps [(0, listC false n x y), (4, .c .f32 (fun _ => sumC x i) fun _ => sumC y i), (12, listC false n x y), (13, .i .i64 fun _ => (n .u : Int)), (14, .i .i64 fun _ => (i : Int))])
    (fun i => []) 0 (Nat.zero_le _) (To.same (Nat.le_refl _) trivial ?_) ?_
  · (repeat' first | exact AllTo.nil | apply AllTo.cons) <;> first | exact AvTo.dead _ | exact AvTo.i rfl | exact AvTo.c rfl rfl | exact Free.same Free.listC | skip
  rintro Q' hQ i hi
  refine AW.exec ttok ctMP_ok (by cbv) ?_
  simp only [natCast_int, Post, All, thenA, canon0, canon064, and_true, true_and, forall_const, implies_true, decide_eq_true_eq, decide_eq_false_iff_not, Bool.not_eq_true', Bool.not_eq_false', Bool.true_and, Bool.and_true, beq_true, beq_false, Int.toNat_natCast, Int.ofNat_lt, Int.ofNat_le, Nat.zero_add, Nat.add_zero, imp_self, Bool.cond_false_right, Bool.cond_true_left, Bool.cond_true_right, IsF, rdF_eq, fOf, AV.f.injEq, exists_eq', free_list, free_fn0, List.not_mem_nil, List.mem_cons, false_imp, forall_eq, or_false, free_i, free_f, free_b, ren_f, ren_i, ren_b, and_self, bne_iff_ne, bne_eq_false_iff_eq, ne_eq, Int.natCast_inj, or_true, true_or, freeB_list, unfr_f, unfr_i, unfr_b, unfr_c, unfr_s, free_c, free_s, ren_c, ren_s, unfr_ro, unfr_rptr, ren_ro, free_ll, free_box, kill_f, kill_i, kill_b, kill_c, kill_s, kill_rof, kill_rot, Int.toNat_zero, isFF_ll, rowN_ll, rowX_ll, AllFree, Option.some.injEq, Prod.mk.injEq, Bool.false_eq_true, Bool.true_eq_false, hn]
  (repeat' first | with_reducible assumption | with_reducible apply And.intro | with_reducible intro hh) <;> first | ((first | with_reducible show (_ : Int) ≤ _ | with_reducible show (_ : Int) < _ | with_reducible show (_ : Nat) ≤ _ | with_reducible show (_ : Nat) < _ | with_reducible show (_ : Int) = _ | with_reducible show (_ : Nat) = _ | with_reducible show ¬ _ | with_reducible show _ ≠ _) <;> first | omega | (simp only [Bool.and_eq_true, Bool.or_eq_false_iff, Bool.not_eq_false', Bool.not_eq_true', decide_eq_true_eq, decide_eq_false_iff_not] at *; omega) | (with_reducible assumption)) | (with_reducible assumption) | skip
  · refine ⟨i + 1, by omega, by omega, To.same (Nat.le_refl _) trivial ?_⟩
    (repeat' first | exact AllTo.nil | apply AllTo.cons) <;> first | exact AvTo.dead _ | exact AvTo.i rfl | exact AvTo.c rfl rfl | exact Free.same Free.listC | skip
  · obtain rfl : i = n .u := by omega
    obtain ⟨rfl⟩ := hQ
    refine Post.eval (by cbv) ?_
    simp only [natCast_int, Post, All, thenA, canon0, canon064, and_true, true_and, forall_const, implies_true, decide_eq_true_eq, decide_eq_false_iff_not, Bool.not_eq_true', Bool.not_eq_false', Bool.true_and, Bool.and_true, beq_true, beq_false, Int.toNat_natCast, Int.ofNat_lt, Int.ofNat_le, Nat.zero_add, Nat.add_zero, imp_self, Bool.cond_false_right, Bool.cond_true_left, Bool.cond_true_right, IsF, rdF_eq, fOf, AV.f.injEq, exists_eq', free_list, free_fn0, List.not_mem_nil, List.mem_cons, false_imp, forall_eq, or_false, free_i, free_f, free_b, ren_f, ren_i, ren_b, and_self, bne_iff_ne, bne_eq_false_iff_eq, ne_eq, Int.natCast_inj, or_true, true_or, freeB_list, unfr_f, unfr_i, unfr_b, unfr_c, unfr_s, free_c, free_s, ren_c, ren_s, unfr_ro, unfr_rptr, ren_ro, free_ll, free_box, kill_f, kill_i, kill_b, kill_c, kill_s, kill_rof, kill_rot, Int.toNat_zero, isFF_ll, rowN_ll, rowX_ll, AllFree, Option.some.injEq, Prod.mk.injEq, Bool.false_eq_true, Bool.true_eq_false, free_cc]
    (repeat' first | with_reducible assumption | with_reducible apply And.intro | with_reducible intro hh) <;> first | ((first | with_reducible show (_ : Int) ≤ _ | with_reducible show (_ : Int) < _ | with_reducible show (_ : Nat) ≤ _ | with_reducible show (_ : Nat) < _ | with_reducible show (_ : Int) = _ | with_reducible show (_ : Nat) = _ | with_reducible show ¬ _ | with_reducible show _ ≠ _) <;> first | omega | (simp only [Bool.and_eq_true, Bool.or_eq_false_iff, Bool.not_eq_false', Bool.not_eq_true', decide_eq_true_eq, decide_eq_false_iff_not] at *; omega) | (with_reducible assumption)) | (with_reducible assumption) | skip
    · have h2 : (isFin (meanX (n .u) x) && isFin (meanX (n .u) y)) = false := hh
      refine fin_ret (.inl rfl) (by cbv) (by simp) (To.fresh (.cons (.tup (.cons (.c ?_ ?_) (.cons (.b ?_) .nil))) .nil))
      all_goals unfold okMP
      all_goals rw [h, h2]
      all_goals rfl
    · have h2 : (isFin (meanX (n .u) x) && isFin (meanX (n .u) y)) = true := by assumption
      refine fin_ret (.inl rfl) (by cbv) (by simp) (To.fresh (.cons (.tup (.cons (.c ?_ ?_) (.cons (.b ?_) .nil))) .nil))
      all_goals unfold okMP
      all_goals rw [h, h2]
      all_goals rfl
end Go.Proofs.Ytjkibcdmpjppbaa
