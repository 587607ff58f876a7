/- Lines of a scan, on both sides. -/
import Derived.Test.YtjkibcdmpjppbaaUd
import Derived.Test.YtjkibcdmpjppbaaUf
import Derived.Test.YtjkibcdmpjppbaaHg
set_option linter.unusedSimpArgs false
set_option linter.unusedVariables false
namespace Go.Proofs.Ytjkibcdmpjppbaa
open Go.Aw
def turnX (n k i : Nat) : Nat := fneg .f64 (fdiv .f64 (itof .f64 ((k : Int) * (i : Int))) (itof .f64 (n : Int)))
def sumRe (n : Nat) (x : Nat → Nat) (k : Nat) : Nat → Nat
  | 0 => 0
  | i + 1 => fadd .f32 (sumRe n x k i) (fmul .f32 (phC (turnX n k i)) (x i))
def sumIm (n : Nat) (x : Nat → Nat) (k : Nat) : Nat → Nat
  | 0 => 0
  | i + 1 => fadd .f32 (sumIm n x k i) (fmul .f32 (phS (turnX n k i)) (x i))
def lineRe (n : Nat) (x : Nat → Nat) (k : Nat) : Nat := sumRe n x k n
def lineIm (n : Nat) (x : Nat → Nat) (k : Nat) : Nat := sumIm n x k n
theorem turn_cl {n k i : Nat} (h1 : 1 ≤ n) (h2 : n ≤ 64) (hk : k ≤ 64) (hi : i ≤ 64) : Cl (turnX n k i) 51 := by
  have hki : k * i ≤ 64 * 64 := Nat.mul_le_mul hk hi
  have hc : ((k : Int) * (i : Int)) = ((k * i : Nat) : Int) := (Int.natCast_mul k i).symm
  have ha : Cl (itof .f64 ((k : Int) * (i : Int))) 41 := by rw [hc]; exact itof_cl (by omega) (by omega)
  have hn0 : n ≠ 0 := by omega
  have hl : n.log2 ≤ 6 := by
    have := (Nat.log2_lt hn0).2 (show n < 2 ^ 7 by omega)
    omega
  have hr := read_write64 (s := false) hn0 (show n < 2 ^ 53 from Nat.lt_of_le_of_lt h2 (by decide)) (e := 0) (by omega) (by omega)
  have hw : itof .f64 (n : Int) = FloatKind.f64.format.write (.number false n 0) := by
    unfold itof FloatKind.nearest FloatKind.encode
    rw [Int.natAbs_natCast, show decide ((n : Int) < 0) = false from decide_eq_false (by omega)]
  have hb : 2 ^ 52 ≤ n <<< (52 - n.log2) := by
    have h1 : 2 ^ n.log2 ≤ n := Nat.log2_self_le hn0
    rw [Nat.shiftLeft_eq]
    calc 2 ^ 52 = 2 ^ n.log2 * 2 ^ (52 - n.log2) := by rw [← Nat.pow_add]; congr 1; omega
      _ ≤ n * 2 ^ (52 - n.log2) := Nat.mul_le_mul_right _ h1
  rw [← hw] at hr
  have hd := cl_div ha hr hb (C := 0) (by omega) (by decide) (by decide)
  exact (hd.mono (by decide)).neg
theorem binsF_le {n : Nat} {x : Nat → Nat} (h : binsF n x = true) : 2 ≤ n ∧ n ≤ 64 := by
  unfold binsF at h
  rw [Bool.and_eq_true, Bool.and_eq_true, decide_eq_true_eq, decide_eq_true_eq] at h
  exact ⟨h.1, h.2.1⟩
abbrev ansC (n : Th Nat) (x y : Nat → Nat) (ok : Bool) (p : Prop) : Ans := .two (fun _ => ok) (.one (yesL n) [blkC true n x y] fun _ => p) (.one noL [] fun _ => p)
def okSL (n : Nat) (x : Nat → Nat) : Bool := binsF n x && allC (n / 2 + 1) (lineRe n x) (lineIm n x)
def kSL : Kg
  | [a], [] => match asLg a with
    | some (n, g) => some (ansC (fun _ => n .u / 2 + 1) (lineRe (n .u) (rdF g)) (lineIm (n .u) (rdF g)) (okSL (n .u) (rdF g)) (IsF n g))
    | none => none
  | _, _ => none
def ctSLI : CT := [(35, .r kScan), (38, .r kPh), (37, .r kScale), (36, .r kPlus), (39, .g 1 kGiveC)]
theorem ctSLI_ok : CTok Try.prog ctSLI := .cons isScan_tells (.cons implPh (.cons scaleI_tells (.cons plus_tells (.cons checkedC_g (.nil _)))))
set_option maxHeartbeats 2000000 in
theorem implSL : Tells Try.prog 8 (.g 0 kSL) := by
  intro args Hc r hr
  unfold kSL at hr
  split at hr <;> first | (cases hr; done) | skip
  split at hr <;> cases hr
  rename_i n g hL
  refine AnsOk.two ttok Try.func8 rfl rfl (Nat.zero_le _) (Nat.zero_le _) (allFr_tup2 .own .b) (allFr_tup2 .v .b) frH_C .nil fun hF => ⟨[listF false n (rdF g)], ⟨Sub.asLg hL hF, trivial⟩, ?_⟩
  have hn := hF.1
  generalize rdF g = x
  have hq : ((n .u : Int)).tdiv 2 = ((n .u / 2 : Nat) : Int) := rfl
  refine AW.exec ttok ctSLI_ok (by cbv) ?_
  simp only [natCast_int, Post, All, thenA, canon0, canon064, and_true, true_and, forall_const, implies_true, decide_eq_true_eq, decide_eq_false_iff_not, Bool.not_eq_true', Bool.not_eq_false', Bool.true_and, Bool.and_true, beq_true, beq_false, Int.toNat_natCast, Int.ofNat_lt, Int.ofNat_le, Nat.zero_add, Nat.add_zero, imp_self, Bool.cond_false_right, Bool.cond_true_left, Bool.cond_true_right, IsF, rdF_eq, fOf, AV.f.injEq, exists_eq', free_list, free_fn0, List.not_mem_nil, List.mem_cons, false_imp, forall_eq, or_false, free_i, free_f, free_b, ren_f, ren_i, ren_b, and_self, bne_iff_ne, bne_eq_false_iff_eq, ne_eq, Int.natCast_inj, or_true, true_or, freeB_list, unfr_f, unfr_i, unfr_b, unfr_c, unfr_s, free_c, free_s, ren_c, ren_s, unfr_ro, unfr_rptr, ren_ro, free_ll, free_box, kill_f, kill_i, kill_b, kill_c, kill_s, kill_rof, kill_rot, Int.toNat_zero, isFF_ll, rowN_ll, rowX_ll, AllFree, Option.some.injEq, Prod.mk.injEq, Bool.false_eq_true, Bool.true_eq_false, hn, hq]
  (repeat' first | with_reducible assumption | with_reducible apply And.intro | with_reducible intro hh) <;> first | ((first | with_reducible show (_ : Int) ≤ _ | with_reducible show (_ : Int) < _ | with_reducible show (_ : Nat) ≤ _ | with_reducible show (_ : Nat) < _ | with_reducible show (_ : Int) = _ | with_reducible show (_ : Nat) = _ | with_reducible show ¬ _ | with_reducible show _ ≠ _) <;> first | omega | (simp only [Bool.and_eq_true, Bool.or_eq_false_iff, Bool.not_eq_false', Bool.not_eq_true', decide_eq_true_eq, decide_eq_false_iff_not] at *; omega) | (with_reducible assumption)) | (with_reducible assumption) | skip
  · exact okA.no (by unfold okSL; rw [show binsF (n .u) x = false from hh, Bool.false_and]) (fin_ret (.inl rfl) (by cbv) (by simp) (To.fresh noL_to))
  have hb : binsF (n .u) x = true := by assumption
  obtain ⟨h2, h64⟩ := binsF_le hb
  refine AW.loopH (ι := Nat) (fun k => k ≤ n .u / 2 + 1) (fun k => n .u / 2 + 1 - k) (fun k => mkE Try.f8.ntmps [(0, listF false n x), (4, .i .i64 fun _ => (n .u : Int)), (5, .own 0 (fun _ => 0) (fun _ => k) 1), (18, .i .i64 fun _ => ((n .u / 2 : Nat) : Int) + 1), (19, .i .i64 fun _ => (k : Int))])
    (fun k => [blkC true (fun _ => k) (lineRe (n .u) x) (lineIm (n .u) x)]) 0 (Nat.zero_le _) (To.list (Nat.zero_le _) (Nat.le_refl _) (fun e => e) (fun j hj => absurd hj (Nat.not_lt_zero _)) ?_) ?_
  · (repeat' first | exact AllTo.nil | apply AllTo.cons) <;> first | exact AvTo.dead _ | exact AvTo.i rfl | exact AvTo.own rfl rfl rfl rfl | exact Free.same .listF | skip
  rintro Q' hQ k hk
  refine AW.exec ttok ctSLI_ok (by cbv) ?_
  simp only [natCast_int, Post, All, thenA, canon0, canon064, and_true, true_and, forall_const, implies_true, decide_eq_true_eq, decide_eq_false_iff_not, Bool.not_eq_true', Bool.not_eq_false', Bool.true_and, Bool.and_true, beq_true, beq_false, Int.toNat_natCast, Int.ofNat_lt, Int.ofNat_le, Nat.zero_add, Nat.add_zero, imp_self, Bool.cond_false_right, Bool.cond_true_left, Bool.cond_true_right, IsF, rdF_eq, fOf, AV.f.injEq, exists_eq', free_list, free_fn0, List.not_mem_nil, List.mem_cons, false_imp, forall_eq, or_false, free_i, free_f, free_b, ren_f, ren_i, ren_b, and_self, bne_iff_ne, bne_eq_false_iff_eq, ne_eq, Int.natCast_inj, or_true, true_or, freeB_list, unfr_f, unfr_i, unfr_b, unfr_c, unfr_s, free_c, free_s, ren_c, ren_s, unfr_ro, unfr_rptr, ren_ro, free_ll, free_box, kill_f, kill_i, kill_b, kill_c, kill_s, kill_rof, kill_rot, Int.toNat_zero, isFF_ll, rowN_ll, rowX_ll, AllFree, Option.some.injEq, Prod.mk.injEq, Bool.false_eq_true, Bool.true_eq_false, hn]
  (repeat' first | with_reducible assumption | with_reducible apply And.intro | with_reducible intro hh) <;> first | ((first | with_reducible show (_ : Int) ≤ _ | with_reducible show (_ : Int) < _ | with_reducible show (_ : Nat) ≤ _ | with_reducible show (_ : Nat) < _ | with_reducible show (_ : Int) = _ | with_reducible show (_ : Nat) = _ | with_reducible show ¬ _ | with_reducible show _ ≠ _) <;> first | omega | (simp only [Bool.and_eq_true, Bool.or_eq_false_iff, Bool.not_eq_false', Bool.not_eq_true', decide_eq_true_eq, decide_eq_false_iff_not] at *; omega) | (with_reducible assumption)) | (with_reducible assumption) | skip
  · refine AW.loopH (ι := Nat) (fun i => i ≤ n .u) (fun i => n .u - i) (fun i => mkE Try.f8.ntmps [(0, listF false n x), (4, .i .i64 fun _ => (n .u : Int)), (5, .own 0 (fun _ => 0) (fun _ => k) 1), (6, .i .i64 fun _ => (k : Int)), (7, .c .f32 (fun _ => sumRe (n .u) x k i) fun _ => sumIm (n .u) x k i), (18, .i .i64 fun _ => ((n .u / 2 : Nat) : Int) + 1), (19, .i .i64 fun _ => (k : Int)), (22, listF false n x), (23, .i .i64 fun _ => (n .u : Int)), (24, .i .i64 fun _ => (i : Int))])
      (fun i => [blkC true (fun _ => k) (lineRe (n .u) x) (lineIm (n .u) x)]) 0 (Nat.zero_le _) (To.list (Nat.zero_le _) (Nat.le_refl _) (fun e => e) (fun j hj => AvTo.c rfl rfl) ?_) ?_
    · (repeat' first | exact AllTo.nil | apply AllTo.cons) <;> first | exact AvTo.dead _ | exact AvTo.i rfl | exact AvTo.c rfl rfl | exact AvTo.own rfl rfl rfl rfl | exact Free.same .listF | skip
    rintro Q2 hQ2 i hi
    have hcl : i < n .u → Cl (fneg .f64 (fdiv .f64 (itof .f64 ((k : Int) * (i : Int))) (itof .f64 (n .u : Int)))) 51 := fun h => turn_cl (by omega) h64 (by omega) (by omega)
    have hki : k * i ≤ 64 * 64 := Nat.mul_le_mul (by omega) (by omega)
    have hc : ((k : Int) * (i : Int)) = ((k * i : Nat) : Int) := (Int.natCast_mul k i).symm
    have hkA : -9223372036854775808 ≤ (k : Int) * (i : Int) := by omega
    have hkB : (k : Int) * (i : Int) ≤ 9223372036854775807 := by omega
    refine AW.exec ttok ctSLI_ok (by cbv) ?_
    simp only [natCast_int, Post, All, thenA, canon0, canon064, and_true, true_and, forall_const, implies_true, decide_eq_true_eq, decide_eq_false_iff_not, Bool.not_eq_true', Bool.not_eq_false', Bool.true_and, Bool.and_true, beq_true, beq_false, Int.toNat_natCast, Int.ofNat_lt, Int.ofNat_le, Nat.zero_add, Nat.add_zero, imp_self, Bool.cond_false_right, Bool.cond_true_left, Bool.cond_true_right, IsF, rdF_eq, fOf, AV.f.injEq, exists_eq', free_list, free_fn0, List.not_mem_nil, List.mem_cons, false_imp, forall_eq, or_false, free_i, free_f, free_b, ren_f, ren_i, ren_b, and_self, bne_iff_ne, bne_eq_false_iff_eq, ne_eq, Int.natCast_inj, or_true, true_or, freeB_list, unfr_f, unfr_i, unfr_b, unfr_c, unfr_s, free_c, free_s, ren_c, ren_s, unfr_ro, unfr_rptr, ren_ro, free_ll, free_box, kill_f, kill_i, kill_b, kill_c, kill_s, kill_rof, kill_rot, Int.toNat_zero, isFF_ll, rowN_ll, rowX_ll, AllFree, Option.some.injEq, Prod.mk.injEq, Bool.false_eq_true, Bool.true_eq_false, hn, hkA, hkB]
    (repeat' first | with_reducible assumption | with_reducible apply And.intro | with_reducible intro hh) <;> first | ((first | with_reducible show (_ : Int) ≤ _ | with_reducible show (_ : Int) < _ | with_reducible show (_ : Nat) ≤ _ | with_reducible show (_ : Nat) < _ | with_reducible show (_ : Int) = _ | with_reducible show (_ : Nat) = _ | with_reducible show ¬ _ | with_reducible show _ ≠ _) <;> first | omega | (simp only [Bool.and_eq_true, Bool.or_eq_false_iff, Bool.not_eq_false', Bool.not_eq_true', decide_eq_true_eq, decide_eq_false_iff_not] at *; omega) | (with_reducible assumption)) | (with_reducible assumption) | skip
    · exact hcl ‹_›
    · refine ⟨i + 1, by omega, by omega, To.list (Nat.zero_le _) (Nat.le_refl _) (fun e => e) (fun j hj => AvTo.c rfl rfl) ?_⟩
      (repeat' first | exact AllTo.nil | apply AllTo.cons) <;> first | exact AvTo.dead _ | exact AvTo.i rfl | exact AvTo.c rfl rfl | exact AvTo.own rfl rfl rfl rfl | exact Free.same .listF | skip
    · obtain rfl : i = n .u := by omega
      obtain ⟨rfl⟩ := hQ2
      refine Post.eval (by cbv) ?_
      simp only [natCast_int, Post, All, thenA, canon0, canon064, and_true, true_and, forall_const, implies_true, decide_eq_true_eq, decide_eq_false_iff_not, Bool.not_eq_true', Bool.not_eq_false', Bool.true_and, Bool.and_true, beq_true, beq_false, Int.toNat_natCast, Int.ofNat_lt, Int.ofNat_le, Nat.zero_add, Nat.add_zero, imp_self, Bool.cond_false_right, Bool.cond_true_left, Bool.cond_true_right, IsF, rdF_eq, fOf, AV.f.injEq, exists_eq', free_list, free_fn0, List.not_mem_nil, List.mem_cons, false_imp, forall_eq, or_false, free_i, free_f, free_b, ren_f, ren_i, ren_b, and_self, bne_iff_ne, bne_eq_false_iff_eq, ne_eq, Int.natCast_inj, or_true, true_or, freeB_list, unfr_f, unfr_i, unfr_b, unfr_c, unfr_s, free_c, free_s, ren_c, ren_s, unfr_ro, unfr_rptr, ren_ro, free_ll, free_box, kill_f, kill_i, kill_b, kill_c, kill_s, kill_rof, kill_rot, Int.toNat_zero, isFF_ll, rowN_ll, rowX_ll, AllFree, Option.some.injEq, Prod.mk.injEq, Bool.false_eq_true, Bool.true_eq_false]
      (repeat' first | with_reducible assumption | with_reducible apply And.intro | with_reducible intro hh) <;> first | ((first | with_reducible show (_ : Int) ≤ _ | with_reducible show (_ : Int) < _ | with_reducible show (_ : Nat) ≤ _ | with_reducible show (_ : Nat) < _ | with_reducible show (_ : Int) = _ | with_reducible show (_ : Nat) = _ | with_reducible show ¬ _ | with_reducible show _ ≠ _) <;> first | omega | (simp only [Bool.and_eq_true, Bool.or_eq_false_iff, Bool.not_eq_false', Bool.not_eq_true', decide_eq_true_eq, decide_eq_false_iff_not] at *; omega) | (with_reducible assumption)) | (with_reducible assumption) | skip
      refine ⟨k + 1, by omega, by omega, To.moved (k := 2) rfl (Nat.le_refl _) (fun e => e) (fun j hj => app_one hj (fun _ => AvTo.c rfl rfl) fun e => AvTo.c (by subst e; rfl) (by subst e; rfl)) ?_⟩
      (repeat' first | exact AllTo.nil | apply AllTo.cons) <;> first | exact AvTo.dead _ | exact AvTo.i rfl | exact AvTo.own rfl rfl rfl rfl | exact Free.same .listF | skip
  · obtain rfl : k = n .u / 2 + 1 := by omega
    have h3 : n .u / 2 + 1 ≤ 9223372036854775807 := by omega
    obtain ⟨rfl⟩ := hQ
    refine Post.eval (by cbv) ?_
    simp only [natCast_int, Post, All, thenA, canon0, canon064, and_true, true_and, forall_const, implies_true, decide_eq_true_eq, decide_eq_false_iff_not, Bool.not_eq_true', Bool.not_eq_false', Bool.true_and, Bool.and_true, beq_true, beq_false, Int.toNat_natCast, Int.ofNat_lt, Int.ofNat_le, Nat.zero_add, Nat.add_zero, imp_self, Bool.cond_false_right, Bool.cond_true_left, Bool.cond_true_right, IsF, rdF_eq, fOf, AV.f.injEq, exists_eq', free_list, free_fn0, List.not_mem_nil, List.mem_cons, false_imp, forall_eq, or_false, free_i, free_f, free_b, ren_f, ren_i, ren_b, and_self, bne_iff_ne, bne_eq_false_iff_eq, ne_eq, Int.natCast_inj, or_true, true_or, freeB_list, unfr_f, unfr_i, unfr_b, unfr_c, unfr_s, free_c, free_s, ren_c, ren_s, unfr_ro, unfr_rptr, ren_ro, free_ll, free_box, kill_f, kill_i, kill_b, kill_c, kill_s, kill_rof, kill_rot, Int.toNat_zero, isFF_ll, rowN_ll, rowX_ll, AllFree, Option.some.injEq, Prod.mk.injEq, Bool.false_eq_true, Bool.true_eq_false, isC_list, isC_nil, free_lc, free_cc, freeB_listC, h3]
    (repeat' first | with_reducible assumption | with_reducible apply And.intro | with_reducible intro hh) <;> first | ((first | with_reducible show (_ : Int) ≤ _ | with_reducible show (_ : Int) < _ | with_reducible show (_ : Nat) ≤ _ | with_reducible show (_ : Nat) < _ | with_reducible show (_ : Int) = _ | with_reducible show (_ : Nat) = _ | with_reducible show ¬ _ | with_reducible show _ ≠ _) <;> first | omega | (simp only [Bool.and_eq_true, Bool.or_eq_false_iff, Bool.not_eq_false', Bool.not_eq_true', decide_eq_true_eq, decide_eq_false_iff_not] at *; omega) | (with_reducible assumption)) | (with_reducible assumption) | skip
    · have h : allC (n .u / 2 + 1) (lineRe (n .u) x) (lineIm (n .u) x) = true := hh
      exact okA.yes (by unfold okSL; rw [hb, h]; rfl) (fin_ret (.inl rfl) (by cbv) (by simp) (To.pick [0] (by decide) (Nat.zero_le _) (fun j hj => absurd hj (Nat.not_lt_zero _)) ⟨.list (fun e => e) (Nat.le_refl _) fun j hj => AvTo.c rfl rfl, trivial⟩ (.cons (.tup (.cons (.own rfl rfl rfl rfl) (.cons (.b rfl) .nil))) .nil)))
    · have h : allC (n .u / 2 + 1) (lineRe (n .u) x) (lineIm (n .u) x) = false := hh
      exact okA.no (by unfold okSL; rw [hb, h]; rfl) (fin_ret (.inl rfl) (by cbv) (by simp) (To.fresh noL_to))
def kLinesC : Kg
  | [a], [] => match asLg a with
    | some (n, g) => some (.one (.own 0 (fun _ => 0) (fun _ => n .u / 2 + 1) 1) [blkC true (fun _ => n .u / 2 + 1) (lineRe (n .u) (rdF g)) (lineIm (n .u) (rdF g))] fun _ => IsF n g ∧ 2 ≤ n .u ∧ n .u ≤ 64)
    | none => none
  | _, _ => none
def ctLinesC : CT := [(64, .r kPh), (49, .r kScale)]
theorem ctLinesC_ok : CTok Try.prog ctLinesC := .cons specPh (.cons scaleS_tells (.nil _))
set_option maxHeartbeats 2000000 in
theorem linesC_g : Tells Try.prog 34 (.g 0 kLinesC) := by
  intro args Hc r hr
  unfold kLinesC at hr
  split at hr <;> first | (cases hr; done) | skip
  split at hr <;> cases hr
  rename_i n g hL
  refine AnsOk.one ttok Try.func34 rfl rfl (Nat.zero_le _) .own frH_C fun ⟨hF, h2, h64⟩ => ⟨[listF false n (rdF g)], ⟨Sub.asLg hL hF, trivial⟩, ?_⟩
  have hn := hF.1
  generalize rdF g = x
  have hq : ((n .u : Int)).tdiv 2 = ((n .u / 2 : Nat) : Int) := rfl
  refine AW.exec ttok ctLinesC_ok (by cbv) ?_
  simp only [natCast_int, Post, All, thenA, canon0, canon064, and_true, true_and, forall_const, implies_true, decide_eq_true_eq, decide_eq_false_iff_not, Bool.not_eq_true', Bool.not_eq_false', Bool.true_and, Bool.and_true, beq_true, beq_false, Int.toNat_natCast, Int.ofNat_lt, Int.ofNat_le, Nat.zero_add, Nat.add_zero, imp_self, Bool.cond_false_right, Bool.cond_true_left, Bool.cond_true_right, IsF, rdF_eq, fOf, AV.f.injEq, exists_eq', free_list, free_fn0, List.not_mem_nil, List.mem_cons, false_imp, forall_eq, or_false, free_i, free_f, free_b, ren_f, ren_i, ren_b, and_self, bne_iff_ne, bne_eq_false_iff_eq, ne_eq, Int.natCast_inj, or_true, true_or, freeB_list, unfr_f, unfr_i, unfr_b, unfr_c, unfr_s, free_c, free_s, ren_c, ren_s, unfr_ro, unfr_rptr, ren_ro, free_ll, free_box, kill_f, kill_i, kill_b, kill_c, kill_s, kill_rof, kill_rot, Int.toNat_zero, isFF_ll, rowN_ll, rowX_ll, AllFree, Option.some.injEq, Prod.mk.injEq, Bool.false_eq_true, Bool.true_eq_false, hn, hq]
  (repeat' first | with_reducible assumption | with_reducible apply And.intro | with_reducible intro hh) <;> first | ((first | with_reducible show (_ : Int) ≤ _ | with_reducible show (_ : Int) < _ | with_reducible show (_ : Nat) ≤ _ | with_reducible show (_ : Nat) < _ | with_reducible show (_ : Int) = _ | with_reducible show (_ : Nat) = _ | with_reducible show ¬ _ | with_reducible show _ ≠ _) <;> first | omega | (simp only [Bool.and_eq_true, Bool.or_eq_false_iff, Bool.not_eq_false', Bool.not_eq_true', decide_eq_true_eq, decide_eq_false_iff_not] at *; omega) | (with_reducible assumption)) | (with_reducible assumption) | skip
  refine AW.loopH (ι := Nat) (fun k => k ≤ n .u / 2 + 1) (fun k => n .u / 2 + 1 - k) (fun k => mkE Try.f34.ntmps [(0, listF false n x), (3, .i .i64 fun _ => (n .u : Int)), (4, .own 0 (fun _ => 0) (fun _ => k) 1), (5, .i .i64 fun _ => (k : Int))])
    (fun k => [blkC true (fun _ => k) (lineRe (n .u) x) (lineIm (n .u) x)]) 0 (Nat.zero_le _) (To.list (Nat.zero_le _) (Nat.le_refl _) (fun e => e) (fun j hj => absurd hj (Nat.not_lt_zero _)) ?_) ?_
  · (repeat' first | exact AllTo.nil | apply AllTo.cons) <;> first | exact AvTo.dead _ | exact AvTo.i rfl | exact AvTo.own rfl rfl rfl rfl | exact Free.same .listF | skip
  rintro Q' hQ k hk
  refine AW.exec ttok ctLinesC_ok (by cbv) ?_
  simp only [natCast_int, Post, All, thenA, canon0, canon064, and_true, true_and, forall_const, implies_true, decide_eq_true_eq, decide_eq_false_iff_not, Bool.not_eq_true', Bool.not_eq_false', Bool.true_and, Bool.and_true, beq_true, beq_false, Int.toNat_natCast, Int.ofNat_lt, Int.ofNat_le, Nat.zero_add, Nat.add_zero, imp_self, Bool.cond_false_right, Bool.cond_true_left, Bool.cond_true_right, IsF, rdF_eq, fOf, AV.f.injEq, exists_eq', free_list, free_fn0, List.not_mem_nil, List.mem_cons, false_imp, forall_eq, or_false, free_i, free_f, free_b, ren_f, ren_i, ren_b, and_self, bne_iff_ne, bne_eq_false_iff_eq, ne_eq, Int.natCast_inj, or_true, true_or, freeB_list, unfr_f, unfr_i, unfr_b, unfr_c, unfr_s, free_c, free_s, ren_c, ren_s, unfr_ro, unfr_rptr, ren_ro, free_ll, free_box, kill_f, kill_i, kill_b, kill_c, kill_s, kill_rof, kill_rot, Int.toNat_zero, isFF_ll, rowN_ll, rowX_ll, AllFree, Option.some.injEq, Prod.mk.injEq, Bool.false_eq_true, Bool.true_eq_false, hn, hq]
  (repeat' first | with_reducible assumption | with_reducible apply And.intro | with_reducible intro hh) <;> first | ((first | with_reducible show (_ : Int) ≤ _ | with_reducible show (_ : Int) < _ | with_reducible show (_ : Nat) ≤ _ | with_reducible show (_ : Nat) < _ | with_reducible show (_ : Int) = _ | with_reducible show (_ : Nat) = _ | with_reducible show ¬ _ | with_reducible show _ ≠ _) <;> first | omega | (simp only [Bool.and_eq_true, Bool.or_eq_false_iff, Bool.not_eq_false', Bool.not_eq_true', decide_eq_true_eq, decide_eq_false_iff_not] at *; omega) | (with_reducible assumption)) | (with_reducible assumption) | skip
  · refine AW.loopH (ι := Nat) (fun i => i ≤ n .u) (fun i => n .u - i) (fun i => mkE Try.f34.ntmps [(0, listF false n x), (3, .i .i64 fun _ => (n .u : Int)), (4, .own 0 (fun _ => 0) (fun _ => k) 1), (5, .i .i64 fun _ => (k : Int)), (6, .c .f32 (fun _ => sumRe (n .u) x k i) fun _ => sumIm (n .u) x k i), (7, .i .i64 fun _ => (i : Int))])
      (fun i => [blkC true (fun _ => k) (lineRe (n .u) x) (lineIm (n .u) x)]) 0 (Nat.zero_le _) (To.list (Nat.zero_le _) (Nat.le_refl _) (fun e => e) (fun j hj => AvTo.c rfl rfl) ?_) ?_
    · (repeat' first | exact AllTo.nil | apply AllTo.cons) <;> first | exact AvTo.dead _ | exact AvTo.i rfl | exact AvTo.c rfl rfl | exact AvTo.own rfl rfl rfl rfl | exact Free.same .listF | skip
    rintro Q2 hQ2 i hi
    have hcl : i < n .u → Cl (fneg .f64 (fdiv .f64 (itof .f64 ((k : Int) * (i : Int))) (itof .f64 (n .u : Int)))) 51 := fun h => turn_cl (by omega) h64 (by omega) (by omega)
    have hki : k * i ≤ 64 * 64 := Nat.mul_le_mul (by omega) (by omega)
    have hc : ((k : Int) * (i : Int)) = ((k * i : Nat) : Int) := (Int.natCast_mul k i).symm
    have hkA : -9223372036854775808 ≤ (k : Int) * (i : Int) := by omega
    have hkB : (k : Int) * (i : Int) ≤ 9223372036854775807 := by omega
    refine AW.exec ttok ctLinesC_ok (by cbv) ?_
    simp only [natCast_int, Post, All, thenA, canon0, canon064, and_true, true_and, forall_const, implies_true, decide_eq_true_eq, decide_eq_false_iff_not, Bool.not_eq_true', Bool.not_eq_false', Bool.true_and, Bool.and_true, beq_true, beq_false, Int.toNat_natCast, Int.ofNat_lt, Int.ofNat_le, Nat.zero_add, Nat.add_zero, imp_self, Bool.cond_false_right, Bool.cond_true_left, Bool.cond_true_right, IsF, rdF_eq, fOf, AV.f.injEq, exists_eq', free_list, free_fn0, List.not_mem_nil, List.mem_cons, false_imp, forall_eq, or_false, free_i, free_f, free_b, ren_f, ren_i, ren_b, and_self, bne_iff_ne, bne_eq_false_iff_eq, ne_eq, Int.natCast_inj, or_true, true_or, freeB_list, unfr_f, unfr_i, unfr_b, unfr_c, unfr_s, free_c, free_s, ren_c, ren_s, unfr_ro, unfr_rptr, ren_ro, free_ll, free_box, kill_f, kill_i, kill_b, kill_c, kill_s, kill_rof, kill_rot, Int.toNat_zero, isFF_ll, rowN_ll, rowX_ll, AllFree, Option.some.injEq, Prod.mk.injEq, Bool.false_eq_true, Bool.true_eq_false, hn, hkA, hkB]
    (repeat' first | with_reducible assumption | with_reducible apply And.intro | with_reducible intro hh) <;> first | ((first | with_reducible show (_ : Int) ≤ _ | with_reducible show (_ : Int) < _ | with_reducible show (_ : Nat) ≤ _ | with_reducible show (_ : Nat) < _ | with_reducible show (_ : Int) = _ | with_reducible show (_ : Nat) = _ | with_reducible show ¬ _ | with_reducible show _ ≠ _) <;> first | omega | (simp only [Bool.and_eq_true, Bool.or_eq_false_iff, Bool.not_eq_false', Bool.not_eq_true', decide_eq_true_eq, decide_eq_false_iff_not] at *; omega) | (with_reducible assumption)) | (with_reducible assumption) | skip
    · exact hcl ‹_›
    · refine ⟨i + 1, by omega, by omega, To.list (Nat.zero_le _) (Nat.le_refl _) (fun e => e) (fun j hj => AvTo.c rfl rfl) ?_⟩
      (repeat' first | exact AllTo.nil | apply AllTo.cons) <;> first | exact AvTo.dead _ | exact AvTo.i rfl | exact AvTo.c rfl rfl | exact AvTo.own rfl rfl rfl rfl | exact Free.same .listF | skip
    · obtain rfl : i = n .u := by omega
      obtain ⟨rfl⟩ := hQ2
      refine Post.eval (by cbv) ?_
      simp only [natCast_int, Post, All, thenA, canon0, canon064, and_true, true_and, forall_const, implies_true, decide_eq_true_eq, decide_eq_false_iff_not, Bool.not_eq_true', Bool.not_eq_false', Bool.true_and, Bool.and_true, beq_true, beq_false, Int.toNat_natCast, Int.ofNat_lt, Int.ofNat_le, Nat.zero_add, Nat.add_zero, imp_self, Bool.cond_false_right, Bool.cond_true_left, Bool.cond_true_right, IsF, rdF_eq, fOf, AV.f.injEq, exists_eq', free_list, free_fn0, List.not_mem_nil, List.mem_cons, false_imp, forall_eq, or_false, free_i, free_f, free_b, ren_f, ren_i, ren_b, and_self, bne_iff_ne, bne_eq_false_iff_eq, ne_eq, Int.natCast_inj, or_true, true_or, freeB_list, unfr_f, unfr_i, unfr_b, unfr_c, unfr_s, free_c, free_s, ren_c, ren_s, unfr_ro, unfr_rptr, ren_ro, free_ll, free_box, kill_f, kill_i, kill_b, kill_c, kill_s, kill_rof, kill_rot, Int.toNat_zero, isFF_ll, rowN_ll, rowX_ll, AllFree, Option.some.injEq, Prod.mk.injEq, Bool.false_eq_true, Bool.true_eq_false]
      (repeat' first | with_reducible assumption | with_reducible apply And.intro | with_reducible intro hh) <;> first | ((first | with_reducible show (_ : Int) ≤ _ | with_reducible show (_ : Int) < _ | with_reducible show (_ : Nat) ≤ _ | with_reducible show (_ : Nat) < _ | with_reducible show (_ : Int) = _ | with_reducible show (_ : Nat) = _ | with_reducible show ¬ _ | with_reducible show _ ≠ _) <;> first | omega | (simp only [Bool.and_eq_true, Bool.or_eq_false_iff, Bool.not_eq_false', Bool.not_eq_true', decide_eq_true_eq, decide_eq_false_iff_not] at *; omega) | (with_reducible assumption)) | (with_reducible assumption) | skip
      refine ⟨k + 1, by omega, by omega, To.moved (k := 2) rfl (Nat.le_refl _) (fun e => e) (fun j hj => app_one hj (fun _ => AvTo.c rfl rfl) fun e => AvTo.c (by subst e; rfl) (by subst e; rfl)) ?_⟩
      (repeat' first | exact AllTo.nil | apply AllTo.cons) <;> first | exact AvTo.dead _ | exact AvTo.i rfl | exact AvTo.own rfl rfl rfl rfl | exact Free.same .listF | skip
  · obtain rfl : k = n .u / 2 + 1 := by omega
    obtain ⟨rfl⟩ := hQ
    refine Post.eval (by cbv) ?_
    simp only [natCast_int, Post, All, thenA, canon0, canon064, and_true, true_and, forall_const, implies_true, decide_eq_true_eq, decide_eq_false_iff_not, Bool.not_eq_true', Bool.not_eq_false', Bool.true_and, Bool.and_true, beq_true, beq_false, Int.toNat_natCast, Int.ofNat_lt, Int.ofNat_le, Nat.zero_add, Nat.add_zero, imp_self, Bool.cond_false_right, Bool.cond_true_left, Bool.cond_true_right, IsF, rdF_eq, fOf, AV.f.injEq, exists_eq', free_list, free_fn0, List.not_mem_nil, List.mem_cons, false_imp, forall_eq, or_false, free_i, free_f, free_b, ren_f, ren_i, ren_b, and_self, bne_iff_ne, bne_eq_false_iff_eq, ne_eq, Int.natCast_inj, or_true, true_or, freeB_list, unfr_f, unfr_i, unfr_b, unfr_c, unfr_s, free_c, free_s, ren_c, ren_s, unfr_ro, unfr_rptr, ren_ro, free_ll, free_box, kill_f, kill_i, kill_b, kill_c, kill_s, kill_rof, kill_rot, Int.toNat_zero, isFF_ll, rowN_ll, rowX_ll, AllFree, Option.some.injEq, Prod.mk.injEq, Bool.false_eq_true, Bool.true_eq_false]
    (repeat' first | with_reducible assumption | with_reducible apply And.intro | with_reducible intro hh) <;> first | ((first | with_reducible show (_ : Int) ≤ _ | with_reducible show (_ : Int) < _ | with_reducible show (_ : Nat) ≤ _ | with_reducible show (_ : Nat) < _ | with_reducible show (_ : Int) = _ | with_reducible show (_ : Nat) = _ | with_reducible show ¬ _ | with_reducible show _ ≠ _) <;> first | omega | (simp only [Bool.and_eq_true, Bool.or_eq_false_iff, Bool.not_eq_false', Bool.not_eq_true', decide_eq_true_eq, decide_eq_false_iff_not] at *; omega) | (with_reducible assumption)) | (with_reducible assumption) | skip
    exact fin_ret (.inl rfl) (by cbv) (by simp) (To.pick [0] (by decide) (Nat.zero_le _) (fun j hj => absurd hj (Nat.not_lt_zero _)) ⟨.list (fun e => e) (Nat.le_refl _) fun j hj => AvTo.c rfl rfl, trivial⟩ (.cons (.own rfl rfl rfl rfl) .nil))
def ctSLS : CT := [(32, .r kBins), (34, .g 0 kLinesC), (33, .g 1 kGiveC)]
theorem ctSLS_ok : CTok Try.prog ctSLS := .cons l06Bins_tells (.cons linesC_g (.cons giveC_g (.nil _)))
theorem specSL : Tells Try.prog 6 (.g 0 kSL) := by
  intro args Hc r hr
  unfold kSL at hr
  split at hr <;> first | (cases hr; done) | skip
  split at hr <;> cases hr
  rename_i n g hL
  refine AnsOk.two ttok Try.func6 rfl rfl (Nat.zero_le _) (Nat.zero_le _) (allFr_tup2 .own .b) (allFr_tup2 .v .b) frH_C .nil fun hF => ⟨[listF false n (rdF g)], ⟨Sub.asLg hL hF, trivial⟩, ?_⟩
  have hn := hF.1
  generalize rdF g = x
  refine AW.exec ttok ctSLS_ok (by cbv) ?_
  simp only [natCast_int, Post, All, thenA, canon0, canon064, and_true, true_and, forall_const, implies_true, decide_eq_true_eq, decide_eq_false_iff_not, Bool.not_eq_true', Bool.not_eq_false', Bool.true_and, Bool.and_true, beq_true, beq_false, Int.toNat_natCast, Int.ofNat_lt, Int.ofNat_le, Nat.zero_add, Nat.add_zero, imp_self, Bool.cond_false_right, Bool.cond_true_left, Bool.cond_true_right, IsF, rdF_eq, fOf, AV.f.injEq, exists_eq', free_list, free_fn0, List.not_mem_nil, List.mem_cons, false_imp, forall_eq, or_false, free_i, free_f, free_b, ren_f, ren_i, ren_b, and_self, bne_iff_ne, bne_eq_false_iff_eq, ne_eq, Int.natCast_inj, or_true, true_or, freeB_list, unfr_f, unfr_i, unfr_b, unfr_c, unfr_s, free_c, free_s, ren_c, ren_s, unfr_ro, unfr_rptr, ren_ro, free_ll, free_box, kill_f, kill_i, kill_b, kill_c, kill_s, kill_rof, kill_rot, Int.toNat_zero, isFF_ll, rowN_ll, rowX_ll, AllFree, Option.some.injEq, Prod.mk.injEq, Bool.false_eq_true, Bool.true_eq_false, hn, isC_list, isC_nil, free_lc, free_cc, freeB_listC]
  (repeat' first | with_reducible assumption | with_reducible apply And.intro | with_reducible intro hh) <;> first | ((first | with_reducible show (_ : Int) ≤ _ | with_reducible show (_ : Int) < _ | with_reducible show (_ : Nat) ≤ _ | with_reducible show (_ : Nat) < _ | with_reducible show (_ : Int) = _ | with_reducible show (_ : Nat) = _ | with_reducible show ¬ _ | with_reducible show _ ≠ _) <;> first | omega | (simp only [Bool.and_eq_true, Bool.or_eq_false_iff, Bool.not_eq_false', Bool.not_eq_true', decide_eq_true_eq, decide_eq_false_iff_not] at *; omega) | (with_reducible assumption)) | (with_reducible assumption) | skip
  · exact okA.no (by unfold okSL; rw [show binsF (n .u) x = false from hh, Bool.false_and]) (fin_ret (.inl rfl) (by cbv) (by simp) (To.fresh noL_to))
  all_goals have hb : binsF (n .u) x = true := by assumption
  all_goals have hle := binsF_le hb
  · exact hle.1
  · exact hle.2
  · have h : allC (n .u / 2 + 1) (lineRe (n .u) x) (lineIm (n .u) x) = true := ‹allC _ _ _ = true›
    exact okA.yes (by unfold okSL; rw [hb, h]; rfl) (fin_ret (.inl rfl) (by cbv) (by simp) (To.pick [0] (by decide) (Nat.zero_le _) (fun j hj => absurd hj (Nat.not_lt_zero _)) ⟨.list (fun e => e) (Nat.le_refl _) fun j hj => AvTo.c rfl rfl, trivial⟩ (.cons (.tup (.cons (.own rfl rfl rfl rfl) (.cons (.b rfl) .nil))) .nil)))
  · have h : allC (n .u / 2 + 1) (lineRe (n .u) x) (lineIm (n .u) x) = false := ‹allC _ _ _ = false›
    exact okA.no (by unfold okSL; rw [hb, h]; rfl) (fin_ret (.inl rfl) (by cbv) (by simp) (To.fresh noL_to))
end Go.Proofs.Ytjkibcdmpjppbaa
