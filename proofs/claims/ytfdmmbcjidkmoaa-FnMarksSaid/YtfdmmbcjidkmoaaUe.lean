/- Complex numbers and lists of them: what the laws' helpers, the checks and the sums make. -/
import Derived.Test.YtfdmmbcjidkmoaaFd
import Derived.Test.YtfdmmbcjidkmoaaGc
import Derived.Test.YtfdmmbcjidkmoaaHc
import Derived.Test.YtfdmmbcjidkmoaaAwz
set_option linter.unusedSimpArgs false
set_option linter.unusedVariables false
namespace Go.Proofs.Ytfdmmbcjidkmoaa
open Go.Aw
def reOf : AV → Nat
  | .c _ x _ => x .u
  | _ => 0
def imOf : AV → Nat
  | .c _ _ y => y .u
  | _ => 0
def rdRe (g : Th Nat → Nat → AV) : Nat → Nat := fun i => reOf (g (fun _ => i) 0)
def rdIm (g : Th Nat → Nat → AV) : Nat → Nat := fun i => imOf (g (fun _ => i) 0)
def IsC (n : Th Nat) (g : Th Nat → Nat → AV) : Prop := n .u ≤ 9223372036854775807 ∧ ∀ i, i < n .u → ∃ x y, g (fun _ => i) 0 = .c .f32 x y
abbrev listC (fr : Bool) (n : Th Nat) (x y : Nat → Nat) : AV := .ro fr n 1 fun i _ => .c .f32 (fun _ => x (i .u)) fun _ => y (i .u)
abbrev blkC (fr : Bool) (n : Th Nat) (x y : Nat → Nat) : Option (Bool × Blk) := some (fr, .tab n 1 fun i _ => .c .f32 (fun _ => x (i .u)) fun _ => y (i .u))
theorem Sub.listC {fr : Bool} {n : Th Nat} {g : Th Nat → Nat → AV} (h : IsC n g) : Sub (unfr (.ro fr n 1 g)) (listC false n (rdRe g) (rdIm g)) := by
  intro w ρ N L v hs
  simp only [unfr] at hs
  cases hs with
  | ro0 h0 => exact .ro0 h0
  | ro u hn hq hc hsim =>
    refine .ro u hn hq hc fun i c hi hcc => ?_
    obtain rfl : c = 0 := by omega
    obtain ⟨x, y, hy⟩ := h.2 i hi
    have := hsim i 0 hi (by omega)
    simp only [hy, unfr] at this
    simp only [rdRe, rdIm, hy, reOf, imOf]
    exact this
theorem Sub.asC {a : AV} {n : Th Nat} {g : Th Nat → Nat → AV} (h : asL a = some (n, g)) (hF : IsC n g) : Sub (unfr a) (Go.Proofs.Ytfdmmbcjidkmoaa.listC false n (rdRe g) (rdIm g)) := by
  unfold Aw.asL at h
  split at h <;> cases h
  · exact Go.Proofs.Ytfdmmbcjidkmoaa.Sub.listC hF
  · intro w ρ N L v hs
    simp only [unfr] at hs
    cases hs.v_inv
    exact .ro0 rfl
theorem isC_list {n : Th Nat} {x y : Th Nat → Nat → Th Nat} : (IsC n fun i c => .c .f32 (x i c) (y i c)) ↔ n .u ≤ 9223372036854775807 := ⟨fun h => h.1, fun h => ⟨h, fun _ _ => ⟨_, _, rfl⟩⟩⟩
theorem isC_nil : (IsC (fun _ => 0) fun _ _ => .dead) ↔ True := iff_true_intro ⟨Nat.zero_le _, fun _ h => absurd h (Nat.not_lt_zero _)⟩
theorem rdRe_eq (g : Th Nat → Nat → AV) : rdRe g = fun i => reOf (g (fun _ => i) 0) := rfl
theorem rdIm_eq (g : Th Nat → Nat → AV) : rdIm g = fun i => imOf (g (fun _ => i) 0) := rfl
theorem free_lc {fr : Bool} {n : Th Nat} {x y : Th Nat → Nat → Th Nat} : Free (.ro fr n 1 fun i c => .c .f32 (x i c) (y i c)) ↔ True := iff_true_intro (.ro fun _ _ _ _ => .c)
theorem free_cc {k : FloatKind} {x y : Th Nat} : Free (.c k x y) ↔ True := iff_true_intro .c
theorem freeB_listC {n : Th Nat} {x y : Th Nat → Nat → Th Nat} : FreeB (.tab n 1 fun i c => .c .f32 (x i c) (y i c)) ↔ True := iff_true_intro fun off a ha => by
  cases ha with | tab i c hi hc => exact .c
theorem Free.listC {fr : Bool} {n : Th Nat} {x y : Th Nat → Nat → Th Nat} : Free (.ro fr n 1 fun i c => .c .f32 (x i c) (y i c)) := .ro fun _ _ _ _ => .c
/-! Numbers. -/
def kPlus : Kr
  | [.c .f32 a b, .c .f32 c d] => some (.c .f32 (fun _ => fadd .f32 (a .u) (c .u)) fun _ => fadd .f32 (b .u) (d .u), [], fun _ => True)
  | _ => none
theorem plus_tells : Tells Try.prog 104 (.r kPlus) := by
  intro args r H' p hr hp
  unfold kPlus at hr
  split at hr <;> cases hr
  refine ⟨.c, .nil, Con.of ttok Try.func104 rfl rfl (Nat.le_refl _) (AW.exec ttok (CTok.nil _) (by cbv) ?_)⟩
  simp only [natCast_int, Post, All, thenA, canon0, canon064, and_true, true_and, forall_const, implies_true, decide_eq_true_eq, decide_eq_false_iff_not, Bool.not_eq_true', Bool.not_eq_false', Bool.true_and, Bool.and_true, beq_true, beq_false, Int.toNat_natCast, Int.ofNat_lt, Int.ofNat_le, Nat.zero_add, Nat.add_zero, imp_self, Bool.cond_false_right, Bool.cond_true_left, Bool.cond_true_right, IsF, rdF_eq, fOf, AV.f.injEq, exists_eq', free_list, free_fn0, List.not_mem_nil, List.mem_cons, false_imp, forall_eq, or_false, free_i, free_f, free_b, ren_f, ren_i, ren_b, and_self, bne_iff_ne, bne_eq_false_iff_eq, ne_eq, Int.natCast_inj, or_true, true_or, freeB_list, unfr_f, unfr_i, unfr_b, unfr_c, unfr_s, free_c, free_s, ren_c, ren_s, unfr_ro, unfr_rptr, ren_ro, free_ll, free_box, kill_f, kill_i, kill_b, kill_c, kill_s, kill_rof, kill_rot, Int.toNat_zero, isFF_ll, rowN_ll, rowX_ll, AllFree, Option.some.injEq, Prod.mk.injEq, Bool.false_eq_true, Bool.true_eq_false]
  (repeat' first | with_reducible assumption | with_reducible apply And.intro | with_reducible intro hh) <;> first | ((first | with_reducible show (_ : Int) ≤ _ | with_reducible show (_ : Int) < _ | with_reducible show (_ : Nat) ≤ _ | with_reducible show (_ : Nat) < _ | with_reducible show (_ : Int) = _ | with_reducible show (_ : Nat) = _ | with_reducible show ¬ _ | with_reducible show _ ≠ _) <;> first | omega | (simp only [Bool.and_eq_true, Bool.or_eq_false_iff, Bool.not_eq_false', Bool.not_eq_true', decide_eq_true_eq, decide_eq_false_iff_not] at *; omega) | (with_reducible assumption)) | (with_reducible assumption) | skip
  all_goals exact fin_ret (.inl rfl) (by cbv) (by simp) (To.fresh ⟨.c rfl rfl, trivial⟩)
def kScale : Kr
  | [.c .f32 a b, .f .f32 c] => some (.c .f32 (fun _ => fmul .f32 (a .u) (c .u)) fun _ => fmul .f32 (b .u) (c .u), [], fun _ => True)
  | _ => none
theorem scaleI_tells : Tells Try.prog 105 (.r kScale) := by
  intro args r H' p hr hp
  unfold kScale at hr
  split at hr <;> cases hr
  refine ⟨.c, .nil, Con.of ttok Try.func105 rfl rfl (Nat.le_refl _) (AW.exec ttok (CTok.nil _) (by cbv) ?_)⟩
  simp only [natCast_int, Post, All, thenA, canon0, canon064, and_true, true_and, forall_const, implies_true, decide_eq_true_eq, decide_eq_false_iff_not, Bool.not_eq_true', Bool.not_eq_false', Bool.true_and, Bool.and_true, beq_true, beq_false, Int.toNat_natCast, Int.ofNat_lt, Int.ofNat_le, Nat.zero_add, Nat.add_zero, imp_self, Bool.cond_false_right, Bool.cond_true_left, Bool.cond_true_right, IsF, rdF_eq, fOf, AV.f.injEq, exists_eq', free_list, free_fn0, List.not_mem_nil, List.mem_cons, false_imp, forall_eq, or_false, free_i, free_f, free_b, ren_f, ren_i, ren_b, and_self, bne_iff_ne, bne_eq_false_iff_eq, ne_eq, Int.natCast_inj, or_true, true_or, freeB_list, unfr_f, unfr_i, unfr_b, unfr_c, unfr_s, free_c, free_s, ren_c, ren_s, unfr_ro, unfr_rptr, ren_ro, free_ll, free_box, kill_f, kill_i, kill_b, kill_c, kill_s, kill_rof, kill_rot, Int.toNat_zero, isFF_ll, rowN_ll, rowX_ll, AllFree, Option.some.injEq, Prod.mk.injEq, Bool.false_eq_true, Bool.true_eq_false]
  (repeat' first | with_reducible assumption | with_reducible apply And.intro | with_reducible intro hh) <;> first | ((first | with_reducible show (_ : Int) ≤ _ | with_reducible show (_ : Int) < _ | with_reducible show (_ : Nat) ≤ _ | with_reducible show (_ : Nat) < _ | with_reducible show (_ : Int) = _ | with_reducible show (_ : Nat) = _ | with_reducible show ¬ _ | with_reducible show _ ≠ _) <;> first | omega | (simp only [Bool.and_eq_true, Bool.or_eq_false_iff, Bool.not_eq_false', Bool.not_eq_true', decide_eq_true_eq, decide_eq_false_iff_not] at *; omega) | (with_reducible assumption)) | (with_reducible assumption) | skip
  all_goals exact fin_ret (.inl rfl) (by cbv) (by simp) (To.fresh ⟨.c rfl rfl, trivial⟩)
def kFinC : Kr
  | [.c .f32 a b] => some (.b fun _ => isFin (a .u) && isFin (b .u), [], fun _ => True)
  | _ => none
def ctFinC : CT := [(68, .r kFinN)]
theorem ctFinC_ok : CTok Try.prog ctFinC := .cons areFinite_tells (.nil _)
theorem finC_tells : Tells Try.prog 146 (.r kFinC) := by
  intro args r H' p hr hp
  unfold kFinC at hr
  split at hr <;> cases hr
  rename_i a b
  refine ⟨.b, .nil, Con.of ttok Try.func146 rfl rfl (Nat.le_refl _) (AW.exec ttok ctFinC_ok (by cbv) ?_)⟩
  simp only [natCast_int, Post, All, thenA, canon0, canon064, and_true, true_and, forall_const, implies_true, decide_eq_true_eq, decide_eq_false_iff_not, Bool.not_eq_true', Bool.not_eq_false', Bool.true_and, Bool.and_true, beq_true, beq_false, Int.toNat_natCast, Int.ofNat_lt, Int.ofNat_le, Nat.zero_add, Nat.add_zero, imp_self, Bool.cond_false_right, Bool.cond_true_left, Bool.cond_true_right, IsF, rdF_eq, fOf, AV.f.injEq, exists_eq', free_list, free_fn0, List.not_mem_nil, List.mem_cons, false_imp, forall_eq, or_false, free_i, free_f, free_b, ren_f, ren_i, ren_b, and_self, bne_iff_ne, bne_eq_false_iff_eq, ne_eq, Int.natCast_inj, or_true, true_or, freeB_list, unfr_f, unfr_i, unfr_b, unfr_c, unfr_s, free_c, free_s, ren_c, ren_s, unfr_ro, unfr_rptr, ren_ro, free_ll, free_box, kill_f, kill_i, kill_b, kill_c, kill_s, kill_rof, kill_rot, Int.toNat_zero, isFF_ll, rowN_ll, rowX_ll, AllFree, Option.some.injEq, Prod.mk.injEq, Bool.false_eq_true, Bool.true_eq_false]
  (repeat' first | with_reducible assumption | with_reducible apply And.intro | with_reducible intro hh) <;> first | ((first | with_reducible show (_ : Int) ≤ _ | with_reducible show (_ : Int) < _ | with_reducible show (_ : Nat) ≤ _ | with_reducible show (_ : Nat) < _ | with_reducible show (_ : Int) = _ | with_reducible show (_ : Nat) = _ | with_reducible show ¬ _ | with_reducible show _ ≠ _) <;> first | omega | (simp only [Bool.and_eq_true, Bool.or_eq_false_iff, Bool.not_eq_false', Bool.not_eq_true', decide_eq_true_eq, decide_eq_false_iff_not] at *; omega) | (with_reducible assumption)) | (with_reducible assumption) | skip
  · rename_i j c hj
    match j, hj, c, hh with
    | 0, _, 0, _ => exact .f
    | 1, _, 0, _ => exact .f
  · rename_i j
    match j, hh with
    | 0, _ => exact ⟨_, rfl⟩
    | 1, _ => exact ⟨_, rfl⟩
  · refine fin_ret (.inl rfl) (by cbv) (by simp) (To.fresh ⟨.b ?_, trivial⟩)
    simp [finN, allN, List.range, List.range.loop]
def finCC (x y : Nat → Nat) (i : Nat) : Bool := isFin (x i) && isFin (y i)
def allC (n : Nat) (x y : Nat → Nat) : Bool := allN (finCC x y) n
def kPredC : Kr
  | [.c .f32 a b] => some (.b fun _ => !(isFin (a .u) && isFin (b .u)), [], fun _ => True)
  | _ => none
def ctPredC : CT := [(146, .r kFinC)]
theorem ctPredC_ok : CTok Try.prog ctPredC := .cons finC_tells (.nil _)
theorem predC_tells : Tells Try.prog 145 (.r kPredC) := by
  intro args r H' p hr hp
  unfold kPredC at hr
  split at hr <;> cases hr
  refine ⟨.b, .nil, Con.of ttok Try.func145 rfl rfl (Nat.le_refl _) (AW.exec ttok ctPredC_ok (by cbv) ?_)⟩
  simp only [natCast_int, Post, All, thenA, canon0, canon064, and_true, true_and, forall_const, implies_true, decide_eq_true_eq, decide_eq_false_iff_not, Bool.not_eq_true', Bool.not_eq_false', Bool.true_and, Bool.and_true, beq_true, beq_false, Int.toNat_natCast, Int.ofNat_lt, Int.ofNat_le, Nat.zero_add, Nat.add_zero, imp_self, Bool.cond_false_right, Bool.cond_true_left, Bool.cond_true_right, IsF, rdF_eq, fOf, AV.f.injEq, exists_eq', free_list, free_fn0, List.not_mem_nil, List.mem_cons, false_imp, forall_eq, or_false, free_i, free_f, free_b, ren_f, ren_i, ren_b, and_self, bne_iff_ne, bne_eq_false_iff_eq, ne_eq, Int.natCast_inj, or_true, true_or, freeB_list, unfr_f, unfr_i, unfr_b, unfr_c, unfr_s, free_c, free_s, ren_c, ren_s, unfr_ro, unfr_rptr, ren_ro, free_ll, free_box, kill_f, kill_i, kill_b, kill_c, kill_s, kill_rof, kill_rot, Int.toNat_zero, isFF_ll, rowN_ll, rowX_ll, AllFree, Option.some.injEq, Prod.mk.injEq, Bool.false_eq_true, Bool.true_eq_false]
  (repeat' first | with_reducible assumption | with_reducible apply And.intro | with_reducible intro hh) <;> first | ((first | with_reducible show (_ : Int) ≤ _ | with_reducible show (_ : Int) < _ | with_reducible show (_ : Nat) ≤ _ | with_reducible show (_ : Nat) < _ | with_reducible show (_ : Int) = _ | with_reducible show (_ : Nat) = _ | with_reducible show ¬ _ | with_reducible show _ ≠ _) <;> first | omega | (simp only [Bool.and_eq_true, Bool.or_eq_false_iff, Bool.not_eq_false', Bool.not_eq_true', decide_eq_true_eq, decide_eq_false_iff_not] at *; omega) | (with_reducible assumption)) | (with_reducible assumption) | skip
  all_goals exact fin_ret (.inl rfl) (by cbv) (by simp) (To.fresh ⟨.b rfl, trivial⟩)
def notC (x y : Nat → Nat) (i : Nat) : Bool := !finCC x y i
def kIndexC : Kr
  | [a, .fn (.func c) [] []] => match Nat.beq c 145 with
    | true => match asL a with
      | some (n, g) => some (.i .i64 fun _ => firstN (notC (rdRe g) (rdIm g)) (n .u), [], fun _ => IsC n g)
      | none => none
    | false => none
  | _ => none
def ctIC : CT := [(145, .r kPredC)]
theorem ctIC_ok : CTok Try.prog ctIC := CTok.cons predC_tells (CTok.nil _)
theorem indexC_tells : Tells Try.prog 155 (.r kIndexC) := by
  intro args r H' p hr hp
  unfold kIndexC at hr
  split at hr <;> first | (cases hr; done) | skip
  split at hr <;> first | (cases hr; done) | skip
  rename_i c hc
  obtain rfl := Nat.beq_eq.mp hc
  split at hr <;> cases hr
  rename_i n g hL
  refine ⟨.i, .nil, Con.pre (args' := [listC false n (rdRe g) (rdIm g), .fn (.func 145) [] []]) ⟨Sub.asC hL hp, Sub.refl _, trivial⟩ ?_⟩
  have hn := hp.1
  generalize rdRe g = x
  generalize rdIm g = y
  refine Con.of ttok Try.func155 rfl rfl (Nat.le_refl _) (AW.exec ttok ctIC_ok (by cbv) ?_)
  simp only [natCast_int, Post, All, thenA, canon0, canon064, and_true, true_and, forall_const, implies_true, decide_eq_true_eq, decide_eq_false_iff_not, Bool.not_eq_true', Bool.not_eq_false', Bool.true_and, Bool.and_true, beq_true, beq_false, Int.toNat_natCast, Int.ofNat_lt, Int.ofNat_le, Nat.zero_add, Nat.add_zero, imp_self, Bool.cond_false_right, Bool.cond_true_left, Bool.cond_true_right, IsF, rdF_eq, fOf, AV.f.injEq, exists_eq', free_list, free_fn0, List.not_mem_nil, List.mem_cons, false_imp, forall_eq, or_false, free_i, free_f, free_b, ren_f, ren_i, ren_b, and_self, bne_iff_ne, bne_eq_false_iff_eq, ne_eq, Int.natCast_inj, or_true, true_or, freeB_list, unfr_f, unfr_i, unfr_b, unfr_c, unfr_s, free_c, free_s, ren_c, ren_s, unfr_ro, unfr_rptr, ren_ro, free_ll, free_box, kill_f, kill_i, kill_b, kill_c, kill_s, kill_rof, kill_rot, Int.toNat_zero, isFF_ll, rowN_ll, rowX_ll, AllFree, Option.some.injEq, Prod.mk.injEq, Bool.false_eq_true, Bool.true_eq_false, hn]
  (repeat' first | with_reducible assumption | with_reducible apply And.intro | with_reducible intro hh) <;> first | ((first | with_reducible show (_ : Int) ≤ _ | with_reducible show (_ : Int) < _ | with_reducible show (_ : Nat) ≤ _ | with_reducible show (_ : Nat) < _ | with_reducible show (_ : Int) = _ | with_reducible show (_ : Nat) = _ | with_reducible show ¬ _ | with_reducible show _ ≠ _) <;> first | omega | (simp only [Bool.and_eq_true, Bool.or_eq_false_iff, Bool.not_eq_false', Bool.not_eq_true', decide_eq_true_eq, decide_eq_false_iff_not] at *; omega) | (with_reducible assumption)) | (with_reducible assumption) | skip
  refine AW.loopH (ι := Nat) (fun i => i ≤ n .u ∧ ∀ j, j < i → notC x y j = false) (fun i => n .u - i) (fun i => mkE Try.f155.ntmps [(0, listC false n x y), (1, .fn (.func 145) [] []), (7, .i .i64 fun _ => (n .u : Int)), (8, .i .i64 fun _ => (i : Int))])
    (fun _ => []) 0 ⟨Nat.zero_le _, fun j hj => absurd hj (Nat.not_lt_zero _)⟩ (To.same (Nat.le_refl _) trivial ?_) ?_
  · (repeat' first | exact AllTo.nil | apply AllTo.cons) <;> first | exact AvTo.dead _ | exact AvTo.i rfl | exact Free.same Free.listC | exact Free.same (.fn (by simp) (by simp)) | skip
  · rintro Q' hQ i ⟨hi, hx⟩
    refine AW.exec ttok ctIC_ok (by cbv) ?_
    simp only [natCast_int, Post, All, thenA, canon0, canon064, and_true, true_and, forall_const, implies_true, decide_eq_true_eq, decide_eq_false_iff_not, Bool.not_eq_true', Bool.not_eq_false', Bool.true_and, Bool.and_true, beq_true, beq_false, Int.toNat_natCast, Int.ofNat_lt, Int.ofNat_le, Nat.zero_add, Nat.add_zero, imp_self, Bool.cond_false_right, Bool.cond_true_left, Bool.cond_true_right, IsF, rdF_eq, fOf, AV.f.injEq, exists_eq', free_list, free_fn0, List.not_mem_nil, List.mem_cons, false_imp, forall_eq, or_false, free_i, free_f, free_b, ren_f, ren_i, ren_b, and_self, bne_iff_ne, bne_eq_false_iff_eq, ne_eq, Int.natCast_inj, or_true, true_or, freeB_list, unfr_f, unfr_i, unfr_b, unfr_c, unfr_s, free_c, free_s, ren_c, ren_s, unfr_ro, unfr_rptr, ren_ro, free_ll, free_box, kill_f, kill_i, kill_b, kill_c, kill_s, kill_rof, kill_rot, Int.toNat_zero, isFF_ll, rowN_ll, rowX_ll, AllFree, Option.some.injEq, Prod.mk.injEq, Bool.false_eq_true, Bool.true_eq_false, hn]
    (repeat' first | with_reducible assumption | with_reducible apply And.intro | with_reducible intro hh) <;> first | ((first | with_reducible show (_ : Int) ≤ _ | with_reducible show (_ : Int) < _ | with_reducible show (_ : Nat) ≤ _ | with_reducible show (_ : Nat) < _ | with_reducible show (_ : Int) = _ | with_reducible show (_ : Nat) = _ | with_reducible show ¬ _ | with_reducible show _ ≠ _) <;> first | omega | (simp only [Bool.and_eq_true, Bool.or_eq_false_iff, Bool.not_eq_false', Bool.not_eq_true', decide_eq_true_eq, decide_eq_false_iff_not] at *; omega) | (with_reducible assumption)) | (with_reducible assumption) | skip
    · obtain ⟨rfl⟩ := hQ
      refine Post.leaf (by cbv) (fin_ret (.inl rfl) (by cbv) (by simp) (To.fresh ⟨.i ?_, trivial⟩))
      exact (firstN_at (q := notC x y) (by assumption) (show notC x y i = true by unfold notC finCC; rw [hh]; rfl) hx).symm
    · refine ⟨i + 1, ⟨by omega, lt_succ_all hx (show notC x y i = false by unfold notC finCC; rw [‹(isFin (x i) && isFin (y i)) = true›]; rfl)⟩, by omega, To.same (Nat.le_refl _) trivial ?_⟩
      (repeat' first | exact AllTo.nil | apply AllTo.cons) <;> first | exact AvTo.dead _ | exact AvTo.i rfl | exact Free.same Free.listC | exact Free.same (.fn (by simp) (by simp)) | skip
    · obtain ⟨rfl⟩ := hQ
      refine Post.eval (by cbv) ?_
      simp only [natCast_int, Post, All, thenA, canon0, canon064, and_true, true_and, forall_const, implies_true, decide_eq_true_eq, decide_eq_false_iff_not, Bool.not_eq_true', Bool.not_eq_false', Bool.true_and, Bool.and_true, beq_true, beq_false, Int.toNat_natCast, Int.ofNat_lt, Int.ofNat_le, Nat.zero_add, Nat.add_zero, imp_self, Bool.cond_false_right, Bool.cond_true_left, Bool.cond_true_right, IsF, rdF_eq, fOf, AV.f.injEq, exists_eq', free_list, free_fn0, List.not_mem_nil, List.mem_cons, false_imp, forall_eq, or_false, free_i, free_f, free_b, ren_f, ren_i, ren_b, and_self, bne_iff_ne, bne_eq_false_iff_eq, ne_eq, Int.natCast_inj, or_true, true_or, freeB_list, unfr_f, unfr_i, unfr_b, unfr_c, unfr_s, free_c, free_s, ren_c, ren_s, unfr_ro, unfr_rptr, ren_ro, free_ll, free_box, kill_f, kill_i, kill_b, kill_c, kill_s, kill_rof, kill_rot, Int.toNat_zero, isFF_ll, rowN_ll, rowX_ll, AllFree, Option.some.injEq, Prod.mk.injEq, Bool.false_eq_true, Bool.true_eq_false]
      refine fin_ret (.inl rfl) (by cbv) (by simp) (To.fresh ⟨.i ?_, trivial⟩)
      have e : i = n .u := by omega
      exact (firstN_none (q := notC x y) (e ▸ hx)).symm
def kHasC : Kr
  | [a, .fn (.func c) [] []] => match Nat.beq c 145 with
    | true => match asL a with
      | some (n, g) => some (.b fun _ => !allC (n .u) (rdRe g) (rdIm g), [], fun _ => IsC n g)
      | none => none
    | false => none
  | _ => none
def ctHC : CT := [(155, .r kIndexC)]
theorem ctHC_ok : CTok Try.prog ctHC := CTok.cons indexC_tells (CTok.nil _)
theorem hasC_tells : Tells Try.prog 144 (.r kHasC) := by
  intro args r H' p hr hp
  unfold kHasC at hr
  split at hr <;> first | (cases hr; done) | skip
  split at hr <;> first | (cases hr; done) | skip
  rename_i c hc
  obtain rfl := Nat.beq_eq.mp hc
  split at hr <;> cases hr
  rename_i n g hL
  refine ⟨.b, .nil, Con.pre (args' := [listC false n (rdRe g) (rdIm g), .fn (.func 145) [] []]) ⟨Sub.asC hL hp, Sub.refl _, trivial⟩ ?_⟩
  have hn := hp.1
  generalize rdRe g = x
  generalize rdIm g = y
  have hf : (!allC (n .u) x y) = decide (0 ≤ firstN (notC x y) (n .u)) := by
    have := has_first (q := notC x y) (n .u)
    rw [← this]
    unfold allC notC
    simp only [Bool.not_not]
  refine Con.of ttok Try.func144 rfl rfl (Nat.le_refl _) (AW.exec ttok ctHC_ok (by cbv) ?_)
  simp only [natCast_int, Post, All, thenA, canon0, canon064, and_true, true_and, forall_const, implies_true, decide_eq_true_eq, decide_eq_false_iff_not, Bool.not_eq_true', Bool.not_eq_false', Bool.true_and, Bool.and_true, beq_true, beq_false, Int.toNat_natCast, Int.ofNat_lt, Int.ofNat_le, Nat.zero_add, Nat.add_zero, imp_self, Bool.cond_false_right, Bool.cond_true_left, Bool.cond_true_right, IsF, rdF_eq, fOf, AV.f.injEq, exists_eq', free_list, free_fn0, List.not_mem_nil, List.mem_cons, false_imp, forall_eq, or_false, free_i, free_f, free_b, ren_f, ren_i, ren_b, and_self, bne_iff_ne, bne_eq_false_iff_eq, ne_eq, Int.natCast_inj, or_true, true_or, freeB_list, unfr_f, unfr_i, unfr_b, unfr_c, unfr_s, free_c, free_s, ren_c, ren_s, unfr_ro, unfr_rptr, ren_ro, free_ll, free_box, kill_f, kill_i, kill_b, kill_c, kill_s, kill_rof, kill_rot, Int.toNat_zero, isFF_ll, rowN_ll, rowX_ll, AllFree, Option.some.injEq, Prod.mk.injEq, Bool.false_eq_true, Bool.true_eq_false, isC_list, free_lc, hn]
  (repeat' first | with_reducible assumption | with_reducible apply And.intro | with_reducible intro hh) <;> first | ((first | with_reducible show (_ : Int) ≤ _ | with_reducible show (_ : Int) < _ | with_reducible show (_ : Nat) ≤ _ | with_reducible show (_ : Nat) < _ | with_reducible show (_ : Int) = _ | with_reducible show (_ : Nat) = _ | with_reducible show ¬ _ | with_reducible show _ ≠ _) <;> first | omega | (simp only [Bool.and_eq_true, Bool.or_eq_false_iff, Bool.not_eq_false', Bool.not_eq_true', decide_eq_true_eq, decide_eq_false_iff_not] at *; omega) | (with_reducible assumption)) | (with_reducible assumption) | skip
  all_goals exact fin_ret (.inl rfl) (by cbv) (by simp) (To.fresh ⟨.b hf.symm, trivial⟩)
def kAreC : Kr
  | [a, .i .i64 k] => match asL a with
    | some (n, g) => some (.b fun _ => decide ((n .u : Int) = k .u) && allC (n .u) (rdRe g) (rdIm g), [], fun _ => IsC n g)
    | none => none
  | _ => none
def ctAreC : CT := [(144, .r kHasC)]
theorem ctAreC_ok : CTok Try.prog ctAreC := CTok.cons hasC_tells (CTok.nil _)
theorem areC_tells : Tells Try.prog 120 (.r kAreC) := by
  intro args r H' p hr hp
  unfold kAreC at hr
  split at hr <;> first | (cases hr; done) | skip
  split at hr <;> cases hr
  rename_i k _ n g hL
  refine ⟨.b, .nil, Con.pre (args' := [listC false n (rdRe g) (rdIm g), .i .i64 k]) ⟨Sub.asC hL hp, Sub.refl _, trivial⟩ ?_⟩
  have hn := hp.1
  generalize rdRe g = x
  generalize rdIm g = y
  refine Con.of ttok Try.func120 rfl rfl (Nat.le_refl _) (AW.exec ttok ctAreC_ok (by cbv) ?_)
  simp only [natCast_int, Post, All, thenA, canon0, canon064, and_true, true_and, forall_const, implies_true, decide_eq_true_eq, decide_eq_false_iff_not, Bool.not_eq_true', Bool.not_eq_false', Bool.true_and, Bool.and_true, beq_true, beq_false, Int.toNat_natCast, Int.ofNat_lt, Int.ofNat_le, Nat.zero_add, Nat.add_zero, imp_self, Bool.cond_false_right, Bool.cond_true_left, Bool.cond_true_right, IsF, rdF_eq, fOf, AV.f.injEq, exists_eq', free_list, free_fn0, List.not_mem_nil, List.mem_cons, false_imp, forall_eq, or_false, free_i, free_f, free_b, ren_f, ren_i, ren_b, and_self, bne_iff_ne, bne_eq_false_iff_eq, ne_eq, Int.natCast_inj, or_true, true_or, freeB_list, unfr_f, unfr_i, unfr_b, unfr_c, unfr_s, free_c, free_s, ren_c, ren_s, unfr_ro, unfr_rptr, ren_ro, free_ll, free_box, kill_f, kill_i, kill_b, kill_c, kill_s, kill_rof, kill_rot, Int.toNat_zero, isFF_ll, rowN_ll, rowX_ll, AllFree, Option.some.injEq, Prod.mk.injEq, Bool.false_eq_true, Bool.true_eq_false, isC_list, free_lc, hn]
  (repeat' first | with_reducible assumption | with_reducible apply And.intro | with_reducible intro hh) <;> first | ((first | with_reducible show (_ : Int) ≤ _ | with_reducible show (_ : Int) < _ | with_reducible show (_ : Nat) ≤ _ | with_reducible show (_ : Nat) < _ | with_reducible show (_ : Int) = _ | with_reducible show (_ : Nat) = _ | with_reducible show ¬ _ | with_reducible show _ ≠ _) <;> first | omega | (simp only [Bool.and_eq_true, Bool.or_eq_false_iff, Bool.not_eq_false', Bool.not_eq_true', decide_eq_true_eq, decide_eq_false_iff_not] at *; omega) | (with_reducible assumption)) | (with_reducible assumption) | skip
  refine fin_ret (.inl rfl) (by cbv) (by simp) (To.fresh ⟨.b ?_, trivial⟩)
  show (((n .u : Int) == k .u) && !!allC (n .u) x y) = _
  rw [Bool.not_not]
  rfl
theorem isC_to {H H' : Heap} {σ : List Nat} {keep : Bool} {n : Th Nat} {g : Th Nat → Nat → AV} (h : IsC n g) {j : Nat} (hj : j < n .u) : AvTo H H' σ keep (g (fun _ => j) 0) (.c .f32 (fun _ => rdRe g j) fun _ => rdIm g j) := by
  obtain ⟨x, y, hy⟩ := h.2 j hj
  simp only [hy]
  exact AvTo.c (by simp [rdRe, reOf, hy]) (by simp [rdIm, imOf, hy])
theorem frH_C {fr : Bool} {n : Th Nat} {x y : Nat → Nat} : FrH [blkC fr n x y] := .cons (fun fr B e => by cases e; exact .tab fun _ _ _ _ => .c) .nil
def kGiveC : Kg
  | [.own 0 i n 1], [some (_, .tab m 1 g)] => some (.two (fun _ => allC (m .u) (rdRe g) (rdIm g)) (.one (yesL m) [blkC false m (rdRe g) (rdIm g)] fun _ => IsC m g ∧ i .u = 0 ∧ n .u = m .u) (.one noL [blkC false m (rdRe g) (rdIm g)] fun _ => IsC m g ∧ i .u = 0 ∧ n .u = m .u))
  | _, _ => none
theorem oneC_to {X : Heap} {n : Th Nat} {x y : Nat → Nat} {env env' : List AV} (h : AllTo (blkC false n x y :: X) [blkC false n x y] [0] true env env') : To 1 env (blkC false n x y :: X) env' [blkC false n x y] :=
  To.pick [0] (by decide) (Nat.le_refl _) (fun j hj => by
    match j, hj with
    | 0, _ => rfl) ⟨.list (fun e => e) (Nat.le_refl _) fun j hj => AvTo.c rfl rfl, trivial⟩ h
def ctChkC : CT := [(120, .r kAreC)]
theorem ctChkC_ok : CTok Try.prog ctChkC := .cons areC_tells (.nil _)
theorem checkedC_g : Tells Try.prog 119 (.g 1 kGiveC) := by
  intro args Hc r hr
  unfold kGiveC at hr
  split at hr <;> cases hr
  rename_i i n fr m g
  refine AnsOk.two ttok Try.func119 rfl rfl (Nat.le_refl _) (Nat.le_refl _) (allFr_tup2 .own .b) (allFr_tup2 .v .b) frH_C frH_C fun ⟨hF, hi, hn⟩ => ⟨_, own_sub hi hn, AW.via (H' := [blkC false m (rdRe g) (rdIm g)]) (env' := mkE Try.f119.ntmps [(0, .own 0 (fun _ => 0) m 1)]) (To.same (Nat.le_refl _) ⟨.list (fun e => absurd e (by simp)) (Nat.le_refl _) fun j hj => isC_to hF hj, trivial⟩ ?_) ?_⟩
  · (repeat' first | exact AllTo.nil | apply AllTo.cons) <;> first | exact AvTo.dead _ | exact AvTo.i rfl | exact AvTo.i (by first | omega | (simp only [natCast_int]; omega)) | exact AvTo.f rfl | exact AvTo.b rfl | exact AvTo.v _ | exact AvTo.own rfl rfl rfl rfl | exact AvTo.own rfl rfl (by first | rfl | omega) (by first | rfl | omega) | exact Free.same .listF | exact Free.same (.fn (by simp) (by simp)) | skip
  have hm := hF.1
  generalize rdRe g = x
  generalize rdIm g = y
  refine AW.exec ttok ctChkC_ok (by cbv) ?_
  simp only [natCast_int, Post, All, thenA, canon0, canon064, and_true, true_and, forall_const, implies_true, decide_eq_true_eq, decide_eq_false_iff_not, Bool.not_eq_true', Bool.not_eq_false', Bool.true_and, Bool.and_true, beq_true, beq_false, Int.toNat_natCast, Int.ofNat_lt, Int.ofNat_le, Nat.zero_add, Nat.add_zero, imp_self, Bool.cond_false_right, Bool.cond_true_left, Bool.cond_true_right, IsF, rdF_eq, fOf, AV.f.injEq, exists_eq', free_list, free_fn0, List.not_mem_nil, List.mem_cons, false_imp, forall_eq, or_false, free_i, free_f, free_b, ren_f, ren_i, ren_b, and_self, bne_iff_ne, bne_eq_false_iff_eq, ne_eq, Int.natCast_inj, or_true, true_or, freeB_list, unfr_f, unfr_i, unfr_b, unfr_c, unfr_s, free_c, free_s, ren_c, ren_s, unfr_ro, unfr_rptr, ren_ro, free_ll, free_box, kill_f, kill_i, kill_b, kill_c, kill_s, kill_rof, kill_rot, Int.toNat_zero, isFF_ll, rowN_ll, rowX_ll, AllFree, Option.some.injEq, Prod.mk.injEq, Bool.false_eq_true, Bool.true_eq_false, isC_list, free_lc, free_cc, hm]
  (repeat' first | with_reducible assumption | with_reducible apply And.intro | with_reducible intro hh) <;> first | ((first | with_reducible show (_ : Int) ≤ _ | with_reducible show (_ : Int) < _ | with_reducible show (_ : Nat) ≤ _ | with_reducible show (_ : Nat) < _ | with_reducible show (_ : Int) = _ | with_reducible show (_ : Nat) = _ | with_reducible show ¬ _ | with_reducible show _ ≠ _) <;> first | omega | (simp only [Bool.and_eq_true, Bool.or_eq_false_iff, Bool.not_eq_false', Bool.not_eq_true', decide_eq_true_eq, decide_eq_false_iff_not] at *; omega) | (with_reducible assumption)) | (with_reducible assumption) | skip
  · have h : allC (m .u) x y = false := by
      have h := hh
      simp only [decide_true, Bool.true_and] at h
      exact h
    exact okA.no h (fin_ret (.inl rfl) (by cbv) (by simp) (oneC_to noL_to))
  · have h : allC (m .u) x y = true := by
      have h := hh
      simp only [decide_true, Bool.true_and] at h
      exact h
    exact okA.yes h (fin_ret (.inl rfl) (by cbv) (by simp) (oneC_to (.cons (.tup (.cons (.own rfl rfl rfl rfl) (.cons (.b rfl) .nil))) .nil)))
/-! The reference's side. -/
def ctCF : CT := [(71, .r kFin)]
theorem ctCF_ok : CTok Try.prog ctCF := .cons l01Finite_tells (.nil _)
def kAllC : Kr
  | [a] => match asL a with
    | some (n, g) => some (.b fun _ => allC (n .u) (rdRe g) (rdIm g), [], fun _ => IsC n g)
    | none => none
  | _ => none
end Go.Proofs.Ytfdmmbcjidkmoaa
