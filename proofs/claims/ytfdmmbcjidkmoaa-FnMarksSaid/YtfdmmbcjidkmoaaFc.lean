/- What small functions of numbers answer. -/
/- What the functions of lists answer on the program's side. -/
/- Lists that are moved. -/
import Derived.Test.YtfdmmbcjidkmoaaAwo
import Derived.Test.YtfdmmbcjidkmoaaAwT
set_option linter.unusedSimpArgs false
set_option linter.unusedVariables false
namespace Go.Proofs.Ytfdmmbcjidkmoaa
open Go.Aw
def isFin (x : Nat) : Bool := feq .f32 (fsub .f32 x x) 0
def kFin : Kr
  | [.f .f32 x] => some (.b fun _ => isFin (x .u), [], fun _ => True)
  | _ => none
theorem l01Finite_tells : Tells Try.prog 71 (.r kFin) := by
  intro args r H' p hr hp
  unfold kFin at hr
  split at hr <;> cases hr
  refine ⟨.b, .nil, Con.of ttok Try.func71 rfl rfl (Nat.le_refl _) (AW.exec ttok (CTok.nil _) (by cbv) ?_)⟩
  simp only [natCast_int, Post, All, thenA, canon0, canon064, and_true, true_and, forall_const, implies_true, decide_eq_true_eq, decide_eq_false_iff_not, Bool.not_eq_true', Bool.not_eq_false', Bool.true_and, Bool.and_true, beq_true, beq_false, Int.toNat_natCast, Int.ofNat_lt, Int.ofNat_le, Nat.zero_add, Nat.add_zero, imp_self, Bool.cond_false_right, Bool.cond_true_left, Bool.cond_true_right, IsF, rdF_eq, fOf, AV.f.injEq, exists_eq', free_list, free_fn0, List.not_mem_nil, List.mem_cons, false_imp, forall_eq, or_false, free_i, free_f, free_b, ren_f, ren_i, ren_b, and_self, bne_iff_ne, bne_eq_false_iff_eq, ne_eq, Int.natCast_inj, or_true, true_or, freeB_list, unfr_f, unfr_i, unfr_b, unfr_c, unfr_s, free_c, free_s, ren_c, ren_s, unfr_ro, unfr_rptr, ren_ro, free_ll, free_box, kill_f, kill_i, kill_b, kill_c, kill_s, kill_rof, kill_rot, Int.toNat_zero, isFF_ll, rowN_ll, rowX_ll, AllFree, Option.some.injEq, Prod.mk.injEq, Bool.false_eq_true, Bool.true_eq_false]
  exact fin_ret (.inl rfl) (by cbv) (by simp) (To.fresh ⟨.b rfl, trivial⟩)
theorem IsFinite_tells : Tells Try.prog 78 (.r kFin) := by
  intro args r H' p hr hp
  unfold kFin at hr
  split at hr <;> cases hr
  refine ⟨.b, .nil, Con.of ttok Try.func78 rfl rfl (Nat.le_refl _) (AW.exec ttok (CTok.nil _) (by cbv) ?_)⟩
  simp only [natCast_int, Post, All, thenA, canon0, canon064, and_true, true_and, forall_const, implies_true, decide_eq_true_eq, decide_eq_false_iff_not, Bool.not_eq_true', Bool.not_eq_false', Bool.true_and, Bool.and_true, beq_true, beq_false, Int.toNat_natCast, Int.ofNat_lt, Int.ofNat_le, Nat.zero_add, Nat.add_zero, imp_self, Bool.cond_false_right, Bool.cond_true_left, Bool.cond_true_right, IsF, rdF_eq, fOf, AV.f.injEq, exists_eq', free_list, free_fn0, List.not_mem_nil, List.mem_cons, false_imp, forall_eq, or_false, free_i, free_f, free_b, ren_f, ren_i, ren_b, and_self, bne_iff_ne, bne_eq_false_iff_eq, ne_eq, Int.natCast_inj, or_true, true_or, freeB_list, unfr_f, unfr_i, unfr_b, unfr_c, unfr_s, free_c, free_s, ren_c, ren_s, unfr_ro, unfr_rptr, ren_ro, free_ll, free_box, kill_f, kill_i, kill_b, kill_c, kill_s, kill_rof, kill_rot, Int.toNat_zero, isFF_ll, rowN_ll, rowX_ll, AllFree, Option.some.injEq, Prod.mk.injEq, Bool.false_eq_true, Bool.true_eq_false]
  exact fin_ret (.inl rfl) (by cbv) (by simp) (To.fresh ⟨.b rfl, trivial⟩)
def kIn : Kr
  | [.i .i64 n, .i .i64 a, .i .i64 b] => some (.b fun _ => decide (a .u ≤ n .u) && decide (n .u ≤ b .u), [], fun _ => True)
  | _ => none
theorem l00In_tells : Tells Try.prog 81 (.r kIn) := by
  intro args r H' p hr hp
  unfold kIn at hr
  split at hr <;> cases hr
  refine ⟨.b, .nil, Con.of ttok Try.func81 rfl rfl (Nat.le_refl _) (AW.exec ttok (CTok.nil _) (by cbv) ?_)⟩
  simp only [natCast_int, Post, All, thenA, canon0, canon064, and_true, true_and, forall_const, implies_true, decide_eq_true_eq, decide_eq_false_iff_not, Bool.not_eq_true', Bool.not_eq_false', Bool.true_and, Bool.and_true, beq_true, beq_false, Int.toNat_natCast, Int.ofNat_lt, Int.ofNat_le, Nat.zero_add, Nat.add_zero, imp_self, Bool.cond_false_right, Bool.cond_true_left, Bool.cond_true_right, IsF, rdF_eq, fOf, AV.f.injEq, exists_eq', free_list, free_fn0, List.not_mem_nil, List.mem_cons, false_imp, forall_eq, or_false, free_i, free_f, free_b, ren_f, ren_i, ren_b, and_self, bne_iff_ne, bne_eq_false_iff_eq, ne_eq, Int.natCast_inj, or_true, true_or, freeB_list, unfr_f, unfr_i, unfr_b, unfr_c, unfr_s, free_c, free_s, ren_c, ren_s, unfr_ro, unfr_rptr, ren_ro, free_ll, free_box, kill_f, kill_i, kill_b, kill_c, kill_s, kill_rof, kill_rot, Int.toNat_zero, isFF_ll, rowN_ll, rowX_ll, AllFree, Option.some.injEq, Prod.mk.injEq, Bool.false_eq_true, Bool.true_eq_false]
  (repeat' first | with_reducible assumption | with_reducible apply And.intro | with_reducible intro hh) <;> first | ((first | with_reducible show (_ : Int) ≤ _ | with_reducible show (_ : Int) < _ | with_reducible show (_ : Nat) ≤ _ | with_reducible show (_ : Nat) < _ | with_reducible show (_ : Int) = _ | with_reducible show (_ : Nat) = _ | with_reducible show ¬ _ | with_reducible show _ ≠ _) <;> first | omega | (simp only [Bool.and_eq_true, Bool.or_eq_false_iff, Bool.not_eq_false', Bool.not_eq_true', decide_eq_true_eq, decide_eq_false_iff_not] at *; omega) | (with_reducible assumption)) | (with_reducible assumption) | skip
  exact fin_ret (.inl rfl) (by cbv) (by simp) (To.fresh ⟨.b rfl, trivial⟩)
theorem within_tells : Tells Try.prog 79 (.r kIn) := by
  intro args r H' p hr hp
  unfold kIn at hr
  split at hr <;> cases hr
  refine ⟨.b, .nil, Con.of ttok Try.func79 rfl rfl (Nat.le_refl _) (AW.exec ttok (CTok.nil _) (by cbv) ?_)⟩
  simp only [natCast_int, Post, All, thenA, canon0, canon064, and_true, true_and, forall_const, implies_true, decide_eq_true_eq, decide_eq_false_iff_not, Bool.not_eq_true', Bool.not_eq_false', Bool.true_and, Bool.and_true, beq_true, beq_false, Int.toNat_natCast, Int.ofNat_lt, Int.ofNat_le, Nat.zero_add, Nat.add_zero, imp_self, Bool.cond_false_right, Bool.cond_true_left, Bool.cond_true_right, IsF, rdF_eq, fOf, AV.f.injEq, exists_eq', free_list, free_fn0, List.not_mem_nil, List.mem_cons, false_imp, forall_eq, or_false, free_i, free_f, free_b, ren_f, ren_i, ren_b, and_self, bne_iff_ne, bne_eq_false_iff_eq, ne_eq, Int.natCast_inj, or_true, true_or, freeB_list, unfr_f, unfr_i, unfr_b, unfr_c, unfr_s, free_c, free_s, ren_c, ren_s, unfr_ro, unfr_rptr, ren_ro, free_ll, free_box, kill_f, kill_i, kill_b, kill_c, kill_s, kill_rof, kill_rot, Int.toNat_zero, isFF_ll, rowN_ll, rowX_ll, AllFree, Option.some.injEq, Prod.mk.injEq, Bool.false_eq_true, Bool.true_eq_false]
  (repeat' first | with_reducible assumption | with_reducible apply And.intro | with_reducible intro hh) <;> first | ((first | with_reducible show (_ : Int) ≤ _ | with_reducible show (_ : Int) < _ | with_reducible show (_ : Nat) ≤ _ | with_reducible show (_ : Nat) < _ | with_reducible show (_ : Int) = _ | with_reducible show (_ : Nat) = _ | with_reducible show ¬ _ | with_reducible show _ ≠ _) <;> first | omega | (simp only [Bool.and_eq_true, Bool.or_eq_false_iff, Bool.not_eq_false', Bool.not_eq_true', decide_eq_true_eq, decide_eq_false_iff_not] at *; omega) | (with_reducible assumption)) | (with_reducible assumption) | skip
  exact fin_ret (.inl rfl) (by cbv) (by simp) (To.fresh ⟨.b rfl, trivial⟩)
/-- All of the first n. -/
def allN (q : Nat → Bool) (n : Nat) : Bool := (List.range n).all q
theorem allN_true {q : Nat → Bool} {n : Nat} (h : ∀ j, j < n → q j = true) : allN q n = true := List.all_eq_true.2 fun j hj => h j (List.mem_range.1 hj)
theorem allN_false {q : Nat → Bool} {n j : Nat} (hj : j < n) (h : q j = false) : allN q n = false := List.all_eq_false.2 ⟨j, List.mem_range.2 hj, by simp [h]⟩
theorem lt_succ_all {i : Nat} {q : Nat → Prop} (h : ∀ j, j < i → q j) (hi : q i) : ∀ j, j < i + 1 → q j := fun j hj => by
  rcases Nat.lt_or_eq_of_le (Nat.le_of_lt_succ hj) with h' | h'
  · exact h j h'
  · exact h' ▸ hi
abbrev listF (fr : Bool) (n : Th Nat) (x : Nat → Nat) : AV := .ro fr n 1 fun i _ => .f .f32 fun _ => x (i .u)
def isList (n : Nat) (x : Nat → Nat) : Bool := allN (fun i => isFin (x i)) n && (decide (1 ≤ n) && decide (n ≤ 128))
def kList : Kr
  | [a] => match asL a with
    | some (n, g) => some (.b fun _ => isList (n .u) (rdF g), [], fun _ => IsF n g)
    | none => none
  | _ => none
def ctFin : CT := [(71, .r kFin)]
theorem ctFin_ok : CTok Try.prog ctFin := CTok.cons l01Finite_tells (CTok.nil _)
theorem l05List_tells : Tells Try.prog 132 (.r kList) := by
  intro args r H' p hr hp
  unfold kList at hr
  split at hr <;> first | (cases hr; done) | skip
  split at hr <;> cases hr
  rename_i n g hL
  refine ⟨.b, .nil, Con.pre (args' := [listF false n (rdF g)]) ⟨.asL hL hp, trivial⟩ ?_⟩
  have hn := hp.1
  generalize rdF g = x
  refine Con.of ttok Try.func132 rfl rfl (Nat.le_refl _) (AW.exec ttok ctFin_ok (by cbv) ?_)
  simp only [natCast_int, Post, All, thenA, canon0, canon064, and_true, true_and, forall_const, implies_true, decide_eq_true_eq, decide_eq_false_iff_not, Bool.not_eq_true', Bool.not_eq_false', Bool.true_and, Bool.and_true, beq_true, beq_false, Int.toNat_natCast, Int.ofNat_lt, Int.ofNat_le, Nat.zero_add, Nat.add_zero, imp_self, Bool.cond_false_right, Bool.cond_true_left, Bool.cond_true_right, IsF, rdF_eq, fOf, AV.f.injEq, exists_eq', free_list, free_fn0, List.not_mem_nil, List.mem_cons, false_imp, forall_eq, or_false, free_i, free_f, free_b, ren_f, ren_i, ren_b, and_self, bne_iff_ne, bne_eq_false_iff_eq, ne_eq, Int.natCast_inj, or_true, true_or, freeB_list, unfr_f, unfr_i, unfr_b, unfr_c, unfr_s, free_c, free_s, ren_c, ren_s, unfr_ro, unfr_rptr, ren_ro, free_ll, free_box, kill_f, kill_i, kill_b, kill_c, kill_s, kill_rof, kill_rot, Int.toNat_zero, isFF_ll, rowN_ll, rowX_ll, AllFree, Option.some.injEq, Prod.mk.injEq, Bool.false_eq_true, Bool.true_eq_false]
  refine AW.loopTo (ι := Nat) (fun i => i ≤ n .u ∧ ∀ j, j < i → isFin (x j) = true) (fun i => n .u - i) (fun i => mkE Try.f132.ntmps [(0, listF false n x), (5, .i .i64 fun _ => (n .u : Int)), (6, .i .i64 fun _ => (i : Int))]) (fun _ => []) 0 ⟨Nat.zero_le _, fun j hj => absurd hj (Nat.not_lt_zero _)⟩ (To.same (Nat.le_refl _) trivial ?_) ?_
  · (repeat' first | exact AllTo.nil | apply AllTo.cons) <;> first | exact AvTo.dead _ | exact AvTo.i rfl | exact AvTo.i (by first | omega | (simp only [natCast_int]; omega)) | exact AvTo.f rfl | exact AvTo.b rfl | exact AvTo.v _ | exact AvTo.own rfl rfl rfl rfl | exact AvTo.own rfl rfl (by first | rfl | omega) (by first | rfl | omega) | exact Free.same .listF | exact Free.same (.fn (by simp) (by simp)) | skip
  · rintro i ⟨hi, hx⟩
    refine AW.exec ttok ctFin_ok (by cbv) ?_
    simp only [natCast_int, Post, All, thenA, canon0, canon064, and_true, true_and, forall_const, implies_true, decide_eq_true_eq, decide_eq_false_iff_not, Bool.not_eq_true', Bool.not_eq_false', Bool.true_and, Bool.and_true, beq_true, beq_false, Int.toNat_natCast, Int.ofNat_lt, Int.ofNat_le, Nat.zero_add, Nat.add_zero, imp_self, Bool.cond_false_right, Bool.cond_true_left, Bool.cond_true_right, IsF, rdF_eq, fOf, AV.f.injEq, exists_eq', free_list, free_fn0, List.not_mem_nil, List.mem_cons, false_imp, forall_eq, or_false, free_i, free_f, free_b, ren_f, ren_i, ren_b, and_self, bne_iff_ne, bne_eq_false_iff_eq, ne_eq, Int.natCast_inj, or_true, true_or, freeB_list, unfr_f, unfr_i, unfr_b, unfr_c, unfr_s, free_c, free_s, ren_c, ren_s, unfr_ro, unfr_rptr, ren_ro, free_ll, free_box, kill_f, kill_i, kill_b, kill_c, kill_s, kill_rof, kill_rot, Int.toNat_zero, isFF_ll, rowN_ll, rowX_ll, AllFree, Option.some.injEq, Prod.mk.injEq, Bool.false_eq_true, Bool.true_eq_false]
    refine ⟨fun h1 => ⟨by omega, fun _ => ⟨fun h2 => ?_, fun h2 => ⟨by omega, fun _ => ⟨i + 1, ⟨h1, lt_succ_all hx h2⟩, by omega, To.same (Nat.le_refl _) trivial ?_⟩⟩⟩⟩, fun h1 => ?_⟩
    · refine Post.leaf (by cbv) (fin_ret (.inl rfl) (by cbv) (by simp) (To.fresh ⟨.b ?_, trivial⟩))
      simp only [isList, allN_false h1 (q := fun i => isFin (x i)) h2, Bool.false_and]
    · (repeat' first | exact AllTo.nil | apply AllTo.cons) <;> first | exact AvTo.dead _ | exact AvTo.i rfl | exact AvTo.i (by first | omega | (simp only [natCast_int]; omega)) | exact AvTo.f rfl | exact AvTo.b rfl | exact AvTo.v _ | exact AvTo.own rfl rfl rfl rfl | exact AvTo.own rfl rfl (by first | rfl | omega) (by first | rfl | omega) | exact Free.same .listF | exact Free.same (.fn (by simp) (by simp)) | skip
    · refine Post.eval (by cbv) ?_
      simp only [natCast_int, Post, All, thenA, canon0, canon064, and_true, true_and, forall_const, implies_true, decide_eq_true_eq, decide_eq_false_iff_not, Bool.not_eq_true', Bool.not_eq_false', Bool.true_and, Bool.and_true, beq_true, beq_false, Int.toNat_natCast, Int.ofNat_lt, Int.ofNat_le, Nat.zero_add, Nat.add_zero, imp_self, Bool.cond_false_right, Bool.cond_true_left, Bool.cond_true_right, IsF, rdF_eq, fOf, AV.f.injEq, exists_eq', free_list, free_fn0, List.not_mem_nil, List.mem_cons, false_imp, forall_eq, or_false, free_i, free_f, free_b, ren_f, ren_i, ren_b, and_self, bne_iff_ne, bne_eq_false_iff_eq, ne_eq, Int.natCast_inj, or_true, true_or, freeB_list, unfr_f, unfr_i, unfr_b, unfr_c, unfr_s, free_c, free_s, ren_c, ren_s, unfr_ro, unfr_rptr, ren_ro, free_ll, free_box, kill_f, kill_i, kill_b, kill_c, kill_s, kill_rof, kill_rot, Int.toNat_zero, isFF_ll, rowN_ll, rowX_ll, AllFree, Option.some.injEq, Prod.mk.injEq, Bool.false_eq_true, Bool.true_eq_false]
      refine fin_ret (.inl rfl) (by cbv) (by simp) (To.fresh ⟨.b ?_, trivial⟩)
      have e : i = n .u := by omega
      simp only [isList, allN_true (e ▸ hx), Bool.true_and]
      rw [show decide ((n U.u : Int) ≤ 128) = decide (n .u ≤ 128) from decide_eq_decide.2 (by omega), show decide (1 ≤ (n U.u : Int)) = decide (1 ≤ n .u) from decide_eq_decide.2 (by omega)]
end Go.Proofs.Ytfdmmbcjidkmoaa
set_option linter.unusedSimpArgs false
set_option linter.unusedVariables false
namespace Go.Proofs.Ytfdmmbcjidkmoaa
open Go.Aw
/-- A function of one number that says yes or no. -/
def kPred (q : Nat → Bool) : Kr
  | [.f .f32 x] => some (.b fun _ => q (x .u), [], fun _ => True)
  | _ => none
/-- The first place of n where q holds, -1 where none does. -/
def firstN (q : Nat → Bool) (n : Nat) : Int := match (List.range n).find? q with
  | some i => i
  | none => -1
theorem firstN_none {q : Nat → Bool} {n : Nat} (h : ∀ j, j < n → q j = false) : firstN q n = -1 := by
  unfold firstN
  rw [List.find?_eq_none.2 fun j hj => by simp [h j (List.mem_range.1 hj)]]
theorem firstN_at {q : Nat → Bool} {n i : Nat} (hi : i < n) (hq : q i = true) (h : ∀ j, j < i → q j = false) : firstN q n = i := by
  unfold firstN
  have : (List.range n).find? q = some i := by
    rw [List.find?_range_eq_some]
    exact ⟨hq, List.mem_range.2 hi, fun j hj => by simp [h j hj]⟩
  rw [this]
theorem has_first {q : Nat → Bool} (n : Nat) : (!allN (fun i => !q i) n) = decide (0 ≤ firstN q n) := by
  by_cases h : ∀ j, j < n → q j = false
  · rw [firstN_none h, allN_true fun j hj => by simp [h j hj]]; rfl
  · have h : ∃ j, j < n ∧ q j = true := by
      apply Classical.byContradiction
      intro hno
      exact h fun j hj => by
        cases hq : q j with
        | false => rfl
        | true => exact absurd ⟨j, hj, hq⟩ hno
    obtain ⟨j, hj, hq⟩ := h
    rw [allN_false hj (q := fun i => !q i) (by simp [hq])]
    unfold firstN
    cases hf : (List.range n).find? q with
    | some i => simp
    | none => exact absurd hq (by simpa using List.find?_eq_none.1 hf j (List.mem_range.2 hj))
def notFin (x : Nat) : Bool := !isFin x
def ctIsFinite : CT := [(78, .r kFin)]
theorem ctIsFinite_ok : CTok Try.prog ctIsFinite := CTok.cons IsFinite_tells (CTok.nil _)
theorem areFinite1_tells : Tells Try.prog 125 (.r (kPred notFin)) := by
  intro args r H' p hr hp
  unfold kPred at hr
  split at hr <;> cases hr
  refine ⟨.b, .nil, Con.of ttok Try.func125 rfl rfl (Nat.le_refl _) (AW.exec ttok ctIsFinite_ok (by cbv) ?_)⟩
  simp only [natCast_int, Post, All, thenA, canon0, canon064, and_true, true_and, forall_const, implies_true, decide_eq_true_eq, decide_eq_false_iff_not, Bool.not_eq_true', Bool.not_eq_false', Bool.true_and, Bool.and_true, beq_true, beq_false, Int.toNat_natCast, Int.ofNat_lt, Int.ofNat_le, Nat.zero_add, Nat.add_zero, imp_self, Bool.cond_false_right, Bool.cond_true_left, Bool.cond_true_right, IsF, rdF_eq, fOf, AV.f.injEq, exists_eq', free_list, free_fn0, List.not_mem_nil, List.mem_cons, false_imp, forall_eq, or_false, free_i, free_f, free_b, ren_f, ren_i, ren_b, and_self, bne_iff_ne, bne_eq_false_iff_eq, ne_eq, Int.natCast_inj, or_true, true_or, freeB_list, unfr_f, unfr_i, unfr_b, unfr_c, unfr_s, free_c, free_s, ren_c, ren_s, unfr_ro, unfr_rptr, ren_ro, free_ll, free_box, kill_f, kill_i, kill_b, kill_c, kill_s, kill_rof, kill_rot, Int.toNat_zero, isFF_ll, rowN_ll, rowX_ll, AllFree, Option.some.injEq, Prod.mk.injEq, Bool.false_eq_true, Bool.true_eq_false]
  exact fin_ret (.inl rfl) (by cbv) (by simp) (To.fresh ⟨.b rfl, trivial⟩)
/-- The first place where notFin holds, -1 where none does: slices.IndexFunc over the closure 125. -/
def kIndex_notFin : Kr
  | [a, .fn (.func c) [] []] => match Nat.beq c 125 with
    | true => match asL a with
      | some (n, g) => some (.i .i64 fun _ => firstN (fun i => notFin (rdF g i)) (n .u), [], fun _ => IsF n g)
      | none => none
    | false => none
  | _ => none
def ctI_notFin : CT := [(125, .r (kPred notFin))]
theorem ctI_notFin_ok : CTok Try.prog ctI_notFin := CTok.cons areFinite1_tells (CTok.nil _)
theorem index_notFin : Tells Try.prog 147 (.r kIndex_notFin) := by
  intro args r H' p hr hp
  unfold kIndex_notFin at hr
  split at hr <;> first | (cases hr; done) | skip
  split at hr <;> first | (cases hr; done) | skip
  rename_i c hc
  obtain rfl := Nat.beq_eq.mp hc
  split at hr <;> cases hr
  rename_i n g hL
  refine ⟨.i, .nil, Con.pre (args' := [listF false n (rdF g), .fn (.func 125) [] []]) ⟨.asL hL hp, Sub.refl _, trivial⟩ ?_⟩
  have hn := hp.1
  generalize rdF g = x
  refine Con.of ttok Try.func147 rfl rfl (Nat.le_refl _) (AW.exec ttok ctI_notFin_ok (by cbv) ?_)
  simp only [natCast_int, Post, All, thenA, canon0, canon064, and_true, true_and, forall_const, implies_true, decide_eq_true_eq, decide_eq_false_iff_not, Bool.not_eq_true', Bool.not_eq_false', Bool.true_and, Bool.and_true, beq_true, beq_false, Int.toNat_natCast, Int.ofNat_lt, Int.ofNat_le, Nat.zero_add, Nat.add_zero, imp_self, Bool.cond_false_right, Bool.cond_true_left, Bool.cond_true_right, IsF, rdF_eq, fOf, AV.f.injEq, exists_eq', free_list, free_fn0, List.not_mem_nil, List.mem_cons, false_imp, forall_eq, or_false, free_i, free_f, free_b, ren_f, ren_i, ren_b, and_self, bne_iff_ne, bne_eq_false_iff_eq, ne_eq, Int.natCast_inj, or_true, true_or, freeB_list, unfr_f, unfr_i, unfr_b, unfr_c, unfr_s, free_c, free_s, ren_c, ren_s, unfr_ro, unfr_rptr, ren_ro, free_ll, free_box, kill_f, kill_i, kill_b, kill_c, kill_s, kill_rof, kill_rot, Int.toNat_zero, isFF_ll, rowN_ll, rowX_ll, AllFree, Option.some.injEq, Prod.mk.injEq, Bool.false_eq_true, Bool.true_eq_false]
  refine AW.loopTo (ι := Nat) (fun i => i ≤ n .u ∧ ∀ j, j < i → notFin (x j) = false) (fun i => n .u - i) (fun i => mkE Try.f147.ntmps [(0, listF false n x), (1, .fn (.func 125) [] []), (7, .i .i64 fun _ => (n .u : Int)), (8, .i .i64 fun _ => (i : Int))]) (fun _ => []) 0 ⟨Nat.zero_le _, fun j hj => absurd hj (Nat.not_lt_zero _)⟩ (To.same (Nat.le_refl _) trivial ?_) ?_
  · (repeat' first | exact AllTo.nil | apply AllTo.cons) <;> first | exact AvTo.dead _ | exact AvTo.i rfl | exact AvTo.i (by first | omega | (simp only [natCast_int]; omega)) | exact AvTo.f rfl | exact AvTo.b rfl | exact AvTo.v _ | exact AvTo.own rfl rfl rfl rfl | exact AvTo.own rfl rfl (by first | rfl | omega) (by first | rfl | omega) | exact Free.same .listF | exact Free.same (.fn (by simp) (by simp)) | skip
  · rintro i ⟨hi, hx⟩
    refine AW.exec ttok ctI_notFin_ok (by cbv) ?_
    simp only [natCast_int, Post, All, thenA, canon0, canon064, and_true, true_and, forall_const, implies_true, decide_eq_true_eq, decide_eq_false_iff_not, Bool.not_eq_true', Bool.not_eq_false', Bool.true_and, Bool.and_true, beq_true, beq_false, Int.toNat_natCast, Int.ofNat_lt, Int.ofNat_le, Nat.zero_add, Nat.add_zero, imp_self, Bool.cond_false_right, Bool.cond_true_left, Bool.cond_true_right, IsF, rdF_eq, fOf, AV.f.injEq, exists_eq', free_list, free_fn0, List.not_mem_nil, List.mem_cons, false_imp, forall_eq, or_false, free_i, free_f, free_b, ren_f, ren_i, ren_b, and_self, bne_iff_ne, bne_eq_false_iff_eq, ne_eq, Int.natCast_inj, or_true, true_or, freeB_list, unfr_f, unfr_i, unfr_b, unfr_c, unfr_s, free_c, free_s, ren_c, ren_s, unfr_ro, unfr_rptr, ren_ro, free_ll, free_box, kill_f, kill_i, kill_b, kill_c, kill_s, kill_rof, kill_rot, Int.toNat_zero, isFF_ll, rowN_ll, rowX_ll, AllFree, Option.some.injEq, Prod.mk.injEq, Bool.false_eq_true, Bool.true_eq_false]
    refine ⟨fun h1 => ⟨by omega, fun _ => ⟨fun h2 => ?_, fun h2 => ⟨by omega, fun _ => ⟨i + 1, ⟨h1, lt_succ_all hx h2⟩, by omega, To.same (Nat.le_refl _) trivial ?_⟩⟩⟩⟩, fun h1 => ?_⟩
    · refine Post.leaf (by cbv) (fin_ret (.inl rfl) (by cbv) (by simp) (To.fresh ⟨.i ?_, trivial⟩))
      exact (firstN_at (q := fun i => notFin (x i)) h1 h2 hx).symm
    · (repeat' first | exact AllTo.nil | apply AllTo.cons) <;> first | exact AvTo.dead _ | exact AvTo.i rfl | exact AvTo.i (by first | omega | (simp only [natCast_int]; omega)) | exact AvTo.f rfl | exact AvTo.b rfl | exact AvTo.v _ | exact AvTo.own rfl rfl rfl rfl | exact AvTo.own rfl rfl (by first | rfl | omega) (by first | rfl | omega) | exact Free.same .listF | exact Free.same (.fn (by simp) (by simp)) | skip
    · refine Post.eval (by cbv) ?_
      simp only [natCast_int, Post, All, thenA, canon0, canon064, and_true, true_and, forall_const, implies_true, decide_eq_true_eq, decide_eq_false_iff_not, Bool.not_eq_true', Bool.not_eq_false', Bool.true_and, Bool.and_true, beq_true, beq_false, Int.toNat_natCast, Int.ofNat_lt, Int.ofNat_le, Nat.zero_add, Nat.add_zero, imp_self, Bool.cond_false_right, Bool.cond_true_left, Bool.cond_true_right, IsF, rdF_eq, fOf, AV.f.injEq, exists_eq', free_list, free_fn0, List.not_mem_nil, List.mem_cons, false_imp, forall_eq, or_false, free_i, free_f, free_b, ren_f, ren_i, ren_b, and_self, bne_iff_ne, bne_eq_false_iff_eq, ne_eq, Int.natCast_inj, or_true, true_or, freeB_list, unfr_f, unfr_i, unfr_b, unfr_c, unfr_s, free_c, free_s, ren_c, ren_s, unfr_ro, unfr_rptr, ren_ro, free_ll, free_box, kill_f, kill_i, kill_b, kill_c, kill_s, kill_rof, kill_rot, Int.toNat_zero, isFF_ll, rowN_ll, rowX_ll, AllFree, Option.some.injEq, Prod.mk.injEq, Bool.false_eq_true, Bool.true_eq_false]
      refine fin_ret (.inl rfl) (by cbv) (by simp) (To.fresh ⟨.i ?_, trivial⟩)
      have e : i = n .u := by omega
      exact (firstN_none (q := fun i => notFin (x i)) (e ▸ hx)).symm
def kHas_notFin : Kr
  | [a, .fn (.func c) [] []] => match Nat.beq c 125 with
    | true => match asL a with
      | some (n, g) => some (.b fun _ => !allN (fun i => !notFin (rdF g i)) (n .u), [], fun _ => IsF n g)
      | none => none
    | false => none
  | _ => none
def ctH_notFin : CT := [(147, .r kIndex_notFin)]
theorem ctH_notFin_ok : CTok Try.prog ctH_notFin := CTok.cons index_notFin (CTok.nil _)
theorem has_notFin : Tells Try.prog 124 (.r kHas_notFin) := by
  intro args r H' p hr hp
  unfold kHas_notFin at hr
  split at hr <;> first | (cases hr; done) | skip
  split at hr <;> first | (cases hr; done) | skip
  rename_i c hc
  obtain rfl := Nat.beq_eq.mp hc
  split at hr <;> cases hr
  rename_i n g hL
  refine ⟨.b, .nil, Con.pre (args' := [listF false n (rdF g), .fn (.func 125) [] []]) ⟨.asL hL hp, Sub.refl _, trivial⟩ ?_⟩
  have hn := hp.1
  generalize rdF g = x
  refine Con.of ttok Try.func124 rfl rfl (Nat.le_refl _) (AW.exec ttok ctH_notFin_ok (by cbv) ?_)
  simp only [natCast_int, Post, All, thenA, canon0, canon064, and_true, true_and, forall_const, implies_true, decide_eq_true_eq, decide_eq_false_iff_not, Bool.not_eq_true', Bool.not_eq_false', Bool.true_and, Bool.and_true, beq_true, beq_false, Int.toNat_natCast, Int.ofNat_lt, Int.ofNat_le, Nat.zero_add, Nat.add_zero, imp_self, Bool.cond_false_right, Bool.cond_true_left, Bool.cond_true_right, IsF, rdF_eq, fOf, AV.f.injEq, exists_eq', free_list, free_fn0, List.not_mem_nil, List.mem_cons, false_imp, forall_eq, or_false, free_i, free_f, free_b, ren_f, ren_i, ren_b, and_self, bne_iff_ne, bne_eq_false_iff_eq, ne_eq, Int.natCast_inj, or_true, true_or, freeB_list, unfr_f, unfr_i, unfr_b, unfr_c, unfr_s, free_c, free_s, ren_c, ren_s, unfr_ro, unfr_rptr, ren_ro, free_ll, free_box, kill_f, kill_i, kill_b, kill_c, kill_s, kill_rof, kill_rot, Int.toNat_zero, isFF_ll, rowN_ll, rowX_ll, AllFree, Option.some.injEq, Prod.mk.injEq, Bool.false_eq_true, Bool.true_eq_false]
  exact ⟨hn, fun _ => fin_ret (.inl rfl) (by cbv) (by simp) (To.fresh ⟨.b (has_first (q := fun i => notFin (x i)) (n .u)).symm, trivial⟩)⟩
def finN (n : Nat) (x : Nat → Nat) : Bool := allN (fun i => isFin (x i)) n
def kFinN : Kr
  | [a] => match asL a with
    | some (n, g) => some (.b fun _ => finN (n .u) (rdF g), [], fun _ => IsF n g)
    | none => none
  | _ => none
def ctAreFinite : CT := [(124, .r kHas_notFin)]
theorem ctAreFinite_ok : CTok Try.prog ctAreFinite := CTok.cons has_notFin (CTok.nil _)
theorem areFinite_tells : Tells Try.prog 68 (.r kFinN) := by
  intro args r H' p hr hp
  unfold kFinN at hr
  split at hr <;> first | (cases hr; done) | skip
  split at hr <;> cases hr
  rename_i n g hL
  refine ⟨.b, .nil, Con.pre (args' := [listF false n (rdF g)]) ⟨.asL hL hp, trivial⟩ ?_⟩
  have hn := hp.1
  generalize rdF g = x
  refine Con.of ttok Try.func68 rfl rfl (Nat.le_refl _) (AW.exec ttok ctAreFinite_ok (by cbv) ?_)
  simp only [natCast_int, Post, All, thenA, canon0, canon064, and_true, true_and, forall_const, implies_true, decide_eq_true_eq, decide_eq_false_iff_not, Bool.not_eq_true', Bool.not_eq_false', Bool.true_and, Bool.and_true, beq_true, beq_false, Int.toNat_natCast, Int.ofNat_lt, Int.ofNat_le, Nat.zero_add, Nat.add_zero, imp_self, Bool.cond_false_right, Bool.cond_true_left, Bool.cond_true_right, IsF, rdF_eq, fOf, AV.f.injEq, exists_eq', free_list, free_fn0, List.not_mem_nil, List.mem_cons, false_imp, forall_eq, or_false, free_i, free_f, free_b, ren_f, ren_i, ren_b, and_self, bne_iff_ne, bne_eq_false_iff_eq, ne_eq, Int.natCast_inj, or_true, true_or, freeB_list, unfr_f, unfr_i, unfr_b, unfr_c, unfr_s, free_c, free_s, ren_c, ren_s, unfr_ro, unfr_rptr, ren_ro, free_ll, free_box, kill_f, kill_i, kill_b, kill_c, kill_s, kill_rof, kill_rot, Int.toNat_zero, isFF_ll, rowN_ll, rowX_ll, AllFree, Option.some.injEq, Prod.mk.injEq, Bool.false_eq_true, Bool.true_eq_false]
  refine ⟨hn, fun _ => fin_ret (.inl rfl) (by cbv) (by simp) (To.fresh ⟨.b ?_, trivial⟩)⟩
  simp only [finN, notFin, Bool.not_not]
def kIsList : Kr
  | [a, .i .i64 l] => match asL a with
    | some (n, g) => some (.b fun _ => decide (l .u ≤ (n .u : Int)) && (decide (n .u ≤ 128) && finN (n .u) (rdF g)), [], fun _ => IsF n g)
    | none => none
  | _ => none
def ctIsList : CT := [(68, .r kFinN)]
theorem ctIsList_ok : CTok Try.prog ctIsList := CTok.cons areFinite_tells (CTok.nil _)
theorem isList_tells : Tells Try.prog 75 (.r kIsList) := by
  intro args r H' p hr hp
  unfold kIsList at hr
  split at hr <;> first | (cases hr; done) | skip
  split at hr <;> cases hr
  rename_i l _ n g hL
  refine ⟨.b, .nil, Con.pre (args' := [listF false n (rdF g), .i .i64 l]) ⟨.asL hL hp, Sub.refl _, trivial⟩ ?_⟩
  have hn := hp.1
  generalize rdF g = x
  refine Con.of ttok Try.func75 rfl rfl (Nat.le_refl _) (AW.exec ttok ctIsList_ok (by cbv) ?_)
  simp only [natCast_int, Post, All, thenA, canon0, canon064, and_true, true_and, forall_const, implies_true, decide_eq_true_eq, decide_eq_false_iff_not, Bool.not_eq_true', Bool.not_eq_false', Bool.true_and, Bool.and_true, beq_true, beq_false, Int.toNat_natCast, Int.ofNat_lt, Int.ofNat_le, Nat.zero_add, Nat.add_zero, imp_self, Bool.cond_false_right, Bool.cond_true_left, Bool.cond_true_right, IsF, rdF_eq, fOf, AV.f.injEq, exists_eq', free_list, free_fn0, List.not_mem_nil, List.mem_cons, false_imp, forall_eq, or_false, free_i, free_f, free_b, ren_f, ren_i, ren_b, and_self, bne_iff_ne, bne_eq_false_iff_eq, ne_eq, Int.natCast_inj, or_true, true_or, freeB_list, unfr_f, unfr_i, unfr_b, unfr_c, unfr_s, free_c, free_s, ren_c, ren_s, unfr_ro, unfr_rptr, ren_ro, free_ll, free_box, kill_f, kill_i, kill_b, kill_c, kill_s, kill_rof, kill_rot, Int.toNat_zero, isFF_ll, rowN_ll, rowX_ll, AllFree, Option.some.injEq, Prod.mk.injEq, Bool.false_eq_true, Bool.true_eq_false]
  refine ⟨fun h => ⟨h, hn⟩, fun _ => fin_ret (.inl rfl) (by cbv) (by simp) (To.fresh ⟨.b ?_, trivial⟩)⟩
  simp only [Bool.and_assoc]
  rw [show decide ((n U.u : Int) ≤ 128) = decide (n .u ≤ 128) from decide_eq_decide.2 (by omega)]
end Go.Proofs.Ytfdmmbcjidkmoaa
set_option linter.unusedSimpArgs false
set_option linter.unusedVariables false
namespace Go.Proofs.Ytfdmmbcjidkmoaa
open Go.Aw
/-- Element i of a list that is moved to the right. -/
def shiftX (n : Nat) (x : Nat → Nat) (d : Int) (i : Nat) : Nat := bif decide (0 ≤ (i : Int) - d) && decide ((i : Int) - d ≤ (n : Int) - 1) then x ((i : Int) - d).toNat else 0
def kShift : Kr
  | [a, .i .i64 by_] => match asL a with
    | some (n, g) => some (.own 0 (fun _ => 0) n 1, [some (true, .tab n 1 fun i _ => .f .f32 fun _ => shiftX (n .u) (rdF g) (by_ .u) (i .u))], fun _ => IsF n g ∧ n .u ≤ 128 ∧ -128 ≤ by_ .u ∧ by_ .u ≤ 128)
    | none => none
  | _ => none
def ctShift : CT := [(81, .r kIn), (79, .r kIn)]
theorem ctShift_ok : CTok Try.prog ctShift := CTok.cons l00In_tells (CTok.cons within_tells (CTok.nil _))
def okShift (n : Nat) (x : Nat → Nat) (d : Int) : Bool := isList n x && (decide (-128 ≤ d) && decide (d ≤ 128))
def kShiftYes : Kr
  | [a, .i .i64 d] => match asL a with
    | some (n, g) => some (.tup [.own 0 (fun _ => 0) n 1, .b fun _ => true], [some (true, .tab n 1 fun i _ => .f .f32 fun _ => shiftX (n .u) (rdF g) (d .u) (i .u))], fun _ => IsF n g ∧ okShift (n .u) (rdF g) (d .u) = true)
    | none => none
  | _ => none
def kShiftNo : Kr
  | [a, .i .i64 d] => match asL a with
    | some (n, g) => some (.tup [.v (.slice none 0 0), .b fun _ => false], [], fun _ => IsF n g ∧ okShift (n .u) (rdF g) (d .u) = false)
    | none => none
  | _ => none
theorem isList_fin (n : Nat) (x : Nat → Nat) : (decide (1 ≤ (n : Int)) && (decide (n ≤ 128) && finN n x)) = isList n x := by
  simp only [isList, finN, show decide (1 ≤ (n : Int)) = decide (1 ≤ n) from decide_eq_decide.2 (by omega)]
  cases allN (fun i => isFin (x i)) n <;> simp
end Go.Proofs.Ytfdmmbcjidkmoaa
