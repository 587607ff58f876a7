/- What small functions of numbers answer. -/
import Derived.Test.YtjlkflceicdcdaaDoorAwo
import Derived.Test.YtjlkflceicdcdaaDoorAwT
set_option linter.unusedSimpArgs false
set_option linter.unusedVariables false
namespace Go.Proofs.YtjlkflceicdcdaaDoor
open Go.Aw
def isFin (x : Nat) : Bool := feq .f32 (fsub .f32 x x) 0
def kFin : Kr
  | [.f .f32 x] => some (.b fun _ => isFin (x .u), [], fun _ => True)
  | _ => none
theorem l01Finite_tells : Tells Tryd.prog 66 (.r kFin) := by
  intro args r H' p hr hp
  unfold kFin at hr
  split at hr <;> cases hr
  refine ⟨.b, .nil, Con.of ttok Tryd.func66 rfl rfl (Nat.le_refl _) (AW.exec ttok (CTok.nil _) (by cbv) ?_)⟩
  simp only [natCast_int, Post, All, thenA, canon0, canon064, and_true, true_and, forall_const, implies_true, decide_eq_true_eq, decide_eq_false_iff_not, Bool.not_eq_true', Bool.not_eq_false', Bool.true_and, Bool.and_true, beq_true, beq_false, Int.toNat_natCast, Int.ofNat_lt, Int.ofNat_le, Nat.zero_add, Nat.add_zero, imp_self, Bool.cond_false_right, Bool.cond_true_left, Bool.cond_true_right, IsF, rdF_eq, fOf, AV.f.injEq, exists_eq', free_list, free_fn0, List.not_mem_nil, List.mem_cons, false_imp, forall_eq, or_false, free_i, free_f, free_b, ren_f, ren_i, ren_b, and_self, bne_iff_ne, bne_eq_false_iff_eq, ne_eq, Int.natCast_inj, or_true, true_or, freeB_list, unfr_f, unfr_i, unfr_b, unfr_c, unfr_s, free_c, free_s, ren_c, ren_s, unfr_ro, unfr_rptr, ren_ro, free_ll, free_box, kill_f, kill_i, kill_b, kill_c, kill_s, kill_rof, kill_rot, Int.toNat_zero, isFF_ll, rowN_ll, rowX_ll, AllFree, Option.some.injEq, Prod.mk.injEq, Bool.false_eq_true, Bool.true_eq_false]
  exact fin_ret (.inl rfl) (by cbv) (by simp) (To.fresh ⟨.b rfl, trivial⟩)
theorem IsFinite_tells : Tells Tryd.prog 83 (.r kFin) := by
  intro args r H' p hr hp
  unfold kFin at hr
  split at hr <;> cases hr
  refine ⟨.b, .nil, Con.of ttok Tryd.func83 rfl rfl (Nat.le_refl _) (AW.exec ttok (CTok.nil _) (by cbv) ?_)⟩
  simp only [natCast_int, Post, All, thenA, canon0, canon064, and_true, true_and, forall_const, implies_true, decide_eq_true_eq, decide_eq_false_iff_not, Bool.not_eq_true', Bool.not_eq_false', Bool.true_and, Bool.and_true, beq_true, beq_false, Int.toNat_natCast, Int.ofNat_lt, Int.ofNat_le, Nat.zero_add, Nat.add_zero, imp_self, Bool.cond_false_right, Bool.cond_true_left, Bool.cond_true_right, IsF, rdF_eq, fOf, AV.f.injEq, exists_eq', free_list, free_fn0, List.not_mem_nil, List.mem_cons, false_imp, forall_eq, or_false, free_i, free_f, free_b, ren_f, ren_i, ren_b, and_self, bne_iff_ne, bne_eq_false_iff_eq, ne_eq, Int.natCast_inj, or_true, true_or, freeB_list, unfr_f, unfr_i, unfr_b, unfr_c, unfr_s, free_c, free_s, ren_c, ren_s, unfr_ro, unfr_rptr, ren_ro, free_ll, free_box, kill_f, kill_i, kill_b, kill_c, kill_s, kill_rof, kill_rot, Int.toNat_zero, isFF_ll, rowN_ll, rowX_ll, AllFree, Option.some.injEq, Prod.mk.injEq, Bool.false_eq_true, Bool.true_eq_false]
  exact fin_ret (.inl rfl) (by cbv) (by simp) (To.fresh ⟨.b rfl, trivial⟩)
def kIn : Kr
  | [.i .i64 n, .i .i64 a, .i .i64 b] => some (.b fun _ => decide (a .u ≤ n .u) && decide (n .u ≤ b .u), [], fun _ => True)
  | _ => none
theorem within_tells : Tells Tryd.prog 61 (.r kIn) := by
  intro args r H' p hr hp
  unfold kIn at hr
  split at hr <;> cases hr
  refine ⟨.b, .nil, Con.of ttok Tryd.func61 rfl rfl (Nat.le_refl _) (AW.exec ttok (CTok.nil _) (by cbv) ?_)⟩
  simp only [natCast_int, Post, All, thenA, canon0, canon064, and_true, true_and, forall_const, implies_true, decide_eq_true_eq, decide_eq_false_iff_not, Bool.not_eq_true', Bool.not_eq_false', Bool.true_and, Bool.and_true, beq_true, beq_false, Int.toNat_natCast, Int.ofNat_lt, Int.ofNat_le, Nat.zero_add, Nat.add_zero, imp_self, Bool.cond_false_right, Bool.cond_true_left, Bool.cond_true_right, IsF, rdF_eq, fOf, AV.f.injEq, exists_eq', free_list, free_fn0, List.not_mem_nil, List.mem_cons, false_imp, forall_eq, or_false, free_i, free_f, free_b, ren_f, ren_i, ren_b, and_self, bne_iff_ne, bne_eq_false_iff_eq, ne_eq, Int.natCast_inj, or_true, true_or, freeB_list, unfr_f, unfr_i, unfr_b, unfr_c, unfr_s, free_c, free_s, ren_c, ren_s, unfr_ro, unfr_rptr, ren_ro, free_ll, free_box, kill_f, kill_i, kill_b, kill_c, kill_s, kill_rof, kill_rot, Int.toNat_zero, isFF_ll, rowN_ll, rowX_ll, AllFree, Option.some.injEq, Prod.mk.injEq, Bool.false_eq_true, Bool.true_eq_false]
  (repeat' first | with_reducible assumption | with_reducible apply And.intro | with_reducible intro hh) <;> first | ((first | with_reducible show (_ : Int) ≤ _ | with_reducible show (_ : Int) < _ | with_reducible show (_ : Nat) ≤ _ | with_reducible show (_ : Nat) < _ | with_reducible show (_ : Int) = _ | with_reducible show (_ : Nat) = _ | with_reducible show ¬ _ | with_reducible show _ ≠ _) <;> first | omega | (simp only [Bool.and_eq_true, Bool.or_eq_false_iff, Bool.not_eq_false', Bool.not_eq_true', decide_eq_true_eq, decide_eq_false_iff_not] at *; omega) | (with_reducible assumption)) | (with_reducible assumption) | skip
  exact fin_ret (.inl rfl) (by cbv) (by simp) (To.fresh ⟨.b rfl, trivial⟩)
/-- All of the first n. -/
def allN (q : Nat → Bool) (n : Nat) : Bool := (List.range n).all q
theorem allN_true {q : Nat → Bool} {n : Nat} (h : ∀ j, j < n → q j = true) : allN q n = true := List.all_eq_true.2 fun j hj => h j (List.mem_range.1 hj)
theorem allN_false {q : Nat → Bool} {n j : Nat} (hj : j < n) (h : q j = false) : allN q n = false := List.all_eq_false.2 ⟨j, List.mem_range.2 hj, by simp [h]⟩
theorem lt_succ_all {i : Nat} {q : Nat → Prop} (h : ∀ j, j < i → q j) (hi : q i) : ∀ j, j < i + 1 → q j := fun j hj => by
  rcases Nat.lt_or_eq_of_le (Nat.le_of_lt_succ hj) with h' | h'
  · exact h j h'
  · exact h' ▸ hi
abbrev listF (fr : Bool) (n : Th Nat) (x : Nat → Nat) : AV := .ro fr n 1 fun i _ => .f .f32 fun _ => x (i .u)
def isList (n : Nat) (x : Nat → Nat) : Bool := allN (fun i => isFin (x i)) n && (decide (1 ≤ n) && decide (n ≤ 128))
def kList : Kr
  | [a] => match asL a with
    | some (n, g) => some (.b fun _ => isList (n .u) (rdF g), [], fun _ => IsF n g)
    | none => none
  | _ => none
def ctFin : CT := [(66, .r kFin)]
theorem ctFin_ok : CTok Tryd.prog ctFin := CTok.cons l01Finite_tells (CTok.nil _)
end Go.Proofs.YtjlkflceicdcdaaDoor
