/- JournalOf: the reference's side; the law's own helpers for lists of texts: sizes and copies. -/
import Derived.Test.YtjlkflceicdcdaaDoorTa
set_option linter.unusedSimpArgs false
set_option linter.unusedVariables false
namespace Go.Proofs.YtjlkflceicdcdaaDoor
open Go.Aw
open Go.RowKit
open Go.Lib (indexByte countByte extract_eq size_eq decDigits itoa)
def sumT (x : Nat → ByteArray) : Nat → Nat
  | 0 => 0
  | k + 1 => sumT x k + (x k).size
theorem sumT_le (x : Nat → ByteArray) : ∀ {k n : Nat}, k ≤ n → sumT x k ≤ sumT x n := by
  intro k n h
  induction n with
  | zero => have : k = 0 := by omega
            rw [this]; exact Nat.le_refl _
  | succ n ih =>
    rcases Nat.lt_or_eq_of_le h with h' | h'
    · exact Nat.le_trans (ih (by omega)) (Nat.le_add_right _ _)
    · rw [h']; exact Nat.le_refl _
theorem sumT_at (x : Nat → ByteArray) {k n : Nat} (h : k < n) : (x k).size ≤ sumT x n := by
  have := sumT_le x (Nat.succ_le_of_lt h)
  have e : sumT x k.succ = sumT x k + (x k).size := rfl
  omega
theorem accJ_len (x : Nat → ByteArray) : ∀ k, sumT x k + 3 * k ≤ (accJ x k).1.length ∧ (accJ x k).1.length ≤ sumT x k + 21 * k
  | 0 => ⟨Nat.le_refl _, Nat.le_refl _⟩
  | k + 1 => by
    obtain ⟨h1, h2⟩ := accJ_len x k
    obtain ⟨c0, c1⟩ := accJ_chk x (k + 1)
    obtain ⟨d0, d1⟩ := decB_size c0 (Int.le_trans c1 (by decide))
    have e : (accJ x (k + 1)).1 = (accJ x k).1 ++ ((decB (accJ x (k + 1)).2 ++ ⟨#[32]⟩) ++ x k ++ ⟨#[10]⟩ : ByteArray).data.toList := rfl
    have hsz : ((decB (accJ x (k + 1)).2 ++ ⟨#[32]⟩) ++ x k ++ ⟨#[10]⟩ : ByteArray).data.toList.length = (decB (accJ x (k + 1)).2).size + 1 + (x k).size + 1 := by
      rw [← size_eq, ByteArray.size_append, ByteArray.size_append, ByteArray.size_append]; rfl
    have es : sumT x (k + 1) = sumT x k + (x k).size := rfl
    rw [e, List.length_append, hsz]
    omega
theorem accJ_mono (x : Nat → ByteArray) {k n : Nat} (h : k ≤ n) : (accJ x k).1.length ≤ (accJ x n).1.length := by
  induction n with
  | zero => have : k = 0 := by omega
            rw [this]; exact Nat.le_refl _
  | succ n ih =>
    rcases Nat.lt_or_eq_of_le h with h' | h'
    · refine Nat.le_trans (ih (by omega)) ?_
      show _ ≤ ((accJ x n).1 ++ _).length
      rw [List.length_append]
      exact Nat.le_add_right _ _
    · rw [h']; exact Nat.le_refl _
theorem isT_of (x : Nat → ByteArray) (n : Nat) (h : n ≤ 9223372036854775807) : IsT (fun _ => n) fun i _ => .s fun _ => x (i .u) := ⟨h, fun _ _ => ⟨_, rfl⟩⟩
/-! Copies and sizes. -/
def kToT : Kr
  | [a] => match asL a with
    | some (n, g) => some (.own 0 (fun _ => 0) n 1, [some (true, .tab n 1 fun i _ => .s fun _ => rdT g (i .u))], fun _ => IsT n g ∧ n .u ≤ 1048576)
    | none => none
  | _ => none
theorem FrB.listT {n : Th Nat} {x : Th Nat → Nat → Th ByteArray} : FrH [some (true, Blk.tab n 1 fun i c => .s (x i c))] := .cons (fun fr B h => by cases h; exact .tab fun _ _ _ _ => .s) .nil
theorem toT_tells : Tells Tryd.prog 13 (.r kToT) := by
  intro args r H' p hr hp
  unfold kToT at hr
  split at hr <;> first | (cases hr; done) | skip
  split at hr <;> cases hr
  rename_i n g hL
  obtain ⟨hp, hn⟩ := hp
  refine ⟨.own, FrB.listT, Con.pre (args' := [listT false n (rdT g)]) ⟨Sub.asT hL hp, trivial⟩ ?_⟩
  generalize rdT g = x
  refine Con.of ttok Tryd.func13 rfl rfl (Nat.zero_le _) (AW.exec ttok (CTok.nil _) (by cbv) ?_)
  simp only [natCast_int, Post, All, thenA, canon0, canon064, and_true, true_and, forall_const, implies_true, decide_eq_true_eq, decide_eq_false_iff_not, Bool.not_eq_true', Bool.not_eq_false', Bool.true_and, Bool.and_true, beq_true, beq_false, Int.toNat_natCast, Int.ofNat_lt, Int.ofNat_le, Nat.zero_add, Nat.add_zero, imp_self, Bool.cond_false_right, Bool.cond_true_left, Bool.cond_true_right, IsF, rdF_eq, fOf, AV.f.injEq, exists_eq', free_list, free_fn0, List.not_mem_nil, List.mem_cons, false_imp, forall_eq, or_false, free_i, free_f, free_b, ren_f, ren_i, ren_b, and_self, bne_iff_ne, bne_eq_false_iff_eq, ne_eq, Int.natCast_inj, or_true, true_or, freeB_list, unfr_f, unfr_i, unfr_b, unfr_c, unfr_s, free_c, free_s, ren_c, ren_s, unfr_ro, unfr_rptr, ren_ro, free_ll, free_box, kill_f, kill_i, kill_b, kill_c, kill_s, kill_rof, kill_rot, Int.toNat_zero, isFF_ll, rowN_ll, rowX_ll, AllFree, Option.some.injEq, Prod.mk.injEq, Bool.false_eq_true, Bool.true_eq_false]
  refine ⟨by omega, fun _ => ?_⟩
  refine AW.loopTo (ι := Nat) (fun i => i ≤ n .u) (fun i => n .u - i) (fun i => mkE Tryd.f13.ntmps [(0, listT false n x), (3, .own 0 (fun _ => 0) n 1), (4, .i .i64 fun _ => (i : Int))])
    (fun i => [some (true, .tab n 1 fun j _ => .s fun _ => bif decide (j .u < i) then x (j .u) else ⟨#[]⟩)]) 0 (Nat.zero_le _) (To.list (Nat.zero_le _) (Nat.le_refl _) (fun e => e) (fun j hj => AvTo.s (by simp)) ?_) ?_
  · (repeat' first | exact AllTo.nil | apply AllTo.cons) <;> first | exact AvTo.dead _ | exact AvTo.i rfl | exact AvTo.own rfl rfl rfl rfl | exact Free.same Free.listT | skip
  · rintro i hi
    refine AW.exec ttok (CTok.nil _) (by cbv) ?_
    simp only [natCast_int, Post, All, thenA, canon0, canon064, and_true, true_and, forall_const, implies_true, decide_eq_true_eq, decide_eq_false_iff_not, Bool.not_eq_true', Bool.not_eq_false', Bool.true_and, Bool.and_true, beq_true, beq_false, Int.toNat_natCast, Int.ofNat_lt, Int.ofNat_le, Nat.zero_add, Nat.add_zero, imp_self, Bool.cond_false_right, Bool.cond_true_left, Bool.cond_true_right, IsF, rdF_eq, fOf, AV.f.injEq, exists_eq', free_list, free_fn0, List.not_mem_nil, List.mem_cons, false_imp, forall_eq, or_false, free_i, free_f, free_b, ren_f, ren_i, ren_b, and_self, bne_iff_ne, bne_eq_false_iff_eq, ne_eq, Int.natCast_inj, or_true, true_or, freeB_list, unfr_f, unfr_i, unfr_b, unfr_c, unfr_s, free_c, free_s, ren_c, ren_s, unfr_ro, unfr_rptr, ren_ro, free_ll, free_box, kill_f, kill_i, kill_b, kill_c, kill_s, kill_rof, kill_rot, Int.toNat_zero, isFF_ll, rowN_ll, rowX_ll, AllFree, Option.some.injEq, Prod.mk.injEq, Bool.false_eq_true, Bool.true_eq_false]
    (repeat' first | with_reducible assumption | with_reducible apply And.intro | with_reducible intro hh) <;> first | ((first | with_reducible show (_ : Int) ≤ _ | with_reducible show (_ : Int) < _ | with_reducible show (_ : Nat) ≤ _ | with_reducible show (_ : Nat) < _ | with_reducible show (_ : Int) = _ | with_reducible show (_ : Nat) = _ | with_reducible show ¬ _ | with_reducible show _ ≠ _) <;> first | omega | (simp only [Bool.and_eq_true, Bool.or_eq_false_iff, Bool.not_eq_false', Bool.not_eq_true', decide_eq_true_eq, decide_eq_false_iff_not] at *; omega) | (with_reducible assumption)) | (with_reducible assumption) | skip
    · refine ⟨i + 1, by omega, by omega, To.list (Nat.zero_le _) (Nat.le_refl _) (fun e => e) (fun j hj => ?_) ?_⟩
      · by_cases e : j = i
        · subst e
          simp only [if_true, List.length_cons, List.length_nil, Nat.zero_add, Nat.le_refl, Nat.zero_lt_one, and_self, Nat.sub_self, List.getD_cons_zero]
          exact AvTo.s (by simp only [Nat.lt_succ_self, decide_true, cond_true])
        · simp only [e, if_false]
          exact AvTo.s (by simp only [show (j < i + 1) ↔ j < i by omega])
      · (repeat' first | exact AllTo.nil | apply AllTo.cons) <;> first | exact AvTo.dead _ | exact AvTo.i rfl | exact AvTo.own rfl rfl rfl rfl | exact Free.same Free.listT | skip
    · refine Post.eval (by cbv) ?_
      simp only [natCast_int, Post, All, thenA, canon0, canon064, and_true, true_and, forall_const, implies_true, decide_eq_true_eq, decide_eq_false_iff_not, Bool.not_eq_true', Bool.not_eq_false', Bool.true_and, Bool.and_true, beq_true, beq_false, Int.toNat_natCast, Int.ofNat_lt, Int.ofNat_le, Nat.zero_add, Nat.add_zero, imp_self, Bool.cond_false_right, Bool.cond_true_left, Bool.cond_true_right, IsF, rdF_eq, fOf, AV.f.injEq, exists_eq', free_list, free_fn0, List.not_mem_nil, List.mem_cons, false_imp, forall_eq, or_false, free_i, free_f, free_b, ren_f, ren_i, ren_b, and_self, bne_iff_ne, bne_eq_false_iff_eq, ne_eq, Int.natCast_inj, or_true, true_or, freeB_list, unfr_f, unfr_i, unfr_b, unfr_c, unfr_s, free_c, free_s, ren_c, ren_s, unfr_ro, unfr_rptr, ren_ro, free_ll, free_box, kill_f, kill_i, kill_b, kill_c, kill_s, kill_rof, kill_rot, Int.toNat_zero, isFF_ll, rowN_ll, rowX_ll, AllFree, Option.some.injEq, Prod.mk.injEq, Bool.false_eq_true, Bool.true_eq_false]
      have e : i = n .u := by omega
      refine fin_ret (.inl rfl) (by cbv) (by simp) (To.list (Nat.zero_le _) (Nat.le_refl _) (fun e => e) (fun j hj => AvTo.s ?_) ?_)
      · simp only [e, hj, decide_true, cond_true]
      · (repeat' first | exact AllTo.nil | apply AllTo.cons) <;> first | exact AvTo.dead _ | exact AvTo.i rfl | exact AvTo.i (by first | omega | (simp only [natCast_int]; omega)) | exact AvTo.f rfl | exact AvTo.b rfl | exact AvTo.v _ | exact AvTo.own rfl rfl rfl rfl | exact AvTo.own rfl rfl (by first | rfl | omega) (by first | rfl | omega) | exact Free.same .listF | exact Free.same (.fn (by simp) (by simp)) | skip
def szT (n : Nat) (x : Nat → ByteArray) (l : Int) : Int := bif decide (l - (n : Int) - (sumT x n : Int) < 0) then -1 else l - (n : Int) - (sumT x n : Int)
def kSzT : Kr
  | [a, .i .i64 l] => match asL a with
    | some (n, g) => some (.i .i64 fun _ => szT (n .u) (rdT g) (l .u), [], fun _ => IsT n g ∧ (∀ i, i < n .u → (rdT g i).size ≤ 9223372036854775807) ∧ 0 ≤ l .u ∧ l .u ≤ 1048576)
    | none => none
  | _ => none
theorem szT_tells : Tells Tryd.prog 11 (.r kSzT) := by
  intro args r H' p hr hp
  unfold kSzT at hr
  split at hr <;> first | (cases hr; done) | skip
  split at hr <;> cases hr
  rename_i l _ n g hL
  obtain ⟨hp, hsz, h0, h1⟩ := hp
  refine ⟨.i, .nil, Con.pre (args' := [listT false n (rdT g), .i .i64 l]) ⟨Sub.asT hL hp, Sub.refl _, trivial⟩ ?_⟩
  have hn := hp.1
  generalize rdT g = x at hsz ⊢
  refine Con.of ttok Tryd.func11 rfl rfl (Nat.le_refl _) (AW.exec ttok (CTok.nil _) (by cbv) ?_)
  simp only [natCast_int, Post, All, thenA, canon0, canon064, and_true, true_and, forall_const, implies_true, decide_eq_true_eq, decide_eq_false_iff_not, Bool.not_eq_true', Bool.not_eq_false', Bool.true_and, Bool.and_true, beq_true, beq_false, Int.toNat_natCast, Int.ofNat_lt, Int.ofNat_le, Nat.zero_add, Nat.add_zero, imp_self, Bool.cond_false_right, Bool.cond_true_left, Bool.cond_true_right, IsF, rdF_eq, fOf, AV.f.injEq, exists_eq', free_list, free_fn0, List.not_mem_nil, List.mem_cons, false_imp, forall_eq, or_false, free_i, free_f, free_b, ren_f, ren_i, ren_b, and_self, bne_iff_ne, bne_eq_false_iff_eq, ne_eq, Int.natCast_inj, or_true, true_or, freeB_list, unfr_f, unfr_i, unfr_b, unfr_c, unfr_s, free_c, free_s, ren_c, ren_s, unfr_ro, unfr_rptr, ren_ro, free_ll, free_box, kill_f, kill_i, kill_b, kill_c, kill_s, kill_rof, kill_rot, Int.toNat_zero, isFF_ll, rowN_ll, rowX_ll, AllFree, Option.some.injEq, Prod.mk.injEq, Bool.false_eq_true, Bool.true_eq_false]
  (repeat' first | with_reducible assumption | with_reducible apply And.intro | with_reducible intro hh) <;> first | ((first | with_reducible show (_ : Int) ≤ _ | with_reducible show (_ : Int) < _ | with_reducible show (_ : Nat) ≤ _ | with_reducible show (_ : Nat) < _ | with_reducible show (_ : Int) = _ | with_reducible show (_ : Nat) = _ | with_reducible show ¬ _ | with_reducible show _ ≠ _) <;> first | omega | (simp only [Bool.and_eq_true, Bool.or_eq_false_iff, Bool.not_eq_false', Bool.not_eq_true', decide_eq_true_eq, decide_eq_false_iff_not] at *; omega) | (with_reducible assumption)) | (with_reducible assumption) | skip
  · refine fin_ret (.inl rfl) (by cbv) (by simp) (To.fresh (.cons (.i ?_) .nil))
    have : l .u - (n .u : Int) - (sumT x (n .u) : Int) < 0 := by omega
    simp only [szT, decide_eq_true this, cond_true]
  refine AW.loopH (ι := Nat) (fun i => i ≤ n .u ∧ 0 ≤ l .u - (n .u : Int) - (sumT x i : Int)) (fun i => n .u - i) (fun i => mkE Tryd.f11.ntmps [(0, listT false n x), (1, .i .i64 fun _ => l .u - (n .u : Int) - (sumT x i : Int)), (5, .i .i64 fun _ => (i : Int))])
    (fun _ => []) 0 ⟨Nat.zero_le _, by simp only [sumT]; omega⟩ (To.same (Nat.le_refl _) trivial ?_) ?_
  · (repeat' first | exact AllTo.nil | apply AllTo.cons) <;> first | exact AvTo.dead _ | exact AvTo.i rfl | exact AvTo.i (by simp [sumT]) | exact Free.same Free.listT
  · rintro Q' hQ i ⟨hi, hs⟩
    refine AW.exec ttok (CTok.nil _) (by cbv) ?_
    simp only [natCast_int, Post, All, thenA, canon0, canon064, and_true, true_and, forall_const, implies_true, decide_eq_true_eq, decide_eq_false_iff_not, Bool.not_eq_true', Bool.not_eq_false', Bool.true_and, Bool.and_true, beq_true, beq_false, Int.toNat_natCast, Int.ofNat_lt, Int.ofNat_le, Nat.zero_add, Nat.add_zero, imp_self, Bool.cond_false_right, Bool.cond_true_left, Bool.cond_true_right, IsF, rdF_eq, fOf, AV.f.injEq, exists_eq', free_list, free_fn0, List.not_mem_nil, List.mem_cons, false_imp, forall_eq, or_false, free_i, free_f, free_b, ren_f, ren_i, ren_b, and_self, bne_iff_ne, bne_eq_false_iff_eq, ne_eq, Int.natCast_inj, or_true, true_or, freeB_list, unfr_f, unfr_i, unfr_b, unfr_c, unfr_s, free_c, free_s, ren_c, ren_s, unfr_ro, unfr_rptr, ren_ro, free_ll, free_box, kill_f, kill_i, kill_b, kill_c, kill_s, kill_rof, kill_rot, Int.toNat_zero, isFF_ll, rowN_ll, rowX_ll, AllFree, Option.some.injEq, Prod.mk.injEq, Bool.false_eq_true, Bool.true_eq_false]
    have hrow := hsz i
    have es : sumT x (i + 1) = sumT x i + (x i).size := rfl
    (repeat' first | with_reducible assumption | with_reducible apply And.intro | with_reducible intro hh) <;> first | ((first | with_reducible show (_ : Int) ≤ _ | with_reducible show (_ : Int) < _ | with_reducible show (_ : Nat) ≤ _ | with_reducible show (_ : Nat) < _ | with_reducible show (_ : Int) = _ | with_reducible show (_ : Nat) = _ | with_reducible show ¬ _ | with_reducible show _ ≠ _) <;> first | omega | (simp only [Bool.and_eq_true, Bool.or_eq_false_iff, Bool.not_eq_false', Bool.not_eq_true', decide_eq_true_eq, decide_eq_false_iff_not] at *; omega) | (with_reducible assumption)) | (with_reducible assumption) | skip
    · obtain ⟨rfl⟩ := hQ
      refine Post.leaf (by cbv) (fin_ret (.inl rfl) (by cbv) (by simp) (To.fresh (.cons (.i ?_) .nil)))
      have h4 := sumT_le x (show i + 1 ≤ n .u by omega)
      have : l .u - (n .u : Int) - (sumT x (n .u) : Int) < 0 := by omega
      simp only [szT, decide_eq_true this, cond_true]
    · refine ⟨i + 1, ⟨by omega, by omega⟩, by omega, To.same (Nat.le_refl _) trivial ?_⟩
      (repeat' first | exact AllTo.nil | apply AllTo.cons) <;> first | exact AvTo.dead _ | exact AvTo.i rfl | exact AvTo.i (by simp only [es]; omega) | exact Free.same Free.listT
    · obtain ⟨rfl⟩ := hQ
      refine Post.eval (by cbv) ?_
      have e : i = n .u := by omega
      simp only [natCast_int, Post, All, thenA, canon0, canon064, and_true, true_and, forall_const, implies_true, decide_eq_true_eq, decide_eq_false_iff_not, Bool.not_eq_true', Bool.not_eq_false', Bool.true_and, Bool.and_true, beq_true, beq_false, Int.toNat_natCast, Int.ofNat_lt, Int.ofNat_le, Nat.zero_add, Nat.add_zero, imp_self, Bool.cond_false_right, Bool.cond_true_left, Bool.cond_true_right, IsF, rdF_eq, fOf, AV.f.injEq, exists_eq', free_list, free_fn0, List.not_mem_nil, List.mem_cons, false_imp, forall_eq, or_false, free_i, free_f, free_b, ren_f, ren_i, ren_b, and_self, bne_iff_ne, bne_eq_false_iff_eq, ne_eq, Int.natCast_inj, or_true, true_or, freeB_list, unfr_f, unfr_i, unfr_b, unfr_c, unfr_s, free_c, free_s, ren_c, ren_s, unfr_ro, unfr_rptr, ren_ro, free_ll, free_box, kill_f, kill_i, kill_b, kill_c, kill_s, kill_rof, kill_rot, Int.toNat_zero, isFF_ll, rowN_ll, rowX_ll, AllFree, Option.some.injEq, Prod.mk.injEq, Bool.false_eq_true, Bool.true_eq_false]
      refine fin_ret (.inl rfl) (by cbv) (by simp) (To.fresh (.cons (.i ?_) .nil))
      subst e
      simp only [szT, decide_eq_false (show ¬ l .u - (n .u : Int) - (sumT x (n .u) : Int) < 0 by omega), cond_false]
theorem szT_le {n : Nat} {x : Nat → ByteArray} {l : Int} (h : ¬ szT n x l < 0) (hl : l ≤ 1048576) : n ≤ 1048576 ∧ sumT x n ≤ 1048576 ∧ ∀ i, i < n → (x i).size ≤ 1048576 := by
  have h3 : ¬ l - (n : Int) - (sumT x n : Int) < 0 := by
    intro h'
    simp only [szT, decide_eq_true h', cond_true] at h
    omega
  refine ⟨by omega, by omega, fun i hi => ?_⟩
  have := sumT_at x hi
  omega
/-! The journal of the reference. -/
def kJrnS : Kr
  | [a] => match asL a with
    | some (n, g) => some (.s fun _ => toB (accJ (rdT g) (n .u)).1, [], fun _ => IsT n g ∧ n .u ≤ 1048576 ∧ sumT (rdT g) (n .u) ≤ 1048576)
    | none => none
  | _ => none
def ctJrn : CT := [(58, .r kChkS), (59, .r kDecN)]
theorem ctJrn_ok : CTok Tryd.prog ctJrn := .cons specChk (.cons specDec (.nil _))
theorem specJrn : Tells Tryd.prog 33 (.r kJrnS) := by
  intro args r H' p hr hp
  unfold kJrnS at hr
  split at hr <;> first | (cases hr; done) | skip
  split at hr <;> cases hr
  rename_i n g hL
  obtain ⟨hp, hn, hsum⟩ := hp
  refine ⟨.s, .nil, Con.pre (args' := [listT false n (rdT g)]) ⟨Sub.asT hL hp, trivial⟩ ?_⟩
  generalize rdT g = x at hsum ⊢
  refine Con.of ttok Tryd.func33 rfl rfl (Nat.le_refl _) (AW.exec ttok ctJrn_ok (by cbv) ?_)
  simp only [natCast_int, Post, All, thenA, canon0, canon064, and_true, true_and, forall_const, implies_true, decide_eq_true_eq, decide_eq_false_iff_not, Bool.not_eq_true', Bool.not_eq_false', Bool.true_and, Bool.and_true, beq_true, beq_false, Int.toNat_natCast, Int.ofNat_lt, Int.ofNat_le, Nat.zero_add, Nat.add_zero, imp_self, Bool.cond_false_right, Bool.cond_true_left, Bool.cond_true_right, IsF, rdF_eq, fOf, AV.f.injEq, exists_eq', free_list, free_fn0, List.not_mem_nil, List.mem_cons, false_imp, forall_eq, or_false, free_i, free_f, free_b, ren_f, ren_i, ren_b, and_self, bne_iff_ne, bne_eq_false_iff_eq, ne_eq, Int.natCast_inj, or_true, true_or, freeB_list, unfr_f, unfr_i, unfr_b, unfr_c, unfr_s, free_c, free_s, ren_c, ren_s, unfr_ro, unfr_rptr, ren_ro, free_ll, free_box, kill_f, kill_i, kill_b, kill_c, kill_s, kill_rof, kill_rot, Int.toNat_zero, isFF_ll, rowN_ll, rowX_ll, AllFree, Option.some.injEq, Prod.mk.injEq, Bool.false_eq_true, Bool.true_eq_false]
  (repeat' first | with_reducible assumption | with_reducible apply And.intro | with_reducible intro hh) <;> first | ((first | with_reducible show (_ : Int) ≤ _ | with_reducible show (_ : Int) < _ | with_reducible show (_ : Nat) ≤ _ | with_reducible show (_ : Nat) < _ | with_reducible show (_ : Int) = _ | with_reducible show (_ : Nat) = _ | with_reducible show ¬ _ | with_reducible show _ ≠ _) <;> first | omega | (simp only [Bool.and_eq_true, Bool.or_eq_false_iff, Bool.not_eq_false', Bool.not_eq_true', decide_eq_true_eq, decide_eq_false_iff_not] at *; omega) | (with_reducible assumption)) | (with_reducible assumption) | skip
  refine AW.loopH (ι := Nat) (fun i => i ≤ n .u) (fun i => n .u - i) (fun i => mkE Tryd.f33.ntmps [(0, listT false n x), (3, .s fun _ => toB (accJ x i).1), (4, .i .i64 fun _ => (accJ x i).2), (5, .i .i64 fun _ => (i : Int))])
    (fun _ => []) 0 (Nat.zero_le _) (To.same (Nat.le_refl _) trivial ?_) ?_
  · (repeat' first | exact AllTo.nil | apply AllTo.cons) <;> first | exact AvTo.dead _ | exact AvTo.i rfl | exact AvTo.s rfl | exact Free.same Free.listT
  · rintro Q' hQ i hi
    obtain ⟨c0, c1⟩ := accJ_chk x i
    obtain ⟨c2, c3⟩ := accJ_chk x (i + 1)
    have ec : (accJ x (i + 1)).2 = chkN (accJ x i).2 (x i) (x i).size := rfl
    rw [ec] at c2 c3
    obtain ⟨d0, d1⟩ := decB_size c2 (Int.le_trans c3 (by decide))
    obtain ⟨l0, l1⟩ := accJ_len x i
    have hs1 := sumT_le x hi
    have hs2 : i < n .u → (x i).size ≤ 1048576 := fun h => Nat.le_trans (sumT_at x h) hsum
    have hz := size_toB (accJ x i).1
    have f1 : (⟨⟨[32]⟩⟩ : ByteArray).size = 1 := rfl
    have f2 : (⟨⟨[10]⟩⟩ : ByteArray).size = 1 := rfl
    refine AW.exec ttok ctJrn_ok (by cbv) ?_
    simp only [natCast_int, Post, All, thenA, canon0, canon064, and_true, true_and, forall_const, implies_true, decide_eq_true_eq, decide_eq_false_iff_not, Bool.not_eq_true', Bool.not_eq_false', Bool.true_and, Bool.and_true, beq_true, beq_false, Int.toNat_natCast, Int.ofNat_lt, Int.ofNat_le, Nat.zero_add, Nat.add_zero, imp_self, Bool.cond_false_right, Bool.cond_true_left, Bool.cond_true_right, IsF, rdF_eq, fOf, AV.f.injEq, exists_eq', free_list, free_fn0, List.not_mem_nil, List.mem_cons, false_imp, forall_eq, or_false, free_i, free_f, free_b, ren_f, ren_i, ren_b, and_self, bne_iff_ne, bne_eq_false_iff_eq, ne_eq, Int.natCast_inj, or_true, true_or, freeB_list, unfr_f, unfr_i, unfr_b, unfr_c, unfr_s, free_c, free_s, ren_c, ren_s, unfr_ro, unfr_rptr, ren_ro, free_ll, free_box, kill_f, kill_i, kill_b, kill_c, kill_s, kill_rof, kill_rot, Int.toNat_zero, isFF_ll, rowN_ll, rowX_ll, AllFree, Option.some.injEq, Prod.mk.injEq, Bool.false_eq_true, Bool.true_eq_false, c0, c1]
    (repeat' first | with_reducible assumption | with_reducible apply And.intro | with_reducible intro hh) <;> first | ((first | with_reducible show (_ : Int) ≤ _ | with_reducible show (_ : Int) < _ | with_reducible show (_ : Nat) ≤ _ | with_reducible show (_ : Nat) < _ | with_reducible show (_ : Int) = _ | with_reducible show (_ : Nat) = _ | with_reducible show ¬ _ | with_reducible show _ ≠ _) <;> first | omega | (simp only [Bool.and_eq_true, Bool.or_eq_false_iff, Bool.not_eq_false', Bool.not_eq_true', decide_eq_true_eq, decide_eq_false_iff_not] at *; omega) | (with_reducible assumption)) | (with_reducible assumption) | skip
    all_goals try (simp only [ByteArray.size_append, f1, f2]; have := hs2 (by omega); omega)
    · refine ⟨i + 1, by omega, by omega, To.same (Nat.le_refl _) trivial ?_⟩
      (repeat' first | exact AllTo.nil | apply AllTo.cons) <;> first | exact AvTo.dead _ | exact AvTo.i rfl | exact Free.same Free.listT | skip
      · refine AvTo.s ?_
        show toB (accJ x i).1 ++ _ = toB ((accJ x i).1 ++ _)
        rw [← toB_app]
        rfl
    · obtain ⟨rfl⟩ := hQ
      refine Post.eval (by cbv) ?_
      have e : i = n .u := by omega
      simp only [natCast_int, Post, All, thenA, canon0, canon064, and_true, true_and, forall_const, implies_true, decide_eq_true_eq, decide_eq_false_iff_not, Bool.not_eq_true', Bool.not_eq_false', Bool.true_and, Bool.and_true, beq_true, beq_false, Int.toNat_natCast, Int.ofNat_lt, Int.ofNat_le, Nat.zero_add, Nat.add_zero, imp_self, Bool.cond_false_right, Bool.cond_true_left, Bool.cond_true_right, IsF, rdF_eq, fOf, AV.f.injEq, exists_eq', free_list, free_fn0, List.not_mem_nil, List.mem_cons, false_imp, forall_eq, or_false, free_i, free_f, free_b, ren_f, ren_i, ren_b, and_self, bne_iff_ne, bne_eq_false_iff_eq, ne_eq, Int.natCast_inj, or_true, true_or, freeB_list, unfr_f, unfr_i, unfr_b, unfr_c, unfr_s, free_c, free_s, ren_c, ren_s, unfr_ro, unfr_rptr, ren_ro, free_ll, free_box, kill_f, kill_i, kill_b, kill_c, kill_s, kill_rof, kill_rot, Int.toNat_zero, isFF_ll, rowN_ll, rowX_ll, AllFree, Option.some.injEq, Prod.mk.injEq, Bool.false_eq_true, Bool.true_eq_false]
      exact fin_ret (.inl rfl) (by cbv) (by simp) (To.fresh (.cons (.s (by rw [e])) .nil))
/-! The reference's JournalOf. -/
theorem jrn_calls (x : Nat → ByteArray) (n : Nat) (a : Option Addr) (bk o cap : Nat) (w : World) (hl : LoreX w) (ha : 0 < n → a = some ⟨bk, o, none⟩ ∧ bk < w.heap.size ∧ n ≤ cap) (hn : n ≤ 1048576) (hs : sumT x n ≤ 1048576)
    (hcell : ∀ i, i < n → w.cell? ⟨bk, o + i, none⟩ = some (.string (x i))) :
    Calls Tryd.prog 33 #[.slice a n cap] w fun e w' => e = .returned (.string (toB (accJ x n).1)) ∧ Below w.heap.size w w' := by
  obtain ⟨_, _, hcon⟩ := specJrn [listT false (fun _ => n) x] _ _ _ rfl ⟨isT_of x n (by omega), hn, hs⟩
  refine (calls_of hcon hl rfl fun j b v h1 h2 => ?_).mono ?_
  · match j, h1, h2 with
    | 0, h1, h2 =>
      cases h1; cases h2
      rcases Nat.eq_zero_or_pos n with h0 | h0
      · subst h0
        exact .ro0 rfl
      · obtain ⟨rfl, hbk, hc⟩ := ha h0
        refine .ro (fun i _ => .string (x i)) hc ⟨hbk, fun id h => (by cases h), fun h => (by cases h), fun _ => hbk⟩ (fun i c hi hcc => ?_) (fun i c hi hcc => .s)
        obtain rfl : c = 0 := by omega
        exact ⟨by rw [show i * 1 + 0 = i by omega]; exact hcell i hi, rfl⟩
  · rintro e w' ⟨v, ρ', rfl, h1, h2⟩
    cases h1
    exact ⟨rfl, h2⟩
end Go.Proofs.YtjlkflceicdcdaaDoor
