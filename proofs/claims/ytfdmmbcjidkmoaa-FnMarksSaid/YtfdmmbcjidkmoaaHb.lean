/- The laws' own helpers for lists of lists: sizes, copies, comparisons. -/
/- Lists of spectra on both sides. -/
import Derived.Test.YtfdmmbcjidkmoaaGd
set_option linter.unusedSimpArgs false
set_option linter.unusedVariables false
namespace Go.Proofs.Ytfdmmbcjidkmoaa
open Go.Aw
def szL (n : Nat) (l : Int) : Int := bif decide (l - (n : Int) < 0) then -1 else l - (n : Int)
def kSz : Kr
  | [a, .i .i64 l] => match asL a with
    | some (n, g) => some (.i .i64 fun _ => szL (n .u) (l .u), [], fun _ => IsF n g ∧ 0 ≤ l .u ∧ l .u ≤ 1048576)
    | none => none
  | _ => none
def sumM (m : Nat → Nat) : Nat → Nat
  | 0 => 0
  | k + 1 => sumM m k + m k
theorem sumM_le (m : Nat → Nat) : ∀ {k n : Nat}, k ≤ n → sumM m k ≤ sumM m n := by
  intro k n h
  induction n with
  | zero => have : k = 0 := by omega
            rw [this]; exact Nat.le_refl _
  | succ n ih =>
    rcases Nat.lt_or_eq_of_le h with h' | h'
    · exact Nat.le_trans (ih (by omega)) (Nat.le_add_right _ _)
    · rw [h']; exact Nat.le_refl _
theorem sumM_at (m : Nat → Nat) {k n : Nat} (h : k < n) : m k ≤ sumM m n := by
  have := sumM_le m (Nat.succ_le_of_lt h)
  have e : sumM m k.succ = sumM m k + m k := rfl
  omega
def szLL (n : Nat) (m : Nat → Nat) (l : Int) : Int := bif decide (l - (n : Int) - (sumM m n : Int) < 0) then -1 else l - (n : Int) - (sumM m n : Int)
def kSzS : Kr
  | [a, .i .i64 l] => match asLL a with
    | some (n, g) => some (.i .i64 fun _ => szLL (n .u) (rowN g) (l .u), [], fun _ => IsFF n g ∧ 0 ≤ l .u ∧ l .u ≤ 1048576)
    | none => none
  | _ => none
theorem szLL_le {n : Nat} {m : Nat → Nat} {l : Int} (h : ¬ szLL n m l < 0) (hl : l ≤ 1048576) : n ≤ 1048576 ∧ ∀ i, i < n → m i ≤ 1048576 := by
  have h3 : ¬ l - (n : Int) - (sumM m n : Int) < 0 := by
    intro h'
    simp only [szLL, decide_eq_true h', cond_true] at h
    omega
  refine ⟨by omega, fun i hi => ?_⟩
  have := sumM_at m hi
  omega
/-! Copies. -/
def kToSS : Kr
  | [a] => match asLL a with
    | some (n, g) => some (listFF true n (rowN g) (rowX g), [], fun _ => IsFF n g ∧ n .u ≤ 1048576 ∧ ∀ i, i < n .u → rowN g i ≤ 1048576)
    | none => none
  | _ => none
theorem allFr_ll {n : Th Nat} {m : Nat → Nat} {x : Nat → Nat → Nat} : AllFr (listFF true n m x) := .ro fun _ _ _ _ => .ro fun _ _ _ _ => .f
abbrev blkRows (n : Th Nat) (m : Nat → Nat) (x : Nat → Nat → Nat) (i : Nat) : Option (Bool × Blk) := some (true, .tab n 1 fun j _ => .ro true (fun _ => bif decide (j .u < i) then m (j .u) else 0) 1 fun k _ => .f .f32 fun _ => x (j .u) (k .u))
/-! Comparisons. -/
def eqLL (n : Nat) (m : Nat → Nat) (x : Nat → Nat → Nat) (n' : Nat) (m' : Nat → Nat) (x' : Nat → Nat → Nat) : Bool := decide (n = n') && allN (fun i => eqL (m i) (x i) (m' i) (x' i)) n
theorem eqLL_self (n : Nat) (m : Nat → Nat) (x : Nat → Nat → Nat) : eqLL n m x n m x = true := by
  simp only [eqLL, decide_true, Bool.true_and]
  exact allN_true fun j _ => eqL_self _ _
def kEqSS : Kr
  | [a, b] => match asLL a, asLL b with
    | some (n, g), some (n', h) => some (.b fun _ => eqLL (n .u) (rowN g) (rowX g) (n' .u) (rowN h) (rowX h), [], fun _ => IsFF n g ∧ IsFF n' h)
    | _, _ => none
  | _ => none
end Go.Proofs.Ytfdmmbcjidkmoaa
set_option linter.unusedSimpArgs false
set_option linter.unusedVariables false
namespace Go.Proofs.Ytfdmmbcjidkmoaa
open Go.Aw
def areS (n : Nat) (m : Nat → Nat) (x : Nat → Nat → Nat) : Bool := allN (fun i => isTwo (m i) (x i) (m 0) (x 0)) n && (decide (1 ≤ n) && decide (n ≤ 8))
def kAre : Kr
  | [a] => match asLL a with
    | some (n, g) => some (.b fun _ => areS (n .u) (rowN g) (rowX g), [], fun _ => IsFF n g)
    | none => none
  | _ => none
def ctSpectra : CT := [(91, .r kTwo)]
theorem ctSpectra_ok : CTok Try.prog ctSpectra := .cons l07Two_tells (.nil _)
theorem l07Spectra_tells : Tells Try.prog 70 (.r kAre) := by
  intro args r H' p hr hp
  unfold kAre at hr
  split at hr <;> first | (cases hr; done) | skip
  split at hr <;> cases hr
  rename_i n g hL
  refine ⟨.b, .nil, Con.pre (args' := [listFF false n (rowN g) (rowX g)]) ⟨.asLL hL hp, trivial⟩ ?_⟩
  have hn := hp.1
  have hm := fun i => hp.row (i := i)
  generalize rowN g = m at hm
  generalize rowX g = x
  refine Con.of ttok Try.func70 rfl rfl (Nat.zero_le _) (AW.exec ttok ctSpectra_ok (by cbv) ?_)
  simp only [natCast_int, Post, All, thenA, canon0, canon064, and_true, true_and, forall_const, implies_true, decide_eq_true_eq, decide_eq_false_iff_not, Bool.not_eq_true', Bool.not_eq_false', Bool.true_and, Bool.and_true, beq_true, beq_false, Int.toNat_natCast, Int.ofNat_lt, Int.ofNat_le, Nat.zero_add, Nat.add_zero, imp_self, Bool.cond_false_right, Bool.cond_true_left, Bool.cond_true_right, IsF, rdF_eq, fOf, AV.f.injEq, exists_eq', free_list, free_fn0, List.not_mem_nil, List.mem_cons, false_imp, forall_eq, or_false, free_i, free_f, free_b, ren_f, ren_i, ren_b, and_self, bne_iff_ne, bne_eq_false_iff_eq, ne_eq, Int.natCast_inj, or_true, true_or, freeB_list, unfr_f, unfr_i, unfr_b, unfr_c, unfr_s, free_c, free_s, ren_c, ren_s, unfr_ro, unfr_rptr, ren_ro, free_ll, free_box, kill_f, kill_i, kill_b, kill_c, kill_s, kill_rof, kill_rot, Int.toNat_zero, isFF_ll, rowN_ll, rowX_ll, AllFree, Option.some.injEq, Prod.mk.injEq, Bool.false_eq_true, Bool.true_eq_false]
  refine AW.loopH (ι := Nat) (fun i => i ≤ n .u ∧ ∀ j, j < i → isTwo (m j) (x j) (m 0) (x 0) = true) (fun i => n .u - i) (fun i => mkE Try.f70.ntmps [(0, listFF false n m x), (5, .i .i64 fun _ => (n .u : Int)), (6, .i .i64 fun _ => (i : Int))])
    (fun _ => []) 0 ⟨Nat.zero_le _, fun j hj => absurd hj (Nat.not_lt_zero _)⟩ (To.same (Nat.le_refl _) trivial ?_) ?_
  · (repeat' first | exact AllTo.nil | apply AllTo.cons) <;> first | exact AvTo.dead _ | exact AvTo.i rfl | exact Free.same (free_ll.2 trivial)
  · rintro Q' hQ i ⟨hi, hx⟩
    have h1 := hm i
    have h2 := hm 0
    refine AW.exec ttok ctSpectra_ok (by cbv) ?_
    simp only [natCast_int, Post, All, thenA, canon0, canon064, and_true, true_and, forall_const, implies_true, decide_eq_true_eq, decide_eq_false_iff_not, Bool.not_eq_true', Bool.not_eq_false', Bool.true_and, Bool.and_true, beq_true, beq_false, Int.toNat_natCast, Int.ofNat_lt, Int.ofNat_le, Nat.zero_add, Nat.add_zero, imp_self, Bool.cond_false_right, Bool.cond_true_left, Bool.cond_true_right, IsF, rdF_eq, fOf, AV.f.injEq, exists_eq', free_list, free_fn0, List.not_mem_nil, List.mem_cons, false_imp, forall_eq, or_false, free_i, free_f, free_b, ren_f, ren_i, ren_b, and_self, bne_iff_ne, bne_eq_false_iff_eq, ne_eq, Int.natCast_inj, or_true, true_or, freeB_list, unfr_f, unfr_i, unfr_b, unfr_c, unfr_s, free_c, free_s, ren_c, ren_s, unfr_ro, unfr_rptr, ren_ro, free_ll, free_box, kill_f, kill_i, kill_b, kill_c, kill_s, kill_rof, kill_rot, Int.toNat_zero, isFF_ll, rowN_ll, rowX_ll, AllFree, Option.some.injEq, Prod.mk.injEq, Bool.false_eq_true, Bool.true_eq_false]
    (repeat' first | with_reducible assumption | with_reducible apply And.intro | with_reducible intro hh) <;> first | ((first | with_reducible show (_ : Int) ≤ _ | with_reducible show (_ : Int) < _ | with_reducible show (_ : Nat) ≤ _ | with_reducible show (_ : Nat) < _ | with_reducible show (_ : Int) = _ | with_reducible show (_ : Nat) = _ | with_reducible show ¬ _ | with_reducible show _ ≠ _) <;> first | omega | (simp only [Bool.and_eq_true, Bool.or_eq_false_iff, Bool.not_eq_false', Bool.not_eq_true', decide_eq_true_eq, decide_eq_false_iff_not] at *; omega) | (with_reducible assumption)) | (with_reducible assumption) | skip
    · obtain ⟨rfl⟩ := hQ
      refine Post.leaf (by cbv) (fin_ret (.inl rfl) (by cbv) (by simp) (To.fresh ⟨.b ?_, trivial⟩))
      simp only [areS]
      rw [allN_false ‹i < n .u› (q := fun i => isTwo (m i) (x i) (m 0) (x 0)) (by assumption), Bool.false_and]
    · refine ⟨i + 1, ⟨by omega, lt_succ_all hx (by assumption)⟩, by omega, To.same (Nat.le_refl _) trivial ?_⟩
      (repeat' first | exact AllTo.nil | apply AllTo.cons) <;> first | exact AvTo.dead _ | exact AvTo.i rfl | exact AvTo.i (by simp only [natCast_int]; omega) | exact Free.same (free_ll.2 trivial)
    · obtain ⟨rfl⟩ := hQ
      refine Post.eval (by cbv) ?_
      simp only [natCast_int, Post, All, thenA, canon0, canon064, and_true, true_and, forall_const, implies_true, decide_eq_true_eq, decide_eq_false_iff_not, Bool.not_eq_true', Bool.not_eq_false', Bool.true_and, Bool.and_true, beq_true, beq_false, Int.toNat_natCast, Int.ofNat_lt, Int.ofNat_le, Nat.zero_add, Nat.add_zero, imp_self, Bool.cond_false_right, Bool.cond_true_left, Bool.cond_true_right, IsF, rdF_eq, fOf, AV.f.injEq, exists_eq', free_list, free_fn0, List.not_mem_nil, List.mem_cons, false_imp, forall_eq, or_false, free_i, free_f, free_b, ren_f, ren_i, ren_b, and_self, bne_iff_ne, bne_eq_false_iff_eq, ne_eq, Int.natCast_inj, or_true, true_or, freeB_list, unfr_f, unfr_i, unfr_b, unfr_c, unfr_s, free_c, free_s, ren_c, ren_s, unfr_ro, unfr_rptr, ren_ro, free_ll, free_box, kill_f, kill_i, kill_b, kill_c, kill_s, kill_rof, kill_rot, Int.toNat_zero, isFF_ll, rowN_ll, rowX_ll, AllFree, Option.some.injEq, Prod.mk.injEq, Bool.false_eq_true, Bool.true_eq_false]
      have e : i = n .u := by omega
      (repeat' first | with_reducible assumption | with_reducible apply And.intro | with_reducible intro hh) <;> first | ((first | with_reducible show (_ : Int) ≤ _ | with_reducible show (_ : Int) < _ | with_reducible show (_ : Nat) ≤ _ | with_reducible show (_ : Nat) < _ | with_reducible show (_ : Int) = _ | with_reducible show (_ : Nat) = _ | with_reducible show ¬ _ | with_reducible show _ ≠ _) <;> first | omega | (simp only [Bool.and_eq_true, Bool.or_eq_false_iff, Bool.not_eq_false', Bool.not_eq_true', decide_eq_true_eq, decide_eq_false_iff_not] at *; omega) | (with_reducible assumption)) | (with_reducible assumption) | skip
      refine fin_ret (.inl rfl) (by cbv) (by simp) (To.fresh ⟨.b ?_, trivial⟩)
      simp only [areS]
      rw [allN_true (e ▸ hx), Bool.true_and, show decide ((n .u : Int) ≤ 8) = decide (n .u ≤ 8) from decide_eq_decide.2 (by omega), show decide ((1 : Int) ≤ (n .u : Int)) = decide (1 ≤ n .u) from decide_eq_decide.2 (by omega)]
def ctSpecAre : CT := [(70, .r kAre)]
theorem ctSpecAre_ok : CTok Try.prog ctSpecAre := .cons l07Spectra_tells (.nil _)
/-! The program's side: a closure over the list of lists. -/
def asBox : AV → Option (Th Nat × (Th Nat → Nat → AV))
  | .rptr false 1 h => asLL (h 0)
  | _ => none
def notAre (l : Nat) (y : Nat → Nat) (m0 : Nat) : Bool := !isList l y || !decide (l = m0)
def kAre1 : Kr
  | [a, b] => match asL a, asBox b with
    | some (l, h), some (n, g) => some (.b fun _ => notAre (l .u) (rdF h) (rowN g 0), [], fun _ => IsF l h ∧ IsFF n g ∧ 0 < n .u)
    | _, _ => none
  | _ => none
theorem one_beq (n m : Nat) : ((n : Int) != (m : Int)) = !decide (n = m) := by rw [← int_beq]; rfl
theorem sub_asBox {a : AV} {n : Th Nat} {g : Th Nat → Nat → AV} (h : asBox a = some (n, g)) (hF : IsFF n g) : Sub (unfr a) (.rptr false 1 fun _ => listFF false n (rowN g) (rowX g)) := by
  unfold asBox at h
  split at h <;> first | (cases h; done) | skip
  intro w ρ N L v hs
  simp only [unfr] at hs
  cases hs with
  | rptr u hq hc hsim =>
    refine .rptr u hq hc fun c hcc => ?_
    obtain rfl : c = 0 := by omega
    exact Sub.asLL h hF _ _ _ _ _ (hsim 0 hcc)
def ctIsList1 : CT := [(75, .r kIsList)]
theorem ctIsList_ok' : CTok Try.prog ctIsList1 := .cons isList_tells (.nil _)
theorem are1_tells : Tells Try.prog 85 (.r kAre1) := by
  intro args r H' p hr hp
  unfold kAre1 at hr
  split at hr <;> first | (cases hr; done) | skip
  split at hr <;> cases hr
  rename_i a b l h n g hL hB
  obtain ⟨hp, hq, hn0⟩ := hp
  refine ⟨.b, .nil, Con.pre (args' := [listF false l (rdF h), .rptr false 1 fun _ => listFF false n (rowN g) (rowX g)]) ⟨.asL hL hp, sub_asBox hB hq, trivial⟩ ?_⟩
  have hl := hp.1
  have hm := hq.row hn0
  generalize rowN g = m at hm
  generalize rowX g = x
  generalize rdF h = y
  refine Con.of ttok Try.func85 rfl rfl (Nat.le_refl _) (AW.exec ttok ctIsList_ok' (by cbv) ?_)
  simp only [natCast_int, Post, All, thenA, canon0, canon064, and_true, true_and, forall_const, implies_true, decide_eq_true_eq, decide_eq_false_iff_not, Bool.not_eq_true', Bool.not_eq_false', Bool.true_and, Bool.and_true, beq_true, beq_false, Int.toNat_natCast, Int.ofNat_lt, Int.ofNat_le, Nat.zero_add, Nat.add_zero, imp_self, Bool.cond_false_right, Bool.cond_true_left, Bool.cond_true_right, IsF, rdF_eq, fOf, AV.f.injEq, exists_eq', free_list, free_fn0, List.not_mem_nil, List.mem_cons, false_imp, forall_eq, or_false, free_i, free_f, free_b, ren_f, ren_i, ren_b, and_self, bne_iff_ne, bne_eq_false_iff_eq, ne_eq, Int.natCast_inj, or_true, true_or, freeB_list, unfr_f, unfr_i, unfr_b, unfr_c, unfr_s, free_c, free_s, ren_c, ren_s, unfr_ro, unfr_rptr, ren_ro, free_ll, free_box, kill_f, kill_i, kill_b, kill_c, kill_s, kill_rof, kill_rot, Int.toNat_zero, isFF_ll, rowN_ll, rowX_ll, AllFree, Option.some.injEq, Prod.mk.injEq, Bool.false_eq_true, Bool.true_eq_false, isList_fin, hl]
  (repeat' first | with_reducible assumption | with_reducible apply And.intro | with_reducible intro hh) <;> first | ((first | with_reducible show (_ : Int) ≤ _ | with_reducible show (_ : Int) < _ | with_reducible show (_ : Nat) ≤ _ | with_reducible show (_ : Nat) < _ | with_reducible show (_ : Int) = _ | with_reducible show (_ : Nat) = _ | with_reducible show ¬ _ | with_reducible show _ ≠ _) <;> first | omega | (simp only [Bool.and_eq_true, Bool.or_eq_false_iff, Bool.not_eq_false', Bool.not_eq_true', decide_eq_true_eq, decide_eq_false_iff_not] at *; omega) | (with_reducible assumption)) | (with_reducible assumption) | skip
  refine fin_ret (.inl rfl) (by cbv) (by simp) (To.fresh ⟨.b ?_, trivial⟩)
  simp only [notAre, one_beq]
def firstAre (n : Nat) (m : Nat → Nat) (x : Nat → Nat → Nat) (m0 : Nat) : Int := firstN (fun i => notAre (m i) (x i) m0) n
def kIndexL : Kr
  | [a, .fn (.func c) [] [b]] => match Nat.beq c 85 with
    | true => match asLL a, asBox b with
      | some (n, g), some (n', h) => some (.i .i64 fun _ => firstAre (n .u) (rowN g) (rowX g) (rowN h 0), [], fun _ => IsFF n g ∧ IsFF n' h ∧ 0 < n' .u)
      | _, _ => none
    | false => none
  | _ => none
def ctIndexL : CT := [(85, .r kAre1)]
theorem ctIndexL_ok : CTok Try.prog ctIndexL := .cons are1_tells (.nil _)
theorem indexL_tells : Tells Try.prog 129 (.r kIndexL) := by
  intro args r H' p hr hp
  unfold kIndexL at hr
  split at hr <;> first | (cases hr; done) | skip
  split at hr <;> first | (cases hr; done) | skip
  rename_i c b hc
  obtain rfl := Nat.beq_eq.mp hc
  split at hr <;> cases hr
  rename_i n g n' h hL hB
  obtain ⟨hp, hq, hn0⟩ := hp
  refine ⟨.i, .nil, Con.pre (args' := [listFF false n (rowN g) (rowX g), .fn (.func 85) [] [.rptr false 1 fun _ => listFF false n' (rowN h) (rowX h)]]) ⟨.asLL hL hp, .fn1 (sub_asBox hB hq), trivial⟩ ?_⟩
  have hn := hp.1
  have hn' := hq.1
  have hm := fun i => hp.row (i := i)
  have hm' := fun i => hq.row (i := i)
  generalize rowN g = m at hm
  generalize rowX g = x
  generalize rowN h = m' at hm'
  generalize rowX h = x'
  refine Con.of ttok Try.func129 rfl rfl (Nat.le_refl _) (AW.exec ttok ctIndexL_ok (by cbv) ?_)
  simp only [natCast_int, Post, All, thenA, canon0, canon064, and_true, true_and, forall_const, implies_true, decide_eq_true_eq, decide_eq_false_iff_not, Bool.not_eq_true', Bool.not_eq_false', Bool.true_and, Bool.and_true, beq_true, beq_false, Int.toNat_natCast, Int.ofNat_lt, Int.ofNat_le, Nat.zero_add, Nat.add_zero, imp_self, Bool.cond_false_right, Bool.cond_true_left, Bool.cond_true_right, IsF, rdF_eq, fOf, AV.f.injEq, exists_eq', free_list, free_fn0, List.not_mem_nil, List.mem_cons, false_imp, forall_eq, or_false, free_i, free_f, free_b, ren_f, ren_i, ren_b, and_self, bne_iff_ne, bne_eq_false_iff_eq, ne_eq, Int.natCast_inj, or_true, true_or, freeB_list, unfr_f, unfr_i, unfr_b, unfr_c, unfr_s, free_c, free_s, ren_c, ren_s, unfr_ro, unfr_rptr, ren_ro, free_ll, free_box, kill_f, kill_i, kill_b, kill_c, kill_s, kill_rof, kill_rot, Int.toNat_zero, isFF_ll, rowN_ll, rowX_ll, AllFree, Option.some.injEq, Prod.mk.injEq, Bool.false_eq_true, Bool.true_eq_false]
  refine AW.loopH (ι := Nat) (fun i => i ≤ n .u ∧ ∀ j, j < i → notAre (m j) (x j) (m' 0) = false) (fun i => n .u - i) (fun i => mkE Try.f129.ntmps [(0, listFF false n m x), (1, .fn (.func 85) [] [.rptr false 1 fun _ => listFF false n' m' x']), (7, .i .i64 fun _ => (n .u : Int)), (8, .i .i64 fun _ => (i : Int))])
    (fun _ => []) 0 ⟨Nat.zero_le _, fun j hj => absurd hj (Nat.not_lt_zero _)⟩ (To.same (Nat.le_refl _) trivial ?_) ?_
  · (repeat' first | exact AllTo.nil | apply AllTo.cons) <;> first | exact AvTo.dead _ | exact AvTo.i rfl | exact Free.same (free_ll.2 trivial) | exact Free.same (.fn (by simp) (by simp only [List.mem_cons, List.not_mem_nil, or_false, forall_eq]; exact free_box.2 trivial))
  · rintro Q' hQ i ⟨hi, hx⟩
    have h1 := hm i
    refine AW.exec ttok ctIndexL_ok (by cbv) ?_
    simp only [natCast_int, Post, All, thenA, canon0, canon064, and_true, true_and, forall_const, implies_true, decide_eq_true_eq, decide_eq_false_iff_not, Bool.not_eq_true', Bool.not_eq_false', Bool.true_and, Bool.and_true, beq_true, beq_false, Int.toNat_natCast, Int.ofNat_lt, Int.ofNat_le, Nat.zero_add, Nat.add_zero, imp_self, Bool.cond_false_right, Bool.cond_true_left, Bool.cond_true_right, IsF, rdF_eq, fOf, AV.f.injEq, exists_eq', free_list, free_fn0, List.not_mem_nil, List.mem_cons, false_imp, forall_eq, or_false, free_i, free_f, free_b, ren_f, ren_i, ren_b, and_self, bne_iff_ne, bne_eq_false_iff_eq, ne_eq, Int.natCast_inj, or_true, true_or, freeB_list, unfr_f, unfr_i, unfr_b, unfr_c, unfr_s, free_c, free_s, ren_c, ren_s, unfr_ro, unfr_rptr, ren_ro, free_ll, free_box, kill_f, kill_i, kill_b, kill_c, kill_s, kill_rof, kill_rot, Int.toNat_zero, isFF_ll, rowN_ll, rowX_ll, AllFree, Option.some.injEq, Prod.mk.injEq, Bool.false_eq_true, Bool.true_eq_false]
    (repeat' first | with_reducible assumption | with_reducible apply And.intro | with_reducible intro hh) <;> first | ((first | with_reducible show (_ : Int) ≤ _ | with_reducible show (_ : Int) < _ | with_reducible show (_ : Nat) ≤ _ | with_reducible show (_ : Nat) < _ | with_reducible show (_ : Int) = _ | with_reducible show (_ : Nat) = _ | with_reducible show ¬ _ | with_reducible show _ ≠ _) <;> first | omega | (simp only [Bool.and_eq_true, Bool.or_eq_false_iff, Bool.not_eq_false', Bool.not_eq_true', decide_eq_true_eq, decide_eq_false_iff_not] at *; omega) | (with_reducible assumption)) | (with_reducible assumption) | skip
    · obtain ⟨rfl⟩ := hQ
      refine Post.leaf (by cbv) (fin_ret (.inl rfl) (by cbv) (by simp) (To.fresh ⟨.i ?_, trivial⟩))
      exact (firstN_at (q := fun i => notAre (m i) (x i) (m' 0)) ‹i < n .u› (by assumption) hx).symm
    · refine ⟨i + 1, ⟨by omega, lt_succ_all hx (by assumption)⟩, by omega, To.same (Nat.le_refl _) trivial ?_⟩
      (repeat' first | exact AllTo.nil | apply AllTo.cons) <;> first | exact AvTo.dead _ | exact AvTo.i rfl | exact AvTo.i (by simp only [natCast_int]; omega) | exact Free.same (free_ll.2 trivial) | exact Free.same (.fn (by simp) (by simp only [List.mem_cons, List.not_mem_nil, or_false, forall_eq]; exact free_box.2 trivial))
    · obtain ⟨rfl⟩ := hQ
      refine Post.eval (by cbv) ?_
      simp only [natCast_int, Post, All, thenA, canon0, canon064, and_true, true_and, forall_const, implies_true, decide_eq_true_eq, decide_eq_false_iff_not, Bool.not_eq_true', Bool.not_eq_false', Bool.true_and, Bool.and_true, beq_true, beq_false, Int.toNat_natCast, Int.ofNat_lt, Int.ofNat_le, Nat.zero_add, Nat.add_zero, imp_self, Bool.cond_false_right, Bool.cond_true_left, Bool.cond_true_right, IsF, rdF_eq, fOf, AV.f.injEq, exists_eq', free_list, free_fn0, List.not_mem_nil, List.mem_cons, false_imp, forall_eq, or_false, free_i, free_f, free_b, ren_f, ren_i, ren_b, and_self, bne_iff_ne, bne_eq_false_iff_eq, ne_eq, Int.natCast_inj, or_true, true_or, freeB_list, unfr_f, unfr_i, unfr_b, unfr_c, unfr_s, free_c, free_s, ren_c, ren_s, unfr_ro, unfr_rptr, ren_ro, free_ll, free_box, kill_f, kill_i, kill_b, kill_c, kill_s, kill_rof, kill_rot, Int.toNat_zero, isFF_ll, rowN_ll, rowX_ll, AllFree, Option.some.injEq, Prod.mk.injEq, Bool.false_eq_true, Bool.true_eq_false]
      have e : i = n .u := by omega
      refine fin_ret (.inl rfl) (by cbv) (by simp) (To.fresh ⟨.i ?_, trivial⟩)
      exact (firstN_none (q := fun i => notAre (m i) (x i) (m' 0)) (e ▸ hx)).symm
def kHasL : Kr
  | [a, .fn (.func c) [] [b]] => match Nat.beq c 85 with
    | true => match asLL a, asBox b with
      | some (n, g), some (n', h) => some (.b fun _ => !allN (fun i => !notAre (rowN g i) (rowX g i) (rowN h 0)) (n .u), [], fun _ => IsFF n g ∧ IsFF n' h ∧ 0 < n' .u)
      | _, _ => none
    | false => none
  | _ => none
def ctHasL : CT := [(129, .r kIndexL)]
theorem ctHasL_ok : CTok Try.prog ctHasL := .cons indexL_tells (.nil _)
theorem hasL_tells : Tells Try.prog 84 (.r kHasL) := by
  intro args r H' p hr hp
  unfold kHasL at hr
  split at hr <;> first | (cases hr; done) | skip
  split at hr <;> first | (cases hr; done) | skip
  rename_i c b hc
  obtain rfl := Nat.beq_eq.mp hc
  split at hr <;> cases hr
  rename_i n g n' h hL hB
  obtain ⟨hp, hq, hn0⟩ := hp
  refine ⟨.b, .nil, Con.pre (args' := [listFF false n (rowN g) (rowX g), .fn (.func 85) [] [.rptr false 1 fun _ => listFF false n' (rowN h) (rowX h)]]) ⟨.asLL hL hp, .fn1 (sub_asBox hB hq), trivial⟩ ?_⟩
  have hn := hp.1
  have hn' := hq.1
  have hm := fun i => hp.row (i := i)
  have hm' := fun i => hq.row (i := i)
  generalize rowN g = m at hm
  generalize rowX g = x
  generalize rowN h = m' at hm'
  generalize rowX h = x'
  refine Con.of ttok Try.func84 rfl rfl (Nat.le_refl _) (AW.exec ttok ctHasL_ok (by cbv) ?_)
  simp only [natCast_int, Post, All, thenA, canon0, canon064, and_true, true_and, forall_const, implies_true, decide_eq_true_eq, decide_eq_false_iff_not, Bool.not_eq_true', Bool.not_eq_false', Bool.true_and, Bool.and_true, beq_true, beq_false, Int.toNat_natCast, Int.ofNat_lt, Int.ofNat_le, Nat.zero_add, Nat.add_zero, imp_self, Bool.cond_false_right, Bool.cond_true_left, Bool.cond_true_right, IsF, rdF_eq, fOf, AV.f.injEq, exists_eq', free_list, free_fn0, List.not_mem_nil, List.mem_cons, false_imp, forall_eq, or_false, free_i, free_f, free_b, ren_f, ren_i, ren_b, and_self, bne_iff_ne, bne_eq_false_iff_eq, ne_eq, Int.natCast_inj, or_true, true_or, freeB_list, unfr_f, unfr_i, unfr_b, unfr_c, unfr_s, free_c, free_s, ren_c, ren_s, unfr_ro, unfr_rptr, ren_ro, free_ll, free_box, kill_f, kill_i, kill_b, kill_c, kill_s, kill_rof, kill_rot, Int.toNat_zero, isFF_ll, rowN_ll, rowX_ll, AllFree, Option.some.injEq, Prod.mk.injEq, Bool.false_eq_true, Bool.true_eq_false]
  (repeat' first | with_reducible assumption | with_reducible apply And.intro | with_reducible intro hh) <;> first | ((first | with_reducible show (_ : Int) ≤ _ | with_reducible show (_ : Int) < _ | with_reducible show (_ : Nat) ≤ _ | with_reducible show (_ : Nat) < _ | with_reducible show (_ : Int) = _ | with_reducible show (_ : Nat) = _ | with_reducible show ¬ _ | with_reducible show _ ≠ _) <;> first | omega | (simp only [Bool.and_eq_true, Bool.or_eq_false_iff, Bool.not_eq_false', Bool.not_eq_true', decide_eq_true_eq, decide_eq_false_iff_not] at *; omega) | (with_reducible assumption)) | (with_reducible assumption) | skip
  refine fin_ret (.inl rfl) (by cbv) (by simp) (To.fresh ⟨.b ?_, trivial⟩)
  exact (has_first (q := fun i => notAre (m i) (x i) (m' 0)) (n .u)).symm
theorem areS_impl (n : Nat) (m : Nat → Nat) (x : Nat → Nat → Nat) (h1 : 1 ≤ n) : allN (fun i => !notAre (m i) (x i) (m 0)) n = allN (fun i => isTwo (m i) (x i) (m 0) (x 0)) n := by
  rw [Bool.eq_iff_iff]
  simp only [allN, List.all_eq_true, List.mem_range]
  constructor
  · intro h i hi
    have h0 := h 0 (by omega)
    have hi' := h i hi
    simp only [notAre, Bool.not_or, Bool.not_not, Bool.and_eq_true] at h0 hi'
    simp only [isTwo, Bool.and_eq_true]
    exact ⟨hi'.1, h0.1, hi'.2⟩
  · intro h i hi
    have hi' := h i hi
    simp only [isTwo, Bool.and_eq_true] at hi'
    simp only [notAre, Bool.not_or, Bool.not_not, Bool.and_eq_true]
    exact ⟨hi'.1, hi'.2.2⟩
def ctImplAre : CT := [(84, .r kHasL)]
theorem ctImplAre_ok : CTok Try.prog ctImplAre := .cons hasL_tells (.nil _)
theorem implAre : Tells Try.prog 16 (.r kAre) := by
  intro args r H' p hr hp
  unfold kAre at hr
  split at hr <;> first | (cases hr; done) | skip
  split at hr <;> cases hr
  rename_i n g hL
  refine ⟨.b, .nil, Con.pre (args' := [listFF false n (rowN g) (rowX g)]) ⟨.asLL hL hp, trivial⟩ ?_⟩
  have hn := hp.1
  have hm := fun i => hp.row (i := i)
  generalize rowN g = m at hm
  generalize rowX g = x
  refine Con.of ttok Try.func16 rfl rfl (Nat.zero_le _) (AW.exec ttok ctImplAre_ok (by cbv) ?_)
  simp only [natCast_int, Post, All, thenA, canon0, canon064, and_true, true_and, forall_const, implies_true, decide_eq_true_eq, decide_eq_false_iff_not, Bool.not_eq_true', Bool.not_eq_false', Bool.true_and, Bool.and_true, beq_true, beq_false, Int.toNat_natCast, Int.ofNat_lt, Int.ofNat_le, Nat.zero_add, Nat.add_zero, imp_self, Bool.cond_false_right, Bool.cond_true_left, Bool.cond_true_right, IsF, rdF_eq, fOf, AV.f.injEq, exists_eq', free_list, free_fn0, List.not_mem_nil, List.mem_cons, false_imp, forall_eq, or_false, free_i, free_f, free_b, ren_f, ren_i, ren_b, and_self, bne_iff_ne, bne_eq_false_iff_eq, ne_eq, Int.natCast_inj, or_true, true_or, freeB_list, unfr_f, unfr_i, unfr_b, unfr_c, unfr_s, free_c, free_s, ren_c, ren_s, unfr_ro, unfr_rptr, ren_ro, free_ll, free_box, kill_f, kill_i, kill_b, kill_c, kill_s, kill_rof, kill_rot, Int.toNat_zero, isFF_ll, rowN_ll, rowX_ll, AllFree, Option.some.injEq, Prod.mk.injEq, Bool.false_eq_true, Bool.true_eq_false, hn]
  (repeat' first | with_reducible assumption | with_reducible apply And.intro | with_reducible intro hh) <;> first | ((first | with_reducible show (_ : Int) ≤ _ | with_reducible show (_ : Int) < _ | with_reducible show (_ : Nat) ≤ _ | with_reducible show (_ : Nat) < _ | with_reducible show (_ : Int) = _ | with_reducible show (_ : Nat) = _ | with_reducible show ¬ _ | with_reducible show _ ≠ _) <;> first | omega | (simp only [Bool.and_eq_true, Bool.or_eq_false_iff, Bool.not_eq_false', Bool.not_eq_true', decide_eq_true_eq, decide_eq_false_iff_not] at *; omega) | (with_reducible assumption)) | (with_reducible assumption) | skip
  refine fin_ret (.inl rfl) (by cbv) (by simp) (To.fresh ⟨.b ?_, trivial⟩)
  simp only [Bool.not_not, areS]
  rw [show decide ((n .u : Int) ≤ 8) = decide (n .u ≤ 8) from decide_eq_decide.2 (by omega), show decide ((1 : Int) ≤ (n .u : Int)) = decide (1 ≤ n .u) from decide_eq_decide.2 (by omega)]
  by_cases h1 : 1 ≤ n .u
  · rw [areS_impl (n .u) m x h1, Bool.and_comm]
  · simp only [decide_eq_false h1, Bool.false_and, Bool.and_false]
end Go.Proofs.Ytfdmmbcjidkmoaa
