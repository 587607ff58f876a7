/- Marks, stitched lists, spread lists, walked. -/
import Derived.Test.YtfdmmbcjidkmoaaPa
set_option linter.unusedSimpArgs false
set_option linter.unusedVariables false
namespace Go.Proofs.Ytfdmmbcjidkmoaa
open Go.Aw
/-! Marks. -/
def isMk (x : Nat → Nat) (bar i : Nat) : Bool := fgt .f32 (fsub .f32 (x i) (fmax .f32 (x (i - 1)) (x (i + 1)))) bar
/-- The marks below i. -/
def mkL (x : Nat → Nat) (bar : Nat) : Nat → List Nat
  | 0 => []
  | i + 1 => bif decide (1 ≤ i) && isMk x bar i then mkL x bar i ++ [i] else mkL x bar i
theorem mkL_one (x : Nat → Nat) (bar : Nat) : mkL x bar 1 = [] := rfl
theorem mkL_yes {x : Nat → Nat} {bar i : Nat} (h : 1 ≤ i) (hm : isMk x bar i = true) : mkL x bar (i + 1) = mkL x bar i ++ [i] := by
  show (bif decide (1 ≤ i) && isMk x bar i then _ else _) = _
  rw [decide_eq_true h, hm]
  rfl
theorem mkL_no {x : Nat → Nat} {bar i : Nat} (hm : isMk x bar i = false) : mkL x bar (i + 1) = mkL x bar i := by
  show (bif decide (1 ≤ i) && isMk x bar i then _ else _) = _
  rw [hm, Bool.and_false]
  rfl
theorem mkL_mem {x : Nat → Nat} {bar : Nat} : ∀ {i j : Nat}, j ∈ mkL x bar i ↔ 1 ≤ j ∧ j < i ∧ isMk x bar j = true
  | 0, j => by simp [mkL]
  | i + 1, j => by
    have ih := mkL_mem (x := x) (bar := bar) (i := i) (j := j)
    cases hm : isMk x bar i with
    | false =>
      rw [mkL_no hm, ih]
      constructor
      · rintro ⟨a, b, c⟩; exact ⟨a, by omega, c⟩
      · rintro ⟨a, b, c⟩
        refine ⟨a, ?_, c⟩
        rcases Nat.lt_or_eq_of_le (Nat.le_of_lt_succ b) with h | rfl
        · exact h
        · rw [hm] at c; cases c
    | true =>
      by_cases h1 : 1 ≤ i
      · rw [mkL_yes h1 hm, List.mem_append, ih, List.mem_singleton]
        constructor
        · rintro (⟨a, b, c⟩ | rfl)
          · exact ⟨a, by omega, c⟩
          · exact ⟨h1, by omega, hm⟩
        · rintro ⟨a, b, c⟩
          rcases Nat.lt_or_eq_of_le (Nat.le_of_lt_succ b) with h | rfl
          · exact .inl ⟨a, h, c⟩
          · exact .inr rfl
      · obtain rfl : i = 0 := by omega
        show j ∈ mkL x bar 1 ↔ _
        rw [mkL_one]
        simp
        omega
theorem mkL_len {x : Nat → Nat} {bar : Nat} : ∀ i : Nat, (mkL x bar i).length ≤ i
  | 0 => by simp [mkL]
  | i + 1 => by
    have ih := mkL_len (x := x) (bar := bar) i
    show (bif decide (1 ≤ i) && isMk x bar i then mkL x bar i ++ [i] else mkL x bar i).length ≤ _
    cases decide (1 ≤ i) && isMk x bar i
    · exact Nat.le_succ_of_le ih
    · simp only [cond_true, List.length_append, List.length_cons, List.length_nil]; omega
abbrev blkMk (fr : Bool) (l : List Nat) : Option (Bool × Blk) := some (fr, .tab (fun _ => l.length) 1 fun i _ => .i .i64 fun _ => ((l.getD (i .u) 0 : Nat) : Int))
def okCosmic (n : Nat) (x : Nat → Nat) (bar : Nat) : Bool := binsN 3 n x && (isFin bar && !flt .f32 bar 0)
def kCosmic : Kg
  | [a, .f .f32 d], [] => match asLg a with
    | some (n, g) => some (.one (.tup [.own 0 (fun _ => 0) (fun _ => (mkL (rdF g) (d .u) (n .u - 1)).length) 1, .b fun _ => true]) [blkMk true (mkL (rdF g) (d .u) (n .u - 1))] fun _ => IsF n g ∧ okCosmic (n .u) (rdF g) (d .u) = true)
    | none => none
  | _, _ => none
theorem frB_Mk {fr : Bool} {l : List Nat} : ∀ B, some (fr, B) = blkMk fr l → FrB B := fun B e => by
  cases e
  exact .tab fun _ _ _ _ => .i
def ctCosmic : CT := [(98, .r kIsBins), (78, .r kFin)]
theorem ctCosmic_ok : CTok Try.prog ctCosmic := .cons isBins_tells (.cons IsFinite_tells (.nil _))
set_option maxHeartbeats 2000000 in
theorem cosmic_g : Tells Try.prog 36 (.g 0 kCosmic) := by
  intro args Hc r hr
  unfold kCosmic at hr
  split at hr <;> first | (cases hr; done) | skip
  split at hr <;> cases hr
  rename_i d _ n g hL
  refine AnsOk.one ttok Try.func36 rfl rfl (Nat.zero_le _) (allFr_tup2 .own .b) (.cons (fun fr B e => by cases e; exact .tab fun _ _ _ _ => .i) .nil) fun ⟨hF, hok⟩ => ⟨[listF false n (rdF g), .f .f32 d], ⟨.asLg hL hF, Sub.refl _, trivial⟩, ?_⟩
  have hn := hF.1
  generalize rdF g = x at *
  simp only [okCosmic, Bool.and_eq_true, Bool.not_eq_true'] at hok
  obtain ⟨h1, h2, h3⟩ := hok
  have h64 : 3 ≤ n .u ∧ n .u ≤ 64 := by
    unfold binsN at h1
    simp only [Bool.and_eq_true, decide_eq_true_eq] at h1
    omega
  refine AW.exec ttok ctCosmic_ok (by cbv) ?_
  simp only [natCast_int, Post, All, thenA, canon0, canon064, and_true, true_and, forall_const, implies_true, decide_eq_true_eq, decide_eq_false_iff_not, Bool.not_eq_true', Bool.not_eq_false', Bool.true_and, Bool.and_true, beq_true, beq_false, Int.toNat_natCast, Int.ofNat_lt, Int.ofNat_le, Nat.zero_add, Nat.add_zero, imp_self, Bool.cond_false_right, Bool.cond_true_left, Bool.cond_true_right, IsF, rdF_eq, fOf, AV.f.injEq, exists_eq', free_list, free_fn0, List.not_mem_nil, List.mem_cons, false_imp, forall_eq, or_false, free_i, free_f, free_b, ren_f, ren_i, ren_b, and_self, bne_iff_ne, bne_eq_false_iff_eq, ne_eq, Int.natCast_inj, or_true, true_or, freeB_list, unfr_f, unfr_i, unfr_b, unfr_c, unfr_s, free_c, free_s, ren_c, ren_s, unfr_ro, unfr_rptr, ren_ro, free_ll, free_box, kill_f, kill_i, kill_b, kill_c, kill_s, kill_rof, kill_rot, Int.toNat_zero, isFF_ll, rowN_ll, rowX_ll, AllFree, Option.some.injEq, Prod.mk.injEq, Bool.false_eq_true, Bool.true_eq_false, eqL_self, heldL_mark, heldL_zero, one_neg, Nat.zero_le, Nat.not_lt_zero, one_add_len, one_le_tb, zero_le_one', not_false_eq_true, true_imp_iff, bne_self_eq_false, Bool.or_false, Bool.false_or, Bool.not_true, Bool.not_false, Bool.true_eq_false, Bool.false_eq_true, false_imp, Nat.le_refl, decide_true, decide_false, not_true_eq_false, Int.lt_irrefl, hn, h1, h2, h3]
  (repeat' first | with_reducible assumption | with_reducible apply And.intro | with_reducible intro hh) <;> first | ((first | with_reducible show (_ : Int) ≤ _ | with_reducible show (_ : Int) < _ | with_reducible show (_ : Nat) ≤ _ | with_reducible show (_ : Nat) < _ | with_reducible show (_ : Int) = _ | with_reducible show (_ : Nat) = _ | with_reducible show ¬ _ | with_reducible show _ ≠ _) <;> first | omega | (simp only [Bool.and_eq_true, Bool.or_eq_false_iff, Bool.not_eq_false', Bool.not_eq_true', decide_eq_true_eq, decide_eq_false_iff_not] at *; omega) | (with_reducible assumption)) | (with_reducible assumption) | skip
  refine AW.loopH (ι := Nat) (fun i => 1 ≤ i ∧ i + 1 ≤ n .u) (fun i => n .u - i) (fun i => mkE Try.f36.ntmps [(0, listF false n x), (1, .f .f32 d), (6, .own 0 (fun _ => 0) (fun _ => (mkL x (d .u) i).length) 1), (7, .i .i64 fun _ => (i : Int))])
    (fun i => [blkMk true (mkL x (d .u) i)]) 1 (by omega) (To.same (Nat.zero_le _) ⟨.list (fun e => e) (Nat.le_refl _) fun j hj => absurd hj (Nat.not_lt_zero _), trivial⟩ ?_) ?_
  · (repeat' first | exact AllTo.nil | apply AllTo.cons) <;> first | exact AvTo.dead _ | exact AvTo.i rfl | exact AvTo.i (by first | omega | (simp only [natCast_int]; omega)) | exact AvTo.f rfl | exact AvTo.b rfl | exact AvTo.v _ | exact AvTo.own rfl rfl rfl rfl | exact AvTo.own rfl rfl (by first | rfl | omega) (by first | rfl | omega) | exact Free.same .listF | exact Free.same (.fn (by simp) (by simp)) | skip
  rintro Q' hQ i ⟨hi, hi2⟩
  have hlen := mkL_len (x := x) (bar := d .u) i
  have e1 : ((i : Int) - 1).toNat = i - 1 := by omega
  have e2 : ((i : Int) + 1).toNat = i + 1 := by omega
  refine AW.exec ttok ctCosmic_ok (by cbv) ?_
  simp only [natCast_int, Post, All, thenA, canon0, canon064, and_true, true_and, forall_const, implies_true, decide_eq_true_eq, decide_eq_false_iff_not, Bool.not_eq_true', Bool.not_eq_false', Bool.true_and, Bool.and_true, beq_true, beq_false, Int.toNat_natCast, Int.ofNat_lt, Int.ofNat_le, Nat.zero_add, Nat.add_zero, imp_self, Bool.cond_false_right, Bool.cond_true_left, Bool.cond_true_right, IsF, rdF_eq, fOf, AV.f.injEq, exists_eq', free_list, free_fn0, List.not_mem_nil, List.mem_cons, false_imp, forall_eq, or_false, free_i, free_f, free_b, ren_f, ren_i, ren_b, and_self, bne_iff_ne, bne_eq_false_iff_eq, ne_eq, Int.natCast_inj, or_true, true_or, freeB_list, unfr_f, unfr_i, unfr_b, unfr_c, unfr_s, free_c, free_s, ren_c, ren_s, unfr_ro, unfr_rptr, ren_ro, free_ll, free_box, kill_f, kill_i, kill_b, kill_c, kill_s, kill_rof, kill_rot, Int.toNat_zero, isFF_ll, rowN_ll, rowX_ll, AllFree, Option.some.injEq, Prod.mk.injEq, Bool.false_eq_true, Bool.true_eq_false, eqL_self, heldL_mark, heldL_zero, one_neg, Nat.zero_le, Nat.not_lt_zero, one_add_len, one_le_tb, zero_le_one', not_false_eq_true, true_imp_iff, bne_self_eq_false, Bool.or_false, Bool.false_or, Bool.not_true, Bool.not_false, Bool.true_eq_false, Bool.false_eq_true, false_imp, Nat.le_refl, decide_true, decide_false, not_true_eq_false, Int.lt_irrefl, hn, e1, e2]
  (repeat' first | with_reducible assumption | with_reducible apply And.intro | with_reducible intro hh) <;> first | ((first | with_reducible show (_ : Int) ≤ _ | with_reducible show (_ : Int) < _ | with_reducible show (_ : Nat) ≤ _ | with_reducible show (_ : Nat) < _ | with_reducible show (_ : Int) = _ | with_reducible show (_ : Nat) = _ | with_reducible show ¬ _ | with_reducible show _ ≠ _) <;> first | omega | (simp only [Bool.and_eq_true, Bool.or_eq_false_iff, Bool.not_eq_false', Bool.not_eq_true', decide_eq_true_eq, decide_eq_false_iff_not] at *; omega) | (with_reducible assumption)) | (with_reducible assumption) | skip
  · have hm : isMk x (d .u) i = true := by assumption
    refine ⟨i + 1, by omega, by omega, ?_⟩
    have e3 := mkL_yes hi hm
    rw [e3]
    refine To.moved (k := 2) rfl (by simp) (fun e => e) (fun j hj => app_one (by simpa using hj) (fun h => AvTo.i ?_) fun e => AvTo.i ?_) ?_
    · show _ = (((mkL x (d .u) i ++ [i]).getD j 0 : Nat) : Int)
      rw [List.getD_eq_getElem?_getD, List.getD_eq_getElem?_getD, List.getElem?_append_left h]
    · show _ = (((mkL x (d .u) i ++ [i]).getD j 0 : Nat) : Int)
      rw [List.getD_eq_getElem?_getD, List.getElem?_append_right (by omega), e]
      simp
    · (repeat' first | exact AllTo.nil | apply AllTo.cons) <;> first | exact AvTo.dead _ | exact AvTo.i rfl | exact AvTo.f rfl | exact AvTo.own rfl rfl rfl (by simp) | exact Free.same .listF | trace_state
  · have hm : isMk x (d .u) i = false := by assumption
    refine ⟨i + 1, by omega, by omega, ?_⟩
    rw [mkL_no hm]
    refine To.same (Nat.zero_le _) ⟨.list (fun e => e) (Nat.le_refl _) fun j hj => AvTo.i rfl, trivial⟩ ?_
    (repeat' first | exact AllTo.nil | apply AllTo.cons) <;> first | exact AvTo.dead _ | exact AvTo.i rfl | exact AvTo.i (by first | omega | (simp only [natCast_int]; omega)) | exact AvTo.f rfl | exact AvTo.b rfl | exact AvTo.v _ | exact AvTo.own rfl rfl rfl rfl | exact AvTo.own rfl rfl (by first | rfl | omega) (by first | rfl | omega) | exact Free.same .listF | exact Free.same (.fn (by simp) (by simp)) | skip
  · obtain ⟨rfl⟩ := hQ
    refine Post.eval (by cbv) ?_
    simp only [natCast_int, Post, All, thenA, canon0, canon064, and_true, true_and, forall_const, implies_true, decide_eq_true_eq, decide_eq_false_iff_not, Bool.not_eq_true', Bool.not_eq_false', Bool.true_and, Bool.and_true, beq_true, beq_false, Int.toNat_natCast, Int.ofNat_lt, Int.ofNat_le, Nat.zero_add, Nat.add_zero, imp_self, Bool.cond_false_right, Bool.cond_true_left, Bool.cond_true_right, IsF, rdF_eq, fOf, AV.f.injEq, exists_eq', free_list, free_fn0, List.not_mem_nil, List.mem_cons, false_imp, forall_eq, or_false, free_i, free_f, free_b, ren_f, ren_i, ren_b, and_self, bne_iff_ne, bne_eq_false_iff_eq, ne_eq, Int.natCast_inj, or_true, true_or, freeB_list, unfr_f, unfr_i, unfr_b, unfr_c, unfr_s, free_c, free_s, ren_c, ren_s, unfr_ro, unfr_rptr, ren_ro, free_ll, free_box, kill_f, kill_i, kill_b, kill_c, kill_s, kill_rof, kill_rot, Int.toNat_zero, isFF_ll, rowN_ll, rowX_ll, AllFree, Option.some.injEq, Prod.mk.injEq, Bool.false_eq_true, Bool.true_eq_false]
    (repeat' first | with_reducible assumption | with_reducible apply And.intro | with_reducible intro hh) <;> first | ((first | with_reducible show (_ : Int) ≤ _ | with_reducible show (_ : Int) < _ | with_reducible show (_ : Nat) ≤ _ | with_reducible show (_ : Nat) < _ | with_reducible show (_ : Int) = _ | with_reducible show (_ : Nat) = _ | with_reducible show ¬ _ | with_reducible show _ ≠ _) <;> first | omega | (simp only [Bool.and_eq_true, Bool.or_eq_false_iff, Bool.not_eq_false', Bool.not_eq_true', decide_eq_true_eq, decide_eq_false_iff_not] at *; omega) | (with_reducible assumption)) | (with_reducible assumption) | skip
    obtain rfl : i = n .u - 1 := by omega
    exact fin_ret (.inl rfl) (by cbv) (by simp) (To.same (Nat.zero_le _) ⟨.list (fun e => e) (Nat.le_refl _) fun j hj => AvTo.i rfl, trivial⟩ (.cons (.tup (.cons (.own rfl rfl rfl rfl) (.cons (.b rfl) .nil))) .nil))
/-! Marks taken away. -/
def cleanX (x : Nat → Nat) (bar n i : Nat) : Nat := bif decide (1 ≤ i) && (decide (i + 1 < n) && isMk x bar i) then halfX x i else x i
def partM (x : Nat → Nat) (L : List Nat) (k i : Nat) : Nat := bif decide (i ∈ L.take k) then halfX x i else x i
theorem partM_end {x : Nat → Nat} {bar n i : Nat} : partM x (mkL x bar (n - 1)) (mkL x bar (n - 1)).length i = cleanX x bar n i := by
  unfold partM cleanX
  rw [List.take_length]
  have h : decide (i ∈ mkL x bar (n - 1)) = (decide (1 ≤ i) && (decide (i + 1 < n) && isMk x bar i)) := by
    rw [Bool.eq_iff_iff]
    simp only [decide_eq_true_eq, Bool.and_eq_true, mkL_mem]
    constructor
    · rintro ⟨a, b, c⟩; exact ⟨a, by omega, c⟩
    · rintro ⟨a, b, c⟩; exact ⟨a, by omega, c⟩
  rw [h]
theorem partM_succ {x : Nat → Nat} {L : List Nat} {k : Nat} (hk : k < L.length) (j : Nat) : partM x L (k + 1) j = if j = L.getD k 0 then halfX x j else partM x L k j := by
  unfold partM
  have e : L.take (k + 1) = L.take k ++ [L.getD k 0] := by
    rw [List.take_add_one, List.getElem?_eq_getElem hk, List.getD_eq_getElem?_getD, List.getElem?_eq_getElem hk]
    rfl
  rw [e]
  simp only [List.mem_append, List.mem_singleton]
  by_cases h : j = L.getD k 0
  · rw [if_pos h, decide_eq_true (.inr h)]; rfl
  · rw [if_neg h]
    simp only [h, or_false]
theorem cnhP : canon .f32 1056964608 = 1056964608 := by decide +kernel
def kRemove : Kg
  | [a, .f .f32 d], [] => match asLg a with
    | some (n, g) => some (.one (.tup [.own 0 (fun _ => 0) n 1, .b fun _ => true]) [blkF true n (cleanX (rdF g) (d .u) (n .u))] fun _ => IsF n g ∧ okCosmic (n .u) (rdF g) (d .u) = true ∧ finN (n .u) (cleanX (rdF g) (d .u) (n .u)) = true)
    | none => none
  | _, _ => none
def ctRemove : CT := [(36, .g 0 kCosmic), (76, .r kClone), (69, .g 1 kGive)]
theorem ctRemove_ok : CTok Try.prog ctRemove := .cons cosmic_g (.cons clone_tells (.cons checked_g (.nil _)))
set_option maxHeartbeats 2000000 in
theorem remove_g : Tells Try.prog 37 (.g 0 kRemove) := by
  intro args Hc r hr
  unfold kRemove at hr
  split at hr <;> first | (cases hr; done) | skip
  split at hr <;> cases hr
  rename_i d _ n g hL
  refine AnsOk.one ttok Try.func37 rfl rfl (Nat.zero_le _) (allFr_tup2 .own .b) .list fun ⟨hF, hok, hfin⟩ => ⟨[listF false n (rdF g), .f .f32 d], ⟨.asLg hL hF, Sub.refl _, trivial⟩, ?_⟩
  have hn := hF.1
  generalize rdF g = x at *
  have h64 : 3 ≤ n .u ∧ n .u ≤ 64 := by
    unfold okCosmic binsN at hok
    simp only [Bool.and_eq_true, decide_eq_true_eq] at hok
    omega
  have n1 : n .u ≤ 1048576 := by omega
  have n0 : 0 < n .u := by omega
  refine AW.exec ttok ctRemove_ok (by cbv) ?_
  simp only [natCast_int, Post, All, thenA, canon0, canon064, and_true, true_and, forall_const, implies_true, decide_eq_true_eq, decide_eq_false_iff_not, Bool.not_eq_true', Bool.not_eq_false', Bool.true_and, Bool.and_true, beq_true, beq_false, Int.toNat_natCast, Int.ofNat_lt, Int.ofNat_le, Nat.zero_add, Nat.add_zero, imp_self, Bool.cond_false_right, Bool.cond_true_left, Bool.cond_true_right, IsF, rdF_eq, fOf, AV.f.injEq, exists_eq', free_list, free_fn0, List.not_mem_nil, List.mem_cons, false_imp, forall_eq, or_false, free_i, free_f, free_b, ren_f, ren_i, ren_b, and_self, bne_iff_ne, bne_eq_false_iff_eq, ne_eq, Int.natCast_inj, or_true, true_or, freeB_list, unfr_f, unfr_i, unfr_b, unfr_c, unfr_s, free_c, free_s, ren_c, ren_s, unfr_ro, unfr_rptr, ren_ro, free_ll, free_box, kill_f, kill_i, kill_b, kill_c, kill_s, kill_rof, kill_rot, Int.toNat_zero, isFF_ll, rowN_ll, rowX_ll, AllFree, Option.some.injEq, Prod.mk.injEq, Bool.false_eq_true, Bool.true_eq_false, eqL_self, heldL_mark, heldL_zero, one_neg, Nat.zero_le, Nat.not_lt_zero, one_add_len, one_le_tb, zero_le_one', not_false_eq_true, true_imp_iff, bne_self_eq_false, Bool.or_false, Bool.false_or, Bool.not_true, Bool.not_false, Bool.true_eq_false, Bool.false_eq_true, false_imp, Nat.le_refl, decide_true, decide_false, not_true_eq_false, Int.lt_irrefl, hn, hok, n1, n0]
  (repeat' first | with_reducible assumption | with_reducible apply And.intro | with_reducible intro hh) <;> first | ((first | with_reducible show (_ : Int) ≤ _ | with_reducible show (_ : Int) < _ | with_reducible show (_ : Nat) ≤ _ | with_reducible show (_ : Nat) < _ | with_reducible show (_ : Int) = _ | with_reducible show (_ : Nat) = _ | with_reducible show ¬ _ | with_reducible show _ ≠ _) <;> first | omega | (simp only [Bool.and_eq_true, Bool.or_eq_false_iff, Bool.not_eq_false', Bool.not_eq_true', decide_eq_true_eq, decide_eq_false_iff_not] at *; omega) | (with_reducible assumption)) | (with_reducible assumption) | skip
  have hlen := mkL_len (x := x) (bar := d .u) (n .u - 1)
  generalize hLL : mkL x (d .u) (n .u - 1) = L at *
  refine AW.loopH (ι := Nat) (fun k => k ≤ L.length) (fun k => L.length - k) (fun k => mkE Try.f37.ntmps [(0, listF false n x), (8, .own 1 (fun _ => 0) n 1), (21, .own 0 (fun _ => 0) (fun _ => L.length) 1), (22, .i .i64 fun _ => (L.length : Int)), (23, .i .i64 fun _ => (k : Int))])
    (fun k => [blkMk true L, blkF true n (partM x L k)]) 0 (Nat.zero_le _) ?_ ?_
  · refine To.same (Nat.zero_le _) ⟨.list (fun e => e) (Nat.le_refl _) fun j hj => AvTo.i rfl, .list (fun e => e) (Nat.le_refl _) fun j hj => AvTo.f rfl, trivial⟩ ?_
    (repeat' first | exact AllTo.nil | apply AllTo.cons) <;> first | exact AvTo.dead _ | exact AvTo.i rfl | exact AvTo.i (by first | omega | (simp only [natCast_int]; omega)) | exact AvTo.f rfl | exact AvTo.b rfl | exact AvTo.v _ | exact AvTo.own rfl rfl rfl rfl | exact AvTo.own rfl rfl (by first | rfl | omega) (by first | rfl | omega) | exact Free.same .listF | exact Free.same (.fn (by simp) (by simp)) | skip
  rintro Q' hQ k hk
  rcases Nat.lt_or_eq_of_le hk with hlt | rfl
  · have hm : 1 ≤ L.getD k 0 ∧ L.getD k 0 + 1 < n .u := by
      have h1 : L.getD k 0 ∈ L := by
        rw [List.getD_eq_getElem?_getD, List.getElem?_eq_getElem hlt]
        exact List.getElem_mem hlt
      rw [← hLL, mkL_mem] at h1
      rw [← hLL]
      omega
    have hs := fun j => partM_succ (x := x) hlt j
    refine AW.exec ttok ctRemove_ok (by cbv) ?_
    simp only [natCast_int, Post, All, thenA, canon0, canon064, and_true, true_and, forall_const, implies_true, decide_eq_true_eq, decide_eq_false_iff_not, Bool.not_eq_true', Bool.not_eq_false', Bool.true_and, Bool.and_true, beq_true, beq_false, Int.toNat_natCast, Int.ofNat_lt, Int.ofNat_le, Nat.zero_add, Nat.add_zero, imp_self, Bool.cond_false_right, Bool.cond_true_left, Bool.cond_true_right, IsF, rdF_eq, fOf, AV.f.injEq, exists_eq', free_list, free_fn0, List.not_mem_nil, List.mem_cons, false_imp, forall_eq, or_false, free_i, free_f, free_b, ren_f, ren_i, ren_b, and_self, bne_iff_ne, bne_eq_false_iff_eq, ne_eq, Int.natCast_inj, or_true, true_or, freeB_list, unfr_f, unfr_i, unfr_b, unfr_c, unfr_s, free_c, free_s, ren_c, ren_s, unfr_ro, unfr_rptr, ren_ro, free_ll, free_box, kill_f, kill_i, kill_b, kill_c, kill_s, kill_rof, kill_rot, Int.toNat_zero, isFF_ll, rowN_ll, rowX_ll, AllFree, Option.some.injEq, Prod.mk.injEq, Bool.false_eq_true, Bool.true_eq_false, eqL_self, heldL_mark, heldL_zero, one_neg, Nat.zero_le, Nat.not_lt_zero, one_add_len, one_le_tb, zero_le_one', not_false_eq_true, true_imp_iff, bne_self_eq_false, Bool.or_false, Bool.false_or, Bool.not_true, Bool.not_false, Bool.true_eq_false, Bool.false_eq_true, false_imp, Nat.le_refl, decide_true, decide_false, not_true_eq_false, Int.lt_irrefl, hn, hlt]
    generalize L.getD k 0 = i at hm hs ⊢
    have e1 : ((i : Int) - 1).toNat = i - 1 := by omega
    have e2 : ((i : Int) + 1).toNat = i + 1 := by omega
    simp only [e1, e2, cnhP]
    (repeat' first | with_reducible assumption | with_reducible apply And.intro | with_reducible intro hh) <;> first | ((first | with_reducible show (_ : Int) ≤ _ | with_reducible show (_ : Int) < _ | with_reducible show (_ : Nat) ≤ _ | with_reducible show (_ : Nat) < _ | with_reducible show (_ : Int) = _ | with_reducible show (_ : Nat) = _ | with_reducible show ¬ _ | with_reducible show _ ≠ _) <;> first | omega | (simp only [Bool.and_eq_true, Bool.or_eq_false_iff, Bool.not_eq_false', Bool.not_eq_true', decide_eq_true_eq, decide_eq_false_iff_not] at *; omega) | (with_reducible assumption)) | (with_reducible assumption) | skip
    refine ⟨k + 1, by omega, by omega, To.same (Nat.zero_le _) ⟨.list (fun e => e) (Nat.le_refl _) fun j hj => AvTo.i rfl, .list (fun e => e) (Nat.le_refl _) fun j hj => put_one (fun e => AvTo.f ?_) (fun e => AvTo.f ?_), trivial⟩ ?_⟩
    · rw [hs j, if_pos e, show j = i from e]; rfl
    · rw [hs j, if_neg e]
    · (repeat' first | exact AllTo.nil | apply AllTo.cons) <;> first | exact AvTo.dead _ | exact AvTo.i rfl | exact AvTo.i (by first | omega | (simp only [natCast_int]; omega)) | exact AvTo.f rfl | exact AvTo.b rfl | exact AvTo.v _ | exact AvTo.own rfl rfl rfl rfl | exact AvTo.own rfl rfl (by first | rfl | omega) (by first | rfl | omega) | exact Free.same .listF | exact Free.same (.fn (by simp) (by simp)) | skip
  · refine AW.seq (AW.exec ttok (CTok.nil _) (by cbv) ?_)
    simp only [natCast_int, Post, All, thenA, canon0, canon064, and_true, true_and, forall_const, implies_true, decide_eq_true_eq, decide_eq_false_iff_not, Bool.not_eq_true', Bool.not_eq_false', Bool.true_and, Bool.and_true, beq_true, beq_false, Int.toNat_natCast, Int.ofNat_lt, Int.ofNat_le, Nat.zero_add, Nat.add_zero, imp_self, Bool.cond_false_right, Bool.cond_true_left, Bool.cond_true_right, IsF, rdF_eq, fOf, AV.f.injEq, exists_eq', free_list, free_fn0, List.not_mem_nil, List.mem_cons, false_imp, forall_eq, or_false, free_i, free_f, free_b, ren_f, ren_i, ren_b, and_self, bne_iff_ne, bne_eq_false_iff_eq, ne_eq, Int.natCast_inj, or_true, true_or, freeB_list, unfr_f, unfr_i, unfr_b, unfr_c, unfr_s, free_c, free_s, ren_c, ren_s, unfr_ro, unfr_rptr, ren_ro, free_ll, free_box, kill_f, kill_i, kill_b, kill_c, kill_s, kill_rof, kill_rot, Int.toNat_zero, isFF_ll, rowN_ll, rowX_ll, AllFree, Option.some.injEq, Prod.mk.injEq, Bool.false_eq_true, Bool.true_eq_false]
    refine AW.seq (AW.cond rfl (fun h => absurd (of_decide_eq_true h) (Nat.lt_irrefl _)) fun _ => AW.exit ?_)
    simp only [thenA]
    obtain ⟨rfl⟩ := hQ
    refine Post.eval (by cbv) ?_
    have hc : ∀ j, j < n .u → partM x L L.length j = cleanX x (d .u) (n .u) j := fun j _ => by rw [← hLL]; exact partM_end
    have hfin' : finN (n .u) (fun j => partM x L L.length j) = true := by rw [finN_congr hc]; exact hfin
    simp only [natCast_int, Post, All, thenA, canon0, canon064, and_true, true_and, forall_const, implies_true, decide_eq_true_eq, decide_eq_false_iff_not, Bool.not_eq_true', Bool.not_eq_false', Bool.true_and, Bool.and_true, beq_true, beq_false, Int.toNat_natCast, Int.ofNat_lt, Int.ofNat_le, Nat.zero_add, Nat.add_zero, imp_self, Bool.cond_false_right, Bool.cond_true_left, Bool.cond_true_right, IsF, rdF_eq, fOf, AV.f.injEq, exists_eq', free_list, free_fn0, List.not_mem_nil, List.mem_cons, false_imp, forall_eq, or_false, free_i, free_f, free_b, ren_f, ren_i, ren_b, and_self, bne_iff_ne, bne_eq_false_iff_eq, ne_eq, Int.natCast_inj, or_true, true_or, freeB_list, unfr_f, unfr_i, unfr_b, unfr_c, unfr_s, free_c, free_s, ren_c, ren_s, unfr_ro, unfr_rptr, ren_ro, free_ll, free_box, kill_f, kill_i, kill_b, kill_c, kill_s, kill_rof, kill_rot, Int.toNat_zero, isFF_ll, rowN_ll, rowX_ll, AllFree, Option.some.injEq, Prod.mk.injEq, Bool.false_eq_true, Bool.true_eq_false, eqL_self, heldL_mark, heldL_zero, one_neg, Nat.zero_le, Nat.not_lt_zero, one_add_len, one_le_tb, zero_le_one', not_false_eq_true, true_imp_iff, bne_self_eq_false, Bool.or_false, Bool.false_or, Bool.not_true, Bool.not_false, Bool.true_eq_false, Bool.false_eq_true, false_imp, Nat.le_refl, decide_true, decide_false, not_true_eq_false, Int.lt_irrefl, hn, hfin']
    (repeat' first | with_reducible assumption | with_reducible apply And.intro | with_reducible intro hh) <;> first | ((first | with_reducible show (_ : Int) ≤ _ | with_reducible show (_ : Int) < _ | with_reducible show (_ : Nat) ≤ _ | with_reducible show (_ : Nat) < _ | with_reducible show (_ : Int) = _ | with_reducible show (_ : Nat) = _ | with_reducible show ¬ _ | with_reducible show _ ≠ _) <;> first | omega | (simp only [Bool.and_eq_true, Bool.or_eq_false_iff, Bool.not_eq_false', Bool.not_eq_true', decide_eq_true_eq, decide_eq_false_iff_not] at *; omega) | (with_reducible assumption)) | (with_reducible assumption) | skip
    refine fin_ret (.inl rfl) (by cbv) (by simp) (To.moved (k := 1) rfl (Nat.le_refl _) (fun e => e) (fun j hj => AvTo.f (hc j hj)) (.cons (.tup (.cons (.own rfl rfl rfl rfl) (.cons (.b rfl) .nil))) .nil))
end Go.Proofs.Ytfdmmbcjidkmoaa
