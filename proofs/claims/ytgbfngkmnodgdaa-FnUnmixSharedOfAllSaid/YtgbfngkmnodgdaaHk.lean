/- Shares made better, once: both sides. -/
import Derived.Test.YtgbfngkmnodgdaaHj
import Derived.Test.YtgbfngkmnodgdaaFg
set_option linter.unusedSimpArgs false
set_option linter.unusedVariables false
namespace Go.Proofs.Ytgbfngkmnodgdaa
open Go.Aw
def aboveN (a f mix : Nat → Nat) : Nat → Nat
  | 0 => 0
  | k + 1 => fadd .f32 (aboveN a f mix k) (fmul .f32 (f k) (fsub .f32 (a k) (mix k)))
def shareV (n L : Nat) (a : Nat → Nat) (x : Nat → Nat → Nat) (s : Nat → Nat) (f : Nat) : Nat := fadd .f32 (s f) (fdiv .f32 (aboveN a (x f) (mixX n x s) L) (dotN (x f) (x f) L))
def shareX (n L : Nat) (a : Nat → Nat) (x : Nat → Nat → Nat) (s : Nat → Nat) (f : Nat) : Nat := bif flt .f32 (shareV n L a x s f) 0 then 0 else shareV n L a x s f
def stepS (n L : Nat) (a : Nat → Nat) (x : Nat → Nat → Nat) (s : Nat → Nat) (f : Nat) (j : Nat) : Nat := bif decide (j = f) then shareX n L a x s f else s j
def stepOK (n : Nat) (m : Nat → Nat) (a : Nat → Nat) (x : Nat → Nat → Nat) (s : Nat → Nat) (f : Nat) : Bool := okMix n m x n s && (fgt .f32 (dotN (x f) (x f) (m 0)) 0 && isFin (shareX n (m 0) a x s f))
def onceS (n L : Nat) (a : Nat → Nat) (x : Nat → Nat → Nat) (s : Nat → Nat) : Nat → Nat → Nat
  | 0 => s
  | f + 1 => stepS n L a x (onceS n L a x s f) f
def onceB (n : Nat) (m : Nat → Nat) (a : Nat → Nat) (x : Nat → Nat → Nat) (s : Nat → Nat) : Nat → Bool
  | 0 => true
  | f + 1 => onceB n m a x s f && stepOK n m a x (onceS n (m 0) a x s f) f
theorem onceB_stop {n : Nat} {m : Nat → Nat} {a : Nat → Nat} {x : Nat → Nat → Nat} {s : Nat → Nat} {i : Nat} (h : stepOK n m a x (onceS n (m 0) a x s i) i = false) : ∀ {k : Nat}, i < k → onceB n m a x s k = false := by
  intro k
  induction k with
  | zero => intro h'; omega
  | succ k ih =>
    intro h'
    simp only [onceB]
    rcases Nat.lt_or_ge i k with h1 | h1
    · rw [ih h1, Bool.false_and]
    · have : i = k := by omega
      subst this
      rw [h, Bool.and_false]
def canU (n : Nat) (m : Nat → Nat) (x : Nat → Nat → Nat) (na : Nat) (a : Nat → Nat) : Bool := areS n m x && (decide (n ≤ 6) && isTwo na a (m 0) (x 0))
def preU (n : Nat) (m : Nat → Nat) (x : Nat → Nat → Nat) (na : Nat) (a : Nat → Nat) (l : Nat) (s : Nat → Nat) : Bool := canU n m x na a && (decide (l = n) && rotN l s)
def okU (n : Nat) (m : Nat → Nat) (x : Nat → Nat → Nat) (na : Nat) (a : Nat → Nat) (l : Nat) (s : Nat → Nat) : Bool := preU n m x na a l s && onceB n m a x s n
theorem shareX_lo {n L : Nat} {a : Nat → Nat} {x : Nat → Nat → Nat} {s : Nat → Nat} {f : Nat} (h : flt .f32 (shareV n L a x s f) 0 = true) : shareX n L a x s f = 0 := by simp only [shareX, h, cond_true]
theorem shareX_hi {n L : Nat} {a : Nat → Nat} {x : Nat → Nat → Nat} {s : Nat → Nat} {f : Nat} (h : flt .f32 (shareV n L a x s f) 0 = false) : shareX n L a x s f = shareV n L a x s f := by simp only [shareX, h, cond_false]
theorem onceS_at {n L : Nat} {a : Nat → Nat} {x : Nat → Nat → Nat} {s : Nat → Nat} {f : Nat} : onceS n L a x s (f + 1) f = shareX n L a x (onceS n L a x s f) f := by simp only [onceS, stepS, decide_true, cond_true]
theorem onceS_off {n L : Nat} {a : Nat → Nat} {x : Nat → Nat → Nat} {s : Nat → Nat} {f j : Nat} (h : j ≠ f) : onceS n L a x s (f + 1) j = onceS n L a x s f j := by simp only [onceS, stepS, decide_eq_false h, cond_false]
theorem canU_facts {n : Nat} {m : Nat → Nat} {x : Nat → Nat → Nat} {na : Nat} {a : Nat → Nat} (h : canU n m x na a = true) : areS n m x = true ∧ n ≤ 6 ∧ na = m 0 := by
  simp only [canU, isTwo, Bool.and_eq_true, decide_eq_true_eq] at h
  exact ⟨h.1, h.2.1, h.2.2.2.2⟩
def kCan : Kr
  | [a, b] => match asL a, asLL b with
    | some (na, ga), some (n, g) => some (.b fun _ => canU (n .u) (rowN g) (rowX g) (na .u) (rdF ga), [], fun _ => IsF na ga ∧ IsFF n g)
    | _, _ => none
  | _ => none
def ctCan : CT := [(36, .r kAre), (37, .r kTwo)]
theorem ctCan_ok : CTok Try.prog ctCan := .cons l07Spectra_tells (.cons l07Two_tells (.nil _))
theorem six_dec (n : Nat) : decide ((n : Int) ≤ 6) = decide (n ≤ 6) := decide_eq_decide.2 (by omega)
theorem l07Can_tells : Tells Try.prog 77 (.r kCan) := by
  intro args r H' p hr hp
  unfold kCan at hr
  split at hr <;> first | (cases hr; done) | skip
  split at hr <;> cases hr
  rename_i na ga n g hL hL'
  obtain ⟨hF, hF'⟩ := hp
  refine ⟨.b, .nil, Con.pre (args' := [listF false na (rdF ga), listFF false n (rowN g) (rowX g)]) ⟨.asL hL hF, .asLL hL' hF', trivial⟩ ?_⟩
  have hna := hF.1
  have hn := hF'.1
  have hm := fun i => hF'.row (i := i)
  generalize rowN g = m at *
  generalize rowX g = x at *
  generalize rdF ga = a at *
  have a1 := eq_true hm
  refine Con.of ttok Try.func77 rfl rfl (Nat.zero_le _) (AW.exec ttok ctCan_ok (by cbv) ?_)
  simp only [natCast_int, Post, All, thenA, canon0, canon064, and_true, true_and, forall_const, implies_true, decide_eq_true_eq, decide_eq_false_iff_not, Bool.not_eq_true', Bool.not_eq_false', Bool.true_and, Bool.and_true, beq_true, beq_false, Int.toNat_natCast, Int.ofNat_lt, Int.ofNat_le, Nat.zero_add, Nat.add_zero, imp_self, Bool.cond_false_right, Bool.cond_true_left, Bool.cond_true_right, IsF, rdF_eq, fOf, AV.f.injEq, exists_eq', free_list, free_fn0, List.not_mem_nil, List.mem_cons, false_imp, forall_eq, or_false, free_i, free_f, free_b, ren_f, ren_i, ren_b, and_self, bne_iff_ne, bne_eq_false_iff_eq, ne_eq, Int.natCast_inj, or_true, true_or, freeB_list, unfr_f, unfr_i, unfr_b, unfr_c, unfr_s, free_c, free_s, ren_c, ren_s, unfr_ro, unfr_rptr, ren_ro, free_ll, free_box, kill_f, kill_i, kill_b, kill_c, kill_s, kill_rof, kill_rot, Int.toNat_zero, isFF_ll, rowN_ll, rowX_ll, AllFree, Option.some.injEq, Prod.mk.injEq, Bool.false_eq_true, Bool.true_eq_false, hn, hna, a1, six_dec]
  (repeat' first | with_reducible assumption | with_reducible apply And.intro | with_reducible intro hh) <;> first | ((first | with_reducible show (_ : Int) ≤ _ | with_reducible show (_ : Int) < _ | with_reducible show (_ : Nat) ≤ _ | with_reducible show (_ : Nat) < _ | with_reducible show (_ : Int) = _ | with_reducible show (_ : Nat) = _ | with_reducible show ¬ _ | with_reducible show _ ≠ _) <;> first | omega | (simp only [Bool.and_eq_true, Bool.or_eq_false_iff, Bool.not_eq_false', Bool.not_eq_true', decide_eq_true_eq, decide_eq_false_iff_not] at *; omega) | (with_reducible assumption)) | (with_reducible assumption) | skip
  all_goals try (
    have hc : (areS (n .u) m x && decide (n .u ≤ 6)) = true := by assumption
    simp only [Bool.and_eq_true] at hc
    have h1 := areS_facts hc.1
    have h2 := hm 0 (by omega)
    omega)
  refine fin_ret (.inl rfl) (by cbv) (by simp) (To.fresh (.cons (.b ?_) .nil))
  simp only [canU, Bool.and_assoc]
theorem one_none {env env' : List AV} {H0 : Heap} (h : AllTo H0 [none] [0] true env env') : To 1 env H0 env' [none] :=
  ⟨[0], ⟨fun j fr B hj => by
    match j, hj with
    | 0, hj => simp at hj
    | j + 1, hj => simp at hj, fun j j' id l1 l2 _ _ => by
    match j, l1 with
    | 0, l1 => simp [live] at l1
    | j + 1, l1 => simp [live] at l1⟩, h, Nat.le_refl _, fun j hj hl => by
    match j, hl with
    | 0, hl => simp [live] at hl
    | j + 1, hl => simp [live] at hl⟩
theorem frH_none : FrH [none] := .cons (fun fr B e => by cases e) .nil
theorem isFin0 : isFin 0 = true := by decide
def kOnce : Kg
  | [la, lb, .own 0 i l 1], [some (_, .tab k 1 h)] => match asLg la, asLLg lb with
    | some (na, ga), some (n, g) => some (.two (fun _ => onceB (n .u) (rowN g) (rdF ga) (rowX g) (rdF h) (n .u))
        (.one (.b fun _ => true) [blkF false k (onceS (n .u) (rowN g 0) (rdF ga) (rowX g) (rdF h) (n .u))] fun _ => ((IsF na ga ∧ IsFFg n g) ∧ IsF k h) ∧ i .u = 0 ∧ l .u = k .u ∧ k .u = n .u ∧ canU (n .u) (rowN g) (rowX g) (na .u) (rdF ga) = true)
        (.one (.b fun _ => false) [none] fun _ => ((IsF na ga ∧ IsFFg n g) ∧ IsF k h) ∧ i .u = 0 ∧ l .u = k .u ∧ k .u = n .u ∧ canU (n .u) (rowN g) (rowX g) (na .u) (rdF ga) = true))
    | _, _ => none
  | _, _ => none
def ctOnce : CT := [(79, .g 0 kMix), (69, .r kDot), (101, .r kFin)]
theorem ctOnce_ok : CTok Try.prog ctOnce := .cons specMix (.cons l05Product_tells (.cons l01Finite_tells (.nil _)))
set_option maxHeartbeats 4000000 in
theorem l07Once_g : Tells Try.prog 78 (.g 3 kOnce) := by
  intro args Hc r hr
  unfold kOnce at hr
  split at hr <;> first | (cases hr; done) | skip
  split at hr <;> cases hr
  rename_i la lb i l fr k h _ _ na ga n g hL hL'
  refine AnsOk.two ttok Try.func78 rfl rfl (Nat.le_refl _) (Nat.le_refl _) .b .b .list frH_none fun ⟨⟨⟨hF, hF'⟩, hK⟩, hi, hl, hk, hc⟩ => ⟨[listF false na (rdF ga), listFF false n (rowN g) (rowX g), .own 0 (fun _ => 0) k 1], ⟨.asLg hL hF, Sub.asLLg hL' hF', (own_sub hi hl).1, trivial⟩, AW.toG hK (env' := mkE Try.f78.ntmps [(0, listF false na (rdF ga)), (1, listFF false n (rowN g) (rowX g)), (2, .own 0 (fun _ => 0) k 1)]) ?_ ?_⟩
  · (repeat' first | exact AllTo.nil | apply AllTo.cons) <;> first | exact AvTo.dead _ | exact AvTo.own rfl rfl rfl rfl | exact Free.same (free_ll.2 trivial) | exact Free.same .listF
  have hna := hF.1
  have hn := hF'.1
  have hkn := hK.1
  have hm := fun i => hF'.row (i := i)
  generalize rowN g = m at *
  generalize rowX g = x at *
  generalize rdF ga = a at *
  generalize rdF h = s at *
  obtain ⟨h0, hn6, hnm⟩ := canU_facts hc
  have h1 := areS_facts h0
  have a1 := eq_true hm
  have h2 := hm 0 (by omega)
  refine AW.exec ttok ctOnce_ok (by cbv) ?_
  simp only [natCast_int, Post, All, thenA, canon0, canon064, and_true, true_and, forall_const, implies_true, decide_eq_true_eq, decide_eq_false_iff_not, Bool.not_eq_true', Bool.not_eq_false', Bool.true_and, Bool.and_true, beq_true, beq_false, Int.toNat_natCast, Int.ofNat_lt, Int.ofNat_le, Nat.zero_add, Nat.add_zero, imp_self, Bool.cond_false_right, Bool.cond_true_left, Bool.cond_true_right, IsF, rdF_eq, fOf, AV.f.injEq, exists_eq', free_list, free_fn0, List.not_mem_nil, List.mem_cons, false_imp, forall_eq, or_false, free_i, free_f, free_b, ren_f, ren_i, ren_b, and_self, bne_iff_ne, bne_eq_false_iff_eq, ne_eq, Int.natCast_inj, or_true, true_or, freeB_list, unfr_f, unfr_i, unfr_b, unfr_c, unfr_s, free_c, free_s, ren_c, ren_s, unfr_ro, unfr_rptr, ren_ro, free_ll, free_box, kill_f, kill_i, kill_b, kill_c, kill_s, kill_rof, kill_rot, Int.toNat_zero, isFF_ll, rowN_ll, rowX_ll, AllFree, Option.some.injEq, Prod.mk.injEq, Bool.false_eq_true, Bool.true_eq_false, hn, hna]
  (repeat' first | with_reducible assumption | with_reducible apply And.intro | with_reducible intro hh) <;> first | ((first | with_reducible show (_ : Int) ≤ _ | with_reducible show (_ : Int) < _ | with_reducible show (_ : Nat) ≤ _ | with_reducible show (_ : Nat) < _ | with_reducible show (_ : Int) = _ | with_reducible show (_ : Nat) = _ | with_reducible show ¬ _ | with_reducible show _ ≠ _) <;> first | omega | (simp only [Bool.and_eq_true, Bool.or_eq_false_iff, Bool.not_eq_false', Bool.not_eq_true', decide_eq_true_eq, decide_eq_false_iff_not] at *; omega) | (with_reducible assumption)) | (with_reducible assumption) | skip
  refine AW.loopH (ι := Nat) (fun i => i ≤ n .u ∧ onceB (n .u) m a x s i = true) (fun i => n .u - i) (fun i => mkE Try.f78.ntmps [(0, listF false na a), (1, listFF false n m x), (2, .own 0 (fun _ => 0) k 1), (15, .i .i64 fun _ => (n .u : Int)), (16, .i .i64 fun _ => (i : Int))])
    (fun i => [blkF false k (onceS (n .u) (m 0) a x s i)]) 0 ⟨Nat.zero_le _, rfl⟩ (To.list (Nat.le_refl _) (Nat.le_refl _) (fun e => e) (fun j hj => AvTo.f rfl) ?_) ?_
  · (repeat' first | exact AllTo.nil | apply AllTo.cons) <;> first | exact AvTo.dead _ | exact AvTo.i rfl | exact AvTo.own rfl rfl rfl rfl | exact Free.same (free_ll.2 trivial) | exact Free.same .listF
  · rintro Q' hQ i ⟨hi, hB⟩
    have hmi := h1.2.2.2.2 i
    refine AW.exec ttok ctOnce_ok (by cbv) ?_
    simp only [natCast_int, Post, All, thenA, canon0, canon064, and_true, true_and, forall_const, implies_true, decide_eq_true_eq, decide_eq_false_iff_not, Bool.not_eq_true', Bool.not_eq_false', Bool.true_and, Bool.and_true, beq_true, beq_false, Int.toNat_natCast, Int.ofNat_lt, Int.ofNat_le, Nat.zero_add, Nat.add_zero, imp_self, Bool.cond_false_right, Bool.cond_true_left, Bool.cond_true_right, IsF, rdF_eq, fOf, AV.f.injEq, exists_eq', free_list, free_fn0, List.not_mem_nil, List.mem_cons, false_imp, forall_eq, or_false, free_i, free_f, free_b, ren_f, ren_i, ren_b, and_self, bne_iff_ne, bne_eq_false_iff_eq, ne_eq, Int.natCast_inj, or_true, true_or, freeB_list, unfr_f, unfr_i, unfr_b, unfr_c, unfr_s, free_c, free_s, ren_c, ren_s, unfr_ro, unfr_rptr, ren_ro, free_ll, free_box, kill_f, kill_i, kill_b, kill_c, kill_s, kill_rof, kill_rot, Int.toNat_zero, isFF_ll, rowN_ll, rowX_ll, AllFree, Option.some.injEq, Prod.mk.injEq, Bool.false_eq_true, Bool.true_eq_false, hn, hna, hkn, isFFg_ll, a1, hk, Bool.not_true, Bool.not_false, Bool.true_or, Bool.false_or, Bool.true_eq_false, Bool.false_eq_true]
    (repeat' first | with_reducible assumption | with_reducible apply And.intro | with_reducible intro hh) <;> first | ((first | with_reducible show (_ : Int) ≤ _ | with_reducible show (_ : Int) < _ | with_reducible show (_ : Nat) ≤ _ | with_reducible show (_ : Nat) < _ | with_reducible show (_ : Int) = _ | with_reducible show (_ : Nat) = _ | with_reducible show ¬ _ | with_reducible show _ ≠ _) <;> first | omega | (simp only [Bool.and_eq_true, Bool.or_eq_false_iff, Bool.not_eq_false', Bool.not_eq_true', decide_eq_true_eq, decide_eq_false_iff_not] at *; omega) | (with_reducible assumption)) | (with_reducible assumption) | skip
    · have hlt : i < n .u := by assumption
      obtain ⟨rfl⟩ := hQ
      refine Post.leaf (by cbv) (okA.no (onceB_stop (i := i) ?_ hlt) (fin_ret (.inl rfl) (by cbv) (by simp) (one_none (.cons (.b rfl) .nil))))
      have hg : fgt .f32 (dotN (x i) (x i) (m i)) 0 = false := by assumption
      rw [(hmi hlt).1] at hg
      simp only [stepOK, hg, Bool.false_and, Bool.and_false]
    · have hlt : i < n .u := by assumption
      have hm0 := (hmi hlt).1
      have hg : fgt .f32 (dotN (x i) (x i) (m i)) 0 = true := by assumption
      have hM : okMix (n .u) m x (n .u) (onceS (n .u) (m 0) a x s i) = true := by assumption
      refine AW.loopH (ι := Nat) (fun q => q ≤ na .u) (fun q => na .u - q) (fun q => mkE Try.f78.ntmps [(0, listF false na a), (1, listFF false n m x), (2, .own 0 (fun _ => 0) k 1), (7, .i .i64 fun _ => (i : Int)), (8, .own 1 (fun _ => 0) (fun _ => m 0) 1), (10, .f .f32 fun _ => dotN (x i) (x i) (m i)), (11, .f .f32 fun _ => aboveN a (x i) (mixX (n .u) x (onceS (n .u) (m 0) a x s i)) q), (15, .i .i64 fun _ => (n .u : Int)), (16, .i .i64 fun _ => (i : Int)), (42, .i .i64 fun _ => (na .u : Int)), (43, .i .i64 fun _ => (q : Int))])
        (fun q => [blkF false k (onceS (n .u) (m 0) a x s i), blkF true (fun _ => m 0) (mixX (n .u) x (onceS (n .u) (m 0) a x s i))]) 0 (Nat.zero_le _) (To.same (by simp) ⟨EntTo.list (fun e => e) (Nat.le_refl _) (fun j hj => AvTo.f rfl), EntTo.list (fun e => e) (Nat.le_refl _) (fun j hj => AvTo.f rfl), trivial⟩ ?_) ?_
      · (repeat' first | exact AllTo.nil | apply AllTo.cons) <;> first | exact AvTo.dead _ | exact AvTo.i rfl | exact AvTo.i (by simp only [natCast_int]; omega) | exact AvTo.f rfl | exact AvTo.own rfl rfl rfl rfl | exact Free.same (free_ll.2 trivial) | exact Free.same .listF
      · rintro Q2 hQ2 q hq
        refine AW.exec ttok ctOnce_ok (by cbv) ?_
        simp only [natCast_int, Post, All, thenA, canon0, canon064, and_true, true_and, forall_const, implies_true, decide_eq_true_eq, decide_eq_false_iff_not, Bool.not_eq_true', Bool.not_eq_false', Bool.true_and, Bool.and_true, beq_true, beq_false, Int.toNat_natCast, Int.ofNat_lt, Int.ofNat_le, Nat.zero_add, Nat.add_zero, imp_self, Bool.cond_false_right, Bool.cond_true_left, Bool.cond_true_right, IsF, rdF_eq, fOf, AV.f.injEq, exists_eq', free_list, free_fn0, List.not_mem_nil, List.mem_cons, false_imp, forall_eq, or_false, free_i, free_f, free_b, ren_f, ren_i, ren_b, and_self, bne_iff_ne, bne_eq_false_iff_eq, ne_eq, Int.natCast_inj, or_true, true_or, freeB_list, unfr_f, unfr_i, unfr_b, unfr_c, unfr_s, free_c, free_s, ren_c, ren_s, unfr_ro, unfr_rptr, ren_ro, free_ll, free_box, kill_f, kill_i, kill_b, kill_c, kill_s, kill_rof, kill_rot, Int.toNat_zero, isFF_ll, rowN_ll, rowX_ll, AllFree, Option.some.injEq, Prod.mk.injEq, Bool.false_eq_true, Bool.true_eq_false, hn, hna, hkn]
        (repeat' first | with_reducible assumption | with_reducible apply And.intro | with_reducible intro hh) <;> first | ((first | with_reducible show (_ : Int) ≤ _ | with_reducible show (_ : Int) < _ | with_reducible show (_ : Nat) ≤ _ | with_reducible show (_ : Nat) < _ | with_reducible show (_ : Int) = _ | with_reducible show (_ : Nat) = _ | with_reducible show ¬ _ | with_reducible show _ ≠ _) <;> first | omega | (simp only [Bool.and_eq_true, Bool.or_eq_false_iff, Bool.not_eq_false', Bool.not_eq_true', decide_eq_true_eq, decide_eq_false_iff_not] at *; omega) | (with_reducible assumption)) | (with_reducible assumption) | skip
        · refine ⟨q + 1, by omega, by omega, To.same (by simp) ⟨EntTo.list (fun e => e) (Nat.le_refl _) (fun j hj => AvTo.f rfl), EntTo.list (fun e => e) (Nat.le_refl _) (fun j hj => AvTo.f rfl), trivial⟩ ?_⟩
          (repeat' first | exact AllTo.nil | apply AllTo.cons) <;> first | exact AvTo.dead _ | exact AvTo.i rfl | exact AvTo.i (by simp only [natCast_int]; omega) | exact AvTo.f rfl | exact AvTo.own rfl rfl rfl rfl | exact Free.same (free_ll.2 trivial) | exact Free.same .listF
        · obtain ⟨rfl⟩ := hQ2
          refine Post.eval (by cbv) ?_
          have e : q = na .u := by omega
          simp only [natCast_int, Post, All, thenA, canon0, canon064, and_true, true_and, forall_const, implies_true, decide_eq_true_eq, decide_eq_false_iff_not, Bool.not_eq_true', Bool.not_eq_false', Bool.true_and, Bool.and_true, beq_true, beq_false, Int.toNat_natCast, Int.ofNat_lt, Int.ofNat_le, Nat.zero_add, Nat.add_zero, imp_self, Bool.cond_false_right, Bool.cond_true_left, Bool.cond_true_right, IsF, rdF_eq, fOf, AV.f.injEq, exists_eq', free_list, free_fn0, List.not_mem_nil, List.mem_cons, false_imp, forall_eq, or_false, free_i, free_f, free_b, ren_f, ren_i, ren_b, and_self, bne_iff_ne, bne_eq_false_iff_eq, ne_eq, Int.natCast_inj, or_true, true_or, freeB_list, unfr_f, unfr_i, unfr_b, unfr_c, unfr_s, free_c, free_s, ren_c, ren_s, unfr_ro, unfr_rptr, ren_ro, free_ll, free_box, kill_f, kill_i, kill_b, kill_c, kill_s, kill_rof, kill_rot, Int.toNat_zero, isFF_ll, rowN_ll, rowX_ll, AllFree, Option.some.injEq, Prod.mk.injEq, Bool.false_eq_true, Bool.true_eq_false, hn, hna, hkn, e, hnm, hm0, isFin0, Bool.not_true, Bool.not_false, Bool.true_eq_false, Bool.false_eq_true]
          (repeat' first | with_reducible assumption | with_reducible apply And.intro | with_reducible intro hh) <;> first | ((first | with_reducible show (_ : Int) ≤ _ | with_reducible show (_ : Int) < _ | with_reducible show (_ : Nat) ≤ _ | with_reducible show (_ : Nat) < _ | with_reducible show (_ : Int) = _ | with_reducible show (_ : Nat) = _ | with_reducible show ¬ _ | with_reducible show _ ≠ _) <;> first | omega | (simp only [Bool.and_eq_true, Bool.or_eq_false_iff, Bool.not_eq_false', Bool.not_eq_true', decide_eq_true_eq, decide_eq_false_iff_not] at *; omega) | (with_reducible assumption)) | (with_reducible assumption) | skip
          all_goals have hg' : fgt .f32 (dotN (x i) (x i) (m 0)) 0 = true := hm0 ▸ hg
          · have hx : shareX (n .u) (m 0) a x (onceS (n .u) (m 0) a x s i) i = 0 := shareX_lo (by assumption)
            refine ⟨i + 1, ⟨by omega, by simp only [onceB, hB, stepOK, hM, hg', hx, isFin0, Bool.and_self]⟩, by omega, To.same (Nat.le_refl _) ⟨EntTo.list (fun e => e) (Nat.le_refl _) (fun j hj => put_one (fun e => AvTo.f (show 0 = onceS (n .u) (m 0) a x s (i + 1) j by rw [show j = i from e, onceS_at, hx])) (fun e => AvTo.f (onceS_off e).symm)), trivial⟩ ?_⟩
            (repeat' first | exact AllTo.nil | apply AllTo.cons) <;> first | exact AvTo.dead _ | exact AvTo.i rfl | exact AvTo.i (by simp only [natCast_int]; omega) | exact AvTo.f rfl | exact AvTo.own rfl rfl rfl rfl | exact Free.same (free_ll.2 trivial) | exact Free.same .listF
          · have hx : shareX (n .u) (m 0) a x (onceS (n .u) (m 0) a x s i) i = shareV (n .u) (m 0) a x (onceS (n .u) (m 0) a x s i) i := shareX_hi (by assumption)
            have hf : isFin (shareV (n .u) (m 0) a x (onceS (n .u) (m 0) a x s i) i) = false := by assumption
            obtain ⟨rfl⟩ := hQ
            refine Post.leaf (by cbv) (okA.no (onceB_stop (i := i) ?_ hlt) (fin_ret (.inl rfl) (by cbv) (by simp) (one_none (.cons (.b rfl) .nil))))
            simp only [stepOK, hx, hf, Bool.and_false]
          · have hx : shareX (n .u) (m 0) a x (onceS (n .u) (m 0) a x s i) i = shareV (n .u) (m 0) a x (onceS (n .u) (m 0) a x s i) i := shareX_hi (by assumption)
            have hf : isFin (shareV (n .u) (m 0) a x (onceS (n .u) (m 0) a x s i) i) = true := by assumption
            refine ⟨i + 1, ⟨by omega, by simp only [onceB, hB, stepOK, hM, hg', hx, hf, Bool.and_self]⟩, by omega, To.same (Nat.le_refl _) ⟨EntTo.list (fun e => e) (Nat.le_refl _) (fun j hj => put_one (fun e => AvTo.f (show shareV (n .u) (m 0) a x (onceS (n .u) (m 0) a x s i) i = onceS (n .u) (m 0) a x s (i + 1) j by rw [show j = i from e, onceS_at, hx])) (fun e => AvTo.f (onceS_off e).symm)), trivial⟩ ?_⟩
            (repeat' first | exact AllTo.nil | apply AllTo.cons) <;> first | exact AvTo.dead _ | exact AvTo.i rfl | exact AvTo.i (by simp only [natCast_int]; omega) | exact AvTo.f rfl | exact AvTo.own rfl rfl rfl rfl | exact Free.same (free_ll.2 trivial) | exact Free.same .listF
    · have hlt : i < n .u := by assumption
      obtain ⟨rfl⟩ := hQ
      refine Post.leaf (by cbv) (okA.no (onceB_stop (i := i) ?_ hlt) (fin_ret (.inl rfl) (by cbv) (by simp) (one_none (.cons (.b rfl) .nil))))
      have hM : okMix (n .u) m x (n .u) (onceS (n .u) (m 0) a x s i) = false := by assumption
      simp only [stepOK, hM, Bool.false_and]
    · obtain ⟨rfl⟩ := hQ
      refine Post.eval (by cbv) ?_
      have e : i = n .u := by omega
      simp only [natCast_int, Post, All, thenA, canon0, canon064, and_true, true_and, forall_const, implies_true, decide_eq_true_eq, decide_eq_false_iff_not, Bool.not_eq_true', Bool.not_eq_false', Bool.true_and, Bool.and_true, beq_true, beq_false, Int.toNat_natCast, Int.ofNat_lt, Int.ofNat_le, Nat.zero_add, Nat.add_zero, imp_self, Bool.cond_false_right, Bool.cond_true_left, Bool.cond_true_right, IsF, rdF_eq, fOf, AV.f.injEq, exists_eq', free_list, free_fn0, List.not_mem_nil, List.mem_cons, false_imp, forall_eq, or_false, free_i, free_f, free_b, ren_f, ren_i, ren_b, and_self, bne_iff_ne, bne_eq_false_iff_eq, ne_eq, Int.natCast_inj, or_true, true_or, freeB_list, unfr_f, unfr_i, unfr_b, unfr_c, unfr_s, free_c, free_s, ren_c, ren_s, unfr_ro, unfr_rptr, ren_ro, free_ll, free_box, kill_f, kill_i, kill_b, kill_c, kill_s, kill_rof, kill_rot, Int.toNat_zero, isFF_ll, rowN_ll, rowX_ll, AllFree, Option.some.injEq, Prod.mk.injEq, Bool.false_eq_true, Bool.true_eq_false, e]
      have hB' : onceB (n .u) m a x s (n .u) = true := by
        have h3 := hB
        rw [e] at h3
        exact h3
      refine okA.yes hB' (fin_ret (.inl rfl) (by cbv) (by simp) (To.list (Nat.le_refl _) (Nat.le_refl _) (fun e => e) (fun j hj => AvTo.f rfl) (.cons (.b rfl) .nil)))
end Go.Proofs.Ytgbfngkmnodgdaa
