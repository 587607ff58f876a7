/- Mixtures unmixed: both sides. -/
import Derived.Test.YtgbfngkmnodgdaaHl
set_option linter.unusedSimpArgs false
set_option linter.unusedVariables false
namespace Go.Proofs.Ytgbfngkmnodgdaa
open Go.Aw
/-- The shares behind so many rounds. -/
def unS (n L : Nat) (a : Nat → Nat) (x : Nat → Nat → Nat) : Nat → Nat → Nat
  | 0 => fun _ => 0
  | r + 1 => onceS n L a x (unS n L a x r) n
def unB (n : Nat) (m : Nat → Nat) (a : Nat → Nat) (x : Nat → Nat → Nat) : Nat → Bool
  | 0 => true
  | r + 1 => unB n m a x r && onceB n m a x (unS n (m 0) a x r) n
theorem unB_stop {n : Nat} {m : Nat → Nat} {a : Nat → Nat} {x : Nat → Nat → Nat} {i : Nat} (h : onceB n m a x (unS n (m 0) a x i) n = false) : ∀ {k : Nat}, i < k → unB n m a x k = false := by
  intro k
  induction k with
  | zero => intro h'; omega
  | succ k ih =>
    intro h'
    simp only [unB]
    rcases Nat.lt_or_ge i k with h1 | h1
    · rw [ih h1, Bool.false_and]
    · have : i = k := by omega
      subst this
      rw [h, Bool.and_false]
theorem flt00 : flt .f32 0 0 = false := by decide
theorem shareX_nonneg {n L : Nat} {a : Nat → Nat} {x : Nat → Nat → Nat} {s : Nat → Nat} {f : Nat} : flt .f32 (shareX n L a x s f) 0 = false := by
  cases h : flt .f32 (shareV n L a x s f) 0 with
  | true => rw [shareX_lo h]; exact flt00
  | false => rw [shareX_hi h]; exact h
theorem onceB_rot {n : Nat} {m : Nat → Nat} {a : Nat → Nat} {x : Nat → Nat → Nat} {s : Nat → Nat} : ∀ {k : Nat}, onceB n m a x s k = true → ∀ j, j < k → notRotor (onceS n (m 0) a x s k j) = false := by
  intro k
  induction k with
  | zero => intro _ j hj; omega
  | succ k ih =>
    intro h j hj
    simp only [onceB, Bool.and_eq_true] at h
    by_cases e : j = k
    · subst e
      rw [onceS_at]
      have h2 := h.2
      simp only [stepOK, Bool.and_eq_true] at h2
      simp only [notRotor, h2.2.2, shareX_nonneg, Bool.not_true, Bool.or_self]
    · rw [onceS_off e]
      exact ih h.1 j (by omega)
theorem unB_rot {n : Nat} {m : Nat → Nat} {a : Nat → Nat} {x : Nat → Nat → Nat} : ∀ {r : Nat}, unB n m a x r = true → rotN n (unS n (m 0) a x r) = true := by
  intro r h
  refine allN_true fun j hj => ?_
  cases r with
  | zero => exact (by decide : (!notRotor 0) = true)
  | succ r =>
    simp only [unB, Bool.and_eq_true] at h
    have := onceB_rot h.2 j hj
    show (!notRotor (onceS n (m 0) a x (unS n (m 0) a x r) n j)) = true
    rw [this]
    rfl
def preUn (n : Nat) (m : Nat → Nat) (x : Nat → Nat → Nat) (na : Nat) (a : Nat → Nat) (d : Int) : Bool := canU n m x na a && (decide (1 ≤ d) && decide (d ≤ 64))
def mixUn (n : Nat) (m : Nat → Nat) (x : Nat → Nat → Nat) (a : Nat → Nat) (r : Nat) : Nat → Nat := mixX n x (unS n (m 0) a x r)
def okUn (n : Nat) (m : Nat → Nat) (x : Nat → Nat → Nat) (na : Nat) (a : Nat → Nat) (d : Int) : Bool := preUn n m x na a d && (unB n m a x d.toNat && (okMix n m x n (unS n (m 0) a x d.toNat) && okFar na a (m 0) (mixUn n m x a d.toNat)))
def farUn (n : Nat) (m : Nat → Nat) (x : Nat → Nat → Nat) (na : Nat) (a : Nat → Nat) (d : Int) : Nat := farV na a (mixUn n m x a d.toNat)
abbrev noU : AV := .tup [.v (.slice none 0 0), .f .f32 fun _ => 0, .b fun _ => false]
abbrev yesU (n : Th Nat) (f : Nat) : AV := .tup [.own 0 (fun _ => 0) n 1, .f .f32 fun _ => f, .b fun _ => true]
theorem noU_to {H H' : Heap} {σ : List Nat} : AllTo H H' σ true [noU] [noU] := .cons (.tup (.cons (.v _) (.cons (.f rfl) (.cons (.b rfl) .nil)))) .nil
theorem allFr_noU : AllFr noU := .tup fun x hx => by
  simp only [List.mem_cons, List.not_mem_nil, or_false] at hx
  rcases hx with rfl | rfl | rfl
  · exact .v
  · exact .f
  · exact .b
theorem allFr_yesU {n : Th Nat} {f : Nat} : AllFr (yesU n f) := .tup fun x hx => by
  simp only [List.mem_cons, List.not_mem_nil, or_false] at hx
  rcases hx with rfl | rfl | rfl
  · exact .own
  · exact .f
  · exact .b
abbrev ansU (n : Th Nat) (x : Nat → Nat) (f : Nat) (ok : Bool) (p : Prop) : Ans := .two (fun _ => ok) (.one (yesU n f) [blkF true n x] fun _ => p) (.one noU [] fun _ => p)
def kUn : Kg
  | [la, lb, .i .i64 d], [] => match asLg la, asLLg lb with
    | some (na, ga), some (n, g) => some (ansU n (unS (n .u) (rowN g 0) (rdF ga) (rowX g) (d .u).toNat) (farUn (n .u) (rowN g) (rowX g) (na .u) (rdF ga) (d .u)) (okUn (n .u) (rowN g) (rowX g) (na .u) (rdF ga) (d .u)) ((IsF na ga ∧ IsFFg n g) ∧ n .u ≤ 1048576))
    | _, _ => none
  | _, _ => none
theorem un_no {n : Nat} {m : Nat → Nat} {x : Nat → Nat → Nat} {na : Nat} {a : Nat → Nat} {d : Int} (h : (!canU n m x na a || !(decide (1 ≤ d) && decide (d ≤ 64))) = true) : okUn n m x na a d = false := by
  simp only [okUn, preUn]
  cases h1 : canU n m x na a <;> cases h2 : (decide (1 ≤ d) && decide (d ≤ 64)) <;> simp_all
theorem un_yes {n : Nat} {m : Nat → Nat} {x : Nat → Nat → Nat} {na : Nat} {a : Nat → Nat} {d : Int} (h : (!canU n m x na a || !(decide (1 ≤ d) && decide (d ≤ 64))) = false) : preUn n m x na a d = true := by
  simp only [preUn]
  cases h1 : canU n m x na a <;> cases h2 : (decide (1 ≤ d) && decide (d ≤ 64)) <;> simp_all
theorem preUn_facts {n : Nat} {m : Nat → Nat} {x : Nat → Nat → Nat} {na : Nat} {a : Nat → Nat} {d : Int} (h : preUn n m x na a d = true) : canU n m x na a = true ∧ 1 ≤ d ∧ d ≤ 64 := by
  simp only [preUn, Bool.and_eq_true, decide_eq_true_eq] at h
  exact h
def ctSpecUn : CT := [(77, .r kCan), (44, .r kIn), (78, .g 3 kOnce), (79, .g 0 kMix), (80, .r kFar)]
theorem ctSpecUn_ok : CTok Try.prog ctSpecUn := .cons l07Can_tells (.cons l00In_tells (.cons l07Once_g (.cons specMix (.cons specFar (.nil _)))))
set_option maxHeartbeats 4000000 in
theorem specUn : Tells Try.prog 45 (.g 0 kUn) := by
  intro args Hc r hr
  unfold kUn at hr
  split at hr <;> first | (cases hr; done) | skip
  split at hr <;> cases hr
  rename_i d _ _ na ga n g hL hL'
  refine AnsOk.two ttok Try.func45 rfl rfl (Nat.zero_le _) (Nat.zero_le _) allFr_yesU allFr_noU .list .nil fun hF => ⟨[listF false na (rdF ga), listFF false n (rowN g) (rowX g), .i .i64 d], ⟨.asLg hL hF.1.1, Sub.asLLg hL' hF.1.2, Sub.refl _, trivial⟩, ?_⟩
  have hna := hF.1.1.1
  have hn := hF.1.2.1
  have hn20 := hF.2
  have hm := fun i => hF.1.2.row (i := i)
  generalize rowN g = m at hm
  generalize rowX g = x
  generalize rdF ga = a
  have a1 := eq_true hm
  refine AW.exec ttok ctSpecUn_ok (by cbv) ?_
  simp only [natCast_int, Post, All, thenA, canon0, canon064, and_true, true_and, forall_const, implies_true, decide_eq_true_eq, decide_eq_false_iff_not, Bool.not_eq_true', Bool.not_eq_false', Bool.true_and, Bool.and_true, beq_true, beq_false, Int.toNat_natCast, Int.ofNat_lt, Int.ofNat_le, Nat.zero_add, Nat.add_zero, imp_self, Bool.cond_false_right, Bool.cond_true_left, Bool.cond_true_right, IsF, rdF_eq, fOf, AV.f.injEq, exists_eq', free_list, free_fn0, List.not_mem_nil, List.mem_cons, false_imp, forall_eq, or_false, free_i, free_f, free_b, ren_f, ren_i, ren_b, and_self, bne_iff_ne, bne_eq_false_iff_eq, ne_eq, Int.natCast_inj, or_true, true_or, freeB_list, unfr_f, unfr_i, unfr_b, unfr_c, unfr_s, free_c, free_s, ren_c, ren_s, unfr_ro, unfr_rptr, ren_ro, free_ll, free_box, kill_f, kill_i, kill_b, kill_c, kill_s, kill_rof, kill_rot, Int.toNat_zero, isFF_ll, rowN_ll, rowX_ll, AllFree, Option.some.injEq, Prod.mk.injEq, Bool.false_eq_true, Bool.true_eq_false, isFFg_ll, hn, hna, a1]
  (repeat' first | with_reducible assumption | with_reducible apply And.intro | with_reducible intro hh) <;> first | ((first | with_reducible show (_ : Int) ≤ _ | with_reducible show (_ : Int) < _ | with_reducible show (_ : Nat) ≤ _ | with_reducible show (_ : Nat) < _ | with_reducible show (_ : Int) = _ | with_reducible show (_ : Nat) = _ | with_reducible show ¬ _ | with_reducible show _ ≠ _) <;> first | omega | (simp only [Bool.and_eq_true, Bool.or_eq_false_iff, Bool.not_eq_false', Bool.not_eq_true', decide_eq_true_eq, decide_eq_false_iff_not] at *; omega) | (with_reducible assumption)) | (with_reducible assumption) | skip
  · exact okA.no (un_no ‹(_ || _) = true›) (fin_ret (.inl rfl) (by cbv) (by simp) (To.fresh noU_to))
  have hp := un_yes ‹(_ || _) = false›
  obtain ⟨hc, hd1, hd2⟩ := preUn_facts hp
  obtain ⟨h0, hn6, hnm⟩ := canU_facts hc
  have h1 := areS_facts h0
  have h2 := hm 0 (by omega)
  refine AW.loopH (ι := Nat) (fun i => i ≤ (d .u).toNat ∧ unB (n .u) m a x i = true) (fun i => (d .u).toNat - i) (fun i => mkE Try.f45.ntmps [(0, listF false na a), (1, listFF false n m x), (2, .i .i64 fun _ => d .u - (i : Int)), (9, .own 0 (fun _ => 0) n 1)])
    (fun i => [blkF true n (unS (n .u) (m 0) a x i)]) 0 ⟨Nat.zero_le _, rfl⟩ (To.list (Nat.zero_le _) (Nat.le_refl _) (fun e => e) (fun j hj => AvTo.f rfl) ?_) ?_
  · (repeat' first | exact AllTo.nil | apply AllTo.cons) <;> first | exact AvTo.dead _ | exact AvTo.i rfl | exact AvTo.i (by omega) | exact AvTo.i (by simp only [natCast_int]; omega) | exact AvTo.f rfl | exact AvTo.own rfl rfl rfl rfl | exact AvTo.own rfl rfl rfl (by omega) | exact Free.same (free_ll.2 trivial) | exact Free.same .listF
  · rintro Q' hQ i ⟨hi, hB⟩
    refine AW.exec ttok ctSpecUn_ok (by cbv) ?_
    simp only [natCast_int, Post, All, thenA, canon0, canon064, and_true, true_and, forall_const, implies_true, decide_eq_true_eq, decide_eq_false_iff_not, Bool.not_eq_true', Bool.not_eq_false', Bool.true_and, Bool.and_true, beq_true, beq_false, Int.toNat_natCast, Int.ofNat_lt, Int.ofNat_le, Nat.zero_add, Nat.add_zero, imp_self, Bool.cond_false_right, Bool.cond_true_left, Bool.cond_true_right, IsF, rdF_eq, fOf, AV.f.injEq, exists_eq', free_list, free_fn0, List.not_mem_nil, List.mem_cons, false_imp, forall_eq, or_false, free_i, free_f, free_b, ren_f, ren_i, ren_b, and_self, bne_iff_ne, bne_eq_false_iff_eq, ne_eq, Int.natCast_inj, or_true, true_or, freeB_list, unfr_f, unfr_i, unfr_b, unfr_c, unfr_s, free_c, free_s, ren_c, ren_s, unfr_ro, unfr_rptr, ren_ro, free_ll, free_box, kill_f, kill_i, kill_b, kill_c, kill_s, kill_rof, kill_rot, Int.toNat_zero, isFF_ll, rowN_ll, rowX_ll, AllFree, Option.some.injEq, Prod.mk.injEq, Bool.false_eq_true, Bool.true_eq_false, hn, hna, isFFg_ll, a1, hc, Bool.not_true, Bool.not_false, Bool.true_or, Bool.false_or, Bool.true_eq_false, Bool.false_eq_true]
    (repeat' first | with_reducible assumption | with_reducible apply And.intro | with_reducible intro hh) <;> first | ((first | with_reducible show (_ : Int) ≤ _ | with_reducible show (_ : Int) < _ | with_reducible show (_ : Nat) ≤ _ | with_reducible show (_ : Nat) < _ | with_reducible show (_ : Int) = _ | with_reducible show (_ : Nat) = _ | with_reducible show ¬ _ | with_reducible show _ ≠ _) <;> first | omega | (simp only [Bool.and_eq_true, Bool.or_eq_false_iff, Bool.not_eq_false', Bool.not_eq_true', decide_eq_true_eq, decide_eq_false_iff_not] at *; omega) | (with_reducible assumption)) | (with_reducible assumption) | skip
    · refine ⟨i + 1, ⟨by omega, by simp only [unB, hB, Bool.true_and]; assumption⟩, by omega, To.list (Nat.zero_le _) (Nat.le_refl _) (fun e => e) (fun j hj => AvTo.f rfl) ?_⟩
      (repeat' first | exact AllTo.nil | apply AllTo.cons) <;> first | exact AvTo.dead _ | exact AvTo.i rfl | exact AvTo.i (by omega) | exact AvTo.i (by simp only [natCast_int]; omega) | exact AvTo.f rfl | exact AvTo.own rfl rfl rfl rfl | exact AvTo.own rfl rfl rfl (by omega) | exact Free.same (free_ll.2 trivial) | exact Free.same .listF
    · obtain ⟨rfl⟩ := hQ
      refine Post.leaf (by cbv) (okA.no ?_ (fin_ret (.inl rfl) (by cbv) (by simp) (To.fresh noU_to)))
      have hB2 : unB (n .u) m a x (d .u).toNat = false := unB_stop (i := i) (by assumption) (by omega)
      show okUn (n .u) m x (na .u) a (d .u) = false
      simp only [okUn, hB2, Bool.false_and, Bool.and_false]
    · obtain ⟨rfl⟩ := hQ
      refine Post.eval (by cbv) ?_
      have e : i = (d .u).toNat := by omega
      have hB' : unB (n .u) m a x (d .u).toNat = true := e ▸ hB
      simp only [natCast_int, Post, All, thenA, canon0, canon064, and_true, true_and, forall_const, implies_true, decide_eq_true_eq, decide_eq_false_iff_not, Bool.not_eq_true', Bool.not_eq_false', Bool.true_and, Bool.and_true, beq_true, beq_false, Int.toNat_natCast, Int.ofNat_lt, Int.ofNat_le, Nat.zero_add, Nat.add_zero, imp_self, Bool.cond_false_right, Bool.cond_true_left, Bool.cond_true_right, IsF, rdF_eq, fOf, AV.f.injEq, exists_eq', free_list, free_fn0, List.not_mem_nil, List.mem_cons, false_imp, forall_eq, or_false, free_i, free_f, free_b, ren_f, ren_i, ren_b, and_self, bne_iff_ne, bne_eq_false_iff_eq, ne_eq, Int.natCast_inj, or_true, true_or, freeB_list, unfr_f, unfr_i, unfr_b, unfr_c, unfr_s, free_c, free_s, ren_c, ren_s, unfr_ro, unfr_rptr, ren_ro, free_ll, free_box, kill_f, kill_i, kill_b, kill_c, kill_s, kill_rof, kill_rot, Int.toNat_zero, isFF_ll, rowN_ll, rowX_ll, AllFree, Option.some.injEq, Prod.mk.injEq, Bool.false_eq_true, Bool.true_eq_false, e, h2, hn, hna, isFFg_ll, a1, Bool.not_true, Bool.not_false, Bool.true_or, Bool.false_or, Bool.true_eq_false, Bool.false_eq_true, cond_true, cond_false]
      (repeat' first | with_reducible assumption | with_reducible apply And.intro | with_reducible intro hh) <;> first | ((first | with_reducible show (_ : Int) ≤ _ | with_reducible show (_ : Int) < _ | with_reducible show (_ : Nat) ≤ _ | with_reducible show (_ : Nat) < _ | with_reducible show (_ : Int) = _ | with_reducible show (_ : Nat) = _ | with_reducible show ¬ _ | with_reducible show _ ≠ _) <;> first | omega | (simp only [Bool.and_eq_true, Bool.or_eq_false_iff, Bool.not_eq_false', Bool.not_eq_true', decide_eq_true_eq, decide_eq_false_iff_not] at *; omega) | (with_reducible assumption)) | (with_reducible assumption) | skip
      · have hf : okFar (na .u) a (m 0) (mixUn (n .u) m x a (d .u).toNat) = false := by assumption
        exact okA.no (by show okUn (n .u) m x (na .u) a (d .u) = false; simp only [okUn, hf, Bool.and_false]) (fin_ret (.inl rfl) (by cbv) (by simp) (To.fresh noU_to))
      · have hf : okFar (na .u) a (m 0) (mixUn (n .u) m x a (d .u).toNat) = true := by assumption
        have hM : okMix (n .u) m x (n .u) (unS (n .u) (m 0) a x (d .u).toNat) = true := by assumption
        refine okA.yes (by show okUn (n .u) m x (na .u) a (d .u) = true; simp only [okUn, show preUn (n .u) m x (na .u) a (d .u) = true from hp, hB', hM, hf, Bool.and_self]) (fin_ret (.inl rfl) (by cbv) (by simp) (To.moved (k := 0) rfl (Nat.le_refl _) (fun e => e) (fun j hj => AvTo.f rfl) (.cons (.tup (.cons (.own rfl rfl rfl rfl) (.cons (.f ?_) (.cons (.b rfl) .nil)))) .nil)))
        show (bif okFar (na .u) a (m 0) (mixUn (n .u) m x a (d .u).toNat) then farV (na .u) a (mixUn (n .u) m x a (d .u).toNat) else 0) = farUn (n .u) m x (na .u) a (d .u)
        rw [hf]
        rfl
      · have hM : okMix (n .u) m x (n .u) (unS (n .u) (m 0) a x (d .u).toNat) = false := by assumption
        exact okA.no (by show okUn (n .u) m x (na .u) a (d .u) = false; simp only [okUn, hM, Bool.false_and, Bool.and_false]) (fin_ret (.inl rfl) (by cbv) (by simp) (To.fresh noU_to))
def ctImplUn : CT := [(81, .r kIn), (82, .g 0 kU), (83, .g 0 kMix), (84, .r kFar)]
theorem ctImplUn_ok : CTok Try.prog ctImplUn := .cons within_tells (.cons implU (.cons implMix (.cons implFar (.nil _))))
set_option maxHeartbeats 4000000 in
theorem implUn : Tells Try.prog 47 (.g 0 kUn) := by
  intro args Hc r hr
  unfold kUn at hr
  split at hr <;> first | (cases hr; done) | skip
  split at hr <;> cases hr
  rename_i d _ _ na ga n g hL hL'
  refine AnsOk.two ttok Try.func47 rfl rfl (Nat.zero_le _) (Nat.zero_le _) allFr_yesU allFr_noU .list .nil fun hF => ⟨[listF false na (rdF ga), listFF false n (rowN g) (rowX g), .i .i64 d], ⟨.asLg hL hF.1.1, Sub.asLLg hL' hF.1.2, Sub.refl _, trivial⟩, ?_⟩
  have hna := hF.1.1.1
  have hn := hF.1.2.1
  have hn20 := hF.2
  have hm := fun i => hF.1.2.row (i := i)
  generalize rowN g = m at hm
  generalize rowX g = x
  generalize rdF ga = a
  have a1 := eq_true hm
  refine AW.exec ttok ctImplUn_ok (by cbv) ?_
  simp only [natCast_int, Post, All, thenA, canon0, canon064, and_true, true_and, forall_const, implies_true, decide_eq_true_eq, decide_eq_false_iff_not, Bool.not_eq_true', Bool.not_eq_false', Bool.true_and, Bool.and_true, beq_true, beq_false, Int.toNat_natCast, Int.ofNat_lt, Int.ofNat_le, Nat.zero_add, Nat.add_zero, imp_self, Bool.cond_false_right, Bool.cond_true_left, Bool.cond_true_right, IsF, rdF_eq, fOf, AV.f.injEq, exists_eq', free_list, free_fn0, List.not_mem_nil, List.mem_cons, false_imp, forall_eq, or_false, free_i, free_f, free_b, ren_f, ren_i, ren_b, and_self, bne_iff_ne, bne_eq_false_iff_eq, ne_eq, Int.natCast_inj, or_true, true_or, freeB_list, unfr_f, unfr_i, unfr_b, unfr_c, unfr_s, free_c, free_s, ren_c, ren_s, unfr_ro, unfr_rptr, ren_ro, free_ll, free_box, kill_f, kill_i, kill_b, kill_c, kill_s, kill_rof, kill_rot, Int.toNat_zero, isFF_ll, rowN_ll, rowX_ll, AllFree, Option.some.injEq, Prod.mk.injEq, Bool.false_eq_true, Bool.true_eq_false, isFFg_ll, hn, hna, a1]
  (repeat' first | with_reducible assumption | with_reducible apply And.intro | with_reducible intro hh) <;> first | ((first | with_reducible show (_ : Int) ≤ _ | with_reducible show (_ : Int) < _ | with_reducible show (_ : Nat) ≤ _ | with_reducible show (_ : Nat) < _ | with_reducible show (_ : Int) = _ | with_reducible show (_ : Nat) = _ | with_reducible show ¬ _ | with_reducible show _ ≠ _) <;> first | omega | (simp only [Bool.and_eq_true, Bool.or_eq_false_iff, Bool.not_eq_false', Bool.not_eq_true', decide_eq_true_eq, decide_eq_false_iff_not] at *; omega) | (with_reducible assumption)) | (with_reducible assumption) | skip
  · refine okA.no ?_ (fin_ret (.inl rfl) (by cbv) (by simp) (To.fresh noU_to))
    have hw : (decide (1 ≤ d .u) && decide (d .u ≤ 64)) = false := by assumption
    show okUn (n .u) m x (na .u) a (d .u) = false
    simp only [okUn, preUn, hw, Bool.and_false, Bool.false_and]
  have hw : (decide (1 ≤ d .u) && decide (d .u ≤ 64)) = true := by assumption
  have hw2 := hw
  simp only [Bool.and_eq_true, decide_eq_true_eq] at hw2
  obtain ⟨hd1, hd2⟩ := hw2
  refine AW.loopH (ι := Nat) (fun i => (i ≤ (d .u).toNat ∧ unB (n .u) m a x i = true) ∧ (1 ≤ i → canU (n .u) m x (na .u) a = true)) (fun i => (d .u).toNat - i) (fun i => mkE Try.f47.ntmps [(0, listF false na a), (1, listFF false n m x), (9, .own 0 (fun _ => 0) n 1), (21, .i .i64 d), (22, .i .i64 fun _ => (i : Int))])
    (fun i => [blkF true n (unS (n .u) (m 0) a x i)]) 0 ⟨⟨Nat.zero_le _, rfl⟩, fun h => absurd h (by omega)⟩ (To.list (Nat.zero_le _) (Nat.le_refl _) (fun e => e) (fun j hj => AvTo.f rfl) ?_) ?_
  · (repeat' first | exact AllTo.nil | apply AllTo.cons) <;> first | exact AvTo.dead _ | exact AvTo.i rfl | exact AvTo.i (by omega) | exact AvTo.i (by simp only [natCast_int]; omega) | exact AvTo.f rfl | exact AvTo.own rfl rfl rfl rfl | exact AvTo.own rfl rfl rfl (by omega) | exact Free.same (free_ll.2 trivial) | exact Free.same .listF
  · rintro Q' hQ i ⟨⟨hi, hB⟩, hcc⟩
    refine AW.exec ttok ctImplUn_ok (by cbv) ?_
    simp only [natCast_int, Post, All, thenA, canon0, canon064, and_true, true_and, forall_const, implies_true, decide_eq_true_eq, decide_eq_false_iff_not, Bool.not_eq_true', Bool.not_eq_false', Bool.true_and, Bool.and_true, beq_true, beq_false, Int.toNat_natCast, Int.ofNat_lt, Int.ofNat_le, Nat.zero_add, Nat.add_zero, imp_self, Bool.cond_false_right, Bool.cond_true_left, Bool.cond_true_right, IsF, rdF_eq, fOf, AV.f.injEq, exists_eq', free_list, free_fn0, List.not_mem_nil, List.mem_cons, false_imp, forall_eq, or_false, free_i, free_f, free_b, ren_f, ren_i, ren_b, and_self, bne_iff_ne, bne_eq_false_iff_eq, ne_eq, Int.natCast_inj, or_true, true_or, freeB_list, unfr_f, unfr_i, unfr_b, unfr_c, unfr_s, free_c, free_s, ren_c, ren_s, unfr_ro, unfr_rptr, ren_ro, free_ll, free_box, kill_f, kill_i, kill_b, kill_c, kill_s, kill_rof, kill_rot, Int.toNat_zero, isFF_ll, rowN_ll, rowX_ll, AllFree, Option.some.injEq, Prod.mk.injEq, Bool.false_eq_true, Bool.true_eq_false, hn, hna, isFFg_ll, a1, Bool.not_true, Bool.not_false, Bool.true_or, Bool.false_or, Bool.true_eq_false, Bool.false_eq_true]
    (repeat' first | with_reducible assumption | with_reducible apply And.intro | with_reducible intro hh) <;> first | ((first | with_reducible show (_ : Int) ≤ _ | with_reducible show (_ : Int) < _ | with_reducible show (_ : Nat) ≤ _ | with_reducible show (_ : Nat) < _ | with_reducible show (_ : Int) = _ | with_reducible show (_ : Nat) = _ | with_reducible show ¬ _ | with_reducible show _ ≠ _) <;> first | omega | (simp only [Bool.and_eq_true, Bool.or_eq_false_iff, Bool.not_eq_false', Bool.not_eq_true', decide_eq_true_eq, decide_eq_false_iff_not] at *; omega) | (with_reducible assumption)) | (with_reducible assumption) | skip
    · have ho : okU (n .u) m x (na .u) a (n .u) (unS (n .u) (m 0) a x i) = true := by assumption
      simp only [okU, Bool.and_eq_true] at ho
      have hc := (preU_facts ho.1).1
      refine ⟨i + 1, ⟨⟨by omega, by simp only [unB, hB, Bool.true_and]; exact ho.2⟩, fun _ => hc⟩, by omega, To.moved (k := 1) rfl (Nat.le_refl _) (fun e => e) (fun j hj => AvTo.f rfl) ?_⟩
      (repeat' first | exact AllTo.nil | apply AllTo.cons) <;> first | exact AvTo.dead _ | exact AvTo.i rfl | exact AvTo.i (by omega) | exact AvTo.i (by simp only [natCast_int]; omega) | exact AvTo.f rfl | exact AvTo.own rfl rfl rfl rfl | exact AvTo.own rfl rfl rfl (by omega) | exact Free.same (free_ll.2 trivial) | exact Free.same .listF
    · have ho : okU (n .u) m x (na .u) a (n .u) (unS (n .u) (m 0) a x i) = false := by assumption
      obtain ⟨rfl⟩ := hQ
      refine Post.leaf (by cbv) (okA.no ?_ (fin_ret (.inl rfl) (by cbv) (by simp) (To.fresh noU_to)))
      show okUn (n .u) m x (na .u) a (d .u) = false
      cases hc : canU (n .u) m x (na .u) a with
      | false => simp only [okUn, preUn, hc, Bool.false_and]
      | true =>
        simp only [okU, preU, hc, unB_rot hB, decide_true, Bool.true_and] at ho
        simp only [okUn, unB_stop ho (k := (d .u).toNat) (by omega), Bool.false_and, Bool.and_false]
    · obtain ⟨rfl⟩ := hQ
      have hc := hcc (by omega)
      obtain ⟨h0, hn6, hnm⟩ := canU_facts hc
      have h1 := areS_facts h0
      have h2 := hm 0 (by omega)
      have hp : preUn (n .u) m x (na .u) a (d .u) = true := by simp only [preUn, hc, hw, Bool.and_self]
      refine Post.eval (by cbv) ?_
      have e : i = (d .u).toNat := by omega
      have hB' : unB (n .u) m a x (d .u).toNat = true := e ▸ hB
      simp only [natCast_int, Post, All, thenA, canon0, canon064, and_true, true_and, forall_const, implies_true, decide_eq_true_eq, decide_eq_false_iff_not, Bool.not_eq_true', Bool.not_eq_false', Bool.true_and, Bool.and_true, beq_true, beq_false, Int.toNat_natCast, Int.ofNat_lt, Int.ofNat_le, Nat.zero_add, Nat.add_zero, imp_self, Bool.cond_false_right, Bool.cond_true_left, Bool.cond_true_right, IsF, rdF_eq, fOf, AV.f.injEq, exists_eq', free_list, free_fn0, List.not_mem_nil, List.mem_cons, false_imp, forall_eq, or_false, free_i, free_f, free_b, ren_f, ren_i, ren_b, and_self, bne_iff_ne, bne_eq_false_iff_eq, ne_eq, Int.natCast_inj, or_true, true_or, freeB_list, unfr_f, unfr_i, unfr_b, unfr_c, unfr_s, free_c, free_s, ren_c, ren_s, unfr_ro, unfr_rptr, ren_ro, free_ll, free_box, kill_f, kill_i, kill_b, kill_c, kill_s, kill_rof, kill_rot, Int.toNat_zero, isFF_ll, rowN_ll, rowX_ll, AllFree, Option.some.injEq, Prod.mk.injEq, Bool.false_eq_true, Bool.true_eq_false, e, h2, hn, hna, isFFg_ll, a1, Bool.not_true, Bool.not_false, Bool.true_or, Bool.false_or, Bool.true_eq_false, Bool.false_eq_true, cond_true, cond_false]
      (repeat' first | with_reducible assumption | with_reducible apply And.intro | with_reducible intro hh) <;> first | ((first | with_reducible show (_ : Int) ≤ _ | with_reducible show (_ : Int) < _ | with_reducible show (_ : Nat) ≤ _ | with_reducible show (_ : Nat) < _ | with_reducible show (_ : Int) = _ | with_reducible show (_ : Nat) = _ | with_reducible show ¬ _ | with_reducible show _ ≠ _) <;> first | omega | (simp only [Bool.and_eq_true, Bool.or_eq_false_iff, Bool.not_eq_false', Bool.not_eq_true', decide_eq_true_eq, decide_eq_false_iff_not] at *; omega) | (with_reducible assumption)) | (with_reducible assumption) | skip
      · have hf : okFar (na .u) a (m 0) (mixUn (n .u) m x a (d .u).toNat) = false := by assumption
        exact okA.no (by show okUn (n .u) m x (na .u) a (d .u) = false; simp only [okUn, hf, Bool.and_false]) (fin_ret (.inl rfl) (by cbv) (by simp) (To.fresh noU_to))
      · have hf : okFar (na .u) a (m 0) (mixUn (n .u) m x a (d .u).toNat) = true := by assumption
        have hM : okMix (n .u) m x (n .u) (unS (n .u) (m 0) a x (d .u).toNat) = true := by assumption
        refine okA.yes (by show okUn (n .u) m x (na .u) a (d .u) = true; simp only [okUn, show preUn (n .u) m x (na .u) a (d .u) = true from hp, hB', hM, hf, Bool.and_self]) (fin_ret (.inl rfl) (by cbv) (by simp) (To.moved (k := 0) rfl (Nat.le_refl _) (fun e => e) (fun j hj => AvTo.f rfl) (.cons (.tup (.cons (.own rfl rfl rfl rfl) (.cons (.f ?_) (.cons (.b rfl) .nil)))) .nil)))
        show (bif okFar (na .u) a (m 0) (mixUn (n .u) m x a (d .u).toNat) then farV (na .u) a (mixUn (n .u) m x a (d .u).toNat) else 0) = farUn (n .u) m x (na .u) a (d .u)
        rw [hf]
        rfl
      · omega
      · have hM : okMix (n .u) m x (n .u) (unS (n .u) (m 0) a x (d .u).toNat) = false := by assumption
        exact okA.no (by show okUn (n .u) m x (na .u) a (d .u) = false; simp only [okUn, hM, Bool.false_and, Bool.and_false]) (fin_ret (.inl rfl) (by cbv) (by simp) (To.fresh noU_to))
end Go.Proofs.Ytgbfngkmnodgdaa
