/- Libraries ranked: the program's side. NOT FINISHED. -/
import Derived.Test.YtgbfngkmnodgdaaHq
import Derived.Test.YtgbfngkmnodgdaaHg
set_option linter.unusedSimpArgs false
set_option linter.unusedVariables false
namespace Go.Proofs.Ytgbfngkmnodgdaa
open Go.Aw
def cmpV (L : Nat → Nat) (a b : Int) : Int := bif fgt .f32 (L a.toNat) (L b.toNat) then -1 else bif flt .f32 (L a.toNat) (L b.toNat) then 1 else 0
def kCmp : Kr
  | [.i .i64 a, .i .i64 b, .rptr fr m h] => match asL (h 0) with
    | some (n, g) => some (.i .i64 fun _ => cmpV (rdF g) (a .u) (b .u), [], fun _ => IsF n g ∧ 1 ≤ m ∧ (0 ≤ a .u ∧ a .u < n .u) ∧ 0 ≤ b .u ∧ b .u < n .u)
    | none => none
  | _ => none
theorem cmp_tells : Tells Try.prog 42 (.r kCmp) := by
  intro args r H' p hr hp
  unfold kCmp at hr
  split at hr <;> first | (cases hr; done) | skip
  split at hr <;> cases hr
  rename_i a b fr m h _ n g hL
  obtain ⟨p1, hm, ⟨ha0, ha1⟩, hb0, hb1⟩ := hp
  refine ⟨.i, .nil, Con.pre (args' := [.i .i64 a, .i .i64 b, .rptr false 1 fun j => [listF false n (rdF g)].getD j .dead]) ⟨Sub.refl _, Sub.refl _, Sub.rptrL hm fun j hj => ?_, trivial⟩ ?_⟩
  · match j, hj with
    | 0, _ => exact Sub.asL hL p1
  have hn := p1.1
  generalize rdF g = L
  have ta : (a .u).toNat < n .u := by omega
  have tb : (b .u).toNat < n .u := by omega
  refine Con.of ttok Try.func42 rfl rfl (Nat.zero_le _) (AW.exec ttok (CTok.nil _) (by cbv) ?_)
  simp only [natCast_int, Post, All, thenA, canon0, canon064, and_true, true_and, forall_const, implies_true, decide_eq_true_eq, decide_eq_false_iff_not, Bool.not_eq_true', Bool.not_eq_false', Bool.true_and, Bool.and_true, beq_true, beq_false, Int.toNat_natCast, Int.ofNat_lt, Int.ofNat_le, Nat.zero_add, Nat.add_zero, imp_self, Bool.cond_false_right, Bool.cond_true_left, Bool.cond_true_right, IsF, rdF_eq, fOf, AV.f.injEq, exists_eq', free_list, free_fn0, List.not_mem_nil, List.mem_cons, false_imp, forall_eq, or_false, free_i, free_f, free_b, ren_f, ren_i, ren_b, and_self, bne_iff_ne, bne_eq_false_iff_eq, ne_eq, Int.natCast_inj, or_true, true_or, freeB_list, unfr_f, unfr_i, unfr_b, unfr_c, unfr_s, free_c, free_s, ren_c, ren_s, unfr_ro, unfr_rptr, ren_ro, free_ll, free_box, kill_f, kill_i, kill_b, kill_c, kill_s, kill_rof, kill_rot, Int.toNat_zero, isFF_ll, rowN_ll, rowX_ll, AllFree, Option.some.injEq, Prod.mk.injEq, Bool.false_eq_true, Bool.true_eq_false, hn, ha0, ha1, hb0, hb1, ta, tb]
  (repeat' first | with_reducible assumption | with_reducible apply And.intro | with_reducible intro hh) <;> first | ((first | with_reducible show (_ : Int) ≤ _ | with_reducible show (_ : Int) < _ | with_reducible show (_ : Nat) ≤ _ | with_reducible show (_ : Nat) < _ | with_reducible show (_ : Int) = _ | with_reducible show (_ : Nat) = _ | with_reducible show ¬ _ | with_reducible show _ ≠ _) <;> first | omega | (simp only [Bool.and_eq_true, Bool.or_eq_false_iff, Bool.not_eq_false', Bool.not_eq_true', decide_eq_true_eq, decide_eq_false_iff_not] at *; omega) | (with_reducible assumption)) | (with_reducible assumption) | skip
  all_goals refine fin_ret (.inl rfl) (by cbv) (by simp) (To.fresh ⟨.i ?_, trivial⟩)
  all_goals simp_all [cmpV]
theorem cmp_neg {key : Nat → Int} {L : Nat → Nat} {a b n : Nat} (hL : ∀ p, p < n → isFin (L p) = true) (hk : ∀ p, key p = keyF (L p)) (ha : a < n) (hb : b < n) : cmpV L (a : Int) (b : Int) < 0 ↔ key b < key a := by
  simp only [cmpV, Int.toNat_natCast, gt_key (hL a ha) (hL b hb), lt_key (hL a ha) (hL b hb), hk]
  by_cases h1 : keyF (L b) < keyF (L a)
  · simp [h1]
  · simp only [decide_eq_false h1, cond_false, h1, iff_false]
    cases decide (keyF (L a) < keyF (L b)) <;> simp
theorem Sub.rptrG {m k : Nat} {h h' : Nat → AV} (hk : k ≤ m) (hs : ∀ j, j < k → Sub (h j) (h' j)) : Sub (.rptr false m h) (.rptr false k h') := by
  intro w ρ N L v hv
  cases hv with
  | rptr u hq hc hsim => exact .rptr u hq (fun c hcc => hc c (by omega)) fun c hcc => hs c hcc _ _ _ _ _ (hsim c (by omega))
theorem Sub.fnC {f : Fn} {l l' m m' : List AV} (h1 : AllSub l l') (h2 : AllSub m m') : Sub (.fn f l m) (.fn f l' m') := by
  intro w ρ N L v hv
  cases hv with
  | fn k1 k2 k3 k4 =>
    refine .fn (h1.len.symm.trans k1) (fun j a u ha hu => ?_) (h2.len.symm.trans k3) fun j a u ha hu => ?_
    · obtain ⟨b, hb, hsub⟩ := h1.get j a ha
      exact hsub _ _ _ _ _ (k2 j b u hb hu)
    · obtain ⟨b, hb, hsub⟩ := h2.get j a ha
      exact hsub _ _ _ _ _ (k4 j b u hb hu)
abbrev likesA (k : Th Nat) (L : Nat → Nat) : AV := .fn (.func 42) [] [.rptr false 1 fun j => [listF false k L].getD j .dead]
theorem likes_free {k : Th Nat} {L : Nat → Nat} : Free (likesA k L) := .fn (fun a ha => by cases ha) fun a ha => by
  rw [List.mem_singleton] at ha
  subst ha
  exact .rptr fun j hj => by
    match j, hj with
    | 0, _ => exact .listF
noncomputable def insB (k : Th Nat) (L : Nat → Nat) : Option (Bool × Blk) := blkI false k fun p => (sortOf (fun i => keyF (L i)) (k .u) p : Int)
def insP (i n k nl : Th Nat) (m : Nat) (g gl : Th Nat → Nat → AV) : Prop := (IsI k g ∧ IsF nl gl) ∧ (i .u = 0 ∧ n .u = k .u ∧ nl .u = k .u ∧ 1 ≤ m ∧ 1 ≤ k .u ∧ k .u ≤ 8) ∧ (∀ p, p < k .u → rdI g p = (p : Int)) ∧ ∀ p, p < k .u → isFin (rdF gl p) = true
noncomputable def kIns : Kg
  | [.own 0 i n 1, .i .i64 a, .i .i64 b, .fn (.func c) [] [.rptr false m h]], [some (_, .tab k 1 g)] => match Nat.beq c 42 with
    | true => match asLg (h 0) with
      | some (nl, gl) => some (.one (.tup []) [insB k (rdF gl)] fun _ => insP i n k nl m g gl ∧ a .u = 0 ∧ b .u = (k .u : Int))
      | none => none
    | false => none
  | _, _ => none
def ctIns : CT := [(42, .r kCmp)]
theorem ctIns_ok : CTok Try.prog ctIns := .cons cmp_tells (.nil _)
theorem ins_g : Tells Try.prog 109 (.g 1 kIns) := by
  intro args Hc r hr
  unfold kIns at hr
  split at hr <;> first | (cases hr; done) | skip
  split at hr <;> first | (cases hr; done) | skip
  rename_i hc
  obtain rfl := Nat.beq_eq.mp hc
  split at hr <;> cases hr
  rename_i i n a b m h fr k g _ _ nl gl hL
  refine AnsOk.one ttok Try.func109 rfl rfl (Nat.le_refl _) (.tup fun x hx => by cases hx) (.cons (fun fr B e => by cases e; exact .tab fun _ _ _ _ => .i) .nil) fun hF => ?_
  obtain ⟨⟨⟨p1, p2⟩, ⟨q1, q2, q3, q4, q5, q6⟩, q7, q8⟩, q9, q10⟩ := hF
  refine ⟨[.own 0 (fun _ => 0) k 1, .i .i64 fun _ => 0, .i .i64 fun _ => (k .u : Int), likesA nl (rdF gl)], ⟨?_, ?_, ?_, Sub.fnC trivial ⟨Sub.rptrG q4 fun j hj => ?_, trivial⟩, trivial⟩, ?_⟩
  · intro w ρ N L v h
    cases h with | own hid hv => rw [q1, q2] at hv; exact .own hid hv
  · intro w ρ N L v h
    cases h with | i => rw [q9]; exact .i
  · intro w ρ N L v h
    cases h with | i => rw [q10]; exact .i
  · match j, hj with
    | 0, _ => exact Sub.asLg hL p2
  have hnl := p2.1
  have hk := p1.1
  generalize rdF gl = L at q8 ⊢
  refine AW.exec ttok ctIns_ok (by cbv) ?_
  simp only [natCast_int, Post, All, thenA, canon0, canon064, and_true, true_and, forall_const, implies_true, decide_eq_true_eq, decide_eq_false_iff_not, Bool.not_eq_true', Bool.not_eq_false', Bool.true_and, Bool.and_true, beq_true, beq_false, Int.toNat_natCast, Int.ofNat_lt, Int.ofNat_le, Nat.zero_add, Nat.add_zero, imp_self, Bool.cond_false_right, Bool.cond_true_left, Bool.cond_true_right, IsF, rdF_eq, fOf, AV.f.injEq, exists_eq', free_list, free_fn0, List.not_mem_nil, List.mem_cons, false_imp, forall_eq, or_false, free_i, free_f, free_b, ren_f, ren_i, ren_b, and_self, bne_iff_ne, bne_eq_false_iff_eq, ne_eq, Int.natCast_inj, or_true, true_or, freeB_list, unfr_f, unfr_i, unfr_b, unfr_c, unfr_s, free_c, free_s, ren_c, ren_s, unfr_ro, unfr_rptr, ren_ro, free_ll, free_box, kill_f, kill_i, kill_b, kill_c, kill_s, kill_rof, kill_rot, Int.toNat_zero, isFF_ll, rowN_ll, rowX_ll, AllFree, Option.some.injEq, Prod.mk.injEq, Bool.false_eq_true, Bool.true_eq_false]
  (repeat' first | with_reducible assumption | with_reducible apply And.intro | with_reducible intro hh) <;> first | ((first | with_reducible show (_ : Int) ≤ _ | with_reducible show (_ : Int) < _ | with_reducible show (_ : Nat) ≤ _ | with_reducible show (_ : Nat) < _ | with_reducible show (_ : Int) = _ | with_reducible show (_ : Nat) = _ | with_reducible show ¬ _ | with_reducible show _ ≠ _) <;> first | omega | (simp only [Bool.and_eq_true, Bool.or_eq_false_iff, Bool.not_eq_false', Bool.not_eq_true', decide_eq_true_eq, decide_eq_false_iff_not] at *; omega) | (with_reducible assumption)) | (with_reducible assumption) | skip
  refine AW.loopH (ι := Nat × (Nat → Nat)) (fun q => 1 ≤ q.1 ∧ q.1 ≤ k .u ∧ Upto (fun i => keyF (L i)) (k .u) q.1 q.2) (fun q => k .u - q.1) (fun q => mkE Try.f109.ntmps [(0, .own 0 (fun _ => 0) k 1), (1, .i .i64 fun _ => 0), (2, .i .i64 fun _ => (k .u : Int)), (3, likesA nl L), (8, .i .i64 fun _ => (q.1 : Int))])
    (fun q => [blkI false k fun p => (q.2 p : Int)]) (1, fun p => p) ⟨Nat.le_refl _, q5, Upto.one _ _⟩ (To.list (Nat.le_refl _) (Nat.le_refl _) (fun e => by cases e) (fun j hj => ?_) ?_) ?_
  · obtain ⟨y, hy⟩ := p1.2 j hj
    have e := q7 j hj
    simp only [rdI, hy, iOf] at e
    rw [hy]
    exact AvTo.i e
  · (repeat' first | exact AllTo.nil | apply AllTo.cons) <;> first | exact AvTo.dead _ | exact AvTo.i rfl | exact AvTo.i (by first | omega | (simp only [natCast_int]; omega)) | exact AvTo.own rfl rfl rfl rfl | exact Free.same likes_free
  · rintro Q' hQ ⟨i, σ⟩ ⟨hi1, hi, hU⟩
    have hi1 : 1 ≤ i := hi1
    have hi : i ≤ k .u := hi
    have hU : Upto (fun i => keyF (L i)) (k .u) i σ := hU
    refine AW.exec ttok ctIns_ok (by cbv) ?_
    simp only [natCast_int, Post, All, thenA, canon0, canon064, and_true, true_and, forall_const, implies_true, decide_eq_true_eq, decide_eq_false_iff_not, Bool.not_eq_true', Bool.not_eq_false', Bool.true_and, Bool.and_true, beq_true, beq_false, Int.toNat_natCast, Int.ofNat_lt, Int.ofNat_le, Nat.zero_add, Nat.add_zero, imp_self, Bool.cond_false_right, Bool.cond_true_left, Bool.cond_true_right, IsF, rdF_eq, fOf, AV.f.injEq, exists_eq', free_list, free_fn0, List.not_mem_nil, List.mem_cons, false_imp, forall_eq, or_false, free_i, free_f, free_b, ren_f, ren_i, ren_b, and_self, bne_iff_ne, bne_eq_false_iff_eq, ne_eq, Int.natCast_inj, or_true, true_or, freeB_list, unfr_f, unfr_i, unfr_b, unfr_c, unfr_s, free_c, free_s, ren_c, ren_s, unfr_ro, unfr_rptr, ren_ro, free_ll, free_box, kill_f, kill_i, kill_b, kill_c, kill_s, kill_rof, kill_rot, Int.toNat_zero, isFF_ll, rowN_ll, rowX_ll, AllFree, Option.some.injEq, Prod.mk.injEq, Bool.false_eq_true, Bool.true_eq_false]
    (repeat' first | with_reducible assumption | with_reducible apply And.intro | with_reducible intro hh) <;> first | ((first | with_reducible show (_ : Int) ≤ _ | with_reducible show (_ : Int) < _ | with_reducible show (_ : Nat) ≤ _ | with_reducible show (_ : Nat) < _ | with_reducible show (_ : Int) = _ | with_reducible show (_ : Nat) = _ | with_reducible show ¬ _ | with_reducible show _ ≠ _) <;> first | omega | (simp only [Bool.and_eq_true, Bool.or_eq_false_iff, Bool.not_eq_false', Bool.not_eq_true', decide_eq_true_eq, decide_eq_false_iff_not] at *; omega) | (with_reducible assumption)) | (with_reducible assumption) | skip
    · have hik : i < k .u := by omega
      refine AW.loopH (ι := Nat × (Nat → Nat)) (fun q => q.1 ≤ i ∧ Down (fun i => keyF (L i)) (k .u) i q.1 q.2) (fun q => q.1) (fun q => mkE Try.f109.ntmps [(0, .own 0 (fun _ => 0) k 1), (1, .i .i64 fun _ => 0), (2, .i .i64 fun _ => (k .u : Int)), (3, likesA nl L), (8, .i .i64 fun _ => (i : Int)), (9, .i .i64 fun _ => (q.1 : Int))])
        (fun q => [blkI false k fun p => (q.2 p : Int)]) (i, σ) ⟨Nat.le_refl _, hU.down⟩ (To.list (Nat.le_refl _) (Nat.le_refl _) (fun e => e) (fun j hj => AvTo.i rfl) ?_) ?_
      · (repeat' first | exact AllTo.nil | apply AllTo.cons) <;> first | exact AvTo.dead _ | exact AvTo.i rfl | exact AvTo.i (by first | omega | (simp only [natCast_int]; omega)) | exact AvTo.own rfl rfl rfl rfl | exact Free.same likes_free
      · rintro Q2 hQ2 ⟨j, τ⟩ ⟨hj, hD⟩
        have hj : j ≤ i := hj
        have hD : Down (fun i => keyF (L i)) (k .u) i j τ := hD
        refine AW.exec ttok ctIns_ok (by cbv) ?_
        simp only [natCast_int, Post, All, thenA, canon0, canon064, and_true, true_and, forall_const, implies_true, decide_eq_true_eq, decide_eq_false_iff_not, Bool.not_eq_true', Bool.not_eq_false', Bool.true_and, Bool.and_true, beq_true, beq_false, Int.toNat_natCast, Int.ofNat_lt, Int.ofNat_le, Nat.zero_add, Nat.add_zero, imp_self, Bool.cond_false_right, Bool.cond_true_left, Bool.cond_true_right, IsF, rdF_eq, fOf, AV.f.injEq, exists_eq', free_list, free_fn0, List.not_mem_nil, List.mem_cons, false_imp, forall_eq, or_false, free_i, free_f, free_b, ren_f, ren_i, ren_b, and_self, bne_iff_ne, bne_eq_false_iff_eq, ne_eq, Int.natCast_inj, or_true, true_or, freeB_list, unfr_f, unfr_i, unfr_b, unfr_c, unfr_s, free_c, free_s, ren_c, ren_s, unfr_ro, unfr_rptr, ren_ro, free_ll, free_box, kill_f, kill_i, kill_b, kill_c, kill_s, kill_rof, kill_rot, Int.toNat_zero, isFF_ll, rowN_ll, rowX_ll, AllFree, Option.some.injEq, Prod.mk.injEq, Bool.false_eq_true, Bool.true_eq_false]
        (repeat' first | with_reducible assumption | with_reducible apply And.intro | with_reducible intro hh) <;> first | ((first | with_reducible show (_ : Int) ≤ _ | with_reducible show (_ : Int) < _ | with_reducible show (_ : Nat) ≤ _ | with_reducible show (_ : Nat) < _ | with_reducible show (_ : Int) = _ | with_reducible show (_ : Nat) = _ | with_reducible show ¬ _ | with_reducible show _ ≠ _) <;> first | omega | (simp only [Bool.and_eq_true, Bool.or_eq_false_iff, Bool.not_eq_false', Bool.not_eq_true', decide_eq_true_eq, decide_eq_false_iff_not] at *; omega) | (with_reducible assumption)) | (with_reducible assumption) | skip
        · exact .rptr fun j hj => by
            match j, hj with
            | 0, _ => exact .listF
        · rw [hD.at_]; omega
        · have := hD.small ((j : Int) - 1).toNat (by omega) (by omega); omega
        · have c : (decide ((0 : Int) < (j : Int)) && decide (cmpV (fun i => L i) (τ j : Int) (τ ((j : Int) - 1).toNat : Int) < 0)) = true := by assumption
          simp only [Bool.and_eq_true, decide_eq_true_eq] at c
          obtain ⟨c1, c2⟩ := c
          have h0 : 0 < j := by omega
          have ej : ((j : Int) - 1).toNat = j - 1 := by omega
          rw [ej] at c2
          have hs := hD.small (j - 1) (by omega) (by omega)
          have ha := hD.at_
          have hk2 := (cmp_neg (key := fun i => keyF (L i)) (n := k .u) q8 (fun p => rfl) (by omega) (by omega)).1 c2
          refine ⟨(j - 1, swap τ j), ⟨by show j - 1 ≤ i; omega, hD.step h0 hk2⟩, by show j - 1 < j; omega, To.list (Nat.le_refl _) (Nat.le_refl _) (fun e => e) (fun p hp => ?_) ?_⟩
          · by_cases e1 : p = j - 1
            · subst e1
              simp only [ej, if_true, List.length_singleton, Nat.le_refl, Nat.lt_one_iff, and_self, Nat.sub_self, List.getD_cons_zero]
              refine AvTo.i ?_
              show ((τ j : Nat) : Int) = (swap τ j (j - 1) : Nat)
              unfold swap
              rw [if_neg (by omega), if_pos rfl]
            · by_cases e2 : p = j
              · subst e2
                simp only [ej, e1, if_true, if_false, List.length_singleton, Nat.le_refl, Nat.lt_one_iff, and_self, Nat.sub_self, List.getD_cons_zero]
                refine AvTo.i ?_
                show ((τ (p - 1) : Nat) : Int) = (swap τ p p : Nat)
                unfold swap
                rw [if_pos rfl]
              · simp only [ej, e1, e2, if_false]
                refine AvTo.i ?_
                show ((τ p : Nat) : Int) = (swap τ j p : Nat)
                unfold swap
                rw [if_neg e2, if_neg e1]
          · (repeat' first | exact AllTo.nil | apply AllTo.cons) <;> first | exact AvTo.dead _ | exact AvTo.i rfl | exact AvTo.i (by first | omega | (simp only [natCast_int]; omega)) | exact AvTo.own rfl rfl rfl rfl | exact Free.same likes_free
        · obtain ⟨rfl⟩ := hQ2
          refine Post.eval (by cbv) ?_
          have c : (decide ((0 : Int) < (j : Int)) && decide (cmpV (fun i => L i) (τ j : Int) (τ ((j : Int) - 1).toNat : Int) < 0)) = false := by assumption
          have hdone : Upto (fun i => keyF (L i)) (k .u) (i + 1) τ := by
            refine hD.done ?_
            by_cases h0 : j = 0
            · exact .inl h0
            · right
              have hs := hD.small (j - 1) (by omega) (by omega)
              have ha := hD.at_
              rw [decide_eq_true (by omega), Bool.true_and, show ((j : Int) - 1).toNat = j - 1 by omega] at c
              have c2 := of_decide_eq_false c
              exact fun hk => c2 ((cmp_neg (key := fun i => keyF (L i)) (n := k .u) q8 (fun p => rfl) (by omega) (by omega)).2 hk)
          simp only [natCast_int, Post, All, thenA, canon0, canon064, and_true, true_and, forall_const, implies_true, decide_eq_true_eq, decide_eq_false_iff_not, Bool.not_eq_true', Bool.not_eq_false', Bool.true_and, Bool.and_true, beq_true, beq_false, Int.toNat_natCast, Int.ofNat_lt, Int.ofNat_le, Nat.zero_add, Nat.add_zero, imp_self, Bool.cond_false_right, Bool.cond_true_left, Bool.cond_true_right, IsF, rdF_eq, fOf, AV.f.injEq, exists_eq', free_list, free_fn0, List.not_mem_nil, List.mem_cons, false_imp, forall_eq, or_false, free_i, free_f, free_b, ren_f, ren_i, ren_b, and_self, bne_iff_ne, bne_eq_false_iff_eq, ne_eq, Int.natCast_inj, or_true, true_or, freeB_list, unfr_f, unfr_i, unfr_b, unfr_c, unfr_s, free_c, free_s, ren_c, ren_s, unfr_ro, unfr_rptr, ren_ro, free_ll, free_box, kill_f, kill_i, kill_b, kill_c, kill_s, kill_rof, kill_rot, Int.toNat_zero, isFF_ll, rowN_ll, rowX_ll, AllFree, Option.some.injEq, Prod.mk.injEq, Bool.false_eq_true, Bool.true_eq_false]
          (repeat' first | with_reducible assumption | with_reducible apply And.intro | with_reducible intro hh) <;> first | ((first | with_reducible show (_ : Int) ≤ _ | with_reducible show (_ : Int) < _ | with_reducible show (_ : Nat) ≤ _ | with_reducible show (_ : Nat) < _ | with_reducible show (_ : Int) = _ | with_reducible show (_ : Nat) = _ | with_reducible show ¬ _ | with_reducible show _ ≠ _) <;> first | omega | (simp only [Bool.and_eq_true, Bool.or_eq_false_iff, Bool.not_eq_false', Bool.not_eq_true', decide_eq_true_eq, decide_eq_false_iff_not] at *; omega) | (with_reducible assumption)) | (with_reducible assumption) | skip
          refine ⟨(i + 1, τ), ⟨by show 1 ≤ i + 1; omega, by show i + 1 ≤ k .u; omega, hdone⟩, by show k .u - (i + 1) < k .u - i; omega, To.list (Nat.le_refl _) (Nat.le_refl _) (fun e => e) (fun j hj => AvTo.i rfl) ?_⟩
          (repeat' first | exact AllTo.nil | apply AllTo.cons) <;> first | exact AvTo.dead _ | exact AvTo.i rfl | exact AvTo.i (by first | omega | (simp only [natCast_int]; omega)) | exact AvTo.own rfl rfl rfl rfl | exact Free.same likes_free
    · obtain ⟨rfl⟩ := hQ
      refine Post.eval (by cbv) ?_
      have e : i = k .u := by omega
      simp only [natCast_int, Post, All, thenA, canon0, canon064, and_true, true_and, forall_const, implies_true, decide_eq_true_eq, decide_eq_false_iff_not, Bool.not_eq_true', Bool.not_eq_false', Bool.true_and, Bool.and_true, beq_true, beq_false, Int.toNat_natCast, Int.ofNat_lt, Int.ofNat_le, Nat.zero_add, Nat.add_zero, imp_self, Bool.cond_false_right, Bool.cond_true_left, Bool.cond_true_right, IsF, rdF_eq, fOf, AV.f.injEq, exists_eq', free_list, free_fn0, List.not_mem_nil, List.mem_cons, false_imp, forall_eq, or_false, free_i, free_f, free_b, ren_f, ren_i, ren_b, and_self, bne_iff_ne, bne_eq_false_iff_eq, ne_eq, Int.natCast_inj, or_true, true_or, freeB_list, unfr_f, unfr_i, unfr_b, unfr_c, unfr_s, free_c, free_s, ren_c, ren_s, unfr_ro, unfr_rptr, ren_ro, free_ll, free_box, kill_f, kill_i, kill_b, kill_c, kill_s, kill_rof, kill_rot, Int.toNat_zero, isFF_ll, rowN_ll, rowX_ll, AllFree, Option.some.injEq, Prod.mk.injEq, Bool.false_eq_true, Bool.true_eq_false]
      (repeat' first | with_reducible assumption | with_reducible apply And.intro | with_reducible intro hh) <;> first | ((first | with_reducible show (_ : Int) ≤ _ | with_reducible show (_ : Int) < _ | with_reducible show (_ : Nat) ≤ _ | with_reducible show (_ : Nat) < _ | with_reducible show (_ : Int) = _ | with_reducible show (_ : Nat) = _ | with_reducible show ¬ _ | with_reducible show _ ≠ _) <;> first | omega | (simp only [Bool.and_eq_true, Bool.or_eq_false_iff, Bool.not_eq_false', Bool.not_eq_true', decide_eq_true_eq, decide_eq_false_iff_not] at *; omega) | (with_reducible assumption)) | (with_reducible assumption) | skip
      have hS : Sorted (fun i => keyF (L i)) (k .u) σ := (e ▸ hU).sorted
      refine fin_ret (.inr rfl) (by cbv) (by simp) (To.list (Nat.le_refl _) (Nat.le_refl _) (fun e => e) (fun j hj => AvTo.i ?_) ?_)
      · exact congrArg (fun p : Nat => (p : Int)) (hS.unique (sortOf_sorted _ _) j hj)
      · exact .cons (.tup .nil) .nil
end Go.Proofs.Ytgbfngkmnodgdaa
