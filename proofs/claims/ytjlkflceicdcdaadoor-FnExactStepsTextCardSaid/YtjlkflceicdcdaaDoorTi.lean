/- Texts of steps, on both sides. -/
import Derived.Test.YtjlkflceicdcdaaDoorTh
set_option linter.unusedSimpArgs false
set_option linter.unusedVariables false
namespace Go.Proofs.YtjlkflceicdcdaaDoor
open Go.Aw
def twoB (n : Nat) (x : Nat → Nat) (m : Nat) (y : Nat → Nat) : ByteArray := numB n x ++ ⟨⟨[59]⟩⟩ ++ numB m y
theorem numB_size {n : Nat} {x : Nat → Nat} (h : n ≤ 256) : (numB n x).size ≤ 2304 := by
  unfold numB
  by_cases h0 : n = 0
  · rw [decide_eq_true h0]
    show (⟨⟨[110, 111, 110, 101]⟩⟩ : ByteArray).size ≤ 2304
    decide
  · rw [decide_eq_false h0]
    have := jn_size (hexT x) (hexT_size x) n
    show (jn (hexT x) n).size ≤ 2304
    omega
theorem textN_size {n : Nat} {x : Nat → Nat} : (textN n x).size ≤ 2304 := by
  unfold textN
  by_cases h : n ≤ 256
  · rw [decide_eq_true h]; exact numB_size h
  · rw [decide_eq_false h]; exact Nat.zero_le _
theorem textN_few {n : Nat} {x : Nat → Nat} (h : n ≤ 256) : textN n x = numB n x := by
  unfold textN
  rw [decide_eq_true h]
  rfl
theorem semi_one : (⟨⟨[59]⟩⟩ : ByteArray).size = 1 := rfl
theorem stepsF_few {n : Nat} {x : Nat → Nat} {m : Nat} {y : Nat → Nat} (h : stepsF n x m y = true) : n ≤ 256 ∧ m ≤ 256 := by
  simp only [stepsF, Bool.and_eq_true, decide_eq_true_eq] at h
  omega
def kST : Kr
  | [.agg [a, b]] => match asL a, asL b with
    | some (n, g), some (m, h) => some (.tup [.s fun _ => bif stepsF (n .u) (rdF g) (m .u) (rdF h) then twoB (n .u) (rdF g) (m .u) (rdF h) else ⟨#[]⟩, .b fun _ => stepsF (n .u) (rdF g) (m .u) (rdF h)], [], fun _ => (IsF n g ∧ IsF m h) ∧ W32T (n .u) (rdF g) ∧ W32T (m .u) (rdF h))
    | _, _ => none
  | _ => none
def ctSTI : CT := [(51, .r kStepsV), (46, .r kNumT)]
theorem ctSTI_ok : CTok Tryd.prog ctSTI := .cons ValidSteps_tells (.cons implNum (.nil _))
theorem implStepsText : Tells Tryd.prog 26 (.r kST) := by
  intro args r H' p hr hp
  unfold kST at hr
  split at hr <;> first | (cases hr; done) | skip
  split at hr <;> cases hr
  rename_i n g m h hL hL'
  obtain ⟨⟨p1, p2⟩, w1, w2⟩ := hp
  refine ⟨allFr_tup2 .s .b, .nil, Con.pre (args' := [.agg [listF false n (rdF g), listF false m (rdF h)]]) ⟨Sub.aggL ⟨.asL hL p1, .asL hL' p2, trivial⟩, trivial⟩ ?_⟩
  have hn := p1.1
  have hm := p2.1
  generalize rdF g = x at w1 ⊢
  generalize rdF h = y at w2 ⊢
  refine Con.of ttok Tryd.func26 rfl rfl (Nat.zero_le _) (AW.exec ttok ctSTI_ok (by cbv) ?_)
  have w1' := eq_true w1
  have w2' := eq_true w2
  simp only [natCast_int, Post, All, thenA, canon0, canon064, and_true, true_and, forall_const, implies_true, decide_eq_true_eq, decide_eq_false_iff_not, Bool.not_eq_true', Bool.not_eq_false', Bool.true_and, Bool.and_true, beq_true, beq_false, Int.toNat_natCast, Int.ofNat_lt, Int.ofNat_le, Nat.zero_add, Nat.add_zero, imp_self, Bool.cond_false_right, Bool.cond_true_left, Bool.cond_true_right, IsF, rdF_eq, fOf, AV.f.injEq, exists_eq', free_list, free_fn0, List.not_mem_nil, List.mem_cons, false_imp, forall_eq, or_false, free_i, free_f, free_b, ren_f, ren_i, ren_b, and_self, bne_iff_ne, bne_eq_false_iff_eq, ne_eq, Int.natCast_inj, or_true, true_or, freeB_list, unfr_f, unfr_i, unfr_b, unfr_c, unfr_s, free_c, free_s, ren_c, ren_s, unfr_ro, unfr_rptr, ren_ro, free_ll, free_box, kill_f, kill_i, kill_b, kill_c, kill_s, kill_rof, kill_rot, Int.toNat_zero, isFF_ll, rowN_ll, rowX_ll, AllFree, Option.some.injEq, Prod.mk.injEq, Bool.false_eq_true, Bool.true_eq_false, hn, hm, w1', w2']
  (repeat' first | with_reducible assumption | with_reducible apply And.intro | with_reducible intro hh) <;> first | ((first | with_reducible show (_ : Int) ≤ _ | with_reducible show (_ : Int) < _ | with_reducible show (_ : Nat) ≤ _ | with_reducible show (_ : Nat) < _ | with_reducible show (_ : Int) = _ | with_reducible show (_ : Nat) = _ | with_reducible show ¬ _ | with_reducible show _ ≠ _) <;> first | omega | (simp only [Bool.and_eq_true, Bool.or_eq_false_iff, Bool.not_eq_false', Bool.not_eq_true', decide_eq_true_eq, decide_eq_false_iff_not] at *; omega) | (with_reducible assumption)) | (with_reducible assumption) | skip
  · refine fin_ret (.inl rfl) (by cbv) (by simp) (To.fresh (.cons (.tup (.cons (.s ?_) (.cons (.b ?_) .nil))) .nil))
    · have e : stepsF (n .u) x (m .u) y = false := hh
      simp only [e, cond_false]
    · exact hh.symm
  · have s1 : (textN (n .u) fun i => x i).size ≤ 2304 := textN_size
    have := semi_one
    omega
  · have s1 : (textN (n .u) fun i => x i).size ≤ 2304 := textN_size
    have s2 : (textN (m .u) fun i => y i).size ≤ 2304 := textN_size
    have := semi_one
    rw [ByteArray.size_append]
    omega
  · have e : stepsF (n .u) x (m .u) y = true := by assumption
    obtain ⟨c1, c2⟩ := stepsF_few e
    refine fin_ret (.inl rfl) (by cbv) (by simp) (To.fresh (.cons (.tup (.cons (.s ?_) (.cons (.b ?_) .nil))) .nil))
    · simp only [e, cond_true, twoB]
      rw [← textN_few c1, ← textN_few c2]
    · rw [e]
def kSTp : Kr
  | [.rptr fr m h] => match asL (h 0), asL (h 1) with
    | some (n, g), some (k, f) => some (.s fun _ => twoB (n .u) (rdF g) (k .u) (rdF f), [], fun _ => (IsF n g ∧ IsF k f ∧ 2 ≤ m) ∧ (n .u ≤ 256 ∧ k .u ≤ 256) ∧ W32T (n .u) (rdF g) ∧ W32T (k .u) (rdF f))
    | _, _ => none
  | _ => none
theorem specST : Tells Tryd.prog 49 (.r kSTp) := by
  intro args r H' p hr hp
  unfold kSTp at hr
  split at hr <;> first | (cases hr; done) | skip
  split at hr <;> cases hr
  rename_i fr m h _ _ n g k f hL hL'
  obtain ⟨⟨p1, p2, hm2⟩, ⟨c1, c2⟩, w1, w2⟩ := hp
  refine ⟨.s, .nil, Con.pre (args' := [.rptr false 2 fun j => [listF false n (rdF g), listF false k (rdF f)].getD j .dead]) ⟨Sub.rptrL hm2 fun j hj => ?_, trivial⟩ ?_⟩
  · match j, hj with
    | 0, _ => exact Sub.asL hL p1
    | 1, _ => exact Sub.asL hL' p2
  have hn := p1.1
  have hk := p2.1
  generalize rdF g = x at w1 ⊢
  generalize rdF f = y at w2 ⊢
  refine Con.of ttok Tryd.func49 rfl rfl (Nat.zero_le _) (AW.exec ttok ctPTp_ok (by cbv) ?_)
  have w1' := eq_true w1
  have w2' := eq_true w2
  have s1 := numB_size (x := x) c1
  have s2 := numB_size (x := y) c2
  simp only [natCast_int, Post, All, thenA, canon0, canon064, and_true, true_and, forall_const, implies_true, decide_eq_true_eq, decide_eq_false_iff_not, Bool.not_eq_true', Bool.not_eq_false', Bool.true_and, Bool.and_true, beq_true, beq_false, Int.toNat_natCast, Int.ofNat_lt, Int.ofNat_le, Nat.zero_add, Nat.add_zero, imp_self, Bool.cond_false_right, Bool.cond_true_left, Bool.cond_true_right, IsF, rdF_eq, fOf, AV.f.injEq, exists_eq', free_list, free_fn0, List.not_mem_nil, List.mem_cons, false_imp, forall_eq, or_false, free_i, free_f, free_b, ren_f, ren_i, ren_b, and_self, bne_iff_ne, bne_eq_false_iff_eq, ne_eq, Int.natCast_inj, or_true, true_or, freeB_list, unfr_f, unfr_i, unfr_b, unfr_c, unfr_s, free_c, free_s, ren_c, ren_s, unfr_ro, unfr_rptr, ren_ro, free_ll, free_box, kill_f, kill_i, kill_b, kill_c, kill_s, kill_rof, kill_rot, Int.toNat_zero, isFF_ll, rowN_ll, rowX_ll, AllFree, Option.some.injEq, Prod.mk.injEq, Bool.false_eq_true, Bool.true_eq_false, hn, hk, c1, c2, w1', w2']
  (repeat' first | with_reducible assumption | with_reducible apply And.intro | with_reducible intro hh) <;> first | ((first | with_reducible show (_ : Int) ≤ _ | with_reducible show (_ : Int) < _ | with_reducible show (_ : Nat) ≤ _ | with_reducible show (_ : Nat) < _ | with_reducible show (_ : Int) = _ | with_reducible show (_ : Nat) = _ | with_reducible show ¬ _ | with_reducible show _ ≠ _) <;> first | omega | (simp only [Bool.and_eq_true, Bool.or_eq_false_iff, Bool.not_eq_false', Bool.not_eq_true', decide_eq_true_eq, decide_eq_false_iff_not] at *; omega) | (with_reducible assumption)) | (with_reducible assumption) | skip
  · have s1' : (numB (n .u) fun i => x i).size ≤ 2304 := s1
    have := semi_one
    omega
  · have s1' : (numB (n .u) fun i => x i).size ≤ 2304 := s1
    have s2' : (numB (k .u) fun i => y i).size ≤ 2304 := s2
    have := semi_one
    rw [ByteArray.size_append]
    omega
  · exact fin_ret (.inl rfl) (by cbv) (by simp) (To.fresh (.cons (.s rfl) .nil))
def ctSTS : CT := [(48, .r kStepsP), (49, .r kSTp)]
theorem ctSTS_ok : CTok Tryd.prog ctSTS := .cons l02Is_tells (.cons specST (.nil _))
theorem specStepsText : Tells Tryd.prog 24 (.r kST) := by
  intro args r H' p hr hp
  unfold kST at hr
  split at hr <;> first | (cases hr; done) | skip
  split at hr <;> cases hr
  rename_i n g m h hL hL'
  obtain ⟨⟨p1, p2⟩, w1, w2⟩ := hp
  refine ⟨allFr_tup2 .s .b, .nil, Con.pre (args' := [.agg [listF false n (rdF g), listF false m (rdF h)]]) ⟨Sub.aggL ⟨.asL hL p1, .asL hL' p2, trivial⟩, trivial⟩ ?_⟩
  have hn := p1.1
  have hm := p2.1
  generalize rdF g = x at w1 ⊢
  generalize rdF h = y at w2 ⊢
  refine Con.of ttok Tryd.func24 rfl rfl (Nat.zero_le _) (AW.exec ttok ctSTS_ok (by cbv) ?_)
  have w1' := eq_true w1
  have w2' := eq_true w2
  simp only [natCast_int, Post, All, thenA, canon0, canon064, and_true, true_and, forall_const, implies_true, decide_eq_true_eq, decide_eq_false_iff_not, Bool.not_eq_true', Bool.not_eq_false', Bool.true_and, Bool.and_true, beq_true, beq_false, Int.toNat_natCast, Int.ofNat_lt, Int.ofNat_le, Nat.zero_add, Nat.add_zero, imp_self, Bool.cond_false_right, Bool.cond_true_left, Bool.cond_true_right, IsF, rdF_eq, fOf, AV.f.injEq, exists_eq', free_list, free_fn0, List.not_mem_nil, List.mem_cons, false_imp, forall_eq, or_false, free_i, free_f, free_b, ren_f, ren_i, ren_b, and_self, bne_iff_ne, bne_eq_false_iff_eq, ne_eq, Int.natCast_inj, or_true, true_or, freeB_list, unfr_f, unfr_i, unfr_b, unfr_c, unfr_s, free_c, free_s, ren_c, ren_s, unfr_ro, unfr_rptr, ren_ro, free_ll, free_box, kill_f, kill_i, kill_b, kill_c, kill_s, kill_rof, kill_rot, Int.toNat_zero, isFF_ll, rowN_ll, rowX_ll, AllFree, Option.some.injEq, Prod.mk.injEq, Bool.false_eq_true, Bool.true_eq_false, hn, hm, w1', w2']
  (repeat' first | with_reducible assumption | with_reducible apply And.intro | with_reducible intro hh) <;> first | ((first | with_reducible show (_ : Int) ≤ _ | with_reducible show (_ : Int) < _ | with_reducible show (_ : Nat) ≤ _ | with_reducible show (_ : Nat) < _ | with_reducible show (_ : Int) = _ | with_reducible show (_ : Nat) = _ | with_reducible show ¬ _ | with_reducible show _ ≠ _) <;> first | omega | (simp only [Bool.and_eq_true, Bool.or_eq_false_iff, Bool.not_eq_false', Bool.not_eq_true', decide_eq_true_eq, decide_eq_false_iff_not] at *; omega) | (with_reducible assumption)) | (with_reducible assumption) | skip
  · refine fin_ret (.inl rfl) (by cbv) (by simp) (To.fresh (.cons (.tup (.cons (.s ?_) (.cons (.b ?_) .nil))) .nil))
    · have e : stepsF (n .u) x (m .u) y = false := hh
      simp only [e, cond_false]
    · exact hh.symm
  · exact (stepsF_few (x := x) (y := y) ‹_›).1
  · exact (stepsF_few (x := x) (y := y) ‹_›).2
  · have e : stepsF (n .u) x (m .u) y = true := by assumption
    refine fin_ret (.inl rfl) (by cbv) (by simp) (To.fresh (.cons (.tup (.cons (.s ?_) (.cons (.b ?_) .nil))) .nil))
    · simp only [e, cond_true]
    · exact e.symm
end Go.Proofs.YtjlkflceicdcdaaDoor
