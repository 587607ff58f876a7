/- Steps read: a text that reads as numbers has no semicolon; what is cut at the first one. -/
import Derived.Test.YtkglnfkbejoheaaDoorTq
import Derived.Test.YtkglnfkbejoheaaDoorHg
import Derived.Test.YtkglnfkbejoheaaDoorHc
set_option linter.unusedSimpArgs false
set_option linter.unusedVariables false
namespace Go.Proofs.YtkglnfkbejoheaaDoor
open Go.Aw
open Go.Lib (indexByte countByte extract_eq size_eq decDigits itoa)
theorem hexval_all : ∀ (l : List UInt8) (n m : Nat), hexval n l = some m → ∀ b ∈ l, ∃ d, dl b = some d := by
  intro l
  induction l with
  | nil => intro n m _ b hb; cases hb
  | cons c r ih =>
    intro n m h b hb
    unfold hexval at h
    split at h
    · cases h
    · rename_i d e
      rcases List.mem_cons.1 hb with rfl | hb
      · exact ⟨d, e⟩
      · exact ih _ _ h b hb
theorem dl_semi : dl 59 = none := by decide
theorem okH_semi {s : ByteArray} (h : okH s = true) : (59 : UInt8) ∉ s.data.toList := by
  intro hm
  unfold okH at h
  rw [Bool.and_eq_true] at h
  obtain ⟨_, h⟩ := h
  split at h
  · rename_i m e
    obtain ⟨d, hd⟩ := hexval_all _ _ _ e 59 hm
    rw [dl_semi] at hd
    cases hd
  · cases h
theorem split_mem (c b : UInt8) : ∀ l : List UInt8, b ∈ l → b ≠ c → ∃ p ∈ splitB c l, b ∈ p := by
  intro l
  induction l with
  | nil => intro h; cases h
  | cons x l ih =>
    intro h hbc
    unfold splitB
    split
    · rename_i e
      have hx : x = c := by simpa using e
      rcases List.mem_cons.1 h with rfl | h
      · exact absurd hx hbc
      · obtain ⟨p, hp, hb⟩ := ih h hbc
        exact ⟨p, List.mem_cons_of_mem _ hp, hb⟩
    · rename_i e
      split
      · rename_i q r eq
        rcases List.mem_cons.1 h with rfl | h
        · exact ⟨b :: q, List.mem_cons_self .., List.mem_cons_self ..⟩
        · obtain ⟨p, hp, hb⟩ := ih h hbc
          rw [eq] at hp
          rcases List.mem_cons.1 hp with rfl | hp
          · exact ⟨x :: p, List.mem_cons_self .., List.mem_cons_of_mem _ hb⟩
          · exact ⟨p, List.mem_cons_of_mem _ hp, hb⟩
      · rename_i eq
        exact absurd eq (splitB_ne c l)
theorem okRN_semi {s : ByteArray} (h : okRN s = true) : (59 : UInt8) ∉ s.data.toList := by
  intro hm
  unfold okRN at h
  cases e : isNone s with
  | true =>
    unfold isNone at e
    have e' : s.toList = (⟨⟨[110, 111, 110, 101]⟩⟩ : ByteArray).toList := by simpa using e
    rw [Lib.toList_data, Lib.toList_data] at e'
    rw [e'] at hm
    exact absurd hm (by decide)
  | false =>
    rw [e, cond_false, Bool.and_eq_true] at h
    obtain ⟨p, hp, hb⟩ := split_mem 44 59 s.data.toList hm (by decide)
    obtain ⟨i, hi, e2⟩ := List.mem_iff_getElem.1 hp
    have h1 : okH (pieceB s 44 i) = true := List.all_eq_true.1 h.2 i (List.mem_range.2 hi)
    refine okH_semi h1 ?_
    unfold pieceB
    rw [list_toB, List.getD_eq_getElem?_getD, List.getElem?_eq_getElem hi, e2]
    exact hb
def nS (t : ByteArray) (i : Nat) : Nat := numRN (pieceB t 59 i)
def xS (t : ByteArray) (i j : Nat) : Nat := xH (pieceB (pieceB t 59 i) 44 j)
def okRS (t : ByteArray) : Bool := (decide (cutN t 59 = 2) && (okRN (pieceB t 59 0) && okRN (pieceB t 59 1))) && stepsF (nS t 0) (xS t 0) (nS t 1) (xS t 1)
abbrev semi : ByteArray := ⟨⟨[59]⟩⟩
theorem markOf_semi : markOf semi = 59 := rfl
theorem cut_split {t : ByteArray} (h : 0 ≤ indexByte t.data.toList 59) : splitB 59 t.data.toList = (cutA t semi).data.toList :: splitB 59 (cutZ t semi).data.toList := by
  obtain ⟨h1, h2, h3⟩ := index_some h
  unfold cutA cutZ
  rw [markOf_semi, decide_eq_true h, cond_true, cond_true, extract_eq, extract_eq]
  rw [size_eq]
  simp only [List.drop_zero, Nat.sub_zero]
  rw [List.take_of_length_le (l := t.data.toList.drop ((indexByte t.data.toList 59).toNat + 1)) (by simp)]
  conv => lhs; rw [h2]
  rw [splitB_app h3]
theorem cut_yes {t : ByteArray} (h : 0 ≤ indexByte t.data.toList 59) (hz : okRN (cutZ t semi) = true) : cutN t 59 = 2 ∧ cutA t semi = pieceB t 59 0 ∧ cutZ t semi = pieceB t 59 1 := by
  have e := cut_split h
  rw [splitB_none (okRN_semi hz)] at e
  refine ⟨by unfold cutN; rw [e]; rfl, ?_, ?_⟩
  · unfold pieceB; rw [e]; exact (toB_list _).symm
  · unfold pieceB; rw [e]; exact (toB_list _).symm
theorem cut_none {t : ByteArray} (h : ¬ 0 ≤ indexByte t.data.toList 59) : okRS t = false := by
  unfold okRS cutN
  rw [splitB_none (index_none (by omega))]
  rfl
theorem cut_first {t : ByteArray} (h : 0 ≤ indexByte t.data.toList 59) (ha : okRN (cutA t semi) = false) : okRS t = false := by
  have e : pieceB t 59 0 = cutA t semi := by unfold pieceB; rw [cut_split h]; exact toB_list _
  unfold okRS
  rw [e, ha, Bool.false_and, Bool.and_false, Bool.false_and]
theorem cut_second {t : ByteArray} (h : 0 ≤ indexByte t.data.toList 59) (hz : okRN (cutZ t semi) = false) : okRS t = false := by
  unfold okRS
  by_cases h2 : cutN t 59 = 2
  · have e : pieceB t 59 1 = cutZ t semi := by
      have e := cut_split h
      unfold cutN at h2
      rw [e, List.length_cons] at h2
      have h1 : (splitB 59 (cutZ t semi).data.toList).length = 1 := by omega
      rw [splitB_length] at h1
      have hn : (59 : UInt8) ∉ (cutZ t semi).data.toList := fun hm => by
        have : 0 < countByte (cutZ t semi).data.toList 59 := List.count_pos_iff.2 hm
        omega
      unfold pieceB
      rw [e, splitB_none hn]
      exact toB_list _
    rw [e, hz, Bool.and_false, Bool.and_false, Bool.false_and]
  · rw [decide_eq_false h2, Bool.false_and, Bool.false_and]
abbrev yesS (n m : Th Nat) : AV := .tup [.agg [.own 0 (fun _ => 0) n 1, .own 1 (fun _ => 0) m 1], .b fun _ => true]
abbrev noS : AV := .tup [.agg [.v (.slice none 0 0), .v (.slice none 0 0)], .b fun _ => false]
theorem allFr_yesS {n m : Th Nat} : AllFr (yesS n m) := allFr_tup2 (.agg fun a ha => by
  simp only [List.mem_cons, List.not_mem_nil, or_false] at ha
  rcases ha with rfl | rfl <;> exact .own) .b
theorem allFr_noS : AllFr noS := allFr_tup2 (.agg fun a ha => by
  simp only [List.mem_cons, List.not_mem_nil, or_false] at ha
  rcases ha with rfl | rfl <;> exact .v) .b
theorem noS_to {H H' : Heap} {σ : List Nat} : AllTo H H' σ true [noS] [noS] := .cons (.tup (.cons (.agg (.cons (.v _) (.cons (.v _) .nil))) (.cons (.b rfl) .nil))) .nil
theorem frH_2 {fr fr' : Bool} {n m : Th Nat} {x y : Nat → Nat} : FrH [blkF fr n x, blkF fr' m y] := .cons (fun fr B e => by cases e; exact .tab fun _ _ _ _ => .f) .list
def kGiveS : Kg
  | [.agg [.own 0 i n 1, .own 1 j m 1]], [some (_, .tab n' 1 g), some (_, .tab m' 1 h)] => some (.two (fun _ => stepsF (n' .u) (rdF g) (m' .u) (rdF h))
      (.one (yesS n' m') [blkF false n' (rdF g), blkF false m' (rdF h)] fun _ => (IsF n' g ∧ i .u = 0 ∧ n .u = n' .u) ∧ (IsF m' h ∧ j .u = 0 ∧ m .u = m' .u))
      (.one noS [blkF false n' (rdF g), blkF false m' (rdF h)] fun _ => (IsF n' g ∧ i .u = 0 ∧ n .u = n' .u) ∧ (IsF m' h ∧ j .u = 0 ∧ m .u = m' .u)))
  | _, _ => none
theorem two_to {X : Heap} {n m : Th Nat} {x y : Nat → Nat} {env env' : List AV} (h : AllTo (blkF false n x :: blkF false m y :: X) [blkF false n x, blkF false m y] [0, 1] true env env') : To 2 env (blkF false n x :: blkF false m y :: X) env' [blkF false n x, blkF false m y] :=
  To.pick [0, 1] (by decide) (Nat.le_refl _) (fun j hj => by
    match j, hj with
    | 0, _ => rfl
    | 1, _ => rfl) ⟨.list (fun e => e) (Nat.le_refl _) fun j hj => AvTo.f rfl, .list (fun e => e) (Nat.le_refl _) fun j hj => AvTo.f rfl, trivial⟩ h
theorem yesS_to {X : Heap} {n m : Th Nat} {x y : Nat → Nat} : AllTo (blkF false n x :: blkF false m y :: X) [blkF false n x, blkF false m y] [0, 1] true [yesS n m] [yesS n m] :=
  .cons (.tup (.cons (.agg (.cons (.own rfl rfl rfl rfl) (.cons (.own rfl rfl rfl rfl) .nil))) (.cons (.b rfl) .nil))) .nil
def ctChkS : CT := [(60, .r kStepsV)]
theorem ctChkS_ok : CTok Tryd.prog ctChkS := .cons ValidSteps_tells (.nil _)
theorem checkedS_g : Tells Tryd.prog 29 (.g 1 kGiveS) := by
  intro args Hc r hr
  unfold kGiveS at hr
  split at hr <;> cases hr
  rename_i i n j m fr n' g fr' m' h
  refine AnsOk.two ttok Tryd.func29 rfl rfl (Nat.le_refl _) (Nat.le_refl _) allFr_yesS allFr_noS frH_2 frH_2 fun ⟨⟨p1, hi, hn⟩, ⟨p2, hj, hm⟩⟩ => ⟨[.agg [.own 0 i n 1, .own 1 j m 1]], ⟨Sub.refl _, trivial⟩, AW.via (H' := [blkF false n' (rdF g), blkF false m' (rdF h)]) (env' := mkE Tryd.f29.ntmps [(0, .agg [.own 0 (fun _ => 0) n' 1, .own 1 (fun _ => 0) m' 1])]) (To.same (Nat.le_refl _) ⟨.list (fun e => absurd e (by simp)) (Nat.le_refl _) fun j hj => isF_to p1 hj, .list (fun e => absurd e (by simp)) (Nat.le_refl _) fun j hj => isF_to p2 hj, trivial⟩ ?_) ?_⟩
  · (repeat' first | exact AllTo.nil | apply AllTo.cons) <;> first | exact AvTo.dead _ | exact AvTo.i rfl | exact AvTo.agg ⟨ownTo rfl rfl hi hn, ownTo rfl rfl hj hm, trivial⟩
  have h1 := p1.1
  have h2 := p2.1
  generalize rdF g = x
  generalize rdF h = y
  refine AW.exec ttok ctChkS_ok (by cbv) ?_
  simp only [natCast_int, Post, All, thenA, canon0, canon064, and_true, true_and, forall_const, implies_true, decide_eq_true_eq, decide_eq_false_iff_not, Bool.not_eq_true', Bool.not_eq_false', Bool.true_and, Bool.and_true, beq_true, beq_false, Int.toNat_natCast, Int.ofNat_lt, Int.ofNat_le, Nat.zero_add, Nat.add_zero, imp_self, Bool.cond_false_right, Bool.cond_true_left, Bool.cond_true_right, IsF, rdF_eq, fOf, AV.f.injEq, exists_eq', free_list, free_fn0, List.not_mem_nil, List.mem_cons, false_imp, forall_eq, or_false, free_i, free_f, free_b, ren_f, ren_i, ren_b, and_self, bne_iff_ne, bne_eq_false_iff_eq, ne_eq, Int.natCast_inj, or_true, true_or, freeB_list, unfr_f, unfr_i, unfr_b, unfr_c, unfr_s, free_c, free_s, ren_c, ren_s, unfr_ro, unfr_rptr, ren_ro, free_ll, free_box, kill_f, kill_i, kill_b, kill_c, kill_s, kill_rof, kill_rot, Int.toNat_zero, isFF_ll, rowN_ll, rowX_ll, AllFree, Option.some.injEq, Prod.mk.injEq, Bool.false_eq_true, Bool.true_eq_false, h1, h2]
  (repeat' first | with_reducible assumption | with_reducible apply And.intro | with_reducible intro hh) <;> first | ((first | with_reducible show (_ : Int) ≤ _ | with_reducible show (_ : Int) < _ | with_reducible show (_ : Nat) ≤ _ | with_reducible show (_ : Nat) < _ | with_reducible show (_ : Int) = _ | with_reducible show (_ : Nat) = _ | with_reducible show ¬ _ | with_reducible show _ ≠ _) <;> first | omega | (simp only [Bool.and_eq_true, Bool.or_eq_false_iff, Bool.not_eq_false', Bool.not_eq_true', decide_eq_true_eq, decide_eq_false_iff_not] at *; omega) | (with_reducible assumption)) | (with_reducible assumption) | skip
  · exact okA.no (by assumption) (fin_ret (.inl rfl) (by cbv) (by simp) (two_to noS_to))
  · exact okA.yes (by assumption) (fin_ret (.inl rfl) (by cbv) (by simp) (two_to yesS_to))
def ctGiveS : CT := [(91, .r kStepsP)]
theorem ctGiveS_ok : CTok Tryd.prog ctGiveS := .cons l02Is_tells (.nil _)
theorem giveS_g : Tells Tryd.prog 58 (.g 1 kGiveS) := by
  intro args Hc r hr
  unfold kGiveS at hr
  split at hr <;> cases hr
  rename_i i n j m fr n' g fr' m' h
  refine AnsOk.two ttok Tryd.func58 rfl rfl (Nat.le_refl _) (Nat.le_refl _) allFr_yesS allFr_noS frH_2 frH_2 fun ⟨⟨p1, hi, hn⟩, ⟨p2, hj, hm⟩⟩ => ⟨[.agg [.own 0 i n 1, .own 1 j m 1]], ⟨Sub.refl _, trivial⟩, AW.via (H' := [blkF false n' (rdF g), blkF false m' (rdF h)]) (env' := mkE Tryd.f58.ntmps [(0, .agg [.own 0 (fun _ => 0) n' 1, .own 1 (fun _ => 0) m' 1])]) (To.same (Nat.le_refl _) ⟨.list (fun e => absurd e (by simp)) (Nat.le_refl _) fun j hj => isF_to p1 hj, .list (fun e => absurd e (by simp)) (Nat.le_refl _) fun j hj => isF_to p2 hj, trivial⟩ ?_) ?_⟩
  · (repeat' first | exact AllTo.nil | apply AllTo.cons) <;> first | exact AvTo.dead _ | exact AvTo.i rfl | exact AvTo.agg ⟨ownTo rfl rfl hi hn, ownTo rfl rfl hj hm, trivial⟩
  have h1 := p1.1
  have h2 := p2.1
  generalize rdF g = x
  generalize rdF h = y
  refine AW.exec ttok ctGiveS_ok (by cbv) ?_
  simp only [natCast_int, Post, All, thenA, canon0, canon064, and_true, true_and, forall_const, implies_true, decide_eq_true_eq, decide_eq_false_iff_not, Bool.not_eq_true', Bool.not_eq_false', Bool.true_and, Bool.and_true, beq_true, beq_false, Int.toNat_natCast, Int.ofNat_lt, Int.ofNat_le, Nat.zero_add, Nat.add_zero, imp_self, Bool.cond_false_right, Bool.cond_true_left, Bool.cond_true_right, IsF, rdF_eq, fOf, AV.f.injEq, exists_eq', free_list, free_fn0, List.not_mem_nil, List.mem_cons, false_imp, forall_eq, or_false, free_i, free_f, free_b, ren_f, ren_i, ren_b, and_self, bne_iff_ne, bne_eq_false_iff_eq, ne_eq, Int.natCast_inj, or_true, true_or, freeB_list, unfr_f, unfr_i, unfr_b, unfr_c, unfr_s, free_c, free_s, ren_c, ren_s, unfr_ro, unfr_rptr, ren_ro, free_ll, free_box, kill_f, kill_i, kill_b, kill_c, kill_s, kill_rof, kill_rot, Int.toNat_zero, isFF_ll, rowN_ll, rowX_ll, AllFree, Option.some.injEq, Prod.mk.injEq, Bool.false_eq_true, Bool.true_eq_false, h1, h2]
  (repeat' first | with_reducible assumption | with_reducible apply And.intro | with_reducible intro hh) <;> first | ((first | with_reducible show (_ : Int) ≤ _ | with_reducible show (_ : Int) < _ | with_reducible show (_ : Nat) ≤ _ | with_reducible show (_ : Nat) < _ | with_reducible show (_ : Int) = _ | with_reducible show (_ : Nat) = _ | with_reducible show ¬ _ | with_reducible show _ ≠ _) <;> first | omega | (simp only [Bool.and_eq_true, Bool.or_eq_false_iff, Bool.not_eq_false', Bool.not_eq_true', decide_eq_true_eq, decide_eq_false_iff_not] at *; omega) | (with_reducible assumption)) | (with_reducible assumption) | skip
  · exact okA.no (by assumption) (fin_ret (.inl rfl) (by cbv) (by simp) (two_to noS_to))
  · exact okA.yes (by assumption) (fin_ret (.inl rfl) (by cbv) (by simp) (two_to yesS_to))
end Go.Proofs.YtkglnfkbejoheaaDoor
