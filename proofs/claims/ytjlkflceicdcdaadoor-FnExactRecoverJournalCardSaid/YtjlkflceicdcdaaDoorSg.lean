/- Journals recovered, on both sides. -/
import Derived.Test.YtjlkflceicdcdaaDoorFk
set_option linter.unusedSimpArgs false
set_option linter.unusedVariables false
namespace Go.Proofs.YtjlkflceicdcdaaDoor
open Go.Aw
open Go.Lib (indexByte countByte extract_eq size_eq decDigits itoa)
def lineB (x : ByteArray) (j : Nat) : ByteArray := cutZ (pieceB x 10 j) ⟨⟨[32]⟩⟩
def headB (x : ByteArray) (j : Nat) : ByteArray := cutA (pieceB x 10 j) ⟨⟨[32]⟩⟩
def chkJ (x : ByteArray) : Nat → Int
  | 0 => 0
  | j + 1 => chkN (chkJ x j) (lineB x j) (lineB x j).size
def okJ (x : ByteArray) (j : Nat) : Bool := decide (0 ≤ indexByte (pieceB x 10 j).data.toList 32) && ((headB x j).toList == (decB (chkJ x (j + 1))).toList)
def posN (x : ByteArray) : Nat → Nat
  | 0 => 0
  | j + 1 => posN x j + (pieceB x 10 j).size + 1
def firstNo (ok : Nat → Bool) : Nat → Nat → Nat
  | 0, i => i
  | f + 1, i => bif ok i then firstNo ok f (i + 1) else i
theorem firstNo_eq {ok : Nat → Bool} : ∀ {f s K : Nat}, s ≤ K → K ≤ s + f → (∀ i, s ≤ i → i < K → ok i = true) → (K = s + f ∨ ok K = false) → firstNo ok f s = K := by
  intro f
  induction f with
  | zero => intro s K h1 h2 _ _; unfold firstNo; omega
  | succ f ih =>
    intro s K h1 h2 h3 h4
    unfold firstNo
    by_cases e : s = K
    · subst e
      have : ok s = false := h4.resolve_left (by omega)
      rw [this, cond_false]
    · rw [h3 s (Nat.le_refl _) (by omega), cond_true]
      exact ih (by omega) (by omega) (fun i a b => h3 i (by omega) b) (h4.imp_left (by omega))
def recN (x : ByteArray) : Nat := firstNo (okJ x) (cutN x 10 - 1) 0
theorem recN_eq {x : ByteArray} {K : Nat} (h2 : K ≤ cutN x 10 - 1) (h3 : ∀ i, i < K → okJ x i = true) (h4 : K = cutN x 10 - 1 ∨ okJ x K = false) : recN x = K :=
  firstNo_eq (Nat.zero_le _) (by omega) (fun i _ h => h3 i h) (h4.imp_left (by omega))
theorem chkJ_in (x : ByteArray) : ∀ j, 0 ≤ chkJ x j ∧ chkJ x j ≤ 65002 := by
  intro j
  induction j with
  | zero => unfold chkJ; omega
  | succ j ih => exact chkN_in _ ih.1 ih.2 _
def restB (x : ByteArray) (p : Nat) : ByteArray := toB (x.data.toList.drop p)
theorem restB_size (x : ByteArray) (p : Nat) : (restB x p).size = x.size - p := by
  rw [restB, size_toB, List.length_drop, ← size_eq]
theorem extract_rest (x : ByteArray) (p : Nat) : x.extract p x.size = restB x p := by
  rw [extract_eq, List.take_of_length_le (by rw [List.length_drop, ← size_eq]; exact Nat.le_refl _)]
  rfl
theorem rest_rest (x : ByteArray) (p q : Nat) : (restB x p).extract q (restB x p).size = restB x (p + q) := by
  rw [extract_rest, restB, restB, restB, list_toB, List.drop_drop]
theorem extract_size {s : ByteArray} {q : Nat} (h : q ≤ s.size) : (s.extract 0 q).size = q := by
  have e := size_eq s
  rw [extract_eq, size_eq]
  simp
  omega
theorem cutA_le (s y : ByteArray) : (cutA s y).size ≤ s.size := by
  unfold cutA
  cases decide (0 ≤ indexByte s.data.toList (markOf y)) with
  | false => exact Nat.le_refl _
  | true => rw [cond_true, extract_eq, size_eq, size_eq]; simp; omega
theorem cutZ_le (s y : ByteArray) : (cutZ s y).size ≤ s.size := by
  unfold cutZ
  cases decide (0 ≤ indexByte s.data.toList (markOf y)) with
  | false => exact Nat.zero_le _
  | true => rw [cond_true, extract_eq, size_eq, size_eq]; simp
theorem piece_le {x : ByteArray} {c : UInt8} {j : Nat} {s : ByteArray} (h : RestAt x c j s) : (pieceB x c j).size ≤ x.size := by
  by_cases hi : 0 ≤ indexByte s.data.toList c
  · obtain ⟨h1, _, _, h4⟩ := h.hit hi
    rw [h1, extract_size (by omega)]
    have := h.2
    omega
  · rw [(h.miss (by omega)).1]
    exact h.2
theorem RestAt.next {x : ByteArray} {j p : Nat} (h : RestAt x 10 j (restB x p)) (hp : p ≤ x.size) (hi : 0 ≤ indexByte (restB x p).data.toList 10) :
    pieceB x 10 j = (restB x p).extract 0 (indexByte (restB x p).data.toList 10).toNat ∧ RestAt x 10 (j + 1) (restB x (p + (pieceB x 10 j).size + 1)) ∧ p + (pieceB x 10 j).size + 1 ≤ x.size ∧ j + 1 < cutN x 10 := by
  obtain ⟨k1, k2, k3, k4⟩ := h.hit hi
  have hs : (pieceB x 10 j).size = (indexByte (restB x p).data.toList 10).toNat := by rw [k1, extract_size (by omega)]
  rw [rest_rest] at k2
  have := restB_size x p
  refine ⟨k1, ?_, by omega, k3⟩
  rw [hs, Nat.add_assoc]
  exact k2
theorem cut_piece {x : ByteArray} {j : Nat} {s : ByteArray} (hR : RestAt x 10 j s) (hi : 0 ≤ indexByte s.data.toList 10) : cutA s ⟨⟨[10]⟩⟩ = pieceB x 10 j := by
  unfold cutA
  rw [show markOf ⟨⟨[10]⟩⟩ = 10 from rfl, decide_eq_true hi, cond_true, (hR.hit hi).1]
theorem okJ_cut {x : ByteArray} {j : Nat} {s : ByteArray} (hR : RestAt x 10 j s) (hi : 0 ≤ indexByte s.data.toList 10) : okJ x j = (decide (0 ≤ indexByte (cutA s ⟨⟨[10]⟩⟩).data.toList 32) && ((cutA (cutA s ⟨⟨[10]⟩⟩) ⟨⟨[32]⟩⟩).toList == (decB (chkN (chkJ x j) (cutZ (cutA s ⟨⟨[10]⟩⟩) ⟨⟨[32]⟩⟩) (cutZ (cutA s ⟨⟨[10]⟩⟩) ⟨⟨[32]⟩⟩).size)).toList)) := by
  rw [cut_piece hR hi]
  rfl
noncomputable abbrev yesR (x : Th ByteArray) : AV := .tup [.own 0 (fun _ => 0) (fun _ => recN (x .u)) 1, .i .i64 fun _ => (posN (x .u) (recN (x .u)) : Int), .b fun _ => true]
abbrev noR : AV := .tup [.v (.slice none 0 0), .i .i64 fun _ => 0, .b fun _ => false]
noncomputable def kRec : Kg
  | [.s x], [] => some (.two (fun _ => decide (((x .u).size : Int) ≤ 16000)) (.one (yesR x) [blkT true (fun _ => recN (x .u)) (lineB (x .u))] fun _ => (x .u).size ≤ 1073741824) (.one noR [] fun _ => (x .u).size ≤ 1073741824))
  | _, _ => none
def ctImplRec : CT := [(41, .r kCut1), (35, .r kChk), (37, .r kDec)]
theorem ctImplRec_ok : CTok Tryd.prog ctImplRec := .cons cutS_tells (.cons implChk (.cons implDec (.nil _)))
set_option maxHeartbeats 2000000 in
theorem implRec : Tells Tryd.prog 17 (.g 0 kRec) := by
  intro args Hc r hr
  unfold kRec at hr
  split at hr <;> cases hr
  rename_i x
  refine AnsOk.two ttok Tryd.func17 rfl rfl (Nat.zero_le _) (Nat.zero_le _) (allFr_tup3 .own .i .b) (allFr_tup3 .v .i .b) frH_T .nil fun hF => ⟨[.s x], ⟨Sub.refl _, trivial⟩, ?_⟩
  have hx : (x .u).size ≤ 1073741824 := hF
  refine AW.exec ttok ctImplRec_ok (by cbv) ?_
  simp only [natCast_int, Post, All, thenA, canon0, canon064, and_true, true_and, forall_const, implies_true, decide_eq_true_eq, decide_eq_false_iff_not, Bool.not_eq_true', Bool.not_eq_false', Bool.true_and, Bool.and_true, beq_true, beq_false, Int.toNat_natCast, Int.ofNat_lt, Int.ofNat_le, Nat.zero_add, Nat.add_zero, imp_self, Bool.cond_false_right, Bool.cond_true_left, Bool.cond_true_right, IsF, rdF_eq, fOf, AV.f.injEq, exists_eq', free_list, free_fn0, List.not_mem_nil, List.mem_cons, false_imp, forall_eq, or_false, free_i, free_f, free_b, ren_f, ren_i, ren_b, and_self, bne_iff_ne, bne_eq_false_iff_eq, ne_eq, Int.natCast_inj, or_true, true_or, freeB_list, unfr_f, unfr_i, unfr_b, unfr_c, unfr_s, free_c, free_s, ren_c, ren_s, unfr_ro, unfr_rptr, ren_ro, free_ll, free_box, kill_f, kill_i, kill_b, kill_c, kill_s, kill_rof, kill_rot, Int.toNat_zero, isFF_ll, rowN_ll, rowX_ll, AllFree, Option.some.injEq, Prod.mk.injEq, Bool.false_eq_true, Bool.true_eq_false, hx]
  (repeat' first | with_reducible assumption | with_reducible apply And.intro | with_reducible intro hh) <;> first | ((first | with_reducible show (_ : Int) ≤ _ | with_reducible show (_ : Int) < _ | with_reducible show (_ : Nat) ≤ _ | with_reducible show (_ : Nat) < _ | with_reducible show (_ : Int) = _ | with_reducible show (_ : Nat) = _ | with_reducible show ¬ _ | with_reducible show _ ≠ _) <;> first | omega | (simp only [Bool.and_eq_true, Bool.or_eq_false_iff, Bool.not_eq_false', Bool.not_eq_true', decide_eq_true_eq, decide_eq_false_iff_not] at *; omega) | (with_reducible assumption)) | (with_reducible assumption) | skip
  · exact okA.no (decide_eq_false (by omega)) (fin_ret (.inl rfl) (by cbv) (by simp) (To.fresh (.cons (.tup (.cons (.v _) (.cons (.i rfl) (.cons (.b rfl) .nil)))) .nil)))
  have hok16 : decide (((x .u).size : Int) ≤ 16000) = true := decide_eq_true (by omega)
  refine AW.loopH (ι := Nat) (fun j => j ≤ cutN (x .u) 10 - 1 ∧ (RestAt (x .u) 10 j (restB (x .u) (posN (x .u) j)) ∧ posN (x .u) j ≤ (x .u).size) ∧ ∀ i, i < j → okJ (x .u) i = true) (fun j => cutN (x .u) 10 - j) (fun j => mkE Tryd.f17.ntmps [(0, .s x), (5, .own 0 (fun _ => 0) (fun _ => j) 1), (6, .i .i64 fun _ => (posN (x .u) j : Int)), (7, .i .i64 fun _ => chkJ (x .u) j)])
    (fun j => [blkT true (fun _ => j) (lineB (x .u))]) 0 ⟨Nat.zero_le _, ⟨?_, Nat.zero_le _⟩, fun i hi => absurd hi (Nat.not_lt_zero _)⟩ (To.list (Nat.zero_le _) (Nat.le_refl _) (fun e => e) (fun j hj => absurd hj (Nat.not_lt_zero _)) ?_) ?_
  · show RestAt (x .u) 10 0 (restB (x .u) 0)
    rw [restB, List.drop_zero, toB_list]
    exact RestAt.start _ _
  · (repeat' first | exact AllTo.nil | apply AllTo.cons) <;> first | exact AvTo.dead _ | exact AvTo.s rfl | exact AvTo.i rfl | exact AvTo.own rfl rfl rfl rfl
  · rintro Q' hQ j ⟨hj, ⟨hR, hp⟩, hok⟩
    have hin := chkJ_in (x .u) j
    have hE := extract_rest (x .u) (posN (x .u) j)
    have hs := restB_size (x .u) (posN (x .u) j)
    have hM : markOf ⟨⟨[10]⟩⟩ = 10 := rfl
    have hM2 : markOf ⟨⟨[32]⟩⟩ = 32 := rfl
    have hS : (⟨⟨[10]⟩⟩ : ByteArray).size = 1 := rfl
    have hS2 : (⟨⟨[32]⟩⟩ : ByteArray).size = 1 := rfl
    generalize hsd : restB (x .u) (posN (x .u) j) = s at *
    have hA := cutA_le s ⟨⟨[10]⟩⟩
    have hZ := cutZ_le (cutA s ⟨⟨[10]⟩⟩) ⟨⟨[32]⟩⟩
    have hCh := chkN_in (cutZ (cutA s ⟨⟨[10]⟩⟩) ⟨⟨[32]⟩⟩) hin.1 hin.2 (cutZ (cutA s ⟨⟨[10]⟩⟩) ⟨⟨[32]⟩⟩).size
    have hj1 := cutN_le (x .u) 10
    have hj0 := cutN_pos (x .u) 10
    refine AW.exec ttok ctImplRec_ok (by cbv) ?_
    simp only [natCast_int, Post, All, thenA, canon0, canon064, and_true, true_and, forall_const, implies_true, decide_eq_true_eq, decide_eq_false_iff_not, Bool.not_eq_true', Bool.not_eq_false', Bool.true_and, Bool.and_true, beq_true, beq_false, Int.toNat_natCast, Int.ofNat_lt, Int.ofNat_le, Nat.zero_add, Nat.add_zero, imp_self, Bool.cond_false_right, Bool.cond_true_left, Bool.cond_true_right, IsF, rdF_eq, fOf, AV.f.injEq, exists_eq', free_list, free_fn0, List.not_mem_nil, List.mem_cons, false_imp, forall_eq, or_false, free_i, free_f, free_b, ren_f, ren_i, ren_b, and_self, bne_iff_ne, bne_eq_false_iff_eq, ne_eq, Int.natCast_inj, or_true, true_or, freeB_list, unfr_f, unfr_i, unfr_b, unfr_c, unfr_s, free_c, free_s, ren_c, ren_s, unfr_ro, unfr_rptr, ren_ro, free_ll, free_box, kill_f, kill_i, kill_b, kill_c, kill_s, kill_rof, kill_rot, Int.toNat_zero, isFF_ll, rowN_ll, rowX_ll, AllFree, Option.some.injEq, Prod.mk.injEq, Bool.false_eq_true, Bool.true_eq_false, hE, hM, hM2, hS, hS2]
    (repeat' first | with_reducible assumption | with_reducible apply And.intro | with_reducible intro hh) <;> first | ((first | with_reducible show (_ : Int) ≤ _ | with_reducible show (_ : Int) < _ | with_reducible show (_ : Nat) ≤ _ | with_reducible show (_ : Nat) < _ | with_reducible show (_ : Int) = _ | with_reducible show (_ : Nat) = _ | with_reducible show ¬ _ | with_reducible show _ ≠ _) <;> first | omega | (simp only [Bool.and_eq_true, Bool.or_eq_false_iff, Bool.not_eq_false', Bool.not_eq_true', decide_eq_true_eq, decide_eq_false_iff_not] at *; omega) | (with_reducible assumption)) | (with_reducible assumption) | skip
    all_goals try omega
    · have c : (!decide (0 ≤ indexByte s.data.toList 10) || !decide (0 ≤ indexByte (cutA s ⟨⟨[10]⟩⟩).data.toList 32) || !(cutA (cutA s ⟨⟨[10]⟩⟩) ⟨⟨[32]⟩⟩).toList == (decB (chkN (chkJ (x .u) j) (cutZ (cutA s ⟨⟨[10]⟩⟩) ⟨⟨[32]⟩⟩) (cutZ (cutA s ⟨⟨[10]⟩⟩) ⟨⟨[32]⟩⟩).size)).toList) = true := by assumption
      have hrec : recN (x .u) = j := by
        refine recN_eq hj hok ?_
        by_cases hi : 0 ≤ indexByte s.data.toList 10
        · right
          rw [okJ_cut hR hi]
          rw [decide_eq_true hi, Bool.not_true, Bool.false_or] at c
          cases h1 : decide (0 ≤ indexByte (cutA s ⟨⟨[10]⟩⟩).data.toList 32) with
          | false => rfl
          | true =>
            rw [h1, Bool.not_true, Bool.false_or] at c
            rw [Bool.true_and]
            simpa using c
        · left
          have := (hR.miss (by omega)).2
          omega
      obtain ⟨rfl⟩ := hQ
      refine Post.leaf (by cbv) ?_
      exact okA.yes hok16 (fin_ret (.inl rfl) (by cbv) (by simp) (To.list (Nat.zero_le _) (by show recN (x .u) ≤ j; omega) (fun e => e) (fun i hi => AvTo.s rfl) (.cons (.tup (.cons (AvTo.own rfl rfl rfl (by show j = recN (x .u); omega)) (.cons (.i (by show (posN (x .u) j : Int) = (posN (x .u) (recN (x .u)) : Int); rw [hrec])) (.cons (.b rfl) .nil)))) .nil)))
    · have c : (!decide (0 ≤ indexByte s.data.toList 10) || !decide (0 ≤ indexByte (cutA s ⟨⟨[10]⟩⟩).data.toList 32) || !(cutA (cutA s ⟨⟨[10]⟩⟩) ⟨⟨[32]⟩⟩).toList == (decB (chkN (chkJ (x .u) j) (cutZ (cutA s ⟨⟨[10]⟩⟩) ⟨⟨[32]⟩⟩) (cutZ (cutA s ⟨⟨[10]⟩⟩) ⟨⟨[32]⟩⟩).size)).toList) = false := by assumption
      simp only [Bool.or_eq_false_iff, Bool.not_eq_false', decide_eq_true_eq] at c
      obtain ⟨⟨hi, hsp⟩, heq⟩ := c
      have hokj : okJ (x .u) j = true := by rw [okJ_cut hR hi, decide_eq_true hsp, heq]; rfl
      have hcp := cut_piece hR hi
      subst hsd
      obtain ⟨k1, k2, k3, k4⟩ := hR.next hp hi
      refine ⟨j + 1, ⟨by omega, ⟨k2, k3⟩, lt_succ_all hok hokj⟩, by omega, To.moved (k := 2) rfl (Nat.le_refl _) (fun e => e) (fun i hi' => app_one hi' (fun _ => AvTo.s rfl) fun e => AvTo.s (by subst e; rw [hcp]; rfl)) ?_⟩
      have e1 : (posN (x .u) j : Int) + (((cutA (restB (x .u) (posN (x .u) j)) ⟨⟨[10]⟩⟩).size : Int) + 1) = ((posN (x .u) (j + 1) : Nat) : Int) := by
        rw [hcp]
        show _ = ((posN (x .u) j + (pieceB (x .u) 10 j).size + 1 : Nat) : Int)
        omega
      have e2 : chkN (chkJ (x .u) j) (cutZ (cutA (restB (x .u) (posN (x .u) j)) ⟨⟨[10]⟩⟩) ⟨⟨[32]⟩⟩) (cutZ (cutA (restB (x .u) (posN (x .u) j)) ⟨⟨[10]⟩⟩) ⟨⟨[32]⟩⟩).size = chkJ (x .u) (j + 1) := by rw [hcp]; rfl
      (repeat' first | exact AllTo.nil | apply AllTo.cons) <;> first | exact AvTo.dead _ | exact AvTo.s rfl | exact AvTo.i e1 | exact AvTo.i e2 | exact AvTo.own rfl rfl rfl rfl
end Go.Proofs.YtjlkflceicdcdaaDoor
