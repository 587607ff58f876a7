/- Texts: cut into pieces at one byte, on both sides. -/
import Derived.Test.YtkglnfkbejoheaaDoorSb
set_option linter.unusedSimpArgs false
set_option linter.unusedVariables false
namespace Go.Proofs.YtkglnfkbejoheaaDoor
open Go.Aw
open Go.Lib (indexByte countByte extract_eq size_eq)
abbrev blkT (fr : Bool) (n : Th Nat) (x : Nat → ByteArray) : Option (Bool × Blk) := some (fr, .tab n 1 fun i _ => .s fun _ => x (i .u))
theorem frH_T {fr : Bool} {n : Th Nat} {x : Th Nat → Nat → Th ByteArray} : FrH [some (fr, .tab n 1 fun i c => .s (x i c))] := .cons (fun fr B e => by cases e; exact .tab fun _ _ _ _ => .s) .nil
def kSplit : Kg
  | [.s x, .s y], [] => some (.one (.own 0 (fun _ => 0) (fun _ => cutN (x .u) (markOf (y .u))) 1) [blkT true (fun _ => cutN (x .u) (markOf (y .u))) (pieceB (x .u) (markOf (y .u)))] fun _ => (y .u).size = 1 ∧ (x .u).size ≤ 1073741824)
  | _, _ => none
def kGenSplit : Kg
  | [.s x, .s y, .i .i64 a, .i .i64 n], [] => some (.one (.own 0 (fun _ => 0) (fun _ => cutN (x .u) (markOf (y .u))) 1) [blkT true (fun _ => cutN (x .u) (markOf (y .u))) (pieceB (x .u) (markOf (y .u)))] fun _ => (y .u).size = 1 ∧ (x .u).size ≤ 1073741824 ∧ a .u = 0 ∧ n .u = -1)
  | _, _ => none
def ctGen : CT := [(136, .r kCnt1), (137, .r kIdx1)]
theorem ctGen_ok : CTok Tryd.prog ctGen := .cons cnt_tells (.cons idx_tells (.nil _))
theorem gen_g : Tells Tryd.prog 115 (.g 0 kGenSplit) := by
  intro args Hc r hr
  unfold kGenSplit at hr
  split at hr <;> cases hr
  rename_i x y a n
  refine AnsOk.one ttok Tryd.func115 rfl rfl (Nat.zero_le _) .own frH_T fun hF => ?_
  obtain ⟨hy, hx, ha, hn⟩ := hF
  refine ⟨[.s x, .s y, .i .i64 fun _ => 0, .i .i64 fun _ => -1], ⟨Sub.refl _, Sub.refl _, ?_, ?_, trivial⟩, ?_⟩
  · intro w ρ N L v h
    cases h with | i => rw [ha]; exact .i
  · intro w ρ N L v h
    cases h with | i => rw [hn]; exact .i
  have hq := cutN_le (x .u) (markOf (y .u))
  have hc := cutN_count (x .u) (markOf (y .u))
  have hne : (y .u).toList ≠ [] := by
    intro e
    have : (y .u).data.toList = [] := by rw [← Go.Lib.toList_data]; exact e
    rw [size_eq, this] at hy
    cases hy
  have hE : ((y .u).toList == (⟨⟨[]⟩⟩ : ByteArray).toList) = false := by
    cases hb : ((y .u).toList == (⟨⟨[]⟩⟩ : ByteArray).toList) with
    | false => rfl
    | true => rw [eq_of_toList hb] at hy; cases hy
  have h1 : ((-1 : Int) == 0) = false := rfl
  have h2 : (-1 : Int) < 0 := by decide
  have hm : ¬ (((x .u).size : Int) + 1 < ((countByte (x .u).data.toList (markOf (y .u)) : Nat) : Int) + 1) := by omega
  refine AW.exec ttok ctGen_ok (by cbv) ?_
  simp only [natCast_int, Post, All, thenA, canon0, canon064, and_true, true_and, forall_const, implies_true, decide_eq_true_eq, decide_eq_false_iff_not, Bool.not_eq_true', Bool.not_eq_false', Bool.true_and, Bool.and_true, beq_true, beq_false, Int.toNat_natCast, Int.ofNat_lt, Int.ofNat_le, Nat.zero_add, Nat.add_zero, imp_self, Bool.cond_false_right, Bool.cond_true_left, Bool.cond_true_right, IsF, rdF_eq, fOf, AV.f.injEq, exists_eq', free_list, free_fn0, List.not_mem_nil, List.mem_cons, false_imp, forall_eq, or_false, free_i, free_f, free_b, ren_f, ren_i, ren_b, and_self, bne_iff_ne, bne_eq_false_iff_eq, ne_eq, Int.natCast_inj, or_true, true_or, freeB_list, unfr_f, unfr_i, unfr_b, unfr_c, unfr_s, free_c, free_s, ren_c, ren_s, unfr_ro, unfr_rptr, ren_ro, free_ll, free_box, kill_f, kill_i, kill_b, kill_c, kill_s, kill_rof, kill_rot, Int.toNat_zero, isFF_ll, rowN_ll, rowX_ll, AllFree, Option.some.injEq, Prod.mk.injEq, Bool.false_eq_true, Bool.true_eq_false, hy, hE, h1, h2, hm, decide_true, Bool.true_eq_false, if_false, false_imp]
  (repeat' first | with_reducible assumption | with_reducible apply And.intro | with_reducible intro hh) <;> first | ((first | with_reducible show (_ : Int) ≤ _ | with_reducible show (_ : Int) < _ | with_reducible show (_ : Nat) ≤ _ | with_reducible show (_ : Nat) < _ | with_reducible show (_ : Int) = _ | with_reducible show (_ : Nat) = _ | with_reducible show ¬ _ | with_reducible show _ ≠ _) <;> first | omega | (simp only [Bool.and_eq_true, Bool.or_eq_false_iff, Bool.not_eq_false', Bool.not_eq_true', decide_eq_true_eq, decide_eq_false_iff_not] at *; omega) | (with_reducible assumption)) | (with_reducible assumption) | skip
  refine AW.loopH (ι := ByteArray × Nat) (fun q => RestAt (x .u) (markOf (y .u)) q.2 q.1 ∧ q.2 < cutN (x .u) (markOf (y .u))) (fun q => cutN (x .u) (markOf (y .u)) - q.2) (fun q => mkE Tryd.f115.ntmps [(0, .s fun _ => q.1), (1, .s y), (2, .i .i64 fun _ => 0), (3, .i .i64 fun _ => (cutN (x .u) (markOf (y .u)) : Int) - 1), (9, .own 0 (fun _ => 0) (fun _ => cutN (x .u) (markOf (y .u))) 1), (10, .i .i64 fun _ => (q.2 : Int))])
    (fun q => [blkT true (fun _ => cutN (x .u) (markOf (y .u))) fun j => bif decide (j < q.2) then pieceB (x .u) (markOf (y .u)) j else ⟨#[]⟩]) (x .u, 0) ⟨RestAt.start _ _, cutN_pos _ _⟩ (To.list (Nat.zero_le _) (by show cutN (x .u) (markOf (y .u)) ≤ _; omega) (fun e => e) (fun j hj => AvTo.s (by simp)) ?_) ?_
  · (repeat' first | exact AllTo.nil | apply AllTo.cons) <;> first | exact AvTo.dead _ | exact AvTo.s rfl | exact AvTo.i rfl | exact AvTo.i (by first | omega | (simp only [natCast_int]; omega)) | exact AvTo.own rfl rfl rfl (by first | omega | (simp only [natCast_int]; omega))
  · rintro Q' hQ ⟨s, i⟩ ⟨hR, hi⟩
    have hR : RestAt (x .u) (markOf (y .u)) i s := hR
    have hi : i < cutN (x .u) (markOf (y .u)) := hi
    have hs := hR.2
    refine AW.exec ttok ctGen_ok (by cbv) ?_
    simp only [natCast_int, Post, All, thenA, canon0, canon064, and_true, true_and, forall_const, implies_true, decide_eq_true_eq, decide_eq_false_iff_not, Bool.not_eq_true', Bool.not_eq_false', Bool.true_and, Bool.and_true, beq_true, beq_false, Int.toNat_natCast, Int.ofNat_lt, Int.ofNat_le, Nat.zero_add, Nat.add_zero, imp_self, Bool.cond_false_right, Bool.cond_true_left, Bool.cond_true_right, IsF, rdF_eq, fOf, AV.f.injEq, exists_eq', free_list, free_fn0, List.not_mem_nil, List.mem_cons, false_imp, forall_eq, or_false, free_i, free_f, free_b, ren_f, ren_i, ren_b, and_self, bne_iff_ne, bne_eq_false_iff_eq, ne_eq, Int.natCast_inj, or_true, true_or, freeB_list, unfr_f, unfr_i, unfr_b, unfr_c, unfr_s, free_c, free_s, ren_c, ren_s, unfr_ro, unfr_rptr, ren_ro, free_ll, free_box, kill_f, kill_i, kill_b, kill_c, kill_s, kill_rof, kill_rot, Int.toNat_zero, isFF_ll, rowN_ll, rowX_ll, AllFree, Option.some.injEq, Prod.mk.injEq, Bool.false_eq_true, Bool.true_eq_false, hy]
    (repeat' first | with_reducible assumption | with_reducible apply And.intro | with_reducible intro hh) <;> first | ((first | with_reducible show (_ : Int) ≤ _ | with_reducible show (_ : Int) < _ | with_reducible show (_ : Nat) ≤ _ | with_reducible show (_ : Nat) < _ | with_reducible show (_ : Int) = _ | with_reducible show (_ : Nat) = _ | with_reducible show ¬ _ | with_reducible show _ ≠ _) <;> first | omega | (simp only [Bool.and_eq_true, Bool.or_eq_false_iff, Bool.not_eq_false', Bool.not_eq_true', decide_eq_true_eq, decide_eq_false_iff_not] at *; omega) | (with_reducible assumption)) | (with_reducible assumption) | skip
    all_goals try (have hlt := index_lt (x := s) (c := markOf (y .u)) (by omega))
    · exfalso
      have hM := hR.miss (by assumption)
      omega
    · omega
    · omega
    · omega
    · obtain ⟨k1, k2, k3, k4⟩ := hR.hit (by omega)
      refine ⟨(s.extract ((indexByte s.data.toList (markOf (y .u))).toNat + 1) s.size, i + 1), ⟨k2, k3⟩, (by show cutN (x .u) (markOf (y .u)) - (i + 1) < cutN (x .u) (markOf (y .u)) - i; omega), To.list (Nat.zero_le _) (Nat.le_refl _) (fun e => e) (fun j hj => ?_) ?_⟩
      · by_cases e : j = i
        · subst e
          simp only [if_true, List.length_cons, List.length_nil, Nat.zero_add, Nat.le_refl, Nat.zero_lt_one, and_self, Nat.sub_self, List.getD_cons_zero]
          refine AvTo.s ?_
          simp only [Nat.lt_succ_self, decide_true, cond_true, k1, Int.add_zero]
        · simp only [e, if_false]
          refine AvTo.s ?_
          simp only [show (j < i + 1) ↔ j < i by omega]
      · (repeat' first | exact AllTo.nil | apply AllTo.cons) <;> first | exact AvTo.dead _ | exact AvTo.s rfl | exact AvTo.i rfl | exact AvTo.i (by simp only [natCast_int]; omega) | exact AvTo.own rfl rfl rfl rfl | (refine AvTo.s ?_; simp only [natCast_int]; rw [show (indexByte s.data.toList (markOf (y .u)) + ((1 : Nat) : Int)).toNat = (indexByte s.data.toList (markOf (y .u))).toNat + 1 by omega])
    · have hM := hR.last (by omega)
      obtain ⟨rfl⟩ := hQ
      refine Post.eval (by cbv) ?_
      simp only [natCast_int, Post, All, thenA, canon0, canon064, and_true, true_and, forall_const, implies_true, decide_eq_true_eq, decide_eq_false_iff_not, Bool.not_eq_true', Bool.not_eq_false', Bool.true_and, Bool.and_true, beq_true, beq_false, Int.toNat_natCast, Int.ofNat_lt, Int.ofNat_le, Nat.zero_add, Nat.add_zero, imp_self, Bool.cond_false_right, Bool.cond_true_left, Bool.cond_true_right, IsF, rdF_eq, fOf, AV.f.injEq, exists_eq', free_list, free_fn0, List.not_mem_nil, List.mem_cons, false_imp, forall_eq, or_false, free_i, free_f, free_b, ren_f, ren_i, ren_b, and_self, bne_iff_ne, bne_eq_false_iff_eq, ne_eq, Int.natCast_inj, or_true, true_or, freeB_list, unfr_f, unfr_i, unfr_b, unfr_c, unfr_s, free_c, free_s, ren_c, ren_s, unfr_ro, unfr_rptr, ren_ro, free_ll, free_box, kill_f, kill_i, kill_b, kill_c, kill_s, kill_rof, kill_rot, Int.toNat_zero, isFF_ll, rowN_ll, rowX_ll, AllFree, Option.some.injEq, Prod.mk.injEq, Bool.false_eq_true, Bool.true_eq_false]
      (repeat' first | with_reducible assumption | with_reducible apply And.intro | with_reducible intro hh) <;> first | ((first | with_reducible show (_ : Int) ≤ _ | with_reducible show (_ : Int) < _ | with_reducible show (_ : Nat) ≤ _ | with_reducible show (_ : Nat) < _ | with_reducible show (_ : Int) = _ | with_reducible show (_ : Nat) = _ | with_reducible show ¬ _ | with_reducible show _ ≠ _) <;> first | omega | (simp only [Bool.and_eq_true, Bool.or_eq_false_iff, Bool.not_eq_false', Bool.not_eq_true', decide_eq_true_eq, decide_eq_false_iff_not] at *; omega) | (with_reducible assumption)) | (with_reducible assumption) | skip
      all_goals try omega
      refine fin_ret (.inl rfl) (by cbv) (by simp) (To.list (Nat.zero_le _) (Nat.le_refl _) (fun e => e) (fun j hj => ?_) ?_)
      · have hj : j < cutN (x .u) (markOf (y .u)) := hj
        by_cases e : j = i
        · subst e
          simp only [if_true, List.length_cons, List.length_nil, Nat.zero_add, Nat.le_refl, Nat.zero_lt_one, and_self, Nat.sub_self, List.getD_cons_zero]
          exact AvTo.s hM.1.symm
        · simp only [e, if_false]
          refine AvTo.s ?_
          have hlt : j < i := by omega
          simp only [hlt, decide_true, cond_true]
      · exact .cons (AvTo.own rfl rfl rfl (by show ((i : Int) + 1).toNat = cutN (x .u) (markOf (y .u)); omega)) .nil
def ctSplit : CT := [(115, .g 0 kGenSplit)]
theorem ctSplit_ok : CTok Tryd.prog ctSplit := .cons gen_g (.nil _)
theorem split_g : Tells Tryd.prog 84 (.g 0 kSplit) := by
  intro args Hc r hr
  unfold kSplit at hr
  split at hr <;> cases hr
  rename_i x y
  refine AnsOk.one ttok Tryd.func84 rfl rfl (Nat.zero_le _) .own frH_T fun hF => ⟨[.s x, .s y], ⟨Sub.refl _, Sub.refl _, trivial⟩, ?_⟩
  obtain ⟨hy, hx⟩ := hF
  refine AW.exec ttok ctSplit_ok (by cbv) ?_
  simp only [natCast_int, Post, All, thenA, canon0, canon064, and_true, true_and, forall_const, implies_true, decide_eq_true_eq, decide_eq_false_iff_not, Bool.not_eq_true', Bool.not_eq_false', Bool.true_and, Bool.and_true, beq_true, beq_false, Int.toNat_natCast, Int.ofNat_lt, Int.ofNat_le, Nat.zero_add, Nat.add_zero, imp_self, Bool.cond_false_right, Bool.cond_true_left, Bool.cond_true_right, IsF, rdF_eq, fOf, AV.f.injEq, exists_eq', free_list, free_fn0, List.not_mem_nil, List.mem_cons, false_imp, forall_eq, or_false, free_i, free_f, free_b, ren_f, ren_i, ren_b, and_self, bne_iff_ne, bne_eq_false_iff_eq, ne_eq, Int.natCast_inj, or_true, true_or, freeB_list, unfr_f, unfr_i, unfr_b, unfr_c, unfr_s, free_c, free_s, ren_c, ren_s, unfr_ro, unfr_rptr, ren_ro, free_ll, free_box, kill_f, kill_i, kill_b, kill_c, kill_s, kill_rof, kill_rot, Int.toNat_zero, isFF_ll, rowN_ll, rowX_ll, AllFree, Option.some.injEq, Prod.mk.injEq, Bool.false_eq_true, Bool.true_eq_false, hy, hx]
  (repeat' first | with_reducible assumption | with_reducible apply And.intro | with_reducible intro hh) <;> first | ((first | with_reducible show (_ : Int) ≤ _ | with_reducible show (_ : Int) < _ | with_reducible show (_ : Nat) ≤ _ | with_reducible show (_ : Nat) < _ | with_reducible show (_ : Int) = _ | with_reducible show (_ : Nat) = _ | with_reducible show ¬ _ | with_reducible show _ ≠ _) <;> first | omega | (simp only [Bool.and_eq_true, Bool.or_eq_false_iff, Bool.not_eq_false', Bool.not_eq_true', decide_eq_true_eq, decide_eq_false_iff_not] at *; omega) | (with_reducible assumption)) | (with_reducible assumption) | skip
  all_goals first | exact fin_ret (.inl rfl) (by cbv) (by simp) (To.list (Nat.zero_le _) (Nat.le_refl _) (fun e => e) (fun j hj => AvTo.s rfl) (.cons (AvTo.own rfl rfl rfl rfl) .nil)) | trace_state
/-- The lines of a text: its pieces but for the last, and whether the last is empty and the text is not too long. -/
def okLines (x : ByteArray) : Bool := (pieceB x 10 (cutN x 10 - 1)).toList == (⟨⟨[]⟩⟩ : ByteArray).toList && decide ((x.size : Int) ≤ 16000)
def kLines : Kg
  | [.s x], [] => some (.one (.tup [.own 0 (fun _ => 0) (fun _ => cutN (x .u) 10 - 1) 1, .b fun _ => okLines (x .u)]) [blkT true (fun _ => cutN (x .u) 10) (pieceB (x .u) 10)] fun _ => (x .u).size ≤ 1073741824)
  | _, _ => none
def ctLines : CT := [(84, .g 0 kSplit)]
theorem ctLines_ok : CTok Tryd.prog ctLines := .cons split_g (.nil _)
def kCutL : Kg
  | [.s x, .i .u8 c], [] => some (.one (.own 0 (fun _ => 0) (fun _ => cutN (x .u) (c .u).toNat.toUInt8) 1) [blkT true (fun _ => cutN (x .u) (c .u).toNat.toUInt8) (pieceB (x .u) (c .u).toNat.toUInt8)] fun _ => (0 ≤ c .u ∧ c .u < 256) ∧ (x .u).size ≤ 1073741824)
  | _, _ => none
theorem byte_eq (t : ByteArray) (i : Nat) {c : Int} (h0 : 0 ≤ c) (h1 : c < 256) : byteAt t i = c ↔ t.data.toList.getD i 0 = c.toNat.toUInt8 := by
  unfold byteAt
  constructor
  · intro h
    rw [← h]
    simp
  · intro h
    rw [h]
    have : c.toNat < 256 := by omega
    simp only [Nat.toUInt8, UInt8.toNat_ofNat']
    omega
theorem specCut : Tells Tryd.prog 57 (.g 0 kCutL) := by
  intro args Hc r hr
  unfold kCutL at hr
  split at hr <;> cases hr
  rename_i x c
  refine AnsOk.one ttok Tryd.func57 rfl rfl (Nat.zero_le _) .own frH_T fun hF => ⟨[.s x, .i .u8 c], ⟨Sub.refl _, Sub.refl _, trivial⟩, ?_⟩
  obtain ⟨⟨hc0, hc1⟩, hx⟩ := hF
  have hq := cutN_le (x .u) (c .u).toNat.toUInt8
  have hb := fun i => byte_eq (x .u) i hc0 hc1
  generalize hm : (c .u).toNat.toUInt8 = m at hq hb ⊢
  refine AW.exec ttok (CTok.nil _) (by cbv) ?_
  simp only [natCast_int, Post, All, thenA, canon0, canon064, and_true, true_and, forall_const, implies_true, decide_eq_true_eq, decide_eq_false_iff_not, Bool.not_eq_true', Bool.not_eq_false', Bool.true_and, Bool.and_true, beq_true, beq_false, Int.toNat_natCast, Int.ofNat_lt, Int.ofNat_le, Nat.zero_add, Nat.add_zero, imp_self, Bool.cond_false_right, Bool.cond_true_left, Bool.cond_true_right, IsF, rdF_eq, fOf, AV.f.injEq, exists_eq', free_list, free_fn0, List.not_mem_nil, List.mem_cons, false_imp, forall_eq, or_false, free_i, free_f, free_b, ren_f, ren_i, ren_b, and_self, bne_iff_ne, bne_eq_false_iff_eq, ne_eq, Int.natCast_inj, or_true, true_or, freeB_list, unfr_f, unfr_i, unfr_b, unfr_c, unfr_s, free_c, free_s, ren_c, ren_s, unfr_ro, unfr_rptr, ren_ro, free_ll, free_box, kill_f, kill_i, kill_b, kill_c, kill_s, kill_rof, kill_rot, Int.toNat_zero, isFF_ll, rowN_ll, rowX_ll, AllFree, Option.some.injEq, Prod.mk.injEq, Bool.false_eq_true, Bool.true_eq_false]
  (repeat' first | with_reducible assumption | with_reducible apply And.intro | with_reducible intro hh) <;> first | ((first | with_reducible show (_ : Int) ≤ _ | with_reducible show (_ : Int) < _ | with_reducible show (_ : Nat) ≤ _ | with_reducible show (_ : Nat) < _ | with_reducible show (_ : Int) = _ | with_reducible show (_ : Nat) = _ | with_reducible show ¬ _ | with_reducible show _ ≠ _) <;> first | omega | (simp only [Bool.and_eq_true, Bool.or_eq_false_iff, Bool.not_eq_false', Bool.not_eq_true', decide_eq_true_eq, decide_eq_false_iff_not] at *; omega) | (with_reducible assumption)) | (with_reducible assumption) | skip
  refine AW.loopH (ι := Nat × Nat × Nat) (fun q => CutSt (x .u) m q.1 q.2.1 q.2.2 ∨ (q.1 = (x .u).size + 1 ∧ q.2.1 = (x .u).size + 1 ∧ q.2.2 = cutN (x .u) m)) (fun q => (x .u).size + 2 - q.1) (fun q => mkE Tryd.f57.ntmps [(0, .s x), (1, .i .u8 c), (5, .own 0 (fun _ => 0) (fun _ => q.2.2) 1), (6, .i .i64 fun _ => (q.2.1 : Int)), (7, .i .i64 fun _ => (q.1 : Int))])
    (fun q => [blkT true (fun _ => q.2.2) (pieceB (x .u) m)]) (0, 0, 0) (.inl (CutSt.start _ _)) (To.list (Nat.zero_le _) (Nat.le_refl _) (fun e => e) (fun j hj => absurd hj (Nat.not_lt_zero _)) ?_) ?_
  · (repeat' first | exact AllTo.nil | apply AllTo.cons) <;> first | exact AvTo.dead _ | exact AvTo.s rfl | exact AvTo.i rfl | exact AvTo.own rfl rfl rfl rfl
  · rintro Q' hQ ⟨i, f, r⟩ hI
    have hI : CutSt (x .u) m i f r ∨ (i = (x .u).size + 1 ∧ f = (x .u).size + 1 ∧ r = cutN (x .u) m) := hI
    refine AW.exec ttok (CTok.nil _) (by cbv) ?_
    simp only [natCast_int, Post, All, thenA, canon0, canon064, and_true, true_and, forall_const, implies_true, decide_eq_true_eq, decide_eq_false_iff_not, Bool.not_eq_true', Bool.not_eq_false', Bool.true_and, Bool.and_true, beq_true, beq_false, Int.toNat_natCast, Int.ofNat_lt, Int.ofNat_le, Nat.zero_add, Nat.add_zero, imp_self, Bool.cond_false_right, Bool.cond_true_left, Bool.cond_true_right, IsF, rdF_eq, fOf, AV.f.injEq, exists_eq', free_list, free_fn0, List.not_mem_nil, List.mem_cons, false_imp, forall_eq, or_false, free_i, free_f, free_b, ren_f, ren_i, ren_b, and_self, bne_iff_ne, bne_eq_false_iff_eq, ne_eq, Int.natCast_inj, or_true, true_or, freeB_list, unfr_f, unfr_i, unfr_b, unfr_c, unfr_s, free_c, free_s, ren_c, ren_s, unfr_ro, unfr_rptr, ren_ro, free_ll, free_box, kill_f, kill_i, kill_b, kill_c, kill_s, kill_rof, kill_rot, Int.toNat_zero, isFF_ll, rowN_ll, rowX_ll, AllFree, Option.some.injEq, Prod.mk.injEq, Bool.false_eq_true, Bool.true_eq_false]
    (repeat' first | with_reducible assumption | with_reducible apply And.intro | with_reducible intro hh) <;> first | ((first | with_reducible show (_ : Int) ≤ _ | with_reducible show (_ : Int) < _ | with_reducible show (_ : Nat) ≤ _ | with_reducible show (_ : Nat) < _ | with_reducible show (_ : Int) = _ | with_reducible show (_ : Nat) = _ | with_reducible show ¬ _ | with_reducible show _ ≠ _) <;> first | omega | (simp only [Bool.and_eq_true, Bool.or_eq_false_iff, Bool.not_eq_false', Bool.not_eq_true', decide_eq_true_eq, decide_eq_false_iff_not] at *; omega) | (with_reducible assumption)) | (with_reducible assumption) | skip
    all_goals try (have hC : CutSt (x .u) m i f r := hI.resolve_right (by omega); have hfi := hC.fi; have hlt := hC.lt)
    · have h3 : ((i : Int) == ((x .u).size : Int)) = false := by assumption
      simp only [beq_eq_false_iff_ne, ne_eq] at h3
      omega
    · omega
    · omega
    · omega
    · have h3 : ((i : Int) == ((x .u).size : Int) || byteAt (x .u) i == c .u) = true := by assumption
      simp only [Bool.or_eq_true, beq_iff_eq, hb] at h3
      by_cases hi : i = (x .u).size
      · subst hi
        obtain ⟨k1, k2⟩ := hC.last
        refine ⟨((x .u).size + 1, (x .u).size + 1, r + 1), .inr ⟨rfl, rfl, k2⟩, (by show (x .u).size + 2 - ((x .u).size + 1) < (x .u).size + 2 - (x .u).size; omega), To.moved (k := 2) rfl (Nat.le_refl _) (fun e => e) (fun j hj => app_one hj (fun _ => AvTo.s rfl) fun e => AvTo.s (by subst e; exact k1.symm)) ?_⟩
        (repeat' first | exact AllTo.nil | apply AllTo.cons) <;> first | exact AvTo.dead _ | exact AvTo.s rfl | exact AvTo.i rfl | exact AvTo.i (by first | omega | (simp only [natCast_int]; omega)) | exact AvTo.own rfl rfl rfl rfl
      · have hi' : i < (x .u).size := by omega
        obtain ⟨k1, k2, k3⟩ := hC.cut hi' (h3.resolve_left (by omega))
        refine ⟨(i + 1, i + 1, r + 1), .inl k2, (by show (x .u).size + 2 - (i + 1) < (x .u).size + 2 - i; omega), To.moved (k := 2) rfl (Nat.le_refl _) (fun e => e) (fun j hj => app_one hj (fun _ => AvTo.s rfl) fun e => AvTo.s (by subst e; exact k1.symm)) ?_⟩
        (repeat' first | exact AllTo.nil | apply AllTo.cons) <;> first | exact AvTo.dead _ | exact AvTo.s rfl | exact AvTo.i rfl | exact AvTo.i (by first | omega | (simp only [natCast_int]; omega)) | exact AvTo.own rfl rfl rfl rfl
    · have h3 : ((i : Int) == ((x .u).size : Int) || byteAt (x .u) i == c .u) = false := by assumption
      simp only [Bool.or_eq_false_iff, beq_eq_false_iff_ne, ne_eq, hb] at h3
      refine ⟨(i + 1, f, r), .inl (hC.skip (by omega) h3.2), (by show (x .u).size + 2 - (i + 1) < (x .u).size + 2 - i; omega), To.list (Nat.zero_le _) (Nat.le_refl _) (fun e => e) (fun j hj => AvTo.s rfl) ?_⟩
      (repeat' first | exact AllTo.nil | apply AllTo.cons) <;> first | exact AvTo.dead _ | exact AvTo.s rfl | exact AvTo.i rfl | exact AvTo.i (by first | omega | (simp only [natCast_int]; omega)) | exact AvTo.own rfl rfl rfl rfl
    · obtain ⟨rfl⟩ := hQ
      refine Post.eval (by cbv) ?_
      have hr : r = cutN (x .u) m := by
        rcases hI with h | h
        · have := h.il; omega
        · exact h.2.2
      simp only [natCast_int, Post, All, thenA, canon0, canon064, and_true, true_and, forall_const, implies_true, decide_eq_true_eq, decide_eq_false_iff_not, Bool.not_eq_true', Bool.not_eq_false', Bool.true_and, Bool.and_true, beq_true, beq_false, Int.toNat_natCast, Int.ofNat_lt, Int.ofNat_le, Nat.zero_add, Nat.add_zero, imp_self, Bool.cond_false_right, Bool.cond_true_left, Bool.cond_true_right, IsF, rdF_eq, fOf, AV.f.injEq, exists_eq', free_list, free_fn0, List.not_mem_nil, List.mem_cons, false_imp, forall_eq, or_false, free_i, free_f, free_b, ren_f, ren_i, ren_b, and_self, bne_iff_ne, bne_eq_false_iff_eq, ne_eq, Int.natCast_inj, or_true, true_or, freeB_list, unfr_f, unfr_i, unfr_b, unfr_c, unfr_s, free_c, free_s, ren_c, ren_s, unfr_ro, unfr_rptr, ren_ro, free_ll, free_box, kill_f, kill_i, kill_b, kill_c, kill_s, kill_rof, kill_rot, Int.toNat_zero, isFF_ll, rowN_ll, rowX_ll, AllFree, Option.some.injEq, Prod.mk.injEq, Bool.false_eq_true, Bool.true_eq_false]
      (repeat' first | with_reducible assumption | with_reducible apply And.intro | with_reducible intro hh) <;> first | ((first | with_reducible show (_ : Int) ≤ _ | with_reducible show (_ : Int) < _ | with_reducible show (_ : Nat) ≤ _ | with_reducible show (_ : Nat) < _ | with_reducible show (_ : Int) = _ | with_reducible show (_ : Nat) = _ | with_reducible show ¬ _ | with_reducible show _ ≠ _) <;> first | omega | (simp only [Bool.and_eq_true, Bool.or_eq_false_iff, Bool.not_eq_false', Bool.not_eq_true', decide_eq_true_eq, decide_eq_false_iff_not] at *; omega) | (with_reducible assumption)) | (with_reducible assumption) | skip
      refine fin_ret (.inl rfl) (by cbv) (by simp) (To.list (Nat.zero_le _) (by show cutN (x .u) m ≤ r; omega) (fun e => e) (fun j hj => AvTo.s rfl) (.cons (AvTo.own rfl rfl rfl hr) .nil))
def kLinesS : Kg
  | [.s x], [] => some (.one (.tup [.own 0 (fun _ => 0) (fun _ => cutN (x .u) 10 - 1) 1, .s fun _ => pieceB (x .u) 10 (cutN (x .u) 10 - 1)]) [blkT true (fun _ => cutN (x .u) 10) (pieceB (x .u) 10)] fun _ => (x .u).size ≤ 1073741824)
  | _, _ => none
def ctLinesS : CT := [(57, .g 0 kCutL)]
theorem ctLinesS_ok : CTok Tryd.prog ctLinesS := .cons specCut (.nil _)
end Go.Proofs.YtkglnfkbejoheaaDoor
