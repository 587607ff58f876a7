/- Numbers read, on the program's side. -/
/- Numbers read, on the reference's side. -/
import Derived.Test.YtkglnfkbejoheaaDoorTm
import Derived.Test.YtkglnfkbejoheaaDoorTf
set_option linter.unusedSimpArgs false
set_option linter.unusedVariables false
namespace Go.Proofs.YtkglnfkbejoheaaDoor
open Go.Aw
open Go.Lib (indexByte countByte extract_eq size_eq decDigits itoa)
def isNone (t : ByteArray) : Bool := t.toList == (⟨⟨[110, 111, 110, 101]⟩⟩ : ByteArray).toList
def partN (t : ByteArray) : Nat := bif isNone t then 0 else cutN t 44
theorem split_len (c : UInt8) : ∀ (l p : List UInt8), p ∈ splitB c l → p.length ≤ l.length := by
  intro l
  induction l with
  | nil => intro p hp; simp [splitB] at hp; subst hp; exact Nat.le_refl _
  | cons b l ih =>
    intro p hp
    unfold splitB at hp
    split at hp
    · rcases List.mem_cons.1 hp with h | h
      · subst h; exact Nat.zero_le _
      · exact Nat.le_trans (ih p h) (by simp)
    · split at hp
      · rename_i q qs e
        rcases List.mem_cons.1 hp with h | h
        · subst h
          have := ih q (by rw [e]; exact List.mem_cons_self ..)
          simp only [List.length_cons]
          omega
        · exact Nat.le_trans (ih p (by rw [e]; exact List.mem_cons_of_mem _ h)) (by simp)
      · rcases List.mem_cons.1 hp with h | h
        · subst h; simp
        · cases h
theorem piece_size (t : ByteArray) (c : UInt8) (i : Nat) : (pieceB t c i).size ≤ t.size := by
  unfold pieceB
  rw [size_toB, size_eq]
  by_cases h : i < (splitB c t.data.toList).length
  · rw [List.getD_eq_getElem?_getD, List.getElem?_eq_getElem h]
    exact split_len c _ _ (List.getElem_mem h)
  · rw [List.getD_eq_getElem?_getD, List.getElem?_eq_none (by omega)]
    exact Nat.zero_le _
def kParts : Kr
  | [.s t] => some (.ro true (fun _ => partN (t .u)) 1 fun i _ => .s fun _ => pieceB (t .u) 44 (i .u), [], fun _ => (t .u).size ≤ 1073741824)
  | _ => none
def ctParts : CT := [(84, .g 0 kSplit)]
theorem ctParts_ok : CTok Tryd.prog ctParts := .cons split_g (.nil _)
theorem parts_tells : Tells Tryd.prog 54 (.r kParts) := by
  intro args r H' p hr hp
  unfold kParts at hr
  split at hr <;> cases hr
  rename_i t
  have hp : (t .u).size ≤ 1073741824 := hp
  have h1 : (⟨⟨[44]⟩⟩ : ByteArray).size = 1 := rfl
  have hm : markOf ⟨⟨[44]⟩⟩ = 44 := rfl
  refine ⟨.ro fun _ _ _ _ => .s, .nil, Con.of ttok Tryd.func54 rfl rfl (Nat.zero_le _) (AW.exec ttok ctParts_ok (by cbv) ?_)⟩
  simp only [natCast_int, Post, All, thenA, canon0, canon064, and_true, true_and, forall_const, implies_true, decide_eq_true_eq, decide_eq_false_iff_not, Bool.not_eq_true', Bool.not_eq_false', Bool.true_and, Bool.and_true, beq_true, beq_false, Int.toNat_natCast, Int.ofNat_lt, Int.ofNat_le, Nat.zero_add, Nat.add_zero, imp_self, Bool.cond_false_right, Bool.cond_true_left, Bool.cond_true_right, IsF, rdF_eq, fOf, AV.f.injEq, exists_eq', free_list, free_fn0, List.not_mem_nil, List.mem_cons, false_imp, forall_eq, or_false, free_i, free_f, free_b, ren_f, ren_i, ren_b, and_self, bne_iff_ne, bne_eq_false_iff_eq, ne_eq, Int.natCast_inj, or_true, true_or, freeB_list, unfr_f, unfr_i, unfr_b, unfr_c, unfr_s, free_c, free_s, ren_c, ren_s, unfr_ro, unfr_rptr, ren_ro, free_ll, free_box, kill_f, kill_i, kill_b, kill_c, kill_s, kill_rof, kill_rot, Int.toNat_zero, isFF_ll, rowN_ll, rowX_ll, AllFree, Option.some.injEq, Prod.mk.injEq, Bool.false_eq_true, Bool.true_eq_false, hp, h1, hm]
  (repeat' first | with_reducible assumption | with_reducible apply And.intro | with_reducible intro hh) <;> first | ((first | with_reducible show (_ : Int) ≤ _ | with_reducible show (_ : Int) < _ | with_reducible show (_ : Nat) ≤ _ | with_reducible show (_ : Nat) < _ | with_reducible show (_ : Int) = _ | with_reducible show (_ : Nat) = _ | with_reducible show ¬ _ | with_reducible show _ ≠ _) <;> first | omega | (simp only [Bool.and_eq_true, Bool.or_eq_false_iff, Bool.not_eq_false', Bool.not_eq_true', decide_eq_true_eq, decide_eq_false_iff_not] at *; omega) | (with_reducible assumption)) | (with_reducible assumption) | skip
  · have e : isNone (t .u) = true := hh
    exact fin_ret (.inl rfl) (by cbv) (by simp) (To.fresh (.cons (AvTo.nilRo (by show partN (t .u) = 0; unfold partN; rw [e]; rfl)) .nil))
  · have e : isNone (t .u) = false := hh
    have en : partN (t .u) = cutN (t .u) 44 := by unfold partN; rw [e]; rfl
    refine fin_ret (.inl rfl) (by cbv) (by simp) (To.fresh (.cons (AvTo.view (id := 0) (fr := true) rfl ?_ (left_nil _ _) ?_ .new fun k c hk hc => ?_) .nil))
    · show 0 + partN (t .u) ≤ cutN (t .u) 44
      omega
    · exact en.symm
    · exact AvTo.s (by simp)
def okRN (t : ByteArray) : Bool := bif isNone t then true else decide (cutN t 44 ≤ 256) && allN (fun i => okH (pieceB t 44 i)) (cutN t 44)
def numRN (t : ByteArray) : Nat := bif okRN t then partN t else 0
def kRN : Kr
  | [.s t] => some (.tup [.ro true (fun _ => numRN (t .u)) 1 fun i _ => .f .f32 fun _ => xH (pieceB (t .u) 44 (i .u)), .b fun _ => okRN (t .u)], [], fun _ => (t .u).size ≤ 1073741824)
  | _ => none
theorem okRN_none {t : ByteArray} (h : isNone t = true) : okRN t = true := by unfold okRN; rw [h]; rfl
theorem partN_some {t : ByteArray} {i : Nat} (h : i < partN t) : isNone t = false ∧ partN t = cutN t 44 := by
  unfold partN at h ⊢
  cases e : isNone t
  · exact ⟨rfl, rfl⟩
  · rw [e] at h; exact absurd h (Nat.not_lt_zero _)
theorem okRN_bad {t : ByteArray} {i : Nat} (h : i < partN t) (hb : (!okH (pieceB t 44 i) || decide (256 < (partN t : Int))) = true) : okRN t = false := by
  obtain ⟨h1, h2⟩ := partN_some h
  unfold okRN
  rw [h1, cond_false]
  rw [Bool.or_eq_true, Bool.not_eq_true', decide_eq_true_eq] at hb
  rcases hb with hb | hb
  · rw [allN_false (q := fun i => okH (pieceB t 44 i)) (by rw [← h2]; exact h) hb, Bool.and_false]
  · rw [decide_eq_false (by omega), Bool.false_and]
theorem okRN_all {t : ByteArray} (hf : 0 < partN t → partN t ≤ 256) (h : ∀ j, j < partN t → okH (pieceB t 44 j) = true) : okRN t = true := by
  cases e : isNone t with
  | true => exact okRN_none e
  | false =>
    have en : partN t = cutN t 44 := by unfold partN; rw [e]; rfl
    have hc := cutN_pos t 44
    unfold okRN
    rw [e, cond_false, decide_eq_true (by have := hf (by omega); omega), allN_true fun j hj => h j (by omega)]
    rfl
abbrev blkR (k : Nat) (t : ByteArray) : Option (Bool × Blk) := some (true, .tab (fun _ => k) 1 fun i _ => .f .f32 fun _ => xH (pieceB t 44 (i .u)))
def ctRN : CT := [(54, .r kParts), (55, .r kRH)]
theorem ctRN_ok : CTok Tryd.prog ctRN := .cons parts_tells (.cons rh_tells (.nil _))
theorem implRN : Tells Tryd.prog 24 (.r kRN) := by
  intro args r H' p hr hp
  unfold kRN at hr
  split at hr <;> cases hr
  rename_i t
  have hp : (t .u).size ≤ 1073741824 := hp
  have hc := cutN_le (t .u) 44
  have hpn : partN (t .u) ≤ 1073741825 := by
    unfold partN
    cases isNone (t .u)
    · show cutN (t .u) 44 ≤ _; omega
    · exact Nat.zero_le _
  have hps := fun i => piece_size (t .u) 44 i
  refine ⟨allFr_tup2 (.ro fun _ _ _ _ => .f) .b, .nil, Con.of ttok Tryd.func24 rfl rfl (Nat.zero_le _) (AW.exec ttok ctRN_ok (by cbv) ?_)⟩
  simp only [natCast_int, Post, All, thenA, canon0, canon064, and_true, true_and, forall_const, implies_true, decide_eq_true_eq, decide_eq_false_iff_not, Bool.not_eq_true', Bool.not_eq_false', Bool.true_and, Bool.and_true, beq_true, beq_false, Int.toNat_natCast, Int.ofNat_lt, Int.ofNat_le, Nat.zero_add, Nat.add_zero, imp_self, Bool.cond_false_right, Bool.cond_true_left, Bool.cond_true_right, IsF, rdF_eq, fOf, AV.f.injEq, exists_eq', free_list, free_fn0, List.not_mem_nil, List.mem_cons, false_imp, forall_eq, or_false, free_i, free_f, free_b, ren_f, ren_i, ren_b, and_self, bne_iff_ne, bne_eq_false_iff_eq, ne_eq, Int.natCast_inj, or_true, true_or, freeB_list, unfr_f, unfr_i, unfr_b, unfr_c, unfr_s, free_c, free_s, ren_c, ren_s, unfr_ro, unfr_rptr, ren_ro, free_ll, free_box, kill_f, kill_i, kill_b, kill_c, kill_s, kill_rof, kill_rot, Int.toNat_zero, isFF_ll, rowN_ll, rowX_ll, AllFree, Option.some.injEq, Prod.mk.injEq, Bool.false_eq_true, Bool.true_eq_false, hp]
  (repeat' first | with_reducible assumption | with_reducible apply And.intro | with_reducible intro hh) <;> first | ((first | with_reducible show (_ : Int) ≤ _ | with_reducible show (_ : Int) < _ | with_reducible show (_ : Nat) ≤ _ | with_reducible show (_ : Nat) < _ | with_reducible show (_ : Int) = _ | with_reducible show (_ : Nat) = _ | with_reducible show ¬ _ | with_reducible show _ ≠ _) <;> first | omega | (simp only [Bool.and_eq_true, Bool.or_eq_false_iff, Bool.not_eq_false', Bool.not_eq_true', decide_eq_true_eq, decide_eq_false_iff_not] at *; omega) | (with_reducible assumption)) | (with_reducible assumption) | skip
  refine AW.loopH (ι := Nat) (fun i => i ≤ partN (t .u) ∧ (0 < i → partN (t .u) ≤ 256) ∧ ∀ j, j < i → okH (pieceB (t .u) 44 j) = true) (fun i => partN (t .u) - i) (fun i => mkE Tryd.f24.ntmps [(4, .ro true (fun _ => partN (t .u)) 1 fun i _ => .s fun _ => pieceB (t .u) 44 (i .u)), (5, .own 0 (fun _ => 0) (fun _ => i) 1), (13, .ro true (fun _ => partN (t .u)) 1 fun i _ => .s fun _ => pieceB (t .u) 44 (i .u)), (14, .i .i64 fun _ => (partN (t .u) : Int)), (15, .i .i64 fun _ => (i : Int))])
    (fun i => [blkR i (t .u)]) 0 ⟨Nat.zero_le _, fun h => absurd h (Nat.lt_irrefl _), fun j hj => absurd hj (Nat.not_lt_zero _)⟩ (To.list (Nat.zero_le _) (Nat.le_refl _) (fun e => e) (fun j hj => absurd hj (Nat.not_lt_zero _)) ?_) ?_
  · (repeat' first | exact AllTo.nil | apply AllTo.cons) <;> first | exact AvTo.dead _ | exact AvTo.i rfl | exact AvTo.own rfl rfl rfl rfl | exact Free.same Free.listT | skip
  · rintro Q' hQ i ⟨hi, hfew, hok⟩
    have hpi := hps i
    refine AW.exec ttok ctRN_ok (by cbv) ?_
    simp only [natCast_int, Post, All, thenA, canon0, canon064, and_true, true_and, forall_const, implies_true, decide_eq_true_eq, decide_eq_false_iff_not, Bool.not_eq_true', Bool.not_eq_false', Bool.true_and, Bool.and_true, beq_true, beq_false, Int.toNat_natCast, Int.ofNat_lt, Int.ofNat_le, Nat.zero_add, Nat.add_zero, imp_self, Bool.cond_false_right, Bool.cond_true_left, Bool.cond_true_right, IsF, rdF_eq, fOf, AV.f.injEq, exists_eq', free_list, free_fn0, List.not_mem_nil, List.mem_cons, false_imp, forall_eq, or_false, free_i, free_f, free_b, ren_f, ren_i, ren_b, and_self, bne_iff_ne, bne_eq_false_iff_eq, ne_eq, Int.natCast_inj, or_true, true_or, freeB_list, unfr_f, unfr_i, unfr_b, unfr_c, unfr_s, free_c, free_s, ren_c, ren_s, unfr_ro, unfr_rptr, ren_ro, free_ll, free_box, kill_f, kill_i, kill_b, kill_c, kill_s, kill_rof, kill_rot, Int.toNat_zero, isFF_ll, rowN_ll, rowX_ll, AllFree, Option.some.injEq, Prod.mk.injEq, Bool.false_eq_true, Bool.true_eq_false]
    (repeat' first | with_reducible assumption | with_reducible apply And.intro | with_reducible intro hh) <;> first | ((first | with_reducible show (_ : Int) ≤ _ | with_reducible show (_ : Int) < _ | with_reducible show (_ : Nat) ≤ _ | with_reducible show (_ : Nat) < _ | with_reducible show (_ : Int) = _ | with_reducible show (_ : Nat) = _ | with_reducible show ¬ _ | with_reducible show _ ≠ _) <;> first | omega | (simp only [Bool.and_eq_true, Bool.or_eq_false_iff, Bool.not_eq_false', Bool.not_eq_true', decide_eq_true_eq, decide_eq_false_iff_not] at *; omega) | (with_reducible assumption)) | (with_reducible assumption) | skip
    · obtain ⟨rfl⟩ := hQ
      have e := okRN_bad (t := t .u) ‹i < partN (t .u)› hh
      refine Post.leaf (by cbv) (fin_ret (.inl rfl) (by cbv) (by simp) (To.fresh (.cons (.tup (.cons (AvTo.nilRo ?_) (.cons (.b ?_) .nil))) .nil)))
      · show numRN (t .u) = 0
        unfold numRN
        rw [e]
        rfl
      · exact e.symm
    · have hgood := ‹(!okH (pieceB (t .u) 44 i) || decide (256 < (partN (t .u) : Int))) = false›
      rw [Bool.or_eq_false_iff, Bool.not_eq_false', decide_eq_false_iff_not] at hgood
      refine ⟨i + 1, ⟨by omega, fun _ => by omega, lt_succ_all hok hgood.1⟩, by omega, To.moved (k := 2) rfl (Nat.le_refl _) (fun e => e) (fun j hj => app_one hj (fun _ => AvTo.f rfl) fun e => AvTo.f (by subst e; rfl)) ?_⟩
      (repeat' first | exact AllTo.nil | apply AllTo.cons) <;> first | exact AvTo.dead _ | exact AvTo.i rfl | exact AvTo.own rfl rfl rfl rfl | exact Free.same Free.listT | skip
    · obtain ⟨rfl⟩ := hQ
      refine Post.eval (by cbv) ?_
      have ei : i = partN (t .u) := by omega
      have e : okRN (t .u) = true := okRN_all (fun h => hfew (by omega)) (fun j hj => hok j (by omega))
      have en : numRN (t .u) = partN (t .u) := by unfold numRN; rw [e]; rfl
      simp only [natCast_int, Post, All, thenA, canon0, canon064, and_true, true_and, forall_const, implies_true, decide_eq_true_eq, decide_eq_false_iff_not, Bool.not_eq_true', Bool.not_eq_false', Bool.true_and, Bool.and_true, beq_true, beq_false, Int.toNat_natCast, Int.ofNat_lt, Int.ofNat_le, Nat.zero_add, Nat.add_zero, imp_self, Bool.cond_false_right, Bool.cond_true_left, Bool.cond_true_right, IsF, rdF_eq, fOf, AV.f.injEq, exists_eq', free_list, free_fn0, List.not_mem_nil, List.mem_cons, false_imp, forall_eq, or_false, free_i, free_f, free_b, ren_f, ren_i, ren_b, and_self, bne_iff_ne, bne_eq_false_iff_eq, ne_eq, Int.natCast_inj, or_true, true_or, freeB_list, unfr_f, unfr_i, unfr_b, unfr_c, unfr_s, free_c, free_s, ren_c, ren_s, unfr_ro, unfr_rptr, ren_ro, free_ll, free_box, kill_f, kill_i, kill_b, kill_c, kill_s, kill_rof, kill_rot, Int.toNat_zero, isFF_ll, rowN_ll, rowX_ll, AllFree, Option.some.injEq, Prod.mk.injEq, Bool.false_eq_true, Bool.true_eq_false]
      (repeat' first | with_reducible assumption | with_reducible apply And.intro | with_reducible intro hh) <;> first | ((first | with_reducible show (_ : Int) ≤ _ | with_reducible show (_ : Int) < _ | with_reducible show (_ : Nat) ≤ _ | with_reducible show (_ : Nat) < _ | with_reducible show (_ : Int) = _ | with_reducible show (_ : Nat) = _ | with_reducible show ¬ _ | with_reducible show _ ≠ _) <;> first | omega | (simp only [Bool.and_eq_true, Bool.or_eq_false_iff, Bool.not_eq_false', Bool.not_eq_true', decide_eq_true_eq, decide_eq_false_iff_not] at *; omega) | (with_reducible assumption)) | (with_reducible assumption) | skip
      refine fin_ret (.inl rfl) (by cbv) (by simp) (To.fresh (.cons (.tup (.cons (AvTo.view (id := 0) (fr := true) rfl ?_ (left_nil _ _) ?_ .new fun k c hk hc => ?_) (.cons (.b ?_) .nil))) .nil))
      · show 0 + numRN (t .u) ≤ i
        omega
      · show i = numRN (t .u)
        omega
      · exact AvTo.f (by simp)
      · exact e.symm
end Go.Proofs.YtkglnfkbejoheaaDoor
set_option linter.unusedSimpArgs false
set_option linter.unusedVariables false
namespace Go.Proofs.YtkglnfkbejoheaaDoor
open Go.Aw
open Go.Lib (indexByte countByte extract_eq size_eq decDigits itoa)
def kFrb : Kx
  | [.i .u32 n] => some (.f .f32 fun _ => canon .f32 (n .u).toNat, fun _ => True)
  | _ => none
theorem frb_tells : Tells Tryd.prog 86 (.x kFrb) := by
  intro args r p hr hp w ρ L H vals hR hl hs
  unfold kFrb at hr
  split at hr <;> cases hr
  rename_i n
  obtain ⟨v, rfl⟩ : ∃ v, vals = #[v] := by
    obtain ⟨l⟩ := vals
    match l, hl with
    | [v], _ => exact ⟨v, rfl⟩
  obtain rfl := (hs 0 _ v rfl rfl).i_inv
  have hrun := run_callFunc_extern (P := Tryd.prog) (e := Extern.MathFloatBits.float32frombits) Tryd.func86 (by kernel_rfl) (by kernel_rfl) (by kernel_rfl) (by kernel_rfl) #[.int .u32 (n .u)] w
  have e : Extern.MathFloatBits.float32frombits #[.int .u32 (n .u)] = pure (.float .f32 (n .u).toNat) := rfl
  rw [e] at hrun
  exact ⟨.float .f32 (n .u).toNat, w, ρ, .inl (by rw [hrun]; simp), hR, Pass.refl _ _ _, .f rfl⟩
def kFrom : Kr
  | [.i .i64 n] => some (.f .f32 fun _ => canon .f32 (n .u).toNat, [], fun _ => 0 ≤ n .u ∧ n .u < 4294967296)
  | _ => none
def ctFrom : CT := [(86, .x kFrb)]
theorem ctFrom_ok : CTok Tryd.prog ctFrom := .cons frb_tells (.nil _)
theorem from_tells : Tells Tryd.prog 80 (.r kFrom) := by
  intro args r H' p hr hp
  unfold kFrom at hr
  split at hr <;> cases hr
  rename_i n
  obtain ⟨h0, h1⟩ := hp
  have hw : IntKind.u32.wrap (n .u) = n .u := by rw [IntKind.wrap_u32]; omega
  refine ⟨.f, .nil, Con.of ttok Tryd.func80 rfl rfl (Nat.zero_le _) (AW.exec ttok ctFrom_ok (by cbv) ?_)⟩
  simp only [natCast_int, Post, All, thenA, canon0, canon064, and_true, true_and, forall_const, implies_true, decide_eq_true_eq, decide_eq_false_iff_not, Bool.not_eq_true', Bool.not_eq_false', Bool.true_and, Bool.and_true, beq_true, beq_false, Int.toNat_natCast, Int.ofNat_lt, Int.ofNat_le, Nat.zero_add, Nat.add_zero, imp_self, Bool.cond_false_right, Bool.cond_true_left, Bool.cond_true_right, IsF, rdF_eq, fOf, AV.f.injEq, exists_eq', free_list, free_fn0, List.not_mem_nil, List.mem_cons, false_imp, forall_eq, or_false, free_i, free_f, free_b, ren_f, ren_i, ren_b, and_self, bne_iff_ne, bne_eq_false_iff_eq, ne_eq, Int.natCast_inj, or_true, true_or, freeB_list, unfr_f, unfr_i, unfr_b, unfr_c, unfr_s, free_c, free_s, ren_c, ren_s, unfr_ro, unfr_rptr, ren_ro, free_ll, free_box, kill_f, kill_i, kill_b, kill_c, kill_s, kill_rof, kill_rot, Int.toNat_zero, isFF_ll, rowN_ll, rowX_ll, AllFree, Option.some.injEq, Prod.mk.injEq, Bool.false_eq_true, Bool.true_eq_false, hw]
  (repeat' first | with_reducible assumption | with_reducible apply And.intro | with_reducible intro hh) <;> first | ((first | with_reducible show (_ : Int) ≤ _ | with_reducible show (_ : Int) < _ | with_reducible show (_ : Nat) ≤ _ | with_reducible show (_ : Nat) < _ | with_reducible show (_ : Int) = _ | with_reducible show (_ : Nat) = _ | with_reducible show ¬ _ | with_reducible show _ ≠ _) <;> first | omega | (simp only [Bool.and_eq_true, Bool.or_eq_false_iff, Bool.not_eq_false', Bool.not_eq_true', decide_eq_true_eq, decide_eq_false_iff_not] at *; omega) | (with_reducible assumption)) | (with_reducible assumption) | skip
  all_goals exact fin_ret (.inl rfl) (by cbv) (by simp) (To.fresh (.cons (.f rfl) .nil))
theorem hexval_snoc : ∀ (l : List UInt8) (n : Nat) (c : UInt8), hexval n (l ++ [c]) = (hexval n l).bind fun m => (dl c).map fun d => 16 * m + d
  | [], n, c => by
    cases hd : dl c with
    | none => rw [List.nil_append, hexval_none hd]; rfl
    | some d => rw [List.nil_append, hexval_cons hd]; rfl
  | b :: l, n, c => by
    cases hd : dl b with
    | none => rw [List.cons_append, hexval_none hd, hexval_none hd]; rfl
    | some d => rw [List.cons_append, hexval_cons hd, hexval_cons hd, hexval_snoc l]
theorem hexval_bad : ∀ (l r : List UInt8) (n : Nat), hexval n l = none → hexval n (l ++ r) = none
  | [], r, n, h => by cases h
  | b :: l, r, n, h => by
    cases hd : dl b with
    | none => rw [List.cons_append, hexval_none hd]
    | some d =>
      rw [hexval_cons hd] at h
      rw [List.cons_append, hexval_cons hd]
      exact hexval_bad l r _ h
/-- The first k digits of a text. -/
def HexSt (s : ByteArray) (k m : Nat) : Prop := hexval 0 (s.data.toList.take k) = some m ∧ m < 16 ^ k
theorem HexSt.start (s : ByteArray) : HexSt s 0 0 := ⟨rfl, by decide⟩
theorem take_next {s : ByteArray} {k : Nat} (h : k < s.size) : s.data.toList.take (k + 1) = s.data.toList.take k ++ [s.data.toList.getD k 0] := by
  rw [size_eq] at h
  rw [List.take_succ_eq_append_getElem h, List.getD_eq_getElem?_getD, List.getElem?_eq_getElem h]
  rfl
theorem HexSt.step {s : ByteArray} {k m d : Nat} (h : HexSt s k m) (hk : k < s.size) (hd : dl (s.data.toList.getD k 0) = some d) : HexSt s (k + 1) (16 * m + d) := by
  obtain ⟨h1, h2⟩ := h
  obtain ⟨_, hd16, _⟩ := dl_dgt _ d hd
  refine ⟨?_, ?_⟩
  · rw [take_next hk, hexval_snoc, h1]
    show (dl _).map _ = _
    rw [hd]
    rfl
  · rw [Nat.pow_succ]; omega
theorem HexSt.bad {s : ByteArray} {k m : Nat} (h : HexSt s k m) (hk : k < s.size) (hd : dl (s.data.toList.getD k 0) = none) : okH s = false := by
  have e : hexval 0 s.data.toList = none := by
    have h1 : hexval 0 (s.data.toList.take (k + 1)) = none := by
      rw [take_next hk, hexval_snoc, h.1]
      show (dl _).map _ = _
      rw [hd]
      rfl
    have := hexval_bad _ (s.data.toList.drop (k + 1)) 0 h1
    rwa [List.take_append_drop] at this
  unfold okH
  rw [e, Bool.and_false]
theorem HexSt.done {s : ByteArray} {m : Nat} (h : HexSt s 8 m) (hs : s.size = 8) : okH s = decide (wordF (canon .f32 m) = m) ∧ m < 4294967296 ∧ xH s = canon .f32 m := by
  obtain ⟨h1, h2⟩ := h
  rw [List.take_of_length_le (by rw [← size_eq]; omega)] at h1
  obtain ⟨hm, hp, _⟩ := puN_some hs h1
  refine ⟨?_, hm, ?_⟩
  · unfold okH
    rw [decide_eq_true hs, h1, Bool.true_and]
  · unfold xH
    rw [hp]
theorem okH_size {s : ByteArray} (h : s.size ≠ 8) : okH s = false := by unfold okH; rw [decide_eq_false h, Bool.false_and]
/-- A digit, by the whole number of its byte. -/
theorem dl_num {s : ByteArray} {k : Nat} (h : 48 ≤ byteAt s k ∧ byteAt s k ≤ 57) : dl (s.data.toList.getD k 0) = some (byteAt s k - 48).toNat := by
  unfold byteAt at h ⊢
  unfold dl
  rw [if_pos (by omega)]
  congr 1
  omega
theorem dl_let {s : ByteArray} {k : Nat} (h : 97 ≤ byteAt s k ∧ byteAt s k ≤ 102) : dl (s.data.toList.getD k 0) = some (byteAt s k - 87).toNat := by
  unfold byteAt at h ⊢
  unfold dl
  rw [if_neg (by omega), if_pos (by omega)]
  congr 1
  omega
theorem dl_not {s : ByteArray} {k : Nat} (h1 : ¬ (48 ≤ byteAt s k ∧ byteAt s k ≤ 57)) (h2 : ¬ (97 ≤ byteAt s k ∧ byteAt s k ≤ 102)) : dl (s.data.toList.getD k 0) = none := by
  unfold byteAt at h1 h2
  unfold dl
  rw [if_neg (by omega), if_neg (by omega)]
def ctNR : CT := [(57, .g 0 kCutL), (80, .r kFrom), (81, .r kWord)]
theorem ctNR_ok : CTok Tryd.prog ctNR := .cons specCut (.cons from_tells (.cons specWord (.nil _)))
set_option maxHeartbeats 4000000 in
theorem specRN : Tells Tryd.prog 52 (.r kRN) := by
  intro args r H' p hr hp
  unfold kRN at hr
  split at hr <;> cases hr
  rename_i t
  have hp : (t .u).size ≤ 1073741824 := hp
  have hc := cutN_le (t .u) 44
  have hm : UInt8.ofNat (Int.toNat 44) = 44 := rfl
  have hps := fun i => piece_size (t .u) 44 i
  refine ⟨allFr_tup2 (.ro fun _ _ _ _ => .f) .b, .nil, Con.of ttok Tryd.func52 rfl rfl (Nat.zero_le _) (AW.exec ttok ctNR_ok (by cbv) ?_)⟩
  simp only [natCast_int, Post, All, thenA, canon0, canon064, and_true, true_and, forall_const, implies_true, decide_eq_true_eq, decide_eq_false_iff_not, Bool.not_eq_true', Bool.not_eq_false', Bool.true_and, Bool.and_true, beq_true, beq_false, Int.toNat_natCast, Int.ofNat_lt, Int.ofNat_le, Nat.zero_add, Nat.add_zero, imp_self, Bool.cond_false_right, Bool.cond_true_left, Bool.cond_true_right, IsF, rdF_eq, fOf, AV.f.injEq, exists_eq', free_list, free_fn0, List.not_mem_nil, List.mem_cons, false_imp, forall_eq, or_false, free_i, free_f, free_b, ren_f, ren_i, ren_b, and_self, bne_iff_ne, bne_eq_false_iff_eq, ne_eq, Int.natCast_inj, or_true, true_or, freeB_list, unfr_f, unfr_i, unfr_b, unfr_c, unfr_s, free_c, free_s, ren_c, ren_s, unfr_ro, unfr_rptr, ren_ro, free_ll, free_box, kill_f, kill_i, kill_b, kill_c, kill_s, kill_rof, kill_rot, Int.toNat_zero, isFF_ll, rowN_ll, rowX_ll, AllFree, Option.some.injEq, Prod.mk.injEq, Bool.false_eq_true, Bool.true_eq_false, hp, hm]
  (repeat' first | with_reducible assumption | with_reducible apply And.intro | with_reducible intro hh) <;> first | ((first | with_reducible show (_ : Int) ≤ _ | with_reducible show (_ : Int) < _ | with_reducible show (_ : Nat) ≤ _ | with_reducible show (_ : Nat) < _ | with_reducible show (_ : Int) = _ | with_reducible show (_ : Nat) = _ | with_reducible show ¬ _ | with_reducible show _ ≠ _) <;> first | omega | (simp only [Bool.and_eq_true, Bool.or_eq_false_iff, Bool.not_eq_false', Bool.not_eq_true', decide_eq_true_eq, decide_eq_false_iff_not] at *; omega) | (with_reducible assumption)) | (with_reducible assumption) | skip
  · have e : isNone (t .u) = true := hh
    refine fin_ret (.inl rfl) (by cbv) (by simp) (To.fresh (.cons (.tup (.cons (AvTo.view (id := 0) (fr := true) rfl ?_ (left_nil _ _) ?_ .new fun k c hk hc => ?_) (.cons (.b ?_) .nil))) .nil))
    · show 0 + numRN (t .u) ≤ 0
      unfold numRN partN
      rw [okRN_none e, e]
      exact Nat.le_refl _
    · show 0 = numRN (t .u)
      unfold numRN partN
      rw [okRN_none e, e]
      rfl
    · have : numRN (t .u) = 0 := by unfold numRN partN; rw [okRN_none e, e]; rfl
      omega
    · exact (okRN_none e).symm
  · have e : isNone (t .u) = false := by assumption
    have eo : okRN (t .u) = false := by unfold okRN; rw [e, cond_false, decide_eq_false (by omega), Bool.false_and]
    refine fin_ret (.inl rfl) (by cbv) (by simp) (To.fresh (.cons (.tup (.cons (AvTo.nilRo ?_) (.cons (.b ?_) .nil))) .nil))
    · show numRN (t .u) = 0
      unfold numRN
      rw [eo]
      rfl
    · exact eo.symm
  have e : isNone (t .u) = false := by assumption
  have en : partN (t .u) = cutN (t .u) 44 := by unfold partN; rw [e]; rfl
  have h256 : cutN (t .u) 44 ≤ 256 := by omega
  have bad : ∀ i, i < cutN (t .u) 44 → okH (pieceB (t .u) 44 i) = false → okRN (t .u) = false := fun i hi hb => by
    unfold okRN
    rw [e, cond_false, allN_false (q := fun i => okH (pieceB (t .u) 44 i)) hi hb, Bool.and_false]
  have bad0 : ∀ i, i < cutN (t .u) 44 → okH (pieceB (t .u) 44 i) = false → numRN (t .u) = 0 := fun i hi hb => by
    unfold numRN
    rw [bad i hi hb]
    rfl
  refine AW.loopH (ι := Nat) (fun i => i ≤ cutN (t .u) 44 ∧ ∀ j, j < i → okH (pieceB (t .u) 44 j) = true) (fun i => cutN (t .u) 44 - i) (fun i => mkE Tryd.f52.ntmps [(4, .own 0 (fun _ => 0) (fun _ => i) 1), (5, .own 1 (fun _ => 0) (fun _ => cutN (t .u) 44) 1), (6, .i .i64 fun _ => (i : Int))])
    (fun i => [blkR i (t .u), blkT true (fun _ => cutN (t .u) 44) (pieceB (t .u) 44)]) 0 ⟨Nat.zero_le _, fun j hj => absurd hj (Nat.not_lt_zero _)⟩ (To.pick [0, 1] (by decide) (Nat.zero_le _) (fun j hj => absurd hj (Nat.not_lt_zero _)) ⟨.list (fun e => e) (Nat.le_refl _) fun j hj => absurd hj (Nat.not_lt_zero _), .list (fun e => e) (Nat.le_refl _) fun j hj => AvTo.s rfl, trivial⟩ ?_) ?_
  · (repeat' first | exact AllTo.nil | apply AllTo.cons) <;> first | exact AvTo.dead _ | exact AvTo.i rfl | exact AvTo.own rfl rfl rfl rfl | skip
  · rintro Q' hQ i ⟨hi, hok⟩
    have hpi := hps i
    refine AW.exec ttok ctNR_ok (by cbv) ?_
    simp only [natCast_int, Post, All, thenA, canon0, canon064, and_true, true_and, forall_const, implies_true, decide_eq_true_eq, decide_eq_false_iff_not, Bool.not_eq_true', Bool.not_eq_false', Bool.true_and, Bool.and_true, beq_true, beq_false, Int.toNat_natCast, Int.ofNat_lt, Int.ofNat_le, Nat.zero_add, Nat.add_zero, imp_self, Bool.cond_false_right, Bool.cond_true_left, Bool.cond_true_right, IsF, rdF_eq, fOf, AV.f.injEq, exists_eq', free_list, free_fn0, List.not_mem_nil, List.mem_cons, false_imp, forall_eq, or_false, free_i, free_f, free_b, ren_f, ren_i, ren_b, and_self, bne_iff_ne, bne_eq_false_iff_eq, ne_eq, Int.natCast_inj, or_true, true_or, freeB_list, unfr_f, unfr_i, unfr_b, unfr_c, unfr_s, free_c, free_s, ren_c, ren_s, unfr_ro, unfr_rptr, ren_ro, free_ll, free_box, kill_f, kill_i, kill_b, kill_c, kill_s, kill_rof, kill_rot, Int.toNat_zero, isFF_ll, rowN_ll, rowX_ll, AllFree, Option.some.injEq, Prod.mk.injEq, Bool.false_eq_true, Bool.true_eq_false]
    (repeat' first | with_reducible assumption | with_reducible apply And.intro | with_reducible intro hh) <;> first | ((first | with_reducible show (_ : Int) ≤ _ | with_reducible show (_ : Int) < _ | with_reducible show (_ : Nat) ≤ _ | with_reducible show (_ : Nat) < _ | with_reducible show (_ : Int) = _ | with_reducible show (_ : Nat) = _ | with_reducible show ¬ _ | with_reducible show _ ≠ _) <;> first | omega | (simp only [Bool.and_eq_true, Bool.or_eq_false_iff, Bool.not_eq_false', Bool.not_eq_true', decide_eq_true_eq, decide_eq_false_iff_not] at *; omega) | (with_reducible assumption)) | (with_reducible assumption) | skip
    · obtain ⟨rfl⟩ := hQ
      have hb := okH_size (s := pieceB (t .u) 44 i) (by omega)
      refine Post.leaf (by cbv) (fin_ret (.inl rfl) (by cbv) (by simp) (To.fresh (.cons (.tup (.cons (AvTo.nilRo ?_) (.cons (.b ?_) .nil))) .nil)))
      · exact bad0 i ‹_› hb
      · exact (bad i ‹_› hb).symm
    have h8 : (pieceB (t .u) 44 i).size = 8 := by omega
    have hin : i < cutN (t .u) 44 := by assumption
    refine AW.loopH (ι := Nat × Nat) (fun q => q.1 ≤ 8 ∧ HexSt (pieceB (t .u) 44 i) q.1 q.2) (fun q => 8 - q.1) (fun q => mkE Tryd.f52.ntmps [(4, .own 0 (fun _ => 0) (fun _ => i) 1), (5, .own 1 (fun _ => 0) (fun _ => cutN (t .u) 44) 1), (6, .i .i64 fun _ => (i : Int)), (7, .i .i64 fun _ => (q.2 : Int)), (8, .i .i64 fun _ => (q.1 : Int))])
      (fun _ => [blkR i (t .u), blkT true (fun _ => cutN (t .u) 44) (pieceB (t .u) 44)]) (0, 0) ⟨Nat.zero_le _, HexSt.start _⟩ (To.pick [0, 1] (by decide) (Nat.zero_le _) (fun j hj => absurd hj (Nat.not_lt_zero _)) ⟨.list (fun e => e) (Nat.le_refl _) fun j hj => AvTo.f rfl, .list (fun e => e) (Nat.le_refl _) fun j hj => AvTo.s rfl, trivial⟩ ?_) ?_
    · (repeat' first | exact AllTo.nil | apply AllTo.cons) <;> first | exact AvTo.dead _ | exact AvTo.i rfl | exact AvTo.own rfl rfl rfl rfl | skip
    · rintro Q'' hQ' ⟨k, m⟩ ⟨hk, hst⟩
      have hk : k ≤ 8 := hk
      have hst : HexSt (pieceB (t .u) 44 i) k m := hst
      have hm16 : m < 4294967296 := Nat.lt_of_lt_of_le hst.2 (Nat.pow_le_pow_right (by decide) hk)
      obtain ⟨hb0, hb1⟩ := byteAt_lt (pieceB (t .u) 44 i) k
      have hw1 : 48 ≤ byteAt (pieceB (t .u) 44 i) k → IntKind.u8.wrap (byteAt (pieceB (t .u) 44 i) k - 48) = byteAt (pieceB (t .u) 44 i) k - 48 := fun h => by rw [IntKind.wrap_u8]; omega
      have hw2 : 97 ≤ byteAt (pieceB (t .u) 44 i) k → IntKind.u8.wrap (byteAt (pieceB (t .u) 44 i) k - 97) = byteAt (pieceB (t .u) 44 i) k - 97 := fun h => by rw [IntKind.wrap_u8]; omega
      have go : ∀ d : Nat, dl ((pieceB (t .u) 44 i).data.toList.getD k 0) = some d → k < 8 → HexSt (pieceB (t .u) 44 i) (k + 1) (16 * m + d) := fun d hd hk8 => hst.step (by omega) hd
      have no : dl ((pieceB (t .u) 44 i).data.toList.getD k 0) = none → k < 8 → okH (pieceB (t .u) 44 i) = false := fun hd hk8 => hst.bad (by omega) hd
      have dn := dl_num (s := pieceB (t .u) 44 i) (k := k)
      have dt := dl_let (s := pieceB (t .u) 44 i) (k := k)
      have dx := dl_not (s := pieceB (t .u) 44 i) (k := k)
      by_cases hk8 : k < 8
      · have hk8' : decide ((k : Int) < 8) = true := decide_eq_true (by omega)
        by_cases hD : 48 ≤ byteAt (pieceB (t .u) 44 i) k ∧ byteAt (pieceB (t .u) 44 i) k ≤ 57
        · have hD' : (decide (48 ≤ byteAt (pieceB (t .u) 44 i) k) && decide (byteAt (pieceB (t .u) 44 i) k ≤ 57)) = true := by rw [decide_eq_true hD.1, decide_eq_true hD.2]; rfl
          have hL' : (decide (97 ≤ byteAt (pieceB (t .u) 44 i) k) && decide (byteAt (pieceB (t .u) 44 i) k ≤ 102)) = false := by rw [decide_eq_false (by omega), Bool.false_and]
          have hw := hw1 hD.1
          refine AW.exec ttok ctNR_ok (by cbv) ?_
          simp only [natCast_int, Post, All, thenA, canon0, canon064, and_true, true_and, forall_const, implies_true, decide_eq_true_eq, decide_eq_false_iff_not, Bool.not_eq_true', Bool.not_eq_false', Bool.true_and, Bool.and_true, beq_true, beq_false, Int.toNat_natCast, Int.ofNat_lt, Int.ofNat_le, Nat.zero_add, Nat.add_zero, imp_self, Bool.cond_false_right, Bool.cond_true_left, Bool.cond_true_right, IsF, rdF_eq, fOf, AV.f.injEq, exists_eq', free_list, free_fn0, List.not_mem_nil, List.mem_cons, false_imp, forall_eq, or_false, free_i, free_f, free_b, ren_f, ren_i, ren_b, and_self, bne_iff_ne, bne_eq_false_iff_eq, ne_eq, Int.natCast_inj, or_true, true_or, freeB_list, unfr_f, unfr_i, unfr_b, unfr_c, unfr_s, free_c, free_s, ren_c, ren_s, unfr_ro, unfr_rptr, ren_ro, free_ll, free_box, kill_f, kill_i, kill_b, kill_c, kill_s, kill_rof, kill_rot, Int.toNat_zero, isFF_ll, rowN_ll, rowX_ll, AllFree, Option.some.injEq, Prod.mk.injEq, Bool.false_eq_true, Bool.true_eq_false, hD', hL', hw]
          (repeat' first | with_reducible assumption | with_reducible apply And.intro | with_reducible intro hh) <;> first | ((first | with_reducible show (_ : Int) ≤ _ | with_reducible show (_ : Int) < _ | with_reducible show (_ : Nat) ≤ _ | with_reducible show (_ : Nat) < _ | with_reducible show (_ : Int) = _ | with_reducible show (_ : Nat) = _ | with_reducible show ¬ _ | with_reducible show _ ≠ _) <;> first | omega | (simp only [Bool.and_eq_true, Bool.or_eq_false_iff, Bool.not_eq_false', Bool.not_eq_true', decide_eq_true_eq, decide_eq_false_iff_not] at *; omega) | (with_reducible assumption)) | (with_reducible assumption) | skip
          all_goals first | (exfalso; omega) | skip
          refine ⟨(k + 1, 16 * m + (byteAt (pieceB (t .u) 44 i) k - 48).toNat), ⟨by show k + 1 ≤ 8; omega, go _ (dn hD) hk8⟩, (by show 8 - (k + 1) < 8 - k; omega), To.pick [0, 1] (by decide) (Nat.zero_le _) (fun j hj => absurd hj (Nat.not_lt_zero _)) ⟨.list (fun e => e) (Nat.le_refl _) fun j hj => AvTo.f rfl, .list (fun e => e) (Nat.le_refl _) fun j hj => AvTo.s rfl, trivial⟩ ?_⟩
          (repeat' first | exact AllTo.nil | apply AllTo.cons) <;> first | exact AvTo.dead _ | exact AvTo.i rfl | exact AvTo.i (by first | omega | (simp only [natCast_int]; omega)) | exact AvTo.own rfl rfl rfl rfl | skip
        · have hD' : (decide (48 ≤ byteAt (pieceB (t .u) 44 i) k) && decide (byteAt (pieceB (t .u) 44 i) k ≤ 57)) = false := by rw [← Bool.decide_and]; exact decide_eq_false hD
          by_cases hL : 97 ≤ byteAt (pieceB (t .u) 44 i) k ∧ byteAt (pieceB (t .u) 44 i) k ≤ 102
          · have hL' : (decide (97 ≤ byteAt (pieceB (t .u) 44 i) k) && decide (byteAt (pieceB (t .u) 44 i) k ≤ 102)) = true := by rw [decide_eq_true hL.1, decide_eq_true hL.2]; rfl
            have hw := hw2 hL.1
            refine AW.exec ttok ctNR_ok (by cbv) ?_
            simp only [natCast_int, Post, All, thenA, canon0, canon064, and_true, true_and, forall_const, implies_true, decide_eq_true_eq, decide_eq_false_iff_not, Bool.not_eq_true', Bool.not_eq_false', Bool.true_and, Bool.and_true, beq_true, beq_false, Int.toNat_natCast, Int.ofNat_lt, Int.ofNat_le, Nat.zero_add, Nat.add_zero, imp_self, Bool.cond_false_right, Bool.cond_true_left, Bool.cond_true_right, IsF, rdF_eq, fOf, AV.f.injEq, exists_eq', free_list, free_fn0, List.not_mem_nil, List.mem_cons, false_imp, forall_eq, or_false, free_i, free_f, free_b, ren_f, ren_i, ren_b, and_self, bne_iff_ne, bne_eq_false_iff_eq, ne_eq, Int.natCast_inj, or_true, true_or, freeB_list, unfr_f, unfr_i, unfr_b, unfr_c, unfr_s, free_c, free_s, ren_c, ren_s, unfr_ro, unfr_rptr, ren_ro, free_ll, free_box, kill_f, kill_i, kill_b, kill_c, kill_s, kill_rof, kill_rot, Int.toNat_zero, isFF_ll, rowN_ll, rowX_ll, AllFree, Option.some.injEq, Prod.mk.injEq, Bool.false_eq_true, Bool.true_eq_false, hD', hL', hw]
            (repeat' first | with_reducible assumption | with_reducible apply And.intro | with_reducible intro hh) <;> first | ((first | with_reducible show (_ : Int) ≤ _ | with_reducible show (_ : Int) < _ | with_reducible show (_ : Nat) ≤ _ | with_reducible show (_ : Nat) < _ | with_reducible show (_ : Int) = _ | with_reducible show (_ : Nat) = _ | with_reducible show ¬ _ | with_reducible show _ ≠ _) <;> first | omega | (simp only [Bool.and_eq_true, Bool.or_eq_false_iff, Bool.not_eq_false', Bool.not_eq_true', decide_eq_true_eq, decide_eq_false_iff_not] at *; omega) | (with_reducible assumption)) | (with_reducible assumption) | skip
            all_goals first | (exfalso; omega) | skip
            refine ⟨(k + 1, 16 * m + (byteAt (pieceB (t .u) 44 i) k - 87).toNat), ⟨by show k + 1 ≤ 8; omega, go _ (dt hL) hk8⟩, (by show 8 - (k + 1) < 8 - k; omega), To.pick [0, 1] (by decide) (Nat.zero_le _) (fun j hj => absurd hj (Nat.not_lt_zero _)) ⟨.list (fun e => e) (Nat.le_refl _) fun j hj => AvTo.f rfl, .list (fun e => e) (Nat.le_refl _) fun j hj => AvTo.s rfl, trivial⟩ ?_⟩
            (repeat' first | exact AllTo.nil | apply AllTo.cons) <;> first | exact AvTo.dead _ | exact AvTo.i rfl | exact AvTo.i (by first | omega | (simp only [natCast_int]; omega)) | exact AvTo.own rfl rfl rfl rfl | skip
          · have hL' : (decide (97 ≤ byteAt (pieceB (t .u) 44 i) k) && decide (byteAt (pieceB (t .u) 44 i) k ≤ 102)) = false := by rw [← Bool.decide_and]; exact decide_eq_false hL
            have hb := no (dx hD hL) hk8
            refine AW.exec ttok ctNR_ok (by cbv) ?_
            simp only [natCast_int, Post, All, thenA, canon0, canon064, and_true, true_and, forall_const, implies_true, decide_eq_true_eq, decide_eq_false_iff_not, Bool.not_eq_true', Bool.not_eq_false', Bool.true_and, Bool.and_true, beq_true, beq_false, Int.toNat_natCast, Int.ofNat_lt, Int.ofNat_le, Nat.zero_add, Nat.add_zero, imp_self, Bool.cond_false_right, Bool.cond_true_left, Bool.cond_true_right, IsF, rdF_eq, fOf, AV.f.injEq, exists_eq', free_list, free_fn0, List.not_mem_nil, List.mem_cons, false_imp, forall_eq, or_false, free_i, free_f, free_b, ren_f, ren_i, ren_b, and_self, bne_iff_ne, bne_eq_false_iff_eq, ne_eq, Int.natCast_inj, or_true, true_or, freeB_list, unfr_f, unfr_i, unfr_b, unfr_c, unfr_s, free_c, free_s, ren_c, ren_s, unfr_ro, unfr_rptr, ren_ro, free_ll, free_box, kill_f, kill_i, kill_b, kill_c, kill_s, kill_rof, kill_rot, Int.toNat_zero, isFF_ll, rowN_ll, rowX_ll, AllFree, Option.some.injEq, Prod.mk.injEq, Bool.false_eq_true, Bool.true_eq_false, hD', hL']
            (repeat' first | with_reducible assumption | with_reducible apply And.intro | with_reducible intro hh) <;> first | ((first | with_reducible show (_ : Int) ≤ _ | with_reducible show (_ : Int) < _ | with_reducible show (_ : Nat) ≤ _ | with_reducible show (_ : Nat) < _ | with_reducible show (_ : Int) = _ | with_reducible show (_ : Nat) = _ | with_reducible show ¬ _ | with_reducible show _ ≠ _) <;> first | omega | (simp only [Bool.and_eq_true, Bool.or_eq_false_iff, Bool.not_eq_false', Bool.not_eq_true', decide_eq_true_eq, decide_eq_false_iff_not] at *; omega) | (with_reducible assumption)) | (with_reducible assumption) | skip
            all_goals first | (exfalso; omega) | skip
            obtain ⟨rfl⟩ := hQ'
            obtain ⟨rfl⟩ := hQ
            refine Post.leaf (by cbv) ?_
            refine Post.leaf (by cbv) (fin_ret (.inl rfl) (by cbv) (by simp) (To.fresh (.cons (.tup (.cons (AvTo.nilRo ?_) (.cons (.b ?_) .nil))) .nil)))
            · exact bad0 i ‹_› hb
            · exact (bad i ‹_› hb).symm
      · have hk' : k = 8 := by omega
        subst hk'
        obtain ⟨hokH, hm32, hxH⟩ := hst.done h8
        have hm0 : ((m : Int)).toNat = m := by omega
        have hcl := canon_lt (m := m) (by omega)
        refine AW.exec ttok ctNR_ok (by cbv) ?_
        simp only [natCast_int, Post, All, thenA, canon0, canon064, and_true, true_and, forall_const, implies_true, decide_eq_true_eq, decide_eq_false_iff_not, Bool.not_eq_true', Bool.not_eq_false', Bool.true_and, Bool.and_true, beq_true, beq_false, Int.toNat_natCast, Int.ofNat_lt, Int.ofNat_le, Nat.zero_add, Nat.add_zero, imp_self, Bool.cond_false_right, Bool.cond_true_left, Bool.cond_true_right, IsF, rdF_eq, fOf, AV.f.injEq, exists_eq', free_list, free_fn0, List.not_mem_nil, List.mem_cons, false_imp, forall_eq, or_false, free_i, free_f, free_b, ren_f, ren_i, ren_b, and_self, bne_iff_ne, bne_eq_false_iff_eq, ne_eq, Int.natCast_inj, or_true, true_or, freeB_list, unfr_f, unfr_i, unfr_b, unfr_c, unfr_s, free_c, free_s, ren_c, ren_s, unfr_ro, unfr_rptr, ren_ro, free_ll, free_box, kill_f, kill_i, kill_b, kill_c, kill_s, kill_rof, kill_rot, Int.toNat_zero, isFF_ll, rowN_ll, rowX_ll, AllFree, Option.some.injEq, Prod.mk.injEq, Bool.false_eq_true, Bool.true_eq_false]
        (repeat' first | with_reducible assumption | with_reducible apply And.intro | with_reducible intro hh) <;> first | ((first | with_reducible show (_ : Int) ≤ _ | with_reducible show (_ : Int) < _ | with_reducible show (_ : Nat) ≤ _ | with_reducible show (_ : Nat) < _ | with_reducible show (_ : Int) = _ | with_reducible show (_ : Nat) = _ | with_reducible show ¬ _ | with_reducible show _ ≠ _) <;> first | omega | (simp only [Bool.and_eq_true, Bool.or_eq_false_iff, Bool.not_eq_false', Bool.not_eq_true', decide_eq_true_eq, decide_eq_false_iff_not] at *; omega) | (with_reducible assumption)) | (with_reducible assumption) | skip
        all_goals first | (exfalso; omega) | skip
        obtain ⟨rfl⟩ := hQ'
        refine Post.eval (by cbv) ?_
        simp only [natCast_int, Post, All, thenA, canon0, canon064, and_true, true_and, forall_const, implies_true, decide_eq_true_eq, decide_eq_false_iff_not, Bool.not_eq_true', Bool.not_eq_false', Bool.true_and, Bool.and_true, beq_true, beq_false, Int.toNat_natCast, Int.ofNat_lt, Int.ofNat_le, Nat.zero_add, Nat.add_zero, imp_self, Bool.cond_false_right, Bool.cond_true_left, Bool.cond_true_right, IsF, rdF_eq, fOf, AV.f.injEq, exists_eq', free_list, free_fn0, List.not_mem_nil, List.mem_cons, false_imp, forall_eq, or_false, free_i, free_f, free_b, ren_f, ren_i, ren_b, and_self, bne_iff_ne, bne_eq_false_iff_eq, ne_eq, Int.natCast_inj, or_true, true_or, freeB_list, unfr_f, unfr_i, unfr_b, unfr_c, unfr_s, free_c, free_s, ren_c, ren_s, unfr_ro, unfr_rptr, ren_ro, free_ll, free_box, kill_f, kill_i, kill_b, kill_c, kill_s, kill_rof, kill_rot, Int.toNat_zero, isFF_ll, rowN_ll, rowX_ll, AllFree, Option.some.injEq, Prod.mk.injEq, Bool.false_eq_true, Bool.true_eq_false, hm0]
        (repeat' first | with_reducible assumption | with_reducible apply And.intro | with_reducible intro hh) <;> first | ((first | with_reducible show (_ : Int) ≤ _ | with_reducible show (_ : Int) < _ | with_reducible show (_ : Nat) ≤ _ | with_reducible show (_ : Nat) < _ | with_reducible show (_ : Int) = _ | with_reducible show (_ : Nat) = _ | with_reducible show ¬ _ | with_reducible show _ ≠ _) <;> first | omega | (simp only [Bool.and_eq_true, Bool.or_eq_false_iff, Bool.not_eq_false', Bool.not_eq_true', decide_eq_true_eq, decide_eq_false_iff_not] at *; omega) | (with_reducible assumption)) | (with_reducible assumption) | skip
        · have hb := hokH.trans (decide_eq_false (by assumption))
          obtain ⟨rfl⟩ := hQ
          refine Post.leaf (by cbv) (fin_ret (.inl rfl) (by cbv) (by simp) (To.fresh (.cons (.tup (.cons (AvTo.nilRo ?_) (.cons (.b ?_) .nil))) .nil)))
          · exact bad0 i ‹_› hb
          · exact (bad i ‹_› hb).symm
        · have hg := hokH.trans (decide_eq_true (by assumption))
          refine ⟨i + 1, ⟨by omega, lt_succ_all hok hg⟩, by omega, To.pick [3, 1] (by decide) (Nat.zero_le _) (fun j hj => absurd hj (Nat.not_lt_zero _)) ⟨.list (fun e => e) (Nat.le_refl _) fun j hj => app_one hj (fun _ => AvTo.f rfl) fun e => AvTo.f (by subst e; exact hxH.symm), .list (fun e => e) (Nat.le_refl _) fun j hj => AvTo.s rfl, trivial⟩ ?_⟩
          (repeat' first | exact AllTo.nil | apply AllTo.cons) <;> first | exact AvTo.dead _ | exact AvTo.i rfl | exact AvTo.i (by first | omega | (simp only [natCast_int]; omega)) | exact AvTo.own rfl rfl rfl rfl | skip
    · obtain ⟨rfl⟩ := hQ
      refine Post.eval (by cbv) ?_
      have ei : i = cutN (t .u) 44 := by omega
      have eo : okRN (t .u) = true := okRN_all (fun _ => by omega) (fun j hj => hok j (by omega))
      have enn : numRN (t .u) = partN (t .u) := by unfold numRN; rw [eo]; rfl
      simp only [natCast_int, Post, All, thenA, canon0, canon064, and_true, true_and, forall_const, implies_true, decide_eq_true_eq, decide_eq_false_iff_not, Bool.not_eq_true', Bool.not_eq_false', Bool.true_and, Bool.and_true, beq_true, beq_false, Int.toNat_natCast, Int.ofNat_lt, Int.ofNat_le, Nat.zero_add, Nat.add_zero, imp_self, Bool.cond_false_right, Bool.cond_true_left, Bool.cond_true_right, IsF, rdF_eq, fOf, AV.f.injEq, exists_eq', free_list, free_fn0, List.not_mem_nil, List.mem_cons, false_imp, forall_eq, or_false, free_i, free_f, free_b, ren_f, ren_i, ren_b, and_self, bne_iff_ne, bne_eq_false_iff_eq, ne_eq, Int.natCast_inj, or_true, true_or, freeB_list, unfr_f, unfr_i, unfr_b, unfr_c, unfr_s, free_c, free_s, ren_c, ren_s, unfr_ro, unfr_rptr, ren_ro, free_ll, free_box, kill_f, kill_i, kill_b, kill_c, kill_s, kill_rof, kill_rot, Int.toNat_zero, isFF_ll, rowN_ll, rowX_ll, AllFree, Option.some.injEq, Prod.mk.injEq, Bool.false_eq_true, Bool.true_eq_false]
      (repeat' first | with_reducible assumption | with_reducible apply And.intro | with_reducible intro hh) <;> first | ((first | with_reducible show (_ : Int) ≤ _ | with_reducible show (_ : Int) < _ | with_reducible show (_ : Nat) ≤ _ | with_reducible show (_ : Nat) < _ | with_reducible show (_ : Int) = _ | with_reducible show (_ : Nat) = _ | with_reducible show ¬ _ | with_reducible show _ ≠ _) <;> first | omega | (simp only [Bool.and_eq_true, Bool.or_eq_false_iff, Bool.not_eq_false', Bool.not_eq_true', decide_eq_true_eq, decide_eq_false_iff_not] at *; omega) | (with_reducible assumption)) | (with_reducible assumption) | skip
      refine fin_ret (.inl rfl) (by cbv) (by simp) (To.fresh (.cons (.tup (.cons (AvTo.view (id := 0) (fr := true) rfl ?_ (left_nil _ _) ?_ .new fun k c hk hc => ?_) (.cons (.b ?_) .nil))) .nil))
      · show 0 + numRN (t .u) ≤ i
        omega
      · show i = numRN (t .u)
        omega
      · exact AvTo.f (by simp)
      · exact eo.symm
end Go.Proofs.YtkglnfkbejoheaaDoor
