/- Texts: what Go's library tells of them where the mark is one byte. -/
import Derived.Test.YtjlkflceicdcdaaDoorSa
import Derived.Test.YtjlkflceicdcdaaDoorFc
import Derived.Laws.Externs
set_option linter.unusedSimpArgs false
set_option linter.unusedVariables false
namespace Go.Proofs.YtjlkflceicdcdaaDoor
open Go.Aw
open Go.Lib (indexByte countByte extract_eq size_eq)
def kCountX : Kx
  | [.s x, .i .u8 c] => some (.i .i64 fun _ => (countByte (x .u).data.toList (c .u).toNat.toUInt8 : Nat), fun _ => True)
  | _ => none
theorem countX_tells : Tells Tryd.prog 110 (.x kCountX) := by
  intro args r p hr hp w ρ L H vals hR hl hs
  unfold kCountX at hr
  split at hr <;> cases hr
  rename_i x c
  obtain ⟨v, u, rfl⟩ : ∃ v u, vals = #[v, u] := by
    obtain ⟨l⟩ := vals
    match l, hl with
    | [v, u], _ => exact ⟨v, u, rfl⟩
  obtain rfl := (hs 0 _ v rfl rfl).s_inv
  obtain rfl := (hs 1 _ u rfl rfl).i_inv
  have hrun := run_callFunc_extern (P := Tryd.prog) (e := Extern.BytealgCount.count) Tryd.func110 (by kernel_rfl) (by kernel_rfl) (by kernel_rfl) (by kernel_rfl) #[.string (x .u), .int .u8 (c .u)] w
  rw [Go.Lib.run_countString] at hrun
  exact ⟨_, w, ρ, .inl hrun, hR, Pass.refl _ _ _, .i⟩
def kIdxX : Kx
  | [.s x, .i .u8 c] => some (.i .i64 fun _ => indexByte (x .u).data.toList (c .u).toNat.toUInt8, fun _ => True)
  | _ => none
theorem idxX_tells : Tells Tryd.prog 111 (.x kIdxX) := by
  intro args r p hr hp w ρ L H vals hR hl hs
  unfold kIdxX at hr
  split at hr <;> cases hr
  rename_i x c
  obtain ⟨v, u, rfl⟩ : ∃ v u, vals = #[v, u] := by
    obtain ⟨l⟩ := vals
    match l, hl with
    | [v, u], _ => exact ⟨v, u, rfl⟩
  obtain rfl := (hs 0 _ v rfl rfl).s_inv
  obtain rfl := (hs 1 _ u rfl rfl).i_inv
  have hrun := run_callFunc_extern (P := Tryd.prog) (e := Extern.BytealgIndexByte.indexByte) Tryd.func111 (by kernel_rfl) (by kernel_rfl) (by kernel_rfl) (by kernel_rfl) #[.string (x .u), .int .u8 (c .u)] w
  rw [Go.Lib.run_indexByteString] at hrun
  exact ⟨_, w, ρ, .inl hrun, hR, Pass.refl _ _ _, .i⟩
def kIdxB : Kr
  | [.s x, .i .u8 c] => some (.i .i64 fun _ => indexByte (x .u).data.toList (c .u).toNat.toUInt8, [], fun _ => True)
  | _ => none
def ctIdxB : CT := [(111, .x kIdxX)]
theorem ctIdxB_ok : CTok Tryd.prog ctIdxB := .cons idxX_tells (.nil _)
theorem idxB_tells : Tells Tryd.prog 93 (.r kIdxB) := by
  intro args r H' p hr hp
  unfold kIdxB at hr
  split at hr <;> cases hr
  refine ⟨.i, .nil, Con.of ttok Tryd.func93 rfl rfl (Nat.le_refl _) (AW.exec ttok ctIdxB_ok (by cbv) ?_)⟩
  simp only [natCast_int, Post, All, thenA, canon0, canon064, and_true, true_and, forall_const, implies_true, decide_eq_true_eq, decide_eq_false_iff_not, Bool.not_eq_true', Bool.not_eq_false', Bool.true_and, Bool.and_true, beq_true, beq_false, Int.toNat_natCast, Int.ofNat_lt, Int.ofNat_le, Nat.zero_add, Nat.add_zero, imp_self, Bool.cond_false_right, Bool.cond_true_left, Bool.cond_true_right, IsF, rdF_eq, fOf, AV.f.injEq, exists_eq', free_list, free_fn0, List.not_mem_nil, List.mem_cons, false_imp, forall_eq, or_false, free_i, free_f, free_b, ren_f, ren_i, ren_b, and_self, bne_iff_ne, bne_eq_false_iff_eq, ne_eq, Int.natCast_inj, or_true, true_or, freeB_list, unfr_f, unfr_i, unfr_b, unfr_c, unfr_s, free_c, free_s, ren_c, ren_s, unfr_ro, unfr_rptr, ren_ro, free_ll, free_box, kill_f, kill_i, kill_b, kill_c, kill_s, kill_rof, kill_rot, Int.toNat_zero, isFF_ll, rowN_ll, rowX_ll, AllFree, Option.some.injEq, Prod.mk.injEq, Bool.false_eq_true, Bool.true_eq_false]
  (repeat' first | with_reducible assumption | with_reducible apply And.intro | with_reducible intro hh) <;> first | ((first | with_reducible show (_ : Int) ≤ _ | with_reducible show (_ : Int) < _ | with_reducible show (_ : Nat) ≤ _ | with_reducible show (_ : Nat) < _ | with_reducible show (_ : Int) = _ | with_reducible show (_ : Nat) = _ | with_reducible show ¬ _ | with_reducible show _ ≠ _) <;> first | omega | (simp only [Bool.and_eq_true, Bool.or_eq_false_iff, Bool.not_eq_false', Bool.not_eq_true', decide_eq_true_eq, decide_eq_false_iff_not] at *; omega) | (with_reducible assumption)) | (with_reducible assumption) | skip
  all_goals exact fin_ret (.inl rfl) (by cbv) (by simp) (To.fresh (.cons (.i rfl) .nil))
def markOf (y : ByteArray) : UInt8 := (byteAt y 0).toNat.toUInt8
def kIdx1 : Kr
  | [.s x, .s y] => some (.i .i64 fun _ => indexByte (x .u).data.toList (markOf (y .u)), [], fun _ => (y .u).size = 1)
  | _ => none
theorem eq_of_toList {a b : ByteArray} (h : (a.toList == b.toList) = true) : a = b := by
  have h : a.toList = b.toList := by simpa using h
  rw [Go.Lib.toList_data, Go.Lib.toList_data] at h
  rw [← toB_list a, ← toB_list b, h]
theorem toList_beq (a b : ByteArray) : (a.toList == b.toList) = decide (a = b) := by
  cases hb : (a.toList == b.toList) with
  | true => exact (decide_eq_true (eq_of_toList hb)).symm
  | false => exact (decide_eq_false fun e => by rw [e] at hb; simp at hb).symm
theorem index_self {y : ByteArray} (h : y.size = 1) : indexByte y.data.toList (markOf y) = 0 := by
  rw [size_eq] at h
  unfold markOf byteAt
  match hl : y.data.toList, h with
  | [b], _ => simp [indexByte]
def ctIdx1 : CT := [(93, .r kIdxB)]
theorem ctIdx1_ok : CTok Tryd.prog ctIdx1 := .cons idxB_tells (.nil _)
theorem idx1_tells : Tells Tryd.prog 77 (.r kIdx1) := by
  intro args r H' p hr hp
  unfold kIdx1 at hr
  split at hr <;> cases hr
  rename_i x y
  have hp : (y .u).size = 1 := hp
  refine ⟨.i, .nil, Con.of ttok Tryd.func77 rfl rfl (Nat.le_refl _) (AW.exec ttok ctIdx1_ok (by cbv) ?_)⟩
  simp only [natCast_int, Post, All, thenA, canon0, canon064, and_true, true_and, forall_const, implies_true, decide_eq_true_eq, decide_eq_false_iff_not, Bool.not_eq_true', Bool.not_eq_false', Bool.true_and, Bool.and_true, beq_true, beq_false, Int.toNat_natCast, Int.ofNat_lt, Int.ofNat_le, Nat.zero_add, Nat.add_zero, imp_self, Bool.cond_false_right, Bool.cond_true_left, Bool.cond_true_right, IsF, rdF_eq, fOf, AV.f.injEq, exists_eq', free_list, free_fn0, List.not_mem_nil, List.mem_cons, false_imp, forall_eq, or_false, free_i, free_f, free_b, ren_f, ren_i, ren_b, and_self, bne_iff_ne, bne_eq_false_iff_eq, ne_eq, Int.natCast_inj, or_true, true_or, freeB_list, unfr_f, unfr_i, unfr_b, unfr_c, unfr_s, free_c, free_s, ren_c, ren_s, unfr_ro, unfr_rptr, ren_ro, free_ll, free_box, kill_f, kill_i, kill_b, kill_c, kill_s, kill_rof, kill_rot, Int.toNat_zero, isFF_ll, rowN_ll, rowX_ll, AllFree, Option.some.injEq, Prod.mk.injEq, Bool.false_eq_true, Bool.true_eq_false, hp]
  (repeat' first | with_reducible assumption | with_reducible apply And.intro | with_reducible intro hh) <;> first | ((first | with_reducible show (_ : Int) ≤ _ | with_reducible show (_ : Int) < _ | with_reducible show (_ : Nat) ≤ _ | with_reducible show (_ : Nat) < _ | with_reducible show (_ : Int) = _ | with_reducible show (_ : Nat) = _ | with_reducible show ¬ _ | with_reducible show _ ≠ _) <;> first | omega | (simp only [Bool.and_eq_true, Bool.or_eq_false_iff, Bool.not_eq_false', Bool.not_eq_true', decide_eq_true_eq, decide_eq_false_iff_not] at *; omega) | (with_reducible assumption)) | (with_reducible assumption) | skip
  · rename_i hh
    have e : y .u = x .u := by
      rcases (Bool.or_eq_true _ _).mp hh with h | h
      · exact absurd h (by decide)
      · exact eq_of_toList h
    refine fin_ret (.inl rfl) (by cbv) (by simp) (To.fresh (.cons (.i ?_) .nil))
    show (0 : Int) = indexByte (x .u).data.toList (markOf (y .u))
    rw [← e, index_self hp]
  · exact fin_ret (.inl rfl) (by cbv) (by simp) (To.fresh (.cons (.i rfl) .nil))
  all_goals exact absurd ‹_ = false› (by decide)
def ctIdx : CT := [(77, .r kIdx1)]
theorem ctIdx_ok : CTok Tryd.prog ctIdx := .cons idx1_tells (.nil _)
theorem idx_tells : Tells Tryd.prog 60 (.r kIdx1) := by
  intro args r H' p hr hp
  unfold kIdx1 at hr
  split at hr <;> cases hr
  rename_i x y
  have hp : (y .u).size = 1 := hp
  refine ⟨.i, .nil, Con.of ttok Tryd.func60 rfl rfl (Nat.le_refl _) (AW.exec ttok ctIdx_ok (by cbv) ?_)⟩
  simp only [natCast_int, Post, All, thenA, canon0, canon064, and_true, true_and, forall_const, implies_true, decide_eq_true_eq, decide_eq_false_iff_not, Bool.not_eq_true', Bool.not_eq_false', Bool.true_and, Bool.and_true, beq_true, beq_false, Int.toNat_natCast, Int.ofNat_lt, Int.ofNat_le, Nat.zero_add, Nat.add_zero, imp_self, Bool.cond_false_right, Bool.cond_true_left, Bool.cond_true_right, IsF, rdF_eq, fOf, AV.f.injEq, exists_eq', free_list, free_fn0, List.not_mem_nil, List.mem_cons, false_imp, forall_eq, or_false, free_i, free_f, free_b, ren_f, ren_i, ren_b, and_self, bne_iff_ne, bne_eq_false_iff_eq, ne_eq, Int.natCast_inj, or_true, true_or, freeB_list, unfr_f, unfr_i, unfr_b, unfr_c, unfr_s, free_c, free_s, ren_c, ren_s, unfr_ro, unfr_rptr, ren_ro, free_ll, free_box, kill_f, kill_i, kill_b, kill_c, kill_s, kill_rof, kill_rot, Int.toNat_zero, isFF_ll, rowN_ll, rowX_ll, AllFree, Option.some.injEq, Prod.mk.injEq, Bool.false_eq_true, Bool.true_eq_false, hp]
  (repeat' first | with_reducible assumption | with_reducible apply And.intro | with_reducible intro hh) <;> first | ((first | with_reducible show (_ : Int) ≤ _ | with_reducible show (_ : Int) < _ | with_reducible show (_ : Nat) ≤ _ | with_reducible show (_ : Nat) < _ | with_reducible show (_ : Int) = _ | with_reducible show (_ : Nat) = _ | with_reducible show ¬ _ | with_reducible show _ ≠ _) <;> first | omega | (simp only [Bool.and_eq_true, Bool.or_eq_false_iff, Bool.not_eq_false', Bool.not_eq_true', decide_eq_true_eq, decide_eq_false_iff_not] at *; omega) | (with_reducible assumption)) | (with_reducible assumption) | skip
  all_goals exact fin_ret (.inl rfl) (by cbv) (by simp) (To.fresh (.cons (.i rfl) .nil))
def kHas1 : Kr
  | [.s x, .s y] => some (.b fun _ => decide (0 ≤ indexByte (x .u).data.toList (markOf (y .u))), [], fun _ => (y .u).size = 1)
  | _ => none
def ctHas : CT := [(60, .r kIdx1)]
theorem ctHas_ok : CTok Tryd.prog ctHas := .cons idx_tells (.nil _)
theorem has_tells : Tells Tryd.prog 34 (.r kHas1) := by
  intro args r H' p hr hp
  unfold kHas1 at hr
  split at hr <;> cases hr
  rename_i x y
  have hp : (y .u).size = 1 := hp
  refine ⟨.b, .nil, Con.of ttok Tryd.func34 rfl rfl (Nat.le_refl _) (AW.exec ttok ctHas_ok (by cbv) ?_)⟩
  simp only [natCast_int, Post, All, thenA, canon0, canon064, and_true, true_and, forall_const, implies_true, decide_eq_true_eq, decide_eq_false_iff_not, Bool.not_eq_true', Bool.not_eq_false', Bool.true_and, Bool.and_true, beq_true, beq_false, Int.toNat_natCast, Int.ofNat_lt, Int.ofNat_le, Nat.zero_add, Nat.add_zero, imp_self, Bool.cond_false_right, Bool.cond_true_left, Bool.cond_true_right, IsF, rdF_eq, fOf, AV.f.injEq, exists_eq', free_list, free_fn0, List.not_mem_nil, List.mem_cons, false_imp, forall_eq, or_false, free_i, free_f, free_b, ren_f, ren_i, ren_b, and_self, bne_iff_ne, bne_eq_false_iff_eq, ne_eq, Int.natCast_inj, or_true, true_or, freeB_list, unfr_f, unfr_i, unfr_b, unfr_c, unfr_s, free_c, free_s, ren_c, ren_s, unfr_ro, unfr_rptr, ren_ro, free_ll, free_box, kill_f, kill_i, kill_b, kill_c, kill_s, kill_rof, kill_rot, Int.toNat_zero, isFF_ll, rowN_ll, rowX_ll, AllFree, Option.some.injEq, Prod.mk.injEq, Bool.false_eq_true, Bool.true_eq_false, hp]
  (repeat' first | with_reducible assumption | with_reducible apply And.intro | with_reducible intro hh) <;> first | ((first | with_reducible show (_ : Int) ≤ _ | with_reducible show (_ : Int) < _ | with_reducible show (_ : Nat) ≤ _ | with_reducible show (_ : Nat) < _ | with_reducible show (_ : Int) = _ | with_reducible show (_ : Nat) = _ | with_reducible show ¬ _ | with_reducible show _ ≠ _) <;> first | omega | (simp only [Bool.and_eq_true, Bool.or_eq_false_iff, Bool.not_eq_false', Bool.not_eq_true', decide_eq_true_eq, decide_eq_false_iff_not] at *; omega) | (with_reducible assumption)) | (with_reducible assumption) | skip
  all_goals exact fin_ret (.inl rfl) (by cbv) (by simp) (To.fresh (.cons (.b rfl) .nil))
def kCnt1 : Kr
  | [.s x, .s y] => some (.i .i64 fun _ => (countByte (x .u).data.toList (markOf (y .u)) : Nat), [], fun _ => (y .u).size = 1)
  | _ => none
def ctCnt : CT := [(110, .x kCountX)]
theorem ctCnt_ok : CTok Tryd.prog ctCnt := .cons countX_tells (.nil _)
theorem cnt_tells : Tells Tryd.prog 92 (.r kCnt1) := by
  intro args r H' p hr hp
  unfold kCnt1 at hr
  split at hr <;> cases hr
  rename_i x y
  have hp : (y .u).size = 1 := hp
  have h0 : ¬ (((y .u).size : Int) = 0) := by omega
  refine ⟨.i, .nil, Con.of ttok Tryd.func92 rfl rfl (Nat.le_refl _) (AW.exec ttok ctCnt_ok (by cbv) ?_)⟩
  simp only [natCast_int, Post, All, thenA, canon0, canon064, and_true, true_and, forall_const, implies_true, decide_eq_true_eq, decide_eq_false_iff_not, Bool.not_eq_true', Bool.not_eq_false', Bool.true_and, Bool.and_true, beq_true, beq_false, Int.toNat_natCast, Int.ofNat_lt, Int.ofNat_le, Nat.zero_add, Nat.add_zero, imp_self, Bool.cond_false_right, Bool.cond_true_left, Bool.cond_true_right, IsF, rdF_eq, fOf, AV.f.injEq, exists_eq', free_list, free_fn0, List.not_mem_nil, List.mem_cons, false_imp, forall_eq, or_false, free_i, free_f, free_b, ren_f, ren_i, ren_b, and_self, bne_iff_ne, bne_eq_false_iff_eq, ne_eq, Int.natCast_inj, or_true, true_or, freeB_list, unfr_f, unfr_i, unfr_b, unfr_c, unfr_s, free_c, free_s, ren_c, ren_s, unfr_ro, unfr_rptr, ren_ro, free_ll, free_box, kill_f, kill_i, kill_b, kill_c, kill_s, kill_rof, kill_rot, Int.toNat_zero, isFF_ll, rowN_ll, rowX_ll, AllFree, Option.some.injEq, Prod.mk.injEq, Bool.false_eq_true, Bool.true_eq_false, hp]
  (repeat' first | with_reducible assumption | with_reducible apply And.intro | with_reducible intro hh) <;> first | ((first | with_reducible show (_ : Int) ≤ _ | with_reducible show (_ : Int) < _ | with_reducible show (_ : Nat) ≤ _ | with_reducible show (_ : Nat) < _ | with_reducible show (_ : Int) = _ | with_reducible show (_ : Nat) = _ | with_reducible show ¬ _ | with_reducible show _ ≠ _) <;> first | omega | (simp only [Bool.and_eq_true, Bool.or_eq_false_iff, Bool.not_eq_false', Bool.not_eq_true', decide_eq_true_eq, decide_eq_false_iff_not] at *; omega) | (with_reducible assumption)) | (with_reducible assumption) | skip
  · exact absurd (by assumption : (((1 : Nat) : Int) == 0) = true) (by decide)
  all_goals first | exact absurd (by assumption : (((1 : Nat) : Int) == 1) = false) (by decide) | exact fin_ret (.inl rfl) (by cbv) (by simp) (To.fresh (.cons (.i rfl) .nil))
theorem allFr_tup3 {a b c : AV} (ha : AllFr a) (hb : AllFr b) (hc : AllFr c) : AllFr (.tup [a, b, c]) := .tup fun x hx => by
  simp only [List.mem_cons, List.mem_nil_iff, or_false] at hx
  rcases hx with rfl | rfl | rfl <;> assumption
def cutA (x y : ByteArray) : ByteArray := bif decide (0 ≤ indexByte x.data.toList (markOf y)) then x.extract 0 (indexByte x.data.toList (markOf y)).toNat else x
def cutZ (x y : ByteArray) : ByteArray := bif decide (0 ≤ indexByte x.data.toList (markOf y)) then x.extract ((indexByte x.data.toList (markOf y)).toNat + 1) x.size else ⟨#[]⟩
def kCut1 : Kr
  | [.s x, .s y] => some (.tup [.s fun _ => cutA (x .u) (y .u), .s fun _ => cutZ (x .u) (y .u), .b fun _ => decide (0 ≤ indexByte (x .u).data.toList (markOf (y .u)))], [], fun _ => (y .u).size = 1 ∧ (x .u).size ≤ 1073741824)
  | _ => none
theorem index_lt {x : ByteArray} {c : UInt8} (h : 0 ≤ indexByte x.data.toList c) : indexByte x.data.toList c < (x.size : Int) := by
  have := (index_some h).1
  rw [← size_eq] at this
  omega
theorem cut_tells : Tells Tryd.prog 64 (.r kCut1) := by
  intro args r H' p hr hp
  unfold kCut1 at hr
  split at hr <;> cases hr
  rename_i x y
  have hx := hp.2
  have hp : (y .u).size = 1 := hp.1
  refine ⟨allFr_tup3 .s .s .b, .nil, Con.of ttok Tryd.func64 rfl rfl (Nat.le_refl _) (AW.exec ttok ctIdx_ok (by cbv) ?_)⟩
  simp only [natCast_int, Post, All, thenA, canon0, canon064, and_true, true_and, forall_const, implies_true, decide_eq_true_eq, decide_eq_false_iff_not, Bool.not_eq_true', Bool.not_eq_false', Bool.true_and, Bool.and_true, beq_true, beq_false, Int.toNat_natCast, Int.ofNat_lt, Int.ofNat_le, Nat.zero_add, Nat.add_zero, imp_self, Bool.cond_false_right, Bool.cond_true_left, Bool.cond_true_right, IsF, rdF_eq, fOf, AV.f.injEq, exists_eq', free_list, free_fn0, List.not_mem_nil, List.mem_cons, false_imp, forall_eq, or_false, free_i, free_f, free_b, ren_f, ren_i, ren_b, and_self, bne_iff_ne, bne_eq_false_iff_eq, ne_eq, Int.natCast_inj, or_true, true_or, freeB_list, unfr_f, unfr_i, unfr_b, unfr_c, unfr_s, free_c, free_s, ren_c, ren_s, unfr_ro, unfr_rptr, ren_ro, free_ll, free_box, kill_f, kill_i, kill_b, kill_c, kill_s, kill_rof, kill_rot, Int.toNat_zero, isFF_ll, rowN_ll, rowX_ll, AllFree, Option.some.injEq, Prod.mk.injEq, Bool.false_eq_true, Bool.true_eq_false, hp]
  (repeat' first | with_reducible assumption | with_reducible apply And.intro | with_reducible intro hh) <;> first | ((first | with_reducible show (_ : Int) ≤ _ | with_reducible show (_ : Int) < _ | with_reducible show (_ : Nat) ≤ _ | with_reducible show (_ : Nat) < _ | with_reducible show (_ : Int) = _ | with_reducible show (_ : Nat) = _ | with_reducible show ¬ _ | with_reducible show _ ≠ _) <;> first | omega | (simp only [Bool.and_eq_true, Bool.or_eq_false_iff, Bool.not_eq_false', Bool.not_eq_true', decide_eq_true_eq, decide_eq_false_iff_not] at *; omega) | (with_reducible assumption)) | (with_reducible assumption) | skip
  all_goals try (have hlt := index_lt (x := x .u) (c := markOf (y .u)) (by assumption))
  · omega
  · omega
  · omega
  · refine fin_ret (.inl rfl) (by cbv) (by simp) (To.fresh (.cons (.tup (.cons (.s ?_) (.cons (.s ?_) (.cons (.b ?_) .nil)))) .nil))
    · have h0 : 0 ≤ indexByte (x .u).data.toList (markOf (y .u)) := by assumption
      simp only [cutA, h0, decide_true, cond_true]
    · have h0 : 0 ≤ indexByte (x .u).data.toList (markOf (y .u)) := by assumption
      simp only [cutZ, h0, decide_true, cond_true, show (indexByte (x .u).data.toList (markOf (y .u)) + ((1 : Nat) : Int)).toNat = (indexByte (x .u).data.toList (markOf (y .u))).toNat + 1 by omega]
    · have h0 : 0 ≤ indexByte (x .u).data.toList (markOf (y .u)) := by assumption
      exact (decide_eq_true h0).symm
  · have h0 : ¬ 0 ≤ indexByte (x .u).data.toList (markOf (y .u)) := by assumption
    refine fin_ret (.inl rfl) (by cbv) (by simp) (To.fresh (.cons (.tup (.cons (.s ?_) (.cons (.s ?_) (.cons (.b ?_) .nil)))) .nil))
    · simp only [cutA, h0, decide_false, cond_false]
    · simp only [cutZ, h0, decide_false, cond_false]
    · exact (decide_eq_false h0).symm
def ctCut : CT := [(64, .r kCut1)]
theorem ctCut_ok : CTok Tryd.prog ctCut := .cons cut_tells (.nil _)
theorem cutS_tells : Tells Tryd.prog 41 (.r kCut1) := by
  intro args r H' p hr hp
  unfold kCut1 at hr
  split at hr <;> cases hr
  rename_i x y
  have hx := hp.2
  have hp : (y .u).size = 1 := hp.1
  refine ⟨allFr_tup3 .s .s .b, .nil, Con.of ttok Tryd.func41 rfl rfl (Nat.le_refl _) (AW.exec ttok ctCut_ok (by cbv) ?_)⟩
  simp only [natCast_int, Post, All, thenA, canon0, canon064, and_true, true_and, forall_const, implies_true, decide_eq_true_eq, decide_eq_false_iff_not, Bool.not_eq_true', Bool.not_eq_false', Bool.true_and, Bool.and_true, beq_true, beq_false, Int.toNat_natCast, Int.ofNat_lt, Int.ofNat_le, Nat.zero_add, Nat.add_zero, imp_self, Bool.cond_false_right, Bool.cond_true_left, Bool.cond_true_right, IsF, rdF_eq, fOf, AV.f.injEq, exists_eq', free_list, free_fn0, List.not_mem_nil, List.mem_cons, false_imp, forall_eq, or_false, free_i, free_f, free_b, ren_f, ren_i, ren_b, and_self, bne_iff_ne, bne_eq_false_iff_eq, ne_eq, Int.natCast_inj, or_true, true_or, freeB_list, unfr_f, unfr_i, unfr_b, unfr_c, unfr_s, free_c, free_s, ren_c, ren_s, unfr_ro, unfr_rptr, ren_ro, free_ll, free_box, kill_f, kill_i, kill_b, kill_c, kill_s, kill_rof, kill_rot, Int.toNat_zero, isFF_ll, rowN_ll, rowX_ll, AllFree, Option.some.injEq, Prod.mk.injEq, Bool.false_eq_true, Bool.true_eq_false, hp, hx]
  (repeat' first | with_reducible assumption | with_reducible apply And.intro | with_reducible intro hh) <;> first | ((first | with_reducible show (_ : Int) ≤ _ | with_reducible show (_ : Int) < _ | with_reducible show (_ : Nat) ≤ _ | with_reducible show (_ : Nat) < _ | with_reducible show (_ : Int) = _ | with_reducible show (_ : Nat) = _ | with_reducible show ¬ _ | with_reducible show _ ≠ _) <;> first | omega | (simp only [Bool.and_eq_true, Bool.or_eq_false_iff, Bool.not_eq_false', Bool.not_eq_true', decide_eq_true_eq, decide_eq_false_iff_not] at *; omega) | (with_reducible assumption)) | (with_reducible assumption) | skip
  all_goals exact fin_ret (.inl rfl) (by cbv) (by simp) (To.fresh (.cons (.tup (.cons (.s rfl) (.cons (.s rfl) (.cons (.b rfl) .nil)))) .nil))
end Go.Proofs.YtjlkflceicdcdaaDoor
