/- Texts cut at one byte: plain laws, no program in sight. -/
/- Texts: what Go's library tells of them where the mark is one byte. -/
import Derived.Lib.Bytealg
import Derived.Test.YtkglnfkbejoheaaDoorAwo
import Derived.Test.YtkglnfkbejoheaaDoorFc
import Derived.Laws.Externs
set_option linter.unusedSimpArgs false
set_option linter.unusedVariables false
namespace Go.Proofs.YtkglnfkbejoheaaDoor
open Go.Aw
open Go.Lib (indexByte countByte extract_eq size_eq)
def splitB (c : UInt8) : List UInt8 → List (List UInt8)
  | [] => [[]]
  | b :: l => if b == c then [] :: splitB c l else match splitB c l with
    | h :: r => (b :: h) :: r
    | [] => [[b]]
theorem splitB_ne (c : UInt8) : ∀ l, splitB c l ≠ [] := by
  intro l
  cases l with
  | nil => simp [splitB]
  | cons b l =>
    unfold splitB
    split
    · simp
    · split <;> simp
theorem splitB_app {c : UInt8} : ∀ {a : List UInt8}, c ∉ a → ∀ b, splitB c (a ++ c :: b) = a :: splitB c b := by
  intro a
  induction a with
  | nil => intro _ b; simp [splitB]
  | cons x a ih =>
    intro h b
    have hx : ¬ x = c := fun e => h (by simp [e])
    rw [List.cons_append, splitB, if_neg (by simpa using hx), ih (fun e => h (by simp [e]))]
theorem splitB_none {c : UInt8} : ∀ {a : List UInt8}, c ∉ a → splitB c a = [a] := by
  intro a
  induction a with
  | nil => intro _; rfl
  | cons x a ih =>
    intro h
    have hx : ¬ x = c := fun e => h (by simp [e])
    rw [splitB, if_neg (by simpa using hx), ih (fun e => h (by simp [e]))]
theorem splitB_length (c : UInt8) : ∀ l, (splitB c l).length = countByte l c + 1 := by
  intro l
  induction l with
  | nil => rfl
  | cons b l ih =>
    unfold countByte at ih ⊢
    rw [splitB, List.count_cons]
    by_cases h : (b == c) = true
    · rw [if_pos h, if_pos h, List.length_cons, ih]
    · rw [if_neg h, if_neg h]
      cases hs : splitB c l with
      | nil => exact absurd hs (splitB_ne c l)
      | cons x r => rw [hs] at ih; simpa using ih
theorem index_none {c : UInt8} : ∀ {l : List UInt8}, indexByte l c < 0 → c ∉ l := by
  intro l
  induction l with
  | nil => intro _; simp
  | cons b l ih =>
    intro h
    unfold indexByte at h
    split at h
    · exact absurd h (by decide)
    · rename_i hb
      have hn : indexByte l c < 0 := by
        split at h
        · rename_i e
          have : indexByte l c = -1 := by simpa using e
          omega
        · have := Go.Lib.indexByte_ge l c
          rename_i e
          have : ¬ indexByte l c = -1 := by simpa using e
          omega
      have hb' : ¬ b = c := by simpa using hb
      simp only [List.mem_cons, not_or]
      exact ⟨fun e => hb' e.symm, ih hn⟩
theorem index_some {c : UInt8} : ∀ {l : List UInt8}, 0 ≤ indexByte l c → (indexByte l c).toNat < l.length ∧ l = l.take (indexByte l c).toNat ++ c :: l.drop ((indexByte l c).toNat + 1) ∧ c ∉ l.take (indexByte l c).toNat := by
  intro l
  induction l with
  | nil => intro h; exact absurd (show (0 : Int) ≤ -1 from h) (by decide)
  | cons b l ih =>
    intro h
    unfold indexByte at h ⊢
    by_cases hb : (b == c) = true
    · simp only [hb, if_true]
      have : b = c := by simpa using hb
      subst this
      exact ⟨by simp, by simp, by simp⟩
    · simp only [hb, if_false] at h ⊢
      by_cases he : (indexByte l c == -1) = true
      · rw [if_pos he] at h; exact absurd h (by decide)
      · simp only [he, if_false] at h ⊢
        have h1 : ¬ indexByte l c = -1 := by simpa using he
        have h2 : 0 ≤ indexByte l c := by have := Go.Lib.indexByte_ge l c; omega
        obtain ⟨k1, k2, k3⟩ := ih h2
        have e : (indexByte l c + 1).toNat = (indexByte l c).toNat + 1 := by omega
        simp only [Bool.false_eq_true, if_false, e]
        refine ⟨by simp; exact k1, ?_, ?_⟩
        · rw [List.take_succ_cons, List.cons_append, List.drop_succ_cons, ← k2]
        · rw [List.take_succ_cons]
          simp only [List.mem_cons, not_or]
          exact ⟨fun e => hb (by simp [e]), k3⟩
def toB (l : List UInt8) : ByteArray := ⟨l.toArray⟩
theorem toB_list (t : ByteArray) : toB t.data.toList = t := by
  obtain ⟨⟨l⟩⟩ := t
  rfl
theorem list_toB (l : List UInt8) : (toB l).data.toList = l := by simp [toB]
def pieceB (t : ByteArray) (c : UInt8) (j : Nat) : ByteArray := toB ((splitB c t.data.toList).getD j [])
def cutN (t : ByteArray) (c : UInt8) : Nat := (splitB c t.data.toList).length
theorem cutN_count (t : ByteArray) (c : UInt8) : cutN t c = countByte t.data.toList c + 1 := splitB_length c _
theorem cutN_pos (t : ByteArray) (c : UInt8) : 1 ≤ cutN t c := by rw [cutN_count]; omega
theorem cutN_le (t : ByteArray) (c : UInt8) : cutN t c ≤ t.size + 1 := by
  rw [cutN_count, size_eq]
  unfold countByte
  have := List.count_le_length (a := c) (l := t.data.toList)
  omega
/-- What is left of a text behind its first j pieces. -/
def RestAt (t : ByteArray) (c : UInt8) (j : Nat) (s : ByteArray) : Prop := (splitB c t.data.toList).drop j = splitB c s.data.toList ∧ s.size ≤ t.size
theorem RestAt.start (t : ByteArray) (c : UInt8) : RestAt t c 0 t := ⟨rfl, Nat.le_refl _⟩
theorem drop_head {α : Type} {l : List α} {j : Nat} {x : α} {r : List α} (d : α) (h : l.drop j = x :: r) : l.getD j d = x ∧ l.drop (j + 1) = r ∧ j < l.length := by
  have hl : j < l.length := by
    refine Nat.lt_of_not_le fun hge => ?_
    rw [List.drop_of_length_le hge] at h
    cases h
  rw [List.drop_eq_getElem_cons hl] at h
  injection h with h1 h2
  refine ⟨?_, h2, hl⟩
  rw [List.getD_eq_getElem?_getD, List.getElem?_eq_getElem hl]
  exact h1
theorem RestAt.hit {t s : ByteArray} {c : UInt8} {j : Nat} (h : RestAt t c j s) (hi : 0 ≤ indexByte s.data.toList c) :
    pieceB t c j = s.extract 0 (indexByte s.data.toList c).toNat ∧ RestAt t c (j + 1) (s.extract ((indexByte s.data.toList c).toNat + 1) s.size) ∧ j + 1 < cutN t c ∧ (indexByte s.data.toList c).toNat < s.size := by
  obtain ⟨h1, h2⟩ := h
  obtain ⟨k1, k2, k3⟩ := index_some hi
  generalize (indexByte s.data.toList c).toNat = m at k1 k2 k3 ⊢
  have e := splitB_app k3 (s.data.toList.drop (m + 1))
  rw [← k2] at e
  rw [e] at h1
  obtain ⟨g1, g2, g3⟩ := drop_head [] h1
  have hsz : s.data.toList.length = s.size := (size_eq s).symm
  have e2 : (s.extract (m + 1) s.size).data.toList = s.data.toList.drop (m + 1) := by
    rw [extract_eq]
    show (s.data.toList.drop (m + 1)).take (s.size - (m + 1)) = _
    rw [List.take_of_length_le (by rw [List.length_drop, hsz]; omega)]
  refine ⟨?_, ⟨?_, ?_⟩, ?_, by omega⟩
  · unfold pieceB
    rw [g1, extract_eq]
    simp [toB]
  · rw [g2, e2]
  · rw [size_eq, e2, List.length_drop]
    omega
  · unfold cutN
    have : 0 < ((splitB c t.data.toList).drop (j + 1)).length := by
      rw [g2]
      exact List.length_pos_iff.2 (splitB_ne c _)
    rw [List.length_drop] at this
    omega
theorem RestAt.miss {t s : ByteArray} {c : UInt8} {j : Nat} (h : RestAt t c j s) (hi : indexByte s.data.toList c < 0) : pieceB t c j = s ∧ j + 1 = cutN t c := by
  obtain ⟨h1, h2⟩ := h
  rw [splitB_none (index_none hi)] at h1
  obtain ⟨g1, g2, g3⟩ := drop_head [] h1
  refine ⟨?_, ?_⟩
  · unfold pieceB
    rw [g1, toB_list]
  · unfold cutN
    have := congrArg List.length g2
    rw [List.length_drop] at this
    simp at this
    omega
theorem RestAt.last {t s : ByteArray} {c : UInt8} {j : Nat} (h : RestAt t c j s) (hj : cutN t c ≤ j + 1) : pieceB t c j = s ∧ j + 1 = cutN t c :=
  h.miss (Int.not_le.1 fun hi => by have := (h.hit hi).2.2.1; omega)
/-- A text read byte by byte: r pieces are cut, the next begins at f, and there is no mark from f to i. -/
structure CutSt (t : ByteArray) (c : UInt8) (i f r : Nat) : Prop where
  fi : f ≤ i
  il : i ≤ t.size
  rest : (splitB c t.data.toList).drop r = splitB c (t.data.toList.drop f)
  free : ∀ p, f ≤ p → p < i → t.data.toList.getD p 0 ≠ c
theorem CutSt.start (t : ByteArray) (c : UInt8) : CutSt t c 0 0 0 := ⟨Nat.le_refl _, Nat.zero_le _, rfl, fun p _ h => absurd h (Nat.not_lt_zero _)⟩
theorem CutSt.skip {t : ByteArray} {c : UInt8} {i f r : Nat} (h : CutSt t c i f r) (hi : i < t.size) (hb : t.data.toList.getD i 0 ≠ c) : CutSt t c (i + 1) f r :=
  ⟨by have := h.fi; omega, hi, h.rest, fun p h1 h2 => by
    by_cases e : p = i
    · rw [e]; exact hb
    · exact h.free p h1 (by omega)⟩
theorem CutSt.lt {t : ByteArray} {c : UInt8} {i f r : Nat} (h : CutSt t c i f r) : r < cutN t c := by
  unfold cutN
  have : 0 < ((splitB c t.data.toList).drop r).length := by
    rw [h.rest]
    exact List.length_pos_iff.2 (splitB_ne c _)
  rw [List.length_drop] at this
  omega
theorem CutSt.clear {t : ByteArray} {c : UInt8} {i f r : Nat} (h : CutSt t c i f r) : c ∉ (t.data.toList.drop f).take (i - f) := by
  intro hm
  obtain ⟨q, hq, e⟩ := List.mem_iff_getElem.1 hm
  have hq' : q < i - f := by simp at hq; omega
  have hl : f + q < t.data.toList.length := by have := h.il; have := size_eq t; omega
  rw [List.getElem_take, List.getElem_drop] at e
  refine h.free (f + q) (by omega) (by omega) ?_
  rw [List.getD_eq_getElem?_getD, List.getElem?_eq_getElem hl]
  exact e
theorem CutSt.cut {t : ByteArray} {c : UInt8} {i f r : Nat} (h : CutSt t c i f r) (hi : i < t.size) (hb : t.data.toList.getD i 0 = c) : pieceB t c r = t.extract f i ∧ CutSt t c (i + 1) (i + 1) (r + 1) ∧ r + 1 < cutN t c := by
  have hl : i < t.data.toList.length := by rw [← size_eq]; exact hi
  have e : t.data.toList.drop f = (t.data.toList.drop f).take (i - f) ++ c :: t.data.toList.drop (i + 1) := by
    have e1 := List.take_append_drop (i - f) (t.data.toList.drop f)
    rw [List.drop_drop, show f + (i - f) = i by have := h.fi; omega, List.drop_eq_getElem_cons hl] at e1
    have e2 : t.data.toList[i] = c := by
      rw [List.getD_eq_getElem?_getD, List.getElem?_eq_getElem hl] at hb
      exact hb
    rw [e2] at e1
    exact e1.symm
  have h1 := h.rest
  rw [e, splitB_app h.clear] at h1
  obtain ⟨g1, g2, g3⟩ := drop_head [] h1
  refine ⟨?_, ⟨Nat.le_refl _, hi, g2, fun p h1 h2 => by omega⟩, ?_⟩
  · unfold pieceB
    rw [g1, extract_eq]
    rfl
  · unfold cutN
    have : 0 < ((splitB c t.data.toList).drop (r + 1)).length := by
      rw [g2]
      exact List.length_pos_iff.2 (splitB_ne c _)
    rw [List.length_drop] at this
    omega
theorem CutSt.last {t : ByteArray} {c : UInt8} {f r : Nat} (h : CutSt t c t.size f r) : pieceB t c r = t.extract f t.size ∧ r + 1 = cutN t c := by
  have hc := h.clear
  have e : (t.data.toList.drop f).take (t.size - f) = t.data.toList.drop f := List.take_of_length_le (by rw [List.length_drop, ← size_eq]; exact Nat.le_refl _)
  have h1 := h.rest
  rw [e] at hc
  rw [splitB_none hc] at h1
  obtain ⟨g1, g2, g3⟩ := drop_head [] h1
  refine ⟨?_, ?_⟩
  · unfold pieceB
    rw [g1, extract_eq, e]
    rfl
  · unfold cutN
    have := congrArg List.length g2
    rw [List.length_drop] at this
    simp at this
    omega
end Go.Proofs.YtkglnfkbejoheaaDoor
set_option linter.unusedSimpArgs false
set_option linter.unusedVariables false
namespace Go.Proofs.YtkglnfkbejoheaaDoor
open Go.Aw
open Go.Lib (indexByte countByte extract_eq size_eq)
def kCountX : Kx
  | [.s x, .i .u8 c] => some (.i .i64 fun _ => (countByte (x .u).data.toList (c .u).toNat.toUInt8 : Nat), fun _ => True)
  | _ => none
theorem countX_tells : Tells Tryd.prog 154 (.x kCountX) := by
  intro args r p hr hp w ρ L H vals hR hl hs
  unfold kCountX at hr
  split at hr <;> cases hr
  rename_i x c
  obtain ⟨v, u, rfl⟩ : ∃ v u, vals = #[v, u] := by
    obtain ⟨l⟩ := vals
    match l, hl with
    | [v, u], _ => exact ⟨v, u, rfl⟩
  obtain rfl := (hs 0 _ v rfl rfl).s_inv
  obtain rfl := (hs 1 _ u rfl rfl).i_inv
  have hrun := run_callFunc_extern (P := Tryd.prog) (e := Extern.BytealgCount.count) Tryd.func154 (by kernel_rfl) (by kernel_rfl) (by kernel_rfl) (by kernel_rfl) #[.string (x .u), .int .u8 (c .u)] w
  rw [Go.Lib.run_countString] at hrun
  exact ⟨_, w, ρ, .inl hrun, hR, Pass.refl _ _ _, .i⟩
def kIdxX : Kx
  | [.s x, .i .u8 c] => some (.i .i64 fun _ => indexByte (x .u).data.toList (c .u).toNat.toUInt8, fun _ => True)
  | _ => none
theorem idxX_tells : Tells Tryd.prog 145 (.x kIdxX) := by
  intro args r p hr hp w ρ L H vals hR hl hs
  unfold kIdxX at hr
  split at hr <;> cases hr
  rename_i x c
  obtain ⟨v, u, rfl⟩ : ∃ v u, vals = #[v, u] := by
    obtain ⟨l⟩ := vals
    match l, hl with
    | [v, u], _ => exact ⟨v, u, rfl⟩
  obtain rfl := (hs 0 _ v rfl rfl).s_inv
  obtain rfl := (hs 1 _ u rfl rfl).i_inv
  have hrun := run_callFunc_extern (P := Tryd.prog) (e := Extern.BytealgIndexByte.indexByte) Tryd.func145 (by kernel_rfl) (by kernel_rfl) (by kernel_rfl) (by kernel_rfl) #[.string (x .u), .int .u8 (c .u)] w
  rw [Go.Lib.run_indexByteString] at hrun
  exact ⟨_, w, ρ, .inl hrun, hR, Pass.refl _ _ _, .i⟩
def kIdxB : Kr
  | [.s x, .i .u8 c] => some (.i .i64 fun _ => indexByte (x .u).data.toList (c .u).toNat.toUInt8, [], fun _ => True)
  | _ => none
def ctIdxB : CT := [(145, .x kIdxX)]
theorem ctIdxB_ok : CTok Tryd.prog ctIdxB := .cons idxX_tells (.nil _)
theorem idxB_tells : Tells Tryd.prog 121 (.r kIdxB) := by
  intro args r H' p hr hp
  unfold kIdxB at hr
  split at hr <;> cases hr
  refine ⟨.i, .nil, Con.of ttok Tryd.func121 rfl rfl (Nat.le_refl _) (AW.exec ttok ctIdxB_ok (by cbv) ?_)⟩
  simp only [natCast_int, Post, All, thenA, canon0, canon064, and_true, true_and, forall_const, implies_true, decide_eq_true_eq, decide_eq_false_iff_not, Bool.not_eq_true', Bool.not_eq_false', Bool.true_and, Bool.and_true, beq_true, beq_false, Int.toNat_natCast, Int.ofNat_lt, Int.ofNat_le, Nat.zero_add, Nat.add_zero, imp_self, Bool.cond_false_right, Bool.cond_true_left, Bool.cond_true_right, IsF, rdF_eq, fOf, AV.f.injEq, exists_eq', free_list, free_fn0, List.not_mem_nil, List.mem_cons, false_imp, forall_eq, or_false, free_i, free_f, free_b, ren_f, ren_i, ren_b, and_self, bne_iff_ne, bne_eq_false_iff_eq, ne_eq, Int.natCast_inj, or_true, true_or, freeB_list, unfr_f, unfr_i, unfr_b, unfr_c, unfr_s, free_c, free_s, ren_c, ren_s, unfr_ro, unfr_rptr, ren_ro, free_ll, free_box, kill_f, kill_i, kill_b, kill_c, kill_s, kill_rof, kill_rot, Int.toNat_zero, isFF_ll, rowN_ll, rowX_ll, AllFree, Option.some.injEq, Prod.mk.injEq, Bool.false_eq_true, Bool.true_eq_false]
  (repeat' first | with_reducible assumption | with_reducible apply And.intro | with_reducible intro hh) <;> first | ((first | with_reducible show (_ : Int) ≤ _ | with_reducible show (_ : Int) < _ | with_reducible show (_ : Nat) ≤ _ | with_reducible show (_ : Nat) < _ | with_reducible show (_ : Int) = _ | with_reducible show (_ : Nat) = _ | with_reducible show ¬ _ | with_reducible show _ ≠ _) <;> first | omega | (simp only [Bool.and_eq_true, Bool.or_eq_false_iff, Bool.not_eq_false', Bool.not_eq_true', decide_eq_true_eq, decide_eq_false_iff_not] at *; omega) | (with_reducible assumption)) | (with_reducible assumption) | skip
  all_goals exact fin_ret (.inl rfl) (by cbv) (by simp) (To.fresh (.cons (.i rfl) .nil))
def markOf (y : ByteArray) : UInt8 := (byteAt y 0).toNat.toUInt8
def kIdx1 : Kr
  | [.s x, .s y] => some (.i .i64 fun _ => indexByte (x .u).data.toList (markOf (y .u)), [], fun _ => (y .u).size = 1)
  | _ => none
theorem eq_of_toList {a b : ByteArray} (h : (a.toList == b.toList) = true) : a = b := by
  have h : a.toList = b.toList := by simpa using h
  rw [Go.Lib.toList_data, Go.Lib.toList_data] at h
  rw [← toB_list a, ← toB_list b, h]
theorem toList_beq (a b : ByteArray) : (a.toList == b.toList) = decide (a = b) := by
  cases hb : (a.toList == b.toList) with
  | true => exact (decide_eq_true (eq_of_toList hb)).symm
  | false => exact (decide_eq_false fun e => by rw [e] at hb; simp at hb).symm
theorem index_self {y : ByteArray} (h : y.size = 1) : indexByte y.data.toList (markOf y) = 0 := by
  rw [size_eq] at h
  unfold markOf byteAt
  match hl : y.data.toList, h with
  | [b], _ => simp [indexByte]
def ctIdx1 : CT := [(121, .r kIdxB)]
theorem ctIdx1_ok : CTok Tryd.prog ctIdx1 := .cons idxB_tells (.nil _)
theorem idx1_tells : Tells Tryd.prog 92 (.r kIdx1) := by
  intro args r H' p hr hp
  unfold kIdx1 at hr
  split at hr <;> cases hr
  rename_i x y
  have hp : (y .u).size = 1 := hp
  refine ⟨.i, .nil, Con.of ttok Tryd.func92 rfl rfl (Nat.le_refl _) (AW.exec ttok ctIdx1_ok (by cbv) ?_)⟩
  simp only [natCast_int, Post, All, thenA, canon0, canon064, and_true, true_and, forall_const, implies_true, decide_eq_true_eq, decide_eq_false_iff_not, Bool.not_eq_true', Bool.not_eq_false', Bool.true_and, Bool.and_true, beq_true, beq_false, Int.toNat_natCast, Int.ofNat_lt, Int.ofNat_le, Nat.zero_add, Nat.add_zero, imp_self, Bool.cond_false_right, Bool.cond_true_left, Bool.cond_true_right, IsF, rdF_eq, fOf, AV.f.injEq, exists_eq', free_list, free_fn0, List.not_mem_nil, List.mem_cons, false_imp, forall_eq, or_false, free_i, free_f, free_b, ren_f, ren_i, ren_b, and_self, bne_iff_ne, bne_eq_false_iff_eq, ne_eq, Int.natCast_inj, or_true, true_or, freeB_list, unfr_f, unfr_i, unfr_b, unfr_c, unfr_s, free_c, free_s, ren_c, ren_s, unfr_ro, unfr_rptr, ren_ro, free_ll, free_box, kill_f, kill_i, kill_b, kill_c, kill_s, kill_rof, kill_rot, Int.toNat_zero, isFF_ll, rowN_ll, rowX_ll, AllFree, Option.some.injEq, Prod.mk.injEq, Bool.false_eq_true, Bool.true_eq_false, hp]
  (repeat' first | with_reducible assumption | with_reducible apply And.intro | with_reducible intro hh) <;> first | ((first | with_reducible show (_ : Int) ≤ _ | with_reducible show (_ : Int) < _ | with_reducible show (_ : Nat) ≤ _ | with_reducible show (_ : Nat) < _ | with_reducible show (_ : Int) = _ | with_reducible show (_ : Nat) = _ | with_reducible show ¬ _ | with_reducible show _ ≠ _) <;> first | omega | (simp only [Bool.and_eq_true, Bool.or_eq_false_iff, Bool.not_eq_false', Bool.not_eq_true', decide_eq_true_eq, decide_eq_false_iff_not] at *; omega) | (with_reducible assumption)) | (with_reducible assumption) | skip
  · rename_i hh
    have e : y .u = x .u := by
      rcases (Bool.or_eq_true _ _).mp hh with h | h
      · exact absurd h (by decide)
      · exact eq_of_toList h
    refine fin_ret (.inl rfl) (by cbv) (by simp) (To.fresh (.cons (.i ?_) .nil))
    show (0 : Int) = indexByte (x .u).data.toList (markOf (y .u))
    rw [← e, index_self hp]
  · exact fin_ret (.inl rfl) (by cbv) (by simp) (To.fresh (.cons (.i rfl) .nil))
  all_goals exact absurd ‹_ = false› (by decide)
def ctIdx : CT := [(92, .r kIdx1)]
theorem ctIdx_ok : CTok Tryd.prog ctIdx := .cons idx1_tells (.nil _)
theorem idx_tells : Tells Tryd.prog 137 (.r kIdx1) := by
  intro args r H' p hr hp
  unfold kIdx1 at hr
  split at hr <;> cases hr
  rename_i x y
  have hp : (y .u).size = 1 := hp
  refine ⟨.i, .nil, Con.of ttok Tryd.func137 rfl rfl (Nat.le_refl _) (AW.exec ttok ctIdx_ok (by cbv) ?_)⟩
  simp only [natCast_int, Post, All, thenA, canon0, canon064, and_true, true_and, forall_const, implies_true, decide_eq_true_eq, decide_eq_false_iff_not, Bool.not_eq_true', Bool.not_eq_false', Bool.true_and, Bool.and_true, beq_true, beq_false, Int.toNat_natCast, Int.ofNat_lt, Int.ofNat_le, Nat.zero_add, Nat.add_zero, imp_self, Bool.cond_false_right, Bool.cond_true_left, Bool.cond_true_right, IsF, rdF_eq, fOf, AV.f.injEq, exists_eq', free_list, free_fn0, List.not_mem_nil, List.mem_cons, false_imp, forall_eq, or_false, free_i, free_f, free_b, ren_f, ren_i, ren_b, and_self, bne_iff_ne, bne_eq_false_iff_eq, ne_eq, Int.natCast_inj, or_true, true_or, freeB_list, unfr_f, unfr_i, unfr_b, unfr_c, unfr_s, free_c, free_s, ren_c, ren_s, unfr_ro, unfr_rptr, ren_ro, free_ll, free_box, kill_f, kill_i, kill_b, kill_c, kill_s, kill_rof, kill_rot, Int.toNat_zero, isFF_ll, rowN_ll, rowX_ll, AllFree, Option.some.injEq, Prod.mk.injEq, Bool.false_eq_true, Bool.true_eq_false, hp]
  (repeat' first | with_reducible assumption | with_reducible apply And.intro | with_reducible intro hh) <;> first | ((first | with_reducible show (_ : Int) ≤ _ | with_reducible show (_ : Int) < _ | with_reducible show (_ : Nat) ≤ _ | with_reducible show (_ : Nat) < _ | with_reducible show (_ : Int) = _ | with_reducible show (_ : Nat) = _ | with_reducible show ¬ _ | with_reducible show _ ≠ _) <;> first | omega | (simp only [Bool.and_eq_true, Bool.or_eq_false_iff, Bool.not_eq_false', Bool.not_eq_true', decide_eq_true_eq, decide_eq_false_iff_not] at *; omega) | (with_reducible assumption)) | (with_reducible assumption) | skip
  all_goals exact fin_ret (.inl rfl) (by cbv) (by simp) (To.fresh (.cons (.i rfl) .nil))
def kHas1 : Kr
  | [.s x, .s y] => some (.b fun _ => decide (0 ≤ indexByte (x .u).data.toList (markOf (y .u))), [], fun _ => (y .u).size = 1)
  | _ => none
def ctHas : CT := [(137, .r kIdx1)]
theorem ctHas_ok : CTok Tryd.prog ctHas := .cons idx_tells (.nil _)
def kCnt1 : Kr
  | [.s x, .s y] => some (.i .i64 fun _ => (countByte (x .u).data.toList (markOf (y .u)) : Nat), [], fun _ => (y .u).size = 1)
  | _ => none
def ctCnt : CT := [(154, .x kCountX)]
theorem ctCnt_ok : CTok Tryd.prog ctCnt := .cons countX_tells (.nil _)
theorem cnt_tells : Tells Tryd.prog 136 (.r kCnt1) := by
  intro args r H' p hr hp
  unfold kCnt1 at hr
  split at hr <;> cases hr
  rename_i x y
  have hp : (y .u).size = 1 := hp
  have h0 : ¬ (((y .u).size : Int) = 0) := by omega
  refine ⟨.i, .nil, Con.of ttok Tryd.func136 rfl rfl (Nat.le_refl _) (AW.exec ttok ctCnt_ok (by cbv) ?_)⟩
  simp only [natCast_int, Post, All, thenA, canon0, canon064, and_true, true_and, forall_const, implies_true, decide_eq_true_eq, decide_eq_false_iff_not, Bool.not_eq_true', Bool.not_eq_false', Bool.true_and, Bool.and_true, beq_true, beq_false, Int.toNat_natCast, Int.ofNat_lt, Int.ofNat_le, Nat.zero_add, Nat.add_zero, imp_self, Bool.cond_false_right, Bool.cond_true_left, Bool.cond_true_right, IsF, rdF_eq, fOf, AV.f.injEq, exists_eq', free_list, free_fn0, List.not_mem_nil, List.mem_cons, false_imp, forall_eq, or_false, free_i, free_f, free_b, ren_f, ren_i, ren_b, and_self, bne_iff_ne, bne_eq_false_iff_eq, ne_eq, Int.natCast_inj, or_true, true_or, freeB_list, unfr_f, unfr_i, unfr_b, unfr_c, unfr_s, free_c, free_s, ren_c, ren_s, unfr_ro, unfr_rptr, ren_ro, free_ll, free_box, kill_f, kill_i, kill_b, kill_c, kill_s, kill_rof, kill_rot, Int.toNat_zero, isFF_ll, rowN_ll, rowX_ll, AllFree, Option.some.injEq, Prod.mk.injEq, Bool.false_eq_true, Bool.true_eq_false, hp]
  (repeat' first | with_reducible assumption | with_reducible apply And.intro | with_reducible intro hh) <;> first | ((first | with_reducible show (_ : Int) ≤ _ | with_reducible show (_ : Int) < _ | with_reducible show (_ : Nat) ≤ _ | with_reducible show (_ : Nat) < _ | with_reducible show (_ : Int) = _ | with_reducible show (_ : Nat) = _ | with_reducible show ¬ _ | with_reducible show _ ≠ _) <;> first | omega | (simp only [Bool.and_eq_true, Bool.or_eq_false_iff, Bool.not_eq_false', Bool.not_eq_true', decide_eq_true_eq, decide_eq_false_iff_not] at *; omega) | (with_reducible assumption)) | (with_reducible assumption) | skip
  · exact absurd (by assumption : (((1 : Nat) : Int) == 0) = true) (by decide)
  all_goals first | exact absurd (by assumption : (((1 : Nat) : Int) == 1) = false) (by decide) | exact fin_ret (.inl rfl) (by cbv) (by simp) (To.fresh (.cons (.i rfl) .nil))
theorem allFr_tup3 {a b c : AV} (ha : AllFr a) (hb : AllFr b) (hc : AllFr c) : AllFr (.tup [a, b, c]) := .tup fun x hx => by
  simp only [List.mem_cons, List.mem_nil_iff, or_false] at hx
  rcases hx with rfl | rfl | rfl <;> assumption
def cutA (x y : ByteArray) : ByteArray := bif decide (0 ≤ indexByte x.data.toList (markOf y)) then x.extract 0 (indexByte x.data.toList (markOf y)).toNat else x
def cutZ (x y : ByteArray) : ByteArray := bif decide (0 ≤ indexByte x.data.toList (markOf y)) then x.extract ((indexByte x.data.toList (markOf y)).toNat + 1) x.size else ⟨#[]⟩
def kCut1 : Kr
  | [.s x, .s y] => some (.tup [.s fun _ => cutA (x .u) (y .u), .s fun _ => cutZ (x .u) (y .u), .b fun _ => decide (0 ≤ indexByte (x .u).data.toList (markOf (y .u)))], [], fun _ => (y .u).size = 1 ∧ (x .u).size ≤ 1073741824)
  | _ => none
theorem index_lt {x : ByteArray} {c : UInt8} (h : 0 ≤ indexByte x.data.toList c) : indexByte x.data.toList c < (x.size : Int) := by
  have := (index_some h).1
  rw [← size_eq] at this
  omega
theorem cut_tells : Tells Tryd.prog 59 (.r kCut1) := by
  intro args r H' p hr hp
  unfold kCut1 at hr
  split at hr <;> cases hr
  rename_i x y
  have hx := hp.2
  have hp : (y .u).size = 1 := hp.1
  refine ⟨allFr_tup3 .s .s .b, .nil, Con.of ttok Tryd.func59 rfl rfl (Nat.le_refl _) (AW.exec ttok ctIdx_ok (by cbv) ?_)⟩
  simp only [natCast_int, Post, All, thenA, canon0, canon064, and_true, true_and, forall_const, implies_true, decide_eq_true_eq, decide_eq_false_iff_not, Bool.not_eq_true', Bool.not_eq_false', Bool.true_and, Bool.and_true, beq_true, beq_false, Int.toNat_natCast, Int.ofNat_lt, Int.ofNat_le, Nat.zero_add, Nat.add_zero, imp_self, Bool.cond_false_right, Bool.cond_true_left, Bool.cond_true_right, IsF, rdF_eq, fOf, AV.f.injEq, exists_eq', free_list, free_fn0, List.not_mem_nil, List.mem_cons, false_imp, forall_eq, or_false, free_i, free_f, free_b, ren_f, ren_i, ren_b, and_self, bne_iff_ne, bne_eq_false_iff_eq, ne_eq, Int.natCast_inj, or_true, true_or, freeB_list, unfr_f, unfr_i, unfr_b, unfr_c, unfr_s, free_c, free_s, ren_c, ren_s, unfr_ro, unfr_rptr, ren_ro, free_ll, free_box, kill_f, kill_i, kill_b, kill_c, kill_s, kill_rof, kill_rot, Int.toNat_zero, isFF_ll, rowN_ll, rowX_ll, AllFree, Option.some.injEq, Prod.mk.injEq, Bool.false_eq_true, Bool.true_eq_false, hp]
  (repeat' first | with_reducible assumption | with_reducible apply And.intro | with_reducible intro hh) <;> first | ((first | with_reducible show (_ : Int) ≤ _ | with_reducible show (_ : Int) < _ | with_reducible show (_ : Nat) ≤ _ | with_reducible show (_ : Nat) < _ | with_reducible show (_ : Int) = _ | with_reducible show (_ : Nat) = _ | with_reducible show ¬ _ | with_reducible show _ ≠ _) <;> first | omega | (simp only [Bool.and_eq_true, Bool.or_eq_false_iff, Bool.not_eq_false', Bool.not_eq_true', decide_eq_true_eq, decide_eq_false_iff_not] at *; omega) | (with_reducible assumption)) | (with_reducible assumption) | skip
  all_goals try (have hlt := index_lt (x := x .u) (c := markOf (y .u)) (by assumption))
  · omega
  · omega
  · omega
  · refine fin_ret (.inl rfl) (by cbv) (by simp) (To.fresh (.cons (.tup (.cons (.s ?_) (.cons (.s ?_) (.cons (.b ?_) .nil)))) .nil))
    · have h0 : 0 ≤ indexByte (x .u).data.toList (markOf (y .u)) := by assumption
      simp only [cutA, h0, decide_true, cond_true]
    · have h0 : 0 ≤ indexByte (x .u).data.toList (markOf (y .u)) := by assumption
      simp only [cutZ, h0, decide_true, cond_true, show (indexByte (x .u).data.toList (markOf (y .u)) + ((1 : Nat) : Int)).toNat = (indexByte (x .u).data.toList (markOf (y .u))).toNat + 1 by omega]
    · have h0 : 0 ≤ indexByte (x .u).data.toList (markOf (y .u)) := by assumption
      exact (decide_eq_true h0).symm
  · have h0 : ¬ 0 ≤ indexByte (x .u).data.toList (markOf (y .u)) := by assumption
    refine fin_ret (.inl rfl) (by cbv) (by simp) (To.fresh (.cons (.tup (.cons (.s ?_) (.cons (.s ?_) (.cons (.b ?_) .nil)))) .nil))
    · simp only [cutA, h0, decide_false, cond_false]
    · simp only [cutZ, h0, decide_false, cond_false]
    · exact (decide_eq_false h0).symm
def ctCut : CT := [(59, .r kCut1)]
theorem ctCut_ok : CTok Tryd.prog ctCut := .cons cut_tells (.nil _)
theorem cutS_tells : Tells Tryd.prog 28 (.r kCut1) := by
  intro args r H' p hr hp
  unfold kCut1 at hr
  split at hr <;> cases hr
  rename_i x y
  have hx := hp.2
  have hp : (y .u).size = 1 := hp.1
  refine ⟨allFr_tup3 .s .s .b, .nil, Con.of ttok Tryd.func28 rfl rfl (Nat.le_refl _) (AW.exec ttok ctCut_ok (by cbv) ?_)⟩
  simp only [natCast_int, Post, All, thenA, canon0, canon064, and_true, true_and, forall_const, implies_true, decide_eq_true_eq, decide_eq_false_iff_not, Bool.not_eq_true', Bool.not_eq_false', Bool.true_and, Bool.and_true, beq_true, beq_false, Int.toNat_natCast, Int.ofNat_lt, Int.ofNat_le, Nat.zero_add, Nat.add_zero, imp_self, Bool.cond_false_right, Bool.cond_true_left, Bool.cond_true_right, IsF, rdF_eq, fOf, AV.f.injEq, exists_eq', free_list, free_fn0, List.not_mem_nil, List.mem_cons, false_imp, forall_eq, or_false, free_i, free_f, free_b, ren_f, ren_i, ren_b, and_self, bne_iff_ne, bne_eq_false_iff_eq, ne_eq, Int.natCast_inj, or_true, true_or, freeB_list, unfr_f, unfr_i, unfr_b, unfr_c, unfr_s, free_c, free_s, ren_c, ren_s, unfr_ro, unfr_rptr, ren_ro, free_ll, free_box, kill_f, kill_i, kill_b, kill_c, kill_s, kill_rof, kill_rot, Int.toNat_zero, isFF_ll, rowN_ll, rowX_ll, AllFree, Option.some.injEq, Prod.mk.injEq, Bool.false_eq_true, Bool.true_eq_false, hp, hx]
  (repeat' first | with_reducible assumption | with_reducible apply And.intro | with_reducible intro hh) <;> first | ((first | with_reducible show (_ : Int) ≤ _ | with_reducible show (_ : Int) < _ | with_reducible show (_ : Nat) ≤ _ | with_reducible show (_ : Nat) < _ | with_reducible show (_ : Int) = _ | with_reducible show (_ : Nat) = _ | with_reducible show ¬ _ | with_reducible show _ ≠ _) <;> first | omega | (simp only [Bool.and_eq_true, Bool.or_eq_false_iff, Bool.not_eq_false', Bool.not_eq_true', decide_eq_true_eq, decide_eq_false_iff_not] at *; omega) | (with_reducible assumption)) | (with_reducible assumption) | skip
  all_goals exact fin_ret (.inl rfl) (by cbv) (by simp) (To.fresh (.cons (.tup (.cons (.s rfl) (.cons (.s rfl) (.cons (.b rfl) .nil)))) .nil))
end Go.Proofs.YtkglnfkbejoheaaDoor
