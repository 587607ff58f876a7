/- Texts cut at one byte: plain laws, no program in sight. -/
import Derived.Lib.Bytealg
import Derived.Test.YtjlkflceicdcdaaDoorAwo
set_option linter.unusedSimpArgs false
set_option linter.unusedVariables false
namespace Go.Proofs.YtjlkflceicdcdaaDoor
open Go.Aw
open Go.Lib (indexByte countByte extract_eq size_eq)
def splitB (c : UInt8) : List UInt8 → List (List UInt8)
  | [] => [[]]
  | b :: l => if b == c then [] :: splitB c l else match splitB c l with
    | h :: r => (b :: h) :: r
    | [] => [[b]]
theorem splitB_ne (c : UInt8) : ∀ l, splitB c l ≠ [] := by
  intro l
  cases l with
  | nil => simp [splitB]
  | cons b l =>
    unfold splitB
    split
    · simp
    · split <;> simp
theorem splitB_app {c : UInt8} : ∀ {a : List UInt8}, c ∉ a → ∀ b, splitB c (a ++ c :: b) = a :: splitB c b := by
  intro a
  induction a with
  | nil => intro _ b; simp [splitB]
  | cons x a ih =>
    intro h b
    have hx : ¬ x = c := fun e => h (by simp [e])
    rw [List.cons_append, splitB, if_neg (by simpa using hx), ih (fun e => h (by simp [e]))]
theorem splitB_none {c : UInt8} : ∀ {a : List UInt8}, c ∉ a → splitB c a = [a] := by
  intro a
  induction a with
  | nil => intro _; rfl
  | cons x a ih =>
    intro h
    have hx : ¬ x = c := fun e => h (by simp [e])
    rw [splitB, if_neg (by simpa using hx), ih (fun e => h (by simp [e]))]
theorem splitB_length (c : UInt8) : ∀ l, (splitB c l).length = countByte l c + 1 := by
  intro l
  induction l with
  | nil => rfl
  | cons b l ih =>
    unfold countByte at ih ⊢
    rw [splitB, List.count_cons]
    by_cases h : (b == c) = true
    · rw [if_pos h, if_pos h, List.length_cons, ih]
    · rw [if_neg h, if_neg h]
      cases hs : splitB c l with
      | nil => exact absurd hs (splitB_ne c l)
      | cons x r => rw [hs] at ih; simpa using ih
theorem index_none {c : UInt8} : ∀ {l : List UInt8}, indexByte l c < 0 → c ∉ l := by
  intro l
  induction l with
  | nil => intro _; simp
  | cons b l ih =>
    intro h
    unfold indexByte at h
    split at h
    · exact absurd h (by decide)
    · rename_i hb
      have hn : indexByte l c < 0 := by
        split at h
        · rename_i e
          have : indexByte l c = -1 := by simpa using e
          omega
        · have := Go.Lib.indexByte_ge l c
          rename_i e
          have : ¬ indexByte l c = -1 := by simpa using e
          omega
      have hb' : ¬ b = c := by simpa using hb
      simp only [List.mem_cons, not_or]
      exact ⟨fun e => hb' e.symm, ih hn⟩
theorem index_some {c : UInt8} : ∀ {l : List UInt8}, 0 ≤ indexByte l c → (indexByte l c).toNat < l.length ∧ l = l.take (indexByte l c).toNat ++ c :: l.drop ((indexByte l c).toNat + 1) ∧ c ∉ l.take (indexByte l c).toNat := by
  intro l
  induction l with
  | nil => intro h; exact absurd (show (0 : Int) ≤ -1 from h) (by decide)
  | cons b l ih =>
    intro h
    unfold indexByte at h ⊢
    by_cases hb : (b == c) = true
    · simp only [hb, if_true]
      have : b = c := by simpa using hb
      subst this
      exact ⟨by simp, by simp, by simp⟩
    · simp only [hb, if_false] at h ⊢
      by_cases he : (indexByte l c == -1) = true
      · rw [if_pos he] at h; exact absurd h (by decide)
      · simp only [he, if_false] at h ⊢
        have h1 : ¬ indexByte l c = -1 := by simpa using he
        have h2 : 0 ≤ indexByte l c := by have := Go.Lib.indexByte_ge l c; omega
        obtain ⟨k1, k2, k3⟩ := ih h2
        have e : (indexByte l c + 1).toNat = (indexByte l c).toNat + 1 := by omega
        simp only [Bool.false_eq_true, if_false, e]
        refine ⟨by simp; exact k1, ?_, ?_⟩
        · rw [List.take_succ_cons, List.cons_append, List.drop_succ_cons, ← k2]
        · rw [List.take_succ_cons]
          simp only [List.mem_cons, not_or]
          exact ⟨fun e => hb (by simp [e]), k3⟩
def toB (l : List UInt8) : ByteArray := ⟨l.toArray⟩
theorem toB_list (t : ByteArray) : toB t.data.toList = t := by
  obtain ⟨⟨l⟩⟩ := t
  rfl
theorem list_toB (l : List UInt8) : (toB l).data.toList = l := by simp [toB]
def pieceB (t : ByteArray) (c : UInt8) (j : Nat) : ByteArray := toB ((splitB c t.data.toList).getD j [])
def cutN (t : ByteArray) (c : UInt8) : Nat := (splitB c t.data.toList).length
theorem cutN_count (t : ByteArray) (c : UInt8) : cutN t c = countByte t.data.toList c + 1 := splitB_length c _
theorem cutN_pos (t : ByteArray) (c : UInt8) : 1 ≤ cutN t c := by rw [cutN_count]; omega
theorem cutN_le (t : ByteArray) (c : UInt8) : cutN t c ≤ t.size + 1 := by
  rw [cutN_count, size_eq]
  unfold countByte
  have := List.count_le_length (a := c) (l := t.data.toList)
  omega
/-- What is left of a text behind its first j pieces. -/
def RestAt (t : ByteArray) (c : UInt8) (j : Nat) (s : ByteArray) : Prop := (splitB c t.data.toList).drop j = splitB c s.data.toList ∧ s.size ≤ t.size
theorem RestAt.start (t : ByteArray) (c : UInt8) : RestAt t c 0 t := ⟨rfl, Nat.le_refl _⟩
theorem drop_head {α : Type} {l : List α} {j : Nat} {x : α} {r : List α} (d : α) (h : l.drop j = x :: r) : l.getD j d = x ∧ l.drop (j + 1) = r ∧ j < l.length := by
  have hl : j < l.length := by
    refine Nat.lt_of_not_le fun hge => ?_
    rw [List.drop_of_length_le hge] at h
    cases h
  rw [List.drop_eq_getElem_cons hl] at h
  injection h with h1 h2
  refine ⟨?_, h2, hl⟩
  rw [List.getD_eq_getElem?_getD, List.getElem?_eq_getElem hl]
  exact h1
theorem RestAt.hit {t s : ByteArray} {c : UInt8} {j : Nat} (h : RestAt t c j s) (hi : 0 ≤ indexByte s.data.toList c) :
    pieceB t c j = s.extract 0 (indexByte s.data.toList c).toNat ∧ RestAt t c (j + 1) (s.extract ((indexByte s.data.toList c).toNat + 1) s.size) ∧ j + 1 < cutN t c ∧ (indexByte s.data.toList c).toNat < s.size := by
  obtain ⟨h1, h2⟩ := h
  obtain ⟨k1, k2, k3⟩ := index_some hi
  generalize (indexByte s.data.toList c).toNat = m at k1 k2 k3 ⊢
  have e := splitB_app k3 (s.data.toList.drop (m + 1))
  rw [← k2] at e
  rw [e] at h1
  obtain ⟨g1, g2, g3⟩ := drop_head [] h1
  have hsz : s.data.toList.length = s.size := (size_eq s).symm
  have e2 : (s.extract (m + 1) s.size).data.toList = s.data.toList.drop (m + 1) := by
    rw [extract_eq]
    show (s.data.toList.drop (m + 1)).take (s.size - (m + 1)) = _
    rw [List.take_of_length_le (by rw [List.length_drop, hsz]; omega)]
  refine ⟨?_, ⟨?_, ?_⟩, ?_, by omega⟩
  · unfold pieceB
    rw [g1, extract_eq]
    simp [toB]
  · rw [g2, e2]
  · rw [size_eq, e2, List.length_drop]
    omega
  · unfold cutN
    have : 0 < ((splitB c t.data.toList).drop (j + 1)).length := by
      rw [g2]
      exact List.length_pos_iff.2 (splitB_ne c _)
    rw [List.length_drop] at this
    omega
theorem RestAt.miss {t s : ByteArray} {c : UInt8} {j : Nat} (h : RestAt t c j s) (hi : indexByte s.data.toList c < 0) : pieceB t c j = s ∧ j + 1 = cutN t c := by
  obtain ⟨h1, h2⟩ := h
  rw [splitB_none (index_none hi)] at h1
  obtain ⟨g1, g2, g3⟩ := drop_head [] h1
  refine ⟨?_, ?_⟩
  · unfold pieceB
    rw [g1, toB_list]
  · unfold cutN
    have := congrArg List.length g2
    rw [List.length_drop] at this
    simp at this
    omega
theorem RestAt.last {t s : ByteArray} {c : UInt8} {j : Nat} (h : RestAt t c j s) (hj : cutN t c ≤ j + 1) : pieceB t c j = s ∧ j + 1 = cutN t c :=
  h.miss (Int.not_le.1 fun hi => by have := (h.hit hi).2.2.1; omega)
/-- A text read byte by byte: r pieces are cut, the next begins at f, and there is no mark from f to i. -/
structure CutSt (t : ByteArray) (c : UInt8) (i f r : Nat) : Prop where
  fi : f ≤ i
  il : i ≤ t.size
  rest : (splitB c t.data.toList).drop r = splitB c (t.data.toList.drop f)
  free : ∀ p, f ≤ p → p < i → t.data.toList.getD p 0 ≠ c
theorem CutSt.start (t : ByteArray) (c : UInt8) : CutSt t c 0 0 0 := ⟨Nat.le_refl _, Nat.zero_le _, rfl, fun p _ h => absurd h (Nat.not_lt_zero _)⟩
theorem CutSt.skip {t : ByteArray} {c : UInt8} {i f r : Nat} (h : CutSt t c i f r) (hi : i < t.size) (hb : t.data.toList.getD i 0 ≠ c) : CutSt t c (i + 1) f r :=
  ⟨by have := h.fi; omega, hi, h.rest, fun p h1 h2 => by
    by_cases e : p = i
    · rw [e]; exact hb
    · exact h.free p h1 (by omega)⟩
theorem CutSt.lt {t : ByteArray} {c : UInt8} {i f r : Nat} (h : CutSt t c i f r) : r < cutN t c := by
  unfold cutN
  have : 0 < ((splitB c t.data.toList).drop r).length := by
    rw [h.rest]
    exact List.length_pos_iff.2 (splitB_ne c _)
  rw [List.length_drop] at this
  omega
theorem CutSt.clear {t : ByteArray} {c : UInt8} {i f r : Nat} (h : CutSt t c i f r) : c ∉ (t.data.toList.drop f).take (i - f) := by
  intro hm
  obtain ⟨q, hq, e⟩ := List.mem_iff_getElem.1 hm
  have hq' : q < i - f := by simp at hq; omega
  have hl : f + q < t.data.toList.length := by have := h.il; have := size_eq t; omega
  rw [List.getElem_take, List.getElem_drop] at e
  refine h.free (f + q) (by omega) (by omega) ?_
  rw [List.getD_eq_getElem?_getD, List.getElem?_eq_getElem hl]
  exact e
theorem CutSt.cut {t : ByteArray} {c : UInt8} {i f r : Nat} (h : CutSt t c i f r) (hi : i < t.size) (hb : t.data.toList.getD i 0 = c) : pieceB t c r = t.extract f i ∧ CutSt t c (i + 1) (i + 1) (r + 1) ∧ r + 1 < cutN t c := by
  have hl : i < t.data.toList.length := by rw [← size_eq]; exact hi
  have e : t.data.toList.drop f = (t.data.toList.drop f).take (i - f) ++ c :: t.data.toList.drop (i + 1) := by
    have e1 := List.take_append_drop (i - f) (t.data.toList.drop f)
    rw [List.drop_drop, show f + (i - f) = i by have := h.fi; omega, List.drop_eq_getElem_cons hl] at e1
    have e2 : t.data.toList[i] = c := by
      rw [List.getD_eq_getElem?_getD, List.getElem?_eq_getElem hl] at hb
      exact hb
    rw [e2] at e1
    exact e1.symm
  have h1 := h.rest
  rw [e, splitB_app h.clear] at h1
  obtain ⟨g1, g2, g3⟩ := drop_head [] h1
  refine ⟨?_, ⟨Nat.le_refl _, hi, g2, fun p h1 h2 => by omega⟩, ?_⟩
  · unfold pieceB
    rw [g1, extract_eq]
    rfl
  · unfold cutN
    have : 0 < ((splitB c t.data.toList).drop (r + 1)).length := by
      rw [g2]
      exact List.length_pos_iff.2 (splitB_ne c _)
    rw [List.length_drop] at this
    omega
theorem CutSt.last {t : ByteArray} {c : UInt8} {f r : Nat} (h : CutSt t c t.size f r) : pieceB t c r = t.extract f t.size ∧ r + 1 = cutN t c := by
  have hc := h.clear
  have e : (t.data.toList.drop f).take (t.size - f) = t.data.toList.drop f := List.take_of_length_le (by rw [List.length_drop, ← size_eq]; exact Nat.le_refl _)
  have h1 := h.rest
  rw [e] at hc
  rw [splitB_none hc] at h1
  obtain ⟨g1, g2, g3⟩ := drop_head [] h1
  refine ⟨?_, ?_⟩
  · unfold pieceB
    rw [g1, extract_eq, e]
    rfl
  · unfold cutN
    have := congrArg List.length g2
    rw [List.length_drop] at this
    simp at this
    omega
end Go.Proofs.YtjlkflceicdcdaaDoor
