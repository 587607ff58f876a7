/- Checks of lines, and numbers written in decimal by the reference. -/
import Derived.Test.YtkglnfkbejoheaaDoorSe
set_option linter.unusedSimpArgs false
set_option linter.unusedVariables false
namespace Go.Proofs.YtkglnfkbejoheaaDoor
open Go.Aw
open Go.Lib (indexByte countByte extract_eq size_eq decDigits itoa)
def chkN (a : Int) (x : ByteArray) : Nat → Int
  | 0 => a
  | k + 1 => (977 * chkN a x k + byteAt x k + 233).tmod 65003
theorem byteAt_lt (x : ByteArray) (k : Nat) : 0 ≤ byteAt x k ∧ byteAt x k ≤ 255 := by
  unfold byteAt
  have := (x.data.toList.getD k 0).toNat_lt
  omega
theorem chkN_in {a : Int} (x : ByteArray) (h0 : 0 ≤ a) (h1 : a ≤ 65002) : ∀ k, 0 ≤ chkN a x k ∧ chkN a x k ≤ 65002 := by
  intro k
  induction k with
  | zero => exact ⟨h0, h1⟩
  | succ k ih =>
    have hb := byteAt_lt x k
    unfold chkN
    rw [Int.tmod_eq_emod_of_nonneg (by omega)]
    omega
def kChkS : Kr
  | [.i .i64 a, .s x] => some (.i .i64 fun _ => chkN (a .u) (x .u) (x .u).size, [], fun _ => (0 ≤ a .u ∧ a .u ≤ 65002) ∧ (x .u).size ≤ 1073741824)
  | _ => none
def kChk : Kr
  | [.i .i64 a, .s x] => some (.tup [.i .i64 fun _ => chkN (a .u) (x .u) (x .u).size, .b fun _ => true], [], fun _ => (0 ≤ a .u ∧ a .u ≤ 65002) ∧ (x .u).size ≤ 1073741824)
  | _ => none
def kWith3 : Kr
  | [.i .i64 a, .i .i64 b, .i .i64 c] => some (.b fun _ => decide (b .u ≤ a .u) && decide (a .u ≤ c .u), [], fun _ => True)
  | _ => none
theorem with3_tells : Tells Tryd.prog 95 (.r kWith3) := by
  intro args r H' p hr hp
  unfold kWith3 at hr
  split at hr <;> cases hr
  refine ⟨.b, .nil, Con.of ttok Tryd.func95 rfl rfl (Nat.le_refl _) (AW.exec ttok (CTok.nil _) (by cbv) ?_)⟩
  simp only [natCast_int, Post, All, thenA, canon0, canon064, and_true, true_and, forall_const, implies_true, decide_eq_true_eq, decide_eq_false_iff_not, Bool.not_eq_true', Bool.not_eq_false', Bool.true_and, Bool.and_true, beq_true, beq_false, Int.toNat_natCast, Int.ofNat_lt, Int.ofNat_le, Nat.zero_add, Nat.add_zero, imp_self, Bool.cond_false_right, Bool.cond_true_left, Bool.cond_true_right, IsF, rdF_eq, fOf, AV.f.injEq, exists_eq', free_list, free_fn0, List.not_mem_nil, List.mem_cons, false_imp, forall_eq, or_false, free_i, free_f, free_b, ren_f, ren_i, ren_b, and_self, bne_iff_ne, bne_eq_false_iff_eq, ne_eq, Int.natCast_inj, or_true, true_or, freeB_list, unfr_f, unfr_i, unfr_b, unfr_c, unfr_s, free_c, free_s, ren_c, ren_s, unfr_ro, unfr_rptr, ren_ro, free_ll, free_box, kill_f, kill_i, kill_b, kill_c, kill_s, kill_rof, kill_rot, Int.toNat_zero, isFF_ll, rowN_ll, rowX_ll, AllFree, Option.some.injEq, Prod.mk.injEq, Bool.false_eq_true, Bool.true_eq_false]
  (repeat' first | with_reducible assumption | with_reducible apply And.intro | with_reducible intro hh) <;> first | ((first | with_reducible show (_ : Int) ≤ _ | with_reducible show (_ : Int) < _ | with_reducible show (_ : Nat) ≤ _ | with_reducible show (_ : Nat) < _ | with_reducible show (_ : Int) = _ | with_reducible show (_ : Nat) = _ | with_reducible show ¬ _ | with_reducible show _ ≠ _) <;> first | omega | (simp only [Bool.and_eq_true, Bool.or_eq_false_iff, Bool.not_eq_false', Bool.not_eq_true', decide_eq_true_eq, decide_eq_false_iff_not] at *; omega) | (with_reducible assumption)) | (with_reducible assumption) | skip
  all_goals exact fin_ret (.inl rfl) (by cbv) (by simp) (To.fresh (.cons (.b rfl) .nil))
def ctChkI : CT := [(95, .r kWith3)]
theorem ctChkI_ok : CTok Tryd.prog ctChkI := .cons with3_tells (.nil _)
theorem implChk : Tells Tryd.prog 64 (.r kChk) := by
  intro args r H' p hr hp
  unfold kChk at hr
  split at hr <;> cases hr
  rename_i a x
  obtain ⟨⟨h0, h1⟩, hx⟩ := hp
  refine ⟨allFr_tup2 .i .b, .nil, Con.of ttok Tryd.func64 rfl rfl (Nat.le_refl _) (AW.exec ttok ctChkI_ok (by cbv) ?_)⟩
  have hin := chkN_in (x .u) h0 h1
  have hd0 := decide_eq_true h0
  have hd1 := decide_eq_true h1
  simp only [natCast_int, Post, All, thenA, canon0, canon064, and_true, true_and, forall_const, implies_true, decide_eq_true_eq, decide_eq_false_iff_not, Bool.not_eq_true', Bool.not_eq_false', Bool.true_and, Bool.and_true, beq_true, beq_false, Int.toNat_natCast, Int.ofNat_lt, Int.ofNat_le, Nat.zero_add, Nat.add_zero, imp_self, Bool.cond_false_right, Bool.cond_true_left, Bool.cond_true_right, IsF, rdF_eq, fOf, AV.f.injEq, exists_eq', free_list, free_fn0, List.not_mem_nil, List.mem_cons, false_imp, forall_eq, or_false, free_i, free_f, free_b, ren_f, ren_i, ren_b, and_self, bne_iff_ne, bne_eq_false_iff_eq, ne_eq, Int.natCast_inj, or_true, true_or, freeB_list, unfr_f, unfr_i, unfr_b, unfr_c, unfr_s, free_c, free_s, ren_c, ren_s, unfr_ro, unfr_rptr, ren_ro, free_ll, free_box, kill_f, kill_i, kill_b, kill_c, kill_s, kill_rof, kill_rot, Int.toNat_zero, isFF_ll, rowN_ll, rowX_ll, AllFree, Option.some.injEq, Prod.mk.injEq, Bool.false_eq_true, Bool.true_eq_false, h0, h1, decide_true, Bool.and_self, Bool.true_eq_false, false_imp]
  (repeat' first | with_reducible assumption | with_reducible apply And.intro | with_reducible intro hh) <;> first | ((first | with_reducible show (_ : Int) ≤ _ | with_reducible show (_ : Int) < _ | with_reducible show (_ : Nat) ≤ _ | with_reducible show (_ : Nat) < _ | with_reducible show (_ : Int) = _ | with_reducible show (_ : Nat) = _ | with_reducible show ¬ _ | with_reducible show _ ≠ _) <;> first | omega | (simp only [Bool.and_eq_true, Bool.or_eq_false_iff, Bool.not_eq_false', Bool.not_eq_true', decide_eq_true_eq, decide_eq_false_iff_not] at *; omega) | (with_reducible assumption)) | (with_reducible assumption) | skip
  refine AW.loopH (ι := Nat) (fun k => k ≤ (x .u).size) (fun k => (x .u).size - k) (fun k => mkE Tryd.f64.ntmps [(0, .i .i64 fun _ => chkN (a .u) (x .u) k), (1, .s x), (11, .i .i64 fun _ => ((x .u).size : Int)), (12, .i .i64 fun _ => (k : Int))])
    (fun _ => []) 0 (Nat.zero_le _) (To.same (Nat.le_refl _) trivial ?_) ?_
  · (repeat' first | exact AllTo.nil | apply AllTo.cons) <;> first | exact AvTo.dead _ | exact AvTo.s rfl | exact AvTo.i rfl
  · rintro Q' hQ k hk
    have hk1 := hin k
    have hb := byteAt_lt (x .u) k
    refine AW.exec ttok ctChkI_ok (by cbv) ?_
    simp only [natCast_int, Post, All, thenA, canon0, canon064, and_true, true_and, forall_const, implies_true, decide_eq_true_eq, decide_eq_false_iff_not, Bool.not_eq_true', Bool.not_eq_false', Bool.true_and, Bool.and_true, beq_true, beq_false, Int.toNat_natCast, Int.ofNat_lt, Int.ofNat_le, Nat.zero_add, Nat.add_zero, imp_self, Bool.cond_false_right, Bool.cond_true_left, Bool.cond_true_right, IsF, rdF_eq, fOf, AV.f.injEq, exists_eq', free_list, free_fn0, List.not_mem_nil, List.mem_cons, false_imp, forall_eq, or_false, free_i, free_f, free_b, ren_f, ren_i, ren_b, and_self, bne_iff_ne, bne_eq_false_iff_eq, ne_eq, Int.natCast_inj, or_true, true_or, freeB_list, unfr_f, unfr_i, unfr_b, unfr_c, unfr_s, free_c, free_s, ren_c, ren_s, unfr_ro, unfr_rptr, ren_ro, free_ll, free_box, kill_f, kill_i, kill_b, kill_c, kill_s, kill_rof, kill_rot, Int.toNat_zero, isFF_ll, rowN_ll, rowX_ll, AllFree, Option.some.injEq, Prod.mk.injEq, Bool.false_eq_true, Bool.true_eq_false]
    (repeat' first | with_reducible assumption | with_reducible apply And.intro | with_reducible intro hh) <;> first | ((first | with_reducible show (_ : Int) ≤ _ | with_reducible show (_ : Int) < _ | with_reducible show (_ : Nat) ≤ _ | with_reducible show (_ : Nat) < _ | with_reducible show (_ : Int) = _ | with_reducible show (_ : Nat) = _ | with_reducible show ¬ _ | with_reducible show _ ≠ _) <;> first | omega | (simp only [Bool.and_eq_true, Bool.or_eq_false_iff, Bool.not_eq_false', Bool.not_eq_true', decide_eq_true_eq, decide_eq_false_iff_not] at *; omega) | (with_reducible assumption)) | (with_reducible assumption) | skip
    · refine ⟨k + 1, by omega, by omega, To.same (Nat.le_refl _) trivial ?_⟩
      (repeat' first | exact AllTo.nil | apply AllTo.cons) <;> first | exact AvTo.dead _ | exact AvTo.s rfl | exact AvTo.i rfl | exact AvTo.i (by simp only [natCast_int]; omega)
    · obtain ⟨rfl⟩ := hQ
      refine Post.eval (by cbv) ?_
      have e : k = (x .u).size := by omega
      simp only [natCast_int, Post, All, thenA, canon0, canon064, and_true, true_and, forall_const, implies_true, decide_eq_true_eq, decide_eq_false_iff_not, Bool.not_eq_true', Bool.not_eq_false', Bool.true_and, Bool.and_true, beq_true, beq_false, Int.toNat_natCast, Int.ofNat_lt, Int.ofNat_le, Nat.zero_add, Nat.add_zero, imp_self, Bool.cond_false_right, Bool.cond_true_left, Bool.cond_true_right, IsF, rdF_eq, fOf, AV.f.injEq, exists_eq', free_list, free_fn0, List.not_mem_nil, List.mem_cons, false_imp, forall_eq, or_false, free_i, free_f, free_b, ren_f, ren_i, ren_b, and_self, bne_iff_ne, bne_eq_false_iff_eq, ne_eq, Int.natCast_inj, or_true, true_or, freeB_list, unfr_f, unfr_i, unfr_b, unfr_c, unfr_s, free_c, free_s, ren_c, ren_s, unfr_ro, unfr_rptr, ren_ro, free_ll, free_box, kill_f, kill_i, kill_b, kill_c, kill_s, kill_rof, kill_rot, Int.toNat_zero, isFF_ll, rowN_ll, rowX_ll, AllFree, Option.some.injEq, Prod.mk.injEq, Bool.false_eq_true, Bool.true_eq_false]
      (repeat' first | with_reducible assumption | with_reducible apply And.intro | with_reducible intro hh) <;> first | ((first | with_reducible show (_ : Int) ≤ _ | with_reducible show (_ : Int) < _ | with_reducible show (_ : Nat) ≤ _ | with_reducible show (_ : Nat) < _ | with_reducible show (_ : Int) = _ | with_reducible show (_ : Nat) = _ | with_reducible show ¬ _ | with_reducible show _ ≠ _) <;> first | omega | (simp only [Bool.and_eq_true, Bool.or_eq_false_iff, Bool.not_eq_false', Bool.not_eq_true', decide_eq_true_eq, decide_eq_false_iff_not] at *; omega) | (with_reducible assumption)) | (with_reducible assumption) | skip
      exact fin_ret (.inl rfl) (by cbv) (by simp) (To.fresh (.cons (.tup (.cons (.i (by rw [e])) (.cons (.b rfl) .nil))) .nil))
/-! ### Decimal, by the reference -/
/-- What is still to be put ahead of the digits o, where rest is left of the number. -/
def DecSt (n : Nat) (rest : Nat) (o : List UInt8) : Prop := ((o = [] ∧ rest = n) ∨ (o ≠ [] ∧ decDigits n = if rest = 0 then o else decDigits rest ++ o)) ∧ rest * 10 ^ o.length ≤ n
theorem dec_small {u : Nat} (h : u < 10) : decDigits u = [UInt8.ofNat (48 + u)] := by rw [decDigits, dif_pos h]
theorem dec_big {u : Nat} (h : ¬ u < 10) : decDigits u = decDigits (u / 10) ++ [UInt8.ofNat (48 + u % 10)] := by rw [decDigits, dif_neg h]
theorem DecSt.step {n rest : Nat} {o : List UInt8} (h : DecSt n rest o) (hg : o = [] ∨ rest ≠ 0) : DecSt n (rest / 10) (UInt8.ofNat (48 + rest % 10) :: o) := by
  obtain ⟨h1, h2⟩ := h
  have key : (if rest / 10 = 0 then UInt8.ofNat (48 + rest % 10) :: o else decDigits (rest / 10) ++ UInt8.ofNat (48 + rest % 10) :: o) = decDigits rest ++ o := by
    by_cases h10 : rest < 10
    · rw [if_pos (by omega), dec_small h10, Nat.mod_eq_of_lt h10]
      rfl
    · rw [if_neg (by omega), dec_big h10, List.append_assoc]
      rfl
  refine ⟨.inr ⟨by simp, ?_⟩, ?_⟩
  · rw [key]
    rcases h1 with ⟨e1, e2⟩ | ⟨e1, e2⟩
    · rw [e1, e2, List.append_nil]
    · have hr : rest ≠ 0 := hg.resolve_left e1
      rw [e2, if_neg hr]
  · rw [List.length_cons, Nat.pow_succ, Nat.mul_comm (10 ^ o.length) 10, ← Nat.mul_assoc]
    exact Nat.le_trans (Nat.mul_le_mul_right _ (Nat.div_mul_le_self rest 10)) h2
theorem DecSt.done {n : Nat} {o : List UInt8} (h : DecSt n 0 o) (ho : o ≠ []) : decDigits n = o := by
  rcases h.1 with ⟨e, _⟩ | ⟨_, e⟩
  · exact absurd e ho
  · rw [e, if_pos rfl]
theorem DecSt.len {n rest : Nat} {o : List UInt8} (h : DecSt n rest o) (hg : o = [] ∨ rest ≠ 0) (hn : n ≤ 9223372036854775807) : o.length ≤ 18 := by
  rcases hg with e | e
  · rw [e]; exact Nat.zero_le _
  · refine Nat.le_of_not_lt fun hl => ?_
    have h2 := h.2
    have h3 : 10 ^ 19 ≤ 10 ^ o.length := Nat.pow_le_pow_right (by decide) hl
    have h4 : 1 * 10 ^ o.length ≤ rest * 10 ^ o.length := Nat.mul_le_mul_right _ (by omega)
    have h5 : (10 : Nat) ^ 19 = 10000000000000000000 := rfl
    omega
theorem dec_guard {o : List UInt8} {rest : Nat} (h : ((o.length : Int) == 0 || (rest : Int) != 0) = true) : o = [] ∨ rest ≠ 0 := by
  simp only [Bool.or_eq_true, beq_iff_eq, bne_iff_ne, ne_eq] at h
  rcases h with c | c
  · exact .inl (List.length_eq_zero_iff.1 (by omega))
  · exact .inr (by omega)
theorem wrap_digit {d : Nat} (h : d ≤ 9) : IntKind.u8.wrap (48 + (d : Int)) = ((UInt8.ofNat (48 + d)).toNat : Int) := by
  have : ∀ d : Fin 10, IntKind.u8.wrap (48 + (d.val : Int)) = ((UInt8.ofNat (48 + d.val)).toNat : Int) := by decide
  exact this ⟨d, by omega⟩
theorem strOf_list (o : List UInt8) : strOfNums ((List.range o.length).map fun i => ((o.getD i 0).toNat : Int)) = toB o := by
  unfold strOfNums toB
  congr 2
  refine List.ext_getElem (by simp) fun i h1 h2 => ?_
  have hi : i < o.length := h2
  simp [List.getD_eq_getElem?_getD, hi]
def kDecN : Kr
  | [.i .i64 n] => some (.s fun _ => decB (n .u), [], fun _ => 0 ≤ n .u ∧ n .u ≤ 9223372036854775807)
  | _ => none
end Go.Proofs.YtkglnfkbejoheaaDoor
