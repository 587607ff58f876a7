/- Lists of texts: the laws' own comparisons, marks and readings of marks. -/
import Derived.Test.YtjlkflceicdcdaaDoorFd
import Derived.Test.YtjlkflceicdcdaaDoorSf
set_option linter.unusedSimpArgs false
set_option linter.unusedVariables false
namespace Go.Proofs.YtjlkflceicdcdaaDoor
open Go.Aw
open Go.Lib (indexByte countByte extract_eq size_eq decDigits itoa)
def sOf : AV → ByteArray
  | .s x => x .u
  | _ => ⟨#[]⟩
def rdT (g : Th Nat → Nat → AV) : Nat → ByteArray := fun i => sOf (g (fun _ => i) 0)
def IsT (n : Th Nat) (g : Th Nat → Nat → AV) : Prop := n .u ≤ 9223372036854775807 ∧ ∀ i, i < n .u → ∃ y, g (fun _ => i) 0 = .s y
abbrev listT (fr : Bool) (n : Th Nat) (x : Nat → ByteArray) : AV := .ro fr n 1 fun i _ => .s fun _ => x (i .u)
def markT (k : Int) : ByteArray := toB (109 :: decDigits k.toNat)
def kMarkText : Kr
  | [.i .i64 k] => some (.s fun _ => markT (k .u), [], fun _ => 0 ≤ k .u ∧ k .u ≤ 9223372036854775807)
  | _ => none
theorem toB_app (a b : List UInt8) : toB a ++ toB b = toB (a ++ b) := by
  apply ByteArray.ext
  simp [toB]
theorem dec_len' : ∀ (k u : Nat), u < 10 ^ (k + 1) → (decDigits u).length ≤ k + 1 := by
  intro k
  induction k with
  | zero => intro u h; rw [dec_small (by simpa using h)]; exact Nat.le_refl _
  | succ k ih =>
    intro u h
    by_cases h10 : u < 10
    · rw [dec_small h10]; simp
    · rw [dec_big h10, List.length_append]
      have := ih (u / 10) (by rw [Nat.pow_succ] at h; omega)
      simp only [List.length_cons, List.length_nil]
      omega
theorem dec_len (u : Nat) (h : u ≤ 9223372036854775807) : (decDigits u).length ≤ 19 := dec_len' 18 u (by omega)
theorem size_toB (o : List UInt8) : (toB o).size = o.length := by simp [toB, ByteArray.size]
theorem one_digit {d : Nat} (h : d ≤ 9) : strOfNums (List.map (fun i => bOf ([AV.i IntKind.u8 fun _ => IntKind.u8.wrap (48 + (d : Int))].getD (i * 1) AV.dead)) (List.range 1)) = toB [UInt8.ofNat (48 + d)] := by
  show strOfNums [IntKind.u8.wrap (48 + (d : Int))] = _
  rw [wrap_digit h]
  show (⟨[UInt8.ofNat (((UInt8.ofNat (48 + d)).toNat : Int)).toNat].toArray⟩ : ByteArray) = _
  rw [Int.toNat_natCast, UInt8.ofNat_toNat]
  rfl
theorem markText_tells : Tells Tryd.prog 42 (.r kMarkText) := by
  intro args r H' p hr hp
  unfold kMarkText at hr
  split at hr <;> cases hr
  rename_i n
  obtain ⟨h0, h1⟩ := hp
  obtain ⟨m, hm⟩ : ∃ m : Nat, n .u = m := ⟨(n .u).toNat, by omega⟩
  have hm1 : m ≤ 9223372036854775807 := by omega
  refine ⟨.s, .nil, Con.of ttok Tryd.func42 rfl rfl (Nat.le_refl _) (AW.exec ttok (CTok.nil _) (by cbv) ?_)⟩
  simp only [natCast_int, Post, All, thenA, canon0, canon064, and_true, true_and, forall_const, implies_true, decide_eq_true_eq, decide_eq_false_iff_not, Bool.not_eq_true', Bool.not_eq_false', Bool.true_and, Bool.and_true, beq_true, beq_false, Int.toNat_natCast, Int.ofNat_lt, Int.ofNat_le, Nat.zero_add, Nat.add_zero, imp_self, Bool.cond_false_right, Bool.cond_true_left, Bool.cond_true_right, IsF, rdF_eq, fOf, AV.f.injEq, exists_eq', free_list, free_fn0, List.not_mem_nil, List.mem_cons, false_imp, forall_eq, or_false, free_i, free_f, free_b, ren_f, ren_i, ren_b, and_self, bne_iff_ne, bne_eq_false_iff_eq, ne_eq, Int.natCast_inj, or_true, true_or, freeB_list, unfr_f, unfr_i, unfr_b, unfr_c, unfr_s, free_c, free_s, ren_c, ren_s, unfr_ro, unfr_rptr, ren_ro, free_ll, free_box, kill_f, kill_i, kill_b, kill_c, kill_s, kill_rof, kill_rot, Int.toNat_zero, isFF_ll, rowN_ll, rowX_ll, AllFree, Option.some.injEq, Prod.mk.injEq, Bool.false_eq_true, Bool.true_eq_false]
  (repeat' first | with_reducible assumption | with_reducible apply And.intro | with_reducible intro hh) <;> first | ((first | with_reducible show (_ : Int) ≤ _ | with_reducible show (_ : Int) < _ | with_reducible show (_ : Nat) ≤ _ | with_reducible show (_ : Nat) < _ | with_reducible show (_ : Int) = _ | with_reducible show (_ : Nat) = _ | with_reducible show ¬ _ | with_reducible show _ ≠ _) <;> first | omega | (simp only [Bool.and_eq_true, Bool.or_eq_false_iff, Bool.not_eq_false', Bool.not_eq_true', decide_eq_true_eq, decide_eq_false_iff_not] at *; omega) | (with_reducible assumption)) | (with_reducible assumption) | skip
  · have e : m = 0 := by omega
    refine fin_ret (.inl rfl) (by cbv) (by simp) (To.fresh (.cons (.s ?_) .nil))
    show (⟨⟨[109, 48]⟩⟩ : ByteArray) = markT (n .u)
    rw [markT, hm, e, show ((0 : Nat) : Int).toNat = 0 from rfl, dec_small (by decide)]
    rfl
  have hpos : 0 < m := by omega
  refine AW.loopH (ι := Nat × List UInt8) (fun q => DecSt m q.1 q.2) (fun q => q.1) (fun q => mkE Tryd.f42.ntmps [(0, .i .i64 fun _ => (q.1 : Int)), (3, .s fun _ => toB q.2)])
    (fun _ => []) (m, []) ⟨.inl ⟨rfl, rfl⟩, by simp⟩ (To.same (Nat.le_refl _) trivial ?_) ?_
  · (repeat' first | exact AllTo.nil | apply AllTo.cons) <;> first | exact AvTo.dead _ | exact AvTo.s rfl | exact AvTo.i rfl | exact AvTo.i hm
  · rintro Q' hQ ⟨rest, o⟩ hD
    have hD : DecSt m rest o := hD
    have hrest : rest ≤ m := by
      have := hD.2
      have h1 : rest * 1 ≤ rest * 10 ^ o.length := Nat.mul_le_mul_left _ (Nat.pow_pos (by decide))
      omega
    have h10 : ¬ ((10 : Int) = 0) := by decide
    have ht : (rest : Int).tmod 10 = ((rest % 10 : Nat) : Int) := by rw [Int.tmod_eq_emod_of_nonneg (by omega)]; omega
    have htd : (rest : Int).tdiv 10 = ((rest / 10 : Nat) : Int) := by rw [Int.tdiv_eq_ediv_of_nonneg (by omega)]; omega
    have hd : rest % 10 ≤ 9 := by omega
    refine AW.exec ttok (CTok.nil _) (by cbv) ?_
    simp only [natCast_int, Post, All, thenA, canon0, canon064, and_true, true_and, forall_const, implies_true, decide_eq_true_eq, decide_eq_false_iff_not, Bool.not_eq_true', Bool.not_eq_false', Bool.true_and, Bool.and_true, beq_true, beq_false, Int.toNat_natCast, Int.ofNat_lt, Int.ofNat_le, Nat.zero_add, Nat.add_zero, imp_self, Bool.cond_false_right, Bool.cond_true_left, Bool.cond_true_right, IsF, rdF_eq, fOf, AV.f.injEq, exists_eq', free_list, free_fn0, List.not_mem_nil, List.mem_cons, false_imp, forall_eq, or_false, free_i, free_f, free_b, ren_f, ren_i, ren_b, and_self, bne_iff_ne, bne_eq_false_iff_eq, ne_eq, Int.natCast_inj, or_true, true_or, freeB_list, unfr_f, unfr_i, unfr_b, unfr_c, unfr_s, free_c, free_s, ren_c, ren_s, unfr_ro, unfr_rptr, ren_ro, free_ll, free_box, kill_f, kill_i, kill_b, kill_c, kill_s, kill_rof, kill_rot, Int.toNat_zero, isFF_ll, rowN_ll, rowX_ll, AllFree, Option.some.injEq, Prod.mk.injEq, Bool.false_eq_true, Bool.true_eq_false, h10, ht, htd, not_false_eq_true]
    (repeat' first | with_reducible assumption | with_reducible apply And.intro | with_reducible intro hh) <;> first | ((first | with_reducible show (_ : Int) ≤ _ | with_reducible show (_ : Int) < _ | with_reducible show (_ : Nat) ≤ _ | with_reducible show (_ : Nat) < _ | with_reducible show (_ : Int) = _ | with_reducible show (_ : Nat) = _ | with_reducible show ¬ _ | with_reducible show _ ≠ _) <;> first | omega | (simp only [Bool.and_eq_true, Bool.or_eq_false_iff, Bool.not_eq_false', Bool.not_eq_true', decide_eq_true_eq, decide_eq_false_iff_not] at *; omega) | (with_reducible assumption)) | (with_reducible assumption) | skip
    all_goals try (have hlen := hD.len (.inr (by omega)) hm1)
    · rename_i i
      obtain rfl : i = 0 := by omega
      exact ⟨_, rfl⟩
    · rw [one_digit hd, size_toB, size_toB]
      simp only [List.length_cons, List.length_nil]
      omega
    · refine ⟨(rest / 10, UInt8.ofNat (48 + rest % 10) :: o), hD.step (.inr (by omega)), (by show rest / 10 < rest; omega), To.fresh ?_⟩
      (repeat' first | exact AllTo.nil | apply AllTo.cons) <;> first | exact AvTo.dead _ | exact AvTo.i rfl | (refine AvTo.s ?_; show _ ++ toB o = toB (UInt8.ofNat (48 + rest % 10) :: o); rw [one_digit hd, toB_app]; rfl)
    · obtain ⟨rfl⟩ := hQ
      refine Post.eval (by cbv) ?_
      obtain rfl : rest = 0 := by omega
      have ho : o ≠ [] := fun e => by
        rcases hD.1 with ⟨_, e2⟩ | ⟨e1, _⟩
        · omega
        · exact e1 e
      have hdone := hD.done ho
      have hl : o.length ≤ 19 := by
        have h2 : decDigits m = o := hdone
        refine Nat.le_of_not_lt fun hl => ?_
        have := dec_len m hm1
        rw [h2] at this
        omega
      have hs := size_toB o
      have hs1 : (⟨⟨[109]⟩⟩ : ByteArray).size = 1 := rfl
      simp only [natCast_int, Post, All, thenA, canon0, canon064, and_true, true_and, forall_const, implies_true, decide_eq_true_eq, decide_eq_false_iff_not, Bool.not_eq_true', Bool.not_eq_false', Bool.true_and, Bool.and_true, beq_true, beq_false, Int.toNat_natCast, Int.ofNat_lt, Int.ofNat_le, Nat.zero_add, Nat.add_zero, imp_self, Bool.cond_false_right, Bool.cond_true_left, Bool.cond_true_right, IsF, rdF_eq, fOf, AV.f.injEq, exists_eq', free_list, free_fn0, List.not_mem_nil, List.mem_cons, false_imp, forall_eq, or_false, free_i, free_f, free_b, ren_f, ren_i, ren_b, and_self, bne_iff_ne, bne_eq_false_iff_eq, ne_eq, Int.natCast_inj, or_true, true_or, freeB_list, unfr_f, unfr_i, unfr_b, unfr_c, unfr_s, free_c, free_s, ren_c, ren_s, unfr_ro, unfr_rptr, ren_ro, free_ll, free_box, kill_f, kill_i, kill_b, kill_c, kill_s, kill_rof, kill_rot, Int.toNat_zero, isFF_ll, rowN_ll, rowX_ll, AllFree, Option.some.injEq, Prod.mk.injEq, Bool.false_eq_true, Bool.true_eq_false, hs, hs1]
      (repeat' first | with_reducible assumption | with_reducible apply And.intro | with_reducible intro hh) <;> first | ((first | with_reducible show (_ : Int) ≤ _ | with_reducible show (_ : Int) < _ | with_reducible show (_ : Nat) ≤ _ | with_reducible show (_ : Nat) < _ | with_reducible show (_ : Int) = _ | with_reducible show (_ : Nat) = _ | with_reducible show ¬ _ | with_reducible show _ ≠ _) <;> first | omega | (simp only [Bool.and_eq_true, Bool.or_eq_false_iff, Bool.not_eq_false', Bool.not_eq_true', decide_eq_true_eq, decide_eq_false_iff_not] at *; omega) | (with_reducible assumption)) | (with_reducible assumption) | skip
      · refine fin_ret (.inl rfl) (by cbv) (by simp) (To.fresh (.cons (.s ?_) .nil))
        show toB [109] ++ toB o = markT (n .u)
        rw [toB_app, markT, hm, Int.toNat_natCast, hdone]
        rfl
theorem Free.listT {fr : Bool} {n : Th Nat} {x : Th Nat → Nat → Th ByteArray} : Free (.ro fr n 1 fun i c => .s (x i c)) := .ro fun _ _ _ _ => .s
theorem Sub.asT {a : AV} {n : Th Nat} {g : Th Nat → Nat → AV} (h : asL a = some (n, g)) (hI : IsT n g) : Sub (unfr a) (.ro false n 1 fun i _ => .s fun _ => rdT g (i .u)) := by
  unfold asL at h
  split at h <;> cases h
  · intro w ρ N L v hs
    simp only [unfr] at hs
    cases hs with
    | ro0 h0 => exact .ro0 h0
    | ro u hn hq hc hsim =>
      refine .ro u hn hq hc fun i c hi hcc => ?_
      obtain rfl : c = 0 := by omega
      obtain ⟨y, hy⟩ := hI.2 i hi
      have := hsim i 0 hi (by omega)
      simp only [hy, unfr] at this
      simp only [rdT, hy, sOf]
      exact this
  · intro w ρ N L v hs
    simp only [unfr] at hs
    cases hs.v_inv
    exact .ro0 rfl
def eqTL (n : Nat) (x : Nat → ByteArray) (m : Nat) (y : Nat → ByteArray) : Bool := decide (n = m) && allN (fun i => (x i).toList == (y i).toList) n
theorem eqTL_self (n : Nat) (x : Nat → ByteArray) : eqTL n x n x = true := by
  simp only [eqTL, decide_true, Bool.true_and]
  exact allN_true fun j _ => beq_self_eq_true _
def kEqT : Kr
  | [a, b] => match asL a, asL b with
    | some (n, g), some (m, h) => some (.b fun _ => eqTL (n .u) (rdT g) (m .u) (rdT h), [], fun _ => IsT n g ∧ IsT m h)
    | _, _ => none
  | _ => none
theorem eqT_tells : Tells Tryd.prog 15 (.r kEqT) := by
  intro args r H' p hr hp
  unfold kEqT at hr
  split at hr <;> first | (cases hr; done) | skip
  split at hr <;> cases hr
  rename_i n g m h hL hL'
  obtain ⟨hp, hp'⟩ := hp
  refine ⟨.b, .nil, Con.pre (args' := [listT false n (rdT g), listT false m (rdT h)]) ⟨Sub.asT hL hp, Sub.asT hL' hp', trivial⟩ ?_⟩
  have hn := hp.1
  generalize rdT g = x
  generalize rdT h = y
  refine Con.of ttok Tryd.func15 rfl rfl (Nat.zero_le _) (AW.exec ttok (CTok.nil _) (by cbv) ?_)
  simp only [natCast_int, Post, All, thenA, canon0, canon064, and_true, true_and, forall_const, implies_true, decide_eq_true_eq, decide_eq_false_iff_not, Bool.not_eq_true', Bool.not_eq_false', Bool.true_and, Bool.and_true, beq_true, beq_false, Int.toNat_natCast, Int.ofNat_lt, Int.ofNat_le, Nat.zero_add, Nat.add_zero, imp_self, Bool.cond_false_right, Bool.cond_true_left, Bool.cond_true_right, IsF, rdF_eq, fOf, AV.f.injEq, exists_eq', free_list, free_fn0, List.not_mem_nil, List.mem_cons, false_imp, forall_eq, or_false, free_i, free_f, free_b, ren_f, ren_i, ren_b, and_self, bne_iff_ne, bne_eq_false_iff_eq, ne_eq, Int.natCast_inj, or_true, true_or, freeB_list, unfr_f, unfr_i, unfr_b, unfr_c, unfr_s, free_c, free_s, ren_c, ren_s, unfr_ro, unfr_rptr, ren_ro, free_ll, free_box, kill_f, kill_i, kill_b, kill_c, kill_s, kill_rof, kill_rot, Int.toNat_zero, isFF_ll, rowN_ll, rowX_ll, AllFree, Option.some.injEq, Prod.mk.injEq, Bool.false_eq_true, Bool.true_eq_false]
  refine ⟨fun h1 => ?_, fun h1 => ?_⟩
  · refine fin_ret (.inl rfl) (by cbv) (by simp) (To.fresh (.cons (.b ?_) .nil))
    simp only [eqTL, decide_eq_false h1, Bool.false_and]
  have hnm : n .u = m .u := h1
  refine AW.loopTo (ι := Nat) (fun i => i ≤ n .u ∧ ∀ j, j < i → ((x j).toList == (y j).toList) = true) (fun i => n .u - i) (fun i => mkE Tryd.f15.ntmps [(0, listT false n x), (1, listT false m y), (5, .i .i64 fun _ => (i : Int))])
    (fun _ => []) 0 ⟨Nat.zero_le _, fun j hj => absurd hj (Nat.not_lt_zero _)⟩ (To.same (Nat.le_refl _) trivial ?_) ?_
  · (repeat' first | exact AllTo.nil | apply AllTo.cons) <;> first | exact AvTo.dead _ | exact AvTo.i rfl | exact Free.same Free.listT | skip
  · rintro i ⟨hi, hx⟩
    refine AW.exec ttok (CTok.nil _) (by cbv) ?_
    simp only [natCast_int, Post, All, thenA, canon0, canon064, and_true, true_and, forall_const, implies_true, decide_eq_true_eq, decide_eq_false_iff_not, Bool.not_eq_true', Bool.not_eq_false', Bool.true_and, Bool.and_true, beq_true, beq_false, Int.toNat_natCast, Int.ofNat_lt, Int.ofNat_le, Nat.zero_add, Nat.add_zero, imp_self, Bool.cond_false_right, Bool.cond_true_left, Bool.cond_true_right, IsF, rdF_eq, fOf, AV.f.injEq, exists_eq', free_list, free_fn0, List.not_mem_nil, List.mem_cons, false_imp, forall_eq, or_false, free_i, free_f, free_b, ren_f, ren_i, ren_b, and_self, bne_iff_ne, bne_eq_false_iff_eq, ne_eq, Int.natCast_inj, or_true, true_or, freeB_list, unfr_f, unfr_i, unfr_b, unfr_c, unfr_s, free_c, free_s, ren_c, ren_s, unfr_ro, unfr_rptr, ren_ro, free_ll, free_box, kill_f, kill_i, kill_b, kill_c, kill_s, kill_rof, kill_rot, Int.toNat_zero, isFF_ll, rowN_ll, rowX_ll, AllFree, Option.some.injEq, Prod.mk.injEq, Bool.false_eq_true, Bool.true_eq_false]
    (repeat' first | with_reducible assumption | with_reducible apply And.intro | with_reducible intro hh) <;> first | ((first | with_reducible show (_ : Int) ≤ _ | with_reducible show (_ : Int) < _ | with_reducible show (_ : Nat) ≤ _ | with_reducible show (_ : Nat) < _ | with_reducible show (_ : Int) = _ | with_reducible show (_ : Nat) = _ | with_reducible show ¬ _ | with_reducible show _ ≠ _) <;> first | omega | (simp only [Bool.and_eq_true, Bool.or_eq_false_iff, Bool.not_eq_false', Bool.not_eq_true', decide_eq_true_eq, decide_eq_false_iff_not] at *; omega) | (with_reducible assumption)) | (with_reducible assumption) | skip
    · rename_i hh
      refine Post.leaf (by cbv) (fin_ret (.inl rfl) (by cbv) (by simp) (To.fresh ⟨.b ?_, trivial⟩))
      simp only [eqTL]
      rw [allN_false ‹i < n .u› (q := fun i => (x i).toList == (y i).toList) (by simpa using hh), Bool.and_false]
    · refine ⟨i + 1, ⟨by omega, lt_succ_all hx (by simpa using ‹((x i).toList == (y i).toList) = true›)⟩, by omega, To.same (Nat.le_refl _) trivial ?_⟩
      (repeat' first | exact AllTo.nil | apply AllTo.cons) <;> first | exact AvTo.dead _ | exact AvTo.i rfl | exact Free.same Free.listT | skip
    · refine Post.eval (by cbv) ?_
      simp only [natCast_int, Post, All, thenA, canon0, canon064, and_true, true_and, forall_const, implies_true, decide_eq_true_eq, decide_eq_false_iff_not, Bool.not_eq_true', Bool.not_eq_false', Bool.true_and, Bool.and_true, beq_true, beq_false, Int.toNat_natCast, Int.ofNat_lt, Int.ofNat_le, Nat.zero_add, Nat.add_zero, imp_self, Bool.cond_false_right, Bool.cond_true_left, Bool.cond_true_right, IsF, rdF_eq, fOf, AV.f.injEq, exists_eq', free_list, free_fn0, List.not_mem_nil, List.mem_cons, false_imp, forall_eq, or_false, free_i, free_f, free_b, ren_f, ren_i, ren_b, and_self, bne_iff_ne, bne_eq_false_iff_eq, ne_eq, Int.natCast_inj, or_true, true_or, freeB_list, unfr_f, unfr_i, unfr_b, unfr_c, unfr_s, free_c, free_s, ren_c, ren_s, unfr_ro, unfr_rptr, ren_ro, free_ll, free_box, kill_f, kill_i, kill_b, kill_c, kill_s, kill_rof, kill_rot, Int.toNat_zero, isFF_ll, rowN_ll, rowX_ll, AllFree, Option.some.injEq, Prod.mk.injEq, Bool.false_eq_true, Bool.true_eq_false]
      have e : i = n .u := by omega
      refine fin_ret (.inl rfl) (by cbv) (by simp) (To.fresh ⟨.b ?_, trivial⟩)
      simp only [eqTL, hnm, decide_true, Bool.true_and]
      exact (allN_true (hnm ▸ e ▸ hx)).symm
def kMarkT : Km
  | i, n, 1, [.i .i64 k], .tab m 1 g => some (.i .i64 fun _ => k .u + (n .u : Int), .tab m 1 fun i _ => .s fun _ => markT (k .u + (i .u : Int)), fun _ => IsT m g ∧ i .u = 0 ∧ n .u = m .u ∧ n .u ≤ 1048576 ∧ 0 ≤ k .u ∧ k .u ≤ 1099511627776)
  | _, _, _, _, _ => none
def kMarkNilT : Kr
  | [.v (.slice none 0 0), .i .i64 k] => some (.i .i64 fun _ => k .u, [], fun _ => True)
  | _ => none
theorem markNilT_tells : Tells Tryd.prog 18 (.r kMarkNilT) := by
  intro args r H' p hr hp
  unfold kMarkNilT at hr
  split at hr <;> cases hr
  rename_i k
  refine ⟨.i, .nil, ?_⟩
  refine Con.of ttok Tryd.func18 rfl rfl (Nat.le_refl _) (AW.exec ttok (CTok.nil _) (by cbv) ?_)
  simp only [natCast_int, Post, All, thenA, canon0, canon064, and_true, true_and, forall_const, implies_true, decide_eq_true_eq, decide_eq_false_iff_not, Bool.not_eq_true', Bool.not_eq_false', Bool.true_and, Bool.and_true, beq_true, beq_false, Int.toNat_natCast, Int.ofNat_lt, Int.ofNat_le, Nat.zero_add, Nat.add_zero, imp_self, Bool.cond_false_right, Bool.cond_true_left, Bool.cond_true_right, IsF, rdF_eq, fOf, AV.f.injEq, exists_eq', free_list, free_fn0, List.not_mem_nil, List.mem_cons, false_imp, forall_eq, or_false, free_i, free_f, free_b, ren_f, ren_i, ren_b, and_self, bne_iff_ne, bne_eq_false_iff_eq, ne_eq, Int.natCast_inj, or_true, true_or, freeB_list, unfr_f, unfr_i, unfr_b, unfr_c, unfr_s, free_c, free_s, ren_c, ren_s, unfr_ro, unfr_rptr, ren_ro, free_ll, free_box, kill_f, kill_i, kill_b, kill_c, kill_s, kill_rof, kill_rot, Int.toNat_zero, isFF_ll, rowN_ll, rowX_ll, AllFree, Option.some.injEq, Prod.mk.injEq, Bool.false_eq_true, Bool.true_eq_false]
  refine AW.loopTo (ι := Nat) (fun i => i = 0) (fun i => i) (fun i => mkE Tryd.f18.ntmps [(0, .v (.slice none 0 0)), (1, .i .i64 k), (5, .i .i64 fun _ => 0)]) (fun _ => []) 0 rfl (To.same (Nat.le_refl _) trivial ?_) ?_
  · (repeat' first | exact AllTo.nil | apply AllTo.cons) <;> first | exact AvTo.dead _ | exact AvTo.i rfl | exact AvTo.i (by first | omega | (simp only [natCast_int]; omega)) | exact AvTo.f rfl | exact AvTo.b rfl | exact AvTo.v _ | exact AvTo.own rfl rfl rfl rfl | exact AvTo.own rfl rfl (by first | rfl | omega) (by first | rfl | omega) | exact Free.same .listF | exact Free.same (.fn (by simp) (by simp)) | skip
  · rintro q rfl
    refine AW.exec ttok (CTok.nil _) (by cbv) ?_
    simp only [natCast_int, Post, All, thenA, canon0, canon064, and_true, true_and, forall_const, implies_true, decide_eq_true_eq, decide_eq_false_iff_not, Bool.not_eq_true', Bool.not_eq_false', Bool.true_and, Bool.and_true, beq_true, beq_false, Int.toNat_natCast, Int.ofNat_lt, Int.ofNat_le, Nat.zero_add, Nat.add_zero, imp_self, Bool.cond_false_right, Bool.cond_true_left, Bool.cond_true_right, IsF, rdF_eq, fOf, AV.f.injEq, exists_eq', free_list, free_fn0, List.not_mem_nil, List.mem_cons, false_imp, forall_eq, or_false, free_i, free_f, free_b, ren_f, ren_i, ren_b, and_self, bne_iff_ne, bne_eq_false_iff_eq, ne_eq, Int.natCast_inj, or_true, true_or, freeB_list, unfr_f, unfr_i, unfr_b, unfr_c, unfr_s, free_c, free_s, ren_c, ren_s, unfr_ro, unfr_rptr, ren_ro, free_ll, free_box, kill_f, kill_i, kill_b, kill_c, kill_s, kill_rof, kill_rot, Int.toNat_zero, isFF_ll, rowN_ll, rowX_ll, AllFree, Option.some.injEq, Prod.mk.injEq, Bool.false_eq_true, Bool.true_eq_false, Int.lt_irrefl, decide_false]
    (repeat' first | with_reducible assumption | with_reducible apply And.intro | with_reducible intro hh) <;> first | ((first | with_reducible show (_ : Int) ≤ _ | with_reducible show (_ : Int) < _ | with_reducible show (_ : Nat) ≤ _ | with_reducible show (_ : Nat) < _ | with_reducible show (_ : Int) = _ | with_reducible show (_ : Nat) = _ | with_reducible show ¬ _ | with_reducible show _ ≠ _) <;> first | omega | (simp only [Bool.and_eq_true, Bool.or_eq_false_iff, Bool.not_eq_false', Bool.not_eq_true', decide_eq_true_eq, decide_eq_false_iff_not] at *; omega) | (with_reducible assumption)) | (with_reducible assumption) | skip
    all_goals first | (exfalso; simp_all; done) | skip
    refine Post.eval (by cbv) ?_
    simp only [natCast_int, Post, All, thenA, canon0, canon064, and_true, true_and, forall_const, implies_true, decide_eq_true_eq, decide_eq_false_iff_not, Bool.not_eq_true', Bool.not_eq_false', Bool.true_and, Bool.and_true, beq_true, beq_false, Int.toNat_natCast, Int.ofNat_lt, Int.ofNat_le, Nat.zero_add, Nat.add_zero, imp_self, Bool.cond_false_right, Bool.cond_true_left, Bool.cond_true_right, IsF, rdF_eq, fOf, AV.f.injEq, exists_eq', free_list, free_fn0, List.not_mem_nil, List.mem_cons, false_imp, forall_eq, or_false, free_i, free_f, free_b, ren_f, ren_i, ren_b, and_self, bne_iff_ne, bne_eq_false_iff_eq, ne_eq, Int.natCast_inj, or_true, true_or, freeB_list, unfr_f, unfr_i, unfr_b, unfr_c, unfr_s, free_c, free_s, ren_c, ren_s, unfr_ro, unfr_rptr, ren_ro, free_ll, free_box, kill_f, kill_i, kill_b, kill_c, kill_s, kill_rof, kill_rot, Int.toNat_zero, isFF_ll, rowN_ll, rowX_ll, AllFree, Option.some.injEq, Prod.mk.injEq, Bool.false_eq_true, Bool.true_eq_false]
    exact fin_ret (.inl rfl) (by cbv) (by simp) (To.fresh (.cons (.i rfl) .nil))
def ctMk : CT := [(42, .r kMarkText)]
theorem ctMk_ok : CTok Tryd.prog ctMk := .cons markText_tells (.nil _)
theorem markT_tells : Tells Tryd.prog 18 (.m kMarkT kMarkNilT) := by
  refine ⟨markNilT_tells, ?_⟩
  intro i n sz args B r B' p hr hp
  unfold kMarkT at hr
  split at hr <;> cases hr
  rename_i k m g
  obtain ⟨hp, hi, hn, hn1, hk0, hk1⟩ := hp
  refine ⟨.i, .tab fun _ _ _ _ => .s, ?_⟩
  refine Con.of ttok Tryd.func18 rfl rfl (Nat.le_refl _) (AW.exec ttok ctMk_ok (by cbv) ?_)
  simp only [natCast_int, Post, All, thenA, canon0, canon064, and_true, true_and, forall_const, implies_true, decide_eq_true_eq, decide_eq_false_iff_not, Bool.not_eq_true', Bool.not_eq_false', Bool.true_and, Bool.and_true, beq_true, beq_false, Int.toNat_natCast, Int.ofNat_lt, Int.ofNat_le, Nat.zero_add, Nat.add_zero, imp_self, Bool.cond_false_right, Bool.cond_true_left, Bool.cond_true_right, IsF, rdF_eq, fOf, AV.f.injEq, exists_eq', free_list, free_fn0, List.not_mem_nil, List.mem_cons, false_imp, forall_eq, or_false, free_i, free_f, free_b, ren_f, ren_i, ren_b, and_self, bne_iff_ne, bne_eq_false_iff_eq, ne_eq, Int.natCast_inj, or_true, true_or, freeB_list, unfr_f, unfr_i, unfr_b, unfr_c, unfr_s, free_c, free_s, ren_c, ren_s, unfr_ro, unfr_rptr, ren_ro, free_ll, free_box, kill_f, kill_i, kill_b, kill_c, kill_s, kill_rof, kill_rot, Int.toNat_zero, isFF_ll, rowN_ll, rowX_ll, AllFree, Option.some.injEq, Prod.mk.injEq, Bool.false_eq_true, Bool.true_eq_false]
  refine AW.loopTo (ι := Nat) (fun i => i ≤ m .u) (fun i => m .u - i) (fun i => mkE Tryd.f18.ntmps [(0, .own 0 (fun _ => 0) m 1), (1, .i .i64 fun _ => k .u + (i : Int)), (5, .i .i64 fun _ => (i : Int))])
    (fun i => [some (false, .tab m 1 fun j _ => .s fun _ => bif decide (j .u < i) then markT (k .u + (j .u : Int)) else rdT g (j .u))]) 0 (Nat.zero_le _) (To.list (Nat.le_refl _) (Nat.le_refl _) (fun e => e) (fun j hj => ?_) ?_) ?_
  · obtain ⟨y, hy⟩ := hp.2 j hj
    simp only [hy, unfr]
    exact AvTo.s (by simp [rdT, sOf, hy])
  · (repeat' first | exact AllTo.nil | apply AllTo.cons) <;> first | exact AvTo.dead _ | exact AvTo.i rfl | exact AvTo.i (by simp) | exact AvTo.own rfl rfl hi hn | skip
  · rintro q hq
    refine AW.exec ttok ctMk_ok (by cbv) ?_
    simp only [natCast_int, Post, All, thenA, canon0, canon064, and_true, true_and, forall_const, implies_true, decide_eq_true_eq, decide_eq_false_iff_not, Bool.not_eq_true', Bool.not_eq_false', Bool.true_and, Bool.and_true, beq_true, beq_false, Int.toNat_natCast, Int.ofNat_lt, Int.ofNat_le, Nat.zero_add, Nat.add_zero, imp_self, Bool.cond_false_right, Bool.cond_true_left, Bool.cond_true_right, IsF, rdF_eq, fOf, AV.f.injEq, exists_eq', free_list, free_fn0, List.not_mem_nil, List.mem_cons, false_imp, forall_eq, or_false, free_i, free_f, free_b, ren_f, ren_i, ren_b, and_self, bne_iff_ne, bne_eq_false_iff_eq, ne_eq, Int.natCast_inj, or_true, true_or, freeB_list, unfr_f, unfr_i, unfr_b, unfr_c, unfr_s, free_c, free_s, ren_c, ren_s, unfr_ro, unfr_rptr, ren_ro, free_ll, free_box, kill_f, kill_i, kill_b, kill_c, kill_s, kill_rof, kill_rot, Int.toNat_zero, isFF_ll, rowN_ll, rowX_ll, AllFree, Option.some.injEq, Prod.mk.injEq, Bool.false_eq_true, Bool.true_eq_false]
    (repeat' first | with_reducible assumption | with_reducible apply And.intro | with_reducible intro hh) <;> first | ((first | with_reducible show (_ : Int) ≤ _ | with_reducible show (_ : Int) < _ | with_reducible show (_ : Nat) ≤ _ | with_reducible show (_ : Nat) < _ | with_reducible show (_ : Int) = _ | with_reducible show (_ : Nat) = _ | with_reducible show ¬ _ | with_reducible show _ ≠ _) <;> first | omega | (simp only [Bool.and_eq_true, Bool.or_eq_false_iff, Bool.not_eq_false', Bool.not_eq_true', decide_eq_true_eq, decide_eq_false_iff_not] at *; omega) | (with_reducible assumption)) | (with_reducible assumption) | skip
    · refine ⟨q + 1, by omega, by omega, To.list (Nat.le_refl _) (Nat.le_refl _) (fun e => e) (fun j hj => ?_) ?_⟩
      · by_cases e : j = q
        · subst e
          simp only [if_true, List.length_cons, List.length_nil, Nat.zero_add, Nat.le_refl, Nat.zero_lt_one, and_self, Nat.sub_self, List.getD_cons_zero]
          exact AvTo.s (by simp only [Nat.lt_succ_self, decide_true, cond_true])
        · simp only [e, if_false]
          exact AvTo.s (by simp only [show (j < q + 1) ↔ j < q by omega])
      · (repeat' first | exact AllTo.nil | apply AllTo.cons) <;> first | exact AvTo.dead _ | exact AvTo.i rfl | exact AvTo.i (by first | omega | (simp only [natCast_int]; omega)) | exact AvTo.f rfl | exact AvTo.b rfl | exact AvTo.v _ | exact AvTo.own rfl rfl rfl rfl | exact AvTo.own rfl rfl (by first | rfl | omega) (by first | rfl | omega) | exact Free.same .listF | exact Free.same (.fn (by simp) (by simp)) | skip
    · refine Post.eval (by cbv) ?_
      simp only [natCast_int, Post, All, thenA, canon0, canon064, and_true, true_and, forall_const, implies_true, decide_eq_true_eq, decide_eq_false_iff_not, Bool.not_eq_true', Bool.not_eq_false', Bool.true_and, Bool.and_true, beq_true, beq_false, Int.toNat_natCast, Int.ofNat_lt, Int.ofNat_le, Nat.zero_add, Nat.add_zero, imp_self, Bool.cond_false_right, Bool.cond_true_left, Bool.cond_true_right, IsF, rdF_eq, fOf, AV.f.injEq, exists_eq', free_list, free_fn0, List.not_mem_nil, List.mem_cons, false_imp, forall_eq, or_false, free_i, free_f, free_b, ren_f, ren_i, ren_b, and_self, bne_iff_ne, bne_eq_false_iff_eq, ne_eq, Int.natCast_inj, or_true, true_or, freeB_list, unfr_f, unfr_i, unfr_b, unfr_c, unfr_s, free_c, free_s, ren_c, ren_s, unfr_ro, unfr_rptr, ren_ro, free_ll, free_box, kill_f, kill_i, kill_b, kill_c, kill_s, kill_rof, kill_rot, Int.toNat_zero, isFF_ll, rowN_ll, rowX_ll, AllFree, Option.some.injEq, Prod.mk.injEq, Bool.false_eq_true, Bool.true_eq_false]
      have e : q = m .u := by omega
      refine fin_ret (.inl rfl) (by cbv) (by simp) (To.list (Nat.le_refl _) (Nat.le_refl _) (fun e => e) (fun j hj => AvTo.s ?_) ?_)
      · simp only [e, hj, decide_true, cond_true]
      · exact .cons (.i (by simp only [natCast_int]; omega)) .nil
def heldTL (n : Nat) (x : Nat → ByteArray) (k : Int) : Int := bif allN (fun i => (x i).toList == (markT (k + (i : Int))).toList) n then k + n else -1
theorem heldTL_mark (n : Nat) (k : Int) : heldTL n (fun i => markT (k + (i : Int))) k = k + n := by
  unfold heldTL
  rw [allN_true fun j _ => beq_self_eq_true _]
  rfl
theorem heldTL_zero (x : Nat → ByteArray) (k : Int) : heldTL 0 x k = k := by simp [heldTL, allN]
def kHeldT : Kr
  | [a, .i .i64 k] => match asL a with
    | some (n, g) => some (.i .i64 fun _ => heldTL (n .u) (rdT g) (k .u), [], fun _ => IsT n g ∧ n .u ≤ 1048576 ∧ 0 ≤ k .u ∧ k .u ≤ 1099511627776)
    | none => none
  | _ => none
theorem heldT_tells : Tells Tryd.prog 19 (.r kHeldT) := by
  intro args r H' p hr hp
  unfold kHeldT at hr
  split at hr <;> first | (cases hr; done) | skip
  split at hr <;> cases hr
  rename_i k _ n g hL
  obtain ⟨hp, hn, hk0, hk1⟩ := hp
  refine ⟨.i, .nil, Con.pre (args' := [listT false n (rdT g), .i .i64 k]) ⟨Sub.asT hL hp, Sub.refl _, trivial⟩ ?_⟩
  generalize rdT g = x
  refine Con.of ttok Tryd.func19 rfl rfl (Nat.zero_le _) (AW.exec ttok ctMk_ok (by cbv) ?_)
  simp only [natCast_int, Post, All, thenA, canon0, canon064, and_true, true_and, forall_const, implies_true, decide_eq_true_eq, decide_eq_false_iff_not, Bool.not_eq_true', Bool.not_eq_false', Bool.true_and, Bool.and_true, beq_true, beq_false, Int.toNat_natCast, Int.ofNat_lt, Int.ofNat_le, Nat.zero_add, Nat.add_zero, imp_self, Bool.cond_false_right, Bool.cond_true_left, Bool.cond_true_right, IsF, rdF_eq, fOf, AV.f.injEq, exists_eq', free_list, free_fn0, List.not_mem_nil, List.mem_cons, false_imp, forall_eq, or_false, free_i, free_f, free_b, ren_f, ren_i, ren_b, and_self, bne_iff_ne, bne_eq_false_iff_eq, ne_eq, Int.natCast_inj, or_true, true_or, freeB_list, unfr_f, unfr_i, unfr_b, unfr_c, unfr_s, free_c, free_s, ren_c, ren_s, unfr_ro, unfr_rptr, ren_ro, free_ll, free_box, kill_f, kill_i, kill_b, kill_c, kill_s, kill_rof, kill_rot, Int.toNat_zero, isFF_ll, rowN_ll, rowX_ll, AllFree, Option.some.injEq, Prod.mk.injEq, Bool.false_eq_true, Bool.true_eq_false]
  refine AW.loopTo (ι := Nat) (fun i => i ≤ n .u ∧ ∀ j, j < i → ((x j).toList == (markT (k .u + (j : Int))).toList) = true) (fun i => n .u - i) (fun i => mkE Tryd.f19.ntmps [(0, listT false n x), (1, .i .i64 fun _ => k .u + (i : Int)), (5, .i .i64 fun _ => (i : Int))])
    (fun _ => []) 0 ⟨Nat.zero_le _, fun j hj => absurd hj (Nat.not_lt_zero _)⟩ (To.same (Nat.le_refl _) trivial ?_) ?_
  · (repeat' first | exact AllTo.nil | apply AllTo.cons) <;> first | exact AvTo.dead _ | exact AvTo.i rfl | exact AvTo.i (by simp) | exact Free.same Free.listT | skip
  · rintro i ⟨hi, hx⟩
    refine AW.exec ttok ctMk_ok (by cbv) ?_
    simp only [natCast_int, Post, All, thenA, canon0, canon064, and_true, true_and, forall_const, implies_true, decide_eq_true_eq, decide_eq_false_iff_not, Bool.not_eq_true', Bool.not_eq_false', Bool.true_and, Bool.and_true, beq_true, beq_false, Int.toNat_natCast, Int.ofNat_lt, Int.ofNat_le, Nat.zero_add, Nat.add_zero, imp_self, Bool.cond_false_right, Bool.cond_true_left, Bool.cond_true_right, IsF, rdF_eq, fOf, AV.f.injEq, exists_eq', free_list, free_fn0, List.not_mem_nil, List.mem_cons, false_imp, forall_eq, or_false, free_i, free_f, free_b, ren_f, ren_i, ren_b, and_self, bne_iff_ne, bne_eq_false_iff_eq, ne_eq, Int.natCast_inj, or_true, true_or, freeB_list, unfr_f, unfr_i, unfr_b, unfr_c, unfr_s, free_c, free_s, ren_c, ren_s, unfr_ro, unfr_rptr, ren_ro, free_ll, free_box, kill_f, kill_i, kill_b, kill_c, kill_s, kill_rof, kill_rot, Int.toNat_zero, isFF_ll, rowN_ll, rowX_ll, AllFree, Option.some.injEq, Prod.mk.injEq, Bool.false_eq_true, Bool.true_eq_false]
    (repeat' first | with_reducible assumption | with_reducible apply And.intro | with_reducible intro hh) <;> first | ((first | with_reducible show (_ : Int) ≤ _ | with_reducible show (_ : Int) < _ | with_reducible show (_ : Nat) ≤ _ | with_reducible show (_ : Nat) < _ | with_reducible show (_ : Int) = _ | with_reducible show (_ : Nat) = _ | with_reducible show ¬ _ | with_reducible show _ ≠ _) <;> first | omega | (simp only [Bool.and_eq_true, Bool.or_eq_false_iff, Bool.not_eq_false', Bool.not_eq_true', decide_eq_true_eq, decide_eq_false_iff_not] at *; omega) | (with_reducible assumption)) | (with_reducible assumption) | skip
    · rename_i hh
      refine Post.leaf (by cbv) (fin_ret (.inl rfl) (by cbv) (by simp) (To.fresh ⟨.i ?_, trivial⟩))
      rw [heldTL, allN_false ‹i < n .u› (q := fun i => (x i).toList == (markT (k .u + (i : Int))).toList) (by simpa using hh)]
      rfl
    · refine ⟨i + 1, ⟨by omega, lt_succ_all hx (by simpa using ‹((x i).toList == (markT (k .u + (i : Int))).toList) = true›)⟩, by omega, To.same (Nat.le_refl _) trivial ?_⟩
      (repeat' first | exact AllTo.nil | apply AllTo.cons) <;> first | exact AvTo.dead _ | exact AvTo.i rfl | exact AvTo.i (by first | omega | (simp only [natCast_int]; omega)) | exact Free.same Free.listT | skip
    · refine Post.eval (by cbv) ?_
      simp only [natCast_int, Post, All, thenA, canon0, canon064, and_true, true_and, forall_const, implies_true, decide_eq_true_eq, decide_eq_false_iff_not, Bool.not_eq_true', Bool.not_eq_false', Bool.true_and, Bool.and_true, beq_true, beq_false, Int.toNat_natCast, Int.ofNat_lt, Int.ofNat_le, Nat.zero_add, Nat.add_zero, imp_self, Bool.cond_false_right, Bool.cond_true_left, Bool.cond_true_right, IsF, rdF_eq, fOf, AV.f.injEq, exists_eq', free_list, free_fn0, List.not_mem_nil, List.mem_cons, false_imp, forall_eq, or_false, free_i, free_f, free_b, ren_f, ren_i, ren_b, and_self, bne_iff_ne, bne_eq_false_iff_eq, ne_eq, Int.natCast_inj, or_true, true_or, freeB_list, unfr_f, unfr_i, unfr_b, unfr_c, unfr_s, free_c, free_s, ren_c, ren_s, unfr_ro, unfr_rptr, ren_ro, free_ll, free_box, kill_f, kill_i, kill_b, kill_c, kill_s, kill_rof, kill_rot, Int.toNat_zero, isFF_ll, rowN_ll, rowX_ll, AllFree, Option.some.injEq, Prod.mk.injEq, Bool.false_eq_true, Bool.true_eq_false]
      have e : i = n .u := by omega
      refine fin_ret (.inl rfl) (by cbv) (by simp) (To.fresh ⟨.i ?_, trivial⟩)
      rw [heldTL, allN_true (e ▸ hx)]
      simp only [cond_true, e]
end Go.Proofs.YtjlkflceicdcdaaDoor
