/- The law FnExactSameDesk answers yes for every two desks; conditions: none. -/
import Derived.Test.YtngdpbjgmajfmaaHp
import Derived.Test.YtngdpbjgmajfmaaLs
import Derived.Test.YtngdpbjgmajfmaaAww
set_option linter.unusedSimpArgs false
set_option linter.unusedVariables false
namespace Go.Proofs.Ytngdpbjgmajfmaa
open Go.Aw Go.ChangeShapes Go.WideShapes Go.RowKit
/-! ### Desks that are read, with the range of their words -/
section
variable {H : Type} {enc : TypeId × Value → H} {P : Program}
theorem read_f32W {w : World} {t : TypeId} {v : Value} {fuel : Nat} {x : DataW H × List MemPlace} (ht : P.underlying t = some (.float .f32)) (h : DataW.trod enc P w 0 (fun _ => true) true fuel t [v] = some x) : ∃ b, v = .float .f32 b ∧ canon .f32 b < 4294967296 := by
  cases fuel with
  | zero => simp [DataW.trod] at h
  | succ fuel =>
    cases v <;> simp [DataW.trod, ht] at h
    rename_i k b
    obtain ⟨⟨h1, h2⟩, _⟩ := h
    subst h1
    refine ⟨b, rfl, ?_⟩
    have h3 : b < 4294967296 := by simpa [Lit.wf] using h2
    unfold canon
    cases isNaN .f32 b with
    | false => exact h3
    | true => show (2143289344 : Nat) < 4294967296; decide
theorem floats_cellW {w : World} {t e : TypeId} {c : Value} {fuel : Nat} {x : DataW H × List MemPlace} (ht : P.underlying t = some (.slice e)) (he : P.underlying e = some (.float .f32)) (hc : P.cellsOf e = 1)
    (hf : DataW.trod enc P w 0 (fun _ => true) true fuel t [c] = some x) : ∃ (n : Nat) (x : Nat → Nat), n ≤ 9223372036854775807 ∧ W32 n x ∧ Sim w noMp 0 w.heap.size (.ro false (fun _ => n) 1 fun i _ => .f .f32 fun _ => x (i .u)) c := by
  rcases Deep.open_slice1 ht hc hf with ⟨hcs, _⟩ | ⟨a, len', cap', m, k, V, D, Pl, hcs, _, hl, hmx, hm, _, hx⟩
  · simp only [List.cons.injEq, and_true] at hcs
    subst hcs
    exact ⟨0, fun _ => 0, by omega, fun i hi => absurd hi (Nat.not_lt_zero _), .ro0 rfl⟩
  · simp only [List.cons.injEq, and_true] at hcs
    subst hcs
    simp only [if_true] at hm
    have hx' : ∀ i, i < len' → w.cell? (a.add i) = some (V i) ∧ ∃ b, V i = .float .f32 b ∧ canon .f32 b < 4294967296 := fun i hi => ⟨(hx i (by omega)).1, read_f32W he (hx i (by omega)).2⟩
    have hmax : len' ≤ 9223372036854775807 := by unfold maxLen at hmx; omega
    rcases Nat.eq_zero_or_pos len' with h0 | h0
    · subst h0
      exact ⟨0, fun _ => 0, by omega, fun i hi => absurd hi (Nat.not_lt_zero _), .ro0 rfl⟩
    · obtain ⟨b, off, spot⟩ := a
      have hspot : spot = none := by simpa [Addr.add] using World.cell?_spot (hx' 0 h0).1
      subst hspot
      have hblk : b < w.heap.size := by
        have := (hx' 0 h0).1
        rw [Addr.add_lit] at this
        rcases Nat.lt_or_ge b w.heap.size with h' | h'
        · exact h'
        · simp [World.cell?, Array.getElem?_eq_none h'] at this
      refine ⟨len', fun i => match V i with
        | .float _ b => canon .f32 b
        | _ => 0, hmax, fun i hi => ?_, .ro (fun i _ => V i) hl ⟨hblk, fun id h => (by cases h), fun h => (by cases h), fun _ => hblk⟩ (fun i c hi hcc => ?_) (fun i c hi hcc => ?_)⟩
      · obtain ⟨_, b', h2, h3⟩ := hx' i hi
        simp only [h2]
        exact h3
      · obtain rfl : c = 0 := by omega
        obtain ⟨h1, b', h2, _⟩ := hx' i hi
        rw [Addr.add_lit] at h1
        exact ⟨by simpa using h1, by rw [h2]; rfl⟩
      · obtain ⟨_, b', h2, _⟩ := hx' i hi
        simp only [h2]
        exact .f rfl
theorem read_deskW {w : World} {t ts tp tf te : TypeId} {v : Value} {base : Nat} {d : DataW H} {ps : List MemPlace} (h1 : fieldsOf P t = [(ts, 0), (tp, 2), (tf, 6)]) (h2 : fieldsOf P ts = [(tf, 0), (tf, 1)]) (h3 : fieldsOf P tp = [(te, 0), (te, 1), (te, 2), (te, 3)])
    (c1 : P.cellsOf t = 7) (c2 : P.cellsOf ts = 2) (c3 : P.cellsOf tp = 4) (c4 : P.cellsOf tf = 1) (hf : P.underlying tf = some (.slice te)) (he : P.underlying te = some (.float .f32)) (hc : P.cellsOf te = 1)
    (ho : Value.okWide P w .any base t v) (h : DataW.Trod enc P w 0 (fun _ => true) true t v d ps) :
    ∃ n x m y p q r s k z, n ≤ 9223372036854775807 ∧ m ≤ 9223372036854775807 ∧ k ≤ 9223372036854775807 ∧ W32 n x ∧ W32 m y ∧ W32 k z ∧ P32 p q r s ∧ Sim w noMp 0 w.heap.size (deskA n x m y p q r s k z) v := by
  obtain ⟨us, rfl, hus⟩ : ∃ us, v = .agg us ∧ us.size = P.cellsOf t := by
    have hh := h1
    unfold fieldsOf at hh
    split at hh
    · rename_i fs hfs; exact okWide_struct hfs ho
    · cases hh
  obtain ⟨fuel, hfu⟩ := h
  obtain ⟨us⟩ := us
  have hlen : us.length = 7 := by rw [c1] at hus; simpa using hus
  match us, hlen with
  | [a0, a1, a2, a3, a4, a5, a6], _ =>
    obtain ⟨_, n1, g1⟩ := trod_fields h1 (by simp) hfu
    obtain ⟨y0, e0⟩ := g1 0 _ _ rfl
    obtain ⟨y1, e1⟩ := g1 1 _ _ rfl
    obtain ⟨y2, e2⟩ := g1 2 _ _ rfl
    obtain ⟨_, n2, g2⟩ := trod_fields h2 (by simp) e0
    obtain ⟨_, n3, g3⟩ := trod_fields h3 (by simp) e1
    obtain ⟨z0, f0⟩ := g2 0 _ _ rfl
    obtain ⟨z1, f1⟩ := g2 1 _ _ rfl
    obtain ⟨q0, k0⟩ := g3 0 _ _ rfl
    obtain ⟨q1, k1⟩ := g3 1 _ _ rfl
    obtain ⟨q2, k2⟩ := g3 2 _ _ rfl
    obtain ⟨q3, k3⟩ := g3 3 _ _ rfl
    simp only [c2, c3, c4, hc, Value.cells] at e2 f0 f1 k0 k1 k2 k3
    obtain ⟨n, x, hn, w1, s0⟩ := floats_cellW hf he hc f0
    obtain ⟨m, y, hm, w2, s1⟩ := floats_cellW hf he hc f1
    obtain ⟨k, z, hk, w3, s6⟩ := floats_cellW hf he hc e2
    obtain ⟨b2, rfl, l2⟩ := read_f32W he k0
    obtain ⟨b3, rfl, l3⟩ := read_f32W he k1
    obtain ⟨b4, rfl, l4⟩ := read_f32W he k2
    obtain ⟨b5, rfl, l5⟩ := read_f32W he k3
    refine ⟨n, x, m, y, canon .f32 b2, canon .f32 b3, canon .f32 b4, canon .f32 b5, k, z, hn, hm, hk, w1, w2, w3, ⟨l2, l3, l4, l5⟩, .agg rfl fun j a u ha hu => ?_⟩
    match j, ha, hu with
    | 0, ha, hu => cases ha; cases hu; exact s0
    | 1, ha, hu => cases ha; cases hu; exact s1
    | 2, ha, hu => cases ha; cases hu; exact .f rfl
    | 3, ha, hu => cases ha; cases hu; exact .f rfl
    | 4, ha, hu => cases ha; cases hu; exact .f rfl
    | 5, ha, hu => cases ha; cases hu; exact .f rfl
    | 6, ha, hu => cases ha; cases hu; exact s6
end
def ctL_SameDesk : CT := [(22, .r kSzDesk), (24, .r kToDesk), (26, .r kEqDesk), (23, .r kSameDesk), (25, .r kSameDesk)]
theorem ctL_SameDesk_ok : CTok Try.prog ctL_SameDesk := .cons szDesk_tells (.cons toDesk_tells (.cons eqDesk_tells (.cons specSameDesk (.cons implSameDesk (.nil _)))))
set_option maxRecDepth 100000 in
set_option maxHeartbeats 4000000 in
theorem law_SameDesk (n0 : Nat) (x0 : Nat → Nat) (m0 : Nat) (y0 : Nat → Nat) (p0 q0 r0 s0 : Nat) (k0 : Nat) (z0 : Nat → Nat) (n1 : Nat) (x1 : Nat → Nat) (m1 : Nat) (y1 : Nat → Nat) (p1 q1 r1 s1 : Nat) (k1 : Nat) (z1 : Nat → Nat) (hn0 : n0 ≤ 9223372036854775807) (hm0 : m0 ≤ 9223372036854775807) (hk0 : k0 ≤ 9223372036854775807) (w10 : W32 n0 x0) (w20 : W32 m0 y0) (w30 : W32 k0 z0) (o0 : P32 p0 q0 r0 s0) (hn1 : n1 ≤ 9223372036854775807) (hm1 : m1 ≤ 9223372036854775807) (hk1 : k1 ≤ 9223372036854775807) (w11 : W32 n1 x1) (w21 : W32 m1 y1) (w31 : W32 k1 z1) (o1 : P32 p1 q1 r1 s1) : Con Try.prog 4 [deskA n0 x0 m0 y0 p0 q0 r0 s0 k0 z0, deskA n1 x1 m1 y1 p1 q1 r1 s1 k1 z1] [] (.b fun _ => true) [] := by
  refine Con.of ttok Try.func4 rfl rfl (Nat.le_refl _) (AW.exec ttok ctL_SameDesk_ok (by cbv) ?_)
  by_cases hb : szL (n0 + m0 + k0) 1048576 < 0
  · simp only [natCast_int, Post, All, thenA, canon0, canon064, and_true, true_and, forall_const, implies_true, decide_eq_true_eq, decide_eq_false_iff_not, Bool.not_eq_true', Bool.not_eq_false', Bool.true_and, Bool.and_true, beq_true, beq_false, Int.toNat_natCast, Int.ofNat_lt, Int.ofNat_le, Nat.zero_add, Nat.add_zero, imp_self, Bool.cond_false_right, Bool.cond_true_left, Bool.cond_true_right, IsF, rdF_eq, fOf, AV.f.injEq, exists_eq', free_list, free_fn0, List.not_mem_nil, List.mem_cons, false_imp, forall_eq, or_false, free_i, free_f, free_b, ren_f, ren_i, ren_b, and_self, bne_iff_ne, bne_eq_false_iff_eq, ne_eq, Int.natCast_inj, or_true, true_or, freeB_list, unfr_f, unfr_i, unfr_b, unfr_c, unfr_s, free_c, free_s, ren_c, ren_s, unfr_ro, unfr_rptr, ren_ro, free_ll, free_box, kill_f, kill_i, kill_b, kill_c, kill_s, kill_rof, kill_rot, Int.toNat_zero, isFF_ll, rowN_ll, rowX_ll, AllFree, Option.some.injEq, Prod.mk.injEq, Bool.false_eq_true, Bool.true_eq_false, eqL_self, heldL_mark, heldL_zero, one_neg, Nat.zero_le, Nat.not_lt_zero, one_add_len, one_le_tb, zero_le_one', not_false_eq_true, true_imp_iff, bne_self_eq_false, Bool.or_false, Bool.false_or, Bool.not_true, Bool.not_false, Bool.true_eq_false, Bool.false_eq_true, false_imp, Nat.le_refl, decide_true, decide_false, not_true_eq_false, Int.lt_irrefl, hb, hn0, hm0, hk0]
    (repeat' first | with_reducible assumption | with_reducible apply And.intro | with_reducible intro hh) <;> first | ((first | with_reducible show (_ : Int) ≤ _ | with_reducible show (_ : Int) < _ | with_reducible show (_ : Nat) ≤ _ | with_reducible show (_ : Nat) < _ | with_reducible show (_ : Int) = _ | with_reducible show (_ : Nat) = _ | with_reducible show ¬ _ | with_reducible show _ ≠ _) <;> first | omega | (simp only [Bool.and_eq_true, Bool.or_eq_false_iff, Bool.not_eq_false', Bool.not_eq_true', decide_eq_true_eq, decide_eq_false_iff_not] at *; omega) | (with_reducible assumption)) | (with_reducible assumption) | skip
    all_goals exact fin_ret (.inl rfl) (by cbv) (by simp) (To.fresh (.cons (.b rfl) .nil))
  obtain ⟨t0, t1⟩ := szL_top hb (Int.le_refl _)
  have h0 : ¬ (1048576 : Int) - ((n0 + m0 + k0 : Nat) : Int) < 0 := fun h => hb (szL_lt.2 h)
  have c1 : n0 ≤ 1048576 := by omega
  have c2 : m0 ≤ 1048576 := by omega
  have c3 : k0 ≤ 1048576 := by omega
  by_cases hb2 : szL (n1 + m1 + k1) (szL (n0 + m0 + k0) 1048576) < 0
  · simp only [natCast_int, Post, All, thenA, canon0, canon064, and_true, true_and, forall_const, implies_true, decide_eq_true_eq, decide_eq_false_iff_not, Bool.not_eq_true', Bool.not_eq_false', Bool.true_and, Bool.and_true, beq_true, beq_false, Int.toNat_natCast, Int.ofNat_lt, Int.ofNat_le, Nat.zero_add, Nat.add_zero, imp_self, Bool.cond_false_right, Bool.cond_true_left, Bool.cond_true_right, IsF, rdF_eq, fOf, AV.f.injEq, exists_eq', free_list, free_fn0, List.not_mem_nil, List.mem_cons, false_imp, forall_eq, or_false, free_i, free_f, free_b, ren_f, ren_i, ren_b, and_self, bne_iff_ne, bne_eq_false_iff_eq, ne_eq, Int.natCast_inj, or_true, true_or, freeB_list, unfr_f, unfr_i, unfr_b, unfr_c, unfr_s, free_c, free_s, ren_c, ren_s, unfr_ro, unfr_rptr, ren_ro, free_ll, free_box, kill_f, kill_i, kill_b, kill_c, kill_s, kill_rof, kill_rot, Int.toNat_zero, isFF_ll, rowN_ll, rowX_ll, AllFree, Option.some.injEq, Prod.mk.injEq, Bool.false_eq_true, Bool.true_eq_false, eqL_self, heldL_mark, heldL_zero, one_neg, Nat.zero_le, Nat.not_lt_zero, one_add_len, one_le_tb, zero_le_one', not_false_eq_true, true_imp_iff, bne_self_eq_false, Bool.or_false, Bool.false_or, Bool.not_true, Bool.not_false, Bool.true_eq_false, Bool.false_eq_true, false_imp, Nat.le_refl, decide_true, decide_false, not_true_eq_false, Int.lt_irrefl, hb, hb2, hn0, hm0, hk0, hn1, hm1, hk1, t0, t1, c1, c2, c3]
    (repeat' first | with_reducible assumption | with_reducible apply And.intro | with_reducible intro hh) <;> first | ((first | with_reducible show (_ : Int) ≤ _ | with_reducible show (_ : Int) < _ | with_reducible show (_ : Nat) ≤ _ | with_reducible show (_ : Nat) < _ | with_reducible show (_ : Int) = _ | with_reducible show (_ : Nat) = _ | with_reducible show ¬ _ | with_reducible show _ ≠ _) <;> first | omega | (simp only [Bool.and_eq_true, Bool.or_eq_false_iff, Bool.not_eq_false', Bool.not_eq_true', decide_eq_true_eq, decide_eq_false_iff_not] at *; omega) | (with_reducible assumption)) | (with_reducible assumption) | skip
    all_goals exact fin_ret (.inl rfl) (by cbv) (by simp) (To.fresh (.cons (.b rfl) .nil))
  have h2 : ¬ szL (n0 + m0 + k0) 1048576 - ((n1 + m1 + k1 : Nat) : Int) < 0 := fun h => hb2 (szL_lt.2 h)
  have d1 : n1 ≤ 1048576 := by omega
  have d2 : m1 ≤ 1048576 := by omega
  have d3 : k1 ≤ 1048576 := by omega
  have v10 := eq_true w10
  have v20 := eq_true w20
  have v30 := eq_true w30
  have v11 := eq_true w11
  have v21 := eq_true w21
  have v31 := eq_true w31
  have u0 := eq_true o0
  have u1 := eq_true o1
  simp only [natCast_int, Post, All, thenA, canon0, canon064, and_true, true_and, forall_const, implies_true, decide_eq_true_eq, decide_eq_false_iff_not, Bool.not_eq_true', Bool.not_eq_false', Bool.true_and, Bool.and_true, beq_true, beq_false, Int.toNat_natCast, Int.ofNat_lt, Int.ofNat_le, Nat.zero_add, Nat.add_zero, imp_self, Bool.cond_false_right, Bool.cond_true_left, Bool.cond_true_right, IsF, rdF_eq, fOf, AV.f.injEq, exists_eq', free_list, free_fn0, List.not_mem_nil, List.mem_cons, false_imp, forall_eq, or_false, free_i, free_f, free_b, ren_f, ren_i, ren_b, and_self, bne_iff_ne, bne_eq_false_iff_eq, ne_eq, Int.natCast_inj, or_true, true_or, freeB_list, unfr_f, unfr_i, unfr_b, unfr_c, unfr_s, free_c, free_s, ren_c, ren_s, unfr_ro, unfr_rptr, ren_ro, free_ll, free_box, kill_f, kill_i, kill_b, kill_c, kill_s, kill_rof, kill_rot, Int.toNat_zero, isFF_ll, rowN_ll, rowX_ll, AllFree, Option.some.injEq, Prod.mk.injEq, Bool.false_eq_true, Bool.true_eq_false, eqL_self, heldL_mark, heldL_zero, one_neg, Nat.zero_le, Nat.not_lt_zero, one_add_len, one_le_tb, zero_le_one', not_false_eq_true, true_imp_iff, bne_self_eq_false, Bool.or_false, Bool.false_or, Bool.not_true, Bool.not_false, Bool.true_eq_false, Bool.false_eq_true, false_imp, Nat.le_refl, decide_true, decide_false, not_true_eq_false, Int.lt_irrefl, hb, hb2, hn0, hm0, hk0, hn1, hm1, hk1, t0, t1, c1, c2, c3, d1, d2, d3, v10, v20, v30, v11, v21, v31, u0, u1, eqL_self, same32_self, Bool.and_self, bne_self_eq_false]
  (repeat' first | with_reducible assumption | with_reducible apply And.intro | with_reducible intro hh) <;> first | ((first | with_reducible show (_ : Int) ≤ _ | with_reducible show (_ : Int) < _ | with_reducible show (_ : Nat) ≤ _ | with_reducible show (_ : Nat) < _ | with_reducible show (_ : Int) = _ | with_reducible show (_ : Nat) = _ | with_reducible show ¬ _ | with_reducible show _ ≠ _) <;> first | omega | (simp only [Bool.and_eq_true, Bool.or_eq_false_iff, Bool.not_eq_false', Bool.not_eq_true', decide_eq_true_eq, decide_eq_false_iff_not] at *; omega) | (with_reducible assumption)) | (with_reducible assumption) | skip
  refine AW.drawnB ttok ctL_SameDesk_ok (by cbv) (by cbv) (by cbv) (by cbv) ?_ ?_
  · simp only [natCast_int, Post, All, thenA, canon0, canon064, and_true, true_and, forall_const, implies_true, decide_eq_true_eq, decide_eq_false_iff_not, Bool.not_eq_true', Bool.not_eq_false', Bool.true_and, Bool.and_true, beq_true, beq_false, Int.toNat_natCast, Int.ofNat_lt, Int.ofNat_le, Nat.zero_add, Nat.add_zero, imp_self, Bool.cond_false_right, Bool.cond_true_left, Bool.cond_true_right, IsF, rdF_eq, fOf, AV.f.injEq, exists_eq', free_list, free_fn0, List.not_mem_nil, List.mem_cons, false_imp, forall_eq, or_false, free_i, free_f, free_b, ren_f, ren_i, ren_b, and_self, bne_iff_ne, bne_eq_false_iff_eq, ne_eq, Int.natCast_inj, or_true, true_or, freeB_list, unfr_f, unfr_i, unfr_b, unfr_c, unfr_s, free_c, free_s, ren_c, ren_s, unfr_ro, unfr_rptr, ren_ro, free_ll, free_box, kill_f, kill_i, kill_b, kill_c, kill_s, kill_rof, kill_rot, Int.toNat_zero, isFF_ll, rowN_ll, rowX_ll, AllFree, Option.some.injEq, Prod.mk.injEq, Bool.false_eq_true, Bool.true_eq_false, eqL_self, heldL_mark, heldL_zero, one_neg, Nat.zero_le, Nat.not_lt_zero, one_add_len, one_le_tb, zero_le_one', not_false_eq_true, true_imp_iff, bne_self_eq_false, Bool.or_false, Bool.false_or, Bool.not_true, Bool.not_false, Bool.true_eq_false, Bool.false_eq_true, false_imp, Nat.le_refl, decide_true, decide_false, not_true_eq_false, Int.lt_irrefl, hb, hb2, hn0, hm0, hk0, hn1, hm1, hk1, t0, t1, c1, c2, c3, d1, d2, d3, v10, v20, v30, v11, v21, v31, u0, u1, eqL_self, same32_self, Bool.and_self, bne_self_eq_false]
  refine Post.eval (by cbv) ?_
  simp only [natCast_int, Post, All, thenA, canon0, canon064, and_true, true_and, forall_const, implies_true, decide_eq_true_eq, decide_eq_false_iff_not, Bool.not_eq_true', Bool.not_eq_false', Bool.true_and, Bool.and_true, beq_true, beq_false, Int.toNat_natCast, Int.ofNat_lt, Int.ofNat_le, Nat.zero_add, Nat.add_zero, imp_self, Bool.cond_false_right, Bool.cond_true_left, Bool.cond_true_right, IsF, rdF_eq, fOf, AV.f.injEq, exists_eq', free_list, free_fn0, List.not_mem_nil, List.mem_cons, false_imp, forall_eq, or_false, free_i, free_f, free_b, ren_f, ren_i, ren_b, and_self, bne_iff_ne, bne_eq_false_iff_eq, ne_eq, Int.natCast_inj, or_true, true_or, freeB_list, unfr_f, unfr_i, unfr_b, unfr_c, unfr_s, free_c, free_s, ren_c, ren_s, unfr_ro, unfr_rptr, ren_ro, free_ll, free_box, kill_f, kill_i, kill_b, kill_c, kill_s, kill_rof, kill_rot, Int.toNat_zero, isFF_ll, rowN_ll, rowX_ll, AllFree, Option.some.injEq, Prod.mk.injEq, Bool.false_eq_true, Bool.true_eq_false, eqL_self, heldL_mark, heldL_zero, one_neg, Nat.zero_le, Nat.not_lt_zero, one_add_len, one_le_tb, zero_le_one', not_false_eq_true, true_imp_iff, bne_self_eq_false, Bool.or_false, Bool.false_or, Bool.not_true, Bool.not_false, Bool.true_eq_false, Bool.false_eq_true, false_imp, Nat.le_refl, decide_true, decide_false, not_true_eq_false, Int.lt_irrefl, hb, hb2, hn0, hm0, hk0, hn1, hm1, hk1, t0, t1, c1, c2, c3, d1, d2, d3, v10, v20, v30, v11, v21, v31, u0, u1, eqL_self, same32_self, Bool.and_self, bne_self_eq_false]
  (repeat' first | with_reducible assumption | with_reducible apply And.intro | with_reducible intro hh) <;> first | ((first | with_reducible show (_ : Int) ≤ _ | with_reducible show (_ : Int) < _ | with_reducible show (_ : Nat) ≤ _ | with_reducible show (_ : Nat) < _ | with_reducible show (_ : Int) = _ | with_reducible show (_ : Nat) = _ | with_reducible show ¬ _ | with_reducible show _ ≠ _) <;> first | omega | (simp only [Bool.and_eq_true, Bool.or_eq_false_iff, Bool.not_eq_false', Bool.not_eq_true', decide_eq_true_eq, decide_eq_false_iff_not] at *; omega) | (with_reducible assumption)) | (with_reducible assumption) | skip
  all_goals first | exact fin_ret (.inl rfl) (by cbv) (by simp) (To.fresh (.cons (.b rfl) .nil)) | trace_state
set_option maxRecDepth 100000 in
theorem lifted_SameDesk (os : Os) (started : os.Started) (H : Type) (enc : TypeId × Value → H) :
    ReturnsInHanded {} Try.checked os 4 .any (Rows.fnExactSameDeskSpec.pre6 enc Try.prog Try.f4 Rows.fnExactSameDeskRow.domain false) (Rows.fnExactSameDeskSpec.post enc Try.prog Try.f4 Rows.fnExactSameDeskRow.apart Rows.fnExactSameDeskRow.fresh Rows.fnExactSameDeskRow.handsOn Rows.fnExactSameDeskRow.again) := by
  refine lifted (C := Try.checked) Try.own started (by kernel_rfl) Try.func4
    (ChangeSpec.witness6 (enc := enc) (C := Try.checked) false ⟨#[], #[.agg #[.slice none 0 0, .slice none 0 0, .float .f32 0, .float .f32 0, .float .f32 0, .float .f32 0, .slice none 0 0], .agg #[.slice none 0 0, .slice none 0 0, .float .f32 0, .float .f32 0, .float .f32 0, .float .f32 0, .slice none 0 0]], []⟩ 8 (by kernel_rfl) (by kernel_rfl) (by kernel_rfl) (by kernel_rfl))
    Try.laidOut Try.mapsOut Try.full (of_decide_eq_true (by kernel_rfl)) (tb := 4) (by kernel_rfl) uB rfl (fun ds h => ?_) (fun W base args ds ps hval hA => ?_)
  · match ds, h with
    | [d1, d2], _ => exact ⟨rfl, rfl, rfl⟩
  · have hpar : Try.f4.params = #[38, 38] := by kernel_rfl
    rw [hpar] at hA hval
    obtain ⟨v0, v1, e0, e1, ps0, ps1, rfl, rfl, hps, g0, g1⟩ := trodAll_two hA
    obtain ⟨n0, x0, m0, y0, p0, q0, r0, s0, k0, z0, hn0, hm0, hk0, w10, w20, w30, o0, a0⟩ := read_deskW dk1 dk2 dk3 dc1 dc2 dc3 cFs uFs uF cF (hval 0 _ v0 rfl rfl) g0
    obtain ⟨n1, x1, m1, y1, p1, q1, r1, s1, k1, z1, hn1, hm1, hk1, w11, w21, w31, o1, a1⟩ := read_deskW dk1 dk2 dk3 dc1 dc2 dc3 cFs uFs uF cF (hval 1 _ v1 rfl rfl) g1
    refine ⟨[deskA n0 x0 m0 y0 p0 q0 r0 s0 k0 z0, deskA n1 x1 m1 y1 p1 q1 r1 s1 k1 z1], rfl, fun j a u ha hu => ?_, law_SameDesk n0 x0 m0 y0 p0 q0 r0 s0 k0 z0 n1 x1 m1 y1 p1 q1 r1 s1 k1 z1 hn0 hm0 hk0 w10 w20 w30 o0 hn1 hm1 hk1 w11 w21 w31 o1⟩
    match j, ha, hu with
    | 0, ha, hu => cases ha; cases hu; exact a0
    | 1, ha, hu => cases ha; cases hu; exact a1
theorem SameDesk_said : Rows.FnExactSameDeskSaid :=
  OpenClaim.holds_of_wide 4 Try.f4 rfl rfl rfl rfl rfl rfl rfl ⟨rfl, rfl, rfl, rfl, rfl⟩ rfl rfl rfl rfl rfl (by kernel_rfl) Try.func4 (by kernel_rfl)
    (of_decide_eq_true (by kernel_rfl)) (by unfold Func.isWrapper; rw [if_neg (of_decide_eq_false (by kernel_rfl))]; exact ⟨rfl, rfl⟩)
    (fun os started H enc _ => lifted_SameDesk os started H enc)
end Go.Proofs.Ytngdpbjgmajfmaa
