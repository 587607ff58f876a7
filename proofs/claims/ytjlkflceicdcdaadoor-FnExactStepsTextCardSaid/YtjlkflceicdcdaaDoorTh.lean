/- Arguments that are pulses and steps, with the range of their words; texts of steps, on both sides. -/
import Derived.Test.YtjlkflceicdcdaaDoorTg
import Derived.Test.YtjlkflceicdcdaaDoorLs
import Derived.Test.YtjlkflceicdcdaaDoorAwx
set_option linter.unusedSimpArgs false
set_option linter.unusedVariables false
namespace Go.Proofs.YtjlkflceicdcdaaDoor
open Go.Aw Go.ChangeShapes Go.WideShapes Go.RowKit
section
variable {H : Type} {enc : TypeId × Value → H} {P : Program}
theorem read_f32T {w : World} {t : TypeId} {v : Value} {fuel : Nat} {x : DataW H × List MemPlace} (ht : P.underlying t = some (.float .f32)) (h : DataW.trod enc P w 0 (fun _ => true) true fuel t [v] = some x) : ∃ b, v = .float .f32 b ∧ canon .f32 b < 4294967296 := by
  cases fuel with
  | zero => simp [DataW.trod] at h
  | succ fuel =>
    cases v <;> simp [DataW.trod, ht] at h
    rename_i k b
    obtain ⟨⟨h1, h2⟩, _⟩ := h
    subst h1
    refine ⟨b, rfl, ?_⟩
    have h3 : b < 4294967296 := by simpa [Lit.wf] using h2
    unfold canon
    cases isNaN .f32 b with
    | false => exact h3
    | true => show (2143289344 : Nat) < 4294967296; decide
theorem floats_cellT {w : World} {t e : TypeId} {c : Value} {fuel : Nat} {x : DataW H × List MemPlace} (ht : P.underlying t = some (.slice e)) (he : P.underlying e = some (.float .f32)) (hc : P.cellsOf e = 1)
    (hf : DataW.trod enc P w 0 (fun _ => true) true fuel t [c] = some x) : ∃ (n : Nat) (x : Nat → Nat), n ≤ 9223372036854775807 ∧ W32T n x ∧ Sim w noMp 0 w.heap.size (.ro false (fun _ => n) 1 fun i _ => .f .f32 fun _ => x (i .u)) c := by
  rcases Deep.open_slice1 ht hc hf with ⟨hcs, _⟩ | ⟨a, len', cap', m, k, V, D, Pl, hcs, _, hl, hmx, hm, _, hx⟩
  · simp only [List.cons.injEq, and_true] at hcs
    subst hcs
    exact ⟨0, fun _ => 0, by omega, fun i hi => absurd hi (Nat.not_lt_zero _), .ro0 rfl⟩
  · simp only [List.cons.injEq, and_true] at hcs
    subst hcs
    simp only [if_true] at hm
    have hx' : ∀ i, i < len' → w.cell? (a.add i) = some (V i) ∧ ∃ b, V i = .float .f32 b ∧ canon .f32 b < 4294967296 := fun i hi => ⟨(hx i (by omega)).1, read_f32T he (hx i (by omega)).2⟩
    have hmax : len' ≤ 9223372036854775807 := by unfold maxLen at hmx; omega
    rcases Nat.eq_zero_or_pos len' with h0 | h0
    · subst h0
      exact ⟨0, fun _ => 0, by omega, fun i hi => absurd hi (Nat.not_lt_zero _), .ro0 rfl⟩
    · obtain ⟨b, off, spot⟩ := a
      have hspot : spot = none := by simpa [Addr.add] using World.cell?_spot (hx' 0 h0).1
      subst hspot
      have hblk : b < w.heap.size := by
        have := (hx' 0 h0).1
        rw [Addr.add_lit] at this
        rcases Nat.lt_or_ge b w.heap.size with h' | h'
        · exact h'
        · simp [World.cell?, Array.getElem?_eq_none h'] at this
      refine ⟨len', fun i => match V i with
        | .float _ b => canon .f32 b
        | _ => 0, hmax, fun i hi => ?_, .ro (fun i _ => V i) hl ⟨hblk, fun id h => (by cases h), fun h => (by cases h), fun _ => hblk⟩ (fun i c hi hcc => ?_) (fun i c hi hcc => ?_)⟩
      · obtain ⟨_, b', h2, h3⟩ := hx' i hi
        simp only [h2]
        exact h3
      · obtain rfl : c = 0 := by omega
        obtain ⟨h1, b', h2, _⟩ := hx' i hi
        rw [Addr.add_lit] at h1
        exact ⟨by simpa using h1, by rw [h2]; rfl⟩
      · obtain ⟨_, b', h2, _⟩ := hx' i hi
        simp only [h2]
        exact .f rfl
theorem read_pulseT {w : World} {t te : TypeId} {v : Value} {base L : Nat} {d : DataW H} {ps : List MemPlace} (h3 : fieldsOf P t = [(te, 0), (te, 1), (te, 2), (te, 3)]) (c3 : P.cellsOf t = 4) (he : P.underlying te = some (.float .f32)) (hc : P.cellsOf te = 1)
    (ho : Value.okWide P w .any base t v) (h : DataW.Trod enc P w 0 (fun _ => true) true t v d ps) :
    ∃ p q r s, P32T p q r s ∧ Sim w noMp 0 L (.agg [.f .f32 fun _ => p, .f .f32 fun _ => q, .f .f32 fun _ => r, .f .f32 fun _ => s]) v := by
  obtain ⟨us, rfl, hus⟩ : ∃ us, v = .agg us ∧ us.size = P.cellsOf t := by
    have hh := h3
    unfold fieldsOf at hh
    split at hh
    · rename_i fs hfs; exact okWide_struct hfs ho
    · cases hh
  obtain ⟨fuel, hfu⟩ := h
  obtain ⟨us⟩ := us
  have hlen : us.length = 4 := by rw [c3] at hus; simpa using hus
  match us, hlen with
  | [a0, a1, a2, a3], _ =>
    obtain ⟨_, n3, g3⟩ := trod_fields h3 (by simp) hfu
    obtain ⟨q0, k0⟩ := g3 0 _ _ rfl
    obtain ⟨q1, k1⟩ := g3 1 _ _ rfl
    obtain ⟨q2, k2⟩ := g3 2 _ _ rfl
    obtain ⟨q3, k3⟩ := g3 3 _ _ rfl
    simp only [hc, Value.cells] at k0 k1 k2 k3
    obtain ⟨b2, rfl, l2⟩ := read_f32T he k0
    obtain ⟨b3, rfl, l3⟩ := read_f32T he k1
    obtain ⟨b4, rfl, l4⟩ := read_f32T he k2
    obtain ⟨b5, rfl, l5⟩ := read_f32T he k3
    refine ⟨canon .f32 b2, canon .f32 b3, canon .f32 b4, canon .f32 b5, ⟨l2, l3, l4, l5⟩, .agg rfl fun j a u ha hu => ?_⟩
    match j, ha, hu with
    | 0, ha, hu => cases ha; cases hu; exact .f rfl
    | 1, ha, hu => cases ha; cases hu; exact .f rfl
    | 2, ha, hu => cases ha; cases hu; exact .f rfl
    | 3, ha, hu => cases ha; cases hu; exact .f rfl
theorem read_stepsT {w : World} {t tf te : TypeId} {v : Value} {base : Nat} {d : DataW H} {ps : List MemPlace} (h2 : fieldsOf P t = [(tf, 0), (tf, 1)]) (c2 : P.cellsOf t = 2) (c4 : P.cellsOf tf = 1) (hf : P.underlying tf = some (.slice te)) (he : P.underlying te = some (.float .f32)) (hc : P.cellsOf te = 1)
    (ho : Value.okWide P w .any base t v) (h : DataW.Trod enc P w 0 (fun _ => true) true t v d ps) :
    ∃ n x m y, n ≤ 9223372036854775807 ∧ m ≤ 9223372036854775807 ∧ W32T n x ∧ W32T m y ∧ Sim w noMp 0 w.heap.size (.agg [listF false (fun _ => n) x, listF false (fun _ => m) y]) v := by
  obtain ⟨us, rfl, hus⟩ : ∃ us, v = .agg us ∧ us.size = P.cellsOf t := by
    have hh := h2
    unfold fieldsOf at hh
    split at hh
    · rename_i fs hfs; exact okWide_struct hfs ho
    · cases hh
  obtain ⟨fuel, hfu⟩ := h
  obtain ⟨us⟩ := us
  have hlen : us.length = 2 := by rw [c2] at hus; simpa using hus
  match us, hlen with
  | [a0, a1], _ =>
    obtain ⟨_, n2, g2⟩ := trod_fields h2 (by simp) hfu
    obtain ⟨z0, f0⟩ := g2 0 _ _ rfl
    obtain ⟨z1, f1⟩ := g2 1 _ _ rfl
    simp only [c4, Value.cells] at f0 f1
    obtain ⟨n, x, hn, w1, s0⟩ := floats_cellT hf he hc f0
    obtain ⟨m, y, hm, w2, s1⟩ := floats_cellT hf he hc f1
    refine ⟨n, x, m, y, hn, hm, w1, w2, .agg rfl fun j a u ha hu => ?_⟩
    match j, ha, hu with
    | 0, ha, hu => cases ha; cases hu; exact s0
    | 1, ha, hu => cases ha; cases hu; exact s1
end
end Go.Proofs.YtjlkflceicdcdaaDoor
