/- Arguments that are structs: desks. -/
import Derived.Test.YtjlkflceicdcdaaDoorHh
import Derived.Test.YtjlkflceicdcdaaDoorLr
set_option linter.unusedSimpArgs false
set_option linter.unusedVariables false
namespace Go.Proofs.YtjlkflceicdcdaaDoor
open Go.Aw Go.ChangeShapes Go.WideShapes Go.RowKit
section
variable {H : Type} {enc : TypeId × Value → H} {P : Program}
def fieldsOf (P : Program) (t : TypeId) : List (TypeId × Nat) := match P.underlying t with
  | some (.struct fs) => fs.toList.map fun f => (f.type, f.offset)
  | _ => []
theorem trod_fields {w : World} {t : TypeId} {L : List (TypeId × Nat)} (hL : fieldsOf P t = L) (hne : L ≠ []) {fuel : Nat} {cs : List Value} {x : DataW H × List MemPlace} (h : DataW.trod enc P w 0 (fun _ => true) true fuel t cs = some x) :
    cs.length = P.cellsOf t ∧ ∃ n, ∀ (i : Nat) (ty : TypeId) (off : Nat), L[i]? = some (ty, off) → ∃ y, DataW.trod enc P w 0 (fun _ => true) true n ty ((cs.drop off).take (P.cellsOf ty)) = some y := by
  unfold fieldsOf at hL
  split at hL
  · rename_i fs hfs
    obtain ⟨xs, n, _, _, hl, hlen, hf⟩ := DataW.trod_struct hfs h
    refine ⟨hl, n, fun i ty off hi => ?_⟩
    rw [← hL, List.getElem?_map] at hi
    cases hg : fs.toList[i]? with
    | none => rw [hg] at hi; cases hi
    | some f =>
      rw [hg] at hi
      cases hi
      have hi' : i < xs.length := by rw [hlen]; have := (List.getElem?_eq_some_iff.1 hg).1; simpa using this
      refine ⟨xs[i], ?_⟩
      rw [hf i f (by simpa using hg), List.getElem?_eq_getElem hi']
  · exact absurd hL.symm hne
theorem floats_cell {w : World} {t e : TypeId} {c : Value} {fuel : Nat} {x : DataW H × List MemPlace} (ht : P.underlying t = some (.slice e)) (he : P.underlying e = some (.float .f32)) (hc : P.cellsOf e = 1)
    (hf : DataW.trod enc P w 0 (fun _ => true) true fuel t [c] = some x) : ∃ (n : Nat) (x : Nat → Nat), n ≤ 9223372036854775807 ∧ Sim w noMp 0 w.heap.size (.ro false (fun _ => n) 1 fun i _ => .f .f32 fun _ => x (i .u)) c := by
  rcases Deep.open_slice1 ht hc hf with ⟨hcs, _⟩ | ⟨a, len', cap', m, k, V, D, Pl, hcs, _, hl, hmx, hm, _, hx⟩
  · simp only [List.cons.injEq, and_true] at hcs
    subst hcs
    exact ⟨0, fun _ => 0, by omega, .ro0 rfl⟩
  · simp only [List.cons.injEq, and_true] at hcs
    subst hcs
    simp only [if_true] at hm
    have hx' : ∀ i, i < len' → w.cell? (a.add i) = some (V i) ∧ ∃ b, V i = .float .f32 b := fun i hi => ⟨(hx i (by omega)).1, read_f32 he (hx i (by omega)).2⟩
    have hmax : len' ≤ 9223372036854775807 := by unfold maxLen at hmx; omega
    rcases Nat.eq_zero_or_pos len' with h0 | h0
    · subst h0
      exact ⟨0, fun _ => 0, by omega, .ro0 rfl⟩
    · obtain ⟨b, off, spot⟩ := a
      have hspot : spot = none := by simpa [Addr.add] using World.cell?_spot (hx' 0 h0).1
      subst hspot
      have hblk : b < w.heap.size := by
        have := (hx' 0 h0).1
        rw [Addr.add_lit] at this
        rcases Nat.lt_or_ge b w.heap.size with h' | h'
        · exact h'
        · simp [World.cell?, Array.getElem?_eq_none h'] at this
      refine ⟨len', fun i => match V i with
        | .float _ b => canon .f32 b
        | _ => 0, hmax, .ro (fun i _ => V i) hl ⟨hblk, fun id h => (by cases h), fun h => (by cases h), fun _ => hblk⟩ (fun i c hi hcc => ?_) (fun i c hi hcc => ?_)⟩
      · obtain rfl : c = 0 := by omega
        obtain ⟨h1, b', h2⟩ := hx' i hi
        rw [Addr.add_lit] at h1
        exact ⟨by simpa using h1, by rw [h2]; rfl⟩
      · obtain ⟨_, b', h2⟩ := hx' i hi
        simp only [h2]
        exact .f rfl
/-- A desk that is read. -/
abbrev deskA (n : Nat) (x : Nat → Nat) (m : Nat) (y : Nat → Nat) (p q r s : Nat) (k : Nat) (z : Nat → Nat) : AV := .agg [listF false (fun _ => n) x, listF false (fun _ => m) y, .f .f32 fun _ => p, .f .f32 fun _ => q, .f .f32 fun _ => r, .f .f32 fun _ => s, listF false (fun _ => k) z]
theorem read_desk {w : World} {t ts tp tf te : TypeId} {v : Value} {base : Nat} {d : DataW H} {ps : List MemPlace} (h1 : fieldsOf P t = [(ts, 0), (tp, 2), (tf, 6)]) (h2 : fieldsOf P ts = [(tf, 0), (tf, 1)]) (h3 : fieldsOf P tp = [(te, 0), (te, 1), (te, 2), (te, 3)])
    (c1 : P.cellsOf t = 7) (c2 : P.cellsOf ts = 2) (c3 : P.cellsOf tp = 4) (c4 : P.cellsOf tf = 1) (hf : P.underlying tf = some (.slice te)) (he : P.underlying te = some (.float .f32)) (hc : P.cellsOf te = 1)
    (ho : Value.okWide P w .any base t v) (h : DataW.Trod enc P w 0 (fun _ => true) true t v d ps) :
    ∃ n x m y p q r s k z, n ≤ 9223372036854775807 ∧ m ≤ 9223372036854775807 ∧ k ≤ 9223372036854775807 ∧ Sim w noMp 0 w.heap.size (deskA n x m y p q r s k z) v := by
  obtain ⟨us, rfl, hus⟩ : ∃ us, v = .agg us ∧ us.size = P.cellsOf t := by
    have hh := h1
    unfold fieldsOf at hh
    split at hh
    · rename_i fs hfs; exact okWide_struct hfs ho
    · cases hh
  obtain ⟨fuel, hfu⟩ := h
  obtain ⟨us⟩ := us
  have hlen : us.length = 7 := by rw [c1] at hus; simpa using hus
  match us, hlen with
  | [a0, a1, a2, a3, a4, a5, a6], _ =>
    obtain ⟨_, n1, g1⟩ := trod_fields h1 (by simp) hfu
    obtain ⟨y0, e0⟩ := g1 0 _ _ rfl
    obtain ⟨y1, e1⟩ := g1 1 _ _ rfl
    obtain ⟨y2, e2⟩ := g1 2 _ _ rfl
    obtain ⟨_, n2, g2⟩ := trod_fields h2 (by simp) e0
    obtain ⟨_, n3, g3⟩ := trod_fields h3 (by simp) e1
    obtain ⟨z0, f0⟩ := g2 0 _ _ rfl
    obtain ⟨z1, f1⟩ := g2 1 _ _ rfl
    obtain ⟨q0, k0⟩ := g3 0 _ _ rfl
    obtain ⟨q1, k1⟩ := g3 1 _ _ rfl
    obtain ⟨q2, k2⟩ := g3 2 _ _ rfl
    obtain ⟨q3, k3⟩ := g3 3 _ _ rfl
    simp only [c2, c3, c4, hc, Value.cells] at e2 f0 f1 k0 k1 k2 k3
    obtain ⟨n, x, hn, s0⟩ := floats_cell hf he hc f0
    obtain ⟨m, y, hm, s1⟩ := floats_cell hf he hc f1
    obtain ⟨k, z, hk, s6⟩ := floats_cell hf he hc e2
    obtain ⟨b2, rfl⟩ := read_f32 he k0
    obtain ⟨b3, rfl⟩ := read_f32 he k1
    obtain ⟨b4, rfl⟩ := read_f32 he k2
    obtain ⟨b5, rfl⟩ := read_f32 he k3
    refine ⟨n, x, m, y, canon .f32 b2, canon .f32 b3, canon .f32 b4, canon .f32 b5, k, z, hn, hm, hk, .agg rfl fun j a u ha hu => ?_⟩
    match j, ha, hu with
    | 0, ha, hu => cases ha; cases hu; exact s0
    | 1, ha, hu => cases ha; cases hu; exact s1
    | 2, ha, hu => cases ha; cases hu; exact .f rfl
    | 3, ha, hu => cases ha; cases hu; exact .f rfl
    | 4, ha, hu => cases ha; cases hu; exact .f rfl
    | 5, ha, hu => cases ha; cases hu; exact .f rfl
    | 6, ha, hu => cases ha; cases hu; exact s6
end
theorem dk2 : fieldsOf Tryd.prog 43 = [(41, 0), (41, 1)] := by kernel_rfl
theorem dk3 : fieldsOf Tryd.prog 36 = [(34, 0), (34, 1), (34, 2), (34, 3)] := by kernel_rfl
theorem dc2 : Tryd.prog.cellsOf 43 = 2 := by kernel_rfl
theorem dc3 : Tryd.prog.cellsOf 36 = 4 := by kernel_rfl
end Go.Proofs.YtjlkflceicdcdaaDoor
