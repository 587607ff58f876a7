/- What an argument of bytes is: its length and its bytes. -/
import Derived.Test.YtfdmmbcjidkmoaaLr
import Derived.Test.YtfdmmbcjidkmoaaUk
set_option linter.unusedSimpArgs false
set_option linter.unusedVariables false
namespace Go.Proofs.Ytfdmmbcjidkmoaa
open Go.Aw
section
open Go.ChangeShapes Go.WideShapes Go.RowKit
variable {H : Type} {enc : TypeId × Value → H} {P : Program}
theorem read_u8 {w : World} {t : TypeId} {v : Value} {fuel : Nat} {x : DataW H × List MemPlace} (ht : P.underlying t = some (.int .u8)) (h : DataW.trod enc P w 0 (fun _ => true) true fuel t [v] = some x) : ∃ b : Int, v = .int .u8 b ∧ 0 ≤ b ∧ b < 256 := by
  cases fuel with
  | zero => simp [DataW.trod] at h
  | succ fuel =>
    cases v <;> simp [DataW.trod, ht] at h
    rename_i k b
    obtain ⟨⟨h1, h2⟩, _⟩ := h
    subst h1
    refine ⟨b, rfl, ?_⟩
    have h3 : IntKind.u8.min ≤ b ∧ b ≤ IntKind.u8.max := by simpa [Lit.wf, IntKind.wrap] using h2
    have e1 : IntKind.u8.min = 0 := by decide
    have e2 : IntKind.u8.max = 255 := by decide
    omega
theorem read_bytes {w : World} {t e : TypeId} {v : Value} {base : Nat} {d : DataW H} {ps : List MemPlace} (ht : P.underlying t = some (.slice e)) (he : P.underlying e = some (.int .u8)) (hc : P.cellsOf e = 1) (ho : Value.okWide P w .any base t v)
    (h : DataW.Trod enc P w 0 (fun _ => true) true t v d ps) : ∃ (n : Nat) (x : Nat → Int), (∀ k, k < n → 0 ≤ x k ∧ x k < 256) ∧ Sim w noMp 0 w.heap.size (listB (fun _ => n) x) v := by
  obtain ⟨a0, len, cap, rfl⟩ := okWide_slice ht ho
  obtain ⟨fuel, hf⟩ := h
  rcases Deep.open_slice1 ht hc hf with ⟨hcs, _⟩ | ⟨a, len', cap', m, k, V, D, Pl, hcs, _, hl, hmx, hm, _, hx⟩
  · simp [Value.cells] at hcs
    obtain ⟨rfl, rfl, rfl⟩ := hcs
    exact ⟨0, fun _ => 0, fun k hk => absurd hk (Nat.not_lt_zero _), .ro0 rfl⟩
  · simp [Value.cells] at hcs
    obtain ⟨rfl, rfl, rfl⟩ := hcs
    simp only [if_true] at hm
    have hx' : ∀ i, i < len → w.cell? (a.add i) = some (V i) ∧ ∃ b : Int, V i = .int .u8 b ∧ 0 ≤ b ∧ b < 256 := fun i hi => ⟨(hx i (by omega)).1, read_u8 he (hx i (by omega)).2⟩
    rcases Nat.eq_zero_or_pos len with h0 | h0
    · subst h0
      exact ⟨0, fun _ => 0, fun k hk => absurd hk (Nat.not_lt_zero _), .ro0 rfl⟩
    · obtain ⟨b, off, spot⟩ := a
      have hspot : spot = none := by simpa [Addr.add] using World.cell?_spot (hx' 0 h0).1
      subst hspot
      have hblk : b < w.heap.size := by
        have := (hx' 0 h0).1
        rw [Addr.add_lit] at this
        rcases Nat.lt_or_ge b w.heap.size with h' | h'
        · exact h'
        · simp [World.cell?, Array.getElem?_eq_none h'] at this
      refine ⟨len, fun i => match V i with
        | .int _ b => b
        | _ => 0, fun i hi => ?_, .ro (fun i _ => V i) hl ⟨hblk, fun id h => (by cases h), fun h => (by cases h), fun _ => hblk⟩ (fun i c hi hcc => ?_) (fun i c hi hcc => ?_)⟩
      · obtain ⟨_, b', h2, h3⟩ := hx' i hi
        simp only [h2]
        exact h3
      · obtain rfl : c = 0 := by omega
        obtain ⟨h1, b', h2, _⟩ := hx' i hi
        rw [Addr.add_lit] at h1
        exact ⟨by simpa using h1, by rw [h2]; rfl⟩
      · obtain ⟨_, b', h2, _⟩ := hx' i hi
        simp only [h2]
        exact .i
end
theorem uBs : Try.prog.underlying 22 = some (.slice 5) := by kernel_rfl
theorem uBy : Try.prog.underlying 5 = some (.int .u8) := by kernel_rfl
theorem cBy : Try.prog.cellsOf 5 = 1 := by kernel_rfl
end Go.Proofs.Ytfdmmbcjidkmoaa
