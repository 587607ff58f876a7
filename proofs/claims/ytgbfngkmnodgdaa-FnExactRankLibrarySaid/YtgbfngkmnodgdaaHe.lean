/- The mean of spectra on both sides. -/
import Derived.Test.YtgbfngkmnodgdaaHd
set_option linter.unusedSimpArgs false
set_option linter.unusedVariables false
namespace Go.Proofs.Ytgbfngkmnodgdaa
open Go.Aw
/-! Lists of lists, as a function by cases sees them. -/
def asLLg : AV → Option (Th Nat × (Th Nat → Nat → AV))
  | .ro false n 1 g => some (n, g)
  | .v (.slice none 0 0) => some (fun _ => 0, fun _ _ => .dead)
  | _ => none
theorem asLg_asL {a : AV} {p : Th Nat × (Th Nat → Nat → AV)} (h : asLg a = some p) : asL a = some p := by
  unfold asLg at h
  split at h <;> first | (cases h; done) | skip
  · exact h
  · exact h
def IsFFg (n : Th Nat) (g : Th Nat → Nat → AV) : Prop := n .u ≤ 9223372036854775807 ∧ ∀ i, i < n .u → ∃ k h, asLg (g (fun _ => i) 0) = some (k, h) ∧ IsF k h
theorem IsFFg.row {n : Th Nat} {g : Th Nat → Nat → AV} (h : IsFFg n g) {i : Nat} (hi : i < n .u) : rowN g i ≤ 9223372036854775807 := by
  obtain ⟨k, h', hk, hkF⟩ := h.2 i hi
  simp only [rowN, asLg_asL hk]
  exact hkF.1
theorem isFFg_ll {n : Th Nat} {k : Th Nat → Nat → Th Nat} {x : Th Nat → Nat → Th Nat → Nat → Th Nat} : IsFFg n (fun i c => .ro false (k i c) 1 fun j c' => .f .f32 (x i c j c')) ↔ n .u ≤ 9223372036854775807 ∧ ∀ i, i < n .u → (k (fun _ => i) 0) .u ≤ 9223372036854775807 :=
  ⟨fun h => ⟨h.1, fun i hi => by
    obtain ⟨k', h', hk, hkF⟩ := h.2 i hi
    simp only [asLg, Option.some.injEq, Prod.mk.injEq] at hk
    obtain ⟨rfl, rfl⟩ := hk
    exact hkF.1⟩, fun h => ⟨h.1, fun i hi => ⟨_, _, rfl, h.2 i hi, fun j hj => ⟨_, rfl⟩⟩⟩⟩
theorem Sub.asLLg {a : AV} {n : Th Nat} {g : Th Nat → Nat → AV} (h : asLLg a = some (n, g)) (hF : IsFFg n g) : Sub a (listFF false n (rowN g) (rowX g)) := by
  unfold Go.Proofs.Ytgbfngkmnodgdaa.asLLg at h
  split at h <;> cases h
  · intro w ρ N L v hs
    cases hs with
    | ro0 h0 => exact .ro0 h0
    | ro u hn hq hc hsim =>
      refine .ro u hn hq hc fun i c hi hcc => ?_
      obtain rfl : c = 0 := by omega
      obtain ⟨k, h, hk, hkF⟩ := hF.2 i hi
      have := Sub.asLg hk hkF _ _ _ _ _ (hsim i 0 hi (by omega))
      have e1 : rowN g i = k .u := by simp only [rowN, asLg_asL hk]
      have e2 : rowX g i = rdF h := by simp only [rowX, asLg_asL hk]
      simp only [e1, e2]
      exact this
  · intro w ρ N L v hs
    cases hs.v_inv
    exact .ro0 rfl
theorem allN_at {q : Nat → Bool} {n : Nat} (h : allN q n = true) {i : Nat} (hi : i < n) : q i = true := by
  simp only [allN, List.all_eq_true, List.mem_range] at h
  exact h i hi
theorem areS_facts {n : Nat} {m : Nat → Nat} {x : Nat → Nat → Nat} (h : areS n m x = true) : 1 ≤ n ∧ n ≤ 8 ∧ 1 ≤ m 0 ∧ m 0 ≤ 128 ∧ ∀ i, i < n → m i = m 0 ∧ isList (m i) (x i) = true := by
  simp only [areS, Bool.and_eq_true, decide_eq_true_eq] at h
  obtain ⟨h1, h2, h3⟩ := h
  have h0 := two_eq (allN_at h1 (i := 0) (by omega))
  refine ⟨h2, h3, h0.2.2, h0.2.1, fun i hi => ⟨(two_eq (allN_at h1 hi)).1, ?_⟩⟩
  have := allN_at h1 hi
  simp only [isTwo, Bool.and_eq_true] at this
  exact this.1
def colN (x : Nat → Nat → Nat) (k : Nat) : Nat → Nat
  | 0 => 0
  | n + 1 => fadd .f32 (colN x k n) (x n k)
def meanX (n : Nat) (x : Nat → Nat → Nat) (k : Nat) : Nat := fdiv .f32 (colN x k n) (itof .f32 (n : Int))
def okMean (n : Nat) (m : Nat → Nat) (x : Nat → Nat → Nat) : Bool := areS n m x && finN (m 0) (meanX n x)
def kMean : Kg
  | [a], [] => match asLLg a with
    | some (n, g) => some (ansL (fun _ => rowN g 0) (meanX (n .u) (rowX g)) (okMean (n .u) (rowN g) (rowX g)) (IsFFg n g))
    | none => none
  | _, _ => none
def ctSpecMeanS : CT := [(36, .r kAre), (103, .g 1 kGive)]
theorem ctSpecMeanS_ok : CTok Try.prog ctSpecMeanS := .cons l07Spectra_tells (.cons give_g (.nil _))
def ctImplMeanS : CT := [(39, .r kAre), (106, .g 0 kOver)]
theorem ctImplMeanS_ok : CTok Try.prog ctImplMeanS := .cons implAre (.cons over_g (.nil _))
end Go.Proofs.Ytgbfngkmnodgdaa
