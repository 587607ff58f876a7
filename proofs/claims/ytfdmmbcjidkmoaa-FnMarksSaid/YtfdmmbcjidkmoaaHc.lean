/- The laws' own helpers for steps, pulses and desks: comparisons, marks, readings of marks. -/
import Derived.Test.YtfdmmbcjidkmoaaHb
set_option linter.unusedSimpArgs false
set_option linter.unusedVariables false
namespace Go.Proofs.Ytfdmmbcjidkmoaa
open Go.Aw
theorem Sub.aggL {l l' : List AV} (h : AllSub l l') : Sub (.agg l) (.agg l') := by
  intro w ρ N L v hs
  cases hs with
  | agg h1 h2 =>
    refine .agg (h.len.symm.trans h1) fun j a u ha hu => ?_
    obtain ⟨b, hb, hsub⟩ := h.get j a ha
    exact hsub _ _ _ _ _ (h2 j b u hb hu)
def kEqSteps : Kr
  | [.agg [a, b], .agg [c, d]] => match asL a, asL b, asL c, asL d with
    | some (n, g), some (m, h), some (n', g'), some (m', h') => some (.b fun _ => eqL (n .u) (rdF g) (n' .u) (rdF g') && eqL (m .u) (rdF h) (m' .u) (rdF h'), [], fun _ => IsF n g ∧ IsF m h ∧ IsF n' g' ∧ IsF m' h')
    | _, _, _, _ => none
  | _ => none
def same32 (a b : Nat) : Bool := same64 (f2f .f32 a .f64) (f2f .f32 b .f64)
theorem same32_self (a : Nat) : same32 a a = true := same64_self _
def kEqPulse : Kr
  | [.agg [.f .f32 a, .f .f32 b, .f .f32 c, .f .f32 d], .agg [.f .f32 a', .f .f32 b', .f .f32 c', .f .f32 d']] => some (.b fun _ => same32 (a .u) (a' .u) && (same32 (b .u) (b' .u) && (same32 (c .u) (c' .u) && same32 (d .u) (d' .u))), [], fun _ => True)
  | _ => none
def kEqDesk : Kr
  | [.agg [a, b, .f .f32 p, .f .f32 q, .f .f32 r, .f .f32 s, c], .agg [a', b', .f .f32 p', .f .f32 q', .f .f32 r', .f .f32 s', c']] => match asL a, asL b, asL c, asL a', asL b', asL c' with
    | some (n, g), some (m, h), some (l, k), some (n', g'), some (m', h'), some (l', k') => some (.b fun _ => (eqL (n .u) (rdF g) (n' .u) (rdF g') && eqL (m .u) (rdF h) (m' .u) (rdF h')) && ((same32 (p .u) (p' .u) && (same32 (q .u) (q' .u) && (same32 (r .u) (r' .u) && same32 (s .u) (s' .u)))) && eqL (l .u) (rdF k) (l' .u) (rdF k')), [], fun _ => (IsF n g ∧ IsF m h ∧ IsF l k) ∧ (IsF n' g' ∧ IsF m' h' ∧ IsF l' k'))
    | _, _, _, _, _, _ => none
  | _ => none
/-! Marks. -/
def heldSteps (n : Nat) (x : Nat → Nat) (m : Nat) (y : Nat → Nat) (k : Int) : Int := bif decide (heldL n x k < 0) then -1 else bif decide (heldL m y (heldL n x k) < 0) then -1 else heldL m y (heldL n x k)
theorem heldL_le (n : Nat) (x : Nat → Nat) (k : Int) : heldL n x k ≤ k + n ∨ heldL n x k < 0 := by
  unfold heldL
  cases allN (fun i => feq .f32 (x i) (itof .f32 (k + (i : Int)))) n
  · right; exact show (-1 : Int) < 0 by decide
  · left; exact Int.le_refl _
theorem AW.via {P : Program} {N0 : Nat} {c : Code} {Q : Exit → List AV → Heap → Prop} {env env' : List AV} {H H' : Heap} (h : To N0 env H env' H') (hw : AW P N0 c Q env' H') : AW P N0 c Q env H := by
  obtain ⟨σ, h1, h2, h3, h4⟩ := h
  exact AW.to σ h1 h2 h3 h4 hw
theorem isF_to {H H' : Heap} {σ : List Nat} {keep : Bool} {n : Th Nat} {g : Th Nat → Nat → AV} (h : IsF n g) {j : Nat} (hj : j < n .u) : AvTo H H' σ keep (g (fun _ => j) 0) (.f .f32 fun _ => rdF g j) := by
  obtain ⟨y, hy⟩ := h.2 j hj
  simp only [hy]
  exact AvTo.f (by simp [rdF, fOf, hy])
theorem ownTo {H H' : Heap} {σ : List Nat} {keep : Bool} {j id : Nat} {i n m : Th Nat} (hl : live H' j = true) (hj : σ[j]? = some id) (hi : i .u = 0) (hn : n .u = m .u) : AvTo H H' σ keep (.own id i n 1) (.own j (fun _ => 0) m 1) := .own hl hj hi hn
def kHeldSteps : Kr
  | [.agg [a, b], .i .i64 k] => match asL a, asL b with
    | some (n, g), some (m, h) => some (.i .i64 fun _ => heldSteps (n .u) (rdF g) (m .u) (rdF h) (k .u), [], fun _ => (IsF n g ∧ n .u ≤ 1048576) ∧ (IsF m h ∧ m .u ≤ 1048576) ∧ 0 ≤ k .u ∧ k .u ≤ 1099509530624)
    | _, _ => none
  | _ => none
def markX (k : Int) (i : Nat) : Nat := itof .f32 (k + (i : Int))
theorem Sub.own1 {id : Nat} {i n m : Th Nat} (hi : i .u = 0) (hn : n .u = m .u) : Sub (.own id i n 1) (.own id (fun _ => 0) m 1) := fun w ρ N L v h => by
  cases h with | own hid hv => rw [hi, hn] at hv; exact .own hid hv
def kMarkSteps : Kg
  | [.agg [.own 0 i n 1, .own 1 j m 1], .i .i64 k], [some (_, .tab n' 1 g), some (_, .tab m' 1 h)] => some (.one (.i .i64 fun _ => k .u + (n' .u : Int) + (m' .u : Int)) [blkF false n' (markX (k .u)), blkF false m' (markX (k .u + (n' .u : Int)))] fun _ => (IsF n' g ∧ i .u = 0 ∧ n .u = n' .u ∧ n' .u ≤ 1048576) ∧ (IsF m' h ∧ j .u = 0 ∧ m .u = m' .u ∧ m' .u ≤ 1048576) ∧ 0 ≤ k .u ∧ k .u ≤ 1099509530624)
  | _, _ => none
def kMarkDesk : Kg
  | [.agg [.own 0 i n 1, .own 1 j m 1, .f .f32 a, .f .f32 b, .f .f32 c, .f .f32 d, .own 2 q l 1], .i .i64 k], [some (_, .tab n' 1 g), some (_, .tab m' 1 h), some (_, .tab l' 1 f)] => some (.one (.i .i64 fun _ => k .u + (n' .u : Int) + (m' .u : Int) + (l' .u : Int)) [blkF false n' (markX (k .u)), blkF false m' (markX (k .u + (n' .u : Int))), blkF false l' (markX (k .u + (n' .u : Int) + (m' .u : Int)))] fun _ => (IsF n' g ∧ i .u = 0 ∧ n .u = n' .u ∧ n' .u ≤ 1048576) ∧ (IsF m' h ∧ j .u = 0 ∧ m .u = m' .u ∧ m' .u ≤ 1048576) ∧ (IsF l' f ∧ q .u = 0 ∧ l .u = l' .u ∧ l' .u ≤ 1048576) ∧ 0 ≤ k .u ∧ k .u ≤ 1099507433472)
  | _, _ => none
def heldDesk (n : Nat) (x : Nat → Nat) (m : Nat) (y : Nat → Nat) (l : Nat) (z : Nat → Nat) (k : Int) : Int := bif decide (heldSteps n x m y k < 0) then -1 else bif decide (heldL l z (heldSteps n x m y k) < 0) then -1 else heldL l z (heldSteps n x m y k)
theorem heldSteps_le (n : Nat) (x : Nat → Nat) (m : Nat) (y : Nat → Nat) (k : Int) : heldSteps n x m y k ≤ k + n + m ∨ heldSteps n x m y k < 0 := by
  unfold heldSteps
  cases e : decide (heldL n x k < 0)
  · cases e' : decide (heldL m y (heldL n x k) < 0)
    · left
      have e1 := of_decide_eq_false e
      have e2 := of_decide_eq_false e'
      have h1 := heldL_le n x k
      have h2 := heldL_le m y (heldL n x k)
      simp only [cond_false]
      omega
    · right; exact show (-1 : Int) < 0 by decide
  · right; exact show (-1 : Int) < 0 by decide
def kHeldDesk : Kr
  | [.agg [a, b, .f .f32 _, .f .f32 _, .f .f32 _, .f .f32 _, c], .i .i64 k] => match asL a, asL b, asL c with
    | some (n, g), some (m, h), some (l, f) => some (.i .i64 fun _ => heldDesk (n .u) (rdF g) (m .u) (rdF h) (l .u) (rdF f) (k .u), [], fun _ => (IsF n g ∧ n .u ≤ 1048576) ∧ (IsF m h ∧ m .u ≤ 1048576) ∧ (IsF l f ∧ l .u ≤ 1048576) ∧ 0 ≤ k .u ∧ k .u ≤ 1099507433472)
    | _, _, _ => none
  | _ => none
end Go.Proofs.Ytfdmmbcjidkmoaa
