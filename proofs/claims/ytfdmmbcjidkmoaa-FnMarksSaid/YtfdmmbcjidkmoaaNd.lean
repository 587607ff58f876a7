/- The law FnMarks answers yes for all bytes; no condition. -/
import Derived.Test.YtfdmmbcjidkmoaaPn
import Derived.Test.YtfdmmbcjidkmoaaBt
import Derived.Test.YtfdmmbcjidkmoaaRows
set_option linter.unusedSimpArgs false
set_option linter.unusedVariables false
namespace Go.Proofs.Ytfdmmbcjidkmoaa
open Go.Aw
theorem marks_ok {n1 n2 : Nat} {b1 b2 : Nat → Int} (hb1 : ∀ k, k < n1 → 0 ≤ b1 k ∧ b1 k < 256) (hb2 : ∀ k, k < n2 → 0 ≤ b2 k ∧ b2 k < 256) :
    Marks (3 + at8 n2 b2 40 12).toNat (aboveX n1 b1) (quarP (at8 n2 b2 41 8)) (1 + at8 n2 b2 42 3).toNat (fdiv .f32 (itof .f32 (1 + at8 n2 b2 43 4)) 1073741824) (at8 n2 b2 44 4) (at8 n2 b2 45 4) (at8 n2 b2 46 6).toNat := by
  have hA := at8_in hb2 (i := 40) (n := 12) (by decide) (by decide)
  have hB := at8_in hb2 (i := 41) (n := 8) (by decide) (by decide)
  have hC := at8_in hb2 (i := 42) (n := 3) (by decide) (by decide)
  have hD := at8_in hb2 (i := 43) (n := 4) (by decide) (by decide)
  have hE := at8_in hb2 (i := 44) (n := 4) (by decide) (by decide)
  have hF := at8_in hb2 (i := 45) (n := 4) (by decide) (by decide)
  have hG := at8_in hb2 (i := 46) (n := 6) (by decide) (by decide)
  have hq := above_q hb1
  obtain ⟨N, hN⟩ : ∃ N : Nat, (3 + at8 n2 b2 40 12).toNat = N := ⟨_, rfl⟩
  obtain ⟨v, hv⟩ : ∃ v : Nat, (1 + at8 n2 b2 42 3).toNat = v := ⟨_, rfl⟩
  obtain ⟨R, hR⟩ : ∃ R : Nat, (at8 n2 b2 46 6).toNat = R := ⟨_, rfl⟩
  rw [hN, hv, hR]
  have h3 : 3 ≤ N := by omega
  have h14 : N ≤ 14 := by omega
  have hby := halfP_div (a := 1 + at8 n2 b2 43 4) (by omega)
  have hbar : V FloatKind.f32.format (quarP (at8 n2 b2 41 8)) ((at8 n2 b2 41 8 : Int) * pw (-2)) := quarP_div (by omega)
  have hbar0 : (0 : Rat) ≤ (at8 n2 b2 41 8 : Int) := int_le hB.1
  obtain ⟨e1, e2, e3⟩ := noise_all hq h3 h14
  obtain ⟨f1, f2, f3, f4, f5⟩ := stitch_all (v := v) hq hby (by omega) (by omega) (by omega) (by omega) (show v ≤ N by omega)
  obtain ⟨g1, g2, g3⟩ := spr_all (N := N) (by omega) (by omega) hq hE.1 (by omega) hF.1 (by omega)
  obtain ⟨i1, i2⟩ := sharp_ok (N := N) (R := R) (by omega) (by omega) hq hE.1 (by omega) hF.1 (by omega) (by omega)
  obtain ⟨j1, j2⟩ := two_all (N := N) (by omega) (by omega) hq
  obtain ⟨k1, k2⟩ := none_all (N := N) (by omega) (by omega) hq
  have hcos : okCosmic N (aboveX n1 b1) (quarP (at8 n2 b2 41 8)) = true := by
    unfold okCosmic
    rw [bins_q hq (l := 3) (by omega) (by omega), isFin_v hbar, flt_v hbar (V_null .f32), decide_eq_false (by rw [pw_m2]; grind)]
    rfl
  exact {
    n3 := h3, n14 := h14
    v1 := by omega
    v3 := by omega
    r5 := by omega
    cos := hcos
    cleanF := clean_fin hq
    bins := bins_q hq (l := 1) (by omega) (by omega)
    rot := rot_of fun i _ => ⟨_, hq.v i, by have := (pos_q hq i).1; grind⟩
    sumP := e1, noise := e2, ratio := e3
    self := fun i _ => by rw [feq_v (hq.v i) (hq.v i)]; exact decide_eq_true rfl
    half := fun i _ _ => half_gap hq i
    binsT := f1, stQF := f2, stF := f3, stE := f4, stI := f5
    spr := g1, two := j1, sharp := i1, none := k1
    c1 := g2, c2 := g3, c3 := j2, c4 := i2, c5 := k2 }
theorem law_Marks (n1 n2 : Nat) (b1 b2 : Nat → Int) (hb1 : ∀ k, k < n1 → 0 ≤ b1 k ∧ b1 k < 256) (hb2 : ∀ k, k < n2 → 0 ≤ b2 k ∧ b2 k < 256) :
    Con Try.prog 4 [listB (fun _ => n1) b1, listB (fun _ => n2) b2] [] (.b fun _ => true) [] := by
  by_cases hb : (48 : Int) < (n1 : Int)
  · exact law_MarksA n1 n2 b1 b2 (.inl hb)
  by_cases hc : (48 : Int) < (n2 : Int)
  · exact law_MarksA n1 n2 b1 b2 (.inr hc)
  exact law_MarksB n1 n2 b1 b2 hb1 hb2 hb hc (marks_ok hb1 hb2)
set_option maxRecDepth 100000 in
open Go.ChangeShapes in
theorem lifted_Marks (os : Os) (started : os.Started) (H : Type) (enc : TypeId × Value → H) :
    ReturnsInHanded {} Try.checked os 4 .any (Rows.fnMarksSpec.pre6 enc Try.prog Try.f4 Rows.fnMarksRow.domain false) (Rows.fnMarksSpec.post enc Try.prog Try.f4 Rows.fnMarksRow.apart Rows.fnMarksRow.fresh Rows.fnMarksRow.handsOn Rows.fnMarksRow.again) := by
  refine lifted (C := Try.checked) Try.own started (by kernel_rfl) Try.func4
    (ChangeSpec.witness6 (enc := enc) (C := Try.checked) false ⟨#[], #[.slice none 0 0, .slice none 0 0], []⟩ 8 (by kernel_rfl) (by kernel_rfl) (by kernel_rfl) (by kernel_rfl))
    Try.laidOut Try.mapsOut Try.full (of_decide_eq_true (by kernel_rfl)) (tb := 4) (by kernel_rfl) uB rfl (fun ds h => ?_) (fun W base args ds ps hval hA => ?_)
  · match ds, h with
    | [d1, d2], _ => exact ⟨rfl, rfl, rfl⟩
  · have hpar : Try.f4.params = #[22, 22] := by kernel_rfl
    rw [hpar] at hA hval
    obtain ⟨v1, v2, d1, d2, p1, p2, rfl, rfl, rfl, t1, t2⟩ := trodAll_two hA
    obtain ⟨n1, b1, hb1, s1⟩ := read_bytes uBs uBy cBy (hval 0 _ v1 rfl rfl) t1
    obtain ⟨n2, b2, hb2, s2⟩ := read_bytes uBs uBy cBy (hval 1 _ v2 rfl rfl) t2
    refine ⟨[listB (fun _ => n1) b1, listB (fun _ => n2) b2], rfl, fun j a u ha hu => ?_, law_Marks n1 n2 b1 b2 hb1 hb2⟩
    match j, ha, hu with
    | 0, ha, hu => cases ha; cases hu; exact s1
    | 1, ha, hu => cases ha; cases hu; exact s2
theorem FnMarks_said : Rows.FnMarksSaid :=
  OpenClaim.holds_of_wide 4 Try.f4 rfl rfl rfl rfl rfl rfl rfl ⟨rfl, rfl, rfl, rfl, rfl⟩ rfl rfl rfl rfl rfl (by kernel_rfl) Try.func4 (by kernel_rfl)
    (of_decide_eq_true (by kernel_rfl)) (by unfold Func.isWrapper; rw [if_neg (of_decide_eq_false (by kernel_rfl))]; exact ⟨rfl, rfl⟩)
    (fun os started H enc _ => lifted_Marks os started H enc)
end Go.Proofs.Ytfdmmbcjidkmoaa
