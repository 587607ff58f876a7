/- The law FnSmoothed answers yes for all bytes; no condition. -/
import Derived.Test.YthfgigndipjbjaaVp
import Derived.Test.YthfgigndipjbjaaBt
import Derived.Test.YthfgigndipjbjaaRows
set_option linter.unusedSimpArgs false
set_option linter.unusedVariables false
namespace Go.Proofs.Ythfgigndipjbjaa
open Go.Aw
theorem smooth_ok {n1 n2 : Nat} {b1 b2 : Nat → Int} (hb1 : ∀ k, k < n1 → 0 ≤ b1 k ∧ b1 k < 256) (hb2 : ∀ k, k < n2 → 0 ≤ b2 k ∧ b2 k < 256) : Smooth (5 + atV n2 b2 0 16).toNat (listS n1 b1) (atV n2 b2 1 5 - 2) := by
  have hA := atV_in hb2 (i := 0) (n := 16) (by decide) (by decide)
  have hB := atV_in hb2 (i := 1) (n := 5) (by decide) (by decide)
  obtain ⟨N, hN⟩ : ∃ N : Nat, (5 + atV n2 b2 0 16).toNat = N := ⟨_, rfl⟩
  rw [hN]
  have h5 : 5 ≤ N := by omega
  have h20 : N ≤ 20 := by omega
  generalize hd : atV n2 b2 1 5 - 2 = d
  have d0 : -2 ≤ d := by omega
  have d1 : d ≤ 2 := by omega
  obtain ⟨k, hk, hx⟩ := listS_quarters hb1
  obtain ⟨e1, e2, e3, e4, e5⟩ := base_all hk hx h5 h20
  obtain ⟨f1, f2⟩ := norm_all hk hx h5 h20
  obtain ⟨g1, g2⟩ := scaled_all hk hx h5 h20
  obtain ⟨i1, i2, i3⟩ := shift_at h5 h20 d0 d1
  obtain ⟨j1, j2⟩ := line_at h5 h20
  exact {
    n5 := h5, n20 := h20, d0 := d0, d1 := d1
    curve := j1
    mean0 := mean_ok0 hk hx h5 h20
    meanN := mean_okN hk hx h5 h20
    base := e1, less := e2
    norm := f1
    scaled := g1
    word := fun i _ => by rw [hx]; exact (quar_at (hk.lo i) (hk.hi i)).2.1
    wordB := e3
    means := fun i hi => mean0_at hk hx hi
    c1 := fun i hi => c1_at h5 h20 hi
    c2 := e4
    c3 := e5
    c4 := fun i hi => c4_at hk hx h5 h20 hi
    shift := i1, moved := i2, best := i3
    at1 := at1_ok hk hx h5 h20
    same := fun i hi => same_at hk hx h5 h20 hi
    at2 := j2
    sq := f2
    most := g2
    c5 := fun i hi => c5_at h5 h20 hi }
theorem law_Smoothed (n1 n2 : Nat) (b1 b2 : Nat → Int) (hb1 : ∀ k, k < n1 → 0 ≤ b1 k ∧ b1 k < 256) (hb2 : ∀ k, k < n2 → 0 ≤ b2 k ∧ b2 k < 256) :
    Con Try.prog 3 [listB (fun _ => n1) b1, listB (fun _ => n2) b2] [] (.b fun _ => true) [] := by
  by_cases hb : (1048576 : Int) < (n1 : Int)
  · exact law_SmoothedA n1 n2 b1 b2 hb1 hb2 (.inl hb)
  by_cases hc : (1048576 : Int) < (n2 : Int)
  · exact law_SmoothedA n1 n2 b1 b2 hb1 hb2 (.inr hc)
  exact law_SmoothedB n1 n2 b1 b2 hb1 hb2 hb hc (smooth_ok hb1 hb2)
set_option maxRecDepth 100000 in
open Go.ChangeShapes in
theorem lifted_Smoothed (os : Os) (started : os.Started) (H : Type) (enc : TypeId × Value → H) :
    ReturnsInHanded {} Try.checked os 3 .any (Rows.fnSmoothedSpec.pre6 enc Try.prog Try.f3 Rows.fnSmoothedRow.domain false) (Rows.fnSmoothedSpec.post enc Try.prog Try.f3 Rows.fnSmoothedRow.apart Rows.fnSmoothedRow.fresh Rows.fnSmoothedRow.handsOn Rows.fnSmoothedRow.again) := by
  refine lifted (C := Try.checked) Try.own started (by kernel_rfl) Try.func3
    (ChangeSpec.witness6 (enc := enc) (C := Try.checked) false ⟨#[], #[.slice none 0 0, .slice none 0 0], []⟩ 8 (by kernel_rfl) (by kernel_rfl) (by kernel_rfl) (by kernel_rfl))
    Try.laidOut Try.mapsOut Try.full (of_decide_eq_true (by kernel_rfl)) (tb := 4) (by kernel_rfl) uB rfl (fun ds h => ?_) (fun W base args ds ps hval hA => ?_)
  · match ds, h with
    | [d1, d2], _ => exact ⟨rfl, rfl, rfl⟩
  · have hpar : Try.f3.params = #[22, 22] := by kernel_rfl
    rw [hpar] at hA hval
    obtain ⟨v1, v2, d1, d2, p1, p2, rfl, rfl, rfl, t1, t2⟩ := trodAll_two hA
    obtain ⟨n1, b1, hb1, s1⟩ := read_bytes uBs uBy cBy (hval 0 _ v1 rfl rfl) t1
    obtain ⟨n2, b2, hb2, s2⟩ := read_bytes uBs uBy cBy (hval 1 _ v2 rfl rfl) t2
    refine ⟨[listB (fun _ => n1) b1, listB (fun _ => n2) b2], rfl, fun j a u ha hu => ?_, law_Smoothed n1 n2 b1 b2 hb1 hb2⟩
    match j, ha, hu with
    | 0, ha, hu => cases ha; cases hu; exact s1
    | 1, ha, hu => cases ha; cases hu; exact s2
theorem FnSmoothed_said : Rows.FnSmoothedSaid :=
  OpenClaim.holds_of_wide 3 Try.f3 rfl rfl rfl rfl rfl rfl rfl ⟨rfl, rfl, rfl, rfl, rfl⟩ rfl rfl rfl rfl rfl (by kernel_rfl) Try.func3 (by kernel_rfl)
    (of_decide_eq_true (by kernel_rfl)) (by unfold Func.isWrapper; rw [if_neg (of_decide_eq_false (by kernel_rfl))]; exact ⟨rfl, rfl⟩)
    (fun os started H enc _ => lifted_Smoothed os started H enc)
end Go.Proofs.Ythfgigndipjbjaa
