/- Lists at steps, on both sides. -/
import Derived.Test.YthfgigndipjbjaaHd
import Derived.Test.YthfgigndipjbjaaAwv
set_option linter.unusedSimpArgs false
set_option linter.unusedVariables false
namespace Go.Proofs.Ythfgigndipjbjaa
open Go.Aw
def kFloorX : Kx
  | [.f .f64 x] => some (.f .f64 fun _ => floorF (x .u), fun _ => isNaN .f64 (x .u) = false)
  | _ => none
theorem floorX_tells : Tells Try.prog 52 (.x kFloorX) := by
  intro args r p hr hp w ρ L H vals hR hl hs
  unfold kFloorX at hr
  split at hr <;> cases hr
  rename_i x
  obtain ⟨v, rfl⟩ : ∃ v, vals = #[v] := by
    obtain ⟨l⟩ := vals
    match l, hl with
    | [v], _ => exact ⟨v, rfl⟩
  obtain ⟨b, rfl, hb⟩ := (hs 0 _ v rfl rfl).f_inv
  have hrun := run_callFunc_extern (P := Try.prog) (e := Extern.MathFloor.toIntegral "math.archFloor" .down) Try.func52 (by kernel_rfl) (by kernel_rfl) (by kernel_rfl) (by kernel_rfl) #[.float .f64 b] w
  have hnb : isNaN .f64 b = false := by
    cases h : isNaN .f64 b with
    | false => rfl
    | true => rw [canon_nan h] at hb; rw [← hb, isNaN_nanOf] at hp; cases hp
  have hxb : b = x .u := by rw [canon_of_not hnb] at hb; exact hb
  subst hxb
  have e : Extern.MathFloor.toIntegral "math.archFloor" .down #[.float .f64 (x .u)] = pure (.float .f64 (floorF (x .u))) := by
    obtain ⟨F, hF⟩ : ∃ F : Bool → Nat → Sem Value, Extern.MathFloor.toIntegral "math.archFloor" .down #[.float .f64 (x .u)] = Extern.MathFloor.toIntegral.match_1 (fun _ => Sem Value) (FloatKind.f64.decode (x .u)) F (fun d => pure (.float .f64 (FloatKind.f64.encode (d.integral .down)))) := ⟨_, rfl⟩
    rw [hF]
    unfold floorF
    cases hd : FloatKind.f64.decode (x .u) with
    | nan s t => unfold isNaN at hnb; rw [hd] at hnb; cases hnb
    | infinity s => rfl
    | number s m e => rfl
  rw [e] at hrun
  have hnn : isNaN .f64 (floorF (x .u)) = false := by
    unfold floorF
    cases hd : FloatKind.f64.decode (x .u) with
    | nan s t => unfold isNaN at hnb; rw [hd] at hnb; cases hnb
    | infinity s => exact isNaN_encode_inf _ _
    | number s m e => exact isNaN_encode_number _ _ _ _
  exact ⟨.float .f64 (floorF (x .u)), w, ρ, .inl (by rw [hrun]; simp), hR, Pass.refl _ _ _, .f (canon_of_not hnn)⟩
def kFloor : Kr
  | [.f .f64 x] => some (.f .f64 fun _ => floorF (x .u), [], fun _ => isNaN .f64 (x .u) = false)
  | _ => none
def ctFloor : CT := [(52, .x kFloorX)]
theorem ctFloor_ok : CTok Try.prog ctFloor := .cons floorX_tells (.nil _)
theorem floor_tells : Tells Try.prog 47 (.r kFloor) := by
  intro args r H' p hr hp
  unfold kFloor at hr
  split at hr <;> cases hr
  refine ⟨.f, .nil, Con.of ttok Try.func47 rfl rfl (Nat.le_refl _) (AW.exec ttok ctFloor_ok (by cbv) ?_)⟩
  simp only [natCast_int, Post, All, thenA, canon0, canon064, and_true, true_and, forall_const, implies_true, decide_eq_true_eq, decide_eq_false_iff_not, Bool.not_eq_true', Bool.not_eq_false', Bool.true_and, Bool.and_true, beq_true, beq_false, Int.toNat_natCast, Int.ofNat_lt, Int.ofNat_le, Nat.zero_add, Nat.add_zero, imp_self, Bool.cond_false_right, Bool.cond_true_left, Bool.cond_true_right, IsF, rdF_eq, fOf, AV.f.injEq, exists_eq', free_list, free_fn0, List.not_mem_nil, List.mem_cons, false_imp, forall_eq, or_false, free_i, free_f, free_b, ren_f, ren_i, ren_b, and_self, bne_iff_ne, bne_eq_false_iff_eq, ne_eq, Int.natCast_inj, or_true, true_or, freeB_list, unfr_f, unfr_i, unfr_b, unfr_c, unfr_s, free_c, free_s, ren_c, ren_s, unfr_ro, unfr_rptr, ren_ro, free_ll, free_box, kill_f, kill_i, kill_b, kill_c, kill_s, kill_rof, kill_rot, Int.toNat_zero, isFF_ll, rowN_ll, rowX_ll, AllFree, Option.some.injEq, Prod.mk.injEq, Bool.false_eq_true, Bool.true_eq_false]
  (repeat' first | with_reducible assumption | with_reducible apply And.intro | with_reducible intro hh) <;> first | ((first | with_reducible show (_ : Int) ≤ _ | with_reducible show (_ : Int) < _ | with_reducible show (_ : Nat) ≤ _ | with_reducible show (_ : Nat) < _ | with_reducible show (_ : Int) = _ | with_reducible show (_ : Nat) = _ | with_reducible show ¬ _ | with_reducible show _ ≠ _) <;> first | omega | (simp only [Bool.and_eq_true, Bool.or_eq_false_iff, Bool.not_eq_false', Bool.not_eq_true', decide_eq_true_eq, decide_eq_false_iff_not] at *; omega) | (with_reducible assumption)) | (with_reducible assumption) | skip
  all_goals first
    | exact fin_ret (.inl rfl) (by cbv) (by simp) (To.fresh ⟨.f rfl, trivial⟩)
    | assumption
/-- The whole place of a place on a list. -/
def placeK (x : Nat) : Int := ftoi .f32 x .i64
def kFloorOf : Kr
  | [.f .f32 x] => some (.i .i64 fun _ => placeK (x .u), [], fun _ => ∃ L : Nat, L < 128 ∧ fge .f32 (x .u) 0 = true ∧ fle .f32 (x .u) (itof .f32 (L : Int)) = true)
  | _ => none
def ctFloorOf : CT := [(47, .r kFloor)]
theorem ctFloorOf_ok : CTok Try.prog ctFloorOf := .cons floor_tells (.nil _)
theorem floorOf_tells : Tells Try.prog 38 (.r kFloorOf) := by
  intro args r H' p hr hp
  unfold kFloorOf at hr
  split at hr <;> cases hr
  obtain ⟨L, hL, h0, h1⟩ := hp
  obtain ⟨k, hk, e1, e2, e3⟩ := floor_law hL h0 h1
  refine ⟨.i, .nil, Con.of ttok Try.func38 rfl rfl (Nat.le_refl _) (AW.exec ttok ctFloorOf_ok (by cbv) ?_)⟩
  simp only [natCast_int, Post, All, thenA, canon0, canon064, and_true, true_and, forall_const, implies_true, decide_eq_true_eq, decide_eq_false_iff_not, Bool.not_eq_true', Bool.not_eq_false', Bool.true_and, Bool.and_true, beq_true, beq_false, Int.toNat_natCast, Int.ofNat_lt, Int.ofNat_le, Nat.zero_add, Nat.add_zero, imp_self, Bool.cond_false_right, Bool.cond_true_left, Bool.cond_true_right, IsF, rdF_eq, fOf, AV.f.injEq, exists_eq', free_list, free_fn0, List.not_mem_nil, List.mem_cons, false_imp, forall_eq, or_false, free_i, free_f, free_b, ren_f, ren_i, ren_b, and_self, bne_iff_ne, bne_eq_false_iff_eq, ne_eq, Int.natCast_inj, or_true, true_or, freeB_list, unfr_f, unfr_i, unfr_b, unfr_c, unfr_s, free_c, free_s, ren_c, ren_s, unfr_ro, unfr_rptr, ren_ro, free_ll, free_box, kill_f, kill_i, kill_b, kill_c, kill_s, kill_rof, kill_rot, Int.toNat_zero, isFF_ll, rowN_ll, rowX_ll, AllFree, Option.some.injEq, Prod.mk.injEq, Bool.false_eq_true, Bool.true_eq_false, e3, e2, Option.isSome_some]
  (repeat' first | with_reducible assumption | with_reducible apply And.intro | with_reducible intro hh) <;> first | ((first | with_reducible show (_ : Int) ≤ _ | with_reducible show (_ : Int) < _ | with_reducible show (_ : Nat) ≤ _ | with_reducible show (_ : Nat) < _ | with_reducible show (_ : Int) = _ | with_reducible show (_ : Nat) = _ | with_reducible show ¬ _ | with_reducible show _ ≠ _) <;> first | omega | (simp only [Bool.and_eq_true, Bool.or_eq_false_iff, Bool.not_eq_false', Bool.not_eq_true', decide_eq_true_eq, decide_eq_false_iff_not] at *; omega) | (with_reducible assumption)) | (with_reducible assumption) | skip
  refine fin_ret (.inl rfl) (by cbv) (by simp) (To.fresh ⟨.i ?_, trivial⟩)
  unfold placeK ftoi
  rw [e1, e2]
def placeI (a b : Nat) (i : Int) : Nat := fadd .f32 a (fmul .f32 (itof .f32 i) b)
def kPlace : Kr
  | [.f .f32 a, .f .f32 b, .i .i64 i] => some (.f .f32 fun _ => placeI (a .u) (b .u) (i .u), [], fun _ => True)
  | _ => none
/-! The list at steps. -/
def placeX (a b : Nat) (i : Nat) : Nat := placeI a b (i : Int)
def onL (n : Nat) (p : Nat) : Bool := fge .f32 p 0 && fle .f32 p (itof .f32 ((n : Int) - 1))
def atX (n : Nat) (x : Nat → Nat) (p : Nat) : Nat :=
  bif onL n p then (bif decide (placeK p < (n : Int) - 1) then fadd .f32 (x (placeK p).toNat) (fmul .f32 (fsub .f32 p (itof .f32 (placeK p))) (fsub .f32 (x (placeK p + 1).toNat) (x (placeK p).toNat))) else x (placeK p).toNat) else 0
def stepsAt (n : Nat) (x : Nat → Nat) (a b : Nat) (i : Nat) : Nat := atX n x (placeX a b i)
def preAt (n : Nat) (x : Nat → Nat) (a b : Nat) (k : Int) : Bool := isList n x && (isFin a && (isFin b && (decide (1 ≤ k) && decide (k ≤ 128))))
def okAt (n : Nat) (x : Nat → Nat) (a b : Nat) (k : Int) : Bool := preAt n x a b k && finN k.toNat (stepsAt n x a b)
theorem pre_no {n : Nat} {x : Nat → Nat} {a b : Nat} {k : Int} (h : (((!isList n x || !isFin a) || !isFin b) || !(decide (1 ≤ k) && decide (k ≤ 128))) = true) : okAt n x a b k = false := by
  unfold okAt preAt
  have e : (isList n x && (isFin a && (isFin b && (decide (1 ≤ k) && decide (k ≤ 128))))) = false := by
    cases h1 : isList n x <;> cases h2 : isFin a <;> cases h3 : isFin b <;> cases h4 : (decide (1 ≤ k) && decide (k ≤ 128)) <;> simp_all
  rw [e, Bool.false_and]
theorem pre_yes {n : Nat} {x : Nat → Nat} {a b : Nat} {k : Int} (h : (((!isList n x || !isFin a) || !isFin b) || !(decide (1 ≤ k) && decide (k ≤ 128))) = false) : preAt n x a b k = true := by
  unfold preAt
  cases h1 : isList n x <;> cases h2 : isFin a <;> cases h3 : isFin b <;> simp_all
theorem pre_facts {n : Nat} {x : Nat → Nat} {a b : Nat} {k : Int} (h : preAt n x a b k = true) : 1 ≤ n ∧ n ≤ 128 ∧ 1 ≤ k ∧ k ≤ 128 := by
  simp only [preAt, Bool.and_eq_true, decide_eq_true_eq] at h
  have := isList_le h.1
  omega
theorem on_facts {n : Nat} {p : Nat} (h1 : 1 ≤ n) (h2 : n ≤ 128) (h : onL n p = true) : ∃ q : Nat, q ≤ n - 1 ∧ floatToIntVal .f32 p .i64 = some (q : Int) ∧ ftoi .f32 p .i64 = (q : Int) ∧ placeK p = (q : Int) := by
  simp only [onL, Bool.and_eq_true] at h
  obtain ⟨q, hq, e1, _, _⟩ := floor_law (x := p) (L := n - 1) (by omega) h.1 (by rw [show ((n - 1 : Nat) : Int) = (n : Int) - 1 by omega]; exact h.2)
  have e2 : ftoi .f32 p .i64 = (q : Int) := by unfold ftoi; rw [e1]; rfl
  exact ⟨q, hq, e1, e2, e2⟩
theorem at_in {n : Nat} {x : Nat → Nat} {a b i q : Nat} (hon : onL n (placeX a b i) = true) (e3 : placeK (placeX a b i) = (q : Int)) (hlt : (q : Int) < (n : Int) - 1) : stepsAt n x a b i = fadd .f32 (x q) (fmul .f32 (fsub .f32 (placeI a b (i : Int)) (itof .f32 (q : Int))) (fsub .f32 (x ((q : Int) + 1).toNat) (x q))) := by
  simp only [stepsAt, atX, hon, e3, decide_eq_true hlt, cond_true, Int.toNat_natCast]
  rfl
theorem at_last {n : Nat} {x : Nat → Nat} {a b i q : Nat} (hon : onL n (placeX a b i) = true) (e3 : placeK (placeX a b i) = (q : Int)) (hlt : ¬ (q : Int) < (n : Int) - 1) : stepsAt n x a b i = x q := by
  simp only [stepsAt, atX, hon, e3, decide_eq_false hlt, cond_true, cond_false, Int.toNat_natCast]
theorem at_off {n : Nat} {x : Nat → Nat} {a b i : Nat} (hon : onL n (placeX a b i) = false) : stepsAt n x a b i = 0 := by
  simp only [stepsAt, atX, hon, cond_false]
def kAt : Kg
  | [l, .f .f32 a, .f .f32 b, .i .i64 k], [] => match asLg l with
    | some (n, g) => some (ansL (fun _ => (k .u).toNat) (stepsAt (n .u) (rdF g) (a .u) (b .u)) (okAt (n .u) (rdF g) (a .u) (b .u) (k .u)) (IsF n g))
    | none => none
  | _, _ => none
theorem finN_two (x : Nat → Nat) : finN 2 x = (isFin (x 0) && isFin (x 1)) := by
  simp [finN, allN, List.range, List.range.loop]
theorem pre_two {p q : Bool} {a b : Th Nat} : ((p || !finN 2 fun i => match [AV.f .f32 a, AV.f .f32 b].getD (i * 1) .dead with
  | .f _ x => x .u
  | _ => 0) || q) = (((p || !isFin (a .u)) || !isFin (b .u)) || q) := by
  rw [finN_two]
  show ((p || !(isFin (a .u) && isFin (b .u))) || q) = _
  cases p <;> cases isFin (a .u) <;> cases isFin (b .u) <;> cases q <;> rfl
theorem fold_place (a b : Nat) (i : Int) : fadd .f32 a (fmul .f32 (itof .f32 i) b) = placeI a b i := rfl
def ctImplAt : CT := [(21, .r kIsList), (37, .r kFinN), (25, .r kIn), (38, .r kFloorOf), (24, .g 1 kGive)]
theorem ctImplAt_ok : CTok Try.prog ctImplAt := .cons isList_tells (.cons areFinite_tells (.cons within_tells (.cons floorOf_tells (.cons checked_g (.nil _)))))
set_option maxHeartbeats 1000000 in
theorem implAt : Tells Try.prog 18 (.g 0 kAt) := by
  intro args Hc r hr
  unfold kAt at hr
  split at hr <;> first | (cases hr; done) | skip
  split at hr <;> cases hr
  rename_i a b k _ n g hL
  refine AnsOk.two ttok Try.func18 rfl rfl (Nat.zero_le _) (Nat.zero_le _) (allFr_tup2 .own .b) (allFr_tup2 .v .b) .list .nil fun hF => ⟨[listF false n (rdF g), .f .f32 a, .f .f32 b, .i .i64 k], ⟨.asLg hL hF, Sub.refl _, Sub.refl _, Sub.refl _, trivial⟩, ?_⟩
  have hn := hF.1
  generalize rdF g = x
  refine AW.exec ttok ctImplAt_ok (by cbv) ?_
  simp only [natCast_int, Post, All, thenA, canon0, canon064, and_true, true_and, forall_const, implies_true, decide_eq_true_eq, decide_eq_false_iff_not, Bool.not_eq_true', Bool.not_eq_false', Bool.true_and, Bool.and_true, beq_true, beq_false, Int.toNat_natCast, Int.ofNat_lt, Int.ofNat_le, Nat.zero_add, Nat.add_zero, imp_self, Bool.cond_false_right, Bool.cond_true_left, Bool.cond_true_right, IsF, rdF_eq, fOf, AV.f.injEq, exists_eq', free_list, free_fn0, List.not_mem_nil, List.mem_cons, false_imp, forall_eq, or_false, free_i, free_f, free_b, ren_f, ren_i, ren_b, and_self, bne_iff_ne, bne_eq_false_iff_eq, ne_eq, Int.natCast_inj, or_true, true_or, freeB_list, unfr_f, unfr_i, unfr_b, unfr_c, unfr_s, free_c, free_s, ren_c, ren_s, unfr_ro, unfr_rptr, ren_ro, free_ll, free_box, kill_f, kill_i, kill_b, kill_c, kill_s, kill_rof, kill_rot, Int.toNat_zero, isFF_ll, rowN_ll, rowX_ll, AllFree, Option.some.injEq, Prod.mk.injEq, Bool.false_eq_true, Bool.true_eq_false, eqL_self, heldL_mark, heldL_zero, one_neg, Nat.zero_le, Nat.not_lt_zero, one_add_len, one_le_tb, zero_le_one', not_false_eq_true, true_imp_iff, bne_self_eq_false, Bool.or_false, Bool.false_or, Bool.not_true, Bool.not_false, Bool.true_eq_false, Bool.false_eq_true, false_imp, Nat.le_refl, decide_true, decide_false, not_true_eq_false, Int.lt_irrefl, isList_fin, hn]
  (repeat' first | with_reducible assumption | with_reducible apply And.intro | with_reducible intro hh) <;> first | ((first | with_reducible show (_ : Int) ≤ _ | with_reducible show (_ : Int) < _ | with_reducible show (_ : Nat) ≤ _ | with_reducible show (_ : Nat) < _ | with_reducible show (_ : Int) = _ | with_reducible show (_ : Nat) = _ | with_reducible show ¬ _ | with_reducible show _ ≠ _) <;> first | omega | (simp only [Bool.and_eq_true, Bool.or_eq_false_iff, Bool.not_eq_false', Bool.not_eq_true', decide_eq_true_eq, decide_eq_false_iff_not] at *; omega) | (with_reducible assumption)) | (with_reducible assumption) | skip
  · rename_i j c' hj
    obtain rfl : c' = 0 := by omega
    obtain rfl | rfl : j = 0 ∨ j = 1 := by omega
    all_goals exact .f
  · rename_i j
    have hj := hh
    obtain rfl | rfl : j = 0 ∨ j = 1 := by omega
    all_goals exact ⟨_, rfl⟩
  · exact okA.no (pre_no (pre_two ▸ ‹(_ || _) = true›)) (fin_ret (.inl rfl) (by cbv) (by simp) (To.fresh noL_to))
  have h0 := pre_yes (pre_two ▸ ‹(_ || _) = false›)
  have h1 := pre_facts h0
  refine AW.loopH (ι := Nat) (fun i => i ≤ (k .u).toNat) (fun i => (k .u).toNat - i) (fun i => mkE Try.f18.ntmps [(0, listF false n x), (1, .f .f32 a), (2, .f .f32 b), (10, .own 0 (fun _ => 0) (fun _ => i) 1), (31, .i .i64 k), (32, .i .i64 fun _ => (i : Int))])
    (fun i => [blkF true (fun _ => i) (stepsAt (n .u) x (a .u) (b .u))]) 0 (Nat.zero_le _) (To.moved (k := 1) rfl (Nat.le_refl _) (fun e => e) (fun j hj => absurd hj (Nat.not_lt_zero _)) ?_) ?_
  · (repeat' first | exact AllTo.nil | apply AllTo.cons) <;> first | exact AvTo.dead _ | exact AvTo.i rfl | exact AvTo.f rfl | exact AvTo.own rfl rfl rfl rfl | exact Free.same .listF
  · rintro Q' hQ i hi
    have e8 : (k .u).toNat ≤ 9223372036854775807 := by omega
    cases hon : onL (n .u) (placeX (a .u) (b .u) i) with
    | true =>
      obtain ⟨q, hq, e1, e2, e3⟩ := on_facts h1.1 h1.2.1 hon
      have hon' : (fge .f32 (placeI (a .u) (b .u) (i : Int)) 0 && fle .f32 (placeI (a .u) (b .u) (i : Int)) (itof .f32 ((n .u : Int) - 1))) = true := hon
      have e3' : placeK (placeI (a .u) (b .u) (i : Int)) = (q : Int) := e3
      have e4 : ∃ L : Nat, L < 128 ∧ fge .f32 (placeI (a .u) (b .u) (i : Int)) 0 = true ∧ fle .f32 (placeI (a .u) (b .u) (i : Int)) (itof .f32 (L : Int)) = true := by
        have h2 := hon'
        simp only [Bool.and_eq_true] at h2
        exact ⟨n .u - 1, by omega, h2.1, by rw [show ((n .u - 1 : Nat) : Int) = (n .u : Int) - 1 by omega]; exact h2.2⟩
      refine AW.exec ttok ctImplAt_ok (by cbv) ?_
      simp only [natCast_int, Post, All, thenA, canon0, canon064, and_true, true_and, forall_const, implies_true, decide_eq_true_eq, decide_eq_false_iff_not, Bool.not_eq_true', Bool.not_eq_false', Bool.true_and, Bool.and_true, beq_true, beq_false, Int.toNat_natCast, Int.ofNat_lt, Int.ofNat_le, Nat.zero_add, Nat.add_zero, imp_self, Bool.cond_false_right, Bool.cond_true_left, Bool.cond_true_right, IsF, rdF_eq, fOf, AV.f.injEq, exists_eq', free_list, free_fn0, List.not_mem_nil, List.mem_cons, false_imp, forall_eq, or_false, free_i, free_f, free_b, ren_f, ren_i, ren_b, and_self, bne_iff_ne, bne_eq_false_iff_eq, ne_eq, Int.natCast_inj, or_true, true_or, freeB_list, unfr_f, unfr_i, unfr_b, unfr_c, unfr_s, free_c, free_s, ren_c, ren_s, unfr_ro, unfr_rptr, ren_ro, free_ll, free_box, kill_f, kill_i, kill_b, kill_c, kill_s, kill_rof, kill_rot, Int.toNat_zero, isFF_ll, rowN_ll, rowX_ll, AllFree, Option.some.injEq, Prod.mk.injEq, Bool.false_eq_true, Bool.true_eq_false, fold_place, hn, hon', e3', e4]
      (repeat' first | with_reducible assumption | with_reducible apply And.intro | with_reducible intro hh) <;> first | ((first | with_reducible show (_ : Int) ≤ _ | with_reducible show (_ : Int) < _ | with_reducible show (_ : Nat) ≤ _ | with_reducible show (_ : Nat) < _ | with_reducible show (_ : Int) = _ | with_reducible show (_ : Nat) = _ | with_reducible show ¬ _ | with_reducible show _ ≠ _) <;> first | omega | (simp only [Bool.and_eq_true, Bool.or_eq_false_iff, Bool.not_eq_false', Bool.not_eq_true', decide_eq_true_eq, decide_eq_false_iff_not] at *; omega) | (with_reducible assumption)) | (with_reducible assumption) | skip
      · refine ⟨i + 1, by omega, by omega, To.moved (k := 2) rfl (Nat.le_refl _) (fun e => e) (fun j hj => app_one hj (fun _ => AvTo.f rfl) fun e => AvTo.f (by rw [e]; exact (at_in hon e3 (by omega)).symm)) ?_⟩
        (repeat' first | exact AllTo.nil | apply AllTo.cons) <;> first | exact AvTo.dead _ | exact AvTo.i rfl | exact AvTo.i (by simp only [natCast_int]; omega) | exact AvTo.f rfl | exact AvTo.own rfl rfl rfl rfl | exact Free.same .listF
      · refine ⟨i + 1, by omega, by omega, To.moved (k := 2) rfl (Nat.le_refl _) (fun e => e) (fun j hj => app_one hj (fun _ => AvTo.f rfl) fun e => AvTo.f (by rw [e]; exact (at_last hon e3 (by omega)).symm)) ?_⟩
        (repeat' first | exact AllTo.nil | apply AllTo.cons) <;> first | exact AvTo.dead _ | exact AvTo.i rfl | exact AvTo.i (by simp only [natCast_int]; omega) | exact AvTo.f rfl | exact AvTo.own rfl rfl rfl rfl | exact Free.same .listF
      · obtain ⟨rfl⟩ := hQ
        refine Post.eval (by cbv) ?_
        have e : i = (k .u).toNat := by omega
        simp only [natCast_int, Post, All, thenA, canon0, canon064, and_true, true_and, forall_const, implies_true, decide_eq_true_eq, decide_eq_false_iff_not, Bool.not_eq_true', Bool.not_eq_false', Bool.true_and, Bool.and_true, beq_true, beq_false, Int.toNat_natCast, Int.ofNat_lt, Int.ofNat_le, Nat.zero_add, Nat.add_zero, imp_self, Bool.cond_false_right, Bool.cond_true_left, Bool.cond_true_right, IsF, rdF_eq, fOf, AV.f.injEq, exists_eq', free_list, free_fn0, List.not_mem_nil, List.mem_cons, false_imp, forall_eq, or_false, free_i, free_f, free_b, ren_f, ren_i, ren_b, and_self, bne_iff_ne, bne_eq_false_iff_eq, ne_eq, Int.natCast_inj, or_true, true_or, freeB_list, unfr_f, unfr_i, unfr_b, unfr_c, unfr_s, free_c, free_s, ren_c, ren_s, unfr_ro, unfr_rptr, ren_ro, free_ll, free_box, kill_f, kill_i, kill_b, kill_c, kill_s, kill_rof, kill_rot, Int.toNat_zero, isFF_ll, rowN_ll, rowX_ll, AllFree, Option.some.injEq, Prod.mk.injEq, Bool.false_eq_true, Bool.true_eq_false, hn, e, e8]
        (repeat' first | with_reducible assumption | with_reducible apply And.intro | with_reducible intro hh) <;> first | ((first | with_reducible show (_ : Int) ≤ _ | with_reducible show (_ : Int) < _ | with_reducible show (_ : Nat) ≤ _ | with_reducible show (_ : Nat) < _ | with_reducible show (_ : Int) = _ | with_reducible show (_ : Nat) = _ | with_reducible show ¬ _ | with_reducible show _ ≠ _) <;> first | omega | (simp only [Bool.and_eq_true, Bool.or_eq_false_iff, Bool.not_eq_false', Bool.not_eq_true', decide_eq_true_eq, decide_eq_false_iff_not] at *; omega) | (with_reducible assumption)) | (with_reducible assumption) | skip
        · exact okA.yes (by simp only [okAt, h0, Bool.true_and]; assumption) (fin_ret (.inl rfl) (by cbv) (by simp) (To.list (Nat.zero_le _) (Nat.le_refl _) (fun e => e) (fun j hj => AvTo.f rfl) yesL_to))
        · exact okA.no (by simp only [okAt, h0, Bool.true_and]; assumption) (fin_ret (.inl rfl) (by cbv) (by simp) (To.fresh noL_to))
    | false =>
      have hon' : (fge .f32 (placeI (a .u) (b .u) (i : Int)) 0 && fle .f32 (placeI (a .u) (b .u) (i : Int)) (itof .f32 ((n .u : Int) - 1))) = false := hon
      refine AW.exec ttok ctImplAt_ok (by cbv) ?_
      simp only [natCast_int, Post, All, thenA, canon0, canon064, and_true, true_and, forall_const, implies_true, decide_eq_true_eq, decide_eq_false_iff_not, Bool.not_eq_true', Bool.not_eq_false', Bool.true_and, Bool.and_true, beq_true, beq_false, Int.toNat_natCast, Int.ofNat_lt, Int.ofNat_le, Nat.zero_add, Nat.add_zero, imp_self, Bool.cond_false_right, Bool.cond_true_left, Bool.cond_true_right, IsF, rdF_eq, fOf, AV.f.injEq, exists_eq', free_list, free_fn0, List.not_mem_nil, List.mem_cons, false_imp, forall_eq, or_false, free_i, free_f, free_b, ren_f, ren_i, ren_b, and_self, bne_iff_ne, bne_eq_false_iff_eq, ne_eq, Int.natCast_inj, or_true, true_or, freeB_list, unfr_f, unfr_i, unfr_b, unfr_c, unfr_s, free_c, free_s, ren_c, ren_s, unfr_ro, unfr_rptr, ren_ro, free_ll, free_box, kill_f, kill_i, kill_b, kill_c, kill_s, kill_rof, kill_rot, Int.toNat_zero, isFF_ll, rowN_ll, rowX_ll, AllFree, Option.some.injEq, Prod.mk.injEq, Bool.false_eq_true, Bool.true_eq_false, fold_place, hn, hon']
      (repeat' first | with_reducible assumption | with_reducible apply And.intro | with_reducible intro hh) <;> first | ((first | with_reducible show (_ : Int) ≤ _ | with_reducible show (_ : Int) < _ | with_reducible show (_ : Nat) ≤ _ | with_reducible show (_ : Nat) < _ | with_reducible show (_ : Int) = _ | with_reducible show (_ : Nat) = _ | with_reducible show ¬ _ | with_reducible show _ ≠ _) <;> first | omega | (simp only [Bool.and_eq_true, Bool.or_eq_false_iff, Bool.not_eq_false', Bool.not_eq_true', decide_eq_true_eq, decide_eq_false_iff_not] at *; omega) | (with_reducible assumption)) | (with_reducible assumption) | skip
      · refine ⟨i + 1, by omega, by omega, To.moved (k := 2) rfl (Nat.le_refl _) (fun e => e) (fun j hj => app_one hj (fun _ => AvTo.f rfl) fun e => AvTo.f (by rw [e]; exact (at_off hon).symm)) ?_⟩
        (repeat' first | exact AllTo.nil | apply AllTo.cons) <;> first | exact AvTo.dead _ | exact AvTo.i rfl | exact AvTo.i (by simp only [natCast_int]; omega) | exact AvTo.f rfl | exact AvTo.own rfl rfl rfl rfl | exact Free.same .listF
      · obtain ⟨rfl⟩ := hQ
        refine Post.eval (by cbv) ?_
        have e : i = (k .u).toNat := by omega
        simp only [natCast_int, Post, All, thenA, canon0, canon064, and_true, true_and, forall_const, implies_true, decide_eq_true_eq, decide_eq_false_iff_not, Bool.not_eq_true', Bool.not_eq_false', Bool.true_and, Bool.and_true, beq_true, beq_false, Int.toNat_natCast, Int.ofNat_lt, Int.ofNat_le, Nat.zero_add, Nat.add_zero, imp_self, Bool.cond_false_right, Bool.cond_true_left, Bool.cond_true_right, IsF, rdF_eq, fOf, AV.f.injEq, exists_eq', free_list, free_fn0, List.not_mem_nil, List.mem_cons, false_imp, forall_eq, or_false, free_i, free_f, free_b, ren_f, ren_i, ren_b, and_self, bne_iff_ne, bne_eq_false_iff_eq, ne_eq, Int.natCast_inj, or_true, true_or, freeB_list, unfr_f, unfr_i, unfr_b, unfr_c, unfr_s, free_c, free_s, ren_c, ren_s, unfr_ro, unfr_rptr, ren_ro, free_ll, free_box, kill_f, kill_i, kill_b, kill_c, kill_s, kill_rof, kill_rot, Int.toNat_zero, isFF_ll, rowN_ll, rowX_ll, AllFree, Option.some.injEq, Prod.mk.injEq, Bool.false_eq_true, Bool.true_eq_false, hn, e, e8]
        (repeat' first | with_reducible assumption | with_reducible apply And.intro | with_reducible intro hh) <;> first | ((first | with_reducible show (_ : Int) ≤ _ | with_reducible show (_ : Int) < _ | with_reducible show (_ : Nat) ≤ _ | with_reducible show (_ : Nat) < _ | with_reducible show (_ : Int) = _ | with_reducible show (_ : Nat) = _ | with_reducible show ¬ _ | with_reducible show _ ≠ _) <;> first | omega | (simp only [Bool.and_eq_true, Bool.or_eq_false_iff, Bool.not_eq_false', Bool.not_eq_true', decide_eq_true_eq, decide_eq_false_iff_not] at *; omega) | (with_reducible assumption)) | (with_reducible assumption) | skip
        · exact okA.yes (by simp only [okAt, h0, Bool.true_and]; assumption) (fin_ret (.inl rfl) (by cbv) (by simp) (To.list (Nat.zero_le _) (Nat.le_refl _) (fun e => e) (fun j hj => AvTo.f rfl) yesL_to))
        · exact okA.no (by simp only [okAt, h0, Bool.true_and]; assumption) (fin_ret (.inl rfl) (by cbv) (by simp) (To.fresh noL_to))
  · have h1 : (isList (n .u) fun i => x i) = true := by assumption
    rw [‹(isList (n .u) fun i => x i) = false›] at h1
    cases h1
  · refine okA.no ?_ (fin_ret (.inl rfl) (by cbv) (by simp) (To.fresh noL_to))
    show okAt (n .u) (fun i => x i) (a .u) (b .u) (k .u) = false
    simp only [okAt, preAt, ‹(isList (n .u) fun i => x i) = false›, Bool.false_and]
  · have h1 := hh
    rw [‹(isList (n .u) fun i => x i) = false›] at h1
    cases h1
end Go.Proofs.Ythfgigndipjbjaa
