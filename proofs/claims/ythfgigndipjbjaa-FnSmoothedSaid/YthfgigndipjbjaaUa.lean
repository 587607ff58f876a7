/- Numbers made whole, the sine, points of the circle: walked, on both sides. -/
import Derived.Test.YthfgigndipjbjaaFc
import Derived.Test.YthfgigndipjbjaaAwz
import Derived.Laws.Externs
set_option linter.unusedSimpArgs false
set_option linter.unusedVariables false
namespace Go.Proofs.Ythfgigndipjbjaa
open Go.Aw
theorem cn1 : canon .f64 4607182418800017408 = 4607182418800017408 := by decide +kernel
theorem cn2 : canon .f64 4602678819172646912 = 4602678819172646912 := by decide +kernel
theorem cn3 : canon .f64 4598175219545276416 = 4598175219545276416 := by decide +kernel
theorem cn4 : canon .f64 4618760256179416344 = 4618760256179416344 := by decide +kernel
theorem cn5 : canon .f64 4611686018427387904 = 4611686018427387904 := by decide +kernel
theorem cn6 : canon .f64 4620693217682128896 = 4620693217682128896 := by decide +kernel
theorem cn7 : canon .f64 4841369599423283200 = 4841369599423283200 := by decide +kernel
theorem cn8 : canon .f64 14064741636278059008 = 14064741636278059008 := by decide +kernel
theorem x_one {vals : Array Value} (h : 1 = vals.size) : ∃ v, vals = #[v] := by
  obtain ⟨l⟩ := vals
  match l, h with
  | [v], _ => exact ⟨v, rfl⟩
theorem f_num {w : World} {ρ : Mp} {N L : Nat} {x : Th Nat} {v : Value} (h : Sim w ρ N L (.f .f64 x) v) (hn : isNaN .f64 (x .u) = false) : v = .float .f64 (x .u) := by
  obtain ⟨b, rfl, hb⟩ := h.f_inv
  have hnb : isNaN .f64 b = false := by
    cases h : isNaN .f64 b with
    | false => rfl
    | true => rw [canon_nan h] at hb; rw [← hb, isNaN_nanOf] at hn; cases hn
  rw [canon_of_not hnb] at hb
  rw [hb]
def kTruncX : Kx
  | [.f .f64 x] => some (.f .f64 fun _ => truncF (x .u), fun _ => isNaN .f64 (x .u) = false)
  | _ => none
theorem truncX_tells : Tells Try.prog 63 (.x kTruncX) := by
  intro args r p hr hp w ρ L H vals hR hl hs
  unfold kTruncX at hr
  split at hr <;> cases hr
  rename_i x
  obtain ⟨v, rfl⟩ := x_one hl
  have hnb : isNaN .f64 (x .u) = false := hp
  obtain rfl := f_num (hs 0 _ v rfl rfl) hnb
  have hrun := run_callFunc_extern (P := Try.prog) (e := Extern.MathFloor.toIntegral "math.archTrunc" .zero) Try.func63 (by kernel_rfl) (by kernel_rfl) (by kernel_rfl) (by kernel_rfl) #[.float .f64 (x .u)] w
  have e : Extern.MathFloor.toIntegral "math.archTrunc" .zero #[.float .f64 (x .u)] = pure (.float .f64 (truncF (x .u))) := by
    obtain ⟨F, hF⟩ : ∃ F : Bool → Nat → Sem Value, Extern.MathFloor.toIntegral "math.archTrunc" .zero #[.float .f64 (x .u)] = Extern.MathFloor.toIntegral.match_1 (fun _ => Sem Value) (FloatKind.f64.decode (x .u)) F (fun d => pure (.float .f64 (FloatKind.f64.encode (d.integral .zero)))) := ⟨_, rfl⟩
    rw [hF]
    unfold truncF
    cases hd : FloatKind.f64.decode (x .u) with
    | nan s t => unfold isNaN at hnb; rw [hd] at hnb; cases hnb
    | infinity s => rfl
    | number s m e => rfl
  rw [e] at hrun
  have hnn : isNaN .f64 (truncF (x .u)) = false := by
    unfold truncF
    cases hd : FloatKind.f64.decode (x .u) with
    | nan s t => unfold isNaN at hnb; rw [hd] at hnb; cases hnb
    | infinity s => exact isNaN_encode_inf _ _
    | number s m e => exact isNaN_encode_number _ _ _ _
  exact ⟨.float .f64 (truncF (x .u)), w, ρ, .inl (by rw [hrun]; simp), hR, Pass.refl _ _ _, .f (canon_of_not hnn)⟩
def kTrunc : Kr
  | [.f .f64 x] => some (.f .f64 fun _ => truncF (x .u), [], fun _ => isNaN .f64 (x .u) = false)
  | _ => none
def ctTrunc : CT := [(63, .x kTruncX)]
theorem ctTrunc_ok : CTok Try.prog ctTrunc := .cons truncX_tells (.nil _)
theorem trunc_tells : Tells Try.prog 59 (.r kTrunc) := by
  intro args r H' p hr hp
  unfold kTrunc at hr
  split at hr <;> cases hr
  refine ⟨.f, .nil, Con.of ttok Try.func59 rfl rfl (Nat.le_refl _) (AW.exec ttok ctTrunc_ok (by cbv) ?_)⟩
  simp only [natCast_int, Post, All, thenA, canon0, canon064, and_true, true_and, forall_const, implies_true, decide_eq_true_eq, decide_eq_false_iff_not, Bool.not_eq_true', Bool.not_eq_false', Bool.true_and, Bool.and_true, beq_true, beq_false, Int.toNat_natCast, Int.ofNat_lt, Int.ofNat_le, Nat.zero_add, Nat.add_zero, imp_self, Bool.cond_false_right, Bool.cond_true_left, Bool.cond_true_right, IsF, rdF_eq, fOf, AV.f.injEq, exists_eq', free_list, free_fn0, List.not_mem_nil, List.mem_cons, false_imp, forall_eq, or_false, free_i, free_f, free_b, ren_f, ren_i, ren_b, and_self, bne_iff_ne, bne_eq_false_iff_eq, ne_eq, Int.natCast_inj, or_true, true_or, freeB_list, unfr_f, unfr_i, unfr_b, unfr_c, unfr_s, free_c, free_s, ren_c, ren_s, unfr_ro, unfr_rptr, ren_ro, free_ll, free_box, kill_f, kill_i, kill_b, kill_c, kill_s, kill_rof, kill_rot, Int.toNat_zero, isFF_ll, rowN_ll, rowX_ll, AllFree, Option.some.injEq, Prod.mk.injEq, Bool.false_eq_true, Bool.true_eq_false]
  (repeat' first | with_reducible assumption | with_reducible apply And.intro | with_reducible intro hh) <;> first | ((first | with_reducible show (_ : Int) ≤ _ | with_reducible show (_ : Int) < _ | with_reducible show (_ : Nat) ≤ _ | with_reducible show (_ : Nat) < _ | with_reducible show (_ : Int) = _ | with_reducible show (_ : Nat) = _ | with_reducible show ¬ _ | with_reducible show _ ≠ _) <;> first | omega | (simp only [Bool.and_eq_true, Bool.or_eq_false_iff, Bool.not_eq_false', Bool.not_eq_true', decide_eq_true_eq, decide_eq_false_iff_not] at *; omega) | (with_reducible assumption)) | (with_reducible assumption) | skip
  all_goals first
    | exact fin_ret (.inl rfl) (by cbv) (by simp) (To.fresh ⟨.f rfl, trivial⟩)
    | assumption
def kU64 : Kx
  | [.f .f64 x] => some (.i .u64 fun _ => (x .u : Int), fun _ => isNaN .f64 (x .u) = false)
  | _ => none
theorem u64_tells : Tells Try.prog 62 (.x kU64) := by
  intro args r p hr hp w ρ L H vals hR hl hs
  unfold kU64 at hr
  split at hr <;> cases hr
  rename_i x
  obtain ⟨v, rfl⟩ := x_one hl
  obtain rfl := f_num (hs 0 _ v rfl rfl) hp
  have hrun := run_callFunc_extern (P := Try.prog) (e := Extern.MathFloatBits.float64bits) Try.func62 (by kernel_rfl) (by kernel_rfl) (by kernel_rfl) (by kernel_rfl) #[.float .f64 (x .u)] w
  have e : Extern.MathFloatBits.float64bits #[.float .f64 (x .u)] = pure (.int .u64 (x .u)) := rfl
  rw [e] at hrun
  exact ⟨.int .u64 (x .u), w, ρ, .inl (by rw [hrun]; simp), hR, Pass.refl _ _ _, .i⟩
def kF64 : Kx
  | [.i .u64 n] => some (.f .f64 fun _ => canon .f64 (n .u).toNat, fun _ => True)
  | _ => none
theorem f64_tells : Tells Try.prog 61 (.x kF64) := by
  intro args r p hr hp w ρ L H vals hR hl hs
  unfold kF64 at hr
  split at hr <;> cases hr
  rename_i n
  obtain ⟨v, rfl⟩ := x_one hl
  obtain rfl := (hs 0 _ v rfl rfl).i_inv
  have hrun := run_callFunc_extern (P := Try.prog) (e := Extern.MathFloatBits.float64frombits) Try.func61 (by kernel_rfl) (by kernel_rfl) (by kernel_rfl) (by kernel_rfl) #[.int .u64 (n .u)] w
  have e : Extern.MathFloatBits.float64frombits #[.int .u64 (n .u)] = pure (.float .f64 (n .u).toNat) := rfl
  rw [e] at hrun
  exact ⟨.float .f64 (n .u).toNat, w, ρ, .inl (by rw [hrun]; simp), hR, Pass.refl _ _ _, .f rfl⟩
theorem andnot_eq (x : Nat) : bits .andNot .u64 (x : Int) 9223372036854775808 = ((absF x : Nat) : Int) := by
  have hc : ~~~ (BitVec.ofInt 64 9223372036854775808) = BitVec.ofNat 64 9223372036854775807 := by decide
  have e : (BitVec.ofInt 64 (x : Int) &&& ~~~ BitVec.ofInt 64 9223372036854775808).toNat = x % 9223372036854775808 := by
    rw [hc, BitVec.toNat_and]
    have h1 : (BitVec.ofInt 64 (x : Int)).toNat = x % 18446744073709551616 := by
      rw [BitVec.ofInt_natCast, BitVec.toNat_ofNat]
    have h2 : (BitVec.ofNat 64 9223372036854775807).toNat = 2 ^ 63 - 1 := by decide
    rw [h1, h2, Nat.and_two_pow_sub_one_eq_mod]
    omega
  unfold bits absF
  show IntKind.u64.wrap ((BitVec.ofInt 64 (x : Int) &&& ~~~ BitVec.ofInt 64 9223372036854775808).toNat : Int) = _
  rw [e, IntKind.wrap_u64]
  omega
def kAbs : Kr
  | [.f .f64 x] => some (.f .f64 fun _ => absF (x .u), [], fun _ => ∃ B, Cl (x .u) B)
  | _ => none
def ctAbs : CT := [(62, .x kU64), (61, .x kF64)]
theorem ctAbs_ok : CTok Try.prog ctAbs := .cons u64_tells (.cons f64_tells (.nil _))
theorem abs_tells : Tells Try.prog 58 (.r kAbs) := by
  intro args r H' p hr hp
  unfold kAbs at hr
  split at hr <;> cases hr
  rename_i x
  obtain ⟨B, hB⟩ := hp
  have hn := hB.nan
  have hna := (abs_cl hB).nan
  have he := andnot_eq (x .u)
  refine ⟨.f, .nil, Con.of ttok Try.func58 rfl rfl (Nat.le_refl _) (AW.exec ttok ctAbs_ok (by cbv) ?_)⟩
  simp only [natCast_int, Post, All, thenA, canon0, canon064, and_true, true_and, forall_const, implies_true, decide_eq_true_eq, decide_eq_false_iff_not, Bool.not_eq_true', Bool.not_eq_false', Bool.true_and, Bool.and_true, beq_true, beq_false, Int.toNat_natCast, Int.ofNat_lt, Int.ofNat_le, Nat.zero_add, Nat.add_zero, imp_self, Bool.cond_false_right, Bool.cond_true_left, Bool.cond_true_right, IsF, rdF_eq, fOf, AV.f.injEq, exists_eq', free_list, free_fn0, List.not_mem_nil, List.mem_cons, false_imp, forall_eq, or_false, free_i, free_f, free_b, ren_f, ren_i, ren_b, and_self, bne_iff_ne, bne_eq_false_iff_eq, ne_eq, Int.natCast_inj, or_true, true_or, freeB_list, unfr_f, unfr_i, unfr_b, unfr_c, unfr_s, free_c, free_s, ren_c, ren_s, unfr_ro, unfr_rptr, ren_ro, free_ll, free_box, kill_f, kill_i, kill_b, kill_c, kill_s, kill_rof, kill_rot, Int.toNat_zero, isFF_ll, rowN_ll, rowX_ll, AllFree, Option.some.injEq, Prod.mk.injEq, Bool.false_eq_true, Bool.true_eq_false, hn, he]
  (repeat' first | with_reducible assumption | with_reducible apply And.intro | with_reducible intro hh) <;> first | ((first | with_reducible show (_ : Int) ≤ _ | with_reducible show (_ : Int) < _ | with_reducible show (_ : Nat) ≤ _ | with_reducible show (_ : Nat) < _ | with_reducible show (_ : Int) = _ | with_reducible show (_ : Nat) = _ | with_reducible show ¬ _ | with_reducible show _ ≠ _) <;> first | omega | (simp only [Bool.and_eq_true, Bool.or_eq_false_iff, Bool.not_eq_false', Bool.not_eq_true', decide_eq_true_eq, decide_eq_false_iff_not] at *; omega) | (with_reducible assumption)) | (with_reducible assumption) | skip
  · rw [← he]; rfl
  · exact fin_ret (.inl rfl) (by cbv) (by simp) (To.fresh ⟨.f (canon_of_not hna), trivial⟩)
def kHuge : Kr
  | [.f .f64 x] => some (.b fun _ => false, [], fun _ => Cl (x .u) 51)
  | _ => none
def ctHuge : CT := [(58, .r kAbs)]
theorem ctHuge_ok : CTok Try.prog ctHuge := .cons abs_tells (.nil _)
def kNaN : Kr
  | [] => some (.f .f64 fun _ => nanOf .f64, [], fun _ => True)
  | _ => none
def ctNaN : CT := [(61, .x kF64)]
theorem ctNaN_ok : CTok Try.prog ctNaN := .cons f64_tells (.nil _)
def kPart : Kr
  | [.f .f64 x] => some (.f .f64 fun _ => partF (x .u), [], fun _ => isNaN .f64 (x .u) = false)
  | _ => none
def ctPart : CT := [(59, .r kTrunc)]
theorem ctPart_ok : CTok Try.prog ctPart := .cons trunc_tells (.nil _)
def kSine : Kr
  | [.f .f64 x] => some (.f .f64 fun _ => sineF (x .u), [], fun _ => isNaN .f64 (x .u) = false)
  | _ => none
theorem kD_0 : (4620693217682128896 : Nat) = kD 0 := by decide +kernel
theorem fold_11 {f : Nat} (h1 : fge .f64 f halfD = true) (h2 : fgt .f64 (fsub .f64 f halfD) quarD = true) : fsub .f64 halfD (fsub .f64 f halfD) = foldF f := by unfold foldF; rw [h1, cond_true, h2]; rfl
theorem fold_10 {f : Nat} (h1 : fge .f64 f halfD = true) (h2 : fgt .f64 (fsub .f64 f halfD) quarD = false) : fsub .f64 f halfD = foldF f := by unfold foldF; rw [h1, cond_true, h2]; rfl
theorem fold_01 {f : Nat} (h1 : fge .f64 f halfD = false) (h2 : fgt .f64 f quarD = true) : fsub .f64 halfD f = foldF f := by unfold foldF; rw [h1, cond_false, h2]; rfl
theorem fold_00 {f : Nat} (h1 : fge .f64 f halfD = false) (h2 : fgt .f64 f quarD = false) : f = foldF f := by unfold foldF; rw [h1, cond_false, h2]; rfl
end Go.Proofs.Ythfgigndipjbjaa
