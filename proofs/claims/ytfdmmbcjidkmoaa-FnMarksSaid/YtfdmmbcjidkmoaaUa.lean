/- Numbers made whole, the sine, points of the circle: walked, on both sides. -/
import Derived.Test.YtfdmmbcjidkmoaaFc
import Derived.Test.YtfdmmbcjidkmoaaAwz
import Derived.Laws.Externs
set_option linter.unusedSimpArgs false
set_option linter.unusedVariables false
namespace Go.Proofs.Ytfdmmbcjidkmoaa
open Go.Aw
theorem cn1 : canon .f64 4607182418800017408 = 4607182418800017408 := by decide +kernel
theorem cn2 : canon .f64 4602678819172646912 = 4602678819172646912 := by decide +kernel
theorem cn3 : canon .f64 4598175219545276416 = 4598175219545276416 := by decide +kernel
theorem cn4 : canon .f64 4618760256179416344 = 4618760256179416344 := by decide +kernel
theorem cn5 : canon .f64 4611686018427387904 = 4611686018427387904 := by decide +kernel
theorem cn6 : canon .f64 4620693217682128896 = 4620693217682128896 := by decide +kernel
theorem cn7 : canon .f64 4841369599423283200 = 4841369599423283200 := by decide +kernel
theorem cn8 : canon .f64 14064741636278059008 = 14064741636278059008 := by decide +kernel
theorem x_one {vals : Array Value} (h : 1 = vals.size) : ∃ v, vals = #[v] := by
  obtain ⟨l⟩ := vals
  match l, h with
  | [v], _ => exact ⟨v, rfl⟩
theorem f_num {w : World} {ρ : Mp} {N L : Nat} {x : Th Nat} {v : Value} (h : Sim w ρ N L (.f .f64 x) v) (hn : isNaN .f64 (x .u) = false) : v = .float .f64 (x .u) := by
  obtain ⟨b, rfl, hb⟩ := h.f_inv
  have hnb : isNaN .f64 b = false := by
    cases h : isNaN .f64 b with
    | false => rfl
    | true => rw [canon_nan h] at hb; rw [← hb, isNaN_nanOf] at hn; cases hn
  rw [canon_of_not hnb] at hb
  rw [hb]
def kTruncX : Kx
  | [.f .f64 x] => some (.f .f64 fun _ => truncF (x .u), fun _ => isNaN .f64 (x .u) = false)
  | _ => none
theorem truncX_tells : Tells Try.prog 159 (.x kTruncX) := by
  intro args r p hr hp w ρ L H vals hR hl hs
  unfold kTruncX at hr
  split at hr <;> cases hr
  rename_i x
  obtain ⟨v, rfl⟩ := x_one hl
  have hnb : isNaN .f64 (x .u) = false := hp
  obtain rfl := f_num (hs 0 _ v rfl rfl) hnb
  have hrun := run_callFunc_extern (P := Try.prog) (e := Extern.MathFloor.toIntegral "math.archTrunc" .zero) Try.func159 (by kernel_rfl) (by kernel_rfl) (by kernel_rfl) (by kernel_rfl) #[.float .f64 (x .u)] w
  have e : Extern.MathFloor.toIntegral "math.archTrunc" .zero #[.float .f64 (x .u)] = pure (.float .f64 (truncF (x .u))) := by
    obtain ⟨F, hF⟩ : ∃ F : Bool → Nat → Sem Value, Extern.MathFloor.toIntegral "math.archTrunc" .zero #[.float .f64 (x .u)] = Extern.MathFloor.toIntegral.match_1 (fun _ => Sem Value) (FloatKind.f64.decode (x .u)) F (fun d => pure (.float .f64 (FloatKind.f64.encode (d.integral .zero)))) := ⟨_, rfl⟩
    rw [hF]
    unfold truncF
    cases hd : FloatKind.f64.decode (x .u) with
    | nan s t => unfold isNaN at hnb; rw [hd] at hnb; cases hnb
    | infinity s => rfl
    | number s m e => rfl
  rw [e] at hrun
  have hnn : isNaN .f64 (truncF (x .u)) = false := by
    unfold truncF
    cases hd : FloatKind.f64.decode (x .u) with
    | nan s t => unfold isNaN at hnb; rw [hd] at hnb; cases hnb
    | infinity s => exact isNaN_encode_inf _ _
    | number s m e => exact isNaN_encode_number _ _ _ _
  exact ⟨.float .f64 (truncF (x .u)), w, ρ, .inl (by rw [hrun]; simp), hR, Pass.refl _ _ _, .f (canon_of_not hnn)⟩
def kTrunc : Kr
  | [.f .f64 x] => some (.f .f64 fun _ => truncF (x .u), [], fun _ => isNaN .f64 (x .u) = false)
  | _ => none
def ctTrunc : CT := [(159, .x kTruncX)]
theorem ctTrunc_ok : CTok Try.prog ctTrunc := .cons truncX_tells (.nil _)
theorem trunc_tells : Tells Try.prog 154 (.r kTrunc) := by
  intro args r H' p hr hp
  unfold kTrunc at hr
  split at hr <;> cases hr
  refine ⟨.f, .nil, Con.of ttok Try.func154 rfl rfl (Nat.le_refl _) (AW.exec ttok ctTrunc_ok (by cbv) ?_)⟩
  simp only [natCast_int, Post, All, thenA, canon0, canon064, and_true, true_and, forall_const, implies_true, decide_eq_true_eq, decide_eq_false_iff_not, Bool.not_eq_true', Bool.not_eq_false', Bool.true_and, Bool.and_true, beq_true, beq_false, Int.toNat_natCast, Int.ofNat_lt, Int.ofNat_le, Nat.zero_add, Nat.add_zero, imp_self, Bool.cond_false_right, Bool.cond_true_left, Bool.cond_true_right, IsF, rdF_eq, fOf, AV.f.injEq, exists_eq', free_list, free_fn0, List.not_mem_nil, List.mem_cons, false_imp, forall_eq, or_false, free_i, free_f, free_b, ren_f, ren_i, ren_b, and_self, bne_iff_ne, bne_eq_false_iff_eq, ne_eq, Int.natCast_inj, or_true, true_or, freeB_list, unfr_f, unfr_i, unfr_b, unfr_c, unfr_s, free_c, free_s, ren_c, ren_s, unfr_ro, unfr_rptr, ren_ro, free_ll, free_box, kill_f, kill_i, kill_b, kill_c, kill_s, kill_rof, kill_rot, Int.toNat_zero, isFF_ll, rowN_ll, rowX_ll, AllFree, Option.some.injEq, Prod.mk.injEq, Bool.false_eq_true, Bool.true_eq_false]
  (repeat' first | with_reducible assumption | with_reducible apply And.intro | with_reducible intro hh) <;> first | ((first | with_reducible show (_ : Int) ≤ _ | with_reducible show (_ : Int) < _ | with_reducible show (_ : Nat) ≤ _ | with_reducible show (_ : Nat) < _ | with_reducible show (_ : Int) = _ | with_reducible show (_ : Nat) = _ | with_reducible show ¬ _ | with_reducible show _ ≠ _) <;> first | omega | (simp only [Bool.and_eq_true, Bool.or_eq_false_iff, Bool.not_eq_false', Bool.not_eq_true', decide_eq_true_eq, decide_eq_false_iff_not] at *; omega) | (with_reducible assumption)) | (with_reducible assumption) | skip
  all_goals first
    | exact fin_ret (.inl rfl) (by cbv) (by simp) (To.fresh ⟨.f rfl, trivial⟩)
    | assumption
def kU64 : Kx
  | [.f .f64 x] => some (.i .u64 fun _ => (x .u : Int), fun _ => isNaN .f64 (x .u) = false)
  | _ => none
theorem u64_tells : Tells Try.prog 158 (.x kU64) := by
  intro args r p hr hp w ρ L H vals hR hl hs
  unfold kU64 at hr
  split at hr <;> cases hr
  rename_i x
  obtain ⟨v, rfl⟩ := x_one hl
  obtain rfl := f_num (hs 0 _ v rfl rfl) hp
  have hrun := run_callFunc_extern (P := Try.prog) (e := Extern.MathFloatBits.float64bits) Try.func158 (by kernel_rfl) (by kernel_rfl) (by kernel_rfl) (by kernel_rfl) #[.float .f64 (x .u)] w
  have e : Extern.MathFloatBits.float64bits #[.float .f64 (x .u)] = pure (.int .u64 (x .u)) := rfl
  rw [e] at hrun
  exact ⟨.int .u64 (x .u), w, ρ, .inl (by rw [hrun]; simp), hR, Pass.refl _ _ _, .i⟩
def kF64 : Kx
  | [.i .u64 n] => some (.f .f64 fun _ => canon .f64 (n .u).toNat, fun _ => True)
  | _ => none
theorem f64_tells : Tells Try.prog 152 (.x kF64) := by
  intro args r p hr hp w ρ L H vals hR hl hs
  unfold kF64 at hr
  split at hr <;> cases hr
  rename_i n
  obtain ⟨v, rfl⟩ := x_one hl
  obtain rfl := (hs 0 _ v rfl rfl).i_inv
  have hrun := run_callFunc_extern (P := Try.prog) (e := Extern.MathFloatBits.float64frombits) Try.func152 (by kernel_rfl) (by kernel_rfl) (by kernel_rfl) (by kernel_rfl) #[.int .u64 (n .u)] w
  have e : Extern.MathFloatBits.float64frombits #[.int .u64 (n .u)] = pure (.float .f64 (n .u).toNat) := rfl
  rw [e] at hrun
  exact ⟨.float .f64 (n .u).toNat, w, ρ, .inl (by rw [hrun]; simp), hR, Pass.refl _ _ _, .f rfl⟩
theorem andnot_eq (x : Nat) : bits .andNot .u64 (x : Int) 9223372036854775808 = ((absF x : Nat) : Int) := by
  have hc : ~~~ (BitVec.ofInt 64 9223372036854775808) = BitVec.ofNat 64 9223372036854775807 := by decide
  have e : (BitVec.ofInt 64 (x : Int) &&& ~~~ BitVec.ofInt 64 9223372036854775808).toNat = x % 9223372036854775808 := by
    rw [hc, BitVec.toNat_and]
    have h1 : (BitVec.ofInt 64 (x : Int)).toNat = x % 18446744073709551616 := by
      rw [BitVec.ofInt_natCast, BitVec.toNat_ofNat]
    have h2 : (BitVec.ofNat 64 9223372036854775807).toNat = 2 ^ 63 - 1 := by decide
    rw [h1, h2, Nat.and_two_pow_sub_one_eq_mod]
    omega
  unfold bits absF
  show IntKind.u64.wrap ((BitVec.ofInt 64 (x : Int) &&& ~~~ BitVec.ofInt 64 9223372036854775808).toNat : Int) = _
  rw [e, IntKind.wrap_u64]
  omega
def kAbs : Kr
  | [.f .f64 x] => some (.f .f64 fun _ => absF (x .u), [], fun _ => ∃ B, Cl (x .u) B)
  | _ => none
def ctAbs : CT := [(158, .x kU64), (152, .x kF64)]
theorem ctAbs_ok : CTok Try.prog ctAbs := .cons u64_tells (.cons f64_tells (.nil _))
theorem abs_tells : Tells Try.prog 153 (.r kAbs) := by
  intro args r H' p hr hp
  unfold kAbs at hr
  split at hr <;> cases hr
  rename_i x
  obtain ⟨B, hB⟩ := hp
  have hn := hB.nan
  have hna := (abs_cl hB).nan
  have he := andnot_eq (x .u)
  refine ⟨.f, .nil, Con.of ttok Try.func153 rfl rfl (Nat.le_refl _) (AW.exec ttok ctAbs_ok (by cbv) ?_)⟩
  simp only [natCast_int, Post, All, thenA, canon0, canon064, and_true, true_and, forall_const, implies_true, decide_eq_true_eq, decide_eq_false_iff_not, Bool.not_eq_true', Bool.not_eq_false', Bool.true_and, Bool.and_true, beq_true, beq_false, Int.toNat_natCast, Int.ofNat_lt, Int.ofNat_le, Nat.zero_add, Nat.add_zero, imp_self, Bool.cond_false_right, Bool.cond_true_left, Bool.cond_true_right, IsF, rdF_eq, fOf, AV.f.injEq, exists_eq', free_list, free_fn0, List.not_mem_nil, List.mem_cons, false_imp, forall_eq, or_false, free_i, free_f, free_b, ren_f, ren_i, ren_b, and_self, bne_iff_ne, bne_eq_false_iff_eq, ne_eq, Int.natCast_inj, or_true, true_or, freeB_list, unfr_f, unfr_i, unfr_b, unfr_c, unfr_s, free_c, free_s, ren_c, ren_s, unfr_ro, unfr_rptr, ren_ro, free_ll, free_box, kill_f, kill_i, kill_b, kill_c, kill_s, kill_rof, kill_rot, Int.toNat_zero, isFF_ll, rowN_ll, rowX_ll, AllFree, Option.some.injEq, Prod.mk.injEq, Bool.false_eq_true, Bool.true_eq_false, hn, he]
  (repeat' first | with_reducible assumption | with_reducible apply And.intro | with_reducible intro hh) <;> first | ((first | with_reducible show (_ : Int) ≤ _ | with_reducible show (_ : Int) < _ | with_reducible show (_ : Nat) ≤ _ | with_reducible show (_ : Nat) < _ | with_reducible show (_ : Int) = _ | with_reducible show (_ : Nat) = _ | with_reducible show ¬ _ | with_reducible show _ ≠ _) <;> first | omega | (simp only [Bool.and_eq_true, Bool.or_eq_false_iff, Bool.not_eq_false', Bool.not_eq_true', decide_eq_true_eq, decide_eq_false_iff_not] at *; omega) | (with_reducible assumption)) | (with_reducible assumption) | skip
  · rw [← he]; rfl
  · exact fin_ret (.inl rfl) (by cbv) (by simp) (To.fresh ⟨.f (canon_of_not hna), trivial⟩)
def kHuge : Kr
  | [.f .f64 x] => some (.b fun _ => false, [], fun _ => Cl (x .u) 51)
  | _ => none
def ctHuge : CT := [(153, .r kAbs)]
theorem ctHuge_ok : CTok Try.prog ctHuge := .cons abs_tells (.nil _)
theorem huge_tells : Tells Try.prog 136 (.r kHuge) := by
  intro args r H' p hr hp
  unfold kHuge at hr
  split at hr <;> cases hr
  rename_i x
  have hB : Cl (x .u) 51 := hp
  have hb := (abs_cl hB).big
  have hex : ∃ B, Cl (x .u) B := ⟨_, hB⟩
  refine ⟨.b, .nil, Con.of ttok Try.func136 rfl rfl (Nat.le_refl _) (AW.exec ttok ctHuge_ok (by cbv) ?_)⟩
  simp only [natCast_int, Post, All, thenA, canon0, canon064, and_true, true_and, forall_const, implies_true, decide_eq_true_eq, decide_eq_false_iff_not, Bool.not_eq_true', Bool.not_eq_false', Bool.true_and, Bool.and_true, beq_true, beq_false, Int.toNat_natCast, Int.ofNat_lt, Int.ofNat_le, Nat.zero_add, Nat.add_zero, imp_self, Bool.cond_false_right, Bool.cond_true_left, Bool.cond_true_right, IsF, rdF_eq, fOf, AV.f.injEq, exists_eq', free_list, free_fn0, List.not_mem_nil, List.mem_cons, false_imp, forall_eq, or_false, free_i, free_f, free_b, ren_f, ren_i, ren_b, and_self, bne_iff_ne, bne_eq_false_iff_eq, ne_eq, Int.natCast_inj, or_true, true_or, freeB_list, unfr_f, unfr_i, unfr_b, unfr_c, unfr_s, free_c, free_s, ren_c, ren_s, unfr_ro, unfr_rptr, ren_ro, free_ll, free_box, kill_f, kill_i, kill_b, kill_c, kill_s, kill_rof, kill_rot, Int.toNat_zero, isFF_ll, rowN_ll, rowX_ll, AllFree, Option.some.injEq, Prod.mk.injEq, Bool.false_eq_true, Bool.true_eq_false, hb, hex]
  (repeat' first | with_reducible assumption | with_reducible apply And.intro | with_reducible intro hh) <;> first | ((first | with_reducible show (_ : Int) ≤ _ | with_reducible show (_ : Int) < _ | with_reducible show (_ : Nat) ≤ _ | with_reducible show (_ : Nat) < _ | with_reducible show (_ : Int) = _ | with_reducible show (_ : Nat) = _ | with_reducible show ¬ _ | with_reducible show _ ≠ _) <;> first | omega | (simp only [Bool.and_eq_true, Bool.or_eq_false_iff, Bool.not_eq_false', Bool.not_eq_true', decide_eq_true_eq, decide_eq_false_iff_not] at *; omega) | (with_reducible assumption)) | (with_reducible assumption) | skip
  all_goals exact fin_ret (.inl rfl) (by cbv) (by simp) (To.fresh ⟨.b hb, trivial⟩)
def kNaN : Kr
  | [] => some (.f .f64 fun _ => nanOf .f64, [], fun _ => True)
  | _ => none
def ctNaN : CT := [(152, .x kF64)]
theorem ctNaN_ok : CTok Try.prog ctNaN := .cons f64_tells (.nil _)
theorem nan_tells : Tells Try.prog 135 (.r kNaN) := by
  intro args r H' p hr hp
  unfold kNaN at hr
  split at hr <;> cases hr
  refine ⟨.f, .nil, Con.of ttok Try.func135 rfl rfl (Nat.le_refl _) (AW.exec ttok ctNaN_ok (by cbv) ?_)⟩
  simp only [natCast_int, Post, All, thenA, canon0, canon064, and_true, true_and, forall_const, implies_true, decide_eq_true_eq, decide_eq_false_iff_not, Bool.not_eq_true', Bool.not_eq_false', Bool.true_and, Bool.and_true, beq_true, beq_false, Int.toNat_natCast, Int.ofNat_lt, Int.ofNat_le, Nat.zero_add, Nat.add_zero, imp_self, Bool.cond_false_right, Bool.cond_true_left, Bool.cond_true_right, IsF, rdF_eq, fOf, AV.f.injEq, exists_eq', free_list, free_fn0, List.not_mem_nil, List.mem_cons, false_imp, forall_eq, or_false, free_i, free_f, free_b, ren_f, ren_i, ren_b, and_self, bne_iff_ne, bne_eq_false_iff_eq, ne_eq, Int.natCast_inj, or_true, true_or, freeB_list, unfr_f, unfr_i, unfr_b, unfr_c, unfr_s, free_c, free_s, ren_c, ren_s, unfr_ro, unfr_rptr, ren_ro, free_ll, free_box, kill_f, kill_i, kill_b, kill_c, kill_s, kill_rof, kill_rot, Int.toNat_zero, isFF_ll, rowN_ll, rowX_ll, AllFree, Option.some.injEq, Prod.mk.injEq, Bool.false_eq_true, Bool.true_eq_false]
  (repeat' first | with_reducible assumption | with_reducible apply And.intro | with_reducible intro hh) <;> first | ((first | with_reducible show (_ : Int) ≤ _ | with_reducible show (_ : Int) < _ | with_reducible show (_ : Nat) ≤ _ | with_reducible show (_ : Nat) < _ | with_reducible show (_ : Int) = _ | with_reducible show (_ : Nat) = _ | with_reducible show ¬ _ | with_reducible show _ ≠ _) <;> first | omega | (simp only [Bool.and_eq_true, Bool.or_eq_false_iff, Bool.not_eq_false', Bool.not_eq_true', decide_eq_true_eq, decide_eq_false_iff_not] at *; omega) | (with_reducible assumption)) | (with_reducible assumption) | skip
  all_goals exact fin_ret (.inl rfl) (by cbv) (by simp) (To.fresh ⟨.f (by decide +kernel), trivial⟩)
def kPart : Kr
  | [.f .f64 x] => some (.f .f64 fun _ => partF (x .u), [], fun _ => isNaN .f64 (x .u) = false)
  | _ => none
def ctPart : CT := [(154, .r kTrunc)]
theorem ctPart_ok : CTok Try.prog ctPart := .cons trunc_tells (.nil _)
theorem part_tells : Tells Try.prog 137 (.r kPart) := by
  intro args r H' p hr hp
  unfold kPart at hr
  split at hr <;> cases hr
  rename_i x
  have hn : isNaN .f64 (x .u) = false := hp
  refine ⟨.f, .nil, Con.of ttok Try.func137 rfl rfl (Nat.le_refl _) (AW.exec ttok ctPart_ok (by cbv) ?_)⟩
  simp only [natCast_int, Post, All, thenA, canon0, canon064, and_true, true_and, forall_const, implies_true, decide_eq_true_eq, decide_eq_false_iff_not, Bool.not_eq_true', Bool.not_eq_false', Bool.true_and, Bool.and_true, beq_true, beq_false, Int.toNat_natCast, Int.ofNat_lt, Int.ofNat_le, Nat.zero_add, Nat.add_zero, imp_self, Bool.cond_false_right, Bool.cond_true_left, Bool.cond_true_right, IsF, rdF_eq, fOf, AV.f.injEq, exists_eq', free_list, free_fn0, List.not_mem_nil, List.mem_cons, false_imp, forall_eq, or_false, free_i, free_f, free_b, ren_f, ren_i, ren_b, and_self, bne_iff_ne, bne_eq_false_iff_eq, ne_eq, Int.natCast_inj, or_true, true_or, freeB_list, unfr_f, unfr_i, unfr_b, unfr_c, unfr_s, free_c, free_s, ren_c, ren_s, unfr_ro, unfr_rptr, ren_ro, free_ll, free_box, kill_f, kill_i, kill_b, kill_c, kill_s, kill_rof, kill_rot, Int.toNat_zero, isFF_ll, rowN_ll, rowX_ll, AllFree, Option.some.injEq, Prod.mk.injEq, Bool.false_eq_true, Bool.true_eq_false, hn, cn1]
  (repeat' first | with_reducible assumption | with_reducible apply And.intro | with_reducible intro hh) <;> first | ((first | with_reducible show (_ : Int) ≤ _ | with_reducible show (_ : Int) < _ | with_reducible show (_ : Nat) ≤ _ | with_reducible show (_ : Nat) < _ | with_reducible show (_ : Int) = _ | with_reducible show (_ : Nat) = _ | with_reducible show ¬ _ | with_reducible show _ ≠ _) <;> first | omega | (simp only [Bool.and_eq_true, Bool.or_eq_false_iff, Bool.not_eq_false', Bool.not_eq_true', decide_eq_true_eq, decide_eq_false_iff_not] at *; omega) | (with_reducible assumption)) | (with_reducible assumption) | skip
  all_goals refine fin_ret (.inl rfl) (by cbv) (by simp) (To.fresh ⟨.f ?_, trivial⟩)
  all_goals simp_all [partF, fracF, wholeF]
def kSine : Kr
  | [.f .f64 x] => some (.f .f64 fun _ => sineF (x .u), [], fun _ => isNaN .f64 (x .u) = false)
  | _ => none
def ctSine : CT := [(137, .r kPart)]
theorem ctSine_ok : CTok Try.prog ctSine := .cons part_tells (.nil _)
theorem kD_0 : (4620693217682128896 : Nat) = kD 0 := by decide +kernel
theorem fold_11 {f : Nat} (h1 : fge .f64 f halfD = true) (h2 : fgt .f64 (fsub .f64 f halfD) quarD = true) : fsub .f64 halfD (fsub .f64 f halfD) = foldF f := by unfold foldF; rw [h1, cond_true, h2]; rfl
theorem fold_10 {f : Nat} (h1 : fge .f64 f halfD = true) (h2 : fgt .f64 (fsub .f64 f halfD) quarD = false) : fsub .f64 f halfD = foldF f := by unfold foldF; rw [h1, cond_true, h2]; rfl
theorem fold_01 {f : Nat} (h1 : fge .f64 f halfD = false) (h2 : fgt .f64 f quarD = true) : fsub .f64 halfD f = foldF f := by unfold foldF; rw [h1, cond_false, h2]; rfl
theorem fold_00 {f : Nat} (h1 : fge .f64 f halfD = false) (h2 : fgt .f64 f quarD = false) : f = foldF f := by unfold foldF; rw [h1, cond_false, h2]; rfl
set_option maxHeartbeats 4000000 in
theorem sine_tells : Tells Try.prog 138 (.r kSine) := by
  intro args r H' p hr hp
  unfold kSine at hr
  split at hr <;> cases hr
  rename_i x
  have hn : isNaN .f64 (x .u) = false := hp
  refine ⟨.f, .nil, Con.of ttok Try.func138 rfl rfl (Nat.le_refl _) (AW.exec ttok ctSine_ok (by cbv) ?_)⟩
  simp only [natCast_int, Post, All, thenA, canon0, canon064, and_true, true_and, forall_const, implies_true, decide_eq_true_eq, decide_eq_false_iff_not, Bool.not_eq_true', Bool.not_eq_false', Bool.true_and, Bool.and_true, beq_true, beq_false, Int.toNat_natCast, Int.ofNat_lt, Int.ofNat_le, Nat.zero_add, Nat.add_zero, imp_self, Bool.cond_false_right, Bool.cond_true_left, Bool.cond_true_right, IsF, rdF_eq, fOf, AV.f.injEq, exists_eq', free_list, free_fn0, List.not_mem_nil, List.mem_cons, false_imp, forall_eq, or_false, free_i, free_f, free_b, ren_f, ren_i, ren_b, and_self, bne_iff_ne, bne_eq_false_iff_eq, ne_eq, Int.natCast_inj, or_true, true_or, freeB_list, unfr_f, unfr_i, unfr_b, unfr_c, unfr_s, free_c, free_s, ren_c, ren_s, unfr_ro, unfr_rptr, ren_ro, free_ll, free_box, kill_f, kill_i, kill_b, kill_c, kill_s, kill_rof, kill_rot, Int.toNat_zero, isFF_ll, rowN_ll, rowX_ll, AllFree, Option.some.injEq, Prod.mk.injEq, Bool.false_eq_true, Bool.true_eq_false, hn, cn1, cn2, cn3, cn4, cn5, cn6]
  (repeat' first | with_reducible assumption | with_reducible apply And.intro | with_reducible intro hh) <;> first | ((first | with_reducible show (_ : Int) ≤ _ | with_reducible show (_ : Int) < _ | with_reducible show (_ : Nat) ≤ _ | with_reducible show (_ : Nat) < _ | with_reducible show (_ : Int) = _ | with_reducible show (_ : Nat) = _ | with_reducible show ¬ _ | with_reducible show _ ≠ _) <;> first | omega | (simp only [Bool.and_eq_true, Bool.or_eq_false_iff, Bool.not_eq_false', Bool.not_eq_true', decide_eq_true_eq, decide_eq_false_iff_not] at *; omega) | (with_reducible assumption)) | (with_reducible assumption) | skip
  all_goals first
    | have hz := fold_11 ‹fge .f64 (partF (x .u)) 4602678819172646912 = true› ‹fgt .f64 (fsub .f64 (partF (x .u)) 4602678819172646912) 4598175219545276416 = true›
    | have hz := fold_10 ‹fge .f64 (partF (x .u)) 4602678819172646912 = true› ‹fgt .f64 (fsub .f64 (partF (x .u)) 4602678819172646912) 4598175219545276416 = false›
    | have hz := fold_01 ‹fge .f64 (partF (x .u)) 4602678819172646912 = false› ‹fgt .f64 (partF (x .u)) 4598175219545276416 = true›
    | have hz := fold_00 ‹fge .f64 (partF (x .u)) 4602678819172646912 = false› ‹fgt .f64 (partF (x .u)) 4598175219545276416 = false›
  all_goals have hz' : fmul .f64 _ 4618760256179416344 = zF (x .u) := congrArg (fun z => fmul .f64 z 4618760256179416344) hz
  all_goals refine AW.loopH (ι := Nat) (fun j => j ≤ 8) (fun j => 8 - j) (fun j => mkE Try.f138.ntmps [(4, .b fun _ => fge .f64 (partF (x .u)) halfD), (5, .f .f64 fun _ => zF (x .u)), (6, .f .f64 fun _ => fmul .f64 (zF (x .u)) (zF (x .u))), (7, .f .f64 fun _ => pD (fmul .f64 (zF (x .u)) (zF (x .u))) j), (8, .f .f64 fun _ => kD j)]) (fun j => []) 0 (Nat.zero_le _) (To.fresh ?_) ?_
  all_goals first
    | (rintro Q' hQ j hj; skip)
    | ((repeat' first | exact AllTo.nil | apply AllTo.cons) <;> first | exact AvTo.dead _ | exact AvTo.f rfl | exact AvTo.f kD_0 | exact AvTo.b (Eq.symm (by assumption)) | exact AvTo.f hz' | exact AvTo.f (by rw [← hz']) | skip)
  all_goals by_cases hj8 : j < 8
  all_goals first
    | have h1 : fsub .f64 (kD j) 4607182418800017408 = kD (j + 1) := kD_next ⟨j, hj8⟩
      have h2 : fmul .f64 (fmul .f64 4611686018427387904 (kD j)) (fadd .f64 (fmul .f64 4611686018427387904 (kD j)) 4607182418800017408) = denD j := kD_den ⟨j, hj8⟩
      have h3 : fge .f64 (kD j) 4607182418800017408 = true := kD_more ⟨j, hj8⟩
      refine AW.exec ttok ctSine_ok (by cbv) ?_
      simp only [natCast_int, Post, All, thenA, canon0, canon064, and_true, true_and, forall_const, implies_true, decide_eq_true_eq, decide_eq_false_iff_not, Bool.not_eq_true', Bool.not_eq_false', Bool.true_and, Bool.and_true, beq_true, beq_false, Int.toNat_natCast, Int.ofNat_lt, Int.ofNat_le, Nat.zero_add, Nat.add_zero, imp_self, Bool.cond_false_right, Bool.cond_true_left, Bool.cond_true_right, IsF, rdF_eq, fOf, AV.f.injEq, exists_eq', free_list, free_fn0, List.not_mem_nil, List.mem_cons, false_imp, forall_eq, or_false, free_i, free_f, free_b, ren_f, ren_i, ren_b, and_self, bne_iff_ne, bne_eq_false_iff_eq, ne_eq, Int.natCast_inj, or_true, true_or, freeB_list, unfr_f, unfr_i, unfr_b, unfr_c, unfr_s, free_c, free_s, ren_c, ren_s, unfr_ro, unfr_rptr, ren_ro, free_ll, free_box, kill_f, kill_i, kill_b, kill_c, kill_s, kill_rof, kill_rot, Int.toNat_zero, isFF_ll, rowN_ll, rowX_ll, AllFree, Option.some.injEq, Prod.mk.injEq, Bool.false_eq_true, Bool.true_eq_false, cn1, cn5, h1, h2, h3]
      (repeat' first | with_reducible assumption | with_reducible apply And.intro | with_reducible intro hh) <;> first | ((first | with_reducible show (_ : Int) ≤ _ | with_reducible show (_ : Int) < _ | with_reducible show (_ : Nat) ≤ _ | with_reducible show (_ : Nat) < _ | with_reducible show (_ : Int) = _ | with_reducible show (_ : Nat) = _ | with_reducible show ¬ _ | with_reducible show _ ≠ _) <;> first | omega | (simp only [Bool.and_eq_true, Bool.or_eq_false_iff, Bool.not_eq_false', Bool.not_eq_true', decide_eq_true_eq, decide_eq_false_iff_not] at *; omega) | (with_reducible assumption)) | (with_reducible assumption) | skip
      refine ⟨j + 1, by omega, by omega, To.fresh ?_⟩
      (repeat' first | exact AllTo.nil | apply AllTo.cons) <;> first | exact AvTo.dead _ | exact AvTo.f rfl | exact AvTo.b rfl | exact AvTo.f h1
    | skip
  all_goals
    obtain rfl : j = 8 := by omega
    have h3 : fge .f64 (kD 8) 4607182418800017408 = false := kD_end
    refine AW.exec ttok ctSine_ok (by cbv) ?_
    simp only [natCast_int, Post, All, thenA, canon0, canon064, and_true, true_and, forall_const, implies_true, decide_eq_true_eq, decide_eq_false_iff_not, Bool.not_eq_true', Bool.not_eq_false', Bool.true_and, Bool.and_true, beq_true, beq_false, Int.toNat_natCast, Int.ofNat_lt, Int.ofNat_le, Nat.zero_add, Nat.add_zero, imp_self, Bool.cond_false_right, Bool.cond_true_left, Bool.cond_true_right, IsF, rdF_eq, fOf, AV.f.injEq, exists_eq', free_list, free_fn0, List.not_mem_nil, List.mem_cons, false_imp, forall_eq, or_false, free_i, free_f, free_b, ren_f, ren_i, ren_b, and_self, bne_iff_ne, bne_eq_false_iff_eq, ne_eq, Int.natCast_inj, or_true, true_or, freeB_list, unfr_f, unfr_i, unfr_b, unfr_c, unfr_s, free_c, free_s, ren_c, ren_s, unfr_ro, unfr_rptr, ren_ro, free_ll, free_box, kill_f, kill_i, kill_b, kill_c, kill_s, kill_rof, kill_rot, Int.toNat_zero, isFF_ll, rowN_ll, rowX_ll, AllFree, Option.some.injEq, Prod.mk.injEq, Bool.false_eq_true, Bool.true_eq_false, cn1, cn5, h3]
    (repeat' first | with_reducible assumption | with_reducible apply And.intro | with_reducible intro hh) <;> first | ((first | with_reducible show (_ : Int) ≤ _ | with_reducible show (_ : Int) < _ | with_reducible show (_ : Nat) ≤ _ | with_reducible show (_ : Nat) < _ | with_reducible show (_ : Int) = _ | with_reducible show (_ : Nat) = _ | with_reducible show ¬ _ | with_reducible show _ ≠ _) <;> first | omega | (simp only [Bool.and_eq_true, Bool.or_eq_false_iff, Bool.not_eq_false', Bool.not_eq_true', decide_eq_true_eq, decide_eq_false_iff_not] at *; omega) | (with_reducible assumption)) | (with_reducible assumption) | skip
    obtain ⟨rfl⟩ := hQ
    refine Post.eval (by cbv) ?_
    simp only [natCast_int, Post, All, thenA, canon0, canon064, and_true, true_and, forall_const, implies_true, decide_eq_true_eq, decide_eq_false_iff_not, Bool.not_eq_true', Bool.not_eq_false', Bool.true_and, Bool.and_true, beq_true, beq_false, Int.toNat_natCast, Int.ofNat_lt, Int.ofNat_le, Nat.zero_add, Nat.add_zero, imp_self, Bool.cond_false_right, Bool.cond_true_left, Bool.cond_true_right, IsF, rdF_eq, fOf, AV.f.injEq, exists_eq', free_list, free_fn0, List.not_mem_nil, List.mem_cons, false_imp, forall_eq, or_false, free_i, free_f, free_b, ren_f, ren_i, ren_b, and_self, bne_iff_ne, bne_eq_false_iff_eq, ne_eq, Int.natCast_inj, or_true, true_or, freeB_list, unfr_f, unfr_i, unfr_b, unfr_c, unfr_s, free_c, free_s, ren_c, ren_s, unfr_ro, unfr_rptr, ren_ro, free_ll, free_box, kill_f, kill_i, kill_b, kill_c, kill_s, kill_rof, kill_rot, Int.toNat_zero, isFF_ll, rowN_ll, rowX_ll, AllFree, Option.some.injEq, Prod.mk.injEq, Bool.false_eq_true, Bool.true_eq_false]
    (repeat' first | with_reducible assumption | with_reducible apply And.intro | with_reducible intro hh) <;> first | ((first | with_reducible show (_ : Int) ≤ _ | with_reducible show (_ : Int) < _ | with_reducible show (_ : Nat) ≤ _ | with_reducible show (_ : Nat) < _ | with_reducible show (_ : Int) = _ | with_reducible show (_ : Nat) = _ | with_reducible show ¬ _ | with_reducible show _ ≠ _) <;> first | omega | (simp only [Bool.and_eq_true, Bool.or_eq_false_iff, Bool.not_eq_false', Bool.not_eq_true', decide_eq_true_eq, decide_eq_false_iff_not] at *; omega) | (with_reducible assumption)) | (with_reducible assumption) | skip
    all_goals refine fin_ret (.inl rfl) (by cbv) (by simp) (To.fresh ⟨.f ?_, trivial⟩)
    all_goals first
      | (have hb : fge .f64 (partF (x .u)) halfD = true := by assumption
         show _ = sineF (x .u)
         unfold sineF
         rw [hb, cond_true]
         done)
      | (have hb : fge .f64 (partF (x .u)) halfD = false := by assumption
         show _ = sineF (x .u)
         unfold sineF
         rw [hb, cond_false]
         done)
      | (exfalso; simp_all; done)
      | trace_state
end Go.Proofs.Ytfdmmbcjidkmoaa
