/- Numbers that are the same to the last bit, on both sides; lists, steps, pulses and desks of them. -/
import Derived.Test.YthfgigndipjbjaaHg
import Derived.Test.YthfgigndipjbjaaAwv
import Derived.Laws.Externs
set_option linter.unusedSimpArgs false
set_option linter.unusedVariables false
namespace Go.Proofs.Ythfgigndipjbjaa
open Go.Aw
/-! ### Words of numbers -/
def k32bits : Kx
  | [.f .f32 x] => some (.i .u32 fun _ => (x .u : Int), fun _ => isNaN .f32 (x .u) = false)
  | _ => none
theorem f32bits_tells : Tells Try.prog 54 (.x k32bits) := by
  intro args r p hr hp w ρ L H vals hR hl hs
  unfold k32bits at hr
  split at hr <;> cases hr
  rename_i x
  obtain ⟨v, rfl⟩ : ∃ v, vals = #[v] := by
    obtain ⟨l⟩ := vals
    match l, hl with
    | [v], _ => exact ⟨v, rfl⟩
  obtain ⟨b, rfl, hb⟩ := (hs 0 _ v rfl rfl).f_inv
  have hrun := run_callFunc_extern (P := Try.prog) (e := Extern.MathFloatBits.float32bits) Try.func54 (by kernel_rfl) (by kernel_rfl) (by kernel_rfl) (by kernel_rfl) #[.float .f32 b] w
  have hb' : b = x .u := by rw [← hb]; exact (canon_of_not (by rw [← isNaN_canon, hb]; exact hp)).symm
  have e : Extern.MathFloatBits.float32bits #[.float .f32 b] = pure (.int .u32 b) := rfl
  rw [e] at hrun
  exact ⟨.int .u32 b, w, ρ, .inl (by rw [hrun]; simp), hR, Pass.refl _ _ _, by rw [hb']; exact .i⟩
def k64bits : Kx
  | [.f .f64 x] => some (.i .u64 fun _ => (x .u : Int), fun _ => isNaN .f64 (x .u) = false)
  | _ => none
theorem f64bits_tells : Tells Try.prog 62 (.x k64bits) := by
  intro args r p hr hp w ρ L H vals hR hl hs
  unfold k64bits at hr
  split at hr <;> cases hr
  rename_i x
  obtain ⟨v, rfl⟩ : ∃ v, vals = #[v] := by
    obtain ⟨l⟩ := vals
    match l, hl with
    | [v], _ => exact ⟨v, rfl⟩
  obtain ⟨b, rfl, hb⟩ := (hs 0 _ v rfl rfl).f_inv
  have hrun := run_callFunc_extern (P := Try.prog) (e := Extern.MathFloatBits.float64bits) Try.func62 (by kernel_rfl) (by kernel_rfl) (by kernel_rfl) (by kernel_rfl) #[.float .f64 b] w
  have hb' : b = x .u := by rw [← hb]; exact (canon_of_not (by rw [← isNaN_canon, hb]; exact hp)).symm
  have e : Extern.MathFloatBits.float64bits #[.float .f64 b] = pure (.int .u64 b) := rfl
  rw [e] at hrun
  exact ⟨.int .u64 b, w, ρ, .inl (by rw [hrun]; simp), hR, Pass.refl _ _ _, by rw [hb']; exact .i⟩
section
variable {P : Program} {N0 : Nat}
/-- A whole number as int64, wrapped. -/
theorem AOps.convW {ops : Array Oper} {K : List AV → Heap → Prop} {i : Nat} {o : Oper} {env : List AV} {H : Heap} {s d : TypeId} {x : Operand} {k : IntKind} {n : Th Int} (ho : ops[i]? = some o) (hop : o.op = .convert s d x) (hg : o.guard = none) (hs : (P.underlying s).isSome = true) (hd : P.underlying d = some (.int .i64))
    (hx : aeval env x = .i k n) (h : AOps P ops N0 K (i + 1) (aput env o.dst (.i .i64 fun _ => IntKind.i64.wrap (n .u))) H) : AOps P ops N0 K i env H := by
  intro Q w0 ρ0 ρ a w st hQ
  have hlt : i < ops.size := (Array.getElem?_eq_some_iff.1 ho).1
  rw [range'_step hlt]
  simp only [wpOps, ho]
  have hdn : Done ops env o := .inl hg
  rw [if_pos (hdn.wanted st)]
  have ev : a.eval x = .int k (n .u) := by
    have := aeval_sound st.env x
    rw [hx] at this
    exact this.i_inv
  have run : (execOp a.eval o).run P w = .ok (.value (.int .i64 (IntKind.i64.wrap (n .u)))) w := by
    have := run_conv_int (P := P) (w := w) s d .i64 k (n .u) hs hd
    unfold execOp
    simp only [hop]
    rw [ev]
    simp [this]
  have s' := st.step st.rel (Pass.refl _ _ _) (r := .i .i64 fun _ => IntKind.i64.wrap (n .u)) (v := .int .i64 (IntKind.i64.wrap (n .u))) .i o.dst
  left
  unfold Oper.wp Oper.upon
  rw [run]
  exact h Q w0 ρ0 ρ _ w s' hQ
end
def kSign : Kr
  | [.f .f64 x] => some (.b fun _ => decide (IntKind.i64.wrap (x .u : Int) < 0), [], fun _ => isNaN .f64 (x .u) = false)
  | _ => none
def ct64b : CT := [(62, .x k64bits)]
theorem ct64b_ok : CTok Try.prog ct64b := .cons f64bits_tells (.nil _)
theorem feq_selfB {k : FloatKind} {x : Nat} : feq k x x = !isNaN k x := by
  cases h : isNaN k x with
  | false => exact feq_self h
  | true =>
    obtain ⟨s, t, e⟩ := read_nan h
    unfold feq Ieee.Format.order
    rw [e, order_nan_l]
    rfl
theorem widen_nan {x : Nat} (h : isNaN .f32 x = false) : isNaN .f64 (f2f .f32 x .f64) = false := by
  obtain ⟨r, hr⟩ := Option.isSome_iff_exists.1 (widen_some h)
  unfold f2f
  rw [hr]
  show isNaN .f64 r = false
  unfold floatToFloatBits at hr
  rw [if_neg (by decide)] at hr
  split at hr
  · cases hr
  · cases hr; exact isNaN_encode_inf ..
  · split at hr
    · cases hr
    · cases hr; exact isNaN_encode_number ..
def bitsF (x : Nat) : Nat := bif isNaN .f32 x then 2143289344 else x
def kBits : Kr
  | [.f .f32 x] => some (.i .i64 fun _ => (bitsF (x .u) : Int), [], fun _ => x .u < 4294967296)
  | _ => none
def ct32b : CT := [(54, .x k32bits)]
theorem ct32b_ok : CTok Try.prog ct32b := .cons f32bits_tells (.nil _)
theorem l01Bits_tells : Tells Try.prog 51 (.r kBits) := by
  intro args r H' p hr hp
  unfold kBits at hr
  split at hr <;> cases hr
  rename_i x
  have hp : x .u < 4294967296 := hp
  refine ⟨.i, .nil, Con.of ttok Try.func51 rfl rfl (Nat.zero_le _) (AW.exec ttok ct32b_ok (by cbv) ?_)⟩
  simp only [natCast_int, Post, All, thenA, canon0, canon064, and_true, true_and, forall_const, implies_true, decide_eq_true_eq, decide_eq_false_iff_not, Bool.not_eq_true', Bool.not_eq_false', Bool.true_and, Bool.and_true, beq_true, beq_false, Int.toNat_natCast, Int.ofNat_lt, Int.ofNat_le, Nat.zero_add, Nat.add_zero, imp_self, Bool.cond_false_right, Bool.cond_true_left, Bool.cond_true_right, IsF, rdF_eq, fOf, AV.f.injEq, exists_eq', free_list, free_fn0, List.not_mem_nil, List.mem_cons, false_imp, forall_eq, or_false, free_i, free_f, free_b, ren_f, ren_i, ren_b, and_self, bne_iff_ne, bne_eq_false_iff_eq, ne_eq, Int.natCast_inj, or_true, true_or, freeB_list, unfr_f, unfr_i, unfr_b, unfr_c, unfr_s, free_c, free_s, ren_c, ren_s, unfr_ro, unfr_rptr, ren_ro, free_ll, free_box, kill_f, kill_i, kill_b, kill_c, kill_s, kill_rof, kill_rot, Int.toNat_zero, isFF_ll, rowN_ll, rowX_ll, AllFree, Option.some.injEq, Prod.mk.injEq, Bool.false_eq_true, Bool.true_eq_false, feq_selfB, Bool.not_not]
  (repeat' first | with_reducible assumption | with_reducible apply And.intro | with_reducible intro hh) <;> first | ((first | with_reducible show (_ : Int) ≤ _ | with_reducible show (_ : Int) < _ | with_reducible show (_ : Nat) ≤ _ | with_reducible show (_ : Nat) < _ | with_reducible show (_ : Int) = _ | with_reducible show (_ : Nat) = _ | with_reducible show ¬ _ | with_reducible show _ ≠ _) <;> first | omega | (simp only [Bool.and_eq_true, Bool.or_eq_false_iff, Bool.not_eq_false', Bool.not_eq_true', decide_eq_true_eq, decide_eq_false_iff_not] at *; omega) | (with_reducible assumption)) | (with_reducible assumption) | skip
  all_goals refine fin_ret (.inl rfl) (by cbv) (by simp) (To.fresh ⟨.i ?_, trivial⟩)
  all_goals simp_all [bitsF]
def sameW (a b : Nat) : Bool := decide (bitsF a = bitsF b)
theorem sameW_int (a b : Nat) : ((bitsF a : Int) == (bitsF b : Int)) = sameW a b := by
  unfold sameW
  rw [Bool.eq_iff_iff]
  simp only [beq_iff_eq, decide_eq_true_eq]
  omega
theorem isNaN_the : isNaN .f32 2143289344 = true := isNaN_nanOf .f32
theorem sameW_impl {a b : Nat} (ha : a < 4294967296) (hb : b < 4294967296) : sameW a b = bif isNaN .f32 a || isNaN .f32 b then isNaN .f32 a && isNaN .f32 b else feq .f32 a b && (signF a == signF b) := by
  unfold sameW bitsF
  cases h1 : isNaN .f32 a <;> cases h2 : isNaN .f32 b
  · simp only [cond_false, Bool.or_self]
    exact (same_words ha hb h1 h2).symm
  · simp only [cond_false, cond_true, Bool.or_true, Bool.and_true, decide_eq_false_iff_not]
    intro e
    rw [e, isNaN_the] at h1
    cases h1
  · simp only [cond_false, cond_true, Bool.or_false, Bool.and_false, decide_eq_false_iff_not]
    intro e
    rw [← e, isNaN_the] at h2
    cases h2
  · rfl
def kSameN : Kr
  | [.f .f32 a, .f .f32 b] => some (.b fun _ => sameW (a .u) (b .u), [], fun _ => a .u < 4294967296 ∧ b .u < 4294967296)
  | _ => none
def ctSameN1 : CT := [(51, .r kBits)]
theorem ctSameN1_ok : CTok Try.prog ctSameN1 := .cons l01Bits_tells (.nil _)
theorem l01Same_tells : Tells Try.prog 45 (.r kSameN) := by
  intro args r H' p hr hp
  unfold kSameN at hr
  split at hr <;> cases hr
  rename_i a b
  obtain ⟨h1, h2⟩ := hp
  refine ⟨.b, .nil, Con.of ttok Try.func45 rfl rfl (Nat.zero_le _) (AW.exec ttok ctSameN1_ok (by cbv) ?_)⟩
  simp only [natCast_int, Post, All, thenA, canon0, canon064, and_true, true_and, forall_const, implies_true, decide_eq_true_eq, decide_eq_false_iff_not, Bool.not_eq_true', Bool.not_eq_false', Bool.true_and, Bool.and_true, beq_true, beq_false, Int.toNat_natCast, Int.ofNat_lt, Int.ofNat_le, Nat.zero_add, Nat.add_zero, imp_self, Bool.cond_false_right, Bool.cond_true_left, Bool.cond_true_right, IsF, rdF_eq, fOf, AV.f.injEq, exists_eq', free_list, free_fn0, List.not_mem_nil, List.mem_cons, false_imp, forall_eq, or_false, free_i, free_f, free_b, ren_f, ren_i, ren_b, and_self, bne_iff_ne, bne_eq_false_iff_eq, ne_eq, Int.natCast_inj, or_true, true_or, freeB_list, unfr_f, unfr_i, unfr_b, unfr_c, unfr_s, free_c, free_s, ren_c, ren_s, unfr_ro, unfr_rptr, ren_ro, free_ll, free_box, kill_f, kill_i, kill_b, kill_c, kill_s, kill_rof, kill_rot, Int.toNat_zero, isFF_ll, rowN_ll, rowX_ll, AllFree, Option.some.injEq, Prod.mk.injEq, Bool.false_eq_true, Bool.true_eq_false, h1, h2]
  (repeat' first | with_reducible assumption | with_reducible apply And.intro | with_reducible intro hh) <;> first | ((first | with_reducible show (_ : Int) ≤ _ | with_reducible show (_ : Int) < _ | with_reducible show (_ : Nat) ≤ _ | with_reducible show (_ : Nat) < _ | with_reducible show (_ : Int) = _ | with_reducible show (_ : Nat) = _ | with_reducible show ¬ _ | with_reducible show _ ≠ _) <;> first | omega | (simp only [Bool.and_eq_true, Bool.or_eq_false_iff, Bool.not_eq_false', Bool.not_eq_true', decide_eq_true_eq, decide_eq_false_iff_not] at *; omega) | (with_reducible assumption)) | (with_reducible assumption) | skip
  exact fin_ret (.inl rfl) (by cbv) (by simp) (To.fresh ⟨.b (sameW_int _ _), trivial⟩)
/-! ### Lists -/
def W32 (n : Nat) (x : Nat → Nat) : Prop := ∀ i, i < n → x i < 4294967296
def sameLW (n : Nat) (x : Nat → Nat) (m : Nat) (y : Nat → Nat) : Bool := decide (n = m) && allN (fun i => sameW (x i) (y i)) n
def kSameL : Kr
  | [a, b] => match asL a, asL b with
    | some (n, g), some (m, h) => some (.b fun _ => sameLW (n .u) (rdF g) (m .u) (rdF h), [], fun _ => (IsF n g ∧ IsF m h) ∧ W32 (n .u) (rdF g) ∧ W32 (m .u) (rdF h))
    | _, _ => none
  | _ => none
def ctSameL1 : CT := [(45, .r kSameN)]
theorem ctSameL1_ok : CTok Try.prog ctSameL1 := .cons l01Same_tells (.nil _)
end Go.Proofs.Ythfgigndipjbjaa
