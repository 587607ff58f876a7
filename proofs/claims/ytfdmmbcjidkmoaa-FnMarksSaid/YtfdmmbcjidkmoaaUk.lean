/- Phases drawn. -/
/- Products and lengths of complex numbers, phases that are good, what the laws draw. -/
import Derived.Test.YtfdmmbcjidkmoaaUi
import Derived.Test.YtfdmmbcjidkmoaaUc
import Derived.Test.YtfdmmbcjidkmoaaGd
set_option linter.unusedSimpArgs false
set_option linter.unusedVariables false
namespace Go.Proofs.Ytfdmmbcjidkmoaa
open Go.Aw
theorem cn4f : canon .f32 1082130432 = 1082130432 := by decide +kernel
def sdK (n : Nat) (b : Nat → Int) : Nat → Int
  | 0 => 0
  | j + 1 => seedN (sdK n b j) (bAt n b j)
def pickK9 (n : Nat) (b : Nat → Int) (j : Nat) : Int := pickN 9 n b j (sdK n b j)
def quartF (p : Int) : Nat := fdiv .f32 (itof .f32 (p - 4)) 1082130432
def phRe (n : Nat) (b : Nat → Int) (i : Nat) : Nat := quartF (pickK9 n b (2 * i))
def phIm (n : Nat) (b : Nat → Int) (i : Nat) : Nat := quartF (pickK9 n b (2 * i + 1))
theorem pickK9_in {n : Nat} {b : Nat → Int} (hb : ∀ k, k < n → 0 ≤ b k ∧ b k < 256) (j : Nat) : 0 ≤ pickK9 n b j ∧ pickK9 n b j < 9 := by
  unfold pickK9 pickN
  omega
def iOf : AV → Int
  | .i _ x => x .u
  | _ => 0
def rdB (g : Th Nat → Nat → AV) : Nat → Int := fun i => iOf (g (fun _ => i) 0)
def IsB (n : Th Nat) (g : Th Nat → Nat → AV) : Prop := n .u ≤ 1048576 ∧ ∀ i, i < n .u → ∃ x, g (fun _ => i) 0 = .i .u8 x ∧ 0 ≤ x .u ∧ x .u < 256
theorem Sub.listB {n : Th Nat} {g : Th Nat → Nat → AV} (h : IsB n g) : Sub (.ro false n 1 g) (Go.Proofs.Ytfdmmbcjidkmoaa.listB n (rdB g)) := by
  intro w ρ N L v hs
  cases hs with
  | ro0 h0 => exact .ro0 h0
  | ro u hn hq hc hsim =>
    refine .ro u hn hq hc fun i c hi hcc => ?_
    obtain rfl : c = 0 := by omega
    obtain ⟨x, hx, _⟩ := h.2 i hi
    have := hsim i 0 hi (by omega)
    simp only [hx] at this
    simp only [rdB, hx, iOf]
    exact this
def kB10 : Kg
  | [.ro false n 1 g, .i .i64 m], [] => some (.one (.own 0 (fun _ => 0) (fun _ => (m .u).toNat) 1) [blkC true (fun _ => (m .u).toNat) (phRe (n .u) (rdB g)) (phIm (n .u) (rdB g))] fun _ => IsB n g ∧ 0 ≤ m .u ∧ m .u ≤ 1048576)
  | _, _ => none
theorem EntTo.boxL {H H' : Heap} {σ : List Nat} {fr fr' : Bool} {l l' : List AV} (hf : fr' = true → fr = true) (h : AllTo H H' σ true l l') : EntTo H H' σ (some (fr, .box l)) (some (fr', .box l')) := ⟨hf, BlkTo.box h⟩
end Go.Proofs.Ytfdmmbcjidkmoaa
set_option linter.unusedSimpArgs false
set_option linter.unusedVariables false
namespace Go.Proofs.Ytfdmmbcjidkmoaa
open Go.Aw
abbrev wd (x : Nat) : Nat := f2f .f32 x .f64
def tRe (a b c d : Nat) : Nat := fsub .f64 (fmul .f64 (wd a) (wd c)) (fmul .f64 (wd b) (wd d))
def tIm (a b c d : Nat) : Nat := fadd .f64 (fmul .f64 (wd a) (wd d)) (fmul .f64 (wd b) (wd c))
def kTimes : Kr
  | [.c .f32 a b, .c .f32 c d] => some (.tup [.f .f64 fun _ => tRe (a .u) (b .u) (c .u) (d .u), .f .f64 fun _ => tIm (a .u) (b .u) (c .u) (d .u)], [], fun _ => True)
  | _ => none
theorem times_tells : Tells Try.prog 139 (.r kTimes) := by
  intro args r H' p hr hp
  unfold kTimes at hr
  split at hr <;> cases hr
  refine ⟨allFr_tup2 .f .f, .nil, Con.of ttok Try.func139 rfl rfl (Nat.le_refl _) (AW.exec ttok (CTok.nil _) (by cbv) ?_)⟩
  simp only [natCast_int, Post, All, thenA, canon0, canon064, and_true, true_and, forall_const, implies_true, decide_eq_true_eq, decide_eq_false_iff_not, Bool.not_eq_true', Bool.not_eq_false', Bool.true_and, Bool.and_true, beq_true, beq_false, Int.toNat_natCast, Int.ofNat_lt, Int.ofNat_le, Nat.zero_add, Nat.add_zero, imp_self, Bool.cond_false_right, Bool.cond_true_left, Bool.cond_true_right, IsF, rdF_eq, fOf, AV.f.injEq, exists_eq', free_list, free_fn0, List.not_mem_nil, List.mem_cons, false_imp, forall_eq, or_false, free_i, free_f, free_b, ren_f, ren_i, ren_b, and_self, bne_iff_ne, bne_eq_false_iff_eq, ne_eq, Int.natCast_inj, or_true, true_or, freeB_list, unfr_f, unfr_i, unfr_b, unfr_c, unfr_s, free_c, free_s, ren_c, ren_s, unfr_ro, unfr_rptr, ren_ro, free_ll, free_box, kill_f, kill_i, kill_b, kill_c, kill_s, kill_rof, kill_rot, Int.toNat_zero, isFF_ll, rowN_ll, rowX_ll, AllFree, Option.some.injEq, Prod.mk.injEq, Bool.false_eq_true, Bool.true_eq_false]
  (repeat' first | with_reducible assumption | with_reducible apply And.intro | with_reducible intro hh) <;> first | ((first | with_reducible show (_ : Int) ≤ _ | with_reducible show (_ : Int) < _ | with_reducible show (_ : Nat) ≤ _ | with_reducible show (_ : Nat) < _ | with_reducible show (_ : Int) = _ | with_reducible show (_ : Nat) = _ | with_reducible show ¬ _ | with_reducible show _ ≠ _) <;> first | omega | (simp only [Bool.and_eq_true, Bool.or_eq_false_iff, Bool.not_eq_false', Bool.not_eq_true', decide_eq_true_eq, decide_eq_false_iff_not] at *; omega) | (with_reducible assumption)) | (with_reducible assumption) | skip
  all_goals exact fin_ret (.inl rfl) (by cbv) (by simp) (To.fresh (.cons (.tup (.cons (.f rfl) (.cons (.f rfl) .nil))) .nil))
def mRe (a b c d : Nat) : Nat := f2f .f64 (tRe a b c d) .f32
def mIm (a b c d : Nat) : Nat := f2f .f64 (tIm a b c d) .f32
def kMulC : Kr
  | [.c .f32 a b, .c .f32 c d] => some (.c .f32 (fun _ => mRe (a .u) (b .u) (c .u) (d .u)) fun _ => mIm (a .u) (b .u) (c .u) (d .u), [], fun _ => f2fOk .f64 (tRe (a .u) (b .u) (c .u) (d .u)) .f32 ∧ f2fOk .f64 (tIm (a .u) (b .u) (c .u) (d .u)) .f32)
  | _ => none
def ctMulC : CT := [(139, .r kTimes)]
theorem ctMulC_ok : CTok Try.prog ctMulC := .cons times_tells (.nil _)
theorem mulC_tells : Tells Try.prog 106 (.r kMulC) := by
  intro args r H' p hr hp
  unfold kMulC at hr
  split at hr <;> cases hr
  rename_i a b c d
  obtain ⟨h1, h2⟩ := hp
  refine ⟨.c, .nil, Con.of ttok Try.func106 rfl rfl (Nat.le_refl _) (AW.exec ttok ctMulC_ok (by cbv) ?_)⟩
  simp only [natCast_int, Post, All, thenA, canon0, canon064, and_true, true_and, forall_const, implies_true, decide_eq_true_eq, decide_eq_false_iff_not, Bool.not_eq_true', Bool.not_eq_false', Bool.true_and, Bool.and_true, beq_true, beq_false, Int.toNat_natCast, Int.ofNat_lt, Int.ofNat_le, Nat.zero_add, Nat.add_zero, imp_self, Bool.cond_false_right, Bool.cond_true_left, Bool.cond_true_right, IsF, rdF_eq, fOf, AV.f.injEq, exists_eq', free_list, free_fn0, List.not_mem_nil, List.mem_cons, false_imp, forall_eq, or_false, free_i, free_f, free_b, ren_f, ren_i, ren_b, and_self, bne_iff_ne, bne_eq_false_iff_eq, ne_eq, Int.natCast_inj, or_true, true_or, freeB_list, unfr_f, unfr_i, unfr_b, unfr_c, unfr_s, free_c, free_s, ren_c, ren_s, unfr_ro, unfr_rptr, ren_ro, free_ll, free_box, kill_f, kill_i, kill_b, kill_c, kill_s, kill_rof, kill_rot, Int.toNat_zero, isFF_ll, rowN_ll, rowX_ll, AllFree, Option.some.injEq, Prod.mk.injEq, Bool.false_eq_true, Bool.true_eq_false, h1, h2]
  (repeat' first | with_reducible assumption | with_reducible apply And.intro | with_reducible intro hh) <;> first | ((first | with_reducible show (_ : Int) ≤ _ | with_reducible show (_ : Int) < _ | with_reducible show (_ : Nat) ≤ _ | with_reducible show (_ : Nat) < _ | with_reducible show (_ : Int) = _ | with_reducible show (_ : Nat) = _ | with_reducible show ¬ _ | with_reducible show _ ≠ _) <;> first | omega | (simp only [Bool.and_eq_true, Bool.or_eq_false_iff, Bool.not_eq_false', Bool.not_eq_true', decide_eq_true_eq, decide_eq_false_iff_not] at *; omega) | (with_reducible assumption)) | (with_reducible assumption) | skip
  all_goals exact fin_ret (.inl rfl) (by cbv) (by simp) (To.fresh ⟨.c rfl rfl, trivial⟩)
def kAreP : Kr
  | [a, .i .i64 k] => match asL a with
    | some (n, g) => some (.b fun _ => decide (k .u ≤ (n .u : Int)) && (decide (n .u ≤ 128) && allC (n .u) (rdRe g) (rdIm g)), [], fun _ => IsC n g)
    | none => none
  | _ => none
def ctAreP : CT := [(120, .r kAreC)]
theorem ctAreP_ok : CTok Try.prog ctAreP := .cons areC_tells (.nil _)
def longW (a b : Nat) : Nat := fsqrt .f64 (fadd .f64 (fmul .f64 (wd a) (wd a)) (fmul .f64 (wd b) (wd b)))
def longF (a b : Nat) : Nat := f2f .f64 (longW a b) .f32
def kPow : Kr
  | [.c .f32 a b] => some (.f .f64 fun _ => fadd .f64 (fmul .f64 (wd (a .u)) (wd (a .u))) (fmul .f64 (wd (b .u)) (wd (b .u))), [], fun _ => True)
  | _ => none
def kLong : Kr
  | [.c .f32 a b] => some (.f .f32 fun _ => longF (a .u) (b .u), [], fun _ => f2fOk .f64 (longW (a .u) (b .u)) .f32)
  | _ => none
def gapF (a b : Nat) : Nat := bif flt .f64 a b then fsub .f64 b a else fsub .f64 a b
def kGap : Kr
  | [.f .f64 a, .f .f64 b] => some (.f .f64 fun _ => gapF (a .u) (b .u), [], fun _ => True)
  | _ => none
theorem gap_tells : Tells Try.prog 19 (.r kGap) := by
  intro args r H' p hr hp
  unfold kGap at hr
  split at hr <;> cases hr
  refine ⟨.f, .nil, Con.of ttok Try.func19 rfl rfl (Nat.le_refl _) (AW.exec ttok (CTok.nil _) (by cbv) ?_)⟩
  simp only [natCast_int, Post, All, thenA, canon0, canon064, and_true, true_and, forall_const, implies_true, decide_eq_true_eq, decide_eq_false_iff_not, Bool.not_eq_true', Bool.not_eq_false', Bool.true_and, Bool.and_true, beq_true, beq_false, Int.toNat_natCast, Int.ofNat_lt, Int.ofNat_le, Nat.zero_add, Nat.add_zero, imp_self, Bool.cond_false_right, Bool.cond_true_left, Bool.cond_true_right, IsF, rdF_eq, fOf, AV.f.injEq, exists_eq', free_list, free_fn0, List.not_mem_nil, List.mem_cons, false_imp, forall_eq, or_false, free_i, free_f, free_b, ren_f, ren_i, ren_b, and_self, bne_iff_ne, bne_eq_false_iff_eq, ne_eq, Int.natCast_inj, or_true, true_or, freeB_list, unfr_f, unfr_i, unfr_b, unfr_c, unfr_s, free_c, free_s, ren_c, ren_s, unfr_ro, unfr_rptr, ren_ro, free_ll, free_box, kill_f, kill_i, kill_b, kill_c, kill_s, kill_rof, kill_rot, Int.toNat_zero, isFF_ll, rowN_ll, rowX_ll, AllFree, Option.some.injEq, Prod.mk.injEq, Bool.false_eq_true, Bool.true_eq_false]
  (repeat' first | with_reducible assumption | with_reducible apply And.intro | with_reducible intro hh) <;> first | ((first | with_reducible show (_ : Int) ≤ _ | with_reducible show (_ : Int) < _ | with_reducible show (_ : Nat) ≤ _ | with_reducible show (_ : Nat) < _ | with_reducible show (_ : Int) = _ | with_reducible show (_ : Nat) = _ | with_reducible show ¬ _ | with_reducible show _ ≠ _) <;> first | omega | (simp only [Bool.and_eq_true, Bool.or_eq_false_iff, Bool.not_eq_false', Bool.not_eq_true', decide_eq_true_eq, decide_eq_false_iff_not] at *; omega) | (with_reducible assumption)) | (with_reducible assumption) | skip
  all_goals refine fin_ret (.inl rfl) (by cbv) (by simp) (To.fresh ⟨.f ?_, trivial⟩)
  all_goals simp_all [gapF]
def kLongB : Kr
  | [.ro _ n 1 _, .ro _ m 1 _] => some (.b fun _ => decide (1048576 < (n .u : Int)) || decide (1048576 < (m .u : Int)), [], fun _ => True)
  | _ => none
theorem longB_tells : Tells Try.prog 8 (.r kLongB) := by
  intro args r H' p hr hp
  unfold kLongB at hr
  split at hr <;> cases hr
  refine ⟨.b, .nil, Con.of ttok Try.func8 rfl rfl (Nat.le_refl _) (AW.exec ttok (CTok.nil _) (by cbv) ?_)⟩
  simp only [natCast_int, Post, All, thenA, canon0, canon064, and_true, true_and, forall_const, implies_true, decide_eq_true_eq, decide_eq_false_iff_not, Bool.not_eq_true', Bool.not_eq_false', Bool.true_and, Bool.and_true, beq_true, beq_false, Int.toNat_natCast, Int.ofNat_lt, Int.ofNat_le, Nat.zero_add, Nat.add_zero, imp_self, Bool.cond_false_right, Bool.cond_true_left, Bool.cond_true_right, IsF, rdF_eq, fOf, AV.f.injEq, exists_eq', free_list, free_fn0, List.not_mem_nil, List.mem_cons, false_imp, forall_eq, or_false, free_i, free_f, free_b, ren_f, ren_i, ren_b, and_self, bne_iff_ne, bne_eq_false_iff_eq, ne_eq, Int.natCast_inj, or_true, true_or, freeB_list, unfr_f, unfr_i, unfr_b, unfr_c, unfr_s, free_c, free_s, ren_c, ren_s, unfr_ro, unfr_rptr, ren_ro, free_ll, free_box, kill_f, kill_i, kill_b, kill_c, kill_s, kill_rof, kill_rot, Int.toNat_zero, isFF_ll, rowN_ll, rowX_ll, AllFree, Option.some.injEq, Prod.mk.injEq, Bool.false_eq_true, Bool.true_eq_false]
  (repeat' first | with_reducible assumption | with_reducible apply And.intro | with_reducible intro hh) <;> first | ((first | with_reducible show (_ : Int) ≤ _ | with_reducible show (_ : Int) < _ | with_reducible show (_ : Nat) ≤ _ | with_reducible show (_ : Nat) < _ | with_reducible show (_ : Int) = _ | with_reducible show (_ : Nat) = _ | with_reducible show ¬ _ | with_reducible show _ ≠ _) <;> first | omega | (simp only [Bool.and_eq_true, Bool.or_eq_false_iff, Bool.not_eq_false', Bool.not_eq_true', decide_eq_true_eq, decide_eq_false_iff_not] at *; omega) | (with_reducible assumption)) | (with_reducible assumption) | skip
  all_goals exact fin_ret (.inl rfl) (by cbv) (by simp) (To.fresh ⟨.b (by first | rfl | simp_all), trivial⟩)
theorem Sub.listBu {fr : Bool} {n : Th Nat} {g : Th Nat → Nat → AV} (h : IsB n g) : Sub (unfr (.ro fr n 1 g)) (Go.Proofs.Ytfdmmbcjidkmoaa.listB n (rdB g)) := by
  intro w ρ N L v hs
  simp only [unfr] at hs
  cases hs with
  | ro0 h0 => exact .ro0 h0
  | ro u hn hq hc hsim =>
    refine .ro u hn hq hc fun i c hi hcc => ?_
    obtain rfl : c = 0 := by omega
    obtain ⟨x, hx, _⟩ := h.2 i hi
    have := hsim i 0 hi (by omega)
    simp only [hx, unfr] at this
    simp only [rdB, hx, iOf]
    exact this
def atV (l : Nat) (b : Nat → Int) (i n : Int) : Int := if i < (l : Int) then (b i.toNat).tmod n else (i * 37 + 11).tmod n
def kAtB : Kr
  | [.ro false l 1 g, .i .i64 i, .i .i64 n] => some (.i .i64 fun _ => atV (l .u) (rdB g) (i .u) (n .u), [], fun _ => IsB l g ∧ 0 ≤ i .u ∧ i .u ≤ 1000 ∧ 1 < n .u ∧ n .u ≤ 1000)
  | _ => none
theorem atB_tells : Tells Try.prog 9 (.r kAtB) := by
  intro args r H' p hr hp
  unfold kAtB at hr
  split at hr <;> cases hr
  rename_i l g i n
  obtain ⟨hB, h0, h1, h2, h3⟩ := hp
  have hbb : ∀ k, k < l .u → 0 ≤ rdB g k ∧ rdB g k < 256 := fun k hk => by
    obtain ⟨x, hx, h2⟩ := hB.2 k hk
    simp only [rdB, hx, iOf]
    exact h2
  have hl := hB.1
  refine ⟨.i, .nil, Con.pre (args' := [listB l (rdB g), .i .i64 i, .i .i64 n]) ⟨?_, Sub.refl _, Sub.refl _, trivial⟩ ?_⟩
  · exact Sub.listBu hB
  generalize rdB g = b at hbb
  have hbi : i .u < (l .u : Int) → 0 ≤ b (i .u).toNat ∧ b (i .u).toNat < 256 := fun hb => hbb (i .u).toNat (by omega)
  clear hbb
  refine Con.of ttok Try.func9 rfl rfl (Nat.le_refl _) (AW.exec ttok (CTok.nil _) (by cbv) ?_)
  simp only [natCast_int, Post, All, thenA, canon0, canon064, and_true, true_and, forall_const, implies_true, decide_eq_true_eq, decide_eq_false_iff_not, Bool.not_eq_true', Bool.not_eq_false', Bool.true_and, Bool.and_true, beq_true, beq_false, Int.toNat_natCast, Int.ofNat_lt, Int.ofNat_le, Nat.zero_add, Nat.add_zero, imp_self, Bool.cond_false_right, Bool.cond_true_left, Bool.cond_true_right, IsF, rdF_eq, fOf, AV.f.injEq, exists_eq', free_list, free_fn0, List.not_mem_nil, List.mem_cons, false_imp, forall_eq, or_false, free_i, free_f, free_b, ren_f, ren_i, ren_b, and_self, bne_iff_ne, bne_eq_false_iff_eq, ne_eq, Int.natCast_inj, or_true, true_or, freeB_list, unfr_f, unfr_i, unfr_b, unfr_c, unfr_s, free_c, free_s, ren_c, ren_s, unfr_ro, unfr_rptr, ren_ro, free_ll, free_box, kill_f, kill_i, kill_b, kill_c, kill_s, kill_rof, kill_rot, Int.toNat_zero, isFF_ll, rowN_ll, rowX_ll, AllFree, Option.some.injEq, Prod.mk.injEq, Bool.false_eq_true, Bool.true_eq_false]
  (repeat' first | with_reducible assumption | with_reducible apply And.intro | with_reducible intro hh) <;> first | ((first | with_reducible show (_ : Int) ≤ _ | with_reducible show (_ : Int) < _ | with_reducible show (_ : Nat) ≤ _ | with_reducible show (_ : Nat) < _ | with_reducible show (_ : Int) = _ | with_reducible show (_ : Nat) = _ | with_reducible show ¬ _ | with_reducible show _ ≠ _) <;> first | omega | (simp only [Bool.and_eq_true, Bool.or_eq_false_iff, Bool.not_eq_false', Bool.not_eq_true', decide_eq_true_eq, decide_eq_false_iff_not] at *; omega) | (with_reducible assumption)) | (with_reducible assumption) | skip
  all_goals first | (exfalso; omega) | (have := hbi (by assumption); omega) | (refine fin_ret (.inl rfl) (by cbv) (by simp) (To.fresh ⟨.i ?_, trivial⟩); unfold atV; rw [if_pos (by assumption)]) | (refine fin_ret (.inl rfl) (by cbv) (by simp) (To.fresh ⟨.i ?_, trivial⟩); unfold atV; rw [if_neg (by assumption)])
theorem atV_in {l : Nat} {b : Nat → Int} (hb : ∀ k, k < l → 0 ≤ b k ∧ b k < 256) {i n : Int} (h0 : 0 ≤ i) (hn : 1 < n) : 0 ≤ atV l b i n ∧ atV l b i n < n := by
  have key : ∀ x : Int, 0 ≤ x → 0 ≤ x.tmod n ∧ x.tmod n < n := fun x hx => ⟨Int.tmod_nonneg _ hx, Int.tmod_lt_of_pos _ (by omega)⟩
  unfold atV
  split
  · exact key _ (hb i.toNat (by omega)).1
  · exact key _ (by omega)
end Go.Proofs.Ytfdmmbcjidkmoaa
