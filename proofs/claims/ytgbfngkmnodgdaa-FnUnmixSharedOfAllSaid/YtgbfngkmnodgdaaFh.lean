/- Numbers that are the same, to the last bit or both none, as the laws see it. -/
import Derived.Test.YtgbfngkmnodgdaaFe
set_option linter.unusedSimpArgs false
set_option linter.unusedVariables false
namespace Go.Proofs.Ytgbfngkmnodgdaa
open Go.Aw
def same32F (a b : Nat) : Bool := (feq .f32 a b && (!feq .f32 a 0 || feq .f32 (fdiv .f32 1065353216 a) (fdiv .f32 1065353216 b))) || (!feq .f32 a a && !feq .f32 b b)
theorem read_one32 : ∃ m e, FloatKind.f32.format.read 1065353216 = .number false m e ∧ m ≠ 0 := ⟨_, _, rfl, by decide⟩
theorem inv_num {a : Nat} (h : isNaN .f32 a = false) : isNaN .f32 (fdiv .f32 1065353216 a) = false := by
  unfold fdiv
  cases hd : FloatKind.f32.format.div 1065353216 a with
  | some r => exact isNaN_floatBits (op := .quo) (k := .f32) (x := 1065353216) (y := a) hd
  | none =>
    exfalso
    unfold Ieee.Format.div at hd
    rw [Option.map_eq_none_iff] at hd
    obtain ⟨m, e, hr, hm⟩ := read_one32
    rw [hr] at hd
    unfold isNaN FloatKind.decode at h
    cases hq : FloatKind.f32.format.read a with
    | nan s t => rw [hq] at h; cases h
    | infinity s => rw [hq] at hd; simp [Ieee.Datum.quotient] at hd
    | number s n j =>
      rw [hq] at hd
      simp only [Ieee.Datum.quotient] at hd
      split at hd <;> simp_all
theorem same32F_self (a : Nat) : same32F a a = true := by
  unfold same32F
  cases h : isNaN .f32 a with
  | false => rw [feq_self h, feq_self (inv_num h)]; simp
  | true =>
    have : feq .f32 a a = false := by
      obtain ⟨s, t, e⟩ := read_nan h
      unfold feq Ieee.Format.order
      rw [e]
      rfl
    rw [this]
    rfl
def kSame32 : Kr
  | [.f .f32 a, .f .f32 b] => some (.b fun _ => same32F (a .u) (b .u), [], fun _ => True)
  | _ => none
/-! Some operations, then one by hand. -/
section
variable {P : Program} {N0 : Nat}
theorem AOps.runN {tt : TT} (htt : TTok P tt) {ops : Array Oper} {K : List AV → Heap → Prop} {i j : Nat} {env env' : List AV} {H H' : Heap} {ps : List (Th Prop)} (k : Nat) (hr : arun tt ops ((ops.toList.drop i).take k) i env H = (j, env', H', ps)) (hp : All ps)
    (h : AOps P ops N0 K j env' H') : AOps P ops N0 K i env H := by
  have key : ∀ (l : List Oper) (k i : Nat) (env : List AV) (H : Heap) (ps : List (Th Prop)), (ops.toList.drop i).take k = l → arun tt ops l i env H = (j, env', H', ps) → All ps → AOps P ops N0 K i env H := by
    intro l
    induction l with
    | nil =>
      intro k i env H ps _ hr _
      cases hr
      exact h
    | cons o l ih =>
      intro k i env H ps hl hr hp
      simp only [arun] at hr
      obtain ⟨k, rfl⟩ : ∃ k', k = k' + 1 := by
        cases k with
        | zero => simp at hl
        | succ k => exact ⟨k, rfl⟩
      have ho : ops[i]? = some o := by
        have := congrArg (fun q => q[0]?) hl
        simp only [List.getElem?_take, List.getElem?_drop, List.getElem?_cons_zero, Nat.add_zero, Nat.zero_lt_succ, if_true] at this
        simpa using this
      have hl' : (ops.toList.drop (i + 1)).take k = l := by
        have := congrArg (List.drop 1) hl
        rw [List.drop_take, List.drop_drop] at this
        simpa using this
      split at hr
      · rename_i env1 H1 p hs
        generalize hq : arun tt ops l (i + 1) env1 H1 = q at hr
        obtain ⟨j', e', h', ps'⟩ := q
        simp only [Prod.mk.injEq] at hr
        obtain ⟨rfl, rfl, rfl, rfl⟩ := hr
        exact AOps.one htt ho hs hp.1 (ih k (i + 1) env1 H1 ps' hl' hq hp.2)
      · cases hr
        exact h
  exact key _ k i env H ps rfl hr hp
/-- A choice under a guard, where only the side that is chosen need be told. -/
theorem AOps.gpick {ops : Array Oper} {K : List AV → Heap → Prop} {i : Nat} {o : Oper} {env : List AV} {H : Heap} {j : Nat} {want : Bool} {c b b0 r : Th Bool} {p : Th Prop} {cc x y : Operand} (ho : ops[i]? = some o) (hop : o.op = .pick cc x y) (hg : o.guard = some (j, want)) (hgav : guardAV ops env j = some (c, b))
    (hb0 : unOn (aeval env cc) = .b b0) (hr : apick b0 (aeval env x) (aeval env y) = some (r, p)) (hp : (c .u && (b .u == want)) = true → condOf (aeval env cc) .u ∧ p .u)
    (h : AOps P ops N0 K (i + 1) (aput env o.dst (.on (fun _ => c .u && (b .u == want)) (.b r))) H) : AOps P ops N0 K i env H := by
  cases hc : (c .u && (b .u == want)) with
  | false => exact AOps.pass ho hg hgav hc _ _ hc h
  | true =>
    obtain ⟨hcc, hp⟩ := hp hc
    intro Q w0 ρ0 ρ a w s hQ
    have hlt : i < ops.size := (Array.getElem?_eq_some_iff.1 ho).1
    rw [range'_step hlt]
    simp only [wpOps, ho]
    have hc' := hc
    simp only [Bool.and_eq_true, beq_iff_eq] at hc'
    have hd : Done ops env o := .inr ⟨j, want, c, b, hg, hgav, hc'.1, hc'.2⟩
    rw [if_pos (hd.wanted s)]
    have ec : a.eval cc = .bool (b0 .u) := by
      have := (aeval_sound s.env cc).unOn hcc
      rw [hb0] at this
      exact this.b_inv
    have run : (execOp a.eval o).run P w = .ok (.value (if b0 .u then a.eval x else a.eval y)) w := by
      unfold execOp
      simp only [hop]
      rw [ec]
      simp [asBool]
    have s' := s.step s.rel (Pass.refl _ _ _) (r := .on (fun _ => c .u && (b .u == want)) (.b r)) (v := if b0 .u then a.eval x else a.eval y) (.on (fun _ => apick_sound hr hp (aeval_sound s.env x) (aeval_sound s.env y)) (fun e => by rw [hc] at e; cases e)) o.dst
    left
    unfold Oper.wp Oper.upon
    rw [run]
    exact h Q w0 ρ0 ρ _ w s' hQ
end
theorem canon_one32 : canon .f32 1065353216 = 1065353216 := by decide
theorem same32_tells : Tells Try.prog 48 (.r kSame32) := by
  intro args r H' p hr hp
  unfold kSame32 at hr
  split at hr <;> cases hr
  rename_i a b
  refine ⟨.b, .nil, Con.of ttok Try.func48 rfl rfl (Nat.le_refl _) ?_⟩
  refine AW.seq (AW.quick ttok (by cbv) (by simp [All]) ?_)
  refine AW.seq (AW.region ?_)
  refine AOps.runN ttok 12 (by cbv) (by simp only [natCast_int, Post, All, thenA, canon0, canon064, and_true, true_and, forall_const, implies_true, decide_eq_true_eq, decide_eq_false_iff_not, Bool.not_eq_true', Bool.not_eq_false', Bool.true_and, Bool.and_true, beq_true, beq_false, Int.toNat_natCast, Int.ofNat_lt, Int.ofNat_le, Nat.zero_add, Nat.add_zero, imp_self, Bool.cond_false_right, Bool.cond_true_left, Bool.cond_true_right, IsF, rdF_eq, fOf, AV.f.injEq, exists_eq', free_list, free_fn0, List.not_mem_nil, List.mem_cons, false_imp, forall_eq, or_false, free_i, free_f, free_b, ren_f, ren_i, ren_b, and_self, bne_iff_ne, bne_eq_false_iff_eq, ne_eq, Int.natCast_inj, or_true, true_or, freeB_list, unfr_f, unfr_i, unfr_b, unfr_c, unfr_s, free_c, free_s, ren_c, ren_s, unfr_ro, unfr_rptr, ren_ro, free_ll, free_box, kill_f, kill_i, kill_b, kill_c, kill_s, kill_rof, kill_rot, Int.toNat_zero, isFF_ll, rowN_ll, rowX_ll, AllFree, Option.some.injEq, Prod.mk.injEq, Bool.false_eq_true, Bool.true_eq_false]) ?_
  refine AOps.gpick rfl rfl rfl rfl rfl rfl ?_ ?_
  · intro h
    refine ⟨h, fun h2 => ?_⟩
    simp only [natCast_int, Post, All, thenA, canon0, canon064, and_true, true_and, forall_const, implies_true, decide_eq_true_eq, decide_eq_false_iff_not, Bool.not_eq_true', Bool.not_eq_false', Bool.true_and, Bool.and_true, beq_true, beq_false, Int.toNat_natCast, Int.ofNat_lt, Int.ofNat_le, Nat.zero_add, Nat.add_zero, imp_self, Bool.cond_false_right, Bool.cond_true_left, Bool.cond_true_right, IsF, rdF_eq, fOf, AV.f.injEq, exists_eq', free_list, free_fn0, List.not_mem_nil, List.mem_cons, false_imp, forall_eq, or_false, free_i, free_f, free_b, ren_f, ren_i, ren_b, and_self, bne_iff_ne, bne_eq_false_iff_eq, ne_eq, Int.natCast_inj, or_true, true_or, freeB_list, unfr_f, unfr_i, unfr_b, unfr_c, unfr_s, free_c, free_s, ren_c, ren_s, unfr_ro, unfr_rptr, ren_ro, free_ll, free_box, kill_f, kill_i, kill_b, kill_c, kill_s, kill_rof, kill_rot, Int.toNat_zero, isFF_ll, rowN_ll, rowX_ll, AllFree, Option.some.injEq, Prod.mk.injEq, Bool.false_eq_true, Bool.true_eq_false] at h h2 ⊢
    cases hab : feq .f32 (a .u) (b .u) <;> simp_all
  refine AOps.runN ttok 9 (by cbv) (by simp only [natCast_int, Post, All, thenA, canon0, canon064, and_true, true_and, forall_const, implies_true, decide_eq_true_eq, decide_eq_false_iff_not, Bool.not_eq_true', Bool.not_eq_false', Bool.true_and, Bool.and_true, beq_true, beq_false, Int.toNat_natCast, Int.ofNat_lt, Int.ofNat_le, Nat.zero_add, Nat.add_zero, imp_self, Bool.cond_false_right, Bool.cond_true_left, Bool.cond_true_right, IsF, rdF_eq, fOf, AV.f.injEq, exists_eq', free_list, free_fn0, List.not_mem_nil, List.mem_cons, false_imp, forall_eq, or_false, free_i, free_f, free_b, ren_f, ren_i, ren_b, and_self, bne_iff_ne, bne_eq_false_iff_eq, ne_eq, Int.natCast_inj, or_true, true_or, freeB_list, unfr_f, unfr_i, unfr_b, unfr_c, unfr_s, free_c, free_s, ren_c, ren_s, unfr_ro, unfr_rptr, ren_ro, free_ll, free_box, kill_f, kill_i, kill_b, kill_c, kill_s, kill_rof, kill_rot, Int.toNat_zero, isFF_ll, rowN_ll, rowX_ll, AllFree, Option.some.injEq, Prod.mk.injEq, Bool.false_eq_true, Bool.true_eq_false, canon_one32]) ?_
  refine AOps.gpick rfl rfl rfl rfl rfl rfl ?_ ?_
  · intro h
    refine ⟨h, fun h2 => ?_⟩
    simp only [natCast_int, Post, All, thenA, canon0, canon064, and_true, true_and, forall_const, implies_true, decide_eq_true_eq, decide_eq_false_iff_not, Bool.not_eq_true', Bool.not_eq_false', Bool.true_and, Bool.and_true, beq_true, beq_false, Int.toNat_natCast, Int.ofNat_lt, Int.ofNat_le, Nat.zero_add, Nat.add_zero, imp_self, Bool.cond_false_right, Bool.cond_true_left, Bool.cond_true_right, IsF, rdF_eq, fOf, AV.f.injEq, exists_eq', free_list, free_fn0, List.not_mem_nil, List.mem_cons, false_imp, forall_eq, or_false, free_i, free_f, free_b, ren_f, ren_i, ren_b, and_self, bne_iff_ne, bne_eq_false_iff_eq, ne_eq, Int.natCast_inj, or_true, true_or, freeB_list, unfr_f, unfr_i, unfr_b, unfr_c, unfr_s, free_c, free_s, ren_c, ren_s, unfr_ro, unfr_rptr, ren_ro, free_ll, free_box, kill_f, kill_i, kill_b, kill_c, kill_s, kill_rof, kill_rot, Int.toNat_zero, isFF_ll, rowN_ll, rowX_ll, AllFree, Option.some.injEq, Prod.mk.injEq, Bool.false_eq_true, Bool.true_eq_false] at h h2 ⊢
    cases hab : feq .f32 (a .u) (b .u) <;> simp_all
  refine AOps.run ttok (by cbv) (by simp only [natCast_int, Post, All, thenA, canon0, canon064, and_true, true_and, forall_const, implies_true, decide_eq_true_eq, decide_eq_false_iff_not, Bool.not_eq_true', Bool.not_eq_false', Bool.true_and, Bool.and_true, beq_true, beq_false, Int.toNat_natCast, Int.ofNat_lt, Int.ofNat_le, Nat.zero_add, Nat.add_zero, imp_self, Bool.cond_false_right, Bool.cond_true_left, Bool.cond_true_right, IsF, rdF_eq, fOf, AV.f.injEq, exists_eq', free_list, free_fn0, List.not_mem_nil, List.mem_cons, false_imp, forall_eq, or_false, free_i, free_f, free_b, ren_f, ren_i, ren_b, and_self, bne_iff_ne, bne_eq_false_iff_eq, ne_eq, Int.natCast_inj, or_true, true_or, freeB_list, unfr_f, unfr_i, unfr_b, unfr_c, unfr_s, free_c, free_s, ren_c, ren_s, unfr_ro, unfr_rptr, ren_ro, free_ll, free_box, kill_f, kill_i, kill_b, kill_c, kill_s, kill_rof, kill_rot, Int.toNat_zero, isFF_ll, rowN_ll, rowX_ll, AllFree, Option.some.injEq, Prod.mk.injEq, Bool.false_eq_true, Bool.true_eq_false, canon_one32]) (AOps.done (Nat.le_refl _) ?_)
  refine AW.ret ?_
  simp only [natCast_int, Post, All, thenA, canon0, canon064, and_true, true_and, forall_const, implies_true, decide_eq_true_eq, decide_eq_false_iff_not, Bool.not_eq_true', Bool.not_eq_false', Bool.true_and, Bool.and_true, beq_true, beq_false, Int.toNat_natCast, Int.ofNat_lt, Int.ofNat_le, Nat.zero_add, Nat.add_zero, imp_self, Bool.cond_false_right, Bool.cond_true_left, Bool.cond_true_right, IsF, rdF_eq, fOf, AV.f.injEq, exists_eq', free_list, free_fn0, List.not_mem_nil, List.mem_cons, false_imp, forall_eq, or_false, free_i, free_f, free_b, ren_f, ren_i, ren_b, and_self, bne_iff_ne, bne_eq_false_iff_eq, ne_eq, Int.natCast_inj, or_true, true_or, freeB_list, unfr_f, unfr_i, unfr_b, unfr_c, unfr_s, free_c, free_s, ren_c, ren_s, unfr_ro, unfr_rptr, ren_ro, free_ll, free_box, kill_f, kill_i, kill_b, kill_c, kill_s, kill_rof, kill_rot, Int.toNat_zero, isFF_ll, rowN_ll, rowX_ll, AllFree, Option.some.injEq, Prod.mk.injEq, Bool.false_eq_true, Bool.true_eq_false, canon_one32]
  exact fin_ret (.inl rfl) (by cbv) (by simp) (To.fresh (.cons (.b rfl) .nil))
def sameLF (n : Nat) (x : Nat → Nat) (m : Nat) (y : Nat → Nat) : Bool := decide (n = m) && allN (fun i => same32F (x i) (y i)) n
theorem sameLF_self (n : Nat) (x : Nat → Nat) : sameLF n x n x = true := by
  simp only [sameLF, decide_true, Bool.true_and]
  exact allN_true fun j _ => same32F_self _
def kSameAll : Kr
  | [a, b] => match asL a, asL b with
    | some (n, g), some (m, h) => some (.b fun _ => sameLF (n .u) (rdF g) (m .u) (rdF h), [], fun _ => IsF n g ∧ IsF m h)
    | _, _ => none
  | _ => none
def ctSame32 : CT := [(48, .r kSame32)]
theorem ctSame32_ok : CTok Try.prog ctSame32 := CTok.cons same32_tells (CTok.nil _)
theorem sameAll32_tells : Tells Try.prog 25 (.r kSameAll) := by
  intro args r H' p hr hp
  unfold kSameAll at hr
  split at hr <;> first | (cases hr; done) | skip
  split at hr <;> cases hr
  rename_i n g m h hL hL'
  obtain ⟨hp, hp'⟩ := hp
  refine ⟨.b, .nil, Con.pre (args' := [listF false n (rdF g), listF false m (rdF h)]) ⟨.asL hL hp, .asL hL' hp', trivial⟩ ?_⟩
  have hn := hp.1
  generalize rdF g = x
  generalize rdF h = y
  refine Con.of ttok Try.func25 rfl rfl (Nat.zero_le _) (AW.exec ttok ctSame32_ok (by cbv) ?_)
  simp only [natCast_int, Post, All, thenA, canon0, canon064, and_true, true_and, forall_const, implies_true, decide_eq_true_eq, decide_eq_false_iff_not, Bool.not_eq_true', Bool.not_eq_false', Bool.true_and, Bool.and_true, beq_true, beq_false, Int.toNat_natCast, Int.ofNat_lt, Int.ofNat_le, Nat.zero_add, Nat.add_zero, imp_self, Bool.cond_false_right, Bool.cond_true_left, Bool.cond_true_right, IsF, rdF_eq, fOf, AV.f.injEq, exists_eq', free_list, free_fn0, List.not_mem_nil, List.mem_cons, false_imp, forall_eq, or_false, free_i, free_f, free_b, ren_f, ren_i, ren_b, and_self, bne_iff_ne, bne_eq_false_iff_eq, ne_eq, Int.natCast_inj, or_true, true_or, freeB_list, unfr_f, unfr_i, unfr_b, unfr_c, unfr_s, free_c, free_s, ren_c, ren_s, unfr_ro, unfr_rptr, ren_ro, free_ll, free_box, kill_f, kill_i, kill_b, kill_c, kill_s, kill_rof, kill_rot, Int.toNat_zero, isFF_ll, rowN_ll, rowX_ll, AllFree, Option.some.injEq, Prod.mk.injEq, Bool.false_eq_true, Bool.true_eq_false]
  refine ⟨fun h1 => ?_, fun h1 => ?_⟩
  · refine fin_ret (.inl rfl) (by cbv) (by simp) (To.fresh (.cons (.b ?_) .nil))
    simp only [sameLF, decide_eq_false h1, Bool.false_and]
  have hnm : n .u = m .u := h1
  refine AW.loopTo (ι := Nat) (fun i => i ≤ n .u ∧ ∀ j, j < i → same32F (x j) (y j) = true) (fun i => n .u - i) (fun i => mkE Try.f25.ntmps [(0, listF false n x), (1, listF false m y), (5, .i .i64 fun _ => (i : Int))])
    (fun _ => []) 0 ⟨Nat.zero_le _, fun j hj => absurd hj (Nat.not_lt_zero _)⟩ (To.same (Nat.le_refl _) trivial ?_) ?_
  · (repeat' first | exact AllTo.nil | apply AllTo.cons) <;> first | exact AvTo.dead _ | exact AvTo.i rfl | exact AvTo.i (by first | omega | (simp only [natCast_int]; omega)) | exact AvTo.f rfl | exact AvTo.b rfl | exact AvTo.v _ | exact AvTo.own rfl rfl rfl rfl | exact AvTo.own rfl rfl (by first | rfl | omega) (by first | rfl | omega) | exact Free.same .listF | exact Free.same (.fn (by simp) (by simp)) | skip
  · rintro i ⟨hi, hx⟩
    refine AW.exec ttok ctSame32_ok (by cbv) ?_
    simp only [natCast_int, Post, All, thenA, canon0, canon064, and_true, true_and, forall_const, implies_true, decide_eq_true_eq, decide_eq_false_iff_not, Bool.not_eq_true', Bool.not_eq_false', Bool.true_and, Bool.and_true, beq_true, beq_false, Int.toNat_natCast, Int.ofNat_lt, Int.ofNat_le, Nat.zero_add, Nat.add_zero, imp_self, Bool.cond_false_right, Bool.cond_true_left, Bool.cond_true_right, IsF, rdF_eq, fOf, AV.f.injEq, exists_eq', free_list, free_fn0, List.not_mem_nil, List.mem_cons, false_imp, forall_eq, or_false, free_i, free_f, free_b, ren_f, ren_i, ren_b, and_self, bne_iff_ne, bne_eq_false_iff_eq, ne_eq, Int.natCast_inj, or_true, true_or, freeB_list, unfr_f, unfr_i, unfr_b, unfr_c, unfr_s, free_c, free_s, ren_c, ren_s, unfr_ro, unfr_rptr, ren_ro, free_ll, free_box, kill_f, kill_i, kill_b, kill_c, kill_s, kill_rof, kill_rot, Int.toNat_zero, isFF_ll, rowN_ll, rowX_ll, AllFree, Option.some.injEq, Prod.mk.injEq, Bool.false_eq_true, Bool.true_eq_false]
    (repeat' first | with_reducible assumption | with_reducible apply And.intro | with_reducible intro hh) <;> first | ((first | with_reducible show (_ : Int) ≤ _ | with_reducible show (_ : Int) < _ | with_reducible show (_ : Nat) ≤ _ | with_reducible show (_ : Nat) < _ | with_reducible show (_ : Int) = _ | with_reducible show (_ : Nat) = _ | with_reducible show ¬ _ | with_reducible show _ ≠ _) <;> first | omega | (simp only [Bool.and_eq_true, Bool.or_eq_false_iff, Bool.not_eq_false', Bool.not_eq_true', decide_eq_true_eq, decide_eq_false_iff_not] at *; omega) | (with_reducible assumption)) | (with_reducible assumption) | skip
    · refine Post.leaf (by cbv) (fin_ret (.inl rfl) (by cbv) (by simp) (To.fresh ⟨.b ?_, trivial⟩))
      simp only [sameLF]
      rw [allN_false ‹i < n .u› (q := fun i => same32F (x i) (y i)) (by assumption), Bool.and_false]
    · refine ⟨i + 1, ⟨by omega, lt_succ_all hx (by assumption)⟩, by omega, To.same (Nat.le_refl _) trivial ?_⟩
      (repeat' first | exact AllTo.nil | apply AllTo.cons) <;> first | exact AvTo.dead _ | exact AvTo.i rfl | exact AvTo.i (by first | omega | (simp only [natCast_int]; omega)) | exact AvTo.f rfl | exact AvTo.b rfl | exact AvTo.v _ | exact AvTo.own rfl rfl rfl rfl | exact AvTo.own rfl rfl (by first | rfl | omega) (by first | rfl | omega) | exact Free.same .listF | exact Free.same (.fn (by simp) (by simp)) | skip
    · refine Post.eval (by cbv) ?_
      simp only [natCast_int, Post, All, thenA, canon0, canon064, and_true, true_and, forall_const, implies_true, decide_eq_true_eq, decide_eq_false_iff_not, Bool.not_eq_true', Bool.not_eq_false', Bool.true_and, Bool.and_true, beq_true, beq_false, Int.toNat_natCast, Int.ofNat_lt, Int.ofNat_le, Nat.zero_add, Nat.add_zero, imp_self, Bool.cond_false_right, Bool.cond_true_left, Bool.cond_true_right, IsF, rdF_eq, fOf, AV.f.injEq, exists_eq', free_list, free_fn0, List.not_mem_nil, List.mem_cons, false_imp, forall_eq, or_false, free_i, free_f, free_b, ren_f, ren_i, ren_b, and_self, bne_iff_ne, bne_eq_false_iff_eq, ne_eq, Int.natCast_inj, or_true, true_or, freeB_list, unfr_f, unfr_i, unfr_b, unfr_c, unfr_s, free_c, free_s, ren_c, ren_s, unfr_ro, unfr_rptr, ren_ro, free_ll, free_box, kill_f, kill_i, kill_b, kill_c, kill_s, kill_rof, kill_rot, Int.toNat_zero, isFF_ll, rowN_ll, rowX_ll, AllFree, Option.some.injEq, Prod.mk.injEq, Bool.false_eq_true, Bool.true_eq_false]
      have e : i = n .u := by omega
      refine fin_ret (.inl rfl) (by cbv) (by simp) (To.fresh ⟨.b ?_, trivial⟩)
      simp only [sameLF, hnm, decide_true, Bool.true_and]
      exact (allN_true (hnm ▸ e ▸ hx)).symm
end Go.Proofs.Ytgbfngkmnodgdaa
