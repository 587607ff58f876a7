/- The law on marks, walked from its end: what has to hold of the lists stands in one structure. -/
import Derived.Test.YtfdmmbcjidkmoaaPd
import Derived.Test.YtfdmmbcjidkmoaaAww
set_option linter.unusedSimpArgs false
set_option linter.unusedVariables false
namespace Go.Proofs.Ytfdmmbcjidkmoaa
open Go.Aw
section
variable {P : Program} {N0 : Nat}
theorem AOps.monoP {ops : Array Oper} {K K' : List AV → Heap → Prop} {i : Nat} {env : List AV} {H : Heap} (hk : ∀ e h, K e h → K' e h) (h : AOps P ops N0 K i env H) : AOps P ops N0 K' i env H := fun Q w0 ρ0 ρ a w s hQ => h Q w0 ρ0 ρ a w s fun env' H' ρ' a' w' hx => hQ env' H' ρ' a' w' (hk _ _ hx)
/-- What is told may be told anew between operations. -/
theorem AOps.via {ops : Array Oper} {K : List AV → Heap → Prop} {i : Nat} {env env' : List AV} {H H' : Heap} (ht : To N0 env H env' H') (h : AOps P ops N0 K i env' H') : AOps P ops N0 K i env H := by
  obtain ⟨σ, hH, henv, hN, h0⟩ := ht
  intro Q w0 ρ0 ρ a w s hQ
  refine h Q w0 ρ0 (cmp ρ H' σ) a w ⟨s.defers, ⟨by rw [← henv.len]; exact s.env.len, fun t x v h1 h2 => ?_⟩, s.rel.to hH (Fits.keep _ _), ?_⟩ hQ
  · obtain ⟨b, hb, hto⟩ := henv.get t x h1
    exact hto w ρ _ _ v (Fits.keep _ _) s.rel (s.env.at_ t b v hb h2)
  · refine ⟨s.pass.size, hN, fun id blk hid hr => ?_, fun id blk hr => ?_, s.pass.cells, fun id blk cs T fz hid hr hw => ?_, s.pass.os, s.pass.tape, s.pass.output⟩
    · obtain ⟨hl, id', h1, h2⟩ := cmp_some hr
      rw [h0 id hid hl] at h1; cases h1
      exact s.pass.old id blk hid h2
    · obtain ⟨_, id', _, h2⟩ := cmp_some hr
      exact s.pass.new id' blk h2
    · obtain ⟨hl, id', h1, h2⟩ := cmp_some hr
      rw [h0 id hid hl] at h1; cases h1
      exact s.pass.shape id blk cs T fz hid h2 hw
def aregionT (tt : Th TT) (ct : Th CT) (ops : Array Oper) (i : Nat) (env : List AV) (H : Heap) : Out := aregion (tt .u) (ct .u) ops (default :: ops.toList) i env H
/-- The operations from i on, calls by cases among them. -/
theorem AOps.exec {tt : TT} (htt : TTok P tt) {ct : CT} (hct : CTok P ct) {ops : Array Oper} {K : List AV → Heap → Prop} {i : Nat} {env : List AV} {H : Heap} {o : Out} (he : aregionT (fun _ => tt) (fun _ => ct) ops i env H = o) (h : Post P N0 (fun _ e h => K e h) o) : AOps P ops N0 K i env H := by
  subst he
  exact aregion_sound (Q := fun _ e h => K e h) htt hct _ i env H h
/-- So many operations at a time. -/
theorem AOps.runP (k : Nat) {tt : TT} (htt : TTok P tt) {ct : CT} (hct : CTok P ct) {ops : Array Oper} {K : List AV → Heap → Prop} {i j : Nat} {env env' : List AV} {H H' : Heap} {ps : List (Th Prop)} (hr : arunC tt ct ops ((ops.toList.drop i).take k) i env H = (j, env', H', ps)) (hp : All ps)
    (h : AOps P ops N0 K j env' H') : AOps P ops N0 K i env H := by
  have key : ∀ (l : List Oper) (i : Nat) (env : List AV) (H : Heap) (ps : List (Th Prop)), l <+: ops.toList.drop i → arunC tt ct ops l i env H = (j, env', H', ps) → All ps → AOps P ops N0 K i env H := by
    intro l
    induction l with
    | nil =>
      intro i env H ps _ hr _
      cases hr
      exact h
    | cons o l ih =>
      intro i env H ps hl hr hp
      simp only [arunC] at hr
      obtain ⟨t, ht⟩ := hl
      have ho : ops[i]? = some o := by
        have := congrArg (fun q => q[0]?) ht
        simp only [List.getElem?_drop, List.cons_append, List.getElem?_cons_zero, Nat.add_zero] at this
        simpa using this.symm
      have hl' : l <+: ops.toList.drop (i + 1) := by
        refine ⟨t, ?_⟩
        have := congrArg (List.drop 1) ht
        rw [List.drop_drop] at this
        simpa using this
      split at hr
      · rename_i env1 H1 p hs
        generalize hq : arunC tt ct ops l (i + 1) env1 H1 = q at hr
        obtain ⟨j', e', h', ps'⟩ := q
        simp only [Prod.mk.injEq] at hr
        obtain ⟨rfl, rfl, rfl, rfl⟩ := hr
        exact AOps.oneC htt hct ho hs hp.1 (ih (i + 1) env1 H1 ps' hl' hq hp.2)
      · cases hr
        exact h
  exact key _ i env H ps (List.take_prefix _ _) hr hp
end
/-- The operations that code begins with. -/
def opsP : Code → Array Oper
  | .region _ ops _ => ops
  | .seq a _ => opsP a
  | _ => #[]
/-- What is left of code behind its first parts. -/
def tlP : Nat → Code → Code
  | 0, c => c
  | n + 1, c => match c with
    | .seq _ b => tlP n b
    | c => c
/-- A line of operations in two parts (the evaluator's memory grows with the square of a line's length). -/
theorem arunV_catP (k : Nat) {tt : TT} {ct : CT} {ops : Array Oper} : ∀ {l : List Oper} {env e1 e2 : List AV} {H H1 H2 : Heap} {ks1 ks2 : List Nat} {ps1 ps2 : List (Th Prop)}, arunV tt ct ops (l.take k) env H = some (e1, H1, ks1, ps1) → arunV tt ct ops (l.drop k) e1 H1 = some (e2, H2, ks2, ps2) →
    arunV tt ct ops l env H = some (e2, H2, ks1 ++ ks2, ps1 ++ ps2) := by
  have key : ∀ {l1 l2 : List Oper} {env e1 e2 : List AV} {H H1 H2 : Heap} {ks1 ks2 : List Nat} {ps1 ps2 : List (Th Prop)}, arunV tt ct ops l1 env H = some (e1, H1, ks1, ps1) → arunV tt ct ops l2 e1 H1 = some (e2, H2, ks2, ps2) →
      arunV tt ct ops (l1 ++ l2) env H = some (e2, H2, ks1 ++ ks2, ps1 ++ ps2) := by
    intro l1
    induction l1 with
    | nil =>
      intro l2 env e1 e2 H H1 H2 ks1 ks2 ps1 ps2 h1 h2
      cases h1
      exact h2
    | cons o l1 ih =>
      intro l2 env e1 e2 H H1 H2 ks1 ks2 ps1 ps2 h1 h2
      simp only [arunV, List.cons_append] at h1 ⊢
      split at h1 <;> first | (cases h1; done) | skip
      rename_i r H' p k' hs
      split at h1 <;> cases h1
      rename_i e h ks ps hr
      rw [ih hr h2]
      rfl
  intro l env e1 e2 H H1 H2 ks1 ks2 ps1 ps2 h1 h2
  have := key h1 h2
  rw [List.take_append_drop] at this
  exact this
/-- A part of code: 0 and 1, the parts of a sequence; 2, what stands in a block or a loop. -/
def navP : List Nat → Code → Code
  | [], c => c
  | 0 :: l, .seq a _ => navP l a
  | 1 :: l, .seq _ b => navP l b
  | 2 :: l, .block _ c => navP l c
  | 2 :: l, .loop c => navP l c
  | _, c => c
/-- The same, simplified between the parts. -/
theorem arunV_mid (k : Nat) {tt : TT} {ct : CT} {ops : Array Oper} {l : List Oper} {env e1 e1' e2 : List AV} {H H1 H1' H2 : Heap} {ks1 ks2 : List Nat} {ps1 ps2 : List (Th Prop)} (h1 : arunV tt ct ops (l.take k) env H = some (e1, H1, ks1, ps1)) (he : (e1, H1) = (e1', H1')) (h2 : arunV tt ct ops (l.drop k) e1' H1' = some (e2, H2, ks2, ps2)) :
    arunV tt ct ops l env H = some (e2, H2, ks1 ++ ks2, ps1 ++ ps2) := by
  cases he
  exact arunV_catP k h1 h2
theorem AW.drawnP {P : Program} {N0 : Nat} {tt : TT} (htt : TTok P tt) {ct : CT} (hct : CTok P ct) {id : Nat} {ops : Array Oper} {Q : Exit → List AV → Heap → Prop} {env fin : List AV} {H H' : Heap} {ks : List Nat} {ps : List (Th Prop)} (hq : arunV tt ct ops ops.toList env H = some (fin, H', ks, ps))
    (hd : orderOK ops.toList ks env.length = true) (hp : All ps) (h : Q .normal fin H') : AW P N0 (.region id ops true) Q env H := AW.drawnA htt hct hq hd hp h
noncomputable def bodyMk : Code := match Try.f4.body with
  | some c => c
  | none => .skip
def lowP (x : Nat → Nat) : Nat → Nat
  | 0 => x 0
  | i + 1 => fmin .f32 (lowP x i) (x i)
def highP (x : Nat → Nat) : Nat → Nat
  | 0 => x 0
  | i + 1 => fmax .f32 (highP x i) (x i)
abbrev milP : Nat := 4562254508917369340
def tailX (N : Nat) (x : Nat → Nat) (v by_ j : Nat) : Nat := if j < v then fmul .f32 (x (N - v + j)) by_ else 1077936128
def kern3 (w0 w2 : Int) (j : Nat) : Nat := if j = 0 then itof .f32 w0 else if j = 1 then 1065353216 else itof .f32 w2
def one1 (a j : Nat) : Nat := if j = 0 then a else 0
structure Marks (N : Nat) (x : Nat → Nat) (bar v by_ : Nat) (w0 w2 : Int) (R : Nat) : Prop where
  n3 : 3 ≤ N
  n14 : N ≤ 14
  v1 : 1 ≤ v
  v3 : v ≤ 3
  r5 : R ≤ 5
  cos : okCosmic N x bar = true
  cleanF : finN N (cleanX x bar N) = true
  bins : binsN 1 N x = true
  rot : rotN N x = true
  sumP : fgt .f32 (sumN x N) 0 = true
  noise : isFin (noiseX N x) = true
  ratio : fgt .f64 (gap8 (fmul .f32 (noiseX N x) (noiseX N x)) (sumN x N)) (fmul .f64 milP (wd (sumN x N))) = false
  self : ∀ i, i < N → feq .f32 (x i) (x i) = true
  half : ∀ i, 1 ≤ i → i + 1 < N → fgt .f64 (gap8 (halfX x i) (fdiv .f32 (fadd .f32 (x (i - 1)) (x (i + 1))) 1073741824)) milP = false
  binsT : binsN 1 (v + 1) (tailX N x v by_) = true
  stQF : isFin (stQ N x (tailX N x v by_) v) = true
  stF : finN (N + 1) (stX N x (tailX N x v by_) v (stQ N x (tailX N x v by_) v)) = true
  stE : fgt .f64 (gap8 (fmul .f32 (stX N x (tailX N x v by_) v (stQ N x (tailX N x v by_) v) N) by_) 1077936128) milP = false
  stI : ∀ i, i < N → fgt .f64 (gap8 (stX N x (tailX N x v by_) v (stQ N x (tailX N x v by_) v) i) (x i)) milP = false
  spr : okSpr N x 3 (kern3 w0 w2) = true
  two : okSpr N x 1 (one1 1073741824) = true
  sharp : OkSharp x N 3 (kern3 w0 w2) R
  none : OkSharp x N 1 (one1 1065353216) 3
  c1 : ∀ i, i < N → flt .f64 (wd (sprX N x 3 (kern3 w0 w2) i)) (fsub .f64 (wd (lowP x N)) milP) = false
  c2 : ∀ i, i < N → fgt .f64 (wd (sprX N x 3 (kern3 w0 w2) i)) (fadd .f64 (wd (highP x N)) milP) = false
  c3 : ∀ i, i < N → fgt .f64 (gap8 (sprX N x 1 (one1 1073741824) i) (x i)) milP = false
  c4 : ∀ i, i < N → fle .f32 (shpX x N 3 (kern3 w0 w2) R i) 0 = false
  c5 : ∀ i, i < N → fgt .f64 (gap8 (shpX x N 1 (one1 1065353216) 3 i) (x i)) milP = false
theorem cnmilP : canon .f64 4562254508917369340 = 4562254508917369340 := by decide +kernel
theorem cn1P : canon .f32 1065353216 = 1065353216 := by decide +kernel
theorem cn2P : canon .f32 1073741824 = 1073741824 := by decide +kernel
theorem cn3P : canon .f32 1077936128 = 1077936128 := by decide +kernel
def ctMarksP : CT := [(38, .r kGap8), (34, .r kAt8), (39, .r kNoise), (40, .g 0 kStitch), (41, .g 0 kSprBy), (42, .g 0 kSharp), (36, .g 0 kCosmic), (37, .g 0 kRemove)]
theorem ctMarksP_ok : CTok Try.prog ctMarksP := .cons gap8_tells (.cons at8_tells (.cons noise_tells (.cons stitch_g (.cons sprBy_g (.cons sharp_g (.cons cosmic_g (.cons remove_g (.nil _))))))))
def ctGp : CT := [(38, .r kGap8)]
theorem ctGp_ok : CTok Try.prog ctGp := .cons gap8_tells (.nil _)
set_option maxHeartbeats 8000000 in
set_option maxRecDepth 100000 in
/-- What is spread and sharpened. -/
theorem mk29 {N : Nat} {x : Nat → Nat} {bar v by_ : Nat} {w0 w2 : Int} {R : Nat} (h : Marks N x bar v by_ w0 w2 R) : AW Try.prog 0 (tlP 29 bodyMk) (finA tt Try.f4 (.b fun _ => true) [] 0) (mkE Try.f4.ntmps [(5, .i .i64 fun _ => (N : Int)), (6, .own 0 (fun _ => 0) (fun _ => N) 1), (13, .f .f32 fun _ => lowP x N), (14, .f .f32 fun _ => highP x N), (28, .own 1 (fun _ => 0) (fun _ => N) 1), (30, .own 2 (fun _ => 0) (fun _ => N) 1), (32, .own 3 (fun _ => 0) (fun _ => N) 1), (34, .own 4 (fun _ => 0) (fun _ => N) 1)])
    [blkF true (fun _ => N) x, blkF true (fun _ => N) (sprX N x 3 (kern3 w0 w2)), blkF true (fun _ => N) (sprX N x 1 (one1 1073741824)), blkF true (fun _ => N) (shpX x N 3 (kern3 w0 w2) R), blkF true (fun _ => N) (shpX x N 1 (one1 1065353216) 3)] := by
  have h3 := h.n3
  have h14 := h.n14
  have same5 : EntsTo [blkF true (fun _ => N) x, blkF true (fun _ => N) (sprX N x 3 (kern3 w0 w2)), blkF true (fun _ => N) (sprX N x 1 (one1 1073741824)), blkF true (fun _ => N) (shpX x N 3 (kern3 w0 w2) R), blkF true (fun _ => N) (shpX x N 1 (one1 1065353216) 3)] [blkF true (fun _ => N) x, blkF true (fun _ => N) (sprX N x 3 (kern3 w0 w2)), blkF true (fun _ => N) (sprX N x 1 (one1 1073741824)), blkF true (fun _ => N) (shpX x N 3 (kern3 w0 w2) R), blkF true (fun _ => N) (shpX x N 1 (one1 1065353216) 3)] (List.range 5)
      [blkF true (fun _ => N) x, blkF true (fun _ => N) (sprX N x 3 (kern3 w0 w2)), blkF true (fun _ => N) (sprX N x 1 (one1 1073741824)), blkF true (fun _ => N) (shpX x N 3 (kern3 w0 w2) R), blkF true (fun _ => N) (shpX x N 1 (one1 1065353216) 3)] [blkF true (fun _ => N) x, blkF true (fun _ => N) (sprX N x 3 (kern3 w0 w2)), blkF true (fun _ => N) (sprX N x 1 (one1 1073741824)), blkF true (fun _ => N) (shpX x N 3 (kern3 w0 w2) R), blkF true (fun _ => N) (shpX x N 1 (one1 1065353216) 3)] :=
    ⟨EntTo.list (fun e => e) (Nat.le_refl _) fun j hj => AvTo.f rfl, EntTo.list (fun e => e) (Nat.le_refl _) fun j hj => AvTo.f rfl, EntTo.list (fun e => e) (Nat.le_refl _) fun j hj => AvTo.f rfl, EntTo.list (fun e => e) (Nat.le_refl _) fun j hj => AvTo.f rfl, EntTo.list (fun e => e) (Nat.le_refl _) fun j hj => AvTo.f rfl, trivial⟩
  refine AW.seq ?_
  refine AW.exec ttok (CTok.nil _) (by cbv) ?_
  simp only [natCast_int, Post, All, thenA, canon0, canon064, and_true, true_and, forall_const, implies_true, decide_eq_true_eq, decide_eq_false_iff_not, Bool.not_eq_true', Bool.not_eq_false', Bool.true_and, Bool.and_true, beq_true, beq_false, Int.toNat_natCast, Int.ofNat_lt, Int.ofNat_le, Nat.zero_add, Nat.add_zero, imp_self, Bool.cond_false_right, Bool.cond_true_left, Bool.cond_true_right, IsF, rdF_eq, fOf, AV.f.injEq, exists_eq', free_list, free_fn0, List.not_mem_nil, List.mem_cons, false_imp, forall_eq, or_false, free_i, free_f, free_b, ren_f, ren_i, ren_b, and_self, bne_iff_ne, bne_eq_false_iff_eq, ne_eq, Int.natCast_inj, or_true, true_or, freeB_list, unfr_f, unfr_i, unfr_b, unfr_c, unfr_s, free_c, free_s, ren_c, ren_s, unfr_ro, unfr_rptr, ren_ro, free_ll, free_box, kill_f, kill_i, kill_b, kill_c, kill_s, kill_rof, kill_rot, Int.toNat_zero, isFF_ll, rowN_ll, rowX_ll, AllFree, Option.some.injEq, Prod.mk.injEq, Bool.false_eq_true, Bool.true_eq_false]
  (repeat' first | with_reducible assumption | with_reducible apply And.intro | with_reducible intro hh) <;> first | ((first | with_reducible show (_ : Int) ≤ _ | with_reducible show (_ : Int) < _ | with_reducible show (_ : Nat) ≤ _ | with_reducible show (_ : Nat) < _ | with_reducible show (_ : Int) = _ | with_reducible show (_ : Nat) = _ | with_reducible show ¬ _ | with_reducible show _ ≠ _) <;> first | omega | (simp only [Bool.and_eq_true, Bool.or_eq_false_iff, Bool.not_eq_false', Bool.not_eq_true', decide_eq_true_eq, decide_eq_false_iff_not] at *; omega) | (with_reducible assumption)) | (with_reducible assumption) | skip
  refine AW.loopH (ι := Nat) (fun i => i ≤ N) (fun i => N - i) (fun i => mkE Try.f4.ntmps [(5, .i .i64 fun _ => (N : Int)), (6, .own 0 (fun _ => 0) (fun _ => N) 1), (13, .f .f32 fun _ => lowP x N), (14, .f .f32 fun _ => highP x N), (28, .own 1 (fun _ => 0) (fun _ => N) 1), (30, .own 2 (fun _ => 0) (fun _ => N) 1), (32, .own 3 (fun _ => 0) (fun _ => N) 1), (34, .own 4 (fun _ => 0) (fun _ => N) 1), (36, .i .i64 fun _ => (i : Int))])
    (fun _ => [blkF true (fun _ => N) x, blkF true (fun _ => N) (sprX N x 3 (kern3 w0 w2)), blkF true (fun _ => N) (sprX N x 1 (one1 1073741824)), blkF true (fun _ => N) (shpX x N 3 (kern3 w0 w2) R), blkF true (fun _ => N) (shpX x N 1 (one1 1065353216) 3)]) 0 (Nat.zero_le _) (To.same (Nat.zero_le _) same5 ?_) ?_
  · (repeat' first | exact AllTo.nil | apply AllTo.cons) <;> first | exact AvTo.dead _ | exact AvTo.i rfl | exact AvTo.f rfl | exact AvTo.own rfl rfl rfl rfl | trace_state
  rintro Q' hQ i hi
  rcases Nat.lt_or_eq_of_le hi with hl | rfl
  · have hli : (i : Int) < (N : Int) := by omega
    have k1 := h.c1 i hl
    have k2 := h.c2 i hl
    have k3 := h.c3 i hl
    have k4 := h.c4 i hl
    have k5 := h.c5 i hl
    simp only [wd] at k1 k2
    refine AW.seq (AW.exec ttok (CTok.nil _) (by cbv) ?_)
    simp only [natCast_int, Post, All, thenA, canon0, canon064, and_true, true_and, forall_const, implies_true, decide_eq_true_eq, decide_eq_false_iff_not, Bool.not_eq_true', Bool.not_eq_false', Bool.true_and, Bool.and_true, beq_true, beq_false, Int.toNat_natCast, Int.ofNat_lt, Int.ofNat_le, Nat.zero_add, Nat.add_zero, imp_self, Bool.cond_false_right, Bool.cond_true_left, Bool.cond_true_right, IsF, rdF_eq, fOf, AV.f.injEq, exists_eq', free_list, free_fn0, List.not_mem_nil, List.mem_cons, false_imp, forall_eq, or_false, free_i, free_f, free_b, ren_f, ren_i, ren_b, and_self, bne_iff_ne, bne_eq_false_iff_eq, ne_eq, Int.natCast_inj, or_true, true_or, freeB_list, unfr_f, unfr_i, unfr_b, unfr_c, unfr_s, free_c, free_s, ren_c, ren_s, unfr_ro, unfr_rptr, ren_ro, free_ll, free_box, kill_f, kill_i, kill_b, kill_c, kill_s, kill_rof, kill_rot, Int.toNat_zero, isFF_ll, rowN_ll, rowX_ll, AllFree, Option.some.injEq, Prod.mk.injEq, Bool.false_eq_true, Bool.true_eq_false, eqL_self, heldL_mark, heldL_zero, one_neg, Nat.zero_le, Nat.not_lt_zero, one_add_len, one_le_tb, zero_le_one', not_false_eq_true, true_imp_iff, bne_self_eq_false, Bool.or_false, Bool.false_or, Bool.not_true, Bool.not_false, Bool.true_eq_false, Bool.false_eq_true, false_imp, Nat.le_refl, decide_true, decide_false, not_true_eq_false, Int.lt_irrefl, hl, hli]
    refine AW.seq (AW.block (AW.seq (AW.drawnP ttok ctGp_ok (arunV_mid 11 (by cbv) (by conv => lhs; simp only [natCast_int, Post, All, thenA, canon0, canon064, and_true, true_and, forall_const, implies_true, decide_eq_true_eq, decide_eq_false_iff_not, Bool.not_eq_true', Bool.not_eq_false', Bool.true_and, Bool.and_true, beq_true, beq_false, Int.toNat_natCast, Int.ofNat_lt, Int.ofNat_le, Nat.zero_add, Nat.add_zero, imp_self, Bool.cond_false_right, Bool.cond_true_left, Bool.cond_true_right, IsF, rdF_eq, fOf, AV.f.injEq, exists_eq', free_list, free_fn0, List.not_mem_nil, List.mem_cons, false_imp, forall_eq, or_false, free_i, free_f, free_b, ren_f, ren_i, ren_b, and_self, bne_iff_ne, bne_eq_false_iff_eq, ne_eq, Int.natCast_inj, or_true, true_or, freeB_list, unfr_f, unfr_i, unfr_b, unfr_c, unfr_s, free_c, free_s, ren_c, ren_s, unfr_ro, unfr_rptr, ren_ro, free_ll, free_box, kill_f, kill_i, kill_b, kill_c, kill_s, kill_rof, kill_rot, Int.toNat_zero, isFF_ll, rowN_ll, rowX_ll, AllFree, Option.some.injEq, Prod.mk.injEq, Bool.false_eq_true, Bool.true_eq_false, eqL_self, heldL_mark, heldL_zero, one_neg, Nat.zero_le, Nat.not_lt_zero, one_add_len, one_le_tb, zero_le_one', not_false_eq_true, true_imp_iff, bne_self_eq_false, Bool.or_false, Bool.false_or, Bool.not_true, Bool.not_false, Bool.true_eq_false, Bool.false_eq_true, false_imp, Nat.le_refl, decide_true, decide_false, not_true_eq_false, Int.lt_irrefl, hl, cnmilP, k1, k2, k3, k4, k5]) (arunV_mid 11 (by cbv) (by conv => lhs; simp only [natCast_int, Post, All, thenA, canon0, canon064, and_true, true_and, forall_const, implies_true, decide_eq_true_eq, decide_eq_false_iff_not, Bool.not_eq_true', Bool.not_eq_false', Bool.true_and, Bool.and_true, beq_true, beq_false, Int.toNat_natCast, Int.ofNat_lt, Int.ofNat_le, Nat.zero_add, Nat.add_zero, imp_self, Bool.cond_false_right, Bool.cond_true_left, Bool.cond_true_right, IsF, rdF_eq, fOf, AV.f.injEq, exists_eq', free_list, free_fn0, List.not_mem_nil, List.mem_cons, false_imp, forall_eq, or_false, free_i, free_f, free_b, ren_f, ren_i, ren_b, and_self, bne_iff_ne, bne_eq_false_iff_eq, ne_eq, Int.natCast_inj, or_true, true_or, freeB_list, unfr_f, unfr_i, unfr_b, unfr_c, unfr_s, free_c, free_s, ren_c, ren_s, unfr_ro, unfr_rptr, ren_ro, free_ll, free_box, kill_f, kill_i, kill_b, kill_c, kill_s, kill_rof, kill_rot, Int.toNat_zero, isFF_ll, rowN_ll, rowX_ll, AllFree, Option.some.injEq, Prod.mk.injEq, Bool.false_eq_true, Bool.true_eq_false, eqL_self, heldL_mark, heldL_zero, one_neg, Nat.zero_le, Nat.not_lt_zero, one_add_len, one_le_tb, zero_le_one', not_false_eq_true, true_imp_iff, bne_self_eq_false, Bool.or_false, Bool.false_or, Bool.not_true, Bool.not_false, Bool.true_eq_false, Bool.false_eq_true, false_imp, Nat.le_refl, decide_true, decide_false, not_true_eq_false, Int.lt_irrefl, hl, cnmilP, k1, k2, k3, k4, k5]) (arunV_mid 11 (by cbv) (by conv => lhs; simp only [natCast_int, Post, All, thenA, canon0, canon064, and_true, true_and, forall_const, implies_true, decide_eq_true_eq, decide_eq_false_iff_not, Bool.not_eq_true', Bool.not_eq_false', Bool.true_and, Bool.and_true, beq_true, beq_false, Int.toNat_natCast, Int.ofNat_lt, Int.ofNat_le, Nat.zero_add, Nat.add_zero, imp_self, Bool.cond_false_right, Bool.cond_true_left, Bool.cond_true_right, IsF, rdF_eq, fOf, AV.f.injEq, exists_eq', free_list, free_fn0, List.not_mem_nil, List.mem_cons, false_imp, forall_eq, or_false, free_i, free_f, free_b, ren_f, ren_i, ren_b, and_self, bne_iff_ne, bne_eq_false_iff_eq, ne_eq, Int.natCast_inj, or_true, true_or, freeB_list, unfr_f, unfr_i, unfr_b, unfr_c, unfr_s, free_c, free_s, ren_c, ren_s, unfr_ro, unfr_rptr, ren_ro, free_ll, free_box, kill_f, kill_i, kill_b, kill_c, kill_s, kill_rof, kill_rot, Int.toNat_zero, isFF_ll, rowN_ll, rowX_ll, AllFree, Option.some.injEq, Prod.mk.injEq, Bool.false_eq_true, Bool.true_eq_false, eqL_self, heldL_mark, heldL_zero, one_neg, Nat.zero_le, Nat.not_lt_zero, one_add_len, one_le_tb, zero_le_one', not_false_eq_true, true_imp_iff, bne_self_eq_false, Bool.or_false, Bool.false_or, Bool.not_true, Bool.not_false, Bool.true_eq_false, Bool.false_eq_true, false_imp, Nat.le_refl, decide_true, decide_false, not_true_eq_false, Int.lt_irrefl, hl, cnmilP, k1, k2, k3, k4, k5]) (arunV_mid 11 (by cbv) (by conv => lhs; simp only [natCast_int, Post, All, thenA, canon0, canon064, and_true, true_and, forall_const, implies_true, decide_eq_true_eq, decide_eq_false_iff_not, Bool.not_eq_true', Bool.not_eq_false', Bool.true_and, Bool.and_true, beq_true, beq_false, Int.toNat_natCast, Int.ofNat_lt, Int.ofNat_le, Nat.zero_add, Nat.add_zero, imp_self, Bool.cond_false_right, Bool.cond_true_left, Bool.cond_true_right, IsF, rdF_eq, fOf, AV.f.injEq, exists_eq', free_list, free_fn0, List.not_mem_nil, List.mem_cons, false_imp, forall_eq, or_false, free_i, free_f, free_b, ren_f, ren_i, ren_b, and_self, bne_iff_ne, bne_eq_false_iff_eq, ne_eq, Int.natCast_inj, or_true, true_or, freeB_list, unfr_f, unfr_i, unfr_b, unfr_c, unfr_s, free_c, free_s, ren_c, ren_s, unfr_ro, unfr_rptr, ren_ro, free_ll, free_box, kill_f, kill_i, kill_b, kill_c, kill_s, kill_rof, kill_rot, Int.toNat_zero, isFF_ll, rowN_ll, rowX_ll, AllFree, Option.some.injEq, Prod.mk.injEq, Bool.false_eq_true, Bool.true_eq_false, eqL_self, heldL_mark, heldL_zero, one_neg, Nat.zero_le, Nat.not_lt_zero, one_add_len, one_le_tb, zero_le_one', not_false_eq_true, true_imp_iff, bne_self_eq_false, Bool.or_false, Bool.false_or, Bool.not_true, Bool.not_false, Bool.true_eq_false, Bool.false_eq_true, false_imp, Nat.le_refl, decide_true, decide_false, not_true_eq_false, Int.lt_irrefl, hl, cnmilP, k1, k2, k3, k4, k5]) (by cbv))))) (by kernel_rfl) ?_ ?_)))
    · simp only [natCast_int, Post, All, thenA, canon0, canon064, and_true, true_and, forall_const, implies_true, decide_eq_true_eq, decide_eq_false_iff_not, Bool.not_eq_true', Bool.not_eq_false', Bool.true_and, Bool.and_true, beq_true, beq_false, Int.toNat_natCast, Int.ofNat_lt, Int.ofNat_le, Nat.zero_add, Nat.add_zero, imp_self, Bool.cond_false_right, Bool.cond_true_left, Bool.cond_true_right, IsF, rdF_eq, fOf, AV.f.injEq, exists_eq', free_list, free_fn0, List.not_mem_nil, List.mem_cons, false_imp, forall_eq, or_false, free_i, free_f, free_b, ren_f, ren_i, ren_b, and_self, bne_iff_ne, bne_eq_false_iff_eq, ne_eq, Int.natCast_inj, or_true, true_or, freeB_list, unfr_f, unfr_i, unfr_b, unfr_c, unfr_s, free_c, free_s, ren_c, ren_s, unfr_ro, unfr_rptr, ren_ro, free_ll, free_box, kill_f, kill_i, kill_b, kill_c, kill_s, kill_rof, kill_rot, Int.toNat_zero, isFF_ll, rowN_ll, rowX_ll, AllFree, Option.some.injEq, Prod.mk.injEq, Bool.false_eq_true, Bool.true_eq_false, eqL_self, heldL_mark, heldL_zero, one_neg, Nat.zero_le, Nat.not_lt_zero, one_add_len, one_le_tb, zero_le_one', not_false_eq_true, true_imp_iff, bne_self_eq_false, Bool.or_false, Bool.false_or, Bool.not_true, Bool.not_false, Bool.true_eq_false, Bool.false_eq_true, false_imp, Nat.le_refl, decide_true, decide_false, not_true_eq_false, Int.lt_irrefl, thenA, List.cons_append, List.nil_append, hl, cnmilP, k1, k2, k3, k4, k5]
      (repeat' first | with_reducible assumption | with_reducible apply And.intro | with_reducible intro hh) <;> first | ((first | with_reducible show (_ : Int) ≤ _ | with_reducible show (_ : Int) < _ | with_reducible show (_ : Nat) ≤ _ | with_reducible show (_ : Nat) < _ | with_reducible show (_ : Int) = _ | with_reducible show (_ : Nat) = _ | with_reducible show ¬ _ | with_reducible show _ ≠ _) <;> first | omega | (simp only [Bool.and_eq_true, Bool.or_eq_false_iff, Bool.not_eq_false', Bool.not_eq_true', decide_eq_true_eq, decide_eq_false_iff_not] at *; omega) | (with_reducible assumption)) | (with_reducible assumption) | skip
      all_goals trace_state
    · simp only [natCast_int, Post, All, thenA, canon0, canon064, and_true, true_and, forall_const, implies_true, decide_eq_true_eq, decide_eq_false_iff_not, Bool.not_eq_true', Bool.not_eq_false', Bool.true_and, Bool.and_true, beq_true, beq_false, Int.toNat_natCast, Int.ofNat_lt, Int.ofNat_le, Nat.zero_add, Nat.add_zero, imp_self, Bool.cond_false_right, Bool.cond_true_left, Bool.cond_true_right, IsF, rdF_eq, fOf, AV.f.injEq, exists_eq', free_list, free_fn0, List.not_mem_nil, List.mem_cons, false_imp, forall_eq, or_false, free_i, free_f, free_b, ren_f, ren_i, ren_b, and_self, bne_iff_ne, bne_eq_false_iff_eq, ne_eq, Int.natCast_inj, or_true, true_or, freeB_list, unfr_f, unfr_i, unfr_b, unfr_c, unfr_s, free_c, free_s, ren_c, ren_s, unfr_ro, unfr_rptr, ren_ro, free_ll, free_box, kill_f, kill_i, kill_b, kill_c, kill_s, kill_rof, kill_rot, Int.toNat_zero, isFF_ll, rowN_ll, rowX_ll, AllFree, Option.some.injEq, Prod.mk.injEq, Bool.false_eq_true, Bool.true_eq_false, eqL_self, heldL_mark, heldL_zero, one_neg, Nat.zero_le, Nat.not_lt_zero, one_add_len, one_le_tb, zero_le_one', not_false_eq_true, true_imp_iff, bne_self_eq_false, Bool.or_false, Bool.false_or, Bool.not_true, Bool.not_false, Bool.true_eq_false, Bool.false_eq_true, false_imp, Nat.le_refl, decide_true, decide_false, not_true_eq_false, Int.lt_irrefl, thenA, hl, cnmilP, k1, k2, k3, k4, k5]
      refine AW.cond rfl (fun hf => by cases hf) fun _ => AW.skip ?_
      simp only [blockA, thenA]
      refine AW.exec ttok (CTok.nil _) (by cbv) ?_
      simp only [natCast_int, Post, All, thenA, canon0, canon064, and_true, true_and, forall_const, implies_true, decide_eq_true_eq, decide_eq_false_iff_not, Bool.not_eq_true', Bool.not_eq_false', Bool.true_and, Bool.and_true, beq_true, beq_false, Int.toNat_natCast, Int.ofNat_lt, Int.ofNat_le, Nat.zero_add, Nat.add_zero, imp_self, Bool.cond_false_right, Bool.cond_true_left, Bool.cond_true_right, IsF, rdF_eq, fOf, AV.f.injEq, exists_eq', free_list, free_fn0, List.not_mem_nil, List.mem_cons, false_imp, forall_eq, or_false, free_i, free_f, free_b, ren_f, ren_i, ren_b, and_self, bne_iff_ne, bne_eq_false_iff_eq, ne_eq, Int.natCast_inj, or_true, true_or, freeB_list, unfr_f, unfr_i, unfr_b, unfr_c, unfr_s, free_c, free_s, ren_c, ren_s, unfr_ro, unfr_rptr, ren_ro, free_ll, free_box, kill_f, kill_i, kill_b, kill_c, kill_s, kill_rof, kill_rot, Int.toNat_zero, isFF_ll, rowN_ll, rowX_ll, AllFree, Option.some.injEq, Prod.mk.injEq, Bool.false_eq_true, Bool.true_eq_false, thenA]
      (repeat' first | with_reducible assumption | with_reducible apply And.intro | with_reducible intro hh) <;> first | ((first | with_reducible show (_ : Int) ≤ _ | with_reducible show (_ : Int) < _ | with_reducible show (_ : Nat) ≤ _ | with_reducible show (_ : Nat) < _ | with_reducible show (_ : Int) = _ | with_reducible show (_ : Nat) = _ | with_reducible show ¬ _ | with_reducible show _ ≠ _) <;> first | omega | (simp only [Bool.and_eq_true, Bool.or_eq_false_iff, Bool.not_eq_false', Bool.not_eq_true', decide_eq_true_eq, decide_eq_false_iff_not] at *; omega) | (with_reducible assumption)) | (with_reducible assumption) | skip
      refine ⟨i + 1, by omega, by omega, To.same (Nat.zero_le _) same5 ?_⟩
      (repeat' first | exact AllTo.nil | apply AllTo.cons) <;> first | exact AvTo.dead _ | exact AvTo.i rfl | exact AvTo.f rfl | exact AvTo.b rfl | exact AvTo.own rfl rfl rfl rfl | exact Free.same (.ro fun _ _ _ _ => .i) | trace_state
  · refine AW.seq (AW.seq (AW.exec ttok (CTok.nil _) (by cbv) ?_))
    simp only [natCast_int, Post, All, thenA, canon0, canon064, and_true, true_and, forall_const, implies_true, decide_eq_true_eq, decide_eq_false_iff_not, Bool.not_eq_true', Bool.not_eq_false', Bool.true_and, Bool.and_true, beq_true, beq_false, Int.toNat_natCast, Int.ofNat_lt, Int.ofNat_le, Nat.zero_add, Nat.add_zero, imp_self, Bool.cond_false_right, Bool.cond_true_left, Bool.cond_true_right, IsF, rdF_eq, fOf, AV.f.injEq, exists_eq', free_list, free_fn0, List.not_mem_nil, List.mem_cons, false_imp, forall_eq, or_false, free_i, free_f, free_b, ren_f, ren_i, ren_b, and_self, bne_iff_ne, bne_eq_false_iff_eq, ne_eq, Int.natCast_inj, or_true, true_or, freeB_list, unfr_f, unfr_i, unfr_b, unfr_c, unfr_s, free_c, free_s, ren_c, ren_s, unfr_ro, unfr_rptr, ren_ro, free_ll, free_box, kill_f, kill_i, kill_b, kill_c, kill_s, kill_rof, kill_rot, Int.toNat_zero, isFF_ll, rowN_ll, rowX_ll, AllFree, Option.some.injEq, Prod.mk.injEq, Bool.false_eq_true, Bool.true_eq_false, thenA]
    refine AW.cond rfl (fun hf => ?_) fun _ => AW.exit ?_
    · exfalso
      have hf := of_decide_eq_true hf
      omega
    simp only [thenA]
    obtain ⟨rfl⟩ := hQ
    refine Post.eval (by cbv) ?_
    simp only [natCast_int, Post, All, thenA, canon0, canon064, and_true, true_and, forall_const, implies_true, decide_eq_true_eq, decide_eq_false_iff_not, Bool.not_eq_true', Bool.not_eq_false', Bool.true_and, Bool.and_true, beq_true, beq_false, Int.toNat_natCast, Int.ofNat_lt, Int.ofNat_le, Nat.zero_add, Nat.add_zero, imp_self, Bool.cond_false_right, Bool.cond_true_left, Bool.cond_true_right, IsF, rdF_eq, fOf, AV.f.injEq, exists_eq', free_list, free_fn0, List.not_mem_nil, List.mem_cons, false_imp, forall_eq, or_false, free_i, free_f, free_b, ren_f, ren_i, ren_b, and_self, bne_iff_ne, bne_eq_false_iff_eq, ne_eq, Int.natCast_inj, or_true, true_or, freeB_list, unfr_f, unfr_i, unfr_b, unfr_c, unfr_s, free_c, free_s, ren_c, ren_s, unfr_ro, unfr_rptr, ren_ro, free_ll, free_box, kill_f, kill_i, kill_b, kill_c, kill_s, kill_rof, kill_rot, Int.toNat_zero, isFF_ll, rowN_ll, rowX_ll, AllFree, Option.some.injEq, Prod.mk.injEq, Bool.false_eq_true, Bool.true_eq_false, thenA]
    refine AW.exec ttok (CTok.nil _) (by cbv) ?_
    simp only [natCast_int, Post, All, thenA, canon0, canon064, and_true, true_and, forall_const, implies_true, decide_eq_true_eq, decide_eq_false_iff_not, Bool.not_eq_true', Bool.not_eq_false', Bool.true_and, Bool.and_true, beq_true, beq_false, Int.toNat_natCast, Int.ofNat_lt, Int.ofNat_le, Nat.zero_add, Nat.add_zero, imp_self, Bool.cond_false_right, Bool.cond_true_left, Bool.cond_true_right, IsF, rdF_eq, fOf, AV.f.injEq, exists_eq', free_list, free_fn0, List.not_mem_nil, List.mem_cons, false_imp, forall_eq, or_false, free_i, free_f, free_b, ren_f, ren_i, ren_b, and_self, bne_iff_ne, bne_eq_false_iff_eq, ne_eq, Int.natCast_inj, or_true, true_or, freeB_list, unfr_f, unfr_i, unfr_b, unfr_c, unfr_s, free_c, free_s, ren_c, ren_s, unfr_ro, unfr_rptr, ren_ro, free_ll, free_box, kill_f, kill_i, kill_b, kill_c, kill_s, kill_rof, kill_rot, Int.toNat_zero, isFF_ll, rowN_ll, rowX_ll, AllFree, Option.some.injEq, Prod.mk.injEq, Bool.false_eq_true, Bool.true_eq_false]
    exact fin_ret (.inl rfl) (by cbv) (by simp) (To.fresh (.cons (.b rfl) .nil))
end Go.Proofs.Ytfdmmbcjidkmoaa
