/- Code over abstract values: regions, sequences, branches, blocks, loops; what a function's call comes to. -/
/- What is told is told anew (forgotten, renamed, seen as read only); a function out of its body; calls. -/
import Derived.Test.YtfdmmbcjidkmoaaAwj
import Derived.Scope
namespace Go.Aw

structure St (w0 : World) (ρ0 : Mp) (N0 : Nat) (ρ : Mp) (env : List AV) (H : Heap) (a : Act) (w : World) : Prop where
  defers : a.defers = []
  env : EnvRel w ρ H.length w0.heap.size env a.tmps
  rel : Rel w ρ w0.heap.size H
  pass : Pass w0 ρ0 N0 w ρ H.length
/-- What is left of a sequential region, from operation i on. -/
def AOps (P : Program) (ops : Array Oper) (N0 : Nat) (K : List AV → Heap → Prop) (i : Nat) (env : List AV) (H : Heap) : Prop :=
  ∀ (Q : Exit → Act → World → Prop) w0 ρ0 ρ a w, St w0 ρ0 N0 ρ env H a w → (∀ env' H' ρ' a' w', K env' H' → St w0 ρ0 N0 ρ' env' H' a' w' → Q .normal a' w') → wpOps P ops Q (List.range' i (ops.size - i)) a w
def AW (P : Program) (N0 : Nat) (c : Code) (Q : Exit → List AV → Heap → Prop) (env : List AV) (H : Heap) : Prop :=
  ∀ w0 ρ0 ρ a w, St w0 ρ0 N0 ρ env H a w → c.wp P (fun e a' w' => ∃ env' H' ρ', Q e env' H' ∧ St w0 ρ0 N0 ρ' env' H' a' w') a w

section
variable {P : Program} {N0 : Nat}
theorem St.step {w0 : World} {ρ0 ρ ρ' : Mp} {env : List AV} {H H' : Heap} {a : Act} {w w' : World} {r : AV} {v : Value} (s : St w0 ρ0 N0 ρ env H a w) (hR : Rel w' ρ' w0.heap.size H') (hP : Pass w ρ H.length w' ρ' H'.length)
    (hv : Sim w' ρ' H'.length w0.heap.size r v) (dst : Option Tmp) : St w0 ρ0 N0 ρ' (aput env dst r) H' (a.put dst v) w' :=
  ⟨by cases dst <;> exact s.defers, (s.env.mono hP (Nat.le_refl _)).put hv dst, hR, s.pass.trans hP⟩
theorem range'_step {i n : Nat} (h : i < n) : List.range' i (n - i) = i :: List.range' (i + 1) (n - (i + 1)) := by
  rw [show n - i = (n - (i + 1)) + 1 by omega, List.range'_succ]
/-- One operation that the evaluator takes. -/
theorem AOps.one {tt : TT} (htt : TTok P tt) {ops : Array Oper} {K : List AV → Heap → Prop} {i : Nat} {o : Oper} {env env' : List AV} {H H' : Heap} {p : Th Prop} (ho : ops[i]? = some o) (hs : astep tt ops env H o = some (env', H', p)) (hp : p .u)
    (h : AOps P ops N0 K (i + 1) env' H') : AOps P ops N0 K i env H := by
  intro Q w0 ρ0 ρ a w s hQ
  have hlt : i < ops.size := (Array.getElem?_eq_some_iff.1 ho).1
  rw [range'_step hlt]
  simp only [wpOps, ho]
  have hL : w0.heap.size ≤ w.heap.size := s.pass.size
  have fin : ∀ r H1, Does P (execOp a.eval o) w ρ w0.heap.size H r H1 → AOps P ops N0 K (i + 1) (aput env o.dst r) H1 → o.wp P a w (wpOps P ops Q (List.range' (i + 1) (ops.size - (i + 1)))) Q := by
    intro r H1 hd hk
    obtain ⟨v, w', ρ', hrun, hR, hP, hv⟩ := hd
    have s' := s.step hR hP hv o.dst
    unfold Oper.wp Oper.upon
    rcases hrun with hrun | ⟨hrun, rfl⟩ <;> rw [hrun] <;> exact hk Q w0 ρ0 ρ' _ w' s' hQ
  unfold astep at hs
  split at hs
  · rename_i hg
    have hw : Region.wanted o (yielded ops a.tmps) = true := by simp [Region.wanted, hg]
    rw [if_pos hw]
    left
    split at hs
    · rename_i r q hq
      cases hs
      exact fin r H (aopq_sound htt s.rel hq hp fun x _ => aeval_sound s.env x) h
    · split at hs <;> cases hs
      rename_i r hh
      exact fin r _ (aoph_sound htt s.rel hL hh hp fun x _ => aeval_sound s.env x) h
  · rename_i j want hg
    split at hs <;> first | (cases hs; done) | skip
    rename_i c b hgav
    split at hs <;> cases hs
    rename_i r q hq
    have hy : (c .u = true → yielded ops a.tmps j = some (b .u)) ∧ (c .u = false → yielded ops a.tmps j = none) := by
      rw [guardAV_eq] at hgav
      split at hgav <;> first | (cases hgav; done) | skip
      rename_i oj hoj
      split at hgav <;> first | (cases hgav; done) | skip
      rename_i d hd
      have hoj' : ops[j]? = some oj := by simpa using hoj
      have hy1 : ∀ b, a.tmps[d]? = some (.bool b) → yielded ops a.tmps j = some b := by
        intro b hb; unfold yielded; rw [hoj']; simp [hd, hb]
      have hy0 : a.tmps[d]? = some undef → yielded ops a.tmps j = none := by
        intro hb; unfold yielded; rw [hoj']; simp [hd, hb, undef]
      split at hgav <;> cases hgav
      · rename_i he
        have hdl := (List.getElem?_eq_some_iff.1 he).1
        have hv : a.tmps[d]? = some (a.tmps[d]'(by rw [← s.env.len]; exact hdl)) := Array.getElem?_eq_getElem _
        have hsim := s.env.at_ d _ _ he hv
        have e := hsim.b_inv
        exact ⟨fun _ => hy1 (b .u) (by rw [hv, e]), fun e => by cases e⟩
      · rename_i he
        have hdl := (List.getElem?_eq_some_iff.1 he).1
        have hv : a.tmps[d]? = some (a.tmps[d]'(by rw [← s.env.len]; exact hdl)) := Array.getElem?_eq_getElem _
        have hsim := s.env.at_ d _ _ he hv
        rw [hv] at hy0 hy1
        generalize a.tmps[d]'(by rw [← s.env.len]; exact hdl) = u at hsim hy0 hy1
        cases hsim with
        | on h1 h2 =>
          constructor
          · intro hc; exact hy1 (b .u) (by rw [(h1 hc).b_inv])
          · intro hc; exact hy0 (by rw [h2 hc])
    by_cases hc : (c .u && (b .u == want)) = true
    · have hc' := hc
      simp only [Bool.and_eq_true, beq_iff_eq] at hc'
      have hw : Region.wanted o (yielded ops a.tmps) = true := by simp [Region.wanted, hg, hy.1 hc'.1, hc'.2]
      rw [if_pos hw]
      left
      obtain ⟨hcond, hq'⟩ := hp hc
      have hd := aopq_sound htt s.rel hq hq' (a := a) fun x hx => (aeval_sound s.env x).unOn (conds_at hcond x hx)
      refine fin (.on (fun _ => c .u && (b .u == want)) r) H ?_ h
      obtain ⟨v, w', ρ', k1, k2, k3, k4⟩ := hd
      exact ⟨v, w', ρ', k1, k2, k3, .on (fun _ => k4) (fun e => by rw [hc] at e; cases e)⟩
    · have hcf : (c .u && (b .u == want)) = false := by simpa using hc
      have hw : Region.wanted o (yielded ops a.tmps) = false := by
        cases hcc : c .u with
        | false => simp [Region.wanted, hg, hy.2 hcc]
        | true =>
          rw [hcc] at hcf
          simp only [Bool.true_and, beq_eq_false_iff_ne] at hcf
          simp [Region.wanted, hg, hy.1 hcc, hcf]
      rw [hw, if_neg (by simp)]
      refine h Q w0 ρ0 ρ _ w ?_ hQ
      exact s.step s.rel (Pass.refl _ _ _) (r := .on (fun _ => c .u && (b .u == want)) r) (v := undef) (.on (fun e => absurd e hc) (fun _ => rfl)) o.dst
/-- The evaluator goes as far as it can. -/
def arun (tt : TT) (ops : Array Oper) : List Oper → Nat → List AV → Heap → Nat × List AV × Heap × List (Th Prop)
  | [], i, env, H => (i, env, H, [])
  | o :: l, i, env, H => match astep tt ops env H o with
    | some (env', H', p) => match arun tt ops l (i + 1) env' H' with
      | (j, e, h, ps) => (j, e, h, p :: ps)
    | none => (i, env, H, [])
def All : List (Th Prop) → Prop
  | [] => True
  | p :: ps => p .u ∧ All ps
theorem AOps.run {tt : TT} (htt : TTok P tt) {ops : Array Oper} {K : List AV → Heap → Prop} {i j : Nat} {env env' : List AV} {H H' : Heap} {ps : List (Th Prop)} (hr : arun tt ops (ops.toList.drop i) i env H = (j, env', H', ps)) (hp : All ps)
    (h : AOps P ops N0 K j env' H') : AOps P ops N0 K i env H := by
  have key : ∀ (l : List Oper) (i : Nat) (env : List AV) (H : Heap) (ps : List (Th Prop)), ops.toList.drop i = l → arun tt ops l i env H = (j, env', H', ps) → All ps → AOps P ops N0 K i env H := by
    intro l
    induction l with
    | nil =>
      intro i env H ps _ hr _
      cases hr
      exact h
    | cons o l ih =>
      intro i env H ps hl hr hp
      simp only [arun] at hr
      have ho : ops[i]? = some o := by
        have := congrArg (fun q => q[0]?) hl
        simp only [List.getElem?_drop, List.getElem?_cons_zero, Nat.add_zero] at this
        simpa using this
      have hl' : ops.toList.drop (i + 1) = l := by
        have := congrArg (List.drop 1) hl
        rw [List.drop_drop] at this
        simpa using this
      split at hr
      · rename_i env1 H1 p hs
        generalize hq : arun tt ops l (i + 1) env1 H1 = q at hr
        obtain ⟨j', e', h', ps'⟩ := q
        simp only [Prod.mk.injEq] at hr
        obtain ⟨rfl, rfl, rfl, rfl⟩ := hr
        exact AOps.one htt ho hs hp.1 (ih (i + 1) env1 H1 ps' hl' hq hp.2)
      · cases hr
        exact h
  exact key _ i env H ps rfl hr hp
theorem AOps.done {ops : Array Oper} {K : List AV → Heap → Prop} {i : Nat} {env : List AV} {H : Heap} (hi : ops.size ≤ i) (h : K env H) : AOps P ops N0 K i env H := by
  intro Q w0 ρ0 ρ a w s hQ
  rw [show ops.size - i = 0 by omega]
  exact hQ env H ρ a w h s
theorem AW.region {id : Nat} {ops : Array Oper} {Q : Exit → List AV → Heap → Prop} {env : List AV} {H : Heap} (h : AOps P ops N0 (fun e h => Q .normal e h) 0 env H) : AW P N0 (.region id ops false) Q env H := by
  intro w0 ρ0 ρ a w s
  refine wp_region ?_
  have := h (fun e a' w' => ∃ env' H' ρ', Q e env' H' ∧ St w0 ρ0 N0 ρ' env' H' a' w') w0 ρ0 ρ a w s fun env' H' ρ' a' w' hk hs => ⟨env', H', ρ', hk, hs⟩
  rw [List.range_eq_range']
  simpa using this
/-- A region that calls nothing. -/
theorem AW.quick {tt : TT} (htt : TTok P tt) {id : Nat} {ops : Array Oper} {Q : Exit → List AV → Heap → Prop} {env env' : List AV} {H H' : Heap} {ps : List (Th Prop)} (hr : arun tt ops ops.toList 0 env H = (ops.size, env', H', ps)) (hp : All ps)
    (h : Q .normal env' H') : AW P N0 (.region id ops false) Q env H :=
  AW.region (AOps.run htt (i := 0) (by simpa using hr) hp (AOps.done (Nat.le_refl _) h))
def thenA (K : List AV → Heap → Prop) (Q : Exit → List AV → Heap → Prop) : Exit → List AV → Heap → Prop
  | .normal, e, h => K e h
  | x, e, h => Q x e h
theorem AW.seq {c1 c2 : Code} {Q : Exit → List AV → Heap → Prop} {env : List AV} {H : Heap} (h : AW P N0 c1 (thenA (AW P N0 c2 Q) Q) env H) : AW P N0 (.seq c1 c2) Q env H := by
  intro w0 ρ0 ρ a w s
  refine wp_seq (wp_mono (h w0 ρ0 ρ a w s) fun e a' w' hh => ?_)
  obtain ⟨env', H', ρ', hq, hs⟩ := hh
  cases e <;> first | exact hq w0 ρ0 ρ' a' w' hs | exact ⟨env', H', ρ', hq, hs⟩
theorem AW.skip {Q : Exit → List AV → Heap → Prop} {env : List AV} {H : Heap} (h : Q .normal env H) : AW P N0 .skip Q env H := fun _ _ ρ _ _ s => wp_skip ⟨env, H, ρ, h, s⟩
theorem AW.ret {Q : Exit → List AV → Heap → Prop} {env : List AV} {H : Heap} (h : Q .ret env H) : AW P N0 .ret Q env H := fun _ _ ρ _ _ s => wp_ret ⟨env, H, ρ, h, s⟩
theorem AW.exit {id : Nat} {Q : Exit → List AV → Heap → Prop} {env : List AV} {H : Heap} (h : Q (.exit id) env H) : AW P N0 (.exit id) Q env H := fun _ _ ρ _ _ s => wp_exit ⟨env, H, ρ, h, s⟩
theorem AW.cond {c : Operand} {x y : Code} {Q : Exit → List AV → Heap → Prop} {env : List AV} {H : Heap} {b : Th Bool} (hc : aeval env c = .b b) (ht : b .u = true → AW P N0 x Q env H) (hf : b .u = false → AW P N0 y Q env H) : AW P N0 (.cond c x y) Q env H := by
  intro w0 ρ0 ρ a w s
  have hsim := aeval_sound s.env c
  rw [hc] at hsim
  exact wp_cond_split hsim.b_inv (fun e => ht e w0 ρ0 ρ a w s) (fun e => hf e w0 ρ0 ρ a w s)
def blockA (id : Nat) (Q : Exit → List AV → Heap → Prop) : Exit → List AV → Heap → Prop
  | .exit id', e, h => if id' = id then Q .normal e h else Q (.exit id') e h
  | x, e, h => Q x e h
theorem AW.block {id : Nat} {c : Code} {Q : Exit → List AV → Heap → Prop} {env : List AV} {H : Heap} (h : AW P N0 c (blockA id Q) env H) : AW P N0 (.block id c) Q env H := by
  intro w0 ρ0 ρ a w s
  refine wp_block (wp_mono (h w0 ρ0 ρ a w s) fun e a' w' hh => ?_)
  obtain ⟨env', H', ρ', hq, hs⟩ := hh
  cases e with
  | exit id' =>
    simp only [blockA] at hq
    simp only [Exit.inBlock]
    split <;> rename_i he
    · rw [if_pos he] at hq; exact ⟨env', H', ρ', hq, hs⟩
    · rw [if_neg he] at hq; exact ⟨env', H', ρ', hq, hs⟩
  | _ => exact ⟨env', H', ρ', hq, hs⟩
theorem AW.mono {c : Code} {Q Q' : Exit → List AV → Heap → Prop} {env : List AV} {H : Heap} (h : AW P N0 c Q env H) (hq : ∀ x e h, Q x e h → Q' x e h) : AW P N0 c Q' env H :=
  fun w0 ρ0 ρ a w s => wp_mono (h w0 ρ0 ρ a w s) fun _ _ _ ⟨env', H', ρ', k1, k2⟩ => ⟨env', H', ρ', hq _ _ _ k1, k2⟩
/-- A loop, by what holds at each head and a measure that goes down. -/
theorem AW.loop {c : Code} {Q : Exit → List AV → Heap → Prop} {env : List AV} {H : Heap} (I : Nat → List AV → Heap → Prop) {n : Nat} (h0 : I n env H)
    (round : ∀ n env H, I n env H → AW P N0 c (thenA (fun e h => ∃ m, m < n ∧ I m e h) Q) env H) : AW P N0 (.loop c) Q env H := by
  intro w0 ρ0 ρ a w s
  have key : ∀ n env H ρ a w, I n env H → St w0 ρ0 N0 ρ env H a w → (Code.loop c).wp P (fun e a' w' => ∃ env' H' ρ', Q e env' H' ∧ St w0 ρ0 N0 ρ' env' H' a' w') a w := by
    intro n env H ρ a w hI s b k cs
    have inner : ∀ n env H ρ a w, I n env H → St w0 ρ0 N0 ρ env H a w → ∃ e a' w', (∃ env' H' ρ', Q e env' H' ∧ St w0 ρ0 N0 ρ' env' H' a' w') ∧ Arrives P (lone (b.at a (.code c :: .inLoop c :: k)) cs w) b k cs e a' w' := by
      intro n
      induction n using Nat.strongRecOn with
      | _ n ih =>
        intro env H ρ a w hI s
        obtain ⟨e, a₁, w₁, ⟨env', H', ρ', hq, hs⟩, harr⟩ := round n env H hI w0 ρ0 ρ a w s b (.inLoop c :: k) cs
        cases e with
        | normal =>
          obtain ⟨m, hm, hI'⟩ := hq
          obtain ⟨e₂, a₂, w₂, hq₂, harr₂⟩ := ih m hm env' H' ρ' a₁ w₁ hI' hs
          exact ⟨e₂, a₂, w₂, hq₂, .of_steps (Steps.trans harr (.one step_inLoop)) harr₂⟩
        | exit id => exact ⟨_, a₁, w₁, ⟨env', H', ρ', hq, hs⟩, .pass (x := .inLoop c) rfl (fun _ _ => .inl (by simp)) harr⟩
        | goto l => exact ⟨_, a₁, w₁, ⟨env', H', ρ', hq, hs⟩, .pass (x := .inLoop c) rfl (fun _ _ => .inl (by simp)) harr⟩
        | ret => exact ⟨_, a₁, w₁, ⟨env', H', ρ', hq, hs⟩, .pass (x := .inLoop c) rfl (fun _ _ => .inl (by simp)) harr⟩
        | panic ch => exact ⟨_, a₁, w₁, ⟨env', H', ρ', hq, hs⟩, .pass (x := .inLoop c) rfl (fun _ _ => .inl (by simp)) harr⟩
        | outgrown => exact ⟨_, a₁, w₁, ⟨env', H', ρ', hq, hs⟩, .pass (x := .inLoop c) rfl (fun _ _ => .inl (by simp)) harr⟩
    obtain ⟨e, a', w', hq, harr⟩ := inner n env H ρ a w hI s
    exact ⟨e, a', w', hq, .of_steps (.one step_loop) harr⟩
  exact key n env H ρ a w h0 s

/-! ### What a call comes to -/
/-- A function that is entered. -/
def Enters (P : Program) (f : FuncId) : Prop := ∃ fn, P.funcs[f]? = some fn ∧ (fn.name == "runtime.NumGoroutine") = false ∧ fn.body.isNone = false
structure Con (P : Program) (f : FuncId) (args : List AV) (Hc : Heap) (res : AV) (Hc' : Heap) : Prop where
  enters : Enters P f
  len : Hc.length ≤ Hc'.length
  call : ∀ w ρ (vals : Array Value), Rel w ρ w.heap.size Hc → args.length = vals.size → (∀ (j : Nat) (x : AV) (v : Value), args[j]? = some x → vals[j]? = some v → Sim w ρ Hc.length w.heap.size x v) →
    Calls P f vals w fun e w' => ∃ v ρ', e = .returned v ∧ Sim w' ρ' Hc'.length w.heap.size res v ∧ Rel w' ρ' w.heap.size Hc' ∧ Pass w ρ Hc.length w' ρ' Hc'.length
def ares (tt : TT) (H : Heap) (env : List AV) : ResultVar → Option (AV × Th Prop)
  | .tmp t => some (env.getD t .dead, fun _ => True)
  | .cell p t => match env.getD p .dead with
    | .ptr id i sz c => if live H id then aload tt H t (.ptr id i sz c) else none
    | _ => none
def aresL (tt : TT) (H : Heap) (env : List AV) : List ResultVar → Option (List AV × Th Prop)
  | [] => some ([], fun _ => True)
  | r :: rs => match ares tt H env r, aresL tt H env rs with
    | some (a, p), some (l, q) => some (a :: l, fun _ => p .u ∧ q .u)
    | _, _ => none
def aresults (tt : TT) (H : Heap) (env : List AV) (rs : List ResultVar) : Option (AV × Th Prop) :=
  match aresL tt H env rs with
  | some ([a], p) => some (a, p)
  | some (l, p) => some (.tup l, p)
  | none => none
def resSem (tmps : Array Value) : ResultVar → Sem Value
  | .tmp t => pure (tmps.getD t undef)
  | .cell p t => do loadVar t (← asAddr (tmps.getD p undef))
theorem results_eq (fn : Func) (tmps : Array Value) : results fn tmps = (do let vs ← fn.results.mapM (resSem tmps); pure (if h : vs.size = 1 then vs[0] else .tuple vs)) := by
  unfold results
  congr 1
theorem aresL_sound {tt : TT} (htt : TTok P tt) {w0 : World} {ρ0 ρ : Mp} {env : List AV} {H : Heap} {a : Act} {w : World} (s : St w0 ρ0 N0 ρ env H a w) : ∀ (rs : List ResultVar) (l : List AV) (p : Th Prop), aresL tt H env rs = some (l, p) → p .u →
    ∃ vs : List Value, (rs.mapM (resSem a.tmps)).run P w = .ok vs w ∧ vs.length = l.length ∧ ∀ (j : Nat) (x : AV) (v : Value), l[j]? = some x → vs[j]? = some v → Sim w ρ H.length w0.heap.size x v := by
  intro rs
  induction rs with
  | nil => intro l p h _; cases h; exact ⟨[], by simp, rfl, fun j x v h => by simp at h⟩
  | cons r rs ih =>
    intro l p h hp
    simp only [aresL] at h
    split at h <;> cases h
    rename_i x px l' pl hx hl
    obtain ⟨vs, h1, h2, h3⟩ := ih l' pl hl hp.2
    have hv : ∃ v, (resSem a.tmps r).run P w = .ok v w ∧ Sim w ρ H.length w0.heap.size x v := by
      cases r with
      | tmp t =>
        simp only [ares] at hx
        cases hx
        exact ⟨_, rfl, (lget_eq env t) ▸ aeval_sound s.env (.tmp t)⟩
      | cell q t =>
        simp only [ares] at hx
        have hq := aeval_sound s.env (.tmp q)
        simp only [aeval, lget_eq, Act.eval] at hq
        split at hx <;> first | (cases hx; done) | skip
        rename_i id i sz c he
        split at hx <;> first | (cases hx; done) | skip
        rename_i hl
        rw [he] at hq
        unfold aload at hx
        split at hx <;> first | (cases hx; done) | skip
        rename_i i' hi
        split at hx <;> first | (cases hx; done) | skip
        rename_i as ob' hread
        rw [Option.map_eq_some_iff] at hx
        obtain ⟨a', ha, hee⟩ := hx
        cases hee
        obtain ⟨hlen, blk, off, hu, hc⟩ := aread_sound s.rel hread hp.1 hq
        obtain ⟨v, hv, hsim⟩ := run_loadVar_at (P := P) (htt.info hi) hlen hc ha
        refine ⟨v, ?_, hsim⟩
        simp only [resSem, hu, asAddr, Sem.run_bind, Sem.run_pure, Result.andThen_ok, hv]
    obtain ⟨v, hv1, hv2⟩ := hv
    refine ⟨v :: vs, ?_, by simp [h2], fun j y u hy hu => ?_⟩
    · simp only [List.mapM_cons, Sem.run_bind, hv1, Result.andThen_ok, h1, Sem.run_pure]
    · cases j with
      | zero => cases hy; cases hu; exact hv2
      | succ j => exact h3 j y u hy hu
theorem run_results {tt : TT} (htt : TTok P tt) {w0 : World} {ρ0 ρ : Mp} {env : List AV} {H : Heap} {a : Act} {w : World} (s : St w0 ρ0 N0 ρ env H a w) {fn : Func} {r : AV} {p : Th Prop} (hr : aresults tt H env fn.results.toList = some (r, p)) (hp : p .u) :
    ∃ v, (results fn a.tmps).run P w = .ok v w ∧ Sim w ρ H.length w0.heap.size r v := by
  unfold aresults at hr
  have run : ∀ vs : List Value, (fn.results.toList.mapM (resSem a.tmps)).run P w = .ok vs w → (results fn a.tmps).run P w = .ok (if h : vs.length = 1 then vs[0] else .tuple vs.toArray) w := by
    intro vs h
    rw [results_eq, Array.mapM_eq_mapM_toList]
    simp only [Sem.run_bind, Sem.run_map, h, Result.andThen_ok, Sem.run_pure]
    by_cases h1 : vs.length = 1
    · simp [h1]
    · simp [h1]
  split at hr
  · rename_i x q hl
    cases hr
    obtain ⟨vs, h1, h2, h3⟩ := aresL_sound htt s _ _ _ hl hp
    obtain ⟨v, rfl⟩ : ∃ v, vs = [v] := by
      match vs, h2 with
      | [v], _ => exact ⟨v, rfl⟩
    exact ⟨v, by rw [run _ h1]; rfl, h3 0 _ v rfl rfl⟩
  · rename_i l _ hne hl
    cases hr
    obtain ⟨vs, h1, h2, h3⟩ := aresL_sound htt s _ _ _ hl hp
    have hl1 : ¬ vs.length = 1 := by
      intro e
      match l, h2.symm.trans e with
      | [x], _ => exact hne x rfl
    refine ⟨.tuple vs.toArray, by rw [run _ h1, dif_neg hl1], .tup (by simp [h2]) fun j x u hx hu => h3 j x u hx (by simpa using hu)⟩
  · cases hr
end
end Go.Aw
namespace Go.Aw

/-! ### Told anew -/
def cmp (ρ : Mp) (H' : Heap) (σ : List Nat) : Mp := fun j => if live H' j then (σ[j]?).bind ρ else none
/-- Within a function what is new stays new; a function that is called sees all as there before. -/
def Fits (keep : Bool) (w : World) (L L' : Nat) : Prop := (keep = true → L' = L) ∧ (keep = false → L' = w.heap.size)
theorem Fits.keep (w : World) (L : Nat) : Fits true w L L := ⟨fun _ => rfl, fun e => by cases e⟩
theorem Fits.call (w : World) (L : Nat) : Fits false w L w.heap.size := ⟨fun e => (by cases e), fun _ => rfl⟩
def FrOK (keep fr fr' : Bool) : Prop := (keep = true → fr' = fr) ∧ (keep = false → fr' = false)
theorem FrOK.same {fr : Bool} : FrOK true fr fr := ⟨fun _ => rfl, fun e => by cases e⟩
theorem FrOK.call {fr : Bool} : FrOK false fr false := ⟨fun e => (by cases e), fun _ => rfl⟩
def ViewOK (keep fr fr' : Bool) : Prop := (keep = true → fr' = true ∧ fr = true) ∧ (keep = false → fr' = false)
theorem ViewOK.new : ViewOK true true true := ⟨fun _ => ⟨rfl, rfl⟩, fun e => by cases e⟩
theorem ViewOK.call {fr : Bool} : ViewOK false fr false := ⟨fun e => (by cases e), fun _ => rfl⟩
def AvTo (H H' : Heap) (σ : List Nat) (keep : Bool) (a a' : AV) : Prop :=
  ∀ w ρ L L' v, Fits keep w L L' → Rel w ρ L H → Sim w ρ H.length L a v → Sim w (cmp ρ H' σ) H'.length L' a' v
def BlkTo (H H' : Heap) (σ : List Nat) (keep : Bool) (B B' : Blk) : Prop := ∀ off a', B'.At off a' → ∃ a, B.At off a ∧ AvTo H H' σ keep a a'
structure HeapTo (H H' : Heap) (σ : List Nat) (keep : Bool) : Prop where
  at_ : ∀ (j : Nat) (fr : Bool) (B' : Blk), H'[j]? = some (some (fr, B')) → ∃ id fr0 B, σ[j]? = some id ∧ H[id]? = some (some (fr0, B)) ∧ (fr = true → fr0 = true ∧ keep = true) ∧ BlkTo H H' σ keep B B'
  inj : ∀ (j j' id : Nat), live H' j = true → live H' j' = true → σ[j]? = some id → σ[j']? = some id → j = j'
theorem cmp_some {ρ : Mp} {H' : Heap} {σ : List Nat} {j blk : Nat} (h : cmp ρ H' σ j = some blk) : live H' j = true ∧ ∃ id, σ[j]? = some id ∧ ρ id = some blk := by
  unfold cmp at h
  split at h
  · rename_i hl
    rw [Option.bind_eq_some_iff] at h
    exact ⟨hl, h⟩
  · cases h
theorem live_some {H : Heap} {id : Nat} (h : live H id = true) : ∃ fr B, H[id]? = some (some (fr, B)) := by
  unfold live at h
  split at h
  · rename_i B hB; exact ⟨B.1, B.2, hB⟩
  · cases h
theorem live_of {H : Heap} {id : Nat} {fr : Bool} {B : Blk} (h : H[id]? = some (some (fr, B))) : live H id = true := by unfold live; rw [h]
theorem live_lt {H : Heap} {id : Nat} (h : live H id = true) : id < H.length := by
  obtain ⟨fr, B, h⟩ := live_some h
  exact (List.getElem?_eq_some_iff.1 h).1
theorem Rel.to {w : World} {ρ : Mp} {L L' : Nat} {H H' : Heap} {σ : List Nat} {keep : Bool} (h : Rel w ρ L H) (k : HeapTo H H' σ keep) (hL : Fits keep w L L') : Rel w (cmp ρ H' σ) L' H' where
  live j blk hj := by
    obtain ⟨hl, id, hid, hr⟩ := cmp_some hj
    obtain ⟨fr, B', hB'⟩ := live_some hl
    obtain ⟨id', fr0, B, h1, h2, h3, h4⟩ := k.at_ j fr B' hB'
    rw [hid] at h1; cases h1
    obtain ⟨fr1, B1, cs, T, g1, g2⟩ := h.live id blk hr
    rw [h2] at g1; cases g1
    refine ⟨fr, B', cs, T, hB', g2.here, fun e => ?_, fun off a' hat => ?_⟩
    · obtain ⟨e1, e2⟩ := h3 e
      exact Nat.le_trans (Nat.le_of_eq (hL.1 e2)) (g2.fresh e1)
    · obtain ⟨a, ha, hto⟩ := h4 off a' hat
      obtain ⟨u, u1, u2, u3⟩ := g2.cell off a ha
      exact ⟨u, u1, u2, hto w ρ L L' u hL h u3⟩
  dom j fr B' hj := by
    obtain ⟨id, fr0, B, h1, h2, _⟩ := k.at_ j fr B' hj
    obtain ⟨blk, hb⟩ := h.dom id fr0 B h2
    exact ⟨blk, by unfold cmp; rw [if_pos (live_of hj), h1]; exact hb⟩
  inj j j' blk h1 h2 := by
    obtain ⟨l1, id, i1, r1⟩ := cmp_some h1
    obtain ⟨l2, id', i2, r2⟩ := cmp_some h2
    have := h.inj id id' blk r1 r2
    subst this
    exact k.inj j j' id l1 l2 i1 i2
  lore := h.lore
  away j blk hj := by
    obtain ⟨_, id, _, hr⟩ := cmp_some hj
    exact h.away id blk hr
  deep := by
    cases keep with
    | true => rw [hL.1 rfl]; exact h.deep
    | false => rw [hL.2 rfl]; exact lore_big h.lore

section
variable {H H' : Heap} {σ : List Nat} {keep : Bool}
theorem AvTo.dead (a : AV) : AvTo H H' σ keep a .dead := fun _ _ _ _ _ _ _ _ => .dead
theorem AvTo.v (x : Value) : AvTo H H' σ keep (.v x) (.v x) := fun _ _ _ _ _ _ _ h => by cases h with | v h => exact .v h
theorem AvTo.i {k : IntKind} {n m : Th Int} (e : n .u = m .u) : AvTo H H' σ keep (.i k n) (.i k m) := fun _ _ _ _ _ _ _ h => by cases h with | i => rw [e]; exact .i
theorem AvTo.b {p q : Th Bool} (e : p .u = q .u) : AvTo H H' σ keep (.b p) (.b q) := fun _ _ _ _ _ _ _ h => by cases h with | b => rw [e]; exact .b
theorem AvTo.s {p q : Th ByteArray} (e : p .u = q .u) : AvTo H H' σ keep (.s p) (.s q) := fun _ _ _ _ _ _ _ h => by cases h with | s => rw [e]; exact .s
theorem AvTo.f {k : FloatKind} {x y : Th Nat} (e : x .u = y .u) : AvTo H H' σ keep (.f k x) (.f k y) := fun _ _ _ _ _ _ _ h => by cases h with | f h => exact .f (h.trans e)
theorem AvTo.c {k : FloatKind} {x y x' y' : Th Nat} (e : x .u = x' .u) (e' : y .u = y' .u) : AvTo H H' σ keep (.c k x y) (.c k x' y') := fun _ _ _ _ _ _ _ h => by cases h with | c h1 h2 => exact .c (h1.trans e) (h2.trans e')
theorem AvTo.ifc : AvTo H H' σ keep .ifc .ifc := fun _ _ _ _ _ _ _ h => by cases h; exact .ifc
theorem AvTo.on {b b' : Th Bool} {a a' : AV} (e : b .u = b' .u) (h : AvTo H H' σ keep a a') : AvTo H H' σ keep (.on b a) (.on b' a') := fun w ρ L L' v hL hR hs => by
  cases hs with | on h1 h2 => exact .on (fun e' => h w ρ L L' v hL hR (h1 (e.trans e'))) fun e' => h2 (e.trans e')
theorem quiet_to {w : World} {ρ : Mp} {L L' : Nat} {fr fr' : Bool} {blk : Nat} (h : Quiet w ρ L fr blk) (hf : FrOK keep fr fr') (hL : Fits keep w L L') : Quiet w (cmp ρ H' σ) L' fr' blk := by
  have hno : ∀ id, cmp ρ H' σ id ≠ some blk := fun j hj => by
    obtain ⟨_, id, _, hr⟩ := cmp_some hj
    exact h.2.1 id hr
  cases keep with
  | true =>
    obtain rfl := hf.1 rfl
    obtain rfl := hL.1 rfl
    exact ⟨h.1, hno, h.2.2⟩
  | false =>
    obtain rfl := hf.2 rfl
    obtain rfl := hL.2 rfl
    exact ⟨h.1, hno, fun e => (by cases e), fun _ => h.1⟩
theorem AvTo.ro {fr fr' : Bool} {n n' : Th Nat} {sz : Nat} {g g' : Th Nat → Nat → AV} (e : n .u = n' .u) (hf : FrOK keep fr fr') (h : ∀ i c, i < n' .u → c < sz → AvTo H H' σ keep (g (fun _ => i) c) (g' (fun _ => i) c)) : AvTo H H' σ keep (.ro fr n sz g) (.ro fr' n' sz g') :=
  fun w ρ L L' v hL hR hs => by
    cases hs with
    | ro0 h0 => exact .ro0 (e ▸ h0)
    | ro u hn hq hc hsim =>
      rw [e] at hn hc hsim ⊢
      exact .ro u hn (quiet_to hq hf hL) hc fun i c hi hcc => h i c hi hcc w ρ L L' _ hL hR (hsim i c hi hcc)
theorem AvTo.rptr {fr fr' : Bool} {m : Nat} {g g' : Nat → AV} (hf : FrOK keep fr fr') (h : ∀ c, c < m → AvTo H H' σ keep (g c) (g' c)) : AvTo H H' σ keep (.rptr fr m g) (.rptr fr' m g') :=
  fun w ρ L L' v hL hR hs => by
    cases hs with
    | rptr u hq hc hsim => exact .rptr u (quiet_to hq hf hL) hc fun c hcc => h c hcc w ρ L L' _ hL hR (hsim c hcc)
theorem AvTo.own {id j : Nat} {i n i' n' : Th Nat} {sz : Nat} (hl : live H' j = true) (hj : σ[j]? = some id) (ei : i .u = i' .u) (en : n .u = n' .u) : AvTo H H' σ keep (.own id i n sz) (.own j i' n' sz) := fun w ρ L L' v _ _ hs => by
  cases hs with
  | own hid hv =>
  refine .own (live_lt hl) fun blk hb => ?_
  obtain ⟨_, id', h1, h2⟩ := cmp_some hb
  rw [hj] at h1; cases h1
  rw [← ei, ← en]
  exact hv blk h2
theorem AvTo.ptr {id j : Nat} {i i' : Th Nat} {sz c : Nat} (hl : live H' j = true) (hj : σ[j]? = some id) (ei : i .u = i' .u) : AvTo H H' σ keep (.ptr id i sz c) (.ptr j i' sz c) := fun w ρ L L' v _ _ hs => by
  cases hs with
  | ptr hid hv =>
  refine .ptr (live_lt hl) fun blk hb => ?_
  obtain ⟨_, id', h1, h2⟩ := cmp_some hb
  rw [hj] at h1; cases h1
  rw [← ei]
  exact hv blk h2
/-- A block that goes on under no name. -/
def Left (H' : Heap) (σ : List Nat) (id : Nat) : Prop := ∀ j, live H' j = true → σ[j]? ≠ some id
theorem quiet_left {w : World} {ρ : Mp} {L L' : Nat} {id blk : Nat} {fr fr' : Bool} {B : Blk} {cs : Array Value} {T : TypeId} {N : Nat} {Hh : Heap} (hR : Rel w ρ L Hh) (hb : ρ id = some blk) (hB : BlkRel w ρ N L fr B blk cs T) (hl : Left H' σ id)
    (hf : ViewOK keep fr fr') (hL : Fits keep w L L') : Quiet w (cmp ρ H' σ) L' fr' blk := by
  have hno : ∀ j, cmp ρ H' σ j ≠ some blk := fun j hj => by
    obtain ⟨hlj, id', h1, h2⟩ := cmp_some hj
    have := hR.inj id id' blk hb h2
    subst this
    exact hl j hlj h1
  cases keep with
  | true =>
    obtain ⟨rfl, rfl⟩ := hf.1 rfl
    obtain rfl := hL.1 rfl
    exact ⟨hR.block_lt hb, hno, fun _ => ⟨hB.fresh rfl, cs, T, hB.here⟩, fun e => by cases e⟩
  | false =>
    obtain rfl := hf.2 rfl
    obtain rfl := hL.2 rfl
    exact ⟨hR.block_lt hb, hno, fun e => (by cases e), fun _ => hR.block_lt hb⟩
/-- A slice of one's own, seen as one that is only read. -/
theorem AvTo.view {id : Nat} {i n n' m : Th Nat} {sz : Nat} {fr fr' : Bool} {g g' : Th Nat → Nat → AV} (hH : H[id]? = some (some (fr, .tab m sz g))) (hle : i .u + n' .u ≤ m .u) (hl : Left H' σ id) (en : n .u = n' .u) (hf : ViewOK keep fr fr')
    (h : ∀ j c, j < n' .u → c < sz → AvTo H H' σ keep (g (fun _ => i .u + j) c) (g' (fun _ => j) c)) : AvTo H H' σ keep (.own id i n sz) (.ro fr' n' sz g') := fun w ρ L L' v hL hR hs => by
  obtain ⟨blk, cs, T, hb, hB⟩ := hR.at_ hH
  cases hs with
  | own hid hv =>
  obtain ⟨off, cap, rfl, hn, hcm, hoff, hroom⟩ := hv blk hb
  rw [en] at hn ⊢
  rcases Nat.eq_zero_or_pos (n' .u) with h0 | h0
  · rw [h0]; exact .ro0 h0
  · have e : off = i .u * sz := by rcases hoff with e | e; exact e; omega
    subst e
    have hcell : ∀ j c, j < n' .u → c < sz → ∃ x, cs[i .u * sz + (j * sz + c)]? = some x ∧ x.oneCell' = true ∧ Sim w ρ H.length L (g (fun _ => i .u + j) c) x := by
      intro j c hj hc
      have := hB.cell _ _ (.tab (i .u + j) c (by omega) hc)
      rwa [Nat.add_mul, Nat.add_assoc] at this
    refine .ro (fun j c => (cs[i .u * sz + (j * sz + c)]?).getD undef) hn (quiet_left hR hb hB hl hf hL) (fun j c hj hc => ?_) (fun j c hj hc => ?_)
    · obtain ⟨x, h1, h2, _⟩ := hcell j c hj hc
      rw [cell_of_row w blk _ cs T (0, 0) hB.here, h1]
      exact ⟨rfl, h2⟩
    · obtain ⟨x, h1, _, h3⟩ := hcell j c hj hc
      rw [h1]
      exact h j c hj hc w ρ L L' _ hL hR h3
/-- A pointer into a box of one's own, seen as one through which is only read. -/
theorem AvTo.viewBox {id c m : Nat} {i : Th Nat} {sz : Nat} {fr fr' : Bool} {l : List AV} {g' : Nat → AV} (hi : i .u = 0) (hH : H[id]? = some (some (fr, .box l))) (hl : Left H' σ id) (hf : ViewOK keep fr fr') (hle : c + m ≤ l.length)
    (h : ∀ j, j < m → AvTo H H' σ keep (l.getD (c + j) .dead) (g' j)) : AvTo H H' σ keep (.ptr id i sz c) (.rptr fr' m g') := fun w ρ L L' v hL hR hs => by
  obtain ⟨blk, cs, T, hb, hB⟩ := hR.at_ hH
  cases hs with
  | ptr hid hv =>
  rw [hv blk hb, hi]
  have hcell : ∀ j, j < m → ∃ x, cs[0 * sz + c + j]? = some x ∧ x.oneCell' = true ∧ Sim w ρ H.length L (l.getD (c + j) .dead) x := by
    intro j hj
    have := hB.cell (c + j) (l.getD (c + j) .dead) (.box (by rw [List.getD_eq_getElem?_getD, List.getElem?_eq_getElem (by omega)]; rfl))
    rwa [Nat.zero_mul, Nat.zero_add]
  refine .rptr (fun j => (cs[0 * sz + c + j]?).getD undef) (quiet_left hR hb hB hl hf hL) (fun j hj => ?_) (fun j hj => ?_)
  · obtain ⟨x, h1, h2, _⟩ := hcell j hj
    rw [cell_of_row w blk _ cs T (0, 0) hB.here, h1]
    exact ⟨rfl, h2⟩
  · obtain ⟨x, h1, _, h3⟩ := hcell j hj
    rw [h1]
    exact h j hj w ρ L L' _ hL hR h3
/-- A pointer into a row of one's own, seen as one through which is only read. -/
theorem AvTo.viewTab {id c m : Nat} {i k : Th Nat} {sz : Nat} {fr fr' : Bool} {g : Th Nat → Nat → AV} {g' : Nat → AV} (hH : H[id]? = some (some (fr, .tab k sz g))) (hi : i .u < k .u) (hl : Left H' σ id) (hf : ViewOK keep fr fr') (hle : c + m ≤ sz)
    (h : ∀ j, j < m → AvTo H H' σ keep (g (fun _ => i .u) (c + j)) (g' j)) : AvTo H H' σ keep (.ptr id i sz c) (.rptr fr' m g') := fun w ρ L L' v hL hR hs => by
  obtain ⟨blk, cs, T, hb, hB⟩ := hR.at_ hH
  cases hs with
  | ptr hid hv =>
  rw [hv blk hb]
  have hcell : ∀ j, j < m → ∃ x, cs[i .u * sz + c + j]? = some x ∧ x.oneCell' = true ∧ Sim w ρ H.length L (g (fun _ => i .u) (c + j)) x := by
    intro j hj
    have := hB.cell _ _ (.tab (i .u) (c + j) hi (by omega))
    rwa [← Nat.add_assoc] at this
  refine .rptr (fun j => (cs[i .u * sz + c + j]?).getD undef) (quiet_left hR hb hB hl hf hL) (fun j hj => ?_) (fun j hj => ?_)
  · obtain ⟨x, h1, h2, _⟩ := hcell j hj
    rw [cell_of_row w blk _ cs T (0, 0) hB.here, h1]
    exact ⟨rfl, h2⟩
  · obtain ⟨x, h1, _, h3⟩ := hcell j hj
    rw [h1]
    exact h j hj w ρ L L' _ hL hR h3
/-- Pointwise. -/
def AllTo (H H' : Heap) (σ : List Nat) (keep : Bool) : List AV → List AV → Prop
  | [], [] => True
  | a :: l, a' :: l' => AvTo H H' σ keep a a' ∧ AllTo H H' σ keep l l'
  | _, _ => False
theorem AllTo.len : ∀ {l l' : List AV}, AllTo H H' σ keep l l' → l.length = l'.length := by
  intro l
  induction l with
  | nil => intro l' h; cases l' <;> first | rfl | exact h.elim
  | cons a l ih => intro l' h; cases l' <;> first | exact h.elim | simp [ih h.2]
theorem AllTo.get : ∀ {l l' : List AV}, AllTo H H' σ keep l l' → ∀ (j : Nat) (a' : AV), l'[j]? = some a' → ∃ a, l[j]? = some a ∧ AvTo H H' σ keep a a' := by
  intro l
  induction l with
  | nil => intro l' h j a' hj; cases l' <;> first | (simp at hj; done) | exact h.elim
  | cons a l ih =>
    intro l' h j a' hj
    cases l' with
    | nil => exact h.elim
    | cons b l' =>
      cases j with
      | zero => simp at hj; subst hj; exact ⟨a, rfl, h.1⟩
      | succ j => exact ih h.2 j a' hj
theorem AllTo.same {l : List AV} (h : ∀ a ∈ l, AvTo H H' σ keep a a) : AllTo H H' σ keep l l := by
  induction l with
  | nil => trivial
  | cons a l ih => exact ⟨h a (by simp), ih fun x hx => h x (by simp [hx])⟩
theorem sim_all {w : World} {ρ : Mp} {L L' : Nat} {l l' : List AV} {us : Array Value} (hL : Fits keep w L L') (hR : Rel w ρ L H) (h : AllTo H H' σ keep l l') (hlen : l.length = us.size)
    (hs : ∀ (j : Nat) (a : AV) (u : Value), l[j]? = some a → us[j]? = some u → Sim w ρ H.length L a u) : l'.length = us.size ∧ ∀ (j : Nat) (a : AV) (u : Value), l'[j]? = some a → us[j]? = some u → Sim w (cmp ρ H' σ) H'.length L' a u :=
  ⟨h.len ▸ hlen, fun j a u ha hu => by
    obtain ⟨b, hb, hto⟩ := h.get j a ha
    exact hto w ρ L L' u hL hR (hs j b u hb hu)⟩
theorem AvTo.agg {l l' : List AV} (h : AllTo H H' σ keep l l') : AvTo H H' σ keep (.agg l) (.agg l') := fun w ρ L L' v hL hR hs => by
  cases hs with | agg h1 h2 => obtain ⟨k1, k2⟩ := sim_all hL hR h h1 h2; exact .agg k1 k2
theorem AvTo.tup {l l' : List AV} (h : AllTo H H' σ keep l l') : AvTo H H' σ keep (.tup l) (.tup l') := fun w ρ L L' v hL hR hs => by
  cases hs with | tup h1 h2 => obtain ⟨k1, k2⟩ := sim_all hL hR h h1 h2; exact .tup k1 k2
theorem AvTo.fn {f : Fn} {l l' m m' : List AV} (h : AllTo H H' σ keep l l') (k : AllTo H H' σ keep m m') : AvTo H H' σ keep (.fn f l m) (.fn f l' m') := fun w ρ L L' v hL hR hs => by
  cases hs with
  | fn h1 h2 h3 h4 =>
  obtain ⟨k1, k2⟩ := sim_all hL hR h h1 h2
  obtain ⟨k3, k4⟩ := sim_all hL hR k h3 h4
  exact .fn k1 k2 k3 k4
end
/-- What is told may be told anew at any place. -/
theorem AW.to {P : Program} {N0 : Nat} {c : Code} {Q : Exit → List AV → Heap → Prop} {env env' : List AV} {H H' : Heap} (σ : List Nat) (hH : HeapTo H H' σ true) (henv : AllTo H H' σ true env env') (hN : N0 ≤ H'.length) (h0 : ∀ j, j < N0 → live H' j = true → σ[j]? = some j)
    (h : AW P N0 c Q env' H') : AW P N0 c Q env H := by
  intro w0 ρ0 ρ a w s
  refine h w0 ρ0 (cmp ρ H' σ) a w ⟨s.defers, ⟨by rw [← henv.len]; exact s.env.len, fun t x v h1 h2 => ?_⟩, s.rel.to hH (Fits.keep _ _), ?_⟩
  · obtain ⟨b, hb, hto⟩ := henv.get t x h1
    exact hto w ρ _ _ v (Fits.keep _ _) s.rel (s.env.at_ t b v hb h2)
  · refine ⟨s.pass.size, hN, fun id blk hid hr => ?_, fun id blk hr => ?_, s.pass.cells, fun id blk cs T fz hid hr hw => ?_, s.pass.os, s.pass.tape, s.pass.output⟩
    · obtain ⟨hl, id', h1, h2⟩ := cmp_some hr
      rw [h0 id hid hl] at h1; cases h1
      exact s.pass.old id blk hid h2
    · obtain ⟨_, id', _, h2⟩ := cmp_some hr
      exact s.pass.new id' blk h2
    · obtain ⟨hl, id', h1, h2⟩ := cmp_some hr
      rw [h0 id hid hl] at h1; cases h1
      exact s.pass.shape id blk cs T fz hid h2 hw

/-! ### A function out of its body -/
def finA (tt : TT) (fn : Func) (res : AV) (Hc' : Heap) (N0 : Nat) : Exit → List AV → Heap → Prop
  | .normal, env, H | .ret, env, H => ∃ r p σ, aresults tt H env fn.results.toList = some (r, p) ∧ p .u ∧ HeapTo H Hc' σ true ∧ AvTo H Hc' σ true r res ∧ ∀ j, j < N0 → live Hc' j = true → σ[j]? = some j
  | _, _, _ => False
theorem Con.of {P : Program} {tt : TT} (htt : TTok P tt) {f : FuncId} {fn : Func} {c : Code} {args : List AV} {Hc Hc' : Heap} {res : AV} (hf : P.funcs[f]? = some fn) (hb : fn.body = some c) (hn : (fn.name == "runtime.NumGoroutine") = false) (hlen : Hc.length ≤ Hc'.length)
    (h : AW P Hc.length c (finA tt fn res Hc' Hc.length) (args ++ List.replicate (fn.ntmps - args.length) .dead) Hc) : Con P f args Hc res Hc' where
  enters := ⟨fn, hf, hn, by rw [hb]; rfl⟩
  len := hlen
  call w ρ vals hR hl hs := by
    refine calls_of_wp hf hb ?_
    have s : St w ρ Hc.length ρ (args ++ List.replicate (fn.ntmps - args.length) .dead) Hc { tmps := vals ++ Array.replicate (fn.ntmps - vals.size) undef, defers := [] } w := by
      refine ⟨rfl, ⟨by simp [hl], fun t x v h1 h2 => ?_⟩, hR, Pass.refl _ _ _⟩
      by_cases ht : t < args.length
      · rw [List.getElem?_append_left ht] at h1
        rw [Array.getElem?_append_left (by omega)] at h2
        exact hs t x v h1 h2
      · rw [List.getElem?_append_right (by omega), List.getElem?_replicate] at h1
        split at h1 <;> cases h1
        exact .dead
    refine wp_mono (h w ρ ρ _ w s) fun e a' w' hh => ?_
    obtain ⟨env', H', ρ', hq, hs'⟩ := hh
    have fin : (∃ r p σ, aresults tt H' env' fn.results.toList = some (r, p) ∧ p .u ∧ HeapTo H' Hc' σ true ∧ AvTo H' Hc' σ true r res ∧ ∀ j, j < Hc.length → live Hc' j = true → σ[j]? = some j) →
        a'.defers = [] ∧ ∃ v, (results fn a'.tmps).run P w' = .ok v w' ∧ ∃ v' ρ2, Ending.returned v = .returned v' ∧ Sim w' ρ2 Hc'.length w.heap.size res v' ∧ Rel w' ρ2 w.heap.size Hc' ∧ Pass w ρ Hc.length w' ρ2 Hc'.length := by
      rintro ⟨r, p, σ, h1, h2, h3, h4, h5⟩
      obtain ⟨v, hv, hsim⟩ := run_results (P := P) htt hs' h1 h2
      refine ⟨hs'.defers, v, hv, v, cmp ρ' Hc' σ, rfl, h4 w' ρ' _ _ v (Fits.keep _ _) hs'.rel hsim, hs'.rel.to h3 (Fits.keep _ _), ?_⟩
      refine ⟨hs'.pass.size, hlen, fun id blk hid hr => ?_, fun id blk hr => ?_, hs'.pass.cells, fun id blk cs T fz hid hr hw => ?_, hs'.pass.os, hs'.pass.tape, hs'.pass.output⟩
      · obtain ⟨hl, id', i1, i2⟩ := cmp_some hr
        rw [h5 id hid hl] at i1; cases i1
        exact hs'.pass.old id blk hid i2
      · obtain ⟨_, id', _, i2⟩ := cmp_some hr
        exact hs'.pass.new id' blk i2
      · obtain ⟨hl, id', i1, i2⟩ := cmp_some hr
        rw [h5 id hid hl] at i1; cases i1
        exact hs'.pass.shape id blk cs T fz hid i2 hw
    cases e <;> first | exact hq.elim | exact fin hq

/-! ### Calls -/
mutual
def ren (m : Nat → Nat) : AV → AV
  | .own id i n sz => .own (m id) i n sz
  | .ptr id i sz c => .ptr (m id) i sz c
  | .ro fr n sz g => .ro fr n sz fun i c => ren m (g i c)
  | .rptr fr k g => .rptr fr k fun c => ren m (g c)
  | .agg l => .agg (renL m l)
  | .tup l => .tup (renL m l)
  | .fn f l k => .fn f (renL m l) (renL m k)
  | .on b a => .on b (ren m a)
  | .v x => .v x
  | .i k n => .i k n
  | .b p => .b p
  | .s x => .s x
  | .f k x => .f k x
  | .c k x y => .c k x y
  | .ifc => .ifc
  | .dead => .dead
def renL (m : Nat → Nat) : List AV → List AV
  | [] => []
  | a :: l => ren m a :: renL m l
end
theorem renL_map (m : Nat → Nat) (l : List AV) : renL m l = l.map (ren m) := by
  induction l with
  | nil => simp [renL]
  | cons a l ih => simp [renL, ih]
def renB (m : Nat → Nat) : Blk → Blk
  | .box l => .box (renL m l)
  | .tab n sz g => .tab n sz fun i c => ren m (g i c)
def renE (m : Nat → Nat) : Option (Bool × Blk) → Option (Bool × Blk)
  | some (fr, B) => some (fr, renB m B)
  | none => none
/-- All that is only read lies in new memory. -/
inductive AllFr : AV → Prop
  | v {x : Value} : AllFr (.v x)
  | i {k : IntKind} {n : Th Int} : AllFr (.i k n)
  | b {p : Th Bool} : AllFr (.b p)
  | s {x : Th ByteArray} : AllFr (.s x)
  | f {k : FloatKind} {x : Th Nat} : AllFr (.f k x)
  | c {k : FloatKind} {x y : Th Nat} : AllFr (.c k x y)
  | ro {n : Th Nat} {sz : Nat} {g : Th Nat → Nat → AV} : (∀ i c, i < n .u → c < sz → AllFr (g (fun _ => i) c)) → AllFr (.ro true n sz g)
  | rptr {m : Nat} {g : Nat → AV} : (∀ c, c < m → AllFr (g c)) → AllFr (.rptr true m g)
  | own {id sz : Nat} {i n : Th Nat} : AllFr (.own id i n sz)
  | ptr {id sz c : Nat} {i : Th Nat} : AllFr (.ptr id i sz c)
  | agg {l : List AV} : (∀ a ∈ l, AllFr a) → AllFr (.agg l)
  | tup {l : List AV} : (∀ a ∈ l, AllFr a) → AllFr (.tup l)
  | fn {f : Fn} {l m : List AV} : (∀ a ∈ l, AllFr a) → (∀ a ∈ m, AllFr a) → AllFr (.fn f l m)
  | ifc : AllFr .ifc
  | on {b : Th Bool} {a : AV} : AllFr a → AllFr (.on b a)
  | dead : AllFr .dead
/-- From the callee's names to the caller's. -/
theorem Sim.ren {w : World} {ρ ρ2 : Mp} {N N2 L L2 : Nat} {m : Nat → Nat} {a : AV} {v : Value} (any : Prop) (h : Sim w ρ N L a v) (hm : ∀ id, id < N → m id < N2) (hr : ∀ id blk, id < N → ρ2 (m id) = some blk → ρ id = some blk)
    (hq : ∀ fr blk, Quiet w ρ L fr blk → (fr = true ∨ any) → Quiet w ρ2 L2 fr blk) (hall : AllFr a ∨ any) : Sim w ρ2 N2 L2 (ren m a) v := by
  induction h with
  | v h => simp only [Aw.ren]; exact .v h
  | i => simp only [Aw.ren]; exact .i
  | b => simp only [Aw.ren]; exact .b
  | s => simp only [Aw.ren]; exact .s
  | f h => simp only [Aw.ren]; exact .f h
  | c h1 h2 => simp only [Aw.ren]; exact .c h1 h2
  | ro0 h => simp only [Aw.ren]; exact .ro0 h
  | ro u hn hqq hc _ ih =>
    simp only [Aw.ren]
    exact .ro u hn (hq _ _ hqq (hall.imp (fun e => by cases e; rfl) id)) hc fun i c hi hcc => ih i c hi hcc (hall.imp (fun e => by cases e with | ro e => exact e i c hi hcc) id)
  | own hid hv => simp only [Aw.ren]; exact .own (hm _ hid) fun blk hb => hv blk (hr _ blk hid hb)
  | ptr hid hv => simp only [Aw.ren]; exact .ptr (hm _ hid) fun blk hb => hv blk (hr _ blk hid hb)
  | rptr u hqq hc _ ih =>
    simp only [Aw.ren]
    exact .rptr u (hq _ _ hqq (hall.imp (fun e => by cases e; rfl) id)) hc fun c hcc => ih c hcc (hall.imp (fun e => by cases e with | rptr e => exact e c hcc) id)
  | agg hl _ ih =>
    simp only [Aw.ren]
    refine .agg (by rw [renL_map]; simpa using hl) fun j a u ha hu => ?_
    rw [renL_map, List.getElem?_map, Option.map_eq_some_iff] at ha
    obtain ⟨b, hb, rfl⟩ := ha
    exact ih j b u hb hu (hall.imp (fun e => by cases e with | agg e => exact e b (List.mem_of_getElem? hb)) id)
  | tup hl _ ih =>
    simp only [Aw.ren]
    refine .tup (by rw [renL_map]; simpa using hl) fun j a u ha hu => ?_
    rw [renL_map, List.getElem?_map, Option.map_eq_some_iff] at ha
    obtain ⟨b, hb, rfl⟩ := ha
    exact ih j b u hb hu (hall.imp (fun e => by cases e with | tup e => exact e b (List.mem_of_getElem? hb)) id)
  | fn hl _ hk _ ih1 ih2 =>
    simp only [Aw.ren]
    refine .fn (by rw [renL_map]; simpa using hl) (fun j a u ha hu => ?_) (by rw [renL_map]; simpa using hk) (fun j a u ha hu => ?_)
    · rw [renL_map, List.getElem?_map, Option.map_eq_some_iff] at ha
      obtain ⟨b, hb, rfl⟩ := ha
      exact ih1 j b u hb hu (hall.imp (fun e => by cases e with | fn e _ => exact e b (List.mem_of_getElem? hb)) id)
    · rw [renL_map, List.getElem?_map, Option.map_eq_some_iff] at ha
      obtain ⟨b, hb, rfl⟩ := ha
      exact ih2 j b u hb hu (hall.imp (fun e => by cases e with | fn _ e => exact e b (List.mem_of_getElem? hb)) id)
  | ifc => simp only [Aw.ren]; exact .ifc
  | on _ h2 ih =>
    simp only [Aw.ren]
    exact .on (fun e => ih e (hall.imp (fun e => by cases e with | on e => exact e) id)) h2
  | dead => simp only [Aw.ren]; exact .dead
end Go.Aw
