/- Code over abstract values: regions, sequences, branches, blocks, loops; what a function's call comes to. -/
import Derived.Test.YtjlkflceicdcdaaDoorAwj
import Derived.Scope
namespace Go.Aw

structure St (w0 : World) (ρ0 : Mp) (N0 : Nat) (ρ : Mp) (env : List AV) (H : Heap) (a : Act) (w : World) : Prop where
  defers : a.defers = []
  env : EnvRel w ρ H.length w0.heap.size env a.tmps
  rel : Rel w ρ w0.heap.size H
  pass : Pass w0 ρ0 N0 w ρ H.length
/-- What is left of a sequential region, from operation i on. -/
def AOps (P : Program) (ops : Array Oper) (N0 : Nat) (K : List AV → Heap → Prop) (i : Nat) (env : List AV) (H : Heap) : Prop :=
  ∀ (Q : Exit → Act → World → Prop) w0 ρ0 ρ a w, St w0 ρ0 N0 ρ env H a w → (∀ env' H' ρ' a' w', K env' H' → St w0 ρ0 N0 ρ' env' H' a' w' → Q .normal a' w') → wpOps P ops Q (List.range' i (ops.size - i)) a w
def AW (P : Program) (N0 : Nat) (c : Code) (Q : Exit → List AV → Heap → Prop) (env : List AV) (H : Heap) : Prop :=
  ∀ w0 ρ0 ρ a w, St w0 ρ0 N0 ρ env H a w → c.wp P (fun e a' w' => ∃ env' H' ρ', Q e env' H' ∧ St w0 ρ0 N0 ρ' env' H' a' w') a w

section
variable {P : Program} {N0 : Nat}
theorem St.step {w0 : World} {ρ0 ρ ρ' : Mp} {env : List AV} {H H' : Heap} {a : Act} {w w' : World} {r : AV} {v : Value} (s : St w0 ρ0 N0 ρ env H a w) (hR : Rel w' ρ' w0.heap.size H') (hP : Pass w ρ H.length w' ρ' H'.length)
    (hv : Sim w' ρ' H'.length w0.heap.size r v) (dst : Option Tmp) : St w0 ρ0 N0 ρ' (aput env dst r) H' (a.put dst v) w' :=
  ⟨by cases dst <;> exact s.defers, (s.env.mono hP (Nat.le_refl _)).put hv dst, hR, s.pass.trans hP⟩
theorem range'_step {i n : Nat} (h : i < n) : List.range' i (n - i) = i :: List.range' (i + 1) (n - (i + 1)) := by
  rw [show n - i = (n - (i + 1)) + 1 by omega, List.range'_succ]
/-- One operation that the evaluator takes. -/
theorem AOps.one {tt : TT} (htt : TTok P tt) {ops : Array Oper} {K : List AV → Heap → Prop} {i : Nat} {o : Oper} {env env' : List AV} {H H' : Heap} {p : Th Prop} (ho : ops[i]? = some o) (hs : astep tt ops env H o = some (env', H', p)) (hp : p .u)
    (h : AOps P ops N0 K (i + 1) env' H') : AOps P ops N0 K i env H := by
  intro Q w0 ρ0 ρ a w s hQ
  have hlt : i < ops.size := (Array.getElem?_eq_some_iff.1 ho).1
  rw [range'_step hlt]
  simp only [wpOps, ho]
  have hL : w0.heap.size ≤ w.heap.size := s.pass.size
  have fin : ∀ r H1, Does P (execOp a.eval o) w ρ w0.heap.size H r H1 → AOps P ops N0 K (i + 1) (aput env o.dst r) H1 → o.wp P a w (wpOps P ops Q (List.range' (i + 1) (ops.size - (i + 1)))) Q := by
    intro r H1 hd hk
    obtain ⟨v, w', ρ', hrun, hR, hP, hv⟩ := hd
    have s' := s.step hR hP hv o.dst
    unfold Oper.wp Oper.upon
    rcases hrun with hrun | ⟨hrun, rfl⟩ <;> rw [hrun] <;> exact hk Q w0 ρ0 ρ' _ w' s' hQ
  unfold astep at hs
  split at hs
  · rename_i hg
    have hw : Region.wanted o (yielded ops a.tmps) = true := by simp [Region.wanted, hg]
    rw [if_pos hw]
    left
    split at hs
    · rename_i r q hq
      cases hs
      exact fin r H (aopq_sound htt s.rel hq hp fun x _ => aeval_sound s.env x) h
    · split at hs <;> cases hs
      rename_i r hh
      exact fin r _ (aoph_sound htt s.rel hL hh hp fun x _ => aeval_sound s.env x) h
  · rename_i j want hg
    split at hs <;> first | (cases hs; done) | skip
    rename_i c b hgav
    split at hs <;> cases hs
    rename_i r q hq
    have hy : (c .u = true → yielded ops a.tmps j = some (b .u)) ∧ (c .u = false → yielded ops a.tmps j = none) := by
      unfold guardAV at hgav
      split at hgav <;> first | (cases hgav; done) | skip
      rename_i oj hoj
      split at hgav <;> first | (cases hgav; done) | skip
      rename_i d hd
      have hoj' : ops[j]? = some oj := by simpa using hoj
      have hy1 : ∀ b, a.tmps[d]? = some (.bool b) → yielded ops a.tmps j = some b := by
        intro b hb; unfold yielded; rw [hoj']; simp [hd, hb]
      have hy0 : a.tmps[d]? = some undef → yielded ops a.tmps j = none := by
        intro hb; unfold yielded; rw [hoj']; simp [hd, hb, undef]
      split at hgav <;> cases hgav
      · rename_i he
        have hdl := (List.getElem?_eq_some_iff.1 he).1
        have hv : a.tmps[d]? = some (a.tmps[d]'(by rw [← s.env.len]; exact hdl)) := Array.getElem?_eq_getElem _
        have hsim := s.env.at_ d _ _ he hv
        have e := hsim.b_inv
        exact ⟨fun _ => hy1 (b .u) (by rw [hv, e]), fun e => by cases e⟩
      · rename_i he
        have hdl := (List.getElem?_eq_some_iff.1 he).1
        have hv : a.tmps[d]? = some (a.tmps[d]'(by rw [← s.env.len]; exact hdl)) := Array.getElem?_eq_getElem _
        have hsim := s.env.at_ d _ _ he hv
        rw [hv] at hy0 hy1
        generalize a.tmps[d]'(by rw [← s.env.len]; exact hdl) = u at hsim hy0 hy1
        cases hsim with
        | on h1 h2 =>
          constructor
          · intro hc; exact hy1 (b .u) (by rw [(h1 hc).b_inv])
          · intro hc; exact hy0 (by rw [h2 hc])
    by_cases hc : (c .u && (b .u == want)) = true
    · have hc' := hc
      simp only [Bool.and_eq_true, beq_iff_eq] at hc'
      have hw : Region.wanted o (yielded ops a.tmps) = true := by simp [Region.wanted, hg, hy.1 hc'.1, hc'.2]
      rw [if_pos hw]
      left
      obtain ⟨hcond, hq'⟩ := hp hc
      have hd := aopq_sound htt s.rel hq hq' (a := a) fun x hx => (aeval_sound s.env x).unOn (conds_at hcond x hx)
      refine fin (.on (fun _ => c .u && (b .u == want)) r) H ?_ h
      obtain ⟨v, w', ρ', k1, k2, k3, k4⟩ := hd
      exact ⟨v, w', ρ', k1, k2, k3, .on (fun _ => k4) (fun e => by rw [hc] at e; cases e)⟩
    · have hcf : (c .u && (b .u == want)) = false := by simpa using hc
      have hw : Region.wanted o (yielded ops a.tmps) = false := by
        cases hcc : c .u with
        | false => simp [Region.wanted, hg, hy.2 hcc]
        | true =>
          rw [hcc] at hcf
          simp only [Bool.true_and, beq_eq_false_iff_ne] at hcf
          simp [Region.wanted, hg, hy.1 hcc, hcf]
      rw [hw, if_neg (by simp)]
      refine h Q w0 ρ0 ρ _ w ?_ hQ
      exact s.step s.rel (Pass.refl _ _ _) (r := .on (fun _ => c .u && (b .u == want)) r) (v := undef) (.on (fun e => absurd e hc) (fun _ => rfl)) o.dst
/-- The evaluator goes as far as it can. -/
def arun (tt : TT) (ops : Array Oper) : List Oper → Nat → List AV → Heap → Nat × List AV × Heap × List (Th Prop)
  | [], i, env, H => (i, env, H, [])
  | o :: l, i, env, H => match astep tt ops env H o with
    | some (env', H', p) => match arun tt ops l (i + 1) env' H' with
      | (j, e, h, ps) => (j, e, h, p :: ps)
    | none => (i, env, H, [])
def All : List (Th Prop) → Prop
  | [] => True
  | p :: ps => p .u ∧ All ps
theorem AOps.run {tt : TT} (htt : TTok P tt) {ops : Array Oper} {K : List AV → Heap → Prop} {i j : Nat} {env env' : List AV} {H H' : Heap} {ps : List (Th Prop)} (hr : arun tt ops (ops.toList.drop i) i env H = (j, env', H', ps)) (hp : All ps)
    (h : AOps P ops N0 K j env' H') : AOps P ops N0 K i env H := by
  have key : ∀ (l : List Oper) (i : Nat) (env : List AV) (H : Heap) (ps : List (Th Prop)), ops.toList.drop i = l → arun tt ops l i env H = (j, env', H', ps) → All ps → AOps P ops N0 K i env H := by
    intro l
    induction l with
    | nil =>
      intro i env H ps _ hr _
      cases hr
      exact h
    | cons o l ih =>
      intro i env H ps hl hr hp
      simp only [arun] at hr
      have ho : ops[i]? = some o := by
        have := congrArg (fun q => q[0]?) hl
        simp only [List.getElem?_drop, List.getElem?_cons_zero, Nat.add_zero] at this
        simpa using this
      have hl' : ops.toList.drop (i + 1) = l := by
        have := congrArg (List.drop 1) hl
        rw [List.drop_drop] at this
        simpa using this
      split at hr
      · rename_i env1 H1 p hs
        generalize hq : arun tt ops l (i + 1) env1 H1 = q at hr
        obtain ⟨j', e', h', ps'⟩ := q
        simp only [Prod.mk.injEq] at hr
        obtain ⟨rfl, rfl, rfl, rfl⟩ := hr
        exact AOps.one htt ho hs hp.1 (ih (i + 1) env1 H1 ps' hl' hq hp.2)
      · cases hr
        exact h
  exact key _ i env H ps rfl hr hp
theorem AOps.done {ops : Array Oper} {K : List AV → Heap → Prop} {i : Nat} {env : List AV} {H : Heap} (hi : ops.size ≤ i) (h : K env H) : AOps P ops N0 K i env H := by
  intro Q w0 ρ0 ρ a w s hQ
  rw [show ops.size - i = 0 by omega]
  exact hQ env H ρ a w h s
theorem AW.region {id : Nat} {ops : Array Oper} {Q : Exit → List AV → Heap → Prop} {env : List AV} {H : Heap} (h : AOps P ops N0 (fun e h => Q .normal e h) 0 env H) : AW P N0 (.region id ops false) Q env H := by
  intro w0 ρ0 ρ a w s
  refine wp_region ?_
  have := h (fun e a' w' => ∃ env' H' ρ', Q e env' H' ∧ St w0 ρ0 N0 ρ' env' H' a' w') w0 ρ0 ρ a w s fun env' H' ρ' a' w' hk hs => ⟨env', H', ρ', hk, hs⟩
  rw [List.range_eq_range']
  simpa using this
/-- A region that calls nothing. -/
theorem AW.quick {tt : TT} (htt : TTok P tt) {id : Nat} {ops : Array Oper} {Q : Exit → List AV → Heap → Prop} {env env' : List AV} {H H' : Heap} {ps : List (Th Prop)} (hr : arun tt ops ops.toList 0 env H = (ops.size, env', H', ps)) (hp : All ps)
    (h : Q .normal env' H') : AW P N0 (.region id ops false) Q env H :=
  AW.region (AOps.run htt (i := 0) (by simpa using hr) hp (AOps.done (Nat.le_refl _) h))
def thenA (K : List AV → Heap → Prop) (Q : Exit → List AV → Heap → Prop) : Exit → List AV → Heap → Prop
  | .normal, e, h => K e h
  | x, e, h => Q x e h
theorem AW.seq {c1 c2 : Code} {Q : Exit → List AV → Heap → Prop} {env : List AV} {H : Heap} (h : AW P N0 c1 (thenA (AW P N0 c2 Q) Q) env H) : AW P N0 (.seq c1 c2) Q env H := by
  intro w0 ρ0 ρ a w s
  refine wp_seq (wp_mono (h w0 ρ0 ρ a w s) fun e a' w' hh => ?_)
  obtain ⟨env', H', ρ', hq, hs⟩ := hh
  cases e <;> first | exact hq w0 ρ0 ρ' a' w' hs | exact ⟨env', H', ρ', hq, hs⟩
theorem AW.skip {Q : Exit → List AV → Heap → Prop} {env : List AV} {H : Heap} (h : Q .normal env H) : AW P N0 .skip Q env H := fun _ _ ρ _ _ s => wp_skip ⟨env, H, ρ, h, s⟩
theorem AW.ret {Q : Exit → List AV → Heap → Prop} {env : List AV} {H : Heap} (h : Q .ret env H) : AW P N0 .ret Q env H := fun _ _ ρ _ _ s => wp_ret ⟨env, H, ρ, h, s⟩
theorem AW.exit {id : Nat} {Q : Exit → List AV → Heap → Prop} {env : List AV} {H : Heap} (h : Q (.exit id) env H) : AW P N0 (.exit id) Q env H := fun _ _ ρ _ _ s => wp_exit ⟨env, H, ρ, h, s⟩
theorem AW.cond {c : Operand} {x y : Code} {Q : Exit → List AV → Heap → Prop} {env : List AV} {H : Heap} {b : Th Bool} (hc : aeval env c = .b b) (ht : b .u = true → AW P N0 x Q env H) (hf : b .u = false → AW P N0 y Q env H) : AW P N0 (.cond c x y) Q env H := by
  intro w0 ρ0 ρ a w s
  have hsim := aeval_sound s.env c
  rw [hc] at hsim
  exact wp_cond_split hsim.b_inv (fun e => ht e w0 ρ0 ρ a w s) (fun e => hf e w0 ρ0 ρ a w s)
def blockA (id : Nat) (Q : Exit → List AV → Heap → Prop) : Exit → List AV → Heap → Prop
  | .exit id', e, h => if id' = id then Q .normal e h else Q (.exit id') e h
  | x, e, h => Q x e h
theorem AW.block {id : Nat} {c : Code} {Q : Exit → List AV → Heap → Prop} {env : List AV} {H : Heap} (h : AW P N0 c (blockA id Q) env H) : AW P N0 (.block id c) Q env H := by
  intro w0 ρ0 ρ a w s
  refine wp_block (wp_mono (h w0 ρ0 ρ a w s) fun e a' w' hh => ?_)
  obtain ⟨env', H', ρ', hq, hs⟩ := hh
  cases e with
  | exit id' =>
    simp only [blockA] at hq
    simp only [Exit.inBlock]
    split <;> rename_i he
    · rw [if_pos he] at hq; exact ⟨env', H', ρ', hq, hs⟩
    · rw [if_neg he] at hq; exact ⟨env', H', ρ', hq, hs⟩
  | _ => exact ⟨env', H', ρ', hq, hs⟩
theorem AW.mono {c : Code} {Q Q' : Exit → List AV → Heap → Prop} {env : List AV} {H : Heap} (h : AW P N0 c Q env H) (hq : ∀ x e h, Q x e h → Q' x e h) : AW P N0 c Q' env H :=
  fun w0 ρ0 ρ a w s => wp_mono (h w0 ρ0 ρ a w s) fun _ _ _ ⟨env', H', ρ', k1, k2⟩ => ⟨env', H', ρ', hq _ _ _ k1, k2⟩
/-- A loop, by what holds at each head and a measure that goes down. -/
theorem AW.loop {c : Code} {Q : Exit → List AV → Heap → Prop} {env : List AV} {H : Heap} (I : Nat → List AV → Heap → Prop) {n : Nat} (h0 : I n env H)
    (round : ∀ n env H, I n env H → AW P N0 c (thenA (fun e h => ∃ m, m < n ∧ I m e h) Q) env H) : AW P N0 (.loop c) Q env H := by
  intro w0 ρ0 ρ a w s
  have key : ∀ n env H ρ a w, I n env H → St w0 ρ0 N0 ρ env H a w → (Code.loop c).wp P (fun e a' w' => ∃ env' H' ρ', Q e env' H' ∧ St w0 ρ0 N0 ρ' env' H' a' w') a w := by
    intro n env H ρ a w hI s b k cs
    have inner : ∀ n env H ρ a w, I n env H → St w0 ρ0 N0 ρ env H a w → ∃ e a' w', (∃ env' H' ρ', Q e env' H' ∧ St w0 ρ0 N0 ρ' env' H' a' w') ∧ Arrives P (lone (b.at a (.code c :: .inLoop c :: k)) cs w) b k cs e a' w' := by
      intro n
      induction n using Nat.strongRecOn with
      | _ n ih =>
        intro env H ρ a w hI s
        obtain ⟨e, a₁, w₁, ⟨env', H', ρ', hq, hs⟩, harr⟩ := round n env H hI w0 ρ0 ρ a w s b (.inLoop c :: k) cs
        cases e with
        | normal =>
          obtain ⟨m, hm, hI'⟩ := hq
          obtain ⟨e₂, a₂, w₂, hq₂, harr₂⟩ := ih m hm env' H' ρ' a₁ w₁ hI' hs
          exact ⟨e₂, a₂, w₂, hq₂, .of_steps (Steps.trans harr (.one step_inLoop)) harr₂⟩
        | exit id => exact ⟨_, a₁, w₁, ⟨env', H', ρ', hq, hs⟩, .pass (x := .inLoop c) rfl (fun _ _ => .inl (by simp)) harr⟩
        | goto l => exact ⟨_, a₁, w₁, ⟨env', H', ρ', hq, hs⟩, .pass (x := .inLoop c) rfl (fun _ _ => .inl (by simp)) harr⟩
        | ret => exact ⟨_, a₁, w₁, ⟨env', H', ρ', hq, hs⟩, .pass (x := .inLoop c) rfl (fun _ _ => .inl (by simp)) harr⟩
        | panic ch => exact ⟨_, a₁, w₁, ⟨env', H', ρ', hq, hs⟩, .pass (x := .inLoop c) rfl (fun _ _ => .inl (by simp)) harr⟩
        | outgrown => exact ⟨_, a₁, w₁, ⟨env', H', ρ', hq, hs⟩, .pass (x := .inLoop c) rfl (fun _ _ => .inl (by simp)) harr⟩
    obtain ⟨e, a', w', hq, harr⟩ := inner n env H ρ a w hI s
    exact ⟨e, a', w', hq, .of_steps (.one step_loop) harr⟩
  exact key n env H ρ a w h0 s

/-! ### What a call comes to -/
/-- A function that is entered. -/
def Enters (P : Program) (f : FuncId) : Prop := ∃ fn, P.funcs[f]? = some fn ∧ (fn.name == "runtime.NumGoroutine") = false ∧ fn.body.isNone = false
structure Con (P : Program) (f : FuncId) (args : List AV) (Hc : Heap) (res : AV) (Hc' : Heap) : Prop where
  enters : Enters P f
  len : Hc.length ≤ Hc'.length
  call : ∀ w ρ (vals : Array Value), Rel w ρ w.heap.size Hc → args.length = vals.size → (∀ (j : Nat) (x : AV) (v : Value), args[j]? = some x → vals[j]? = some v → Sim w ρ Hc.length w.heap.size x v) →
    Calls P f vals w fun e w' => ∃ v ρ', e = .returned v ∧ Sim w' ρ' Hc'.length w.heap.size res v ∧ Rel w' ρ' w.heap.size Hc' ∧ Pass w ρ Hc.length w' ρ' Hc'.length
def ares (tt : TT) (H : Heap) (env : List AV) : ResultVar → Option (AV × Th Prop)
  | .tmp t => some (env.getD t .dead, fun _ => True)
  | .cell p t => match env.getD p .dead with
    | .ptr id i sz c => if live H id then aload tt H t (.ptr id i sz c) else none
    | _ => none
def aresL (tt : TT) (H : Heap) (env : List AV) : List ResultVar → Option (List AV × Th Prop)
  | [] => some ([], fun _ => True)
  | r :: rs => match ares tt H env r, aresL tt H env rs with
    | some (a, p), some (l, q) => some (a :: l, fun _ => p .u ∧ q .u)
    | _, _ => none
def aresults (tt : TT) (H : Heap) (env : List AV) (rs : List ResultVar) : Option (AV × Th Prop) :=
  match aresL tt H env rs with
  | some ([a], p) => some (a, p)
  | some (l, p) => some (.tup l, p)
  | none => none
def resSem (tmps : Array Value) : ResultVar → Sem Value
  | .tmp t => pure (tmps.getD t undef)
  | .cell p t => do loadVar t (← asAddr (tmps.getD p undef))
theorem results_eq (fn : Func) (tmps : Array Value) : results fn tmps = (do let vs ← fn.results.mapM (resSem tmps); pure (if h : vs.size = 1 then vs[0] else .tuple vs)) := by
  unfold results
  congr 1
theorem aresL_sound {tt : TT} (htt : TTok P tt) {w0 : World} {ρ0 ρ : Mp} {env : List AV} {H : Heap} {a : Act} {w : World} (s : St w0 ρ0 N0 ρ env H a w) : ∀ (rs : List ResultVar) (l : List AV) (p : Th Prop), aresL tt H env rs = some (l, p) → p .u →
    ∃ vs : List Value, (rs.mapM (resSem a.tmps)).run P w = .ok vs w ∧ vs.length = l.length ∧ ∀ (j : Nat) (x : AV) (v : Value), l[j]? = some x → vs[j]? = some v → Sim w ρ H.length w0.heap.size x v := by
  intro rs
  induction rs with
  | nil => intro l p h _; cases h; exact ⟨[], by simp, rfl, fun j x v h => by simp at h⟩
  | cons r rs ih =>
    intro l p h hp
    simp only [aresL] at h
    split at h <;> cases h
    rename_i x px l' pl hx hl
    obtain ⟨vs, h1, h2, h3⟩ := ih l' pl hl hp.2
    have hv : ∃ v, (resSem a.tmps r).run P w = .ok v w ∧ Sim w ρ H.length w0.heap.size x v := by
      cases r with
      | tmp t =>
        simp only [ares] at hx
        cases hx
        exact ⟨_, rfl, aeval_sound s.env (.tmp t)⟩
      | cell q t =>
        simp only [ares] at hx
        have hq := aeval_sound s.env (.tmp q)
        simp only [aeval, Act.eval] at hq
        split at hx <;> first | (cases hx; done) | skip
        rename_i id i sz c he
        split at hx <;> first | (cases hx; done) | skip
        rename_i hl
        rw [he] at hq
        unfold aload at hx
        split at hx <;> first | (cases hx; done) | skip
        rename_i i' hi
        split at hx <;> first | (cases hx; done) | skip
        rename_i as ob' hread
        rw [Option.map_eq_some_iff] at hx
        obtain ⟨a', ha, hee⟩ := hx
        cases hee
        obtain ⟨hlen, blk, off, hu, hc⟩ := aread_sound s.rel hread hp.1 hq
        obtain ⟨v, hv, hsim⟩ := run_loadVar_at (P := P) (htt.info hi) hlen hc ha
        refine ⟨v, ?_, hsim⟩
        simp only [resSem, hu, asAddr, Sem.run_bind, Sem.run_pure, Result.andThen_ok, hv]
    obtain ⟨v, hv1, hv2⟩ := hv
    refine ⟨v :: vs, ?_, by simp [h2], fun j y u hy hu => ?_⟩
    · simp only [List.mapM_cons, Sem.run_bind, hv1, Result.andThen_ok, h1, Sem.run_pure]
    · cases j with
      | zero => cases hy; cases hu; exact hv2
      | succ j => exact h3 j y u hy hu
theorem run_results {tt : TT} (htt : TTok P tt) {w0 : World} {ρ0 ρ : Mp} {env : List AV} {H : Heap} {a : Act} {w : World} (s : St w0 ρ0 N0 ρ env H a w) {fn : Func} {r : AV} {p : Th Prop} (hr : aresults tt H env fn.results.toList = some (r, p)) (hp : p .u) :
    ∃ v, (results fn a.tmps).run P w = .ok v w ∧ Sim w ρ H.length w0.heap.size r v := by
  unfold aresults at hr
  have run : ∀ vs : List Value, (fn.results.toList.mapM (resSem a.tmps)).run P w = .ok vs w → (results fn a.tmps).run P w = .ok (if h : vs.length = 1 then vs[0] else .tuple vs.toArray) w := by
    intro vs h
    rw [results_eq, Array.mapM_eq_mapM_toList]
    simp only [Sem.run_bind, Sem.run_map, h, Result.andThen_ok, Sem.run_pure]
    by_cases h1 : vs.length = 1
    · simp [h1]
    · simp [h1]
  split at hr
  · rename_i x q hl
    cases hr
    obtain ⟨vs, h1, h2, h3⟩ := aresL_sound htt s _ _ _ hl hp
    obtain ⟨v, rfl⟩ : ∃ v, vs = [v] := by
      match vs, h2 with
      | [v], _ => exact ⟨v, rfl⟩
    exact ⟨v, by rw [run _ h1]; rfl, h3 0 _ v rfl rfl⟩
  · rename_i l _ hne hl
    cases hr
    obtain ⟨vs, h1, h2, h3⟩ := aresL_sound htt s _ _ _ hl hp
    have hl1 : ¬ vs.length = 1 := by
      intro e
      match l, h2.symm.trans e with
      | [x], _ => exact hne x rfl
    refine ⟨.tuple vs.toArray, by rw [run _ h1, dif_neg hl1], .tup (by simp [h2]) fun j x u hx hu => h3 j x u hx (by simpa using hu)⟩
  · cases hr
end
end Go.Aw
