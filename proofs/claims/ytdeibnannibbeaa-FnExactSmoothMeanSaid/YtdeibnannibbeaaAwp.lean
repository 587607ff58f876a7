/- A region whose order is open: operations that turn no memory that is told, each behind those that it reads from: whatever the order, the same is told at its end. -/
import Derived.Test.YtdeibnannibbeaaAwo
import Derived.Orders
namespace Go.Aw

/-- What one operation without a guard answers where no memory is made: read off the temporaries as they are at the end. -/
def aquiet (tt : TT) (ct : CT) (H : Heap) (env : List AV) (o : Oper) : Option (AV × Th Prop) :=
  match o.guard with
  | none => match aopq tt H (aeval env) o.op with
    | some (r, p) => some (r, p)
    | none => match acallee ct (aeval env) o.op with
      | some (.r k, args) => match acallR H k args with
        | some (r, [], p) => some (ren (upM [] H.length) r, p)
        | _ => none
      | _ => none
  | some _ => none
/-- All operations, over the temporaries at the end: what they put, what has to hold. -/
def aquiets (tt : TT) (ct : CT) (H : Heap) (fin : List AV) : List Oper → List AV → Option (List AV × List (Th Prop))
  | [], env => some (env, [])
  | o :: l, env => match aquiet tt ct H fin o with
    | some (r, p) => match aquiets tt ct H fin l (aput env o.dst r) with
      | some (env', ps) => some (env', p :: ps)
      | none => none
    | none => none
/-- Operation i reads only what operations ahead of it, which it waits for, put; no other puts what it puts. -/
def drawOK1 (ops : List Oper) (i : Nat) (o : Oper) : Bool :=
  (match o.dst with | some _ => true | none => false) &&
  o.after.toList.all (fun e => Nat.blt e.on i) &&
  (List.range ops.length).all fun j => match ops[j]? with
    | some p => Nat.beq j i || ((match p.dst, o.dst with
        | some d, some d' => !Nat.beq d d'
        | _, _ => false)) && (match p.dst with
        | some d => o.op.operands.toList.all fun x => match x with
          | .tmp t => !Nat.beq t d || o.after.toList.any fun e => Nat.beq e.on j && Region.binds .any e
          | _ => true
        | none => false)
    | none => false
def selfOK (o : Oper) : Bool := match o.dst with
  | some d => o.op.operands.toList.all fun x => match x with
    | .tmp t => !Nat.beq t d
    | _ => true
  | none => false
def drawOK (ops : List Oper) : Bool := (List.range ops.length).all fun i => match ops[i]? with
  | some o => drawOK1 ops i o && selfOK o
  | none => false
theorem drawOK_at {ops : List Oper} (h : drawOK ops = true) {i : Nat} {o : Oper} (ho : ops[i]? = some o) : (∃ d, o.dst = some d ∧ ∀ t, Operand.tmp t ∈ o.op.operands.toList → t ≠ d) ∧ (∀ e ∈ o.after.toList, e.on < i) ∧
    ∀ (j : Nat) (p : Oper), ops[j]? = some p → j ≠ i → p.dst ≠ o.dst ∧ ∀ d, p.dst = some d → ∀ t, Operand.tmp t ∈ o.op.operands.toList → t = d → ∃ e ∈ o.after.toList, e.on = j ∧ Region.binds .any e = true := by
  have hlt := (List.getElem?_eq_some_iff.1 ho).1
  have h1 := List.all_eq_true.1 h i (List.mem_range.2 hlt)
  rw [ho] at h1
  simp only [Bool.and_eq_true] at h1
  obtain ⟨h1, hself⟩ := h1
  unfold drawOK1 at h1
  simp only [Bool.and_eq_true] at h1
  obtain ⟨⟨hd, ha⟩, hj⟩ := h1
  refine ⟨?_, fun e he => by simpa using List.all_eq_true.1 ha e he, fun j p hp hne => ?_⟩
  · unfold selfOK at hself
    split at hself <;> first | (cases hself; done) | skip
    rename_i d hd'
    refine ⟨d, hd', fun t ht e => ?_⟩
    have := List.all_eq_true.1 hself _ ht
    simp [e] at this
  · have hjl := (List.getElem?_eq_some_iff.1 hp).1
    have h2 := List.all_eq_true.1 hj j (List.mem_range.2 hjl)
    simp only [hp, Bool.or_eq_true, Bool.and_eq_true] at h2
    rcases h2 with h2 | ⟨h2, h3⟩
    · exact absurd (Nat.beq_eq.mp h2) hne
    · refine ⟨fun e => ?_, fun d hdp t ht e => ?_⟩
      · rw [e] at h2
        split at h2 <;> rename_i q1 q2
        · rw [q1] at q2; cases q2; simp at h2
        · cases h2
      · rw [hdp] at h3
        have h4 := List.all_eq_true.1 h3 _ ht
        simp only [e, Nat.beq_refl, Bool.not_true, Bool.false_or, List.any_eq_true, Bool.and_eq_true] at h4
        obtain ⟨e', he', hb, hb'⟩ := h4
        exact ⟨e', he', Nat.beq_eq.mp hb, hb'⟩
section
variable {P : Program} {N0 : Nat}
theorem aquiets_at {tt : TT} {ct : CT} {H : Heap} {fin : List AV} : ∀ {l : List Oper} {env env' : List AV} {ps : List (Th Prop)}, aquiets tt ct H fin l env = some (env', ps) → All ps →
    env'.length = env.length ∧ (∀ (i : Nat) (o : Oper), l[i]? = some o → ∃ r p, aquiet tt ct H fin o = some (r, p) ∧ p .u ∧ ((∀ (j : Nat) (q : Oper), l[j]? = some q → j ≠ i → q.dst ≠ o.dst) → ∀ d, o.dst = some d → d < env.length → env'[d]? = some r)) ∧
    ∀ t, (∀ (j : Nat) (q : Oper), l[j]? = some q → q.dst ≠ some t) → env'[t]? = env[t]? := by
  intro l
  induction l with
  | nil => intro env env' ps h _; cases h; exact ⟨rfl, fun i o h => by simp at h, fun t _ => rfl⟩
  | cons o l ih =>
    intro env env' ps h hp
    simp only [aquiets] at h
    split at h <;> first | (cases h; done) | skip
    rename_i r p hr
    split at h <;> cases h
    rename_i ps' hs
    obtain ⟨k1, k2, k3⟩ := ih hs hp.2
    have hlen : (aput env o.dst r).length = env.length := by unfold aput; split <;> simp
    refine ⟨k1.trans hlen, fun i q hq => ?_, fun t ht => ?_⟩
    · cases i with
      | zero =>
        cases hq
        refine ⟨r, p, hr, hp.1, fun hother d hd hdl => ?_⟩
        rw [k3 d (fun j q hj e => hother (j + 1) q (by simpa using hj) (by simp) (e.trans hd.symm))]
        simp only [aput, hd]
        rw [List.getElem?_set_self hdl]
      | succ i =>
        obtain ⟨r', p', e1, e2, e3⟩ := k2 i q (by simpa using hq)
        exact ⟨r', p', e1, e2, fun hother d hd hdl => e3 (fun j x hj hne => hother (j + 1) x (by simpa using hj) (by omega)) d hd (by rw [hlen]; exact hdl)⟩
    · rw [k3 t fun j q hj => ht (j + 1) q (by simpa using hj)]
      have := ht 0 o rfl
      unfold aput
      split
      · rename_i d hd
        rw [List.getElem?_set_ne (fun e => this (hd.trans (congrArg some e)))]
      · rfl
/-- One quiet operation: what it reads is as at the end. -/
theorem wpOp_quiet {tt : TT} (htt : TTok P tt) {ct : CT} (hct : CTok P ct) {ops : Array Oper} {Q : Exit → Act → World → Prop} {i : Nat} {o : Oper} {env fin : List AV} {H : Heap} {r : AV} {p : Th Prop} (ho : ops[i]? = some o) (hq : aquiet tt ct H fin o = some (r, p)) (hp : p .u)
    (hev : ∀ x ∈ o.op.operands.toList, aeval env x = aeval fin x) {w0 : World} {ρ0 ρ : Mp} {a : Act} {w : World} (s : St w0 ρ0 N0 ρ env H a w) (K : Act → World → Prop) (h : ∀ ρ' a' w', St w0 ρ0 N0 ρ' (aput env o.dst r) H a' w' → K a' w') : wpOp P ops Q i K a w := by
  unfold aquiet at hq
  split at hq <;> first | (cases hq; done) | skip
  rename_i hg
  have hw : Region.wanted o (yielded ops a.tmps) = true := by simp [Region.wanted, hg]
  unfold wpOp
  simp only [ho, hw, if_true]
  split at hq
  · rename_i r' p' hr
    cases hq
    left
    have hd := aopq_sound htt s.rel hr hp (a := a) fun x hx => by rw [← hev x hx]; exact aeval_sound s.env x
    obtain ⟨v, w', ρ', hrun, hR, hP, hv⟩ := hd
    have s' := s.step hR hP hv o.dst
    unfold Oper.wp Oper.upon
    rcases hrun with hrun | ⟨hrun, rfl⟩ <;> rw [hrun] <;> exact h _ _ _ s'
  · split at hq <;> first | (cases hq; done) | skip
    rename_i k args hk
    split at hq <;> cases hq
    rename_i r' hr
    left
    exact wp_toldR hct (aeval fin) (fun x hx w ρ N L u hu => by rw [← hev x hx]; exact hu) hk (.inl rfl) hr hp _ (fun _ _ _ _ _ hv => hv) s K Q fun ρ' a' w' s' => by
      rw [afterCall_nil] at s'
      exact h ρ' a' w' s'
theorem all_listed {ops : Array Oper} {listed : Array Bool} (hok : drawOK ops.toList = true) (hsz : listed.size = ops.size) (hr : Region.ready .any ops listed = []) : ∀ j, j < ops.size → listed.getD j false = true := by
  intro j
  induction j using Nat.strongRecOn with
  | _ j ih =>
    intro hj
    cases hl : listed.getD j false with
    | true => rfl
    | false =>
      have ho : ops[j]? = some ops[j] := Array.getElem?_eq_getElem hj
      have hun : listed.getD j true = false := by
        have hjl : j < listed.size := by omega
        simp [hjl] at hl ⊢; exact hl
      obtain ⟨_, hdep, _⟩ := drawOK_at hok (i := j) (o := ops[j]) (by simp)
      have : j ∈ Region.ready .any ops listed := mem_ready.2 ⟨hun, _, ho, fun e he _ => ih e.on (hdep e (by simpa using he)) (by have := hdep e (by simpa using he); omega)⟩
      rw [hr] at this
      simp at this
/-- A region whose order is open. -/
theorem AW.drawn {tt : TT} (htt : TTok P tt) {ct : CT} (hct : CTok P ct) (hm : P.follows .mixedOrders = true) {id : Nat} {ops : Array Oper} {Q : Exit → List AV → Heap → Prop} {env fin env' : List AV} {H : Heap} {ps : List (Th Prop)} (hok : drawOK ops.toList = true)
    (hdl : ops.toList.all (fun o => match o.dst with | some d => Nat.blt d env.length | none => false) = true) (hq : aquiets tt ct H fin ops.toList env = some (env', ps)) (hfin : env' = fin) (hp : All ps) (h : Q .normal fin H) : AW P N0 (.region id ops true) Q env H := by
  subst hfin
  obtain ⟨hlen, hat, hrest⟩ := aquiets_at hq hp
  intro w0 ρ0 ρ a w s
  refine wp_region_any hm ?_
  have key : ∀ (fuel : Nat) (listed : Array Bool) (env1 : List AV) (ρ : Mp) (a : Act) (w : World), listed.size = ops.size → listed.toList.count false = fuel → env1.length = env.length →
      (∀ t, (∀ (j : Nat) (o : Oper), ops[j]? = some o → o.dst = some t → listed.getD j false = true) → env1[t]? = env'[t]?) → St w0 ρ0 N0 ρ env1 H a w →
      wpAny P .any ops (fun e a' w' => ∃ env' H' ρ', Q e env' H' ∧ St w0 ρ0 N0 ρ' env' H' a' w') fuel listed a w := by
    intro fuel
    induction fuel with
    | zero =>
      intro listed env1 ρ a w hsz hc hl hinv s
      have hall : ∀ j, j < ops.size → listed.getD j false = true := by
        intro j hj
        have hjl : j < listed.size := by omega
        have hm : listed[j] ∈ listed.toList := by simp
        cases hb : listed[j] with
        | true => simp [hjl, hb]
        | false =>
          rw [hb] at hm
          exact absurd hm (List.count_eq_zero.1 hc)
      have e : env1 = env' := List.ext_getElem? fun t => hinv t fun j o ho _ => hall j (Array.getElem?_eq_some_iff.1 ho).1
      subst e
      refine ⟨?_, _, _, _, h, s⟩
      rw [List.eq_nil_iff_forall_not_mem]
      intro j hj
      obtain ⟨h0, o, ho, _⟩ := mem_ready.1 hj
      have hjl := (Array.getElem?_eq_some_iff.1 ho).1
      have h1 := hall j hjl
      have hjl' : j < listed.size := by omega
      simp [hjl'] at h0 h1
      rw [h0] at h1; cases h1
    | succ fuel ih =>
      intro listed env1 ρ a w hsz hc hl hinv s
      refine ⟨fun hr => ?_, fun i hi => ?_⟩
      · have hall := all_listed hok hsz hr
        have e : env1 = env' := List.ext_getElem? fun t => hinv t fun j o ho _ => hall j (Array.getElem?_eq_some_iff.1 ho).1
        subst e
        exact ⟨_, _, _, h, s⟩
      · obtain ⟨h0, o, ho, hdep⟩ := mem_ready.1 hi
        have hol : ops.toList[i]? = some o := by simpa using ho
        have hil := (Array.getElem?_eq_some_iff.1 ho).1
        obtain ⟨⟨d, hd, hself⟩, _, hother⟩ := drawOK_at hok hol
        obtain ⟨r, p, hr, hp', hput⟩ := hat i o hol
        have hdlen : d < env.length := by
          have := List.all_eq_true.1 hdl o (List.mem_of_getElem? hol)
          rw [hd] at this
          simpa using this
        have hfin : env'[d]? = some r := hput (fun j q hj hne => (hother j q hj hne).1) d hd hdlen
        have hev : ∀ x ∈ o.op.operands.toList, aeval env1 x = aeval env' x := by
          intro x hx
          cases x with
          | tmp t =>
            simp only [aeval]
            rw [List.getD_eq_getElem?_getD, List.getD_eq_getElem?_getD, hinv t fun j q hj hdj => ?_]
            by_cases hji : j = i
            · subst hji
              rw [ho] at hj; cases hj
              rw [hd] at hdj; cases hdj
              exact absurd rfl (hself _ hx)
            · obtain ⟨e, he, hej, hb⟩ := (hother j q (by simpa using hj) hji).2 t hdj t hx rfl
              rw [← hej]
              exact hdep e (by simpa using he) hb
          | _ => rfl
        refine wpOp_quiet htt hct ho hr hp' hev s _ fun ρ' a' w' s' => ih _ (aput env1 o.dst r) ρ' a' w' (by simp [hsz]) ?_ (by simp [aput, hd, hl]) (fun t ht => ?_) s'
        · have hil' : i < listed.size := by omega
          have hf : listed.toList[i] = false := by simpa [hil'] using h0
          rw [Array.toList_setIfInBounds, List.count_set (by simpa using hil'), hc]
          simp [hf]
        · simp only [aput, hd]
          by_cases e : t = d
          · rw [e, List.getElem?_set_self (by rw [hl]; exact hdlen), hfin]
          · rw [List.getElem?_set_ne (Ne.symm e)]
            refine hinv t fun j q hj hdj => ?_
            have := ht j q hj hdj
            have hji : i ≠ j := by
              intro e'
              subst e'
              rw [ho] at hj; cases hj
              rw [hd] at hdj; cases hdj
              exact e rfl
            rwa [getD_set_ne false hji] at this
  refine key _ _ env ρ a _ (by simp) (by simp) rfl (fun t ht => ?_) ⟨s.defers, ⟨s.env.len, fun t x v h1 h2 => (s.env.at_ t x v h1 h2).mono (Pass.same ρ _ rfl rfl rfl rfl) (Nat.le_refl _)⟩, s.rel.same rfl rfl rfl rfl, s.pass.trans (Pass.same ρ _ rfl rfl rfl rfl)⟩
  refine (hrest t fun j o hj hdj => ?_).symm
  have := ht j o (by simpa using hj) hdj
  have hjl := (List.getElem?_eq_some_iff.1 hj).1
  simp at hjl
  simp [hjl] at this
/-- The same; the run in the order of the text tells what stands at the end. -/
theorem AW.drawnRun {tt : TT} (htt : TTok P tt) {ct : CT} (hct : CTok P ct) (hm : P.follows .mixedOrders = true) {id : Nat} {ops : Array Oper} {Q : Exit → List AV → Heap → Prop} {env fin env' : List AV} {H H' : Heap} {n : Nat} {ps ps' : List (Th Prop)} (_hrun : arunC tt ct ops ops.toList 0 env H = (n, fin, H', ps')) (hok : drawOK ops.toList = true)
    (hdl : ops.toList.all (fun o => match o.dst with | some d => Nat.blt d env.length | none => false) = true) (hq : aquiets tt ct H fin ops.toList env = some (env', ps)) (hfin : env' = fin) (hp : All ps) (h : Q .normal fin H) : AW P N0 (.region id ops true) Q env H :=
  AW.drawn htt hct hm hok hdl hq hfin hp h
end
end Go.Aw
