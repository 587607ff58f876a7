/- A region whose order is open, where memory grows: what is read of older memory may be read before or behind. -/
import Derived.Test.YtfdmmbcjidkmoaaAwn
namespace Go.Aw
def only3 (k : Nat) : Bool := !turns k || Nat.beq k 3
/-- Which operations read nothing but what lay there at the region's start. -/
def fivesOf (tt : TT) (ct : CT) (ops : Array Oper) (H0 : Heap) : List Oper → List AV → Heap → List Bool
  | [], _, _ => []
  | o :: l, env, H => match astepG tt ct ops env H o with
    | some (r, H', _, k) => (match Nat.beq k 4 with
      | true => match astepG tt ct ops env H0 o with
        | some (_, _, _, k') => Nat.beq k' 4
        | none => false
      | false => false) :: fivesOf tt ct ops H0 l (aput env o.dst r) H'
    | none => []
theorem fives_at {tt : TT} {ct : CT} {ops : Array Oper} {H0 : Heap} : ∀ (l : List Oper) (E : Nat → List AV) (HH : Nat → Heap) (R : Nat → AV) (ks : Nat → Nat),
    (∀ (i : Nat) (o : Oper), l[i]? = some o → (∃ p, astepG tt ct ops (E i) (HH i) o = some (R i, HH (i + 1), p, ks i)) ∧ E (i + 1) = aput (E i) o.dst (R i)) →
    ∀ (i : Nat) (o : Oper), l[i]? = some o → (fivesOf tt ct ops H0 l (E 0) (HH 0)).getD i false = true → ks i = 4 ∧ ∃ r' p' H2, astepG tt ct ops (E i) H0 o = some (r', H2, p', 4) := by
  intro l
  induction l with
  | nil => intro E HH R ks _ i o h; simp at h
  | cons q l ih =>
    intro E HH R ks hst i o ho hf
    obtain ⟨⟨p, g1⟩, g2⟩ := hst 0 q (by simp)
    unfold fivesOf at hf
    rw [g1] at hf
    simp only at hf
    cases i with
    | zero =>
      simp only [List.getElem?_cons_zero, Option.some.injEq] at ho
      subst ho
      simp only [List.getD_cons_zero] at hf
      split at hf <;> first | (cases hf; done) | skip
      rename_i hk
      split at hf <;> first | (cases hf; done) | skip
      rename_i r' H2 p' k' hg
      exact ⟨Nat.beq_eq.mp hk, r', p', H2, by rw [hg, Nat.beq_eq.mp hf]⟩
    | succ i =>
      simp only [List.getD_cons_succ] at hf
      rw [← g2] at hf
      exact ih (fun j => E (j + 1)) (fun j => HH (j + 1)) (fun j => R (j + 1)) (fun j => ks (j + 1)) (fun j q' hq' => hst (j + 1) q' (by simpa using hq')) i o (by simpa using ho) hf
def pairB (l : List Oper) (ks : List Nat) (F : List Bool) (i j : Nat) (oi oj : Oper) : Bool :=
  !sameD oi.dst oj.dst && (match readsG l oi oj.dst || readsG l oj oi.dst || ((!(Nat.beq (ks.getD j 0) 4 && Nat.beq (ks.getD i 0) 3) && !(F.getD i false && Nat.beq (ks.getD j 0) 3)) && ((turns (ks.getD i 0) && !Nat.beq (ks.getD j 0) 0) || (turns (ks.getD j 0) && !Nat.beq (ks.getD i 0) 0))) with
    | true => reach l l.length i j
    | false => true)
def orderB (l : List Oper) (ks : List Nat) (F : List Bool) (n : Nat) : Bool := edgesOK l && (List.range l.length).all fun i => match l[i]? with
  | some oi => (match oi.dst with
    | some d => Nat.blt d n
    | none => true) && !readsG l oi oi.dst && (List.range i).all fun j => match l[j]? with
      | some oj => pairB l ks F i j oi oj
      | none => false
  | none => false
section
variable {P : Program} {N0 : Nat}
theorem AW.drawnB {tt : TT} (htt : TTok P tt) {ct : CT} (hct : CTok P ct) {id : Nat} {ops : Array Oper} {Q : Exit → List AV → Heap → Prop} {env fin : List AV} {H H' : Heap} {ks : List Nat} {ps : List (Th Prop)} (hq : arunV tt ct ops ops.toList env H = some (fin, H', ks, ps))
    {F : List Bool} (hF : fivesOf tt ct ops H ops.toList env H = F) (h3 : ks.all only3 = true) (hd : orderB ops.toList ks F env.length = true) (hp : All ps) (h : Q .normal fin H') : AW P N0 (.region id ops true) Q env H := by
  unfold orderB at hd
  simp only [Bool.and_eq_true] at hd
  obtain ⟨hE, hO⟩ := hd
  obtain ⟨E, HH, R, hL, hfin, hfinH⟩ := line_of hq hp
  have tl : ∀ {i : Nat} {o : Oper}, ops[i]? = some o → ops.toList[i]? = some o := fun {i o} ho => by simpa using ho
  have at_ : ∀ {i : Nat} {o : Oper}, ops[i]? = some o → (∀ d, o.dst = some d → d < env.length) ∧ readsG ops.toList o o.dst = false ∧ ∀ (j : Nat) (q : Oper), ops[j]? = some q → j < i → pairB ops.toList ks F i j o q = true := by
    intro i o ho
    have hi := (Array.getElem?_eq_some_iff.1 ho).1
    have h1 := List.all_eq_true.1 hO i (List.mem_range.2 (by simpa using hi))
    rw [tl ho] at h1
    simp only [Bool.and_eq_true, Bool.not_eq_true'] at h1
    obtain ⟨⟨h1, h2⟩, h3⟩ := h1
    refine ⟨fun d hd => by rw [hd] at h1; simpa [Nat.blt_eq] using h1, h2, fun j q hq hj => ?_⟩
    have := List.all_eq_true.1 h3 j (List.mem_range.2 hj)
    rw [tl hq] at this
    exact this
  have hu : ∀ (i j : Nat) (o q : Oper) (t : Tmp), ops.toList[i]? = some o → ops.toList[j]? = some q → j ≠ i → q.dst = some t → o.dst ≠ some t := by
    intro i j o q t ho hq' hne hd hd'
    have key : ∀ {i j : Nat} {o q : Oper}, ops[i]? = some o → ops[j]? = some q → j < i → q.dst = some t → o.dst = some t → False := by
      intro i j o q ho hq' hlt hd hd'
      have := (at_ ho).2.2 j q hq' hlt
      unfold pairB sameD at this
      rw [hd, hd'] at this
      simp at this
    rcases Nat.lt_or_gt_of_ne hne with hlt | hgt
    · exact key (by simpa using ho) (by simpa using hq') hlt hd hd'
    · exact key (by simpa using hq') (by simpa using ho) hgt hd' hd
  have hat := hL.at_ hu
  have fiv : ∀ (i : Nat) (o : Oper), ops[i]? = some o → F.getD i false = true → ks.getD i 0 = 4 ∧ ∃ r' p' H2, astepG tt ct ops (E i) H o = some (r', H2, p', 4) := by
    intro i o ho hf
    rw [← hF] at hf
    have := fives_at (H0 := H) ops.toList E HH R (fun j => ks.getD j 0) (fun j q hq => by
      obtain ⟨⟨p, g1, _⟩, g2⟩ := hL.step j q hq
      exact ⟨⟨p, g1⟩, g2⟩) i o (tl ho) (by rw [hL.start.1, hL.start.2]; exact hf)
    exact this
  have three : ∀ j, turns (ks.getD j 0) = true → ks.getD j 0 = 3 := by
    intro j hj
    rw [List.getD_eq_getElem?_getD] at hj ⊢
    cases hk : ks[j]? with
    | none => rw [hk] at hj; exact absurd hj (by decide)
    | some k =>
      rw [hk] at hj
      have := List.all_eq_true.1 h3 k (List.mem_of_getElem? hk)
      unfold only3 at this
      have hj : turns k = true := hj
      rw [hj] at this
      simpa using this
  have reads : ∀ {o : Oper} {t : Tmp}, Operand.tmp t ∈ o.op.operands.toList → readsG ops.toList o (some t) = true := fun {o t} hx => by
    unfold readsG
    rw [show readsT o (some t) = true from List.any_eq_true.2 ⟨_, hx, by simp⟩, Bool.true_or]
  intro w0 ρ0 ρ a w s
  refine wp_region_any hct.1 ?_
  have key : ∀ (fuel : Nat) (listed : Array Bool) (env1 : List AV) (k : Nat) (ρ : Mp) (a : Act) (w : World), listed.size = ops.size → listed.toList.count false = fuel → env1.length = env.length → k ≤ ops.size →
      (∀ (i : Nat) (o : Oper), ops[i]? = some o → listed.getD i false = true → ∀ e ∈ o.after, Region.binds .any e = true → listed.getD e.on false = true) →
      (∀ j, j < ops.size → turns (ks.getD j 0) = true → (listed.getD j false = true ↔ j < k)) →
      (∀ t, (∀ (j : Nat) (o : Oper), ops[j]? = some o → listed.getD j false = true → o.dst ≠ some t) → env1[t]? = env[t]?) → (∀ (j : Nat) (o : Oper) (t : Nat), ops[j]? = some o → listed.getD j false = true → o.dst = some t → env1[t]? = some (R j)) → St w0 ρ0 N0 ρ env1 (HH k) a w →
      wpAny P .any ops (fun e a' w' => ∃ env' H' ρ', Q e env' H' ∧ St w0 ρ0 N0 ρ' env' H' a' w') fuel listed a w := by
    intro fuel
    induction fuel with
    | zero =>
      intro listed env1 k ρ a w hsz hc hl hk hcl hkk hi1 hi2 s
      have hall : ∀ j, j < ops.size → listed.getD j false = true := by
        intro j hj
        have hjl : j < listed.size := by omega
        cases hb : listed[j] with
        | true => simp [hjl, hb]
        | false =>
          have hm : listed[j] ∈ listed.toList := by simp
          rw [hb] at hm
          exact absurd hm (List.count_eq_zero.1 hc)
      refine ⟨?_, fin, H', ρ, h, ?_⟩
      · rw [List.eq_nil_iff_forall_not_mem]
        intro j hj
        obtain ⟨h0, o, ho, _⟩ := mem_ready.1 hj
        have hjl := (Array.getElem?_eq_some_iff.1 ho).1
        have h1 := hall j hjl
        have hjl' : j < listed.size := by omega
        simp [hjl'] at h0 h1
        rw [h0] at h1; cases h1
      · have e : env1 = fin := by
          rw [← hfin]
          refine List.ext_getElem? fun t => ?_
          obtain ⟨k1, k2⟩ := hat ops.toList.length (Nat.le_refl _)
          by_cases hw : ∃ (j : Nat) (o : Oper), ops[j]? = some o ∧ o.dst = some t
          · obtain ⟨j, o, ho, hd⟩ := hw
            have hj := (Array.getElem?_eq_some_iff.1 ho).1
            rw [k2 j o t (tl ho) (by simpa using hj) hd ((at_ ho).1 t hd)]
            exact hi2 j o t ho (hall j hj) hd
          · rw [k1 t fun j q hq' _ e => hw ⟨j, q, by simpa using hq', e⟩]
            exact hi1 t fun j o ho _ e => hw ⟨j, o, ho, e⟩
        have eH : HH k = H' := by
          rw [← hfinH]
          have := hL.still (i := k) (d := ops.toList.length - k) (by simp; omega) fun j h1 h2 => Bool.eq_false_iff.2 fun e => by
            have hjs : j < ops.size := by simp at h2; omega
            have := (hkk j hjs e).1 (hall j hjs)
            omega
          rw [show k + (ops.toList.length - k) = ops.toList.length by simp; omega] at this
          exact this.symm
        rw [e, eH] at s
        exact s
    | succ fuel ih =>
      intro listed env1 k ρ a w hsz hc hl hk hcl hkk hi1 hi2 s
      refine ⟨fun hr => ?_, fun i hi => ?_⟩
      · exfalso
        have hall := all_listed hE hsz hr
        have : listed.toList.count false = 0 := by
          rw [List.count_eq_zero]
          intro hm
          obtain ⟨j, hj, e⟩ := List.mem_iff_getElem.1 hm
          have hjl : j < listed.size := by simpa using hj
          have := hall j (by omega)
          simp [hjl] at this e
          rw [e] at this; cases this
        omega
      · obtain ⟨h0, o, ho, hdep⟩ := mem_ready.1 hi
        have hil := (Array.getElem?_eq_some_iff.1 ho).1
        have hil' : i < listed.size := by omega
        have hun : listed.getD i false = false := by simpa [hil'] using h0
        obtain ⟨hdlt, hself, hpair⟩ := at_ ho
        obtain ⟨⟨p, hs, hp'⟩, _⟩ := hL.step i o (tl ho)
        obtain ⟨k1, k2⟩ := hat i (by simpa using Nat.le_of_lt hil)
        -- what i waits for is listed; what waits for i is not
        have wait1 : ∀ j, reach ops.toList ops.toList.length i j = true → listed.getD j false = true := fun j hr => reach_listed hcl _ i j o ho hdep hr
        have wait2 : ∀ (j : Nat) (q : Oper), ops[j]? = some q → reach ops.toList ops.toList.length j i = true → listed.getD j false = false := by
          intro j q hq' hr
          cases hlj : listed.getD j false with
          | false => rfl
          | true =>
            have := reach_listed hcl _ j i q hq' (hcl j q hq' hlj) hr
            rw [hun] at this; cases this
        have htmp : ∀ t, readsG ops.toList o (some t) = true → env1[t]? = (E i)[t]? := by
          intro t hx
          by_cases hw : ∃ (j : Nat) (q : Oper), ops[j]? = some q ∧ q.dst = some t
          · obtain ⟨j, q, hq', hdq⟩ := hw
            have hji : j ≠ i := by
              intro e
              subst e
              rw [ho] at hq'; cases hq'
              rw [hdq, hx] at hself; cases hself
            have other : ∀ (j' : Nat) (q' : Oper), ops[j']? = some q' → q'.dst = some t → j' = j := by
              intro j' q' hq2 hd2
              refine Classical.byContradiction fun hne => ?_
              exact hu j j' q q' t (tl hq') (tl hq2) hne hd2 hdq
            rcases Nat.lt_or_gt_of_ne hji with hlt | hgt
            · have hpo := hpair j q hq' hlt
              unfold pairB at hpo
              simp only [hdq, hx, Bool.true_or, Bool.and_eq_true] at hpo
              rw [hi2 j q t hq' (wait1 j hpo.2) hdq, k2 j q t (tl hq') hlt hdq ((at_ hq').1 t hdq)]
            · have hpo := (at_ hq').2.2 i o ho hgt
              unfold pairB at hpo
              simp only [hdq, hx, Bool.true_or, Bool.or_true, Bool.and_eq_true] at hpo
              have hno := wait2 j q hq' hpo.2
              have e1 : env1[t]? = env[t]? := hi1 t fun j' q' hq2 hl2 hd2 => by
                rw [other j' q' hq2 hd2, hno] at hl2; cases hl2
              have e2 : (E i)[t]? = env[t]? := k1 t fun j' q' hq2 hj2 hd2 => by
                have := other j' q' (by simpa using hq2) hd2
                omega
              rw [e1, e2]
          · rw [hi1 t fun j q hq' _ e => hw ⟨j, q, hq', e⟩, k1 t fun j q hq' hj e => hw ⟨j, q, by simpa using hq', e⟩]
        have hev : ∀ x ∈ o.op.operands.toList, aeval env1 x = aeval (E i) x := by
          intro x hx
          cases x with
          | tmp t =>
            simp only [aeval, lget_eq]
            rw [List.getD_eq_getElem?_getD, List.getD_eq_getElem?_getD, htmp t (reads hx)]
          | _ => rfl
        have hgv : ∀ j want, o.guard = some (j, want) → guardAV ops env1 j = guardAV ops (E i) j := by
          intro j want hg
          rw [guardAV_eq, guardAV_eq]
          cases hq' : ops.toList[j]? with
          | none => rfl
          | some q =>
            simp only
            cases hdq : q.dst with
            | none => rfl
            | some d =>
              simp only
              rw [htmp d (by unfold readsG; simp only [hg, hq', hdq, sameD]; simp)]
        -- the memory that i sees
        have seen : F.getD i false = false → ks.getD i 0 ≠ 0 → (∀ j, j < ops.size → turns (ks.getD j 0) = true → j < i → j < k) ∧ (∀ j, j < ops.size → turns (ks.getD j 0) = true → ¬ (ks.getD i 0 = 4 ∧ ks.getD j 0 = 3) → i ≤ j → k ≤ j) := by
          intro hFi hi0
          have hz : Nat.beq (ks.getD i 0) 0 = false := by
            cases hb : Nat.beq (ks.getD i 0) 0 with
            | false => rfl
            | true => exact absurd (Nat.beq_eq.mp hb) hi0
          refine ⟨fun j hj h2 hlt => ?_, fun j hj h2 hx hge => ?_⟩
          · have hq' : ops[j]? = some ops[j] := Array.getElem?_eq_getElem hj
            have hpo := hpair j _ hq' hlt
            unfold pairB at hpo
            have h4 : Nat.beq (ks.getD j 0) 4 = false := by
              cases hb : Nat.beq (ks.getD j 0) 4 with
              | false => rfl
              | true => rw [Nat.beq_eq.mp hb] at h2; exact absurd h2 (by decide)
            simp only [h2, h4, hz, hFi, Bool.false_and, Bool.not_false, Bool.and_true, Bool.or_true, Bool.and_eq_true] at hpo
            exact (hkk j hj h2).1 (wait1 j hpo.2)
          · refine Nat.le_of_not_lt fun hlt => ?_
            have hlj := (hkk j hj h2).2 hlt
            rcases Nat.eq_or_lt_of_le hge with e | hgt
            · subst e; rw [hun] at hlj; cases hlj
            · have hq' : ops[j]? = some ops[j] := Array.getElem?_eq_getElem hj
              have hpo := (at_ hq').2.2 i o ho hgt
              unfold pairB at hpo
              have h43 : (Nat.beq (ks.getD i 0) 4 && Nat.beq (ks.getD j 0) 3) = false := by
                cases hb : Nat.beq (ks.getD i 0) 4 && Nat.beq (ks.getD j 0) 3 with
                | false => rfl
                | true =>
                  simp only [Bool.and_eq_true] at hb
                  exact absurd ⟨Nat.beq_eq.mp hb.1, Nat.beq_eq.mp hb.2⟩ hx
              have hFj : F.getD j false = false := by
                cases hb : F.getD j false with
                | false => rfl
                | true =>
                  have := (fiv j _ hq' hb).1
                  rw [this] at h2; exact absurd h2 (by decide)
              simp only [h2, h43, hz, hFj, Bool.false_and, Bool.not_false, Bool.and_self, Bool.or_true, Bool.true_or, Bool.and_eq_true] at hpo
              rw [wait2 j _ hq' hpo.2] at hlj; cases hlj
        have notF : ks.getD i 0 ≠ 4 → F.getD i false = false := fun h4 => by
          cases hb : F.getD i false with
          | false => rfl
          | true => exact absurd (fiv i o ho hb).1 h4
        have hHk : ks.getD i 0 ≠ 0 → ks.getD i 0 ≠ 4 → HH k = HH i := by
          intro hi0 hi4
          obtain ⟨s1, s2⟩ := seen (notF hi4) hi0
          rcases Nat.le_total k i with hki | hik
          · have := hL.still (i := k) (d := i - k) (by simp; omega) fun j h1 h2 => Bool.eq_false_iff.2 fun e => by
              have := s1 j (by omega) e (by omega)
              omega
            rw [show k + (i - k) = i by omega] at this
            exact this.symm
          · have := hL.still (i := i) (d := k - i) (by simp; omega) fun j h1 h2 => Bool.eq_false_iff.2 fun e => by
              have := s2 j (by omega) e (fun hx => hi4 hx.1) h1
              omega
            rw [show i + (k - i) = k by omega] at this
            exact this
        have hGk : F.getD i false = false → ks.getD i 0 = 4 → ∃ X, HH k = HH i ++ X := by
          intro hFi hi4
          obtain ⟨s1, s2⟩ := seen hFi (by rw [hi4]; decide)
          rcases Nat.le_total k i with hki | hik
          · have := hL.still (i := k) (d := i - k) (by simp; omega) fun j h1 h2 => Bool.eq_false_iff.2 fun e => by
              have := s1 j (by omega) e (by omega)
              omega
            rw [show k + (i - k) = i by omega] at this
            exact ⟨[], by rw [List.append_nil]; exact this.symm⟩
          · have := hL.grown (i := i) (d := k - i) (by simp; omega) fun j h1 h2 e => by
              refine Classical.byContradiction fun hne => ?_
              have := s2 j (by omega) e (fun hx => hne hx.2) h1
              omega
            rw [show i + (k - i) = k by omega] at this
            exact this
        have next : ∀ (k' : Nat) (ρ' : Mp) (a' : Act) (w' : World), k' ≤ ops.size → (∀ j, j < ops.size → turns (ks.getD j 0) = true → (((listed.setIfInBounds i true).getD j false = true) ↔ j < k')) → St w0 ρ0 N0 ρ' (aput env1 o.dst (R i)) (HH k') a' w' →
            wpAny P .any ops (fun e a' w' => ∃ env' H' ρ', Q e env' H' ∧ St w0 ρ0 N0 ρ' env' H' a' w') fuel (listed.setIfInBounds i true) a' w' := by
          intro k' ρ' a' w' hk' hkk' s'
          refine ih (listed.setIfInBounds i true) (aput env1 o.dst (R i)) k' ρ' a' w' (by simp [hsz]) ?_ (by simp only [aput_eq]; split <;> simp [hl]) hk' (fun j q hq' hlj e he hb => ?_) hkk' (fun t ht => ?_) (fun j q t hq' hlj hdq => ?_) s'
          · have hf : listed.toList[i] = false := by simpa [hil'] using h0
            rw [Array.toList_setIfInBounds, List.count_set (by simpa using hil'), hc]
            simp [hf]
          · by_cases e' : j = i
            · subst e'
              rw [ho] at hq'; cases hq'
              exact getD_set_true (hdep e he hb)
            · rw [getD_set_ne false (Ne.symm e')] at hlj
              exact getD_set_true (hcl j q hq' hlj e he hb)
          · simp only [aput_eq]
            have hself' : (listed.setIfInBounds i true).getD i false = true := by simp [hil']
            split
            · rename_i d hd
              have hne : d ≠ t := fun e => ht i o ho hself' (by rw [hd, e])
              rw [List.getElem?_set_ne hne]
              exact hi1 t fun j q hq' hlj => ht j q hq' (getD_set_true hlj)
            · exact hi1 t fun j q hq' hlj => ht j q hq' (getD_set_true hlj)
          · by_cases e : j = i
            · subst e
              rw [ho] at hq'; cases hq'
              simp only [aput_eq, hdq]
              rw [List.getElem?_set_self (by rw [hl]; exact hdlt t hdq)]
            · rw [getD_set_ne false (Ne.symm e)] at hlj
              simp only [aput_eq]
              split
              · rename_i d hd
                have hne : d ≠ t := fun e' => hu i j o q t (tl ho) (tl hq') e hdq (by rw [hd, e'])
                rw [List.getElem?_set_ne hne]
                exact hi2 j q t hq' hlj hdq
              · exact hi2 j q t hq' hlj hdq
        have other : ∀ j, j ≠ i → (listed.setIfInBounds i true).getD j false = listed.getD j false := fun j hj => getD_set_ne false (Ne.symm hj)
        have hself' : (listed.setIfInBounds i true).getD i false = true := by simp [hil']
        by_cases hi0 : ks.getD i 0 = 0
        · have hs' := (astepG_kind hs).2.1 hi0 (HH k)
          refine wpOp_G htt hct ho hs' hp' hev hgv s _ fun ρ' a' w' s' => next k ρ' a' w' hk (fun j hj h2 => ?_) s'
          rw [other j (fun e => by rw [e, hi0] at h2; exact absurd h2 (by decide))]
          exact hkk j hj h2
        · by_cases hi4 : ks.getD i 0 = 4
          · have hs' : astepG tt ct ops (E i) (HH k) o = some (R i, HH k, p, 4) := by
              cases hFi : F.getD i false with
              | false =>
                obtain ⟨X, hX⟩ := hGk hFi hi4
                have hs' := (astepG_kind hs).2.2.2.1 hi4 X
                rw [← hX] at hs'
                exact hs'
              | true =>
                obtain ⟨_, r', p', H2, g⟩ := fiv i o ho hFi
                obtain ⟨X, hX⟩ := hL.grown (i := 0) (d := k) (by simp; omega) fun j _ _ e => three j e
                obtain ⟨Y, hY⟩ := hL.grown (i := 0) (d := i) (by simp; omega) fun j _ _ e => three j e
                rw [Nat.zero_add, hL.start.2] at hX hY
                have e2 : H2 = H := (astepG_kind g).1 (by decide)
                subst e2
                have gX := (astepG_kind g).2.2.2.1 rfl X
                have gY := (astepG_kind g).2.2.2.1 rfl Y
                rw [← hX] at gX
                rw [← hY, hs] at gY
                simp only [Option.some.injEq, Prod.mk.injEq] at gY
                obtain ⟨e3, _, e4, _⟩ := gY
                rw [gX, e3, e4]
            refine wpOp_G htt hct ho hs' hp' hev hgv s _ fun ρ' a' w' s' => next k ρ' a' w' hk (fun j hj h2 => ?_) s'
            rw [other j (fun e => by rw [e, hi4] at h2; exact absurd h2 (by decide))]
            exact hkk j hj h2
          have eH := hHk hi0 hi4
          rw [eH] at s
          by_cases hi2' : turns (ks.getD i 0) = true
          · refine wpOp_G htt hct ho hs hp' hev hgv s _ fun ρ' a' w' s' => next (i + 1) ρ' a' w' (by omega) (fun j hj h2 => ?_) s'
            obtain ⟨s1, s2⟩ := seen (notF hi4) hi0
            by_cases e : j = i
            · subst e; simp [hself']
            · rw [other j e, hkk j hj h2]
              constructor
              · intro hlt
                rcases Nat.lt_or_ge j i with h' | h'
                · omega
                · have := s2 j hj h2 (fun hx => hi4 hx.1) h'; omega
              · intro hlt
                exact s1 j hj h2 (by omega)
          · have e1 : HH (i + 1) = HH i := (astepG_kind hs).1 (Bool.eq_false_iff.2 hi2')
            refine wpOp_G htt hct ho hs hp' hev hgv s _ fun ρ' a' w' s' => next k ρ' a' w' hk (fun j hj h2 => ?_) (by rw [eH, ← e1]; exact s')
            rw [other j (fun e => by rw [e] at h2; exact hi2' h2)]
            exact hkk j hj h2
  refine key _ _ env 0 ρ a _ (by simp) (by simp) rfl (Nat.zero_le _) (fun i o ho hli => ?_) (fun j hj _ => by simp [hj]) (fun t _ => rfl) (fun j o t ho hlj _ => ?_) ?_
  · have hil := (Array.getElem?_eq_some_iff.1 ho).1
    simp [hil] at hli
  · have hjl := (Array.getElem?_eq_some_iff.1 ho).1
    simp [hjl] at hlj
  · rw [hL.start.2]
    exact ⟨s.defers, ⟨s.env.len, fun t x v h1 h2 => (s.env.at_ t x v h1 h2).mono (Pass.same ρ _ rfl rfl rfl rfl) (Nat.le_refl _)⟩, s.rel.same rfl rfl rfl rfl, s.pass.trans (Pass.same ρ _ rfl rfl rfl rfl)⟩
end
end Go.Aw
