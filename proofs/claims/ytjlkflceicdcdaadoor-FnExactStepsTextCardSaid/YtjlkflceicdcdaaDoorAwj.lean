/- Operations one after another: the evaluator and its soundness. -/
import Derived.Test.YtjlkflceicdcdaaDoorAwi
namespace Go.Aw

/-- nil of an interface type: the literal alone. -/
def okNil (y : Operand) (y' : AV) : Bool :=
  match y' with
  | .v .nilIface => (match y with | .const .nilIface => true | _ => false)
  | _ => true
theorem abin_right {tt : TT} {H : Heap} {op : BinOp} {t : TypeId} {x y r : AV} {p : Th Prop} (h : abin tt H op t x y = some (r, p)) : (∃ z, y = .v z) ∨ (∃ k z, y = .i k z) ∨ (∃ z, y = .b z) ∨ (∃ z, y = .s z) ∨ (∃ k z, y = .f k z) ∨ ∃ k z z', y = .c k z z' := by
  unfold abin at h
  split at h <;> first | (cases h; done) | exact .inl ⟨_, rfl⟩ | exact .inr (.inl ⟨_, _, rfl⟩) | exact .inr (.inr (.inl ⟨_, rfl⟩)) | exact .inr (.inr (.inr (.inl ⟨_, rfl⟩))) | exact .inr (.inr (.inr (.inr (.inl ⟨_, _, rfl⟩)))) | exact .inr (.inr (.inr (.inr (.inr ⟨_, _, _, rfl⟩))))
theorem run_complex {P : Program} {w : World} (ts : Array TypeId) (ty : TypeId) (k : FloatKind) (x y : Nat) : (Builtin.complex_ ts ty #[.float k x, .float k y]).run P w = .ok (.complex k x y) w := by
  show (if k = k then _ else _ : Sem Value).run P w = _
  rw [if_pos rfl]; rfl
theorem run_real {P : Program} {w : World} (ts : Array TypeId) (ty : TypeId) (k : FloatKind) (x y : Nat) : (Builtin.real_ ts ty #[.complex k x y]).run P w = .ok (.float k x) w := rfl
theorem run_imag {P : Program} {w : World} (ts : Array TypeId) (ty : TypeId) (k : FloatKind) (x y : Nat) : (Builtin.imag_ ts ty #[.complex k x y]).run P w = .ok (.float k y) w := rfl
/-- What a quiet operation makes; ev tells the operands. -/
def aopq (tt : TT) (H : Heap) (ev : Operand → AV) (op : Op) : Option (AV × Th Prop) :=
  match op with
  | .move x => some (ev x, fun _ => True)
  | .assign x => some (ev x, fun _ => True)
  | .extract t i => match ev t with
    | .tup l => match l[i]? with
      | some a => some (a, fun _ => True)
      | none => none
    | _ => none
  | .pick c a b => match ev c with
    | .b b0 => match ev a, ev b with
      | .b p, .b q => some (.b fun _ => bif b0 .u then p .u else q .u, fun _ => True)
      | .on c1 (.b p), .b q => some (.b fun _ => bif b0 .u then p .u else q .u, fun _ => b0 .u = true → c1 .u = true)
      | .b p, .on c2 (.b q) => some (.b fun _ => bif b0 .u then p .u else q .u, fun _ => b0 .u = false → c2 .u = true)
      | .on c1 (.b p), .on c2 (.b q) => some (.b fun _ => bif b0 .u then p .u else q .u, fun _ => (b0 .u = true → c1 .u = true) ∧ (b0 .u = false → c2 .u = true))
      | _, _ => none
    | _ => none
  | .unOp o _ x => aun o (ev x)
  | .binOp o t x y _ => if okNil y (ev y) then abin tt H o t (ev x) (ev y) else none
  | .convert s d x => match tt.desc s with
    | .invalid => none
    | ds => match tt.desc d, ds with
      | .string, .string => aconv tt d (ev x)
      | .string, .slice e => aconvS tt H e (ev x)
      | .string, _ => none
      | _, _ => aconv tt d (ev x)
  | .indexAddr t x i => aindexAddr tt H t (ev x) (ev i)
  | .index t x i => aindexS tt t (ev x) (ev i)
  | .load t p => aload tt H t (ev p)
  | .fieldAddr t p f => match afieldAddr tt H t (ev p) f with
    | some a => some (a, fun _ => True)
    | none => none
  | .field t x f => match afield tt t (ev x) f with
    | some a => some (a, fun _ => True)
    | none => none
  | .slice t x lo hi none => areslice tt H t (ev x) (lo.map ev) (hi.map ev)
  | .build t ps => match abuild tt H t (ps.toList.map fun p => (p.1, ev p.2)) with
    | some a => some (a, fun _ => True)
    | none => none
  | .makeFunc f l m => some (.fn f (l.toList.map ev) (m.toList.map ev), fun _ => True)
  | .nilCheck x => match ev x with
    | .ptr id i sz c => if live H id then some (.ptr id i sz c, fun _ => True) else none
    | .rptr fr m g => some (.rptr fr m g, fun _ => True)
    | _ => none
  | .call { callee := .builtin b, args, argTypes } => match b, args.toList, argTypes.toList with
    | .len, [x], [t] => match alen H tt t (ev x) with
      | some a => some (a, fun _ => True)
      | none => none
    | .max, [x, y], _ => match amax true (ev x) (ev y) with
      | some a => some (a, fun _ => True)
      | none => none
    | .min, [x, y], _ => match amax false (ev x) (ev y) with
      | some a => some (a, fun _ => True)
      | none => none
    | .complex, [x, y], _ => match ev x, ev y with
      | .f k a, .f k' b => if k = k' then some (.c k a b, fun _ => True) else none
      | _, _ => none
    | .real, [x], _ => match ev x with
      | .c k a _ => some (.f k a, fun _ => True)
      | _ => none
    | .imag, [x], _ => match ev x with
      | .c k _ b => some (.f k b, fun _ => True)
      | _ => none
    | _, _, _ => none
  | _ => none
/-- What an operation that makes or writes memory makes. -/
def aoph (tt : TT) (H : Heap) (ev : Operand → AV) (op : Op) : Option (AV × Heap × Th Prop) :=
  match op with
  | .alloc t => match aalloc tt H t with
    | some (r, H') => some (r, H', fun _ => True)
    | none => none
  | .box _ x => match abox H (ev x) with
    | some (r, H') => some (r, H', fun _ => True)
    | none => none
  | .buildSlice t n ps => match abuildSlice tt H t n (ps.toList.map fun p => (p.1, ev p.2)) with
    | some (r, H') => some (r, H', fun _ => True)
    | none => none
  | .makeSlice t l c => amake tt H t (ev l) (ev c)
  | .store t p x => match astore tt H t (ev p) (ev x) with
    | some (H', ob) => some (.dead, H', ob)
    | none => none
  | .call { callee := .builtin .append, args, argTypes } => match args.toList, argTypes.toList with
    | [x, y], [t, t2] => aappend tt H t t2 (ev x) (ev y)
    | _, _ => none
  | _ => none

section
variable {P : Program} {w : World} {ρ : Mp} {L : Nat} {H : Heap}
/-- What is shown of an operation. -/
def Does (P : Program) (s : Sem Next) (w : World) (ρ : Mp) (L : Nat) (H : Heap) (r : AV) (H' : Heap) : Prop :=
  ∃ v w' ρ', (s.run P w = .ok (.value v) w' ∨ (s.run P w = .ok .skip w' ∧ v = undef)) ∧ Rel w' ρ' L H' ∧ Pass w ρ H.length w' ρ' H'.length ∧ Sim w' ρ' H'.length L r v
theorem does_of {s : Sem Value} {r : AV} {H' : Heap} (h : Gives P s w ρ L H r H') : Does P (do pure (Next.value (← s))) w ρ L H r H' := by
  obtain ⟨v, w', ρ', h1, h2⟩ := h
  exact ⟨v, w', ρ', .inl (by simp [h1]), h2⟩
theorem does_pure {v : Value} {r : AV} (h : Rel w ρ L H) (hv : Sim w ρ H.length L r v) : Does P (pure (Next.value v)) w ρ L H r H := ⟨v, w, ρ, .inl rfl, h, Pass.refl _ _ _, hv⟩
theorem sim_list {ev : Operand → AV} {a : Act} {l : List Operand} (h : ∀ x ∈ l, Sim w ρ H.length L (ev x) (a.eval x)) : ∀ (j : Nat) (x : AV) (u : Value), (l.map ev)[j]? = some x → ((l.map a.eval).toArray)[j]? = some u → Sim w ρ H.length L x u := by
  intro j x u h1 h2
  rw [List.getElem?_map, Option.map_eq_some_iff] at h1
  obtain ⟨o, ho, rfl⟩ := h1
  rw [List.getElem?_toArray, List.getElem?_map, ho] at h2
  cases h2
  exact h o (List.mem_of_getElem? ho)
theorem sim_bool {b0 p q : Th Bool} {u v : Value} (hu : b0 .u = true → u = .bool (p .u)) (hv : b0 .u = false → v = .bool (q .u)) : Sim w ρ H.length L (.b fun _ => bif b0 .u then p .u else q .u) (if b0 .u then u else v) := by
  have e : (if b0 .u then u else v) = .bool (bif b0 .u then p .u else q .u) := by
    cases h : b0 .u
    · rw [if_neg (by simp), hv h]; rfl
    · rw [if_pos rfl, hu h]; rfl
  rw [e]; exact .b
theorem Sim.on_inv {b : Th Bool} {a : AV} {u : Value} {N : Nat} (h : Sim w ρ N L (.on b a) u) (hb : b .u = true) : Sim w ρ N L a u := by
  cases h with | on h _ => exact h hb
theorem aopq_sound {tt : TT} (htt : TTok P tt) {ev : Operand → AV} {o : Oper} {a : Act} {r : AV} {p : Th Prop} (h : Rel w ρ L H) (hr : aopq tt H ev o.op = some (r, p)) (hp : p .u)
    (hev : ∀ x ∈ o.op.operands.toList, Sim w ρ H.length L (ev x) (a.eval x)) : Does P (execOp a.eval o) w ρ L H r H := by
  unfold execOp
  cases hop : o.op <;> rw [hop] at hr hev <;> simp only [aopq] at hr <;> first | (cases hr; done) | skip
  case move x => cases hr; exact does_pure h (hev x (by simp [Op.operands]))
  case assign x => cases hr; exact does_pure h (hev x (by simp [Op.operands]))
  case pick c x y =>
    have hc := hev c (by simp [Op.operands])
    have hx := hev x (by simp [Op.operands])
    have hy := hev y (by simp [Op.operands])
    split at hr <;> first | (cases hr; done) | skip
    rename_i b0 hb0
    rw [hb0] at hc
    have ec := hc.b_inv
    have run : (do pure (Next.value (if ← asBool (a.eval c) then a.eval x else a.eval y)) : Sem Next).run P w = .ok (.value (if b0 .u then a.eval x else a.eval y)) w := by
      rw [ec]; simp [asBool]
    have fin : ∀ pp qq : Th Bool, r = .b (fun _ => bif b0 .u then pp .u else qq .u) → (b0 .u = true → a.eval x = .bool (pp .u)) → (b0 .u = false → a.eval y = .bool (qq .u)) →
        Does P (do pure (Next.value (if ← asBool (a.eval c) then a.eval x else a.eval y)) : Sem Next) w ρ L H r H := by
      intro pp qq e h1 h2
      subst e
      exact ⟨_, w, ρ, .inl run, h, Pass.refl _ _ _, sim_bool h1 h2⟩
    split at hr
    · rename_i pp qq h1 h2
      cases hr
      rw [h1] at hx; rw [h2] at hy
      exact fin pp qq rfl (fun _ => hx.b_inv) (fun _ => hy.b_inv)
    · rename_i c1 pp qq h1 h2
      cases hr
      rw [h1] at hx; rw [h2] at hy
      exact fin pp qq rfl (fun e => (hx.on_inv (hp e)).b_inv) (fun _ => hy.b_inv)
    · rename_i pp c2 qq h1 h2
      cases hr
      rw [h1] at hx; rw [h2] at hy
      exact fin pp qq rfl (fun _ => hx.b_inv) (fun e => (hy.on_inv (hp e)).b_inv)
    · rename_i c1 pp c2 qq h1 h2
      cases hr
      rw [h1] at hx; rw [h2] at hy
      exact fin pp qq rfl (fun e => (hx.on_inv (hp.1 e)).b_inv) (fun e => (hy.on_inv (hp.2 e)).b_inv)
    · cases hr
  case extract t i =>
    have hx := hev t (by simp [Op.operands])
    split at hr <;> first | (cases hr; done) | skip
    rename_i l hl
    split at hr <;> cases hr
    rename_i hi
    rw [hl] at hx
    obtain ⟨us, hu, hlen, hj⟩ := hx.tup_inv
    have hlt := (List.getElem?_eq_some_iff.1 hi).1
    have hui : us[i]? = some (us[i]'(by omega)) := Array.getElem?_eq_getElem _
    exact does_of (gives_pure h (by rw [hu]; simp [Instr.extract, hui]) (hj i r _ hi hui))
  case unOp op t x => exact does_of (gives_un h hr hp (hev x (by simp [Op.operands])))
  case binOp op t x y t2 =>
    have hx := hev x (by simp [Op.operands])
    have hy := hev y (by simp [Op.operands])
    have key : abin tt H op t (ev x) (ev y) = some (r, p) ∧ (y = .const .nilIface ∨ a.eval y ≠ .nilIface) := by
      split at hr <;> first | (cases hr; done) | skip
      rename_i hok
      refine ⟨hr, ?_⟩
      rcases abin_right hr with ⟨z, hz⟩ | ⟨k, z, hz⟩ | ⟨z, hz⟩ | ⟨z, hz⟩ | ⟨k, z, hz⟩ | ⟨k, z, z', hz⟩
      · rw [hz] at hy hok
        have e := hy.v_inv
        by_cases hn : z = .nilIface
        · subst hn
          unfold okNil at hok
          split at hok
          · split at hok <;> first | exact .inl rfl | cases hok
          · rename_i hne; exact absurd rfl hne
        · exact .inr (by rw [e]; exact hn)
      · rw [hz] at hy; exact .inr (by rw [hy.i_inv]; simp)
      · rw [hz] at hy; exact .inr (by rw [hy.b_inv]; simp)
      · rw [hz] at hy; exact .inr (by rw [hy.s_inv]; simp)
      · rw [hz] at hy
        obtain ⟨b, e, _⟩ := hy.f_inv
        exact .inr (by rw [e]; simp)
      · rw [hz] at hy
        obtain ⟨b, b', e, _⟩ := hy.c_inv
        exact .inr (by rw [e]; simp)
    obtain ⟨hbin, hny⟩ := key
    obtain ⟨g1, g2⟩ := gives_bin (P := P) htt h hbin hp hx hy
    have e := g2 x y hny
    obtain ⟨v, w', ρ', k1, k2⟩ := g1
    exact ⟨v, w', ρ', .inl (by simp [e, k1]), k2⟩
  case convert s d x =>
    have hx := hev x (by simp [Op.operands])
    split at hr <;> first | (cases hr; done) | skip
    rename_i hs
    split at hr <;> first | (cases hr; done) | skip
    · rename_i h1 h2
      exact does_of (gives_conv htt h (by rw [h2]; simp) (fun _ => h2) hr hp hx)
    · rename_i e h1 h2
      exact does_of (gives_convS htt h h2 h1 hr hp hx)
    · rename_i h1 h2 h3
      exact does_of (gives_conv htt h hs (fun e => absurd e (by intro e; simp_all)) hr hp hx)
  case indexAddr t x i => exact does_of (gives_index htt h hr hp (hev x (by simp [Op.operands])) (hev i (by simp [Op.operands])))
  case index t x i => exact does_of (gives_indexS htt h hr hp (hev x (by simp [Op.operands])) (hev i (by simp [Op.operands])))
  case load t x => exact does_of (gives_load htt h hr hp (hev x (by simp [Op.operands])))
  case fieldAddr t x f =>
    split at hr <;> cases hr
    rename_i hr'
    exact does_of (gives_fieldAddr htt h hr' (hev x (by simp [Op.operands])))
  case field t x f =>
    split at hr <;> cases hr
    rename_i hr'
    exact does_of (gives_field htt h hr' (hev x (by simp [Op.operands])))
  case slice t x lo hi mx =>
    cases mx with
    | some m => simp at hr
    | none =>
      simp only at hr
      refine does_of (gives_reslice htt h hr hp (hev x (by simp [Op.operands])) (by cases lo <;> simp) (by cases hi <;> simp) ?_ ?_)
      · intro y u h1 h2
        cases lo with
        | none => cases h1
        | some l => cases h1; cases h2; exact hev l (by simp [Op.operands])
      · intro y u h1 h2
        cases hi with
        | none => cases h1
        | some l => cases h1; cases h2; exact hev l (by simp [Op.operands])
  case build t ps =>
    split at hr <;> cases hr
    rename_i hr'
    refine does_of (gives_build htt h hr' (by simp) fun j x q h1 h2 => ?_)
    rw [List.getElem?_map, Option.map_eq_some_iff] at h1
    obtain ⟨y, hy, rfl⟩ := h1
    rw [Array.toList_map, List.getElem?_map, hy] at h2
    cases h2
    refine hev y.2 ?_
    simp only [Op.operands, List.toList_toArray, List.mem_map]
    exact ⟨y, List.mem_of_getElem? hy, rfl⟩
  case makeFunc f l m =>
    cases hr
    refine does_of (gives_pure h (v := .func f (l.map a.eval) (m.map a.eval)) (by simp [Instr.makeFunc]) ?_)
    refine .fn (by simp) (fun j x u h1 h2 => ?_) (by simp) (fun j x u h1 h2 => ?_)
    · refine sim_list (a := a) (fun x hx => hev x (by simp only [Op.operands, Array.toList_append, List.mem_append]; exact .inl hx)) j x u h1 ?_
      rw [← h2]; congr 1; apply Array.ext'; simp
    · refine sim_list (a := a) (fun x hx => hev x (by simp only [Op.operands, Array.toList_append, List.mem_append]; exact .inr hx)) j x u h1 ?_
      rw [← h2]; congr 1; apply Array.ext'; simp
  case nilCheck x =>
    have hx := hev x (by simp [Op.operands])
    split at hr <;> first | (cases hr; done) | skip
    · rename_i id i sz c he
      split at hr <;> cases hr
      rename_i hl
      rw [he] at hx
      obtain ⟨blk, hb⟩ := live_at h hl
      have e : a.eval x = .pointer (some ⟨blk, i .u * sz + c, none⟩) := by cases hx with | ptr _ hv => exact hv blk hb
      simp only [e] at hx ⊢
      exact does_pure h hx
    · rename_i fr m g he
      cases hr
      rw [he] at hx
      have e : ∃ ad, a.eval x = .pointer (some ad) := by
        generalize a.eval x = u at hx
        cases hx; exact ⟨_, rfl⟩
      obtain ⟨ad, e⟩ := e
      simp only [e] at hx ⊢
      exact does_pure h hx
  case call c =>
    obtain ⟨callee, args, argTypes⟩ := c
    cases callee with
    | value => simp at hr
    | invoke => simp at hr
    | builtin b =>
      simp only at hr
      have he : ∀ (x : Operand), x ∈ args.toList → Sim w ρ H.length L (ev x) (a.eval x) := fun x hx => hev x (by simp only [Op.operands, Call.operands, Array.toList_append, List.mem_append]; exact .inr hx)
      have ea : ∀ l, args.toList = l → args = l.toArray := fun l e => by apply Array.ext'; simp [e]
      have et : ∀ l, argTypes.toList = l → argTypes = l.toArray := fun l e => by apply Array.ext'; simp [e]
      have run : ∀ s : Sem Value, (∀ cs, builtin b argTypes o.type cs (args.map a.eval) = (do pure (Next.value (← s)))) →
          ∀ r, Gives P s w ρ L H r H → Does P (do let d ← resolve a.eval ⟨.builtin b, args, argTypes⟩ o.type; invoke d.target d.args) w ρ L H r H := by
        intro s hs r hg
        obtain ⟨v, w', ρ', k1, k2⟩ := does_of hg
        refine ⟨v, w', ρ', ?_, k2⟩
        simp only [resolve, Sem.run_bind, Sem.run_pure, Result.andThen_ok, invoke, hs] at k1 ⊢
        exact k1
      split at hr
      · rename_i x t hx1 hx2
        split at hr <;> cases hr
        rename_i hr'
        have e1 := ea _ hx1
        have e2 := et _ hx2
        subst e1; subst e2
        exact run _ (fun _ => rfl) _ (by simpa using gives_len htt h hr' (he x (by simp)))
      · rename_i x y hx1
        split at hr <;> cases hr
        rename_i hr'
        have e1 := ea _ hx1
        subst e1
        exact run _ (fun _ => rfl) _ (by simpa using gives_max h hr' (he x (by simp)) (he y (by simp)))
      · rename_i x y hx1
        split at hr <;> cases hr
        rename_i hr'
        have e1 := ea _ hx1
        subst e1
        exact run _ (fun _ => rfl) _ (by simpa using gives_min h hr' (he x (by simp)) (he y (by simp)))
      · rename_i x y hx1
        split at hr <;> first | (cases hr; done) | skip
        rename_i k aa k' bb g1 g2
        split at hr <;> cases hr
        rename_i ek
        subst ek
        have e1 := ea _ hx1
        subst e1
        have s1 := he x (by simp)
        have s2 := he y (by simp)
        rw [g1] at s1; rw [g2] at s2
        obtain ⟨u1, q1, c1⟩ := s1.f_inv
        obtain ⟨u2, q2, c2⟩ := s2.f_inv
        exact run _ (fun _ => rfl) _ (gives_pure h (v := .complex k u1 u2) (by simp [q1, q2, run_complex]) (.c c1 c2))
      · rename_i x hx1
        split at hr <;> cases hr
        rename_i g1
        have e1 := ea _ hx1
        subst e1
        have s1 := he x (by simp)
        rw [g1] at s1
        obtain ⟨u1, u2, q1, c1, c2⟩ := s1.c_inv
        exact run _ (fun _ => rfl) _ (gives_pure h (v := .float _ u1) (by simp [q1, run_real]) (.f c1))
      · rename_i x hx1
        split at hr <;> cases hr
        rename_i g1
        have e1 := ea _ hx1
        subst e1
        have s1 := he x (by simp)
        rw [g1] at s1
        obtain ⟨u1, u2, q1, c1, c2⟩ := s1.c_inv
        exact run _ (fun _ => rfl) _ (gives_pure h (v := .float _ u2) (by simp [q1, run_imag]) (.f c2))
      · cases hr
theorem aoph_sound {tt : TT} (htt : TTok P tt) {ev : Operand → AV} {o : Oper} {a : Act} {r : AV} {H' : Heap} {p : Th Prop} (h : Rel w ρ L H) (hL : L ≤ w.heap.size) (hr : aoph tt H ev o.op = some (r, H', p)) (hp : p .u)
    (hev : ∀ x ∈ o.op.operands.toList, Sim w ρ H.length L (ev x) (a.eval x)) : Does P (execOp a.eval o) w ρ L H r H' := by
  unfold execOp
  cases hop : o.op <;> rw [hop] at hr hev <;> simp only [aoph] at hr <;> first | (cases hr; done) | skip
  case alloc t =>
    split at hr <;> cases hr
    rename_i hr'
    exact does_of (gives_alloc htt h hL hr')
  case box t x =>
    split at hr <;> cases hr
    rename_i hr'
    exact does_of (gives_box h hL hr' (hev x (by simp [Op.operands])))
  case buildSlice t n ps =>
    split at hr <;> cases hr
    rename_i hr'
    refine does_of (gives_buildSlice htt h hL hr' (by simp) fun j x q h1 h2 => ?_)
    rw [List.getElem?_map, Option.map_eq_some_iff] at h1
    obtain ⟨y, hy, rfl⟩ := h1
    rw [Array.toList_map, List.getElem?_map, hy] at h2
    cases h2
    refine hev y.2 ?_
    simp only [Op.operands, List.toList_toArray, List.mem_map]
    exact ⟨y, List.mem_of_getElem? hy, rfl⟩
  case makeSlice t l c => exact does_of (gives_make htt h hL hr hp (hev l (by simp [Op.operands])) (hev c (by simp [Op.operands])))
  case store t x y =>
    split at hr <;> cases hr
    rename_i hr'
    obtain ⟨w', k1, k2, k3⟩ := gives_store (P := P) htt h hr' hp (hev x (by simp [Op.operands])) (hev y (by simp [Op.operands]))
    exact ⟨undef, w', ρ, .inr ⟨by simp [k1], rfl⟩, k2, k3, .dead⟩
  case call c =>
    obtain ⟨callee, args, argTypes⟩ := c
    cases callee with
    | value => simp at hr
    | invoke => simp at hr
    | builtin b =>
      cases b <;> simp only at hr <;> first | (cases hr; done) | skip
      have he : ∀ (x : Operand), x ∈ args.toList → Sim w ρ H.length L (ev x) (a.eval x) := fun x hx => hev x (by simp only [Op.operands, Call.operands, Array.toList_append, List.mem_append]; exact .inr hx)
      have ea : ∀ l, args.toList = l → args = l.toArray := fun l e => by apply Array.ext'; simp [e]
      have et : ∀ l, argTypes.toList = l → argTypes = l.toArray := fun l e => by apply Array.ext'; simp [e]
      split at hr <;> first | (cases hr; done) | skip
      rename_i x y t t2 hx1 hx2
      have e1 := ea _ hx1
      have e2 := et _ hx2
      subst e1; subst e2
      obtain ⟨v, w', ρ', k1, k2⟩ := does_of (gives_append (P := P) (ty := o.type) htt h hL hr hp (he x (by simp)) (he y (by simp)))
      refine ⟨v, w', ρ', ?_, k2⟩
      have hb : ∀ cs, builtin .append (List.toArray [t, t2]) o.type cs ((List.toArray [x, y]).map a.eval) = (do pure (Next.value (← Builtin.append_ #[t, t2] o.type #[a.eval x, a.eval y]))) := fun _ => by simp [builtin]
      simp only [resolve, Sem.run_bind, Sem.run_pure, Result.andThen_ok, invoke, hb] at k1 ⊢
      exact k1

/-! ### Under a guard -/
def unOn : AV → AV
  | .on _ a => a
  | a => a
/-- Where an operand is told under a condition: that condition. -/
def condOf : AV → Th Prop
  | .on b _ => fun _ => b .u = true
  | _ => fun _ => True
def condsOf (env : List AV) : List Operand → Th Prop
  | [] => fun _ => True
  | x :: l => match condOf (aeval env x), condsOf env l with
    | p, q => fun _ => p .u ∧ q .u
/-- A guard's value: the condition under which it is told, and what it says. -/
def guardAV (ops : Array Oper) (env : List AV) (j : Nat) : Option (Th Bool × Th Bool) :=
  match ops.toList[j]? with
  | some o => match o.dst with
    | some d => match env[d]? with
      | some (.b b) => some (fun _ => true, b)
      | some (.on c (.b b)) => some (c, b)
      | _ => none
    | none => none
  | none => none
def astep (tt : TT) (ops : Array Oper) (env : List AV) (H : Heap) (o : Oper) : Option (List AV × Heap × Th Prop) :=
  match o.guard with
  | none => match aopq tt H (aeval env) o.op with
    | some (r, p) => some (aput env o.dst r, H, p)
    | none => match aoph tt H (aeval env) o.op with
      | some (r, H', p) => some (aput env o.dst r, H', p)
      | none => none
  | some (j, want) => match guardAV ops env j with
    | some (c, b) => match aopq tt H (fun x => unOn (aeval env x)) o.op with
      | some (r, p) => match condsOf env o.op.operands.toList with
        | q => some (aput env o.dst (.on (fun _ => c .u && (b .u == want)) r), H, fun _ => (c .u && (b .u == want)) = true → (q .u ∧ p .u))
      | none => none
    | none => none
theorem conds_at {env : List AV} : ∀ {l : List Operand}, condsOf env l .u → ∀ x ∈ l, condOf (aeval env x) .u := by
  intro l
  induction l with
  | nil => intro _ x hx; cases hx
  | cons y l ih =>
    intro h x hx
    rcases List.mem_cons.1 hx with rfl | hx
    · exact h.1
    · exact ih h.2 x hx
theorem Sim.unOn {N : Nat} {a : AV} {u : Value} (h : Sim w ρ N L a u) (hc : condOf a .u) : Sim w ρ N L (unOn a) u := by
  cases h with
  | on h _ => exact h hc
  | _ => first | exact .v ‹_› | exact .i | exact .b | exact .s | exact .f ‹_› | exact .c ‹_› ‹_› | exact .ro0 ‹_› | exact .ro _ ‹_› ‹_› ‹_› ‹_› | exact .own ‹_› ‹_› | exact .ptr ‹_› ‹_› | exact .rptr _ ‹_› ‹_› ‹_› | exact .agg ‹_› ‹_› | exact .tup ‹_› ‹_› | exact .fn ‹_› ‹_› ‹_› ‹_› | exact .ifc | exact .dead
end
end Go.Aw
