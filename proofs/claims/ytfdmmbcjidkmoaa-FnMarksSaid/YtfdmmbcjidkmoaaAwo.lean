/- Small helps: arguments told anew, ends of functions, lists of numbers. -/
import Derived.Test.YtfdmmbcjidkmoaaAwn
namespace Go.Aw

/-! ### Arguments told anew -/
def Sub (a a' : AV) : Prop := ∀ (w : World) (ρ : Mp) (N L : Nat) (v : Value), Sim w ρ N L a v → Sim w ρ N L a' v
def AllSub : List AV → List AV → Prop
  | [], [] => True
  | a :: l, a' :: l' => Sub a a' ∧ AllSub l l'
  | _, _ => False
theorem Sub.refl (a : AV) : Sub a a := fun _ _ _ _ _ h => h
theorem AllSub.len : ∀ {l l' : List AV}, AllSub l l' → l.length = l'.length := by
  intro l
  induction l with
  | nil => intro l' h; cases l' <;> first | rfl | exact h.elim
  | cons a l ih => intro l' h; cases l' <;> first | exact h.elim | simp [ih h.2]
theorem AllSub.get : ∀ {l l' : List AV}, AllSub l l' → ∀ (j : Nat) (a' : AV), l'[j]? = some a' → ∃ a, l[j]? = some a ∧ Sub a a' := by
  intro l
  induction l with
  | nil => intro l' h j a' hj; cases l' <;> first | (simp at hj; done) | exact h.elim
  | cons a l ih =>
    intro l' h j a' hj
    cases l' with
    | nil => exact h.elim
    | cons b l' =>
      cases j with
      | zero => simp at hj; subst hj; exact ⟨a, rfl, h.1⟩
      | succ j => exact ih h.2 j a' hj
theorem Con.pre {P : Program} {f : FuncId} {args args' : List AV} {Hc Hc' : Heap} {res : AV} (hs : AllSub args args') (h : Con P f args' Hc res Hc') : Con P f args Hc res Hc' where
  enters := h.enters
  len := h.len
  call w ρ vals hR hl hv := h.call w ρ vals hR (hs.len ▸ hl) fun j x v hx hu => by
    obtain ⟨a, ha, hsub⟩ := hs.get j x hx
    exact hsub _ _ _ _ _ (hv j a v ha hu)
theorem Con.post {P : Program} {f : FuncId} {args : List AV} {Hc Hc' : Heap} {res res' : AV} (hs : Sub res res') (h : Con P f args Hc res Hc') : Con P f args Hc res' Hc' where
  enters := h.enters
  len := h.len
  call w ρ vals hR hl hv := (h.call w ρ vals hR hl hv).mono fun _ _ ⟨v, ρ', h1, h2, h3⟩ => ⟨v, ρ', h1, hs _ _ _ _ _ h2, h3⟩

/-! ### Lists of numbers -/
def fOf : AV → Nat
  | .f _ x => x .u
  | _ => 0
def rdF (g : Th Nat → Nat → AV) : Nat → Nat := fun i => fOf (g (fun _ => i) 0)
def IsF (n : Th Nat) (g : Th Nat → Nat → AV) : Prop := n .u ≤ 9223372036854775807 ∧ ∀ i, i < n .u → ∃ y, g (fun _ => i) 0 = .f .f32 y
theorem Sub.listF {fr : Bool} {n : Th Nat} {g : Th Nat → Nat → AV} (h : IsF n g) : Sub (unfr (.ro fr n 1 g)) (.ro false n 1 fun i _ => .f .f32 fun _ => rdF g (i .u)) := by
  intro w ρ N L v hs
  simp only [unfr] at hs
  cases hs with
  | ro0 h0 => exact .ro0 h0
  | ro u hn hq hc hsim =>
    refine .ro u hn hq hc fun i c hi hcc => ?_
    obtain rfl : c = 0 := by omega
    obtain ⟨y, hy⟩ := h.2 i hi
    have := hsim i 0 hi (by omega)
    simp only [hy, unfr] at this
    simp only [rdF, hy, fOf]
    exact this

/-- A list that is read, nil or not. -/
def asL : AV → Option (Th Nat × (Th Nat → Nat → AV))
  | .ro _ n 1 g => some (n, g)
  | .v (.slice none 0 0) => some (fun _ => 0, fun _ _ => .dead)
  | _ => none
theorem Sub.asL {a : AV} {n : Th Nat} {g : Th Nat → Nat → AV} (h : asL a = some (n, g)) (hF : IsF n g) : Sub (unfr a) (.ro false n 1 fun i _ => .f .f32 fun _ => rdF g (i .u)) := by
  unfold Aw.asL at h
  split at h <;> cases h
  · exact .listF hF
  · intro w ρ N L v hs
    simp only [unfr] at hs
    cases hs.v_inv
    exact .ro0 rfl

/-! ### Lists of lists of numbers -/
def asLL : AV → Option (Th Nat × (Th Nat → Nat → AV))
  | .ro _ n 1 g => some (n, g)
  | .v (.slice none 0 0) => some (fun _ => 0, fun _ _ => .dead)
  | _ => none
/-- How long row i is, and its numbers. -/
def rowN (g : Th Nat → Nat → AV) (i : Nat) : Nat := match asL (g (fun _ => i) 0) with
  | some (k, _) => k .u
  | none => 0
def rowX (g : Th Nat → Nat → AV) (i : Nat) : Nat → Nat := match asL (g (fun _ => i) 0) with
  | some (_, h) => rdF h
  | none => fun _ => 0
def IsFF (n : Th Nat) (g : Th Nat → Nat → AV) : Prop := n .u ≤ 9223372036854775807 ∧ ∀ i, i < n .u → ∃ k h, asL (g (fun _ => i) 0) = some (k, h) ∧ IsF k h
theorem IsFF.row {n : Th Nat} {g : Th Nat → Nat → AV} (h : IsFF n g) {i : Nat} (hi : i < n .u) : rowN g i ≤ 9223372036854775807 := by
  obtain ⟨k, h', hk, hkF⟩ := h.2 i hi
  simp only [rowN, hk]
  exact hkF.1
theorem isFF_ll {n : Th Nat} {fr : Bool} {k : Th Nat → Nat → Th Nat} {x : Th Nat → Nat → Th Nat → Nat → Th Nat} : IsFF n (fun i c => .ro fr (k i c) 1 fun j c' => .f .f32 (x i c j c')) ↔ n .u ≤ 9223372036854775807 ∧ ∀ i, i < n .u → (k (fun _ => i) 0) .u ≤ 9223372036854775807 :=
  ⟨fun h => ⟨h.1, fun i hi => by
    obtain ⟨k', h', hk, hkF⟩ := h.2 i hi
    simp only [asL, Option.some.injEq, Prod.mk.injEq] at hk
    obtain ⟨rfl, rfl⟩ := hk
    exact hkF.1⟩, fun h => ⟨h.1, fun i hi => ⟨_, _, rfl, h.2 i hi, fun j hj => ⟨_, rfl⟩⟩⟩⟩
theorem rowN_ll {fr : Bool} {k : Th Nat → Nat → Th Nat} {x : Th Nat → Nat → Th Nat → Nat → AV} : rowN (fun i c => .ro fr (k i c) 1 fun j c' => x i c j c') = fun i => (k (fun _ => i) 0) .u := rfl
theorem rowX_ll {fr : Bool} {k : Th Nat → Nat → Th Nat} {x : Th Nat → Nat → Th Nat → Nat → Th Nat} : rowX (fun i c => .ro fr (k i c) 1 fun j c' => .f .f32 (x i c j c')) = fun i j => (x (fun _ => i) 0 (fun _ => j) 0) .u := rfl
abbrev listFF (fr : Bool) (n : Th Nat) (m : Nat → Nat) (x : Nat → Nat → Nat) : AV := .ro fr n 1 fun i _ => .ro fr (fun _ => m (i .u)) 1 fun j _ => .f .f32 fun _ => x (i .u) (j .u)
theorem Sub.asLL {a : AV} {n : Th Nat} {g : Th Nat → Nat → AV} (h : Aw.asLL a = some (n, g)) (hF : IsFF n g) : Sub (unfr a) (listFF false n (rowN g) (rowX g)) := by
  unfold Aw.asLL at h
  split at h <;> cases h
  · intro w ρ N L v hs
    simp only [unfr] at hs
    cases hs with
    | ro0 h0 => exact .ro0 h0
    | ro u hn hq hc hsim =>
      refine .ro u hn hq hc fun i c hi hcc => ?_
      obtain rfl : c = 0 := by omega
      obtain ⟨k, h, hk, hkF⟩ := hF.2 i hi
      have := Sub.asL hk hkF _ _ _ _ _ (hsim i 0 hi (by omega))
      have e1 : rowN g i = k .u := by simp only [rowN, hk]
      have e2 : rowX g i = rdF h := by simp only [rowX, hk]
      simp only [e1, e2]
      exact this
  · intro w ρ N L v hs
    simp only [unfr] at hs
    cases hs.v_inv
    exact .ro0 rfl

/-! ### Contracts by cases -/
theorem AnsOk.pre {P : Program} {f : FuncId} {args args' : List AV} {Hc : Heap} (hs : AllSub args args') : ∀ {a : Ans}, AnsOk P f args' Hc a → AnsOk P f args Hc a := by
  intro a
  induction a with
  | one r H' p => exact fun h hp => ⟨(h hp).1, (h hp).2.1, (h hp).2.2.pre hs⟩
  | two b y n ih1 ih2 => exact fun h => ⟨fun hb => ih1 (h.1 hb), fun hb => ih2 (h.2 hb)⟩
/-- Two answers, by whether something holds. -/
def okA (tt : TT) (fn : Func) (b : Th Bool) (r1 : AV) (H1 : Heap) (r2 : AV) (H2 : Heap) (N0 : Nat) (x : Exit) (e : List AV) (h : Heap) : Prop :=
  (b .u = true → finA tt fn r1 H1 N0 x e h) ∧ (b .u = false → finA tt fn r2 H2 N0 x e h)
theorem AnsOk.two {P : Program} {tt : TT} (htt : TTok P tt) {f : FuncId} {fn : Func} {c : Code} {args : List AV} {Hc H1 H2 : Heap} {r1 r2 : AV} {b : Th Bool} {p : Th Prop} (hf : P.funcs[f]? = some fn) (hb : fn.body = some c) (hn : (fn.name == "runtime.NumGoroutine") = false)
    (hl1 : Hc.length ≤ H1.length) (hl2 : Hc.length ≤ H2.length) (a1 : AllFr r1) (a2 : AllFr r2) (f1 : FrH H1) (f2 : FrH H2)
    (h : p .u → ∃ args', AllSub args args' ∧ AW P Hc.length c (okA tt fn b r1 H1 r2 H2 Hc.length) (args' ++ List.replicate (fn.ntmps - args'.length) .dead) Hc) : AnsOk P f args Hc (.two b (.one r1 H1 p) (.one r2 H2 p)) :=
  ⟨fun hb' hp => let ⟨_, hs, hw⟩ := h hp; ⟨a1, f1, Con.pre hs (Con.of htt hf hb hn hl1 (AW.mono hw fun _ _ _ hq => hq.1 hb'))⟩, fun hb' hp => let ⟨_, hs, hw⟩ := h hp; ⟨a2, f2, Con.pre hs (Con.of htt hf hb hn hl2 (AW.mono hw fun _ _ _ hq => hq.2 hb'))⟩⟩
theorem okA.yes {tt : TT} {fn : Func} {b : Th Bool} {r1 r2 : AV} {H1 H2 : Heap} {N0 : Nat} {x : Exit} {e : List AV} {h : Heap} (hb : b .u = true) (hq : finA tt fn r1 H1 N0 x e h) : okA tt fn b r1 H1 r2 H2 N0 x e h := ⟨fun _ => hq, fun h0 => (by rw [hb] at h0; cases h0)⟩
theorem okA.no {tt : TT} {fn : Func} {b : Th Bool} {r1 r2 : AV} {H1 H2 : Heap} {N0 : Nat} {x : Exit} {e : List AV} {h : Heap} (hb : b .u = false) (hq : finA tt fn r2 H2 N0 x e h) : okA tt fn b r1 H1 r2 H2 N0 x e h := ⟨fun h0 => (by rw [hb] at h0; cases h0), fun _ => hq⟩
theorem AnsOk.one {P : Program} {tt : TT} (htt : TTok P tt) {f : FuncId} {fn : Func} {c : Code} {args : List AV} {Hc H1 : Heap} {r1 : AV} {p : Th Prop} (hf : P.funcs[f]? = some fn) (hb : fn.body = some c) (hn : (fn.name == "runtime.NumGoroutine") = false)
    (hl1 : Hc.length ≤ H1.length) (a1 : AllFr r1) (f1 : FrH H1)
    (h : p .u → ∃ args', AllSub args args' ∧ AW P Hc.length c (finA tt fn r1 H1 Hc.length) (args' ++ List.replicate (fn.ntmps - args'.length) .dead) Hc) : AnsOk P f args Hc (.one r1 H1 p) :=
  fun hp => let ⟨_, hs, hw⟩ := h hp; ⟨a1, f1, Con.pre hs (Con.of htt hf hb hn hl1 hw)⟩
/-- A list that is read, as a function by cases sees it. -/
def asLg : AV → Option (Th Nat × (Th Nat → Nat → AV))
  | .ro false n 1 g => some (n, g)
  | .v (.slice none 0 0) => some (fun _ => 0, fun _ _ => .dead)
  | _ => none
theorem Sub.asLg {a : AV} {n : Th Nat} {g : Th Nat → Nat → AV} (h : Aw.asLg a = some (n, g)) (hF : IsF n g) : Sub a (.ro false n 1 fun i _ => .f .f32 fun _ => rdF g (i .u)) := by
  unfold Aw.asLg at h
  split at h <;> cases h
  · intro w ρ N L v hs
    cases hs with
    | ro0 h0 => exact .ro0 h0
    | ro u hn hq hc hsim =>
      refine .ro u hn hq hc fun i c hi hcc => ?_
      obtain rfl : c = 0 := by omega
      obtain ⟨y, hy⟩ := hF.2 i hi
      have := hsim i 0 hi (by omega)
      simp only [hy] at this
      simp only [rdF, hy, fOf]
      exact this
  · intro w ρ N L v hs
    cases hs.v_inv
    exact .ro0 rfl

/-! ### Loops whose end is out of sight -/
inductive Held (p : Prop) : Prop
  | mk : p → Held p
theorem AW.loopH {P : Program} {N0 : Nat} {c : Code} {Q : Exit → List AV → Heap → Prop} {env : List AV} {H : Heap} {ι : Type} (J : ι → Prop) (m : ι → Nat) (E : ι → List AV) (F : ι → Heap) (x0 : ι) (hJ : J x0) (h0 : To N0 env H (E x0) (F x0))
    (round : ∀ Q', Held (Q' = Q) → ∀ x, J x → AW P N0 c (thenA (fun e h => ∃ y, J y ∧ m y < m x ∧ To N0 e h (E y) (F y)) Q') (E x) (F x)) : AW P N0 (.loop c) Q env H :=
  AW.loopTo J m E F x0 hJ h0 (round Q ⟨rfl⟩)

/-! ### One of two answers, where it is known which -/
def pickA (w : Bool) : Ans → Option Ans
  | .two b (.one r H p) (.one r' H' p') => match w with
    | true => some (.one r H fun _ => b .u = true ∧ p .u)
    | false => some (.one r' H' fun _ => b .u = false ∧ p' .u)
  | _ => none
def pickK (w : Bool) (k : Kg) : Kg := fun args Hc => match k args Hc with
  | some a => pickA w a
  | none => none
theorem pick_tells {P : Program} {f : FuncId} {t : Nat} {k : Kg} (w : Bool) (h : Tells P f (.g t k)) : Tells P f (.g t (pickK w k)) := by
  intro args Hc a ha
  unfold pickK at ha
  split at ha <;> first | (cases ha; done) | skip
  rename_i a' hk
  have := h args Hc a' hk
  unfold pickA at ha
  split at ha <;> first | (cases ha; done) | skip
  split at ha <;> cases ha
  · exact fun hp => this.1 hp.1 hp.2
  · exact fun hp => this.2 hp.1 hp.2

/-! ### Ends -/
theorem fin_ret {tt : TT} {fn : Func} {res r : AV} {Hc' H : Heap} {env : List AV} {x : Exit} {p : Th Prop} {N0 : Nat} (hx : x = .ret ∨ x = .normal) (hr : aresults tt H env fn.results.toList = some (r, p)) (hp : p .u) (h : To N0 [r] H [res] Hc') : finA tt fn res Hc' N0 x env H := by
  obtain ⟨σ, h1, h2, h3, h4⟩ := h
  rcases hx with rfl | rfl <;> exact ⟨r, p, σ, hr, hp, h1, h2.1, h4⟩
theorem To.fresh {env env' : List AV} {H : Heap} (h : AllTo H [] [] true env env') : To 0 env H env' [] :=
  ⟨[], ⟨fun j fr B h => by simp at h, fun j j' id h => by simp [live] at h⟩, h, Nat.le_refl _, fun j hj => absurd hj (Nat.not_lt_zero _)⟩
theorem AllTo.nil {H H' : Heap} {σ : List Nat} {keep : Bool} : AllTo H H' σ keep [] [] := trivial
theorem AllTo.cons {H H' : Heap} {σ : List Nat} {keep : Bool} {a a' : AV} {l l' : List AV} (h : AvTo H H' σ keep a a') (hs : AllTo H H' σ keep l l') : AllTo H H' σ keep (a :: l) (a' :: l') := ⟨h, hs⟩
theorem allTo_same {H H' : Heap} {σ : List Nat} {l : List AV} (h : ∀ a ∈ l, AvTo H H' σ true a a) : AllTo H H' σ true l l := by
  induction l with
  | nil => trivial
  | cons a l ih => exact ⟨h a (by simp), ih fun x hx => h x (by simp [hx])⟩
theorem Free.same {H H' : Heap} {σ : List Nat} {a : AV} (h : Free a) : AvTo H H' σ true a a := by
  induction h with
  | v => exact .v _
  | i => exact .i rfl
  | b => exact .b rfl
  | s => exact .s rfl
  | f => exact .f rfl
  | c => exact .c rfl rfl
  | ro _ ih => exact .ro rfl .same fun i c hi hc => ih i c hi hc
  | rptr _ ih => exact .rptr .same fun c hc => ih c hc
  | agg _ ih => exact .agg (allTo_same ih)
  | tup _ ih => exact .tup (allTo_same ih)
  | fn _ _ ih1 ih2 => exact .fn (allTo_same ih1) (allTo_same ih2)
  | ifc => exact .ifc
  | on _ ih => exact .on rfl ih
  | dead => exact .dead _
theorem Free.listF {fr : Bool} {n : Th Nat} {x : Th Nat → Nat → Th Nat} : Free (.ro fr n 1 fun i c => .f .f32 (x i c)) := .ro fun _ _ _ _ => .f
/-- Temporaries: those that are told, all others not. -/
def mkE (n : Nat) (l : List (Nat × AV)) : List AV := l.foldl (fun e p => e.set p.1 p.2) (List.replicate n .dead)
theorem rdF_eq (g : Th Nat → Nat → AV) : rdF g = fun i => fOf (g (fun _ => i) 0) := rfl
theorem free_list {fr : Bool} {n : Th Nat} {k : FloatKind} {x : Th Nat → Nat → Th Nat} : Free (.ro fr n 1 fun i c => .f k (x i c)) ↔ True := iff_true_intro (.ro fun _ _ _ _ => .f)
theorem free_fn0 {f : Fn} : Free (.fn f [] []) ↔ True := iff_true_intro (.fn (by simp) (by simp))
theorem free_i {k : IntKind} {n : Th Int} : Free (.i k n) ↔ True := iff_true_intro .i
theorem free_f {k : FloatKind} {n : Th Nat} : Free (.f k n) ↔ True := iff_true_intro .f
theorem free_b {n : Th Bool} : Free (.b n) ↔ True := iff_true_intro .b
theorem false_imp {p : Prop} : (False → p) ↔ True := iff_true_intro False.elim
theorem ren_f {m : Nat → Nat} {k : FloatKind} {x : Th Nat} : ren m (.f k x) = .f k x := by simp only [ren]
theorem ren_i {m : Nat → Nat} {k : IntKind} {x : Th Int} : ren m (.i k x) = .i k x := by simp only [ren]
theorem ren_b {m : Nat → Nat} {x : Th Bool} : ren m (.b x) = .b x := by simp only [ren]
theorem ren_c {m : Nat → Nat} {k : FloatKind} {x y : Th Nat} : ren m (.c k x y) = .c k x y := by simp only [ren]
theorem ren_s {m : Nat → Nat} {x : Th ByteArray} : ren m (.s x) = .s x := by simp only [ren]
theorem unfr_f {k : FloatKind} {x : Th Nat} : unfr (.f k x) = .f k x := by simp only [unfr]
theorem unfr_i {k : IntKind} {x : Th Int} : unfr (.i k x) = .i k x := by simp only [unfr]
theorem unfr_b {x : Th Bool} : unfr (.b x) = .b x := by simp only [unfr]
theorem unfr_c {k : FloatKind} {x y : Th Nat} : unfr (.c k x y) = .c k x y := by simp only [unfr]
theorem unfr_s {x : Th ByteArray} : unfr (.s x) = .s x := by simp only [unfr]
theorem kill_f {k : FloatKind} {x : Th Nat} : kill (.f k x) = .f k x := by simp only [kill]
theorem kill_i {k : IntKind} {x : Th Int} : kill (.i k x) = .i k x := by simp only [kill]
theorem kill_b {x : Th Bool} : kill (.b x) = .b x := by simp only [kill]
theorem kill_c {k : FloatKind} {x y : Th Nat} : kill (.c k x y) = .c k x y := by simp only [kill]
theorem kill_s {x : Th ByteArray} : kill (.s x) = .s x := by simp only [kill]
theorem kill_rof {n : Th Nat} {sz : Nat} {g : Th Nat → Nat → AV} : kill (.ro false n sz g) = .ro false n sz fun i c => kill (g i c) := by simp only [kill]
theorem kill_rot {n : Th Nat} {sz : Nat} {g : Th Nat → Nat → AV} : kill (.ro true n sz g) = .ro true n sz fun _ _ => .dead := by simp only [kill]
theorem free_c {k : FloatKind} {x y : Th Nat} : Free (.c k x y) ↔ True := iff_true_intro .c
theorem free_s {x : Th ByteArray} : Free (.s x) ↔ True := iff_true_intro .s
theorem unfr_ro {fr : Bool} {n : Th Nat} {sz : Nat} {g : Th Nat → Nat → AV} : unfr (.ro fr n sz g) = .ro false n sz fun i c => unfr (g i c) := by simp only [unfr]
theorem unfr_rptr {fr : Bool} {m : Nat} {g : Nat → AV} : unfr (.rptr fr m g) = .rptr false m fun c => unfr (g c) := by simp only [unfr]
theorem ren_ro {m : Nat → Nat} {fr : Bool} {n : Th Nat} {sz : Nat} {g : Th Nat → Nat → AV} : ren m (.ro fr n sz g) = .ro fr n sz fun i c => ren m (g i c) := by simp only [ren]
theorem free_ll {fr fr' : Bool} {n : Th Nat} {k : Th Nat → Nat → Th Nat} {kf : FloatKind} {x : Th Nat → Nat → Th Nat → Nat → Th Nat} : Free (.ro fr n 1 fun i c => .ro fr' (k i c) 1 fun j c' => .f kf (x i c j c')) ↔ True := iff_true_intro (.ro fun _ _ _ _ => .ro fun _ _ _ _ => .f)
theorem free_box {fr fr' fr'' : Bool} {m : Nat} {n : Nat → Th Nat} {k : Nat → Th Nat → Nat → Th Nat} {kf : FloatKind} {x : Nat → Th Nat → Nat → Th Nat → Nat → Th Nat} : Free (.rptr fr m fun q => .ro fr' (n q) 1 fun i c => .ro fr'' (k q i c) 1 fun j c' => .f kf (x q i c j c')) ↔ True := iff_true_intro (.rptr fun _ _ => .ro fun _ _ _ _ => .ro fun _ _ _ _ => .f)
theorem Sub.fn1 {f : Fn} {a a' : AV} (h : Sub (unfr a) a') : Sub (unfr (.fn f [] [a])) (.fn f [] [a']) := by
  intro w ρ N L v hs
  simp only [unfr, unfrL] at hs
  cases hs with
  | fn h1 h2 h3 h4 =>
    refine .fn h1 h2 h3 fun j b u hb hu => ?_
    match j, hb with
    | 0, hb => cases hb; exact h _ _ _ _ _ (h4 0 _ u rfl hu)
    | j + 1, hb => simp at hb
theorem allFr_tup2 {a b : AV} (ha : AllFr a) (hb : AllFr b) : AllFr (.tup [a, b]) := .tup fun x hx => by
  simp only [List.mem_cons, List.not_mem_nil, or_false] at hx
  rcases hx with rfl | rfl
  · exact ha
  · exact hb
theorem FrH.list {fr : Bool} {n : Th Nat} {k : FloatKind} {x : Th Nat → Nat → Th Nat} : FrH [some (fr, .tab n 1 fun i c => .f k (x i c))] := .cons (fun fr B e => by cases e; exact .tab fun _ _ _ _ => .f) .nil
/-- A list of one's own told anew, in the one block. -/
theorem To.list {N0 : Nat} {env env' : List AV} {n n' : Th Nat} {fr fr' : Bool} {g g' : Th Nat → Nat → AV} (hN : N0 ≤ 1) (hn : n' .u ≤ n .u) (hf : fr' = true → fr = true)
    (hg : ∀ j, j < n' .u → AvTo [some (fr, .tab n 1 g)] [some (fr', .tab n' 1 g')] [0] true (g (fun _ => j) 0) (g' (fun _ => j) 0)) (h : AllTo [some (fr, .tab n 1 g)] [some (fr', .tab n' 1 g')] [0] true env env') : To N0 env [some (fr, .tab n 1 g)] env' [some (fr', .tab n' 1 g')] :=
  To.same hN ⟨⟨hf, .tab hn fun j c hj hc => by obtain rfl : c = 0 := by omega
                                               exact hg j hj⟩, trivial⟩ h
/-- One block goes on under the first name, all else is left. -/
theorem To.moved {env env' : List AV} {H : Heap} {k : Nat} {n n' : Th Nat} {fr fr' : Bool} {g g' : Th Nat → Nat → AV} (hk : H[k]? = some (some (fr, .tab n 1 g))) (hn : n' .u ≤ n .u) (hf : fr' = true → fr = true)
    (hg : ∀ j, j < n' .u → AvTo H [some (fr', .tab n' 1 g')] [k] true (g (fun _ => j) 0) (g' (fun _ => j) 0)) (h : AllTo H [some (fr', .tab n' 1 g')] [k] true env env') : To 0 env H env' [some (fr', .tab n' 1 g')] := by
  refine ⟨[k], ⟨fun j fr0 B' hj => ?_, fun j j' id l1 l2 _ _ => ?_⟩, h, Nat.zero_le _, fun j hj => absurd hj (Nat.not_lt_zero _)⟩
  · match j, hj with
    | 0, hj =>
      cases hj
      refine ⟨k, fr, _, rfl, hk, fun e => ⟨hf e, rfl⟩, .tab hn fun j c hj hc => ?_⟩
      obtain rfl : c = 0 := by omega
      exact hg j hj
    | j + 1, hj => simp at hj
  · have h1 := live_lt l1
    have h2 := live_lt l2
    simp at h1 h2
    omega
/-- Some blocks go on under new names, all else is left. -/
def PickTo (H H' : Heap) (σ0 : List Nat) : List Nat → Heap → Prop
  | _, [] => True
  | id :: σ, e' :: l' => (match H[id]? with
    | some e => EntTo H H' σ0 e e'
    | none => False) ∧ PickTo H H' σ0 σ l'
  | [], _ :: _ => False
theorem PickTo.at_ {H H' : Heap} {σ0 : List Nat} : ∀ {σ : List Nat} {l' : Heap}, PickTo H H' σ0 σ l' → ∀ (j : Nat) (fr : Bool) (B' : Blk), l'[j]? = some (some (fr, B')) → ∃ id fr0 B, σ[j]? = some id ∧ H[id]? = some (some (fr0, B)) ∧ (fr = true → fr0 = true) ∧ BlkTo H H' σ0 true B B' := by
  intro σ
  induction σ with
  | nil =>
    intro l' h j fr B' hj
    cases l' with
    | nil => simp at hj
    | cons e l' => exact h.elim
  | cons id σ ih =>
    intro l' h j fr B' hj
    cases l' with
    | nil => simp at hj
    | cons e' l' =>
      obtain ⟨h1, h2⟩ := h
      cases j with
      | zero =>
        simp only [List.getElem?_cons_zero, Option.some.injEq] at hj
        subst hj
        split at h1
        · rename_i e he
          match e, h1 with
          | some (fr0, B), h1 => exact ⟨id, fr0, B, rfl, he, h1.1, h1.2⟩
        · exact h1.elim
      | succ j => simpa using ih h2 j fr B' (by simpa using hj)
theorem To.pick {N0 : Nat} {env env' : List AV} {H H' : Heap} (σ : List Nat) (hn : σ.Nodup) (hN : N0 ≤ H'.length) (h0 : ∀ j, j < N0 → σ[j]? = some j) (hH : PickTo H H' σ σ H') (h : AllTo H H' σ true env env') : To N0 env H env' H' := by
  refine ⟨σ, ⟨fun j fr B' hj => ?_, fun j j' id l1 l2 e1 e2 => ?_⟩, h, hN, fun j hj _ => h0 j hj⟩
  · obtain ⟨id, fr0, B, k1, k2, k3, k4⟩ := hH.at_ j fr B' hj
    exact ⟨id, fr0, B, k1, k2, fun e => ⟨k3 e, rfl⟩, k4⟩
  · have l1 := (List.getElem?_eq_some_iff.1 e1).1
    have l2 := (List.getElem?_eq_some_iff.1 e2).1
    exact (List.getElem_inj hn (h₀ := l1) (h₁ := l2)).1 ((List.getElem?_eq_some_iff.1 e1).2.trans (List.getElem?_eq_some_iff.1 e2).2.symm)
/-- A list of numbers, entry by entry. -/
theorem EntTo.list {H H' : Heap} {σ : List Nat} {fr fr' : Bool} {n n' : Th Nat} {g g' : Th Nat → Nat → AV} (hf : fr' = true → fr = true) (hn : n' .u ≤ n .u) (h : ∀ j, j < n' .u → AvTo H H' σ true (g (fun _ => j) 0) (g' (fun _ => j) 0)) :
    EntTo H H' σ (some (fr, .tab n 1 g)) (some (fr', .tab n' 1 g')) := ⟨hf, .tab hn fun j c hj hc => by
  obtain rfl : c = 0 := by omega
  exact h j hj⟩
/-- One more behind a list, or a list behind a list. -/
theorem app_any {H H' : Heap} {σ : List Nat} {keep : Bool} {q : Th Nat} {j : Nat} {g g2 : Th Nat → Nat → AV} {b : AV} (h1 : j < q .u → AvTo H H' σ keep (g (fun _ => j) 0) b) (h2 : q .u ≤ j → AvTo H H' σ keep (g2 (fun _ => j - q .u) 0) b) :
    AvTo H H' σ keep (aapp q g g2 (fun _ => j) 0) b := by
  unfold aapp
  by_cases h : j < q .u
  · simp only [h, if_true]; exact h1 h
  · simp only [h, if_false]; exact h2 (by omega)
/-- A writer's one block, told as a list of numbers from the first step on. -/
theorem AW.toM {P : Program} {c : Code} {Q : Exit → List AV → Heap → Prop} {env env' : List AV} {m : Th Nat} {g : Th Nat → Nat → AV} (hF : IsF m g)
    (henv : AllTo [some (false, unfrB (.tab m 1 g))] [some (false, .tab m 1 fun i _ => .f .f32 fun _ => rdF g (i .u))] [0] true env env')
    (h : AW P 1 c Q env' [some (false, .tab m 1 fun i _ => .f .f32 fun _ => rdF g (i .u))]) : AW P 1 c Q env [some (false, unfrB (.tab m 1 g))] := by
  obtain ⟨σ, h1, h2, h3, h4⟩ := To.same (N0 := 1) (H := [some (false, unfrB (.tab m 1 g))]) (H' := [some (false, .tab m 1 fun i _ => .f .f32 fun _ => rdF g (i .u))]) (Nat.le_refl _) ⟨⟨fun e => e, .tab (Nat.le_refl _) fun j c hj hc => by
    obtain rfl : c = 0 := by omega
    obtain ⟨y, hy⟩ := hF.2 j hj
    simp only [hy, unfr]
    exact AvTo.f (by simp [rdF, fOf, hy])⟩, trivial⟩ henv
  exact AW.to σ h1 h2 h3 h4 h
/-- One block that is handed over, told as a list of numbers from the first step on. -/
theorem AW.toG {P : Program} {c : Code} {Q : Exit → List AV → Heap → Prop} {env env' : List AV} {m : Th Nat} {fr : Bool} {g : Th Nat → Nat → AV} (hF : IsF m g)
    (henv : AllTo [some (fr, .tab m 1 g)] [some (false, .tab m 1 fun i _ => .f .f32 fun _ => rdF g (i .u))] [0] true env env')
    (h : AW P 1 c Q env' [some (false, .tab m 1 fun i _ => .f .f32 fun _ => rdF g (i .u))]) : AW P 1 c Q env [some (fr, .tab m 1 g)] := by
  obtain ⟨σ, h1, h2, h3, h4⟩ := To.same (N0 := 1) (H := [some (fr, .tab m 1 g)]) (H' := [some (false, .tab m 1 fun i _ => .f .f32 fun _ => rdF g (i .u))]) (Nat.le_refl _) ⟨⟨fun e => absurd e (by simp), .tab (Nat.le_refl _) fun j c hj hc => by
    obtain rfl : c = 0 := by omega
    obtain ⟨y, hy⟩ := hF.2 j hj
    simp only [hy]
    exact AvTo.f (by simp [rdF, fOf, hy])⟩, trivial⟩ henv
  exact AW.to σ h1 h2 h3 h4 h
theorem freeB_list {n : Th Nat} {k : FloatKind} {x : Th Nat → Nat → Th Nat} : FreeB (.tab n 1 fun i c => .f k (x i c)) ↔ True := iff_true_intro fun off a ha => by
  cases ha with | tab i c hi hc => exact .f
/-- One more behind a list. -/
theorem app_one {H H' : Heap} {σ : List Nat} {keep : Bool} {q j : Nat} {g : Th Nat → Nat → AV} {a b : AV} (hj : j < q + 1) (h1 : j < q → AvTo H H' σ keep (g (fun _ => j) 0) b) (h2 : j = q → AvTo H H' σ keep a b) :
    AvTo H H' σ keep (aapp (fun _ => q) g (fun r c => [a].getD (r .u * 1 + c) .dead) (fun _ => j) 0) b := by
  unfold aapp
  by_cases h : j < q
  · simp only [h, if_true]
    exact h1 h
  · have e : j = q := by omega
    simp only [e, Nat.lt_irrefl, if_false, Nat.sub_self, Nat.zero_mul, Nat.add_zero, List.getD_cons_zero]
    exact h2 e
theorem canon0 : canon .f32 0 = 0 := by decide
theorem natCast_int (n : Nat) : (NatCast.natCast n : Int) = (n : Int) := rfl
theorem Post.leaf {P : Program} {N0 : Nat} {Q : Exit → List AV → Heap → Prop} {o : Out} {x : Exit} {e : List AV} {h : Heap} (he : o = .leaf x e h) (hq : Q x e h) : Post P N0 Q o := he ▸ hq
theorem canon064 : canon .f64 0 = 0 := by decide
theorem left_nil (σ : List Nat) (id : Nat) : Left [] σ id := fun j hj => by simp [live] at hj
end Go.Aw
