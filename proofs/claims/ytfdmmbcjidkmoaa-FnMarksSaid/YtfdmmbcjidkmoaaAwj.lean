/- One operation: what it makes of abstract values, and that the machine does just that. -/
/- Operations one after another: the evaluator and its soundness. -/
import Derived.Test.YtfdmmbcjidkmoaaAwh
namespace Go.Aw

def constAV : Value → AV
  | .float k b => .f k fun _ => canon k b
  | .complex k a b => .c k (fun _ => canon k a) fun _ => canon k b
  | .int k n => .i k fun _ => n
  | .bool p => .b fun _ => p
  | .string x => .s fun _ => x
  | v => if plain v then .v v else .dead
/-! The environment's places, sixteen at a step (the evaluator's cost is the walk along the list). -/
def lget : List AV → Nat → AV
  | a0 :: a1 :: a2 :: a3 :: a4 :: a5 :: a6 :: a7 :: a8 :: a9 :: a10 :: a11 :: a12 :: a13 :: a14 :: a15 :: l, n => match Nat.blt n 16 with
    | true => [a0, a1, a2, a3, a4, a5, a6, a7, a8, a9, a10, a11, a12, a13, a14, a15].getD n .dead
    | false => lget l (n - 16)
  | l, n => l.getD n .dead
def lset : List AV → Nat → AV → List AV
  | a0 :: a1 :: a2 :: a3 :: a4 :: a5 :: a6 :: a7 :: a8 :: a9 :: a10 :: a11 :: a12 :: a13 :: a14 :: a15 :: l, n, r => match Nat.blt n 16 with
    | true => [a0, a1, a2, a3, a4, a5, a6, a7, a8, a9, a10, a11, a12, a13, a14, a15].set n r ++ l
    | false => a0 :: a1 :: a2 :: a3 :: a4 :: a5 :: a6 :: a7 :: a8 :: a9 :: a10 :: a11 :: a12 :: a13 :: a14 :: a15 :: lset l (n - 16) r
  | l, n, r => l.set n r
theorem lget_eq (l : List AV) (n : Nat) : lget l n = l.getD n .dead := by
  fun_induction lget l n with
  | case1 a0 a1 a2 a3 a4 a5 a6 a7 a8 a9 a10 a11 a12 a13 a14 a15 l n h =>
    have h' : n < 16 := by simpa [Nat.blt_eq] using h
    rw [show a0 :: a1 :: a2 :: a3 :: a4 :: a5 :: a6 :: a7 :: a8 :: a9 :: a10 :: a11 :: a12 :: a13 :: a14 :: a15 :: l = [a0, a1, a2, a3, a4, a5, a6, a7, a8, a9, a10, a11, a12, a13, a14, a15] ++ l from rfl, List.getD_eq_getElem?_getD, List.getD_eq_getElem?_getD, List.getElem?_append_left (by simpa using h')]
  | case2 a0 a1 a2 a3 a4 a5 a6 a7 a8 a9 a10 a11 a12 a13 a14 a15 l n h ih =>
    have h' : 16 ≤ n := Nat.le_of_not_lt fun hlt => by
      rw [show Nat.blt n 16 = true from Nat.blt_eq ▸ hlt] at h
      cases h
    rw [ih, show a0 :: a1 :: a2 :: a3 :: a4 :: a5 :: a6 :: a7 :: a8 :: a9 :: a10 :: a11 :: a12 :: a13 :: a14 :: a15 :: l = [a0, a1, a2, a3, a4, a5, a6, a7, a8, a9, a10, a11, a12, a13, a14, a15] ++ l from rfl, List.getD_eq_getElem?_getD, List.getD_eq_getElem?_getD, List.getElem?_append_right (by simpa using h')]
    rfl
  | case3 => rfl
theorem lset_eq (l : List AV) (n : Nat) (r : AV) : lset l n r = l.set n r := by
  fun_induction lset l n r with
  | case1 a0 a1 a2 a3 a4 a5 a6 a7 a8 a9 a10 a11 a12 a13 a14 a15 l n r h =>
    have h' : n < 16 := by simpa [Nat.blt_eq] using h
    rw [show a0 :: a1 :: a2 :: a3 :: a4 :: a5 :: a6 :: a7 :: a8 :: a9 :: a10 :: a11 :: a12 :: a13 :: a14 :: a15 :: l = [a0, a1, a2, a3, a4, a5, a6, a7, a8, a9, a10, a11, a12, a13, a14, a15] ++ l from rfl, List.set_append_left _ _ (by simpa using h')]
  | case2 a0 a1 a2 a3 a4 a5 a6 a7 a8 a9 a10 a11 a12 a13 a14 a15 l n r h ih =>
    have h' : 16 ≤ n := Nat.le_of_not_lt fun hlt => by
      rw [show Nat.blt n 16 = true from Nat.blt_eq ▸ hlt] at h
      cases h
    rw [ih, show a0 :: a1 :: a2 :: a3 :: a4 :: a5 :: a6 :: a7 :: a8 :: a9 :: a10 :: a11 :: a12 :: a13 :: a14 :: a15 :: l = [a0, a1, a2, a3, a4, a5, a6, a7, a8, a9, a10, a11, a12, a13, a14, a15] ++ l from rfl, List.set_append_right _ _ (by simpa using h')]
    rfl
  | case3 => rfl
def aeval (env : List AV) : Operand → AV
  | .tmp t => lget env t
  | .const v => constAV v
  | .global _ => .dead
  | .func f => .fn (.func f) [] []
structure EnvRel (w : World) (ρ : Mp) (N L : Nat) (env : List AV) (tmps : Array Value) : Prop where
  len : env.length = tmps.size
  at_ : ∀ (t : Nat) (a : AV) (v : Value), env[t]? = some a → tmps[t]? = some v → Sim w ρ N L a v
theorem EnvRel.mono {w w' : World} {ρ ρ' : Mp} {N N' L : Nat} {env : List AV} {tmps : Array Value} (h : EnvRel w ρ N L env tmps) (k : Pass w ρ N w' ρ' N') (hL : L ≤ L) : EnvRel w' ρ' N' L env tmps :=
  ⟨h.len, fun t a v h1 h2 => (h.at_ t a v h1 h2).mono k hL⟩
def aput (env : List AV) (dst : Option Tmp) (r : AV) : List AV := match dst with | some d => lset env d r | none => env
theorem aput_eq (env : List AV) (dst : Option Tmp) (r : AV) : aput env dst r = match dst with | some d => env.set d r | none => env := by
  cases dst with
  | none => rfl
  | some d => exact lset_eq env d r
theorem EnvRel.put {w : World} {ρ : Mp} {N L : Nat} {env : List AV} {a : Act} {r : AV} {v : Value} (h : EnvRel w ρ N L env a.tmps) (hr : Sim w ρ N L r v) (dst : Option Tmp) : EnvRel w ρ N L (aput env dst r) (a.put dst v).tmps := by
  cases dst with
  | none => exact h
  | some d =>
    refine ⟨by simp [aput_eq, Act.put, h.len], fun t x y h1 h2 => ?_⟩
    simp only [aput_eq, Act.put] at h1 h2
    by_cases e : t = d
    · subst e
      have hlt := (List.getElem?_eq_some_iff.1 h1).1
      rw [List.length_set] at hlt
      rw [List.getElem?_set_self hlt] at h1
      rw [Array.getElem?_setIfInBounds_self_of_lt (by rw [← h.len]; exact hlt)] at h2
      cases h1; cases h2
      exact hr
    · rw [List.getElem?_set_ne (Ne.symm e)] at h1
      rw [Array.getElem?_setIfInBounds_ne (Ne.symm e)] at h2
      exact h.at_ t x y h1 h2
section
variable {P : Program} {w : World} {ρ : Mp} {L : Nat} {H : Heap}
theorem sim_const (v : Value) (N : Nat) : Sim w ρ N L (constAV v) v := by
  unfold constAV
  split
  · exact .f rfl
  · exact .c rfl rfl
  · exact .i
  · exact .b
  · exact .s
  · split
    · exact .v ‹_›
    · exact .dead
theorem aeval_sound {N : Nat} {env : List AV} {a : Act} (h : EnvRel w ρ N L env a.tmps) (x : Operand) : Sim w ρ N L (aeval env x) (a.eval x) := by
  cases x with
  | tmp t =>
    simp only [aeval, lget_eq, Act.eval]
    rw [List.getD_eq_getElem?_getD, Array.getD_eq_getD_getElem?]
    cases he : env[t]? with
    | none => exact .dead
    | some x =>
      have hlt := (List.getElem?_eq_some_iff.1 he).1
      have hv : a.tmps[t]? = some (a.tmps[t]'(by rw [← h.len]; exact hlt)) := Array.getElem?_eq_getElem _
      rw [hv]
      exact h.at_ t x _ he hv
  | const v => exact sim_const v N
  | global g => exact .dead
  | func f => exact .fn (by simp) (fun j a u h => by simp at h) (by simp) (fun j a u h => by simp at h)

/-! ### Small operations -/
def aun (op : UnOp) (x : AV) : Option (AV × Th Prop) :=
  match op, x with
  | .not, .b p => some (.b fun _ => !p .u, fun _ => True)
  | .neg, .f k x => some (.f k fun _ => fneg k (x .u), fun _ => True)
  | .neg, .c k x y => some (.c k (fun _ => fneg k (x .u)) fun _ => fneg k (y .u), fun _ => True)
  | .neg, .i k n => aint .sub k (fun _ => 0) n
  | _, _ => none
theorem gives_un {op : UnOp} {x r : AV} {p : Th Prop} {u : Value} (h : Rel w ρ L H) (hr : aun op x = some (r, p)) (hp : p .u) (hx : Sim w ρ H.length L x u) : Gives P (Op.unary op u) w ρ L H r H := by
  unfold aun at hr
  split at hr
  · rename_i p'
    cases hr; cases hx.b_inv
    exact gives_pure h (v := .bool (!p' .u)) (by simp [Op.unary]) .b
  · cases hr; obtain ⟨b, rfl, hb⟩ := hx.f_inv; exact gives_pure h (v := .float _ (Op.negFloat _ b)) (by simp [Op.unary]) (.f ((canon_neg _ _).trans (by rw [hb])))
  · cases hr; obtain ⟨a, b, rfl, ha, hb⟩ := hx.c_inv; exact gives_pure h (v := .complex _ (Op.negFloat _ a) (Op.negFloat _ b)) (by simp [Op.unary]) (.c ((canon_neg _ _).trans (by rw [ha])) ((canon_neg _ _).trans (by rw [hb])))
  · rename_i k n
    cases hx.i_inv
    have := gives_int (P := P) (t := 0) h hr hp
    have e : Op.unary .neg (.int k (n .u)) = binOp .sub 0 (.int k 0) (.int k (n .u)) := by simp [Op.unary, binOp]
    rw [e]; exact this
  · cases hr
def isNilSlice : AV → Bool
  | .v (.slice none 0 0) => true
  | _ => false
/-- Is this slice surely not nil? -/
def notNil (H : Heap) : AV → Bool
  | .own id .. => live H id
  | _ => false
def abin (tt : TT) (H : Heap) (op : BinOp) (t : TypeId) (x y : AV) : Option (AV × Th Prop) :=
  match x, y with
  | .i k a, .i k' b => match op with
    | .shr => some (.i k fun _ => a .u / 2 ^ (b .u).toNat, fun _ => 0 ≤ b .u ∧ b .u ≤ (k.bits : Int))
    | .shl => some (.i k fun _ => k.wrap (a .u * 2 ^ (b .u).toNat), fun _ => 0 ≤ b .u ∧ b .u ≤ (k.bits : Int))
    | op => if k = k' then aint op k a b else none
  | .f k a, .f k' b => if k = k' then (match afl op k a b with
    | some r => some (r, fun _ => True)
    | none => none) else none
  | .b a, .b b => match tt.desc t with
    | .bool => match abool op a b with
      | some r => some (r, fun _ => True)
      | none => none
    | _ => none
  | .s a, .s b => astr op a b
  | .own id .., .v (.slice none 0 0) => match tt.desc t, op with
    | .slice _, .eql => if live H id then some (.b fun _ => false, fun _ => True) else none
    | .slice _, .neq => if live H id then some (.b fun _ => true, fun _ => True) else none
    | _, _ => none
  | .v (.slice none 0 0), .v (.slice none 0 0) => match tt.desc t, op with
    | .slice _, .eql => some (.b fun _ => true, fun _ => True)
    | .slice _, .neq => some (.b fun _ => false, fun _ => True)
    | _, _ => none
  | .ro _ n _ _, .v (.slice none 0 0) => match tt.desc t, op with
    | .slice _, .eql => some (.b fun _ => false, fun _ => 0 < n .u)
    | .slice _, .neq => some (.b fun _ => true, fun _ => 0 < n .u)
    | _, _ => none
  | .c k x y, .c k' x' y' => if k = k' then (match op with
    | .add => some (.c k (fun _ => fadd k (x .u) (x' .u)) fun _ => fadd k (y .u) (y' .u), fun _ => True)
    | .sub => some (.c k (fun _ => fsub k (x .u) (x' .u)) fun _ => fsub k (y .u) (y' .u), fun _ => True)
    | .eql => some (.b fun _ => feq k (x .u) (x' .u) && feq k (y .u) (y' .u), fun _ => True)
    | .neq => some (.b fun _ => !(feq k (x .u) (x' .u) && feq k (y .u) (y' .u)), fun _ => True)
    | _ => none) else none
  | .ifc, .v .nilIface => match tt.desc t, op with
    | .interface _, .eql => some (.b fun _ => false, fun _ => True)
    | .interface _, .neq => some (.b fun _ => true, fun _ => True)
    | _, _ => none
  | _, _ => none
theorem run_eql_slice (t e : TypeId) (a : Option Addr) (n c : Nat) (h : P.underlying t = some (.slice e)) : (binOp .eql t (.slice a n c) (.slice none 0 0)).run P w = .ok (.bool a.isNone) w := by
  have e0 : ∀ d, (Op.equalIn (d + 1) t (.slice a n c) (.slice none 0 0)).run P w = .ok a.isNone w := fun d => by
    cases a <;> simp [Op.equalIn, run_underlying h]
  have e1 : (Op.equal t (.slice a n c) (.slice none 0 0)).run P w = .ok a.isNone w := e0 9999
  simp only [binOp]; simp [e1]
theorem run_neq_slice (t e : TypeId) (a : Option Addr) (n c : Nat) (h : P.underlying t = some (.slice e)) : (binOp .neq t (.slice a n c) (.slice none 0 0)).run P w = .ok (.bool (!a.isNone)) w := by
  have e0 : ∀ d, (Op.equalIn (d + 1) t (.slice a n c) (.slice none 0 0)).run P w = .ok a.isNone w := fun d => by
    cases a <;> simp [Op.equalIn, run_underlying h]
  have e1 : (Op.equal t (.slice a n c) (.slice none 0 0)).run P w = .ok a.isNone w := e0 9999
  simp only [binOp]; simp [e1]
theorem run_ifc_nil (t u : TypeId) (v : Value) (ms : Array (String × TypeId)) (h : P.underlying t = some (.interface ms)) : (Op.equal t (.iface u v) .nilIface).run P w = .ok false w := by
  have e0 : ∀ d, (Op.equalIn (d + 1) t (.iface u v) .nilIface).run P w = .ok false w := fun d => by simp [Op.equalIn, run_underlying h]
  exact e0 9999
theorem gives_bin {tt : TT} (htt : TTok P tt) {op : BinOp} {t : TypeId} {x y r : AV} {p : Th Prop} {u v : Value} (h : Rel w ρ L H) (hr : abin tt H op t x y = some (r, p)) (hp : p .u)
    (hx : Sim w ρ H.length L x u) (hy : Sim w ρ H.length L y v) : Gives P (binOp op t u v) w ρ L H r H ∧ ∀ ox oy, (oy = .const .nilIface ∨ v ≠ .nilIface) → eqGuard op t ox oy u v = pure Unit.unit := by
  have g : ∀ u : Value, (u ≠ .nilIface ∧ ∀ a, u ≠ .agg a) → ∀ ox oy, eqGuard op t ox oy u v = pure Unit.unit := by
    intro u hu ox oy
    cases u <;> first | exact absurd rfl hu.1 | exact absurd rfl (hu.2 _) | (cases op <;> rfl)
  have cb : ∀ (z : Bool) (s : Sem Value), s.run P w = .ok (.bool z) w → Gives P s w ρ L H (.b fun _ => z) H := fun z s hs => gives_pure h hs (.b (p := fun _ => z))
  unfold abin at hr
  split at hr
  · rename_i k a k' b
    cases hx.i_inv; cases hy.i_inv
    split at hr
    · cases hr
      refine ⟨gives_pure h ?_ .i, fun ox oy _ => g _ (by simp) ox oy⟩
      show (Op.shift .shr k (a .u) k' (b .u)).run P w = _
      rw [shift_shr _ _ _ _ hp.1 hp.2]
      rfl
    · cases hr
      refine ⟨gives_pure h ?_ .i, fun ox oy _ => g _ (by simp) ox oy⟩
      show (Op.shift .shl k (a .u) k' (b .u)).run P w = _
      rw [shift_shl _ _ _ _ hp.1 hp.2]
      rfl
    split at hr <;> first | (cases hr; done) | skip
    rename_i e; subst e
    exact ⟨gives_int h hr hp, fun ox oy _ => g _ (by simp) ox oy⟩
  · rename_i k a k' b
    split at hr <;> first | (cases hr; done) | skip
    rename_i e; subst e
    split at hr <;> cases hr
    rename_i hr'
    have := gives_float (P := P) (t := t) h hr' hx hy
    obtain ⟨b, rfl, _⟩ := hx.f_inv
    exact ⟨this, fun ox oy _ => g _ (by simp) ox oy⟩
  · rename_i a b
    split at hr <;> first | (cases hr; done) | skip
    rename_i hd
    split at hr <;> cases hr
    rename_i hr'
    cases hx.b_inv; cases hy.b_inv
    exact ⟨gives_bool h (htt.desc hd (by simp)) hr', fun ox oy _ => g _ (by simp) ox oy⟩
  · cases hx.s_inv; cases hy.s_inv
    exact ⟨gives_str h hr hp, fun ox oy _ => g _ (by simp) ox oy⟩
  · rename_i id i n sz
    cases hy.v_inv
    have key : live H id = true → ∃ b off cap, u = .slice (some ⟨b, off, none⟩) (n .u) cap := by
      intro hl
      obtain ⟨blk, hb⟩ := live_at h hl
      cases hx with
      | own hid hv =>
      obtain ⟨off, cap, rfl, _⟩ := hv blk hb
      exact ⟨blk, off, cap, rfl⟩
    split at hr
    · rename_i e hd
      split at hr <;> cases hr
      rename_i hl
      obtain ⟨b, off, cap, rfl⟩ := key hl
      exact ⟨cb _ _ (run_eql_slice t e _ _ _ (htt.desc hd (by simp))), fun ox oy _ => g _ (by simp) ox oy⟩
    · rename_i e hd
      split at hr <;> cases hr
      rename_i hl
      obtain ⟨b, off, cap, rfl⟩ := key hl
      exact ⟨cb _ _ (run_neq_slice t e _ _ _ (htt.desc hd (by simp))), fun ox oy _ => g _ (by simp) ox oy⟩
    · cases hr
  · cases hx.v_inv; cases hy.v_inv
    split at hr
    · rename_i e hd; cases hr
      exact ⟨cb _ _ (run_eql_slice t e none 0 0 (htt.desc hd (by simp))), fun ox oy _ => g _ (by simp) ox oy⟩
    · rename_i e hd; cases hr
      exact ⟨cb _ _ (run_neq_slice t e none 0 0 (htt.desc hd (by simp))), fun ox oy _ => g _ (by simp) ox oy⟩
    · cases hr
  · rename_i fr n sz g
    cases hy.v_inv
    have key : 0 < n .u → ∃ b cap, u = .slice (some b) (n .u) cap := by
      intro hn
      cases hx with
      | ro0 h0 => omega
      | ro => exact ⟨_, _, rfl⟩
    split at hr
    · rename_i e hd
      cases hr
      obtain ⟨b, cap, rfl⟩ := key hp
      exact ⟨cb _ _ (run_eql_slice t e _ _ _ (htt.desc hd (by simp))), fun ox oy _ => g _ (by simp) ox oy⟩
    · rename_i e hd
      cases hr
      obtain ⟨b, cap, rfl⟩ := key hp
      exact ⟨cb _ _ (run_neq_slice t e _ _ _ (htt.desc hd (by simp))), fun ox oy _ => g _ (by simp) ox oy⟩
    · cases hr
  · rename_i k x1 y1 k' x2 y2
    split at hr <;> first | (cases hr; done) | skip
    rename_i e; subst e
    have cx : ∀ (o : BinOp) (z1 z2 : Th Nat), (o = .add ∨ o = .sub) → z1 .u = fbits o k (x1 .u) (x2 .u) → z2 .u = fbits o k (y1 .u) (y2 .u) → Gives P (binOp o t u v) w ρ L H (.c k z1 z2) H := by
      intro o z1 z2 ho e1 e2
      obtain ⟨a, b, rfl, ha, hb⟩ := hx.c_inv
      obtain ⟨a', b', rfl, ha', hb'⟩ := hy.c_inv
      have run : binOp o t (.complex k a b) (.complex k a' b') = (do pure (.complex k (← Op.Complex.arith o k a a') (← Op.Complex.arith o k b b'))) := by
        rcases ho with rfl | rfl <;> simp [binOp, Op.complexOp]
      have part : ∀ (w : World) (x y : Nat), ∃ r w', (Op.Complex.arith o k x y).run P w = .ok r w' ∧ canon k r = fbits o k (canon k x) (canon k y) ∧ w'.heap = w.heap ∧ w'.os = w.os ∧ w'.tape = w.tape ∧ w'.output = w.output := by
        intro w x y
        unfold fbits
        rw [floatBits_canon]
        cases hb : floatBits o k x y with
        | some r => exact ⟨r, w, by rcases ho with rfl | rfl <;> simp_all [Op.Complex.arith, Op.floatArith, floatBits], canon_of_not (isNaN_floatBits hb), rfl, rfl, rfl, rfl⟩
        | none => exact ⟨_, w.drew, by rcases ho with rfl | rfl <;> simp_all [Op.Complex.arith, Op.floatArith, floatBits, Question.forced] <;> rfl, canon_nan (isNaN_nanBits k x y (w.tape w.drawn (.nanBits k x y))), rfl, rfl, rfl, rfl⟩
      obtain ⟨r1, w1, q1, q2, q3, q4, q5, q6⟩ := part w a a'
      obtain ⟨r2, w2, s1, s2, s3, s4, s5, s6⟩ := part w1 b b'
      refine ⟨.complex k r1 r2, w2, ρ, by rw [run]; simp [q1, s1], h.same (s3.trans q3) (s4.trans q4) (s5.trans q5) (s6.trans q6), Pass.same _ _ (s3.trans q3) (s4.trans q4) (s5.trans q5) (s6.trans q6), .c ?_ ?_⟩
      · rw [q2, e1, ha, ha']
      · rw [s2, e2, hb, hb']
    have gc : ∀ ox oy, eqGuard op t ox oy u v = pure Unit.unit := by
      obtain ⟨a, b, rfl, ha, hb⟩ := hx.c_inv
      exact fun ox oy => g _ (by simp) ox oy
    have ce : ∀ (o : BinOp) (z : Th Bool), (o = .eql ∧ z .u = (feq k (x1 .u) (x2 .u) && feq k (y1 .u) (y2 .u))) ∨ (o = .neq ∧ z .u = !(feq k (x1 .u) (x2 .u) && feq k (y1 .u) (y2 .u))) → Gives P (binOp o t u v) w ρ L H (.b z) H := by
      intro o z ho
      obtain ⟨a, b, rfl, ha, hb⟩ := hx.c_inv
      obtain ⟨a', b', rfl, ha', hb'⟩ := hy.c_inv
      have part : ∀ p q : Nat, (Op.Complex.cmp .eql k p q).run P w = .ok (feq k p q) w := fun p q => by simp [Op.Complex.cmp, Op.floatCmp, feq, asBool]
      have e1 : feq k (x1 .u) (x2 .u) = feq k a a' := by unfold feq; rw [← ha, ← ha', order_canon]
      have e2 : feq k (y1 .u) (y2 .u) = feq k b b' := by unfold feq; rw [← hb, ← hb', order_canon]
      rw [e1, e2] at ho
      refine gives_pure h (v := .bool (z .u)) ?_ .b
      rcases ho with ⟨rfl, hz⟩ | ⟨rfl, hz⟩
      · rw [hz]; simp [binOp, Op.complexOp, part]
      · rw [hz]; simp [binOp, Op.complexOp, part]
    split at hr <;> cases hr
    · exact ⟨cx .add _ _ (.inl rfl) rfl rfl, fun ox oy _ => gc ox oy⟩
    · exact ⟨cx .sub _ _ (.inr rfl) rfl rfl, fun ox oy _ => gc ox oy⟩
    · exact ⟨ce .eql _ (.inl ⟨rfl, rfl⟩), fun ox oy _ => gc ox oy⟩
    · exact ⟨ce .neq _ (.inr ⟨rfl, rfl⟩), fun ox oy _ => gc ox oy⟩
  · cases hy.v_inv
    cases hx
    rename_i tu vu
    split at hr
    · rename_i ms hd; cases hr
      refine ⟨cb false _ ?_, fun ox oy _ => g _ (by simp) ox oy⟩
      simp only [binOp]; simp [run_ifc_nil t tu vu ms (htt.desc hd (by simp))]
    · rename_i ms hd; cases hr
      refine ⟨cb true _ ?_, fun ox oy _ => g _ (by simp) ox oy⟩
      simp only [binOp]; simp [run_ifc_nil t tu vu ms (htt.desc hd (by simp))]
    · cases hr
  · cases hr
def fmax (k : FloatKind) (x y : Nat) : Nat :=
  match k.format.order x y with
  | none => nanOf k
  | some .lt => y
  | some .gt => x
  | some .eq => if (k.decode x).neg then y else x
def fmin (k : FloatKind) (x y : Nat) : Nat :=
  match k.format.order x y with
  | none => nanOf k
  | some .lt => x
  | some .gt => y
  | some .eq => if (k.decode x).neg then x else y
theorem not_nan_of_order {k : FloatKind} {x y : Nat} {o : Ordering} (h : k.format.order x y = some o) : isNaN k x = false ∧ isNaN k y = false := by
  constructor
  · cases hn : isNaN k x with
    | false => rfl
    | true => obtain ⟨s, t, e⟩ := read_nan hn; unfold Ieee.Format.order at h; rw [e, order_nan_l] at h; cases h
  · cases hn : isNaN k y with
    | false => rfl
    | true => obtain ⟨s, t, e⟩ := read_nan hn; unfold Ieee.Format.order at h; rw [e, order_nan_r] at h; cases h
def amax (isMax : Bool) (x y : AV) : Option AV :=
  match x, y with
  | .i k a, .i k' b => if k = k' then some (.i k (match isMax with
    | true => fun _ => if b .u > a .u then b .u else a .u
    | false => fun _ => if b .u < a .u then b .u else a .u)) else none
  | .f k a, .f k' b => if k = k' then some (.f k (match isMax with
    | true => fun _ => fmax k (a .u) (b .u)
    | false => fun _ => fmin k (a .u) (b .u))) else none
  | _, _ => none
theorem gives_max {ty : TypeId} {ts : Array TypeId} {x y r : AV} {u v : Value} (h : Rel w ρ L H) (hr : amax true x y = some r) (hx : Sim w ρ H.length L x u) (hy : Sim w ρ H.length L y v) :
    Gives P (Builtin.max_ ts ty #[u, v]) w ρ L H r H := by
  unfold amax at hr
  split at hr
  · rename_i k a k' b
    split at hr <;> cases hr
    rename_i e; subst e
    cases hx.i_inv; cases hy.i_inv
    exact gives_pure h (v := .int k (if b .u > a .u then b .u else a .u)) (by simp [Builtin.max_, Builtin.max2]) .i
  · rename_i k a k' b
    split at hr <;> cases hr
    rename_i e; subst e
    obtain ⟨a', rfl, ha⟩ := hx.f_inv
    obtain ⟨b', rfl, hb⟩ := hy.f_inv
    have key : ∀ y, canon k y = fmax k (canon k a') (canon k b') → Sim w ρ H.length L (.f k fun _ => fmax k (a .u) (b .u)) (.float k y) := fun y hy => .f (by rw [hy, ha, hb])
    have key2 : ∀ y, canon k y = fmax k (canon k a') (canon k b') → Sim w.drew ρ H.length L (.f k fun _ => fmax k (a .u) (b .u)) (.float k y) := fun y hy => .f (by rw [hy, ha, hb])
    unfold fmax at key key2
    rw [order_canon] at key key2
    cases ho : k.format.order a' b' with
    | none =>
      simp only [ho] at key2
      exact gives_drew h (v := .float k ((Question.nanMinMax k true a' b').cut (w.tape w.drawn (.nanMinMax k true a' b')))) (by simp [Builtin.max_, Builtin.max2, ho, Question.forced]) (key2 _ (canon_nan (isNaN_nanMinMax k _ _ _ _)))
    | some o =>
      obtain ⟨na, nb⟩ := not_nan_of_order ho
      rw [canon_of_not na, canon_of_not nb] at key
      cases o with
      | lt => simp only [ho] at key; exact gives_pure h (v := .float k b') (by simp [Builtin.max_, Builtin.max2, ho]) (key _ (canon_of_not nb))
      | gt => simp only [ho] at key; exact gives_pure h (v := .float k a') (by simp [Builtin.max_, Builtin.max2, ho]) (key _ (canon_of_not na))
      | eq =>
        simp only [ho] at key
        refine gives_pure h (v := .float k (if (k.decode a').neg then b' else a')) (by simp [Builtin.max_, Builtin.max2, ho]) (key _ ?_)
        split
        · exact canon_of_not nb
        · exact canon_of_not na
  · cases hr
theorem gives_min {ty : TypeId} {ts : Array TypeId} {x y r : AV} {u v : Value} (h : Rel w ρ L H) (hr : amax false x y = some r) (hx : Sim w ρ H.length L x u) (hy : Sim w ρ H.length L y v) :
    Gives P (Builtin.min_ ts ty #[u, v]) w ρ L H r H := by
  unfold amax at hr
  split at hr
  · rename_i k a k' b
    split at hr <;> cases hr
    rename_i e; subst e
    cases hx.i_inv; cases hy.i_inv
    exact gives_pure h (v := .int k (if b .u < a .u then b .u else a .u)) (by simp [Builtin.min_, Builtin.min2]) .i
  · rename_i k a k' b
    split at hr <;> cases hr
    rename_i e; subst e
    obtain ⟨a', rfl, ha⟩ := hx.f_inv
    obtain ⟨b', rfl, hb⟩ := hy.f_inv
    have key : ∀ y, canon k y = fmin k (canon k a') (canon k b') → Sim w ρ H.length L (.f k fun _ => fmin k (a .u) (b .u)) (.float k y) := fun y hy => .f (by rw [hy, ha, hb])
    have key2 : ∀ y, canon k y = fmin k (canon k a') (canon k b') → Sim w.drew ρ H.length L (.f k fun _ => fmin k (a .u) (b .u)) (.float k y) := fun y hy => .f (by rw [hy, ha, hb])
    unfold fmin at key key2
    rw [order_canon] at key key2
    cases ho : k.format.order a' b' with
    | none =>
      simp only [ho] at key2
      exact gives_drew h (v := .float k ((Question.nanMinMax k false a' b').cut (w.tape w.drawn (.nanMinMax k false a' b')))) (by simp [Builtin.min_, Builtin.min2, ho, Question.forced]) (key2 _ (canon_nan (isNaN_nanMinMax k _ _ _ _)))
    | some o =>
      obtain ⟨na, nb⟩ := not_nan_of_order ho
      rw [canon_of_not na, canon_of_not nb] at key
      cases o with
      | lt => simp only [ho] at key; exact gives_pure h (v := .float k a') (by simp [Builtin.min_, Builtin.min2, ho]) (key _ (canon_of_not na))
      | gt => simp only [ho] at key; exact gives_pure h (v := .float k b') (by simp [Builtin.min_, Builtin.min2, ho]) (key _ (canon_of_not nb))
      | eq =>
        simp only [ho] at key
        refine gives_pure h (v := .float k (if (k.decode a').neg then a' else b')) (by simp [Builtin.min_, Builtin.min2, ho]) (key _ ?_)
        split
        · exact canon_of_not na
        · exact canon_of_not nb
  · cases hr
end
end Go.Aw
namespace Go.Aw

/-- nil of an interface type: the literal alone. -/
def okNil (y : Operand) (y' : AV) : Bool :=
  match y' with
  | .v .nilIface => (match y with | .const .nilIface => true | _ => false)
  | _ => true
theorem abin_right {tt : TT} {H : Heap} {op : BinOp} {t : TypeId} {x y r : AV} {p : Th Prop} (h : abin tt H op t x y = some (r, p)) : (∃ z, y = .v z) ∨ (∃ k z, y = .i k z) ∨ (∃ z, y = .b z) ∨ (∃ z, y = .s z) ∨ (∃ k z, y = .f k z) ∨ ∃ k z z', y = .c k z z' := by
  unfold abin at h
  split at h <;> first | (cases h; done) | exact .inl ⟨_, rfl⟩ | exact .inr (.inl ⟨_, _, rfl⟩) | exact .inr (.inr (.inl ⟨_, rfl⟩)) | exact .inr (.inr (.inr (.inl ⟨_, rfl⟩))) | exact .inr (.inr (.inr (.inr (.inl ⟨_, _, rfl⟩)))) | exact .inr (.inr (.inr (.inr (.inr ⟨_, _, _, rfl⟩))))
theorem run_complex {P : Program} {w : World} (ts : Array TypeId) (ty : TypeId) (k : FloatKind) (x y : Nat) : (Builtin.complex_ ts ty #[.float k x, .float k y]).run P w = .ok (.complex k x y) w := by
  show (if k = k then _ else _ : Sem Value).run P w = _
  rw [if_pos rfl]; rfl
theorem run_real {P : Program} {w : World} (ts : Array TypeId) (ty : TypeId) (k : FloatKind) (x y : Nat) : (Builtin.real_ ts ty #[.complex k x y]).run P w = .ok (.float k x) w := rfl
theorem run_imag {P : Program} {w : World} (ts : Array TypeId) (ty : TypeId) (k : FloatKind) (x y : Nat) : (Builtin.imag_ ts ty #[.complex k x y]).run P w = .ok (.float k y) w := rfl
/-- What a quiet operation makes; ev tells the operands. -/
def aopq (tt : TT) (H : Heap) (ev : Operand → AV) (op : Op) : Option (AV × Th Prop) :=
  match op with
  | .move x => some (ev x, fun _ => True)
  | .assign x => some (ev x, fun _ => True)
  | .extract t i => match ev t with
    | .tup l => match l[i]? with
      | some a => some (a, fun _ => True)
      | none => none
    | _ => none
  | .pick c a b => match ev c with
    | .b b0 => match ev a, ev b with
      | .b p, .b q => some (.b fun _ => bif b0 .u then p .u else q .u, fun _ => True)
      | .on c1 (.b p), .b q => some (.b fun _ => bif b0 .u then p .u else q .u, fun _ => b0 .u = true → c1 .u = true)
      | .b p, .on c2 (.b q) => some (.b fun _ => bif b0 .u then p .u else q .u, fun _ => b0 .u = false → c2 .u = true)
      | .on c1 (.b p), .on c2 (.b q) => some (.b fun _ => bif b0 .u then p .u else q .u, fun _ => (b0 .u = true → c1 .u = true) ∧ (b0 .u = false → c2 .u = true))
      | _, _ => none
    | _ => none
  | .unOp o _ x => aun o (ev x)
  | .binOp o t x y _ => if okNil y (ev y) then abin tt H o t (ev x) (ev y) else none
  | .convert s d x => match tt.desc s with
    | .invalid => none
    | ds => match tt.desc d, ds with
      | .string, .string => aconv tt d (ev x)
      | .string, .slice e => aconvS tt H e (ev x)
      | .string, _ => none
      | _, _ => aconv tt d (ev x)
  | .indexAddr t x i => aindexAddr tt H t (ev x) (ev i)
  | .index t x i => aindexS tt t (ev x) (ev i)
  | .load t p => aload tt H t (ev p)
  | .fieldAddr t p f => match afieldAddr tt H t (ev p) f with
    | some a => some (a, fun _ => True)
    | none => none
  | .field t x f => match afield tt t (ev x) f with
    | some a => some (a, fun _ => True)
    | none => none
  | .slice t x lo hi none => areslice tt H t (ev x) (lo.map ev) (hi.map ev)
  | .build t ps => match abuild tt H t (ps.toList.map fun p => (p.1, ev p.2)) with
    | some a => some (a, fun _ => True)
    | none => none
  | .makeFunc f l m => some (.fn f (l.toList.map ev) (m.toList.map ev), fun _ => True)
  | .nilCheck x => match ev x with
    | .ptr id i sz c => if live H id then some (.ptr id i sz c, fun _ => True) else none
    | .rptr fr m g => some (.rptr fr m g, fun _ => True)
    | _ => none
  | .call { callee := .builtin b, args, argTypes } => match b, args.toList, argTypes.toList with
    | .len, [x], [t] => match alen H tt t (ev x) with
      | some a => some (a, fun _ => True)
      | none => none
    | .max, [x, y], _ => match amax true (ev x) (ev y) with
      | some a => some (a, fun _ => True)
      | none => none
    | .min, [x, y], _ => match amax false (ev x) (ev y) with
      | some a => some (a, fun _ => True)
      | none => none
    | .complex, [x, y], _ => match ev x, ev y with
      | .f k a, .f k' b => if k = k' then some (.c k a b, fun _ => True) else none
      | _, _ => none
    | .real, [x], _ => match ev x with
      | .c k a _ => some (.f k a, fun _ => True)
      | _ => none
    | .imag, [x], _ => match ev x with
      | .c k _ b => some (.f k b, fun _ => True)
      | _ => none
    | _, _, _ => none
  | _ => none
/-- What an operation that makes or writes memory makes. -/
def aoph (tt : TT) (H : Heap) (ev : Operand → AV) (op : Op) : Option (AV × Heap × Th Prop) :=
  match op with
  | .alloc t => match aalloc tt H t with
    | some (r, H') => some (r, H', fun _ => True)
    | none => none
  | .box _ x => match abox H (ev x) with
    | some (r, H') => some (r, H', fun _ => True)
    | none => none
  | .buildSlice t n ps => match abuildSlice tt H t n (ps.toList.map fun p => (p.1, ev p.2)) with
    | some (r, H') => some (r, H', fun _ => True)
    | none => none
  | .makeSlice t l c => amake tt H t (ev l) (ev c)
  | .store t p x => match astore tt H t (ev p) (ev x) with
    | some (H', ob) => some (.dead, H', ob)
    | none => none
  | .call { callee := .builtin .append, args, argTypes } => match args.toList, argTypes.toList with
    | [x, y], [t, t2] => aappend tt H t t2 (ev x) (ev y)
    | _, _ => none
  | _ => none

section
variable {P : Program} {w : World} {ρ : Mp} {L : Nat} {H : Heap}
/-- What is shown of an operation. -/
def Does (P : Program) (s : Sem Next) (w : World) (ρ : Mp) (L : Nat) (H : Heap) (r : AV) (H' : Heap) : Prop :=
  ∃ v w' ρ', (s.run P w = .ok (.value v) w' ∨ (s.run P w = .ok .skip w' ∧ v = undef)) ∧ Rel w' ρ' L H' ∧ Pass w ρ H.length w' ρ' H'.length ∧ Sim w' ρ' H'.length L r v
theorem does_of {s : Sem Value} {r : AV} {H' : Heap} (h : Gives P s w ρ L H r H') : Does P (do pure (Next.value (← s))) w ρ L H r H' := by
  obtain ⟨v, w', ρ', h1, h2⟩ := h
  exact ⟨v, w', ρ', .inl (by simp [h1]), h2⟩
theorem does_pure {v : Value} {r : AV} (h : Rel w ρ L H) (hv : Sim w ρ H.length L r v) : Does P (pure (Next.value v)) w ρ L H r H := ⟨v, w, ρ, .inl rfl, h, Pass.refl _ _ _, hv⟩
theorem sim_list {ev : Operand → AV} {a : Act} {l : List Operand} (h : ∀ x ∈ l, Sim w ρ H.length L (ev x) (a.eval x)) : ∀ (j : Nat) (x : AV) (u : Value), (l.map ev)[j]? = some x → ((l.map a.eval).toArray)[j]? = some u → Sim w ρ H.length L x u := by
  intro j x u h1 h2
  rw [List.getElem?_map, Option.map_eq_some_iff] at h1
  obtain ⟨o, ho, rfl⟩ := h1
  rw [List.getElem?_toArray, List.getElem?_map, ho] at h2
  cases h2
  exact h o (List.mem_of_getElem? ho)
theorem sim_bool {b0 p q : Th Bool} {u v : Value} (hu : b0 .u = true → u = .bool (p .u)) (hv : b0 .u = false → v = .bool (q .u)) : Sim w ρ H.length L (.b fun _ => bif b0 .u then p .u else q .u) (if b0 .u then u else v) := by
  have e : (if b0 .u then u else v) = .bool (bif b0 .u then p .u else q .u) := by
    cases h : b0 .u
    · rw [if_neg (by simp), hv h]; rfl
    · rw [if_pos rfl, hu h]; rfl
  rw [e]; exact .b
theorem Sim.on_inv {b : Th Bool} {a : AV} {u : Value} {N : Nat} (h : Sim w ρ N L (.on b a) u) (hb : b .u = true) : Sim w ρ N L a u := by
  cases h with | on h _ => exact h hb
theorem aopq_sound {tt : TT} (htt : TTok P tt) {ev : Operand → AV} {o : Oper} {a : Act} {r : AV} {p : Th Prop} (h : Rel w ρ L H) (hr : aopq tt H ev o.op = some (r, p)) (hp : p .u)
    (hev : ∀ x ∈ o.op.operands.toList, Sim w ρ H.length L (ev x) (a.eval x)) : Does P (execOp a.eval o) w ρ L H r H := by
  unfold execOp
  cases hop : o.op <;> rw [hop] at hr hev <;> simp only [aopq] at hr <;> first | (cases hr; done) | skip
  case move x => cases hr; exact does_pure h (hev x (by simp [Op.operands]))
  case assign x => cases hr; exact does_pure h (hev x (by simp [Op.operands]))
  case pick c x y =>
    have hc := hev c (by simp [Op.operands])
    have hx := hev x (by simp [Op.operands])
    have hy := hev y (by simp [Op.operands])
    split at hr <;> first | (cases hr; done) | skip
    rename_i b0 hb0
    rw [hb0] at hc
    have ec := hc.b_inv
    have run : (do pure (Next.value (if ← asBool (a.eval c) then a.eval x else a.eval y)) : Sem Next).run P w = .ok (.value (if b0 .u then a.eval x else a.eval y)) w := by
      rw [ec]; simp [asBool]
    have fin : ∀ pp qq : Th Bool, r = .b (fun _ => bif b0 .u then pp .u else qq .u) → (b0 .u = true → a.eval x = .bool (pp .u)) → (b0 .u = false → a.eval y = .bool (qq .u)) →
        Does P (do pure (Next.value (if ← asBool (a.eval c) then a.eval x else a.eval y)) : Sem Next) w ρ L H r H := by
      intro pp qq e h1 h2
      subst e
      exact ⟨_, w, ρ, .inl run, h, Pass.refl _ _ _, sim_bool h1 h2⟩
    split at hr
    · rename_i pp qq h1 h2
      cases hr
      rw [h1] at hx; rw [h2] at hy
      exact fin pp qq rfl (fun _ => hx.b_inv) (fun _ => hy.b_inv)
    · rename_i c1 pp qq h1 h2
      cases hr
      rw [h1] at hx; rw [h2] at hy
      exact fin pp qq rfl (fun e => (hx.on_inv (hp e)).b_inv) (fun _ => hy.b_inv)
    · rename_i pp c2 qq h1 h2
      cases hr
      rw [h1] at hx; rw [h2] at hy
      exact fin pp qq rfl (fun _ => hx.b_inv) (fun e => (hy.on_inv (hp e)).b_inv)
    · rename_i c1 pp c2 qq h1 h2
      cases hr
      rw [h1] at hx; rw [h2] at hy
      exact fin pp qq rfl (fun e => (hx.on_inv (hp.1 e)).b_inv) (fun e => (hy.on_inv (hp.2 e)).b_inv)
    · cases hr
  case extract t i =>
    have hx := hev t (by simp [Op.operands])
    split at hr <;> first | (cases hr; done) | skip
    rename_i l hl
    split at hr <;> cases hr
    rename_i hi
    rw [hl] at hx
    obtain ⟨us, hu, hlen, hj⟩ := hx.tup_inv
    have hlt := (List.getElem?_eq_some_iff.1 hi).1
    have hui : us[i]? = some (us[i]'(by omega)) := Array.getElem?_eq_getElem _
    exact does_of (gives_pure h (by rw [hu]; simp [Instr.extract, hui]) (hj i r _ hi hui))
  case unOp op t x => exact does_of (gives_un h hr hp (hev x (by simp [Op.operands])))
  case binOp op t x y t2 =>
    have hx := hev x (by simp [Op.operands])
    have hy := hev y (by simp [Op.operands])
    have key : abin tt H op t (ev x) (ev y) = some (r, p) ∧ (y = .const .nilIface ∨ a.eval y ≠ .nilIface) := by
      split at hr <;> first | (cases hr; done) | skip
      rename_i hok
      refine ⟨hr, ?_⟩
      rcases abin_right hr with ⟨z, hz⟩ | ⟨k, z, hz⟩ | ⟨z, hz⟩ | ⟨z, hz⟩ | ⟨k, z, hz⟩ | ⟨k, z, z', hz⟩
      · rw [hz] at hy hok
        have e := hy.v_inv
        by_cases hn : z = .nilIface
        · subst hn
          unfold okNil at hok
          split at hok
          · split at hok <;> first | exact .inl rfl | cases hok
          · rename_i hne; exact absurd rfl hne
        · exact .inr (by rw [e]; exact hn)
      · rw [hz] at hy; exact .inr (by rw [hy.i_inv]; simp)
      · rw [hz] at hy; exact .inr (by rw [hy.b_inv]; simp)
      · rw [hz] at hy; exact .inr (by rw [hy.s_inv]; simp)
      · rw [hz] at hy
        obtain ⟨b, e, _⟩ := hy.f_inv
        exact .inr (by rw [e]; simp)
      · rw [hz] at hy
        obtain ⟨b, b', e, _⟩ := hy.c_inv
        exact .inr (by rw [e]; simp)
    obtain ⟨hbin, hny⟩ := key
    obtain ⟨g1, g2⟩ := gives_bin (P := P) htt h hbin hp hx hy
    have e := g2 x y hny
    obtain ⟨v, w', ρ', k1, k2⟩ := g1
    exact ⟨v, w', ρ', .inl (by simp [e, k1]), k2⟩
  case convert s d x =>
    have hx := hev x (by simp [Op.operands])
    split at hr <;> first | (cases hr; done) | skip
    rename_i hs
    split at hr <;> first | (cases hr; done) | skip
    · rename_i h1 h2
      exact does_of (gives_conv htt h (by rw [h2]; simp) (fun _ => h2) hr hp hx)
    · rename_i e h1 h2
      exact does_of (gives_convS htt h h2 h1 hr hp hx)
    · rename_i h1 h2 h3
      exact does_of (gives_conv htt h hs (fun e => absurd e (by intro e; simp_all)) hr hp hx)
  case indexAddr t x i => exact does_of (gives_index htt h hr hp (hev x (by simp [Op.operands])) (hev i (by simp [Op.operands])))
  case index t x i => exact does_of (gives_indexS htt h hr hp (hev x (by simp [Op.operands])) (hev i (by simp [Op.operands])))
  case load t x => exact does_of (gives_load htt h hr hp (hev x (by simp [Op.operands])))
  case fieldAddr t x f =>
    split at hr <;> cases hr
    rename_i hr'
    exact does_of (gives_fieldAddr htt h hr' (hev x (by simp [Op.operands])))
  case field t x f =>
    split at hr <;> cases hr
    rename_i hr'
    exact does_of (gives_field htt h hr' (hev x (by simp [Op.operands])))
  case slice t x lo hi mx =>
    cases mx with
    | some m => simp at hr
    | none =>
      simp only at hr
      refine does_of (gives_reslice htt h hr hp (hev x (by simp [Op.operands])) (by cases lo <;> simp) (by cases hi <;> simp) ?_ ?_)
      · intro y u h1 h2
        cases lo with
        | none => cases h1
        | some l => cases h1; cases h2; exact hev l (by simp [Op.operands])
      · intro y u h1 h2
        cases hi with
        | none => cases h1
        | some l => cases h1; cases h2; exact hev l (by simp [Op.operands])
  case build t ps =>
    split at hr <;> cases hr
    rename_i hr'
    refine does_of (gives_build htt h hr' (by simp) fun j x q h1 h2 => ?_)
    rw [List.getElem?_map, Option.map_eq_some_iff] at h1
    obtain ⟨y, hy, rfl⟩ := h1
    rw [Array.toList_map, List.getElem?_map, hy] at h2
    cases h2
    refine hev y.2 ?_
    simp only [Op.operands, List.toList_toArray, List.mem_map]
    exact ⟨y, List.mem_of_getElem? hy, rfl⟩
  case makeFunc f l m =>
    cases hr
    refine does_of (gives_pure h (v := .func f (l.map a.eval) (m.map a.eval)) (by simp [Instr.makeFunc]) ?_)
    refine .fn (by simp) (fun j x u h1 h2 => ?_) (by simp) (fun j x u h1 h2 => ?_)
    · refine sim_list (a := a) (fun x hx => hev x (by simp only [Op.operands, Array.toList_append, List.mem_append]; exact .inl hx)) j x u h1 ?_
      rw [← h2]; congr 1; apply Array.ext'; simp
    · refine sim_list (a := a) (fun x hx => hev x (by simp only [Op.operands, Array.toList_append, List.mem_append]; exact .inr hx)) j x u h1 ?_
      rw [← h2]; congr 1; apply Array.ext'; simp
  case nilCheck x =>
    have hx := hev x (by simp [Op.operands])
    split at hr <;> first | (cases hr; done) | skip
    · rename_i id i sz c he
      split at hr <;> cases hr
      rename_i hl
      rw [he] at hx
      obtain ⟨blk, hb⟩ := live_at h hl
      have e : a.eval x = .pointer (some ⟨blk, i .u * sz + c, none⟩) := by cases hx with | ptr _ hv => exact hv blk hb
      simp only [e] at hx ⊢
      exact does_pure h hx
    · rename_i fr m g he
      cases hr
      rw [he] at hx
      have e : ∃ ad, a.eval x = .pointer (some ad) := by
        generalize a.eval x = u at hx
        cases hx; exact ⟨_, rfl⟩
      obtain ⟨ad, e⟩ := e
      simp only [e] at hx ⊢
      exact does_pure h hx
  case call c =>
    obtain ⟨callee, args, argTypes⟩ := c
    cases callee with
    | value => simp at hr
    | invoke => simp at hr
    | builtin b =>
      simp only at hr
      have he : ∀ (x : Operand), x ∈ args.toList → Sim w ρ H.length L (ev x) (a.eval x) := fun x hx => hev x (by simp only [Op.operands, Call.operands, Array.toList_append, List.mem_append]; exact .inr hx)
      have ea : ∀ l, args.toList = l → args = l.toArray := fun l e => by apply Array.ext'; simp [e]
      have et : ∀ l, argTypes.toList = l → argTypes = l.toArray := fun l e => by apply Array.ext'; simp [e]
      have run : ∀ s : Sem Value, (∀ cs, builtin b argTypes o.type cs (args.map a.eval) = (do pure (Next.value (← s)))) →
          ∀ r, Gives P s w ρ L H r H → Does P (do let d ← resolve a.eval ⟨.builtin b, args, argTypes⟩ o.type; invoke d.target d.args) w ρ L H r H := by
        intro s hs r hg
        obtain ⟨v, w', ρ', k1, k2⟩ := does_of hg
        refine ⟨v, w', ρ', ?_, k2⟩
        simp only [resolve, Sem.run_bind, Sem.run_pure, Result.andThen_ok, invoke, hs] at k1 ⊢
        exact k1
      split at hr
      · rename_i x t hx1 hx2
        split at hr <;> cases hr
        rename_i hr'
        have e1 := ea _ hx1
        have e2 := et _ hx2
        subst e1; subst e2
        exact run _ (fun _ => rfl) _ (by simpa using gives_len htt h hr' (he x (by simp)))
      · rename_i x y hx1
        split at hr <;> cases hr
        rename_i hr'
        have e1 := ea _ hx1
        subst e1
        exact run _ (fun _ => rfl) _ (by simpa using gives_max h hr' (he x (by simp)) (he y (by simp)))
      · rename_i x y hx1
        split at hr <;> cases hr
        rename_i hr'
        have e1 := ea _ hx1
        subst e1
        exact run _ (fun _ => rfl) _ (by simpa using gives_min h hr' (he x (by simp)) (he y (by simp)))
      · rename_i x y hx1
        split at hr <;> first | (cases hr; done) | skip
        rename_i k aa k' bb g1 g2
        split at hr <;> cases hr
        rename_i ek
        subst ek
        have e1 := ea _ hx1
        subst e1
        have s1 := he x (by simp)
        have s2 := he y (by simp)
        rw [g1] at s1; rw [g2] at s2
        obtain ⟨u1, q1, c1⟩ := s1.f_inv
        obtain ⟨u2, q2, c2⟩ := s2.f_inv
        exact run _ (fun _ => rfl) _ (gives_pure h (v := .complex k u1 u2) (by simp [q1, q2, run_complex]) (.c c1 c2))
      · rename_i x hx1
        split at hr <;> cases hr
        rename_i g1
        have e1 := ea _ hx1
        subst e1
        have s1 := he x (by simp)
        rw [g1] at s1
        obtain ⟨u1, u2, q1, c1, c2⟩ := s1.c_inv
        exact run _ (fun _ => rfl) _ (gives_pure h (v := .float _ u1) (by simp [q1, run_real]) (.f c1))
      · rename_i x hx1
        split at hr <;> cases hr
        rename_i g1
        have e1 := ea _ hx1
        subst e1
        have s1 := he x (by simp)
        rw [g1] at s1
        obtain ⟨u1, u2, q1, c1, c2⟩ := s1.c_inv
        exact run _ (fun _ => rfl) _ (gives_pure h (v := .float _ u2) (by simp [q1, run_imag]) (.f c2))
      · cases hr
theorem aoph_sound {tt : TT} (htt : TTok P tt) {ev : Operand → AV} {o : Oper} {a : Act} {r : AV} {H' : Heap} {p : Th Prop} (h : Rel w ρ L H) (hL : L ≤ w.heap.size) (hr : aoph tt H ev o.op = some (r, H', p)) (hp : p .u)
    (hev : ∀ x ∈ o.op.operands.toList, Sim w ρ H.length L (ev x) (a.eval x)) : Does P (execOp a.eval o) w ρ L H r H' := by
  unfold execOp
  cases hop : o.op <;> rw [hop] at hr hev <;> simp only [aoph] at hr <;> first | (cases hr; done) | skip
  case alloc t =>
    split at hr <;> cases hr
    rename_i hr'
    exact does_of (gives_alloc htt h hL hr')
  case box t x =>
    split at hr <;> cases hr
    rename_i hr'
    exact does_of (gives_box h hL hr' (hev x (by simp [Op.operands])))
  case buildSlice t n ps =>
    split at hr <;> cases hr
    rename_i hr'
    refine does_of (gives_buildSlice htt h hL hr' (by simp) fun j x q h1 h2 => ?_)
    rw [List.getElem?_map, Option.map_eq_some_iff] at h1
    obtain ⟨y, hy, rfl⟩ := h1
    rw [Array.toList_map, List.getElem?_map, hy] at h2
    cases h2
    refine hev y.2 ?_
    simp only [Op.operands, List.toList_toArray, List.mem_map]
    exact ⟨y, List.mem_of_getElem? hy, rfl⟩
  case makeSlice t l c => exact does_of (gives_make htt h hL hr hp (hev l (by simp [Op.operands])) (hev c (by simp [Op.operands])))
  case store t x y =>
    split at hr <;> cases hr
    rename_i hr'
    obtain ⟨w', k1, k2, k3⟩ := gives_store (P := P) htt h hr' hp (hev x (by simp [Op.operands])) (hev y (by simp [Op.operands]))
    exact ⟨undef, w', ρ, .inr ⟨by simp [k1], rfl⟩, k2, k3, .dead⟩
  case call c =>
    obtain ⟨callee, args, argTypes⟩ := c
    cases callee with
    | value => simp at hr
    | invoke => simp at hr
    | builtin b =>
      cases b <;> simp only at hr <;> first | (cases hr; done) | skip
      have he : ∀ (x : Operand), x ∈ args.toList → Sim w ρ H.length L (ev x) (a.eval x) := fun x hx => hev x (by simp only [Op.operands, Call.operands, Array.toList_append, List.mem_append]; exact .inr hx)
      have ea : ∀ l, args.toList = l → args = l.toArray := fun l e => by apply Array.ext'; simp [e]
      have et : ∀ l, argTypes.toList = l → argTypes = l.toArray := fun l e => by apply Array.ext'; simp [e]
      split at hr <;> first | (cases hr; done) | skip
      rename_i x y t t2 hx1 hx2
      have e1 := ea _ hx1
      have e2 := et _ hx2
      subst e1; subst e2
      obtain ⟨v, w', ρ', k1, k2⟩ := does_of (gives_append (P := P) (ty := o.type) htt h hL hr hp (he x (by simp)) (he y (by simp)))
      refine ⟨v, w', ρ', ?_, k2⟩
      have hb : ∀ cs, builtin .append (List.toArray [t, t2]) o.type cs ((List.toArray [x, y]).map a.eval) = (do pure (Next.value (← Builtin.append_ #[t, t2] o.type #[a.eval x, a.eval y]))) := fun _ => by simp [builtin]
      simp only [resolve, Sem.run_bind, Sem.run_pure, Result.andThen_ok, invoke, hb] at k1 ⊢
      exact k1

/-! ### Under a guard -/
def unOn : AV → AV
  | .on _ a => a
  | a => a
/-- Where an operand is told under a condition: that condition. -/
def condOf : AV → Th Prop
  | .on b _ => fun _ => b .u = true
  | _ => fun _ => True
def condsOf (env : List AV) : List Operand → Th Prop
  | [] => fun _ => True
  | x :: l => match condOf (aeval env x), condsOf env l with
    | p, q => fun _ => p .u ∧ q .u
/-- A guard's value: the condition under which it is told, and what it says. -/
def guardAV (ops : Array Oper) (env : List AV) (j : Nat) : Option (Th Bool × Th Bool) :=
  match ops.toList[j]? with
  | some o => match o.dst with
    | some d => match lget env d with
      | .b b => some (fun _ => true, b)
      | .on c (.b b) => some (c, b)
      | _ => none
    | none => none
  | none => none
theorem guardAV_eq (ops : Array Oper) (env : List AV) (j : Nat) : guardAV ops env j = match ops.toList[j]? with
  | some o => match o.dst with
    | some d => match env[d]? with
      | some (.b b) => some (fun _ => true, b)
      | some (.on c (.b b)) => some (c, b)
      | _ => none
    | none => none
  | none => none := by
  unfold guardAV
  cases ops.toList[j]? with
  | none => rfl
  | some o =>
    simp only
    cases o.dst with
    | none => rfl
    | some d =>
      simp only [lget_eq, List.getD_eq_getElem?_getD]
      cases h : env[d]? with
      | none => rfl
      | some a =>
        simp only [Option.getD_some]
        cases a with
        | on c x => cases x <;> rfl
        | _ => rfl
def astep (tt : TT) (ops : Array Oper) (env : List AV) (H : Heap) (o : Oper) : Option (List AV × Heap × Th Prop) :=
  match o.guard with
  | none => match aopq tt H (aeval env) o.op with
    | some (r, p) => some (aput env o.dst r, H, p)
    | none => match aoph tt H (aeval env) o.op with
      | some (r, H', p) => some (aput env o.dst r, H', p)
      | none => none
  | some (j, want) => match guardAV ops env j with
    | some (c, b) => match aopq tt H (fun x => unOn (aeval env x)) o.op with
      | some (r, p) => match condsOf env o.op.operands.toList with
        | q => some (aput env o.dst (.on (fun _ => c .u && (b .u == want)) r), H, fun _ => (c .u && (b .u == want)) = true → (q .u ∧ p .u))
      | none => none
    | none => none
theorem conds_at {env : List AV} : ∀ {l : List Operand}, condsOf env l .u → ∀ x ∈ l, condOf (aeval env x) .u := by
  intro l
  induction l with
  | nil => intro _ x hx; cases hx
  | cons y l ih =>
    intro h x hx
    rcases List.mem_cons.1 hx with rfl | hx
    · exact h.1
    · exact ih h.2 x hx
theorem Sim.unOn {N : Nat} {a : AV} {u : Value} (h : Sim w ρ N L a u) (hc : condOf a .u) : Sim w ρ N L (unOn a) u := by
  cases h with
  | on h _ => exact h hc
  | _ => first | exact .v ‹_› | exact .i | exact .b | exact .s | exact .f ‹_› | exact .c ‹_› ‹_› | exact .ro0 ‹_› | exact .ro _ ‹_› ‹_› ‹_› ‹_› | exact .own ‹_› ‹_› | exact .ptr ‹_› ‹_› | exact .rptr _ ‹_› ‹_› ‹_› | exact .agg ‹_› ‹_› | exact .tup ‹_› ‹_› | exact .fn ‹_› ‹_› ‹_› ‹_› | exact .ifc | exact .dead
end
end Go.Aw
