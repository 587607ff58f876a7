/- One operation: what it makes of abstract values, and that the machine does just that. -/
import Derived.Test.YtjlkflceicdcdaaDoorAwh
namespace Go.Aw

def constAV : Value → AV
  | .float k b => .f k fun _ => canon k b
  | .complex k a b => .c k (fun _ => canon k a) fun _ => canon k b
  | .int k n => .i k fun _ => n
  | .bool p => .b fun _ => p
  | .string x => .s fun _ => x
  | v => if plain v then .v v else .dead
def aeval (env : List AV) : Operand → AV
  | .tmp t => env.getD t .dead
  | .const v => constAV v
  | .global _ => .dead
  | .func f => .fn (.func f) [] []
structure EnvRel (w : World) (ρ : Mp) (N L : Nat) (env : List AV) (tmps : Array Value) : Prop where
  len : env.length = tmps.size
  at_ : ∀ (t : Nat) (a : AV) (v : Value), env[t]? = some a → tmps[t]? = some v → Sim w ρ N L a v
theorem EnvRel.mono {w w' : World} {ρ ρ' : Mp} {N N' L : Nat} {env : List AV} {tmps : Array Value} (h : EnvRel w ρ N L env tmps) (k : Pass w ρ N w' ρ' N') (hL : L ≤ L) : EnvRel w' ρ' N' L env tmps :=
  ⟨h.len, fun t a v h1 h2 => (h.at_ t a v h1 h2).mono k hL⟩
def aput (env : List AV) (dst : Option Tmp) (r : AV) : List AV := match dst with | some d => env.set d r | none => env
theorem EnvRel.put {w : World} {ρ : Mp} {N L : Nat} {env : List AV} {a : Act} {r : AV} {v : Value} (h : EnvRel w ρ N L env a.tmps) (hr : Sim w ρ N L r v) (dst : Option Tmp) : EnvRel w ρ N L (aput env dst r) (a.put dst v).tmps := by
  cases dst with
  | none => exact h
  | some d =>
    refine ⟨by simp [aput, Act.put, h.len], fun t x y h1 h2 => ?_⟩
    simp only [aput, Act.put] at h1 h2
    by_cases e : t = d
    · subst e
      have hlt := (List.getElem?_eq_some_iff.1 h1).1
      rw [List.length_set] at hlt
      rw [List.getElem?_set_self hlt] at h1
      rw [Array.getElem?_setIfInBounds_self_of_lt (by rw [← h.len]; exact hlt)] at h2
      cases h1; cases h2
      exact hr
    · rw [List.getElem?_set_ne (Ne.symm e)] at h1
      rw [Array.getElem?_setIfInBounds_ne (Ne.symm e)] at h2
      exact h.at_ t x y h1 h2
section
variable {P : Program} {w : World} {ρ : Mp} {L : Nat} {H : Heap}
theorem sim_const (v : Value) (N : Nat) : Sim w ρ N L (constAV v) v := by
  unfold constAV
  split
  · exact .f rfl
  · exact .c rfl rfl
  · exact .i
  · exact .b
  · exact .s
  · split
    · exact .v ‹_›
    · exact .dead
theorem aeval_sound {N : Nat} {env : List AV} {a : Act} (h : EnvRel w ρ N L env a.tmps) (x : Operand) : Sim w ρ N L (aeval env x) (a.eval x) := by
  cases x with
  | tmp t =>
    simp only [aeval, Act.eval]
    rw [List.getD_eq_getElem?_getD, Array.getD_eq_getD_getElem?]
    cases he : env[t]? with
    | none => exact .dead
    | some x =>
      have hlt := (List.getElem?_eq_some_iff.1 he).1
      have hv : a.tmps[t]? = some (a.tmps[t]'(by rw [← h.len]; exact hlt)) := Array.getElem?_eq_getElem _
      rw [hv]
      exact h.at_ t x _ he hv
  | const v => exact sim_const v N
  | global g => exact .dead
  | func f => exact .fn (by simp) (fun j a u h => by simp at h) (by simp) (fun j a u h => by simp at h)

/-! ### Small operations -/
def aun (op : UnOp) (x : AV) : Option (AV × Th Prop) :=
  match op, x with
  | .not, .b p => some (.b fun _ => !p .u, fun _ => True)
  | .neg, .f k x => some (.f k fun _ => fneg k (x .u), fun _ => True)
  | .neg, .c k x y => some (.c k (fun _ => fneg k (x .u)) fun _ => fneg k (y .u), fun _ => True)
  | .neg, .i k n => aint .sub k (fun _ => 0) n
  | _, _ => none
theorem gives_un {op : UnOp} {x r : AV} {p : Th Prop} {u : Value} (h : Rel w ρ L H) (hr : aun op x = some (r, p)) (hp : p .u) (hx : Sim w ρ H.length L x u) : Gives P (Op.unary op u) w ρ L H r H := by
  unfold aun at hr
  split at hr
  · rename_i p'
    cases hr; cases hx.b_inv
    exact gives_pure h (v := .bool (!p' .u)) (by simp [Op.unary]) .b
  · cases hr; obtain ⟨b, rfl, hb⟩ := hx.f_inv; exact gives_pure h (v := .float _ (Op.negFloat _ b)) (by simp [Op.unary]) (.f ((canon_neg _ _).trans (by rw [hb])))
  · cases hr; obtain ⟨a, b, rfl, ha, hb⟩ := hx.c_inv; exact gives_pure h (v := .complex _ (Op.negFloat _ a) (Op.negFloat _ b)) (by simp [Op.unary]) (.c ((canon_neg _ _).trans (by rw [ha])) ((canon_neg _ _).trans (by rw [hb])))
  · rename_i k n
    cases hx.i_inv
    have := gives_int (P := P) (t := 0) h hr hp
    have e : Op.unary .neg (.int k (n .u)) = binOp .sub 0 (.int k 0) (.int k (n .u)) := by simp [Op.unary, binOp]
    rw [e]; exact this
  · cases hr
def isNilSlice : AV → Bool
  | .v (.slice none 0 0) => true
  | _ => false
/-- Is this slice surely not nil? -/
def notNil (H : Heap) : AV → Bool
  | .own id .. => live H id
  | _ => false
def abin (tt : TT) (H : Heap) (op : BinOp) (t : TypeId) (x y : AV) : Option (AV × Th Prop) :=
  match x, y with
  | .i k a, .i k' b => match op with
    | .shr => some (.i k fun _ => a .u / 2 ^ (b .u).toNat, fun _ => 0 ≤ b .u ∧ b .u ≤ (k.bits : Int))
    | .shl => some (.i k fun _ => k.wrap (a .u * 2 ^ (b .u).toNat), fun _ => 0 ≤ b .u ∧ b .u ≤ (k.bits : Int))
    | op => if k = k' then aint op k a b else none
  | .f k a, .f k' b => if k = k' then (match afl op k a b with
    | some r => some (r, fun _ => True)
    | none => none) else none
  | .b a, .b b => match tt.desc t with
    | .bool => match abool op a b with
      | some r => some (r, fun _ => True)
      | none => none
    | _ => none
  | .s a, .s b => astr op a b
  | .own id .., .v (.slice none 0 0) => match tt.desc t, op with
    | .slice _, .eql => if live H id then some (.b fun _ => false, fun _ => True) else none
    | .slice _, .neq => if live H id then some (.b fun _ => true, fun _ => True) else none
    | _, _ => none
  | .v (.slice none 0 0), .v (.slice none 0 0) => match tt.desc t, op with
    | .slice _, .eql => some (.b fun _ => true, fun _ => True)
    | .slice _, .neq => some (.b fun _ => false, fun _ => True)
    | _, _ => none
  | .ro _ n _ _, .v (.slice none 0 0) => match tt.desc t, op with
    | .slice _, .eql => some (.b fun _ => false, fun _ => 0 < n .u)
    | .slice _, .neq => some (.b fun _ => true, fun _ => 0 < n .u)
    | _, _ => none
  | .c k x y, .c k' x' y' => if k = k' then (match op with
    | .add => some (.c k (fun _ => fadd k (x .u) (x' .u)) fun _ => fadd k (y .u) (y' .u), fun _ => True)
    | .sub => some (.c k (fun _ => fsub k (x .u) (x' .u)) fun _ => fsub k (y .u) (y' .u), fun _ => True)
    | _ => none) else none
  | .ifc, .v .nilIface => match tt.desc t, op with
    | .interface _, .eql => some (.b fun _ => false, fun _ => True)
    | .interface _, .neq => some (.b fun _ => true, fun _ => True)
    | _, _ => none
  | _, _ => none
theorem run_eql_slice (t e : TypeId) (a : Option Addr) (n c : Nat) (h : P.underlying t = some (.slice e)) : (binOp .eql t (.slice a n c) (.slice none 0 0)).run P w = .ok (.bool a.isNone) w := by
  have e0 : ∀ d, (Op.equalIn (d + 1) t (.slice a n c) (.slice none 0 0)).run P w = .ok a.isNone w := fun d => by
    cases a <;> simp [Op.equalIn, run_underlying h]
  have e1 : (Op.equal t (.slice a n c) (.slice none 0 0)).run P w = .ok a.isNone w := e0 9999
  simp only [binOp]; simp [e1]
theorem run_neq_slice (t e : TypeId) (a : Option Addr) (n c : Nat) (h : P.underlying t = some (.slice e)) : (binOp .neq t (.slice a n c) (.slice none 0 0)).run P w = .ok (.bool (!a.isNone)) w := by
  have e0 : ∀ d, (Op.equalIn (d + 1) t (.slice a n c) (.slice none 0 0)).run P w = .ok a.isNone w := fun d => by
    cases a <;> simp [Op.equalIn, run_underlying h]
  have e1 : (Op.equal t (.slice a n c) (.slice none 0 0)).run P w = .ok a.isNone w := e0 9999
  simp only [binOp]; simp [e1]
theorem run_ifc_nil (t u : TypeId) (v : Value) (ms : Array (String × TypeId)) (h : P.underlying t = some (.interface ms)) : (Op.equal t (.iface u v) .nilIface).run P w = .ok false w := by
  have e0 : ∀ d, (Op.equalIn (d + 1) t (.iface u v) .nilIface).run P w = .ok false w := fun d => by simp [Op.equalIn, run_underlying h]
  exact e0 9999
theorem gives_bin {tt : TT} (htt : TTok P tt) {op : BinOp} {t : TypeId} {x y r : AV} {p : Th Prop} {u v : Value} (h : Rel w ρ L H) (hr : abin tt H op t x y = some (r, p)) (hp : p .u)
    (hx : Sim w ρ H.length L x u) (hy : Sim w ρ H.length L y v) : Gives P (binOp op t u v) w ρ L H r H ∧ ∀ ox oy, (oy = .const .nilIface ∨ v ≠ .nilIface) → eqGuard op t ox oy u v = pure Unit.unit := by
  have g : ∀ u : Value, (u ≠ .nilIface ∧ ∀ a, u ≠ .agg a) → ∀ ox oy, eqGuard op t ox oy u v = pure Unit.unit := by
    intro u hu ox oy
    cases u <;> first | exact absurd rfl hu.1 | exact absurd rfl (hu.2 _) | (cases op <;> rfl)
  have cb : ∀ (z : Bool) (s : Sem Value), s.run P w = .ok (.bool z) w → Gives P s w ρ L H (.b fun _ => z) H := fun z s hs => gives_pure h hs (.b (p := fun _ => z))
  unfold abin at hr
  split at hr
  · rename_i k a k' b
    cases hx.i_inv; cases hy.i_inv
    split at hr
    · cases hr
      refine ⟨gives_pure h ?_ .i, fun ox oy _ => g _ (by simp) ox oy⟩
      show (Op.shift .shr k (a .u) k' (b .u)).run P w = _
      rw [shift_shr _ _ _ _ hp.1 hp.2]
      rfl
    · cases hr
      refine ⟨gives_pure h ?_ .i, fun ox oy _ => g _ (by simp) ox oy⟩
      show (Op.shift .shl k (a .u) k' (b .u)).run P w = _
      rw [shift_shl _ _ _ _ hp.1 hp.2]
      rfl
    split at hr <;> first | (cases hr; done) | skip
    rename_i e; subst e
    exact ⟨gives_int h hr hp, fun ox oy _ => g _ (by simp) ox oy⟩
  · rename_i k a k' b
    split at hr <;> first | (cases hr; done) | skip
    rename_i e; subst e
    split at hr <;> cases hr
    rename_i hr'
    have := gives_float (P := P) (t := t) h hr' hx hy
    obtain ⟨b, rfl, _⟩ := hx.f_inv
    exact ⟨this, fun ox oy _ => g _ (by simp) ox oy⟩
  · rename_i a b
    split at hr <;> first | (cases hr; done) | skip
    rename_i hd
    split at hr <;> cases hr
    rename_i hr'
    cases hx.b_inv; cases hy.b_inv
    exact ⟨gives_bool h (htt.desc hd (by simp)) hr', fun ox oy _ => g _ (by simp) ox oy⟩
  · cases hx.s_inv; cases hy.s_inv
    exact ⟨gives_str h hr hp, fun ox oy _ => g _ (by simp) ox oy⟩
  · rename_i id i n sz
    cases hy.v_inv
    have key : live H id = true → ∃ b off cap, u = .slice (some ⟨b, off, none⟩) (n .u) cap := by
      intro hl
      obtain ⟨blk, hb⟩ := live_at h hl
      cases hx with
      | own hid hv =>
      obtain ⟨off, cap, rfl, _⟩ := hv blk hb
      exact ⟨blk, off, cap, rfl⟩
    split at hr
    · rename_i e hd
      split at hr <;> cases hr
      rename_i hl
      obtain ⟨b, off, cap, rfl⟩ := key hl
      exact ⟨cb _ _ (run_eql_slice t e _ _ _ (htt.desc hd (by simp))), fun ox oy _ => g _ (by simp) ox oy⟩
    · rename_i e hd
      split at hr <;> cases hr
      rename_i hl
      obtain ⟨b, off, cap, rfl⟩ := key hl
      exact ⟨cb _ _ (run_neq_slice t e _ _ _ (htt.desc hd (by simp))), fun ox oy _ => g _ (by simp) ox oy⟩
    · cases hr
  · cases hx.v_inv; cases hy.v_inv
    split at hr
    · rename_i e hd; cases hr
      exact ⟨cb _ _ (run_eql_slice t e none 0 0 (htt.desc hd (by simp))), fun ox oy _ => g _ (by simp) ox oy⟩
    · rename_i e hd; cases hr
      exact ⟨cb _ _ (run_neq_slice t e none 0 0 (htt.desc hd (by simp))), fun ox oy _ => g _ (by simp) ox oy⟩
    · cases hr
  · rename_i fr n sz g
    cases hy.v_inv
    have key : 0 < n .u → ∃ b cap, u = .slice (some b) (n .u) cap := by
      intro hn
      cases hx with
      | ro0 h0 => omega
      | ro => exact ⟨_, _, rfl⟩
    split at hr
    · rename_i e hd
      cases hr
      obtain ⟨b, cap, rfl⟩ := key hp
      exact ⟨cb _ _ (run_eql_slice t e _ _ _ (htt.desc hd (by simp))), fun ox oy _ => g _ (by simp) ox oy⟩
    · rename_i e hd
      cases hr
      obtain ⟨b, cap, rfl⟩ := key hp
      exact ⟨cb _ _ (run_neq_slice t e _ _ _ (htt.desc hd (by simp))), fun ox oy _ => g _ (by simp) ox oy⟩
    · cases hr
  · rename_i k x1 y1 k' x2 y2
    split at hr <;> first | (cases hr; done) | skip
    rename_i e; subst e
    have cx : ∀ (o : BinOp) (z1 z2 : Th Nat), (o = .add ∨ o = .sub) → z1 .u = fbits o k (x1 .u) (x2 .u) → z2 .u = fbits o k (y1 .u) (y2 .u) → Gives P (binOp o t u v) w ρ L H (.c k z1 z2) H := by
      intro o z1 z2 ho e1 e2
      obtain ⟨a, b, rfl, ha, hb⟩ := hx.c_inv
      obtain ⟨a', b', rfl, ha', hb'⟩ := hy.c_inv
      have run : binOp o t (.complex k a b) (.complex k a' b') = (do pure (.complex k (← Op.Complex.arith o k a a') (← Op.Complex.arith o k b b'))) := by
        rcases ho with rfl | rfl <;> simp [binOp, Op.complexOp]
      have part : ∀ (w : World) (x y : Nat), ∃ r w', (Op.Complex.arith o k x y).run P w = .ok r w' ∧ canon k r = fbits o k (canon k x) (canon k y) ∧ w'.heap = w.heap ∧ w'.os = w.os ∧ w'.tape = w.tape ∧ w'.output = w.output := by
        intro w x y
        unfold fbits
        rw [floatBits_canon]
        cases hb : floatBits o k x y with
        | some r => exact ⟨r, w, by rcases ho with rfl | rfl <;> simp_all [Op.Complex.arith, Op.floatArith, floatBits], canon_of_not (isNaN_floatBits hb), rfl, rfl, rfl, rfl⟩
        | none => exact ⟨_, w.drew, by rcases ho with rfl | rfl <;> simp_all [Op.Complex.arith, Op.floatArith, floatBits, Question.forced] <;> rfl, canon_nan (isNaN_nanBits k x y (w.tape w.drawn (.nanBits k x y))), rfl, rfl, rfl, rfl⟩
      obtain ⟨r1, w1, q1, q2, q3, q4, q5, q6⟩ := part w a a'
      obtain ⟨r2, w2, s1, s2, s3, s4, s5, s6⟩ := part w1 b b'
      refine ⟨.complex k r1 r2, w2, ρ, by rw [run]; simp [q1, s1], h.same (s3.trans q3) (s4.trans q4) (s5.trans q5) (s6.trans q6), Pass.same _ _ (s3.trans q3) (s4.trans q4) (s5.trans q5) (s6.trans q6), .c ?_ ?_⟩
      · rw [q2, e1, ha, ha']
      · rw [s2, e2, hb, hb']
    have gc : ∀ ox oy, eqGuard op t ox oy u v = pure Unit.unit := by
      obtain ⟨a, b, rfl, ha, hb⟩ := hx.c_inv
      exact fun ox oy => g _ (by simp) ox oy
    split at hr <;> cases hr
    · exact ⟨cx .add _ _ (.inl rfl) rfl rfl, fun ox oy _ => gc ox oy⟩
    · exact ⟨cx .sub _ _ (.inr rfl) rfl rfl, fun ox oy _ => gc ox oy⟩
  · cases hy.v_inv
    cases hx
    rename_i tu vu
    split at hr
    · rename_i ms hd; cases hr
      refine ⟨cb false _ ?_, fun ox oy _ => g _ (by simp) ox oy⟩
      simp only [binOp]; simp [run_ifc_nil t tu vu ms (htt.desc hd (by simp))]
    · rename_i ms hd; cases hr
      refine ⟨cb true _ ?_, fun ox oy _ => g _ (by simp) ox oy⟩
      simp only [binOp]; simp [run_ifc_nil t tu vu ms (htt.desc hd (by simp))]
    · cases hr
  · cases hr
def fmax (k : FloatKind) (x y : Nat) : Nat :=
  match k.format.order x y with
  | none => nanOf k
  | some .lt => y
  | some .gt => x
  | some .eq => if (k.decode x).neg then y else x
def fmin (k : FloatKind) (x y : Nat) : Nat :=
  match k.format.order x y with
  | none => nanOf k
  | some .lt => x
  | some .gt => y
  | some .eq => if (k.decode x).neg then x else y
theorem not_nan_of_order {k : FloatKind} {x y : Nat} {o : Ordering} (h : k.format.order x y = some o) : isNaN k x = false ∧ isNaN k y = false := by
  constructor
  · cases hn : isNaN k x with
    | false => rfl
    | true => obtain ⟨s, t, e⟩ := read_nan hn; unfold Ieee.Format.order at h; rw [e, order_nan_l] at h; cases h
  · cases hn : isNaN k y with
    | false => rfl
    | true => obtain ⟨s, t, e⟩ := read_nan hn; unfold Ieee.Format.order at h; rw [e, order_nan_r] at h; cases h
def amax (isMax : Bool) (x y : AV) : Option AV :=
  match x, y with
  | .i k a, .i k' b => if k = k' then some (.i k (match isMax with
    | true => fun _ => if b .u > a .u then b .u else a .u
    | false => fun _ => if b .u < a .u then b .u else a .u)) else none
  | .f k a, .f k' b => if k = k' then some (.f k (match isMax with
    | true => fun _ => fmax k (a .u) (b .u)
    | false => fun _ => fmin k (a .u) (b .u))) else none
  | _, _ => none
theorem gives_max {ty : TypeId} {ts : Array TypeId} {x y r : AV} {u v : Value} (h : Rel w ρ L H) (hr : amax true x y = some r) (hx : Sim w ρ H.length L x u) (hy : Sim w ρ H.length L y v) :
    Gives P (Builtin.max_ ts ty #[u, v]) w ρ L H r H := by
  unfold amax at hr
  split at hr
  · rename_i k a k' b
    split at hr <;> cases hr
    rename_i e; subst e
    cases hx.i_inv; cases hy.i_inv
    exact gives_pure h (v := .int k (if b .u > a .u then b .u else a .u)) (by simp [Builtin.max_, Builtin.max2]) .i
  · rename_i k a k' b
    split at hr <;> cases hr
    rename_i e; subst e
    obtain ⟨a', rfl, ha⟩ := hx.f_inv
    obtain ⟨b', rfl, hb⟩ := hy.f_inv
    have key : ∀ y, canon k y = fmax k (canon k a') (canon k b') → Sim w ρ H.length L (.f k fun _ => fmax k (a .u) (b .u)) (.float k y) := fun y hy => .f (by rw [hy, ha, hb])
    have key2 : ∀ y, canon k y = fmax k (canon k a') (canon k b') → Sim w.drew ρ H.length L (.f k fun _ => fmax k (a .u) (b .u)) (.float k y) := fun y hy => .f (by rw [hy, ha, hb])
    unfold fmax at key key2
    rw [order_canon] at key key2
    cases ho : k.format.order a' b' with
    | none =>
      simp only [ho] at key2
      exact gives_drew h (v := .float k ((Question.nanMinMax k true a' b').cut (w.tape w.drawn (.nanMinMax k true a' b')))) (by simp [Builtin.max_, Builtin.max2, ho, Question.forced]) (key2 _ (canon_nan (isNaN_nanMinMax k _ _ _ _)))
    | some o =>
      obtain ⟨na, nb⟩ := not_nan_of_order ho
      rw [canon_of_not na, canon_of_not nb] at key
      cases o with
      | lt => simp only [ho] at key; exact gives_pure h (v := .float k b') (by simp [Builtin.max_, Builtin.max2, ho]) (key _ (canon_of_not nb))
      | gt => simp only [ho] at key; exact gives_pure h (v := .float k a') (by simp [Builtin.max_, Builtin.max2, ho]) (key _ (canon_of_not na))
      | eq =>
        simp only [ho] at key
        refine gives_pure h (v := .float k (if (k.decode a').neg then b' else a')) (by simp [Builtin.max_, Builtin.max2, ho]) (key _ ?_)
        split
        · exact canon_of_not nb
        · exact canon_of_not na
  · cases hr
theorem gives_min {ty : TypeId} {ts : Array TypeId} {x y r : AV} {u v : Value} (h : Rel w ρ L H) (hr : amax false x y = some r) (hx : Sim w ρ H.length L x u) (hy : Sim w ρ H.length L y v) :
    Gives P (Builtin.min_ ts ty #[u, v]) w ρ L H r H := by
  unfold amax at hr
  split at hr
  · rename_i k a k' b
    split at hr <;> cases hr
    rename_i e; subst e
    cases hx.i_inv; cases hy.i_inv
    exact gives_pure h (v := .int k (if b .u < a .u then b .u else a .u)) (by simp [Builtin.min_, Builtin.min2]) .i
  · rename_i k a k' b
    split at hr <;> cases hr
    rename_i e; subst e
    obtain ⟨a', rfl, ha⟩ := hx.f_inv
    obtain ⟨b', rfl, hb⟩ := hy.f_inv
    have key : ∀ y, canon k y = fmin k (canon k a') (canon k b') → Sim w ρ H.length L (.f k fun _ => fmin k (a .u) (b .u)) (.float k y) := fun y hy => .f (by rw [hy, ha, hb])
    have key2 : ∀ y, canon k y = fmin k (canon k a') (canon k b') → Sim w.drew ρ H.length L (.f k fun _ => fmin k (a .u) (b .u)) (.float k y) := fun y hy => .f (by rw [hy, ha, hb])
    unfold fmin at key key2
    rw [order_canon] at key key2
    cases ho : k.format.order a' b' with
    | none =>
      simp only [ho] at key2
      exact gives_drew h (v := .float k ((Question.nanMinMax k false a' b').cut (w.tape w.drawn (.nanMinMax k false a' b')))) (by simp [Builtin.min_, Builtin.min2, ho, Question.forced]) (key2 _ (canon_nan (isNaN_nanMinMax k _ _ _ _)))
    | some o =>
      obtain ⟨na, nb⟩ := not_nan_of_order ho
      rw [canon_of_not na, canon_of_not nb] at key
      cases o with
      | lt => simp only [ho] at key; exact gives_pure h (v := .float k a') (by simp [Builtin.min_, Builtin.min2, ho]) (key _ (canon_of_not na))
      | gt => simp only [ho] at key; exact gives_pure h (v := .float k b') (by simp [Builtin.min_, Builtin.min2, ho]) (key _ (canon_of_not nb))
      | eq =>
        simp only [ho] at key
        refine gives_pure h (v := .float k (if (k.decode a').neg then a' else b')) (by simp [Builtin.min_, Builtin.min2, ho]) (key _ ?_)
        split
        · exact canon_of_not na
        · exact canon_of_not nb
  · cases hr
end
end Go.Aw
