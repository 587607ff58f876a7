/- What an operation on scalars makes of abstract values, and that the machine does just that. -/
/- Conversions and operations on memory: what they make of abstract values. -/
import Derived.Test.YtfdmmbcjidkmoaaAwb
import Derived.WalkSpells
import Derived.WideLaws
namespace Go.Aw

structure TI where
  desc : TypeDesc
  size : Nat
  bytes : Nat
  zero : List AV
def zeroAV : Value → AV
  | .float k b => .f k fun _ => b
  | .complex k a b => .c k (fun _ => a) fun _ => b
  | .int k n => .i k fun _ => n
  | .bool p => .b fun _ => p
  | .string x => .s fun _ => x
  | v => .v v
def okZero : Value → Bool
  | .float k b => canon k b == b
  | .complex k a b => canon k a == a && canon k b == b
  | .int .. | .bool _ | .string _ => true
  | v => plain v
def TIok (P : Program) (t : TypeId) (i : TI) : Prop :=
  P.underlying t = some i.desc ∧ ∃ info z, P.info? t = some info ∧ info.size = i.size ∧ info.bytes = i.bytes ∧ info.zero = some z ∧ z.cells.size = i.size ∧ i.zero = z.cells.toList.map zeroAV ∧ z.cells.toList.all okZero = true
/-- A table of types, right of the program where it says something. -/
def TTok (P : Program) (tt : List (Option TI)) : Prop := ∀ t i, tt[t]? = some (some i) → TIok P t i
abbrev TT := List (Option TI)
def TT.desc (tt : TT) (t : TypeId) : TypeDesc := match tt[t]? with | some (some i) => i.desc | _ => .invalid
theorem TTok.desc {P : Program} {tt : TT} (h : TTok P tt) {t : TypeId} {d : TypeDesc} (hd : tt.desc t = d) (hn : d ≠ .invalid) : P.underlying t = some d := by
  unfold TT.desc at hd
  split at hd
  · rename_i i hi; exact hd ▸ (h t i hi).1
  · exact absurd hd.symm hn

/-! ### What is stated of an operation -/
def Gives (P : Program) (s : Sem Value) (w : World) (ρ : Mp) (L : Nat) (H : Heap) (r : AV) (H' : Heap) : Prop :=
  ∃ v w' ρ', s.run P w = .ok v w' ∧ Rel w' ρ' L H' ∧ Pass w ρ H.length w' ρ' H'.length ∧ Sim w' ρ' H'.length L r v
theorem gives_pure {P : Program} {s : Sem Value} {w : World} {ρ : Mp} {L : Nat} {H : Heap} {r : AV} {v : Value} (h : Rel w ρ L H) (hs : s.run P w = .ok v w) (hv : Sim w ρ H.length L r v) : Gives P s w ρ L H r H :=
  ⟨v, w, ρ, hs, h, Pass.refl _ _ _, hv⟩
theorem gives_drew {P : Program} {s : Sem Value} {w : World} {ρ : Mp} {L : Nat} {H : Heap} {r : AV} {v : Value} (h : Rel w ρ L H) (hs : s.run P w = .ok v w.drew) (hv : Sim w.drew ρ H.length L r v) : Gives P s w ρ L H r H :=
  ⟨v, w.drew, ρ, hs, h.same rfl rfl rfl rfl, Pass.same _ _ rfl rfl rfl rfl, hv⟩
section inv
variable {w : World} {ρ : Mp} {N L : Nat} {u : Value}
theorem Sim.v_inv {x : Value} (h : Sim w ρ N L (.v x) u) : u = x := by cases h; rfl
theorem Sim.i_inv {k : IntKind} {n : Th Int} (h : Sim w ρ N L (.i k n) u) : u = .int k (n .u) := by cases h; rfl
theorem Sim.b_inv {p : Th Bool} (h : Sim w ρ N L (.b p) u) : u = .bool (p .u) := by cases h; rfl
theorem Sim.s_inv {x : Th ByteArray} (h : Sim w ρ N L (.s x) u) : u = .string (x .u) := by cases h; rfl
theorem Sim.f_inv {k : FloatKind} {x : Th Nat} (h : Sim w ρ N L (.f k x) u) : ∃ y, u = .float k y ∧ canon k y = x .u := by cases h with | f h => exact ⟨_, rfl, h⟩
theorem Sim.c_inv {k : FloatKind} {x y : Th Nat} (h : Sim w ρ N L (.c k x y) u) : ∃ a b, u = .complex k a b ∧ canon k a = x .u ∧ canon k b = y .u := by cases h with | c h1 h2 => exact ⟨_, _, rfl, h1, h2⟩
theorem Sim.agg_inv {l : List AV} (h : Sim w ρ N L (.agg l) u) : ∃ us : Array Value, u = .agg us ∧ l.length = us.size ∧ ∀ (j : Nat) (a : AV) (x : Value), l[j]? = some a → us[j]? = some x → Sim w ρ N L a x := by
  cases h with | agg h1 h2 => exact ⟨_, rfl, h1, h2⟩
theorem Sim.tup_inv {l : List AV} (h : Sim w ρ N L (.tup l) u) : ∃ us : Array Value, u = .tuple us ∧ l.length = us.size ∧ ∀ (j : Nat) (a : AV) (x : Value), l[j]? = some a → us[j]? = some x → Sim w ρ N L a x := by
  cases h with | tup h1 h2 => exact ⟨_, rfl, h1, h2⟩
end inv

/-! ### Floats -/
def afl (op : BinOp) (k : FloatKind) (x y : Th Nat) : Option AV :=
  match op with
  | .add => some (.f k fun _ => fadd k (x .u) (y .u))
  | .sub => some (.f k fun _ => fsub k (x .u) (y .u))
  | .mul => some (.f k fun _ => fmul k (x .u) (y .u))
  | .quo => some (.f k fun _ => fdiv k (x .u) (y .u))
  | .eql => some (.b fun _ => feq k (x .u) (y .u))
  | .neq => some (.b fun _ => !feq k (x .u) (y .u))
  | .lss => some (.b fun _ => flt k (x .u) (y .u))
  | .gtr => some (.b fun _ => fgt k (x .u) (y .u))
  | .leq => some (.b fun _ => fle k (x .u) (y .u))
  | .geq => some (.b fun _ => fge k (x .u) (y .u))
  | _ => none
section
variable {P : Program} {w : World} {ρ : Mp} {L : Nat} {H : Heap}
theorem run_float_nan (op : BinOp) (t : TypeId) (k : FloatKind) (x y : Nat) (hop : op = .add ∨ op = .sub ∨ op = .mul ∨ op = .quo) (h : floatBits op k x y = none) :
    (binOp op t (.float k x) (.float k y)).run P w = .ok (.float k ((Question.nanBits k x y).cut (w.tape w.drawn (.nanBits k x y)))) w.drew := by
  unfold floatBits at h
  rcases hop with rfl | rfl | rfl | rfl <;> simp only at h <;> simp [binOp, Op.floatArith, h, Question.forced]
theorem sim_nan (k : FloatKind) (y : Nat) (h : isNaN k y = true) (w : World) (N : Nat) (x : Th Nat) (hx : x .u = nanOf k) : Sim w ρ N L (.f k x) (.float k y) := .f ((canon_nan h).trans hx.symm)
theorem gives_arith {op : BinOp} {t : TypeId} {k : FloatKind} {x y : Th Nat} {u u' : Value} (h : Rel w ρ L H) (hop : op = .add ∨ op = .sub ∨ op = .mul ∨ op = .quo)
    (hx : Sim w ρ H.length L (.f k x) u) (hy : Sim w ρ H.length L (.f k y) u') (z : Th Nat) (hz : z .u = fbits op k (x .u) (y .u)) : Gives P (binOp op t u u') w ρ L H (.f k z) H := by
  obtain ⟨a, rfl, ha⟩ := hx.f_inv
  obtain ⟨b, rfl, hb⟩ := hy.f_inv
  unfold fbits at hz
  rw [← ha, ← hb, floatBits_canon] at hz
  cases hr : floatBits op k a b with
  | some r => rw [hr] at hz; exact gives_pure h (run_float_arith w op t k a b r hr) (.f ((canon_of_not (isNaN_floatBits hr)).trans hz.symm))
  | none => rw [hr] at hz; exact gives_drew h (run_float_nan op t k a b hop hr) (sim_nan k _ (isNaN_nanBits k a b _) _ _ _ hz)
theorem run_cmp (op : BinOp) (t : TypeId) (k : FloatKind) (x y : Nat) (b : Bool)
    (h : (op = .eql ∧ b = feq k x y) ∨ (op = .neq ∧ b = !feq k x y) ∨ (op = .lss ∧ b = flt k x y) ∨ (op = .gtr ∧ b = fgt k x y) ∨ (op = .leq ∧ b = fle k x y) ∨ (op = .geq ∧ b = fge k x y)) :
    (binOp op t (.float k x) (.float k y)).run P w = .ok (.bool b) w := by
  rcases h with ⟨rfl, rfl⟩ | ⟨rfl, rfl⟩ | ⟨rfl, rfl⟩ | ⟨rfl, rfl⟩ | ⟨rfl, rfl⟩ | ⟨rfl, rfl⟩ <;> simp [binOp, Op.floatCmp, feq, flt, fgt, fle, fge] <;> rfl
theorem gives_float {op : BinOp} {t : TypeId} {k : FloatKind} {x y : Th Nat} {u u' : Value} {r : AV} (h : Rel w ρ L H) (hr : afl op k x y = some r)
    (hx : Sim w ρ H.length L (.f k x) u) (hy : Sim w ρ H.length L (.f k y) u') : Gives P (binOp op t u u') w ρ L H r H := by
  have ar : ∀ z : Th Nat, (op = .add ∨ op = .sub ∨ op = .mul ∨ op = .quo) → z .u = fbits op k (x .u) (y .u) → Gives P (binOp op t u u') w ρ L H (.f k z) H := fun z ho e => gives_arith h ho hx hy z e
  obtain ⟨a, rfl, ha⟩ := hx.f_inv
  obtain ⟨b, rfl, hb⟩ := hy.f_inv
  have cm : ∀ z : Th Bool, (op = .eql ∧ z .u = feq k a b) ∨ (op = .neq ∧ z .u = !feq k a b) ∨ (op = .lss ∧ z .u = flt k a b) ∨ (op = .gtr ∧ z .u = fgt k a b) ∨ (op = .leq ∧ z .u = fle k a b) ∨ (op = .geq ∧ z .u = fge k a b) →
      Gives P (binOp op t (.float k a) (.float k b)) w ρ L H (.b z) H := fun z hz => gives_pure h (run_cmp op t k a b (z .u) hz) .b
  unfold afl at hr
  have eo := order_canon k a b
  split at hr <;> first
    | (cases hr; exact ar _ (by simp) rfl)
    | (cases hr; refine cm _ ?_; simp [feq, flt, fgt, fle, fge, ← ha, ← hb, eo]; done)
    | (cases hr; done)
end

/-! ### Whole numbers, bools, strings -/
/-- Go's int and int64: the exact result and the obligation that it fits; all other kinds: wrapped. -/
def amk (k : IntKind) (n : Th Int) : AV × Th Prop :=
  match k with
  | .i64 => (.i .i64 n, fun _ => -9223372036854775808 ≤ n .u ∧ n .u ≤ 9223372036854775807)
  | k => (.i k fun _ => k.wrap (n .u), fun _ => True)
def aint (op : BinOp) (k : IntKind) (a b : Th Int) : Option (AV × Th Prop) :=
  match op with
  | .add => some (amk k fun _ => a .u + b .u)
  | .sub => some (amk k fun _ => a .u - b .u)
  | .mul => some (amk k fun _ => a .u * b .u)
  | .quo => match amk k fun _ => (a .u).tdiv (b .u) with
    | (x, p) => some (x, fun _ => b .u ≠ 0 ∧ p .u)
  | .rem => some (.i k fun _ => (a .u).tmod (b .u), fun _ => b .u ≠ 0)
  | .eql => some (.b fun _ => a .u == b .u, fun _ => True)
  | .neq => some (.b fun _ => a .u != b .u, fun _ => True)
  | .lss => some (.b fun _ => decide (a .u < b .u), fun _ => True)
  | .leq => some (.b fun _ => decide (a .u ≤ b .u), fun _ => True)
  | .gtr => some (.b fun _ => decide (b .u < a .u), fun _ => True)
  | .geq => some (.b fun _ => decide (b .u ≤ a .u), fun _ => True)
  | .and => some (.i k fun _ => bits .and k (a .u) (b .u), fun _ => Op.intBits .and k (a .u) (b .u) = pure (.int k (bits .and k (a .u) (b .u))))
  | .or => some (.i k fun _ => bits .or k (a .u) (b .u), fun _ => Op.intBits .or k (a .u) (b .u) = pure (.int k (bits .or k (a .u) (b .u))))
  | .xor => some (.i k fun _ => bits .xor k (a .u) (b .u), fun _ => Op.intBits .xor k (a .u) (b .u) = pure (.int k (bits .xor k (a .u) (b .u))))
  | .andNot => some (.i k fun _ => bits .andNot k (a .u) (b .u), fun _ => Op.intBits .andNot k (a .u) (b .u) = pure (.int k (bits .andNot k (a .u) (b .u))))
  | _ => none
def abool (op : BinOp) (a b : Th Bool) : Option AV :=
  match op with
  | .eql => some (.b fun _ => a .u == b .u)
  | .neq => some (.b fun _ => a .u != b .u)
  | _ => none
def astr (op : BinOp) (a b : Th ByteArray) : Option (AV × Th Prop) :=
  match op with
  | .add => some (.s fun _ => a .u ++ b .u, fun _ => (a .u).size + (b .u).size ≤ 9223372036854775807)
  | .eql => some (.b fun _ => (a .u).toList == (b .u).toList, fun _ => True)
  | .neq => some (.b fun _ => !((a .u).toList == (b .u).toList), fun _ => True)
  | .lss => some (.b fun _ => Op.bytesLess (a .u).toList (b .u).toList, fun _ => True)
  | .leq => some (.b fun _ => Op.bytesLess (a .u).toList (b .u).toList || (a .u).toList == (b .u).toList, fun _ => True)
  | .gtr => some (.b fun _ => !(Op.bytesLess (a .u).toList (b .u).toList || (a .u).toList == (b .u).toList), fun _ => True)
  | .geq => some (.b fun _ => !Op.bytesLess (a .u).toList (b .u).toList, fun _ => True)
  | _ => none
section
variable {P : Program} {w : World} {ρ : Mp} {L : Nat} {H : Heap}
theorem wrap_fits {n : Int} (h : -9223372036854775808 ≤ n ∧ n ≤ 9223372036854775807) : IntKind.i64.wrap n = n := by rw [IntKind.wrap_i64]; omega
theorem gives_mk {k : IntKind} {n : Th Int} {s : Sem Value} (h : Rel w ρ L H) (hs : s.run P w = .ok (.int k (k.wrap (n .u))) w) (hp : (amk k n).2 .u) : Gives P s w ρ L H (amk k n).1 H := by
  cases k <;> first
    | (rw [wrap_fits hp] at hs; exact gives_pure h hs .i)
    | exact gives_pure h hs .i
theorem gives_int {op : BinOp} {t : TypeId} {k : IntKind} {a b : Th Int} {r : AV} {p : Th Prop} (h : Rel w ρ L H) (hr : aint op k a b = some (r, p)) (hp : p .u) :
    Gives P (binOp op t (.int k (a .u)) (.int k (b .u))) w ρ L H r H := by
  have cm : ∀ z : Th Bool, (binOp op t (.int k (a .u)) (.int k (b .u))).run P w = .ok (.bool (z .u)) w → Gives P (binOp op t (.int k (a .u)) (.int k (b .u))) w ρ L H (.b z) H := fun z hz => gives_pure h hz .b
  cases op <;> simp only [aint] at hr
  case add =>
    have e := Option.some.inj hr
    have e1 := congrArg Prod.fst e
    have e2 := congrArg Prod.snd e
    subst e1; subst e2
    exact gives_mk h (by simp [binOp, Op.intArith]) hp
  case sub =>
    have e := Option.some.inj hr
    have e1 := congrArg Prod.fst e
    have e2 := congrArg Prod.snd e
    subst e1; subst e2
    exact gives_mk h (by simp [binOp, Op.intArith]) hp
  case mul =>
    have e := Option.some.inj hr
    have e1 := congrArg Prod.fst e
    have e2 := congrArg Prod.snd e
    subst e1; subst e2
    exact gives_mk h (by simp [binOp, Op.intArith]) hp
  case quo => cases hr; exact gives_mk h (by simp [binOp, Op.intDiv, hp.1]) hp.2
  case rem => cases hr; exact gives_pure h (by simp [binOp, Op.intDiv, hp]) .i
  case eql => cases hr; exact cm _ (by simp [binOp, Op.intCmp])
  case neq => cases hr; exact cm _ (by simp [binOp, Op.intCmp])
  case lss => cases hr; exact cm _ (by simp [binOp, Op.intCmp])
  case leq => cases hr; exact cm _ (by simp [binOp, Op.intCmp])
  case gtr => cases hr; exact cm _ (by simp [binOp, Op.intCmp])
  case geq => cases hr; exact cm _ (by simp [binOp, Op.intCmp])
  case and => cases hr; exact gives_pure h (by simp [binOp, hp]) .i
  case or => cases hr; exact gives_pure h (by simp [binOp, hp]) .i
  case xor => cases hr; exact gives_pure h (by simp [binOp, hp]) .i
  case andNot => cases hr; exact gives_pure h (by simp [binOp, hp]) .i
  all_goals cases hr
theorem gives_bool {op : BinOp} {t : TypeId} {a b : Th Bool} {r : AV} (h : Rel w ρ L H) (ht : P.underlying t = some .bool) (hr : abool op a b = some r) :
    Gives P (binOp op t (.bool (a .u)) (.bool (b .u))) w ρ L H r H := by
  have e0 : ∀ d, (Op.equalIn (d + 1) t (.bool (a .u)) (.bool (b .u))).run P w = .ok (a .u == b .u) w := fun d => by simp [Op.equalIn, run_underlying ht]
  have e : (Op.equal t (.bool (a .u)) (.bool (b .u))).run P w = .ok (a .u == b .u) w := e0 9999
  cases op <;> simp only [abool] at hr <;> cases hr
  · exact gives_pure h (v := .bool (a .u == b .u)) (by simp only [binOp]; simp [e]) .b
  · exact gives_pure h (v := .bool (a .u != b .u)) (by simp only [binOp]; simp [e]; cases a .u <;> cases b .u <;> rfl) .b
theorem gives_str {op : BinOp} {t : TypeId} {a b : Th ByteArray} {r : AV} {p : Th Prop} (h : Rel w ρ L H) (hr : astr op a b = some (r, p)) (hp : p .u) :
    Gives P (binOp op t (.string (a .u)) (.string (b .u))) w ρ L H r H := by
  have cm : ∀ z : Th Bool, (binOp op t (.string (a .u)) (.string (b .u))).run P w = .ok (.bool (z .u)) w → Gives P (binOp op t (.string (a .u)) (.string (b .u))) w ρ L H (.b z) H := fun z hz => gives_pure h hz .b
  cases op <;> simp only [astr] at hr <;> cases hr
  · have : ¬ (9223372036854775807 < ((a .u).size : Int) + ((b .u).size : Int)) := by have : (a .u).size + (b .u).size ≤ 9223372036854775807 := hp; omega
    exact gives_pure h (by simp [binOp, Op.stringOp, this]) .s
  all_goals exact cm _ (by simp [binOp, Op.stringOp])
end
end Go.Aw
namespace Go.Aw

/-! ### Conversions -/
def f2f (s : FloatKind) (x : Nat) (k : FloatKind) : Nat := (floatToFloatBits s x k).getD (nanOf k)
def f2fOk (s : FloatKind) (x : Nat) (k : FloatKind) : Prop := isNaN s x = true ∨ (floatToFloatBits s x k).isSome = true
def ftoi (s : FloatKind) (x : Nat) (k : IntKind) : Int := (floatToIntVal s x k).getD 0
def itof (k : FloatKind) (n : Int) : Nat := k.nearest n
def aconv (tt : TT) (dst : TypeId) (x : AV) : Option (AV × Th Prop) :=
  match tt.desc dst, x with
  | .int k, .i _ n => some (amk k n)
  | .float k, .i _ n => some (.f k fun _ => itof k (n .u), fun _ => True)
  | .int k, .f s x => some (.i k fun _ => ftoi s (x .u) k, fun _ => (floatToIntVal s (x .u) k).isSome = true)
  | .float .f32, .f .f32 x => some (.f .f32 x, fun _ => True)
  | .float .f64, .f .f64 x => some (.f .f64 x, fun _ => True)
  | .float .f64, .f .f32 x => some (.f .f64 fun _ => f2f .f32 (x .u) .f64, fun _ => True)
  | .float .f32, .f .f64 x => some (.f .f32 fun _ => f2f .f64 (x .u) .f32, fun _ => f2fOk .f64 (x .u) .f32)
  | .string, .s x => some (.s x, fun _ => True)
  | .complex .f64, .c .f32 x y => some (.c .f64 (fun _ => f2f .f32 (x .u) .f64) fun _ => f2f .f32 (y .u) .f64, fun _ => True)
  | .complex .f32, .c .f64 x y => some (.c .f32 (fun _ => f2f .f64 (x .u) .f32) fun _ => f2f .f64 (y .u) .f32, fun _ => f2fOk .f64 (x .u) .f32 ∧ f2fOk .f64 (y .u) .f32)
  | _, _ => none

theorem bound_aux (T K : Nat) (h2 : T ≤ 1149) (hk : K < 2 ^ 53) : min (T * 2 ^ 52 + K) (2047 * 2 ^ 52) < 2047 * 2 ^ 52 := by omega
theorem widen_some {x : Nat} (h : isNaN .f32 x = false) : (floatToFloatBits .f32 x .f64).isSome = true := by
  unfold floatToFloatBits
  rw [if_neg (by decide)]
  unfold isNaN at h
  cases hd : FloatKind.f32.decode x with
  | nan s t => rw [hd] at h; cases h
  | infinity s => rfl
  | number s m e =>
    simp only
    have hb : m < 2 ^ 24 ∧ -149 ≤ e ∧ e ≤ 104 := by
      have hs : FloatKind.f32.format.signWeight = 2 ^ 31 := by decide
      have hbin : FloatKind.f32.format.binade = 2 ^ 23 := by decide
      have hinf : FloatKind.f32.format.infRung = 255 * 2 ^ 23 := by decide
      have hlp : FloatKind.f32.format.leastPlace = -149 := by decide
      unfold FloatKind.decode Ieee.Format.read at hd
      rw [hs, hbin, hinf, hlp] at hd
      generalize x % 2 ^ 31 = r at hd
      simp only at hd
      split at hd
      · cases hd; omega
      · split at hd
        · cases hd; omega
        · split at hd <;> cases hd
    have hlow : (FloatKind.f64.decode (FloatKind.f64.encode (.number s m e))).isInfinity = false := by
      have hs : FloatKind.f64.format.signWeight = 2 ^ 63 := by decide
      have hbin : FloatKind.f64.format.binade = 2 ^ 52 := by decide
      have hinf : FloatKind.f64.format.infRung = 2047 * 2 ^ 52 := by decide
      have hlp : FloatKind.f64.format.leastPlace = -1074 := by decide
      have hword : ∀ r, r < 2047 * 2 ^ 52 → (FloatKind.f64.decode (FloatKind.f64.format.word s r)).isInfinity = false := by
        intro r hr
        have hmod : FloatKind.f64.format.word s r % 2 ^ 63 = r := by
          unfold Ieee.Format.word
          rw [hs]
          split <;> omega
        unfold FloatKind.decode Ieee.Format.read
        rw [hs, hbin, hinf, hmod]
        by_cases hlo : r < 2 ^ 52
        · simp only [hlo, if_true]; rfl
        · simp only [hlo, hr, if_true, if_false]; rfl
      unfold FloatKind.encode Ieee.Format.write Ieee.Format.nearest
      simp only
      split
      · exact hword 0 (by decide)
      · rename_i hm
        rw [hinf, hbin, hlp]
        have hlog : m.log2 ≤ 23 := by
          have := (Nat.log2_lt hm).2 hb.1
          omega
        have hfr : (FloatKind.f64.format.fractionBits : Int) = 52 := rfl
        rw [hfr]
        have hlast : max (e + ↑m.log2 - 52) (-1074) = e + ↑m.log2 - 52 := by omega
        rw [hlast]
        have hdrop : (e + ↑m.log2 - 52 - e).toNat = 0 := by omega
        rw [hdrop]
        have hup : (e - (e + ↑m.log2 - 52)).toNat = 52 - m.log2 := by omega
        rw [hup]
        have hcut : Ieee.Toward.even.cut s (m <<< (52 - m.log2)) 0 = m <<< (52 - m.log2) := by
          unfold Ieee.Toward.cut
          simp [Nat.mod_one]
        rw [hcut]
        have hk : m <<< (52 - m.log2) < 2 ^ 53 := by
          have h1 : m < 2 ^ (m.log2 + 1) := Nat.lt_log2_self
          rw [Nat.shiftLeft_eq]
          calc m * 2 ^ (52 - m.log2) < 2 ^ (m.log2 + 1) * 2 ^ (52 - m.log2) := (Nat.mul_lt_mul_right (Nat.two_pow_pos _)).2 h1
            _ = 2 ^ 53 := by rw [← Nat.pow_add]; congr 1; omega
        have h2 : (e + ↑m.log2 - 52 - -1074).toNat ≤ 1149 := by omega
        exact hword _ (bound_aux _ _ h2 hk)
    rw [hlow]
    rfl
theorem canon_f2f {s k : FloatKind} {x r : Nat} (h : floatToFloatBits s x k = some r) (hk : s ≠ k) : canon k r = r := by
  refine canon_of_not ?_
  unfold floatToFloatBits at h
  rw [if_neg hk] at h
  split at h
  · cases h
  · cases h; exact isNaN_encode_inf ..
  · split at h
    · cases h
    · cases h; exact isNaN_encode_number ..
section
variable {P : Program} {w : World} {ρ : Mp} {L : Nat} {H : Heap}
theorem run_conv_nan (src dst : TypeId) (s k : FloatKind) (b : Nat) (hs : (P.underlying src).isSome = true) (hd : P.underlying dst = some (.float k)) (hk : s ≠ k) (hn : isNaN s b = true) :
    (convert src dst (.float s b)).run P w = .ok (.float k ((Question.nanConv k b).cut (w.tape w.drawn (.nanConv k b)))) w.drew := by
  obtain ⟨u, hs'⟩ := Option.isSome_iff_exists.1 hs
  obtain ⟨sg, t, hr⟩ := read_nan hn
  have hr' : s.decode b = .nan sg t := hr
  cases u <;> simp [convert, run_underlying hs', run_underlying hd, Conv.floatToFloat, hk, hr', Question.forced]
theorem gives_f2f {src dst : TypeId} {s k : FloatKind} {x : Th Nat} {u : Value} (h : Rel w ρ L H) (hs : (P.underlying src).isSome = true) (hd : P.underlying dst = some (.float k)) (hk : s ≠ k)
    (hx : Sim w ρ H.length L (.f s x) u) (hok : f2fOk s (x .u) k) : Gives P (convert src dst u) w ρ L H (.f k fun _ => f2f s (x .u) k) H := by
  obtain ⟨b, rfl, hb⟩ := hx.f_inv
  rw [← hb] at hok
  cases hn : isNaN s b with
  | true =>
    have e : floatToFloatBits s (canon s b) k = none := by
      obtain ⟨sg, t, hr⟩ := read_nan (k := s) (x := canon s b) (by rw [isNaN_canon]; exact hn)
      have hr' : s.decode (canon s b) = .nan sg t := hr
      unfold floatToFloatBits
      rw [if_neg hk, hr']
    exact gives_drew h (run_conv_nan src dst s k b hs hd hk hn) (sim_nan k _ (isNaN_nanConv k b _) _ _ _ (by unfold f2f; rw [← hb, e]; rfl))
  | false =>
    rw [canon_of_not hn] at hok hb
    obtain ⟨r, hr⟩ := Option.isSome_iff_exists.1 (hok.resolve_left (by simp [hn]))
    exact gives_pure h (run_convert_float_float w src dst s k b r hs hd hr) (.f ((canon_f2f hr hk).trans (by unfold f2f; rw [← hb, hr]; rfl)))
/-- One part of a complex number, as the other kind. -/
theorem part_f2f {s k : FloatKind} (w : World) (b x : Nat) (hb : canon s b = x) (hk : s ≠ k) (hok : f2fOk s x k) : ∃ r w', (Conv.floatToFloat s b k).run P w = .ok (.float k r) w' ∧ canon k r = f2f s x k ∧ w'.heap = w.heap ∧ w'.os = w.os ∧ w'.tape = w.tape ∧ w'.output = w.output := by
  rw [← hb] at hok
  cases hn : isNaN s b with
  | true =>
    have e : floatToFloatBits s (canon s b) k = none := by
      obtain ⟨sg, t, hr⟩ := read_nan (k := s) (x := canon s b) (by rw [isNaN_canon]; exact hn)
      have hr' : s.decode (canon s b) = .nan sg t := hr
      unfold floatToFloatBits
      rw [if_neg hk, hr']
    obtain ⟨sg, t, hr⟩ := read_nan hn
    have hr' : s.decode b = .nan sg t := hr
    exact ⟨_, w.drew, by simp [Conv.floatToFloat, hk, hr', Question.forced], (canon_nan (isNaN_nanConv k b (w.tape w.drawn (.nanConv k b)))).trans (by unfold f2f; rw [← hb, e]; rfl), rfl, rfl, rfl, rfl⟩
  | false =>
    rw [canon_of_not hn] at hok hb
    obtain ⟨r, hr⟩ := Option.isSome_iff_exists.1 (hok.resolve_left (by simp [hn]))
    refine ⟨r, w, ?_, (canon_f2f hr hk).trans (by unfold f2f; rw [← hb, hr]; rfl), rfl, rfl, rfl, rfl⟩
    unfold floatToFloatBits at hr
    rw [if_neg hk] at hr
    unfold Conv.floatToFloat
    rw [if_neg hk]
    split at hr
    · cases hr
    · cases hr; simp_all
    · split at hr
      · cases hr
      · cases hr; simp_all
theorem gives_c2c {src dst : TypeId} {s k : FloatKind} {x y : Th Nat} {u : Value} (h : Rel w ρ L H) (hs : (P.underlying src).isSome = true) (hd : P.underlying dst = some (.complex k)) (hk : s ≠ k)
    (hx : Sim w ρ H.length L (.c s x y) u) (h1 : f2fOk s (x .u) k) (h2 : f2fOk s (y .u) k) : Gives P (convert src dst u) w ρ L H (.c k (fun _ => f2f s (x .u) k) fun _ => f2f s (y .u) k) H := by
  obtain ⟨a, b, rfl, ha, hb⟩ := hx.c_inv
  obtain ⟨u, hs'⟩ := Option.isSome_iff_exists.1 hs
  obtain ⟨r1, w1, q1, q2, q3, q4, q5, q6⟩ := part_f2f (P := P) w a (x .u) ha hk h1
  obtain ⟨r2, w2, s1, s2, s3, s4, s5, s6⟩ := part_f2f (P := P) w1 b (y .u) hb hk h2
  refine ⟨.complex k r1 r2, w2, ρ, ?_, h.same (s3.trans q3) (s4.trans q4) (s5.trans q5) (s6.trans q6), Pass.same _ _ (s3.trans q3) (s4.trans q4) (s5.trans q5) (s6.trans q6), .c q2 s2⟩
  cases u <;> simp [convert, run_underlying hs', run_underlying hd, Conv.complexToComplex, q1, s1]
theorem run_conv_same (src dst : TypeId) (k : FloatKind) (b : Nat) (hs : (P.underlying src).isSome = true) (hd : P.underlying dst = some (.float k)) :
    (convert src dst (.float k b)).run P w = .ok (.float k b) w := by
  obtain ⟨u, hs'⟩ := Option.isSome_iff_exists.1 hs
  cases u <;> simp [convert, run_underlying hs', run_underlying hd, Conv.floatToFloat]
theorem run_conv_itof (src dst : TypeId) (k : FloatKind) (ik : IntKind) (n : Int) (hs : (P.underlying src).isSome = true) (hd : P.underlying dst = some (.float k)) :
    (convert src dst (.int ik n)).run P w = .ok (.float k (itof k n)) w := by
  obtain ⟨u, hs'⟩ := Option.isSome_iff_exists.1 hs
  cases u <;> simp [convert, run_underlying hs', run_underlying hd, Conv.intToFloat, itof]
theorem run_conv_int (src dst : TypeId) (k ik : IntKind) (n : Int) (hs : (P.underlying src).isSome = true) (hd : P.underlying dst = some (.int k)) :
    (convert src dst (.int ik n)).run P w = .ok (.int k (k.wrap n)) w := by
  obtain ⟨u, hs'⟩ := Option.isSome_iff_exists.1 hs
  cases u <;> simp [convert, run_underlying hs', run_underlying hd, Conv.intToInt]
theorem run_conv_str (src dst : TypeId) (s : ByteArray) (hs : P.underlying src = some .string) (hd : P.underlying dst = some .string) :
    (convert src dst (.string s)).run P w = .ok (.string s) w := by
  simp [convert, run_underlying hs, run_underlying hd]
theorem floatToIntVal_canon {s : FloatKind} {x : Nat} {k : IntKind} (h : (floatToIntVal s (canon s x) k).isSome = true) : canon s x = x := by
  cases hn : isNaN s x with
  | false => exact canon_of_not hn
  | true =>
    obtain ⟨sg, t, hr⟩ := read_nan (k := s) (x := canon s x) (by rw [isNaN_canon]; exact hn)
    have hr' : s.decode (canon s x) = .nan sg t := hr
    unfold floatToIntVal at h
    rw [hr'] at h
    simp [Ieee.Datum.toInt, Ieee.Datum.integral] at h
theorem gives_conv {tt : TT} (htt : TTok P tt) {src dst : TypeId} {x r : AV} {p : Th Prop} {u : Value} (h : Rel w ρ L H) (hsrc : tt.desc src ≠ .invalid) (hstr : tt.desc dst = .string → tt.desc src = .string)
    (hr : aconv tt dst x = some (r, p)) (hp : p .u) (hx : Sim w ρ H.length L x u) : Gives P (convert src dst u) w ρ L H r H := by
  have hs : (P.underlying src).isSome = true := by rw [htt.desc rfl hsrc]; rfl
  have dd : ∀ d, tt.desc dst = d → d ≠ .invalid → P.underlying dst = some d := fun d e hn => htt.desc e hn
  unfold aconv at hr
  split at hr
  · rename_i k kk n e
    cases hx.i_inv
    have e0 := Option.some.inj hr
    have e1 := congrArg Prod.fst e0
    have e2 := congrArg Prod.snd e0
    subst e1; subst e2
    exact gives_mk h (run_conv_int src dst k kk (n .u) hs (dd _ e (by simp))) hp
  · rename_i k kk n e
    cases hx.i_inv
    cases hr
    exact gives_pure h (run_conv_itof src dst k kk (n .u) hs (dd _ e (by simp))) (.f (canon_of_not (isNaN_encode_number ..)))
  · rename_i k s y e
    obtain ⟨b, rfl, hb⟩ := hx.f_inv
    cases hr
    have hp' : (floatToIntVal s (y .u) k).isSome = true := hp
    rw [← hb] at hp'
    have hc := floatToIntVal_canon hp'
    rw [hc] at hp'
    obtain ⟨n, hn⟩ := Option.isSome_iff_exists.1 hp'
    have : Sim w ρ H.length L (.i k fun _ => ftoi s (y .u) k) (.int k n) := by
      have e : n = ftoi s (y .u) k := by unfold ftoi; rw [← hb, hc, hn]; rfl
      subst e
      exact .i
    exact gives_pure h (run_convert_float_int w src dst s k b n hs (dd _ e (by simp)) hn) this
  · rename_i y e
    obtain ⟨b, rfl, hb⟩ := hx.f_inv
    cases hr
    exact gives_pure h (run_conv_same src dst _ b hs (dd _ e (by simp))) (.f hb)
  · rename_i y e
    obtain ⟨b, rfl, hb⟩ := hx.f_inv
    cases hr
    exact gives_pure h (run_conv_same src dst _ b hs (dd _ e (by simp))) (.f hb)
  · rename_i y e
    cases hr
    refine gives_f2f h hs (dd _ e (by simp)) (by simp) hx ?_
    cases hn : isNaN .f32 (y .u) with
    | true => exact .inl hn
    | false => exact .inr (widen_some hn)
  · rename_i y e
    cases hr
    exact gives_f2f h hs (dd _ e (by simp)) (by simp) hx hp
  · rename_i s e
    cases hx.s_inv
    cases hr
    exact gives_pure h (run_conv_str src dst _ (htt.desc (hstr e) (by simp)) (dd _ e (by simp))) .s
  · rename_i y z e
    cases hr
    have wide : ∀ q, f2fOk .f32 q .f64 := fun q => by
      cases hn : isNaN .f32 q with
      | true => exact .inl hn
      | false => exact .inr (widen_some hn)
    exact gives_c2c h hs (dd _ e (by simp)) (by simp) hx (wide _) (wide _)
  · rename_i y z e
    cases hr
    exact gives_c2c h hs (dd _ e (by simp)) (by simp) hx hp.1 hp.2
  · cases hr
end
end Go.Aw
