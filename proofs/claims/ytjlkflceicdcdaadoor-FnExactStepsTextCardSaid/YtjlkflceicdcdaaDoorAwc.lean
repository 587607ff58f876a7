/- What an operation on scalars makes of abstract values, and that the machine does just that. -/
import Derived.Test.YtjlkflceicdcdaaDoorAwb
import Derived.WalkSpells
import Derived.WideLaws
namespace Go.Aw

structure TI where
  desc : TypeDesc
  size : Nat
  bytes : Nat
  zero : List AV
def zeroAV : Value → AV
  | .float k b => .f k fun _ => b
  | .complex k a b => .c k (fun _ => a) fun _ => b
  | .int k n => .i k fun _ => n
  | .bool p => .b fun _ => p
  | .string x => .s fun _ => x
  | v => .v v
def okZero : Value → Bool
  | .float k b => canon k b == b
  | .complex k a b => canon k a == a && canon k b == b
  | .int .. | .bool _ | .string _ => true
  | v => plain v
def TIok (P : Program) (t : TypeId) (i : TI) : Prop :=
  P.underlying t = some i.desc ∧ ∃ info z, P.info? t = some info ∧ info.size = i.size ∧ info.bytes = i.bytes ∧ info.zero = some z ∧ z.cells.size = i.size ∧ i.zero = z.cells.toList.map zeroAV ∧ z.cells.toList.all okZero = true
/-- A table of types, right of the program where it says something. -/
def TTok (P : Program) (tt : List (Option TI)) : Prop := ∀ t i, tt[t]? = some (some i) → TIok P t i
abbrev TT := List (Option TI)
def TT.desc (tt : TT) (t : TypeId) : TypeDesc := match tt[t]? with | some (some i) => i.desc | _ => .invalid
theorem TTok.desc {P : Program} {tt : TT} (h : TTok P tt) {t : TypeId} {d : TypeDesc} (hd : tt.desc t = d) (hn : d ≠ .invalid) : P.underlying t = some d := by
  unfold TT.desc at hd
  split at hd
  · rename_i i hi; exact hd ▸ (h t i hi).1
  · exact absurd hd.symm hn

/-! ### What is stated of an operation -/
def Gives (P : Program) (s : Sem Value) (w : World) (ρ : Mp) (L : Nat) (H : Heap) (r : AV) (H' : Heap) : Prop :=
  ∃ v w' ρ', s.run P w = .ok v w' ∧ Rel w' ρ' L H' ∧ Pass w ρ H.length w' ρ' H'.length ∧ Sim w' ρ' H'.length L r v
theorem gives_pure {P : Program} {s : Sem Value} {w : World} {ρ : Mp} {L : Nat} {H : Heap} {r : AV} {v : Value} (h : Rel w ρ L H) (hs : s.run P w = .ok v w) (hv : Sim w ρ H.length L r v) : Gives P s w ρ L H r H :=
  ⟨v, w, ρ, hs, h, Pass.refl _ _ _, hv⟩
theorem gives_drew {P : Program} {s : Sem Value} {w : World} {ρ : Mp} {L : Nat} {H : Heap} {r : AV} {v : Value} (h : Rel w ρ L H) (hs : s.run P w = .ok v w.drew) (hv : Sim w.drew ρ H.length L r v) : Gives P s w ρ L H r H :=
  ⟨v, w.drew, ρ, hs, h.same rfl rfl rfl rfl, Pass.same _ _ rfl rfl rfl rfl, hv⟩
section inv
variable {w : World} {ρ : Mp} {N L : Nat} {u : Value}
theorem Sim.v_inv {x : Value} (h : Sim w ρ N L (.v x) u) : u = x := by cases h; rfl
theorem Sim.i_inv {k : IntKind} {n : Th Int} (h : Sim w ρ N L (.i k n) u) : u = .int k (n .u) := by cases h; rfl
theorem Sim.b_inv {p : Th Bool} (h : Sim w ρ N L (.b p) u) : u = .bool (p .u) := by cases h; rfl
theorem Sim.s_inv {x : Th ByteArray} (h : Sim w ρ N L (.s x) u) : u = .string (x .u) := by cases h; rfl
theorem Sim.f_inv {k : FloatKind} {x : Th Nat} (h : Sim w ρ N L (.f k x) u) : ∃ y, u = .float k y ∧ canon k y = x .u := by cases h with | f h => exact ⟨_, rfl, h⟩
theorem Sim.c_inv {k : FloatKind} {x y : Th Nat} (h : Sim w ρ N L (.c k x y) u) : ∃ a b, u = .complex k a b ∧ canon k a = x .u ∧ canon k b = y .u := by cases h with | c h1 h2 => exact ⟨_, _, rfl, h1, h2⟩
theorem Sim.agg_inv {l : List AV} (h : Sim w ρ N L (.agg l) u) : ∃ us : Array Value, u = .agg us ∧ l.length = us.size ∧ ∀ (j : Nat) (a : AV) (x : Value), l[j]? = some a → us[j]? = some x → Sim w ρ N L a x := by
  cases h with | agg h1 h2 => exact ⟨_, rfl, h1, h2⟩
theorem Sim.tup_inv {l : List AV} (h : Sim w ρ N L (.tup l) u) : ∃ us : Array Value, u = .tuple us ∧ l.length = us.size ∧ ∀ (j : Nat) (a : AV) (x : Value), l[j]? = some a → us[j]? = some x → Sim w ρ N L a x := by
  cases h with | tup h1 h2 => exact ⟨_, rfl, h1, h2⟩
end inv

/-! ### Floats -/
def afl (op : BinOp) (k : FloatKind) (x y : Th Nat) : Option AV :=
  match op with
  | .add => some (.f k fun _ => fadd k (x .u) (y .u))
  | .sub => some (.f k fun _ => fsub k (x .u) (y .u))
  | .mul => some (.f k fun _ => fmul k (x .u) (y .u))
  | .quo => some (.f k fun _ => fdiv k (x .u) (y .u))
  | .eql => some (.b fun _ => feq k (x .u) (y .u))
  | .neq => some (.b fun _ => !feq k (x .u) (y .u))
  | .lss => some (.b fun _ => flt k (x .u) (y .u))
  | .gtr => some (.b fun _ => fgt k (x .u) (y .u))
  | .leq => some (.b fun _ => fle k (x .u) (y .u))
  | .geq => some (.b fun _ => fge k (x .u) (y .u))
  | _ => none
section
variable {P : Program} {w : World} {ρ : Mp} {L : Nat} {H : Heap}
theorem run_float_nan (op : BinOp) (t : TypeId) (k : FloatKind) (x y : Nat) (hop : op = .add ∨ op = .sub ∨ op = .mul ∨ op = .quo) (h : floatBits op k x y = none) :
    (binOp op t (.float k x) (.float k y)).run P w = .ok (.float k ((Question.nanBits k x y).cut (w.tape w.drawn (.nanBits k x y)))) w.drew := by
  unfold floatBits at h
  rcases hop with rfl | rfl | rfl | rfl <;> simp only at h <;> simp [binOp, Op.floatArith, h, Question.forced]
theorem sim_nan (k : FloatKind) (y : Nat) (h : isNaN k y = true) (w : World) (N : Nat) (x : Th Nat) (hx : x .u = nanOf k) : Sim w ρ N L (.f k x) (.float k y) := .f ((canon_nan h).trans hx.symm)
theorem gives_arith {op : BinOp} {t : TypeId} {k : FloatKind} {x y : Th Nat} {u u' : Value} (h : Rel w ρ L H) (hop : op = .add ∨ op = .sub ∨ op = .mul ∨ op = .quo)
    (hx : Sim w ρ H.length L (.f k x) u) (hy : Sim w ρ H.length L (.f k y) u') (z : Th Nat) (hz : z .u = fbits op k (x .u) (y .u)) : Gives P (binOp op t u u') w ρ L H (.f k z) H := by
  obtain ⟨a, rfl, ha⟩ := hx.f_inv
  obtain ⟨b, rfl, hb⟩ := hy.f_inv
  unfold fbits at hz
  rw [← ha, ← hb, floatBits_canon] at hz
  cases hr : floatBits op k a b with
  | some r => rw [hr] at hz; exact gives_pure h (run_float_arith w op t k a b r hr) (.f ((canon_of_not (isNaN_floatBits hr)).trans hz.symm))
  | none => rw [hr] at hz; exact gives_drew h (run_float_nan op t k a b hop hr) (sim_nan k _ (isNaN_nanBits k a b _) _ _ _ hz)
theorem run_cmp (op : BinOp) (t : TypeId) (k : FloatKind) (x y : Nat) (b : Bool)
    (h : (op = .eql ∧ b = feq k x y) ∨ (op = .neq ∧ b = !feq k x y) ∨ (op = .lss ∧ b = flt k x y) ∨ (op = .gtr ∧ b = fgt k x y) ∨ (op = .leq ∧ b = fle k x y) ∨ (op = .geq ∧ b = fge k x y)) :
    (binOp op t (.float k x) (.float k y)).run P w = .ok (.bool b) w := by
  rcases h with ⟨rfl, rfl⟩ | ⟨rfl, rfl⟩ | ⟨rfl, rfl⟩ | ⟨rfl, rfl⟩ | ⟨rfl, rfl⟩ | ⟨rfl, rfl⟩ <;> simp [binOp, Op.floatCmp, feq, flt, fgt, fle, fge] <;> rfl
theorem gives_float {op : BinOp} {t : TypeId} {k : FloatKind} {x y : Th Nat} {u u' : Value} {r : AV} (h : Rel w ρ L H) (hr : afl op k x y = some r)
    (hx : Sim w ρ H.length L (.f k x) u) (hy : Sim w ρ H.length L (.f k y) u') : Gives P (binOp op t u u') w ρ L H r H := by
  have ar : ∀ z : Th Nat, (op = .add ∨ op = .sub ∨ op = .mul ∨ op = .quo) → z .u = fbits op k (x .u) (y .u) → Gives P (binOp op t u u') w ρ L H (.f k z) H := fun z ho e => gives_arith h ho hx hy z e
  obtain ⟨a, rfl, ha⟩ := hx.f_inv
  obtain ⟨b, rfl, hb⟩ := hy.f_inv
  have cm : ∀ z : Th Bool, (op = .eql ∧ z .u = feq k a b) ∨ (op = .neq ∧ z .u = !feq k a b) ∨ (op = .lss ∧ z .u = flt k a b) ∨ (op = .gtr ∧ z .u = fgt k a b) ∨ (op = .leq ∧ z .u = fle k a b) ∨ (op = .geq ∧ z .u = fge k a b) →
      Gives P (binOp op t (.float k a) (.float k b)) w ρ L H (.b z) H := fun z hz => gives_pure h (run_cmp op t k a b (z .u) hz) .b
  unfold afl at hr
  have eo := order_canon k a b
  split at hr <;> first
    | (cases hr; exact ar _ (by simp) rfl)
    | (cases hr; refine cm _ ?_; simp [feq, flt, fgt, fle, fge, ← ha, ← hb, eo]; done)
    | (cases hr; done)
end

/-! ### Whole numbers, bools, strings -/
/-- Go's int and int64: the exact result and the obligation that it fits; all other kinds: wrapped. -/
def amk (k : IntKind) (n : Th Int) : AV × Th Prop :=
  match k with
  | .i64 => (.i .i64 n, fun _ => -9223372036854775808 ≤ n .u ∧ n .u ≤ 9223372036854775807)
  | k => (.i k fun _ => k.wrap (n .u), fun _ => True)
def aint (op : BinOp) (k : IntKind) (a b : Th Int) : Option (AV × Th Prop) :=
  match op with
  | .add => some (amk k fun _ => a .u + b .u)
  | .sub => some (amk k fun _ => a .u - b .u)
  | .mul => some (amk k fun _ => a .u * b .u)
  | .quo => match amk k fun _ => (a .u).tdiv (b .u) with
    | (x, p) => some (x, fun _ => b .u ≠ 0 ∧ p .u)
  | .rem => some (.i k fun _ => (a .u).tmod (b .u), fun _ => b .u ≠ 0)
  | .eql => some (.b fun _ => a .u == b .u, fun _ => True)
  | .neq => some (.b fun _ => a .u != b .u, fun _ => True)
  | .lss => some (.b fun _ => decide (a .u < b .u), fun _ => True)
  | .leq => some (.b fun _ => decide (a .u ≤ b .u), fun _ => True)
  | .gtr => some (.b fun _ => decide (b .u < a .u), fun _ => True)
  | .geq => some (.b fun _ => decide (b .u ≤ a .u), fun _ => True)
  | .and => some (.i k fun _ => bits .and k (a .u) (b .u), fun _ => Op.intBits .and k (a .u) (b .u) = pure (.int k (bits .and k (a .u) (b .u))))
  | .or => some (.i k fun _ => bits .or k (a .u) (b .u), fun _ => Op.intBits .or k (a .u) (b .u) = pure (.int k (bits .or k (a .u) (b .u))))
  | .xor => some (.i k fun _ => bits .xor k (a .u) (b .u), fun _ => Op.intBits .xor k (a .u) (b .u) = pure (.int k (bits .xor k (a .u) (b .u))))
  | _ => none
def abool (op : BinOp) (a b : Th Bool) : Option AV :=
  match op with
  | .eql => some (.b fun _ => a .u == b .u)
  | .neq => some (.b fun _ => a .u != b .u)
  | _ => none
def astr (op : BinOp) (a b : Th ByteArray) : Option (AV × Th Prop) :=
  match op with
  | .add => some (.s fun _ => a .u ++ b .u, fun _ => (a .u).size + (b .u).size ≤ 9223372036854775807)
  | .eql => some (.b fun _ => (a .u).toList == (b .u).toList, fun _ => True)
  | .neq => some (.b fun _ => !((a .u).toList == (b .u).toList), fun _ => True)
  | .lss => some (.b fun _ => Op.bytesLess (a .u).toList (b .u).toList, fun _ => True)
  | .leq => some (.b fun _ => Op.bytesLess (a .u).toList (b .u).toList || (a .u).toList == (b .u).toList, fun _ => True)
  | .gtr => some (.b fun _ => !(Op.bytesLess (a .u).toList (b .u).toList || (a .u).toList == (b .u).toList), fun _ => True)
  | .geq => some (.b fun _ => !Op.bytesLess (a .u).toList (b .u).toList, fun _ => True)
  | _ => none
section
variable {P : Program} {w : World} {ρ : Mp} {L : Nat} {H : Heap}
theorem wrap_fits {n : Int} (h : -9223372036854775808 ≤ n ∧ n ≤ 9223372036854775807) : IntKind.i64.wrap n = n := by rw [IntKind.wrap_i64]; omega
theorem gives_mk {k : IntKind} {n : Th Int} {s : Sem Value} (h : Rel w ρ L H) (hs : s.run P w = .ok (.int k (k.wrap (n .u))) w) (hp : (amk k n).2 .u) : Gives P s w ρ L H (amk k n).1 H := by
  cases k <;> first
    | (rw [wrap_fits hp] at hs; exact gives_pure h hs .i)
    | exact gives_pure h hs .i
theorem gives_int {op : BinOp} {t : TypeId} {k : IntKind} {a b : Th Int} {r : AV} {p : Th Prop} (h : Rel w ρ L H) (hr : aint op k a b = some (r, p)) (hp : p .u) :
    Gives P (binOp op t (.int k (a .u)) (.int k (b .u))) w ρ L H r H := by
  have cm : ∀ z : Th Bool, (binOp op t (.int k (a .u)) (.int k (b .u))).run P w = .ok (.bool (z .u)) w → Gives P (binOp op t (.int k (a .u)) (.int k (b .u))) w ρ L H (.b z) H := fun z hz => gives_pure h hz .b
  cases op <;> simp only [aint] at hr
  case add =>
    have e := Option.some.inj hr
    have e1 := congrArg Prod.fst e
    have e2 := congrArg Prod.snd e
    subst e1; subst e2
    exact gives_mk h (by simp [binOp, Op.intArith]) hp
  case sub =>
    have e := Option.some.inj hr
    have e1 := congrArg Prod.fst e
    have e2 := congrArg Prod.snd e
    subst e1; subst e2
    exact gives_mk h (by simp [binOp, Op.intArith]) hp
  case mul =>
    have e := Option.some.inj hr
    have e1 := congrArg Prod.fst e
    have e2 := congrArg Prod.snd e
    subst e1; subst e2
    exact gives_mk h (by simp [binOp, Op.intArith]) hp
  case quo => cases hr; exact gives_mk h (by simp [binOp, Op.intDiv, hp.1]) hp.2
  case rem => cases hr; exact gives_pure h (by simp [binOp, Op.intDiv, hp]) .i
  case eql => cases hr; exact cm _ (by simp [binOp, Op.intCmp])
  case neq => cases hr; exact cm _ (by simp [binOp, Op.intCmp])
  case lss => cases hr; exact cm _ (by simp [binOp, Op.intCmp])
  case leq => cases hr; exact cm _ (by simp [binOp, Op.intCmp])
  case gtr => cases hr; exact cm _ (by simp [binOp, Op.intCmp])
  case geq => cases hr; exact cm _ (by simp [binOp, Op.intCmp])
  case and => cases hr; exact gives_pure h (by simp [binOp, hp]) .i
  case or => cases hr; exact gives_pure h (by simp [binOp, hp]) .i
  case xor => cases hr; exact gives_pure h (by simp [binOp, hp]) .i
  all_goals cases hr
theorem gives_bool {op : BinOp} {t : TypeId} {a b : Th Bool} {r : AV} (h : Rel w ρ L H) (ht : P.underlying t = some .bool) (hr : abool op a b = some r) :
    Gives P (binOp op t (.bool (a .u)) (.bool (b .u))) w ρ L H r H := by
  have e0 : ∀ d, (Op.equalIn (d + 1) t (.bool (a .u)) (.bool (b .u))).run P w = .ok (a .u == b .u) w := fun d => by simp [Op.equalIn, run_underlying ht]
  have e : (Op.equal t (.bool (a .u)) (.bool (b .u))).run P w = .ok (a .u == b .u) w := e0 9999
  cases op <;> simp only [abool] at hr <;> cases hr
  · exact gives_pure h (v := .bool (a .u == b .u)) (by simp only [binOp]; simp [e]) .b
  · exact gives_pure h (v := .bool (a .u != b .u)) (by simp only [binOp]; simp [e]; cases a .u <;> cases b .u <;> rfl) .b
theorem gives_str {op : BinOp} {t : TypeId} {a b : Th ByteArray} {r : AV} {p : Th Prop} (h : Rel w ρ L H) (hr : astr op a b = some (r, p)) (hp : p .u) :
    Gives P (binOp op t (.string (a .u)) (.string (b .u))) w ρ L H r H := by
  have cm : ∀ z : Th Bool, (binOp op t (.string (a .u)) (.string (b .u))).run P w = .ok (.bool (z .u)) w → Gives P (binOp op t (.string (a .u)) (.string (b .u))) w ρ L H (.b z) H := fun z hz => gives_pure h hz .b
  cases op <;> simp only [astr] at hr <;> cases hr
  · have : ¬ (9223372036854775807 < ((a .u).size : Int) + ((b .u).size : Int)) := by have : (a .u).size + (b .u).size ≤ 9223372036854775807 := hp; omega
    exact gives_pure h (by simp [binOp, Op.stringOp, this]) .s
  all_goals exact cm _ (by simp [binOp, Op.stringOp])
end
end Go.Aw
