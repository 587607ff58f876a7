/- Canonical floats: every NaN of a kind is one word; what the operations give on canonical words. -/
import Derived.Laws.FloatArith
import Derived.Laws.Cover2
namespace Go.Aw

def nanOf : FloatKind → Nat
  | .f32 => 2143289344
  | .f64 => 9221120237041090560
def isNaN (k : FloatKind) (x : Nat) : Bool := (k.decode x).isNaN
/-- The word, all NaNs being one. -/
def canon (k : FloatKind) (x : Nat) : Nat := bif isNaN k x then nanOf k else x
def fbits (op : BinOp) (k : FloatKind) (x y : Nat) : Nat := (floatBits op k x y).getD (nanOf k)
def fadd (k : FloatKind) (x y : Nat) : Nat := (k.format.add x y).getD (nanOf k)
def fsub (k : FloatKind) (x y : Nat) : Nat := (k.format.sub x y).getD (nanOf k)
def fmul (k : FloatKind) (x y : Nat) : Nat := (k.format.mul x y).getD (nanOf k)
def fdiv (k : FloatKind) (x y : Nat) : Nat := (k.format.div x y).getD (nanOf k)
def fsqrt (k : FloatKind) (x : Nat) : Nat := (k.format.sqrt x).getD (nanOf k)
def feq (k : FloatKind) (x y : Nat) : Bool := k.format.order x y == some .eq
def flt (k : FloatKind) (x y : Nat) : Bool := k.format.order x y == some .lt
def fgt (k : FloatKind) (x y : Nat) : Bool := k.format.order x y == some .gt
def fle (k : FloatKind) (x y : Nat) : Bool := flt k x y || feq k x y
def fge (k : FloatKind) (x y : Nat) : Bool := fgt k x y || feq k x y
def fneg (k : FloatKind) (x : Nat) : Nat := bif isNaN k x then nanOf k else Op.negFloat k x

theorem isNaN_nanOf (k : FloatKind) : isNaN k (nanOf k) = true := by cases k <;> decide
theorem canon_nan {k : FloatKind} {x : Nat} (h : isNaN k x = true) : canon k x = nanOf k := by simp [canon, h]
theorem canon_of_not {k : FloatKind} {x : Nat} (h : isNaN k x = false) : canon k x = x := by simp [canon, h]
theorem isNaN_canon (k : FloatKind) (x : Nat) : isNaN k (canon k x) = isNaN k x := by
  unfold canon
  cases h : isNaN k x
  · simpa using h
  · simpa using isNaN_nanOf k
@[simp] theorem canon_canon (k : FloatKind) (x : Nat) : canon k (canon k x) = canon k x := by
  cases h : isNaN k x
  · rw [canon_of_not h, canon_of_not h]
  · rw [canon_nan h, canon_nan (isNaN_nanOf k)]
@[simp] theorem canon_nanOf (k : FloatKind) : canon k (nanOf k) = nanOf k := canon_nan (isNaN_nanOf k)

theorem read_nan {k : FloatKind} {x : Nat} (h : isNaN k x = true) : ∃ s t, k.format.read x = .nan s t := by
  unfold isNaN FloatKind.decode Ieee.Datum.isNaN at h
  cases hr : k.format.read x with
  | nan s t => exact ⟨s, t, rfl⟩
  | number => simp [hr] at h
  | infinity => simp [hr] at h
/-- What an operation gives does not hang on which NaN it meets. -/
theorem two_canon {α : Type} (F : Ieee.Datum → Ieee.Datum → Option α) (h1 : ∀ s t d, F (.nan s t) d = none) (h2 : ∀ d s t, F d (.nan s t) = none) (k : FloatKind) (x y : Nat) :
    F (k.format.read (canon k x)) (k.format.read (canon k y)) = F (k.format.read x) (k.format.read y) := by
  cases hx : isNaN k x
  · rw [canon_of_not hx]
    cases hy : isNaN k y
    · rw [canon_of_not hy]
    · obtain ⟨s, t, e⟩ := read_nan hy
      obtain ⟨s', t', e'⟩ := read_nan (k := k) (x := canon k y) (by rw [isNaN_canon]; exact hy)
      rw [e, e', h2, h2]
  · obtain ⟨s, t, e⟩ := read_nan hx
    obtain ⟨s', t', e'⟩ := read_nan (k := k) (x := canon k x) (by rw [isNaN_canon]; exact hx)
    rw [e, e', h1, h1]
theorem sum_nan_l (s : Bool) (t : Nat) (d : Ieee.Datum) : Ieee.Datum.sum (.nan s t) d = none := by cases d <;> rfl
theorem sum_nan_r (d : Ieee.Datum) (s : Bool) (t : Nat) : Ieee.Datum.sum d (.nan s t) = none := by cases d <;> rfl
theorem product_nan_l (s : Bool) (t : Nat) (d : Ieee.Datum) : Ieee.Datum.product (.nan s t) d = none := by cases d <;> rfl
theorem product_nan_r (d : Ieee.Datum) (s : Bool) (t : Nat) : Ieee.Datum.product d (.nan s t) = none := by cases d <;> rfl
theorem quotient_nan_l (n : Nat) (s : Bool) (t : Nat) (d : Ieee.Datum) : Ieee.Datum.quotient n (.nan s t) d = none := by cases d <;> rfl
theorem quotient_nan_r (n : Nat) (d : Ieee.Datum) (s : Bool) (t : Nat) : Ieee.Datum.quotient n d (.nan s t) = none := by cases d <;> rfl
theorem order_nan_l (s : Bool) (t : Nat) (d : Ieee.Datum) : Ieee.Datum.order (.nan s t) d = none := by cases d <;> rfl
theorem order_nan_r (d : Ieee.Datum) (s : Bool) (t : Nat) : Ieee.Datum.order d (.nan s t) = none := by cases d <;> rfl

theorem add_canon (k : FloatKind) (x y : Nat) : k.format.add (canon k x) (canon k y) = k.format.add x y := by
  unfold Ieee.Format.add; rw [two_canon Ieee.Datum.sum sum_nan_l sum_nan_r]
theorem mul_canon (k : FloatKind) (x y : Nat) : k.format.mul (canon k x) (canon k y) = k.format.mul x y := by
  unfold Ieee.Format.mul; rw [two_canon Ieee.Datum.product product_nan_l product_nan_r]
theorem div_canon (k : FloatKind) (x y : Nat) : k.format.div (canon k x) (canon k y) = k.format.div x y := by
  unfold Ieee.Format.div; rw [two_canon (fun a b => Ieee.Datum.quotient _ a b) (quotient_nan_l _) (quotient_nan_r _)]
theorem sub_canon (k : FloatKind) (x y : Nat) : k.format.sub (canon k x) (canon k y) = k.format.sub x y := by
  unfold Ieee.Format.sub
  rw [two_canon (fun a b => Ieee.Datum.sum a b.opposite) (fun s t d => sum_nan_l s t _) (fun d s t => sum_nan_r d _ _)]
theorem order_canon (k : FloatKind) (x y : Nat) : k.format.order (canon k x) (canon k y) = k.format.order x y := by
  unfold Ieee.Format.order; rw [two_canon Ieee.Datum.order order_nan_l order_nan_r]
theorem sqrt_canon (k : FloatKind) (x : Nat) : k.format.sqrt (canon k x) = k.format.sqrt x := by
  unfold Ieee.Format.sqrt
  cases hx : isNaN k x
  · rw [canon_of_not hx]
  · obtain ⟨s, t, e⟩ := read_nan hx
    obtain ⟨s', t', e'⟩ := read_nan (k := k) (x := canon k x) (by rw [isNaN_canon]; exact hx)
    rw [e, e']; rfl
theorem floatBits_canon (op : BinOp) (k : FloatKind) (x y : Nat) : floatBits op k (canon k x) (canon k y) = floatBits op k x y := by
  unfold floatBits
  cases op <;> first | exact add_canon k x y | exact sub_canon k x y | exact mul_canon k x y | exact div_canon k x y | rfl

/-! A word that an operation writes is no NaN. -/
theorem read_word_not_nan (f : Ieee.Format) (neg : Bool) (r : Nat) (h : r ≤ f.infRung) : (f.read (f.word neg r)).isNaN = false := by
  have hlt : r < f.signWeight := Nat.lt_of_le_of_lt h f.infRung_lt
  have hmod : f.word neg r % f.signWeight = r := by
    unfold Ieee.Format.word
    cases neg
    · simpa using Nat.mod_eq_of_lt hlt
    · simp only [if_true]
      rw [Nat.add_mod_left]
      exact Nat.mod_eq_of_lt hlt
  unfold Ieee.Format.read
  rw [hmod]
  simp only
  split
  · rfl
  · split
    · rfl
    · split
      · rfl
      · omega
theorem read_write_not_nan (f : Ieee.Format) (d : Ieee.Datum) (h : d.isNaN = false) : (f.read (f.write d)).isNaN = false := by
  cases d with
  | nan s t => simp [Ieee.Datum.isNaN] at h
  | infinity s => exact read_word_not_nan f s _ (Nat.le_refl _)
  | number s m e =>
    unfold Ieee.Format.write Ieee.Format.nearest
    simp only
    split
    · exact read_word_not_nan f s 0 (Nat.zero_le _)
    · exact read_word_not_nan f s _ (Nat.min_le_right _ _)
theorem sum_not_nan {a b d : Ieee.Datum} (h : a.sum b = some d) : d.isNaN = false := by
  cases a <;> cases b <;> simp only [Ieee.Datum.sum] at h <;> first
    | (cases h; done)
    | (cases h; rfl)
    | (split at h <;> cases h; rfl)
theorem product_not_nan {a b d : Ieee.Datum} (h : a.product b = some d) : d.isNaN = false := by
  cases a <;> cases b <;> simp only [Ieee.Datum.product] at h <;> first
    | (cases h; done)
    | (cases h; rfl)
    | (split at h <;> cases h; rfl)
theorem quotient_not_nan {n : Nat} {a b d : Ieee.Datum} (h : Ieee.Datum.quotient n a b = some d) : d.isNaN = false := by
  cases a <;> cases b <;> simp only [Ieee.Datum.quotient] at h <;> first
    | (cases h; done)
    | (cases h; rfl)
    | (split at h
       · split at h <;> cases h; rfl
       · cases h; rfl)
theorem root_not_nan {n : Nat} {a d : Ieee.Datum} (h : Ieee.Datum.root n a = some d) : d.isNaN = false := by
  cases a with
  | nan => simp [Ieee.Datum.root] at h
  | infinity s => simp only [Ieee.Datum.root] at h; split at h <;> cases h; rfl
  | number s m e =>
    simp only [Ieee.Datum.root] at h
    split at h
    · cases h; rfl
    · split at h
      · cases h
      · cases h; rfl
theorem isNaN_map_write {k : FloatKind} {o : Option Ieee.Datum} {r : Nat} (h : o.map k.format.write = some r) (hn : ∀ d, o = some d → d.isNaN = false) : isNaN k r = false := by
  cases o with
  | none => cases h
  | some d => cases h; exact read_write_not_nan _ _ (hn d rfl)
theorem isNaN_floatBits {op : BinOp} {k : FloatKind} {x y r : Nat} (h : floatBits op k x y = some r) : isNaN k r = false := by
  unfold floatBits at h
  split at h
  · exact isNaN_map_write h fun _ hd => sum_not_nan hd
  · exact isNaN_map_write h fun _ hd => sum_not_nan hd
  · exact isNaN_map_write h fun _ hd => product_not_nan hd
  · exact isNaN_map_write h fun _ hd => quotient_not_nan hd
  · cases h
theorem isNaN_sqrt {k : FloatKind} {x r : Nat} (h : k.format.sqrt x = some r) : isNaN k r = false :=
  isNaN_map_write h fun _ hd => root_not_nan hd
theorem isNaN_encode_number (k : FloatKind) (s : Bool) (m : Nat) (e : Int) : isNaN k (k.encode (.number s m e)) = false := read_write_not_nan _ _ rfl
theorem isNaN_encode_inf (k : FloatKind) (s : Bool) : isNaN k (k.encode (.infinity s)) = false := read_write_not_nan _ _ rfl

/-- The words that are asked of the tape where a NaN comes out are NaNs. -/
theorem isNaN_cut32 (t : Nat) : isNaN .f32 ((t % 2) * 2 ^ 31 + 0x7f800000 + 1 + (t / 2) % (2 ^ 23 - 1)) = true := by
  have h1 : t % 2 < 2 := Nat.mod_lt _ (by decide)
  have h2 : (t / 2) % (2 ^ 23 - 1) < 2 ^ 23 - 1 := Nat.mod_lt _ (by decide)
  generalize hb : t % 2 = b at *
  generalize hr : (t / 2) % (2 ^ 23 - 1) = r at *
  have hs : FloatKind.f32.format.signWeight = 2 ^ 31 := by decide
  have hbin : FloatKind.f32.format.binade = 2 ^ 23 := by decide
  have hinf : FloatKind.f32.format.infRung = 0x7f800000 := by decide
  unfold isNaN FloatKind.decode Ieee.Format.read
  rw [hs, hbin, hinf]
  have hm : (b * 2 ^ 31 + 0x7f800000 + 1 + r) % 2 ^ 31 = 0x7f800000 + 1 + r := by omega
  simp only [hm]
  rw [if_neg (by omega), if_neg (by omega), if_neg (by omega)]
  rfl
theorem isNaN_cut64 (t : Nat) : isNaN .f64 ((t % 2) * 2 ^ 63 + 0x7ff0000000000000 + 1 + (t / 2) % (2 ^ 52 - 1)) = true := by
  have h1 : t % 2 < 2 := Nat.mod_lt _ (by decide)
  have h2 : (t / 2) % (2 ^ 52 - 1) < 2 ^ 52 - 1 := Nat.mod_lt _ (by decide)
  generalize hb : t % 2 = b at *
  generalize hr : (t / 2) % (2 ^ 52 - 1) = r at *
  have hs : FloatKind.f64.format.signWeight = 2 ^ 63 := by decide
  have hbin : FloatKind.f64.format.binade = 2 ^ 52 := by decide
  have hinf : FloatKind.f64.format.infRung = 0x7ff0000000000000 := by decide
  unfold isNaN FloatKind.decode Ieee.Format.read
  rw [hs, hbin, hinf]
  have hm : (b * 2 ^ 63 + 0x7ff0000000000000 + 1 + r) % 2 ^ 63 = 0x7ff0000000000000 + 1 + r := by omega
  simp only [hm]
  rw [if_neg (by omega), if_neg (by omega), if_neg (by omega)]
  rfl
theorem isNaN_nanBits (k : FloatKind) (x y t : Nat) : isNaN k ((Question.nanBits k x y).cut t) = true := by
  cases k
  · exact isNaN_cut32 t
  · exact isNaN_cut64 t
theorem isNaN_nanConv (k : FloatKind) (x t : Nat) : isNaN k ((Question.nanConv k x).cut t) = true := by
  cases k
  · exact isNaN_cut32 t
  · exact isNaN_cut64 t
theorem isNaN_nanMinMax (k : FloatKind) (b : Bool) (x y t : Nat) : isNaN k ((Question.nanMinMax k b x y).cut t) = true := by
  cases k
  · exact isNaN_cut32 t
  · exact isNaN_cut64 t

theorem isNaN_neg (k : FloatKind) (x : Nat) : isNaN k (Op.negFloat k x) = isNaN k x := by
  have hm : Op.negFloat k x % k.format.signWeight = x % k.format.signWeight := by
    unfold Op.negFloat Ieee.Format.signWeight
    apply Nat.eq_of_testBit_eq
    intro i
    rw [Nat.testBit_mod_two_pow, Nat.testBit_mod_two_pow, Nat.testBit_xor, Nat.testBit_two_pow]
    by_cases h : i < k.format.exponentBits + k.format.fractionBits
    · have : ¬ k.format.exponentBits + k.format.fractionBits = i := by omega
      simp [h, this]
    · simp [h]
  unfold isNaN FloatKind.decode Ieee.Format.read
  rw [hm]
  simp only
  split
  · rfl
  · split
    · rfl
    · split <;> rfl
theorem canon_neg (k : FloatKind) (x : Nat) : canon k (Op.negFloat k x) = fneg k (canon k x) := by
  unfold fneg
  rw [isNaN_canon]
  cases h : isNaN k x
  · simp [canon, isNaN_neg, h]
  · simp [canon, isNaN_neg, h]
end Go.Aw
