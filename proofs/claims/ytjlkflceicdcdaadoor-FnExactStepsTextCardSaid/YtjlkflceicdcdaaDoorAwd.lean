/- Conversions and operations on memory: what they make of abstract values. -/
import Derived.Test.YtjlkflceicdcdaaDoorAwc
namespace Go.Aw

/-! ### Conversions -/
def f2f (s : FloatKind) (x : Nat) (k : FloatKind) : Nat := (floatToFloatBits s x k).getD (nanOf k)
def f2fOk (s : FloatKind) (x : Nat) (k : FloatKind) : Prop := isNaN s x = true ∨ (floatToFloatBits s x k).isSome = true
def ftoi (s : FloatKind) (x : Nat) (k : IntKind) : Int := (floatToIntVal s x k).getD 0
def itof (k : FloatKind) (n : Int) : Nat := k.nearest n
def aconv (tt : TT) (dst : TypeId) (x : AV) : Option (AV × Th Prop) :=
  match tt.desc dst, x with
  | .int k, .i _ n => some (amk k n)
  | .float k, .i _ n => some (.f k fun _ => itof k (n .u), fun _ => True)
  | .int k, .f s x => some (.i k fun _ => ftoi s (x .u) k, fun _ => (floatToIntVal s (x .u) k).isSome = true)
  | .float .f32, .f .f32 x => some (.f .f32 x, fun _ => True)
  | .float .f64, .f .f64 x => some (.f .f64 x, fun _ => True)
  | .float .f64, .f .f32 x => some (.f .f64 fun _ => f2f .f32 (x .u) .f64, fun _ => True)
  | .float .f32, .f .f64 x => some (.f .f32 fun _ => f2f .f64 (x .u) .f32, fun _ => f2fOk .f64 (x .u) .f32)
  | .string, .s x => some (.s x, fun _ => True)
  | _, _ => none

theorem bound_aux (T K : Nat) (h2 : T ≤ 1149) (hk : K < 2 ^ 53) : min (T * 2 ^ 52 + K) (2047 * 2 ^ 52) < 2047 * 2 ^ 52 := by omega
theorem widen_some {x : Nat} (h : isNaN .f32 x = false) : (floatToFloatBits .f32 x .f64).isSome = true := by
  unfold floatToFloatBits
  rw [if_neg (by decide)]
  unfold isNaN at h
  cases hd : FloatKind.f32.decode x with
  | nan s t => rw [hd] at h; cases h
  | infinity s => rfl
  | number s m e =>
    simp only
    have hb : m < 2 ^ 24 ∧ -149 ≤ e ∧ e ≤ 104 := by
      have hs : FloatKind.f32.format.signWeight = 2 ^ 31 := by decide
      have hbin : FloatKind.f32.format.binade = 2 ^ 23 := by decide
      have hinf : FloatKind.f32.format.infRung = 255 * 2 ^ 23 := by decide
      have hlp : FloatKind.f32.format.leastPlace = -149 := by decide
      unfold FloatKind.decode Ieee.Format.read at hd
      rw [hs, hbin, hinf, hlp] at hd
      generalize x % 2 ^ 31 = r at hd
      simp only at hd
      split at hd
      · cases hd; omega
      · split at hd
        · cases hd; omega
        · split at hd <;> cases hd
    have hlow : (FloatKind.f64.decode (FloatKind.f64.encode (.number s m e))).isInfinity = false := by
      have hs : FloatKind.f64.format.signWeight = 2 ^ 63 := by decide
      have hbin : FloatKind.f64.format.binade = 2 ^ 52 := by decide
      have hinf : FloatKind.f64.format.infRung = 2047 * 2 ^ 52 := by decide
      have hlp : FloatKind.f64.format.leastPlace = -1074 := by decide
      have hword : ∀ r, r < 2047 * 2 ^ 52 → (FloatKind.f64.decode (FloatKind.f64.format.word s r)).isInfinity = false := by
        intro r hr
        have hmod : FloatKind.f64.format.word s r % 2 ^ 63 = r := by
          unfold Ieee.Format.word
          rw [hs]
          split <;> omega
        unfold FloatKind.decode Ieee.Format.read
        rw [hs, hbin, hinf, hmod]
        by_cases hlo : r < 2 ^ 52
        · simp only [hlo, if_true]; rfl
        · simp only [hlo, hr, if_true, if_false]; rfl
      unfold FloatKind.encode Ieee.Format.write Ieee.Format.nearest
      simp only
      split
      · exact hword 0 (by decide)
      · rename_i hm
        rw [hinf, hbin, hlp]
        have hlog : m.log2 ≤ 23 := by
          have := (Nat.log2_lt hm).2 hb.1
          omega
        have hfr : (FloatKind.f64.format.fractionBits : Int) = 52 := rfl
        rw [hfr]
        have hlast : max (e + ↑m.log2 - 52) (-1074) = e + ↑m.log2 - 52 := by omega
        rw [hlast]
        have hdrop : (e + ↑m.log2 - 52 - e).toNat = 0 := by omega
        rw [hdrop]
        have hup : (e - (e + ↑m.log2 - 52)).toNat = 52 - m.log2 := by omega
        rw [hup]
        have hcut : Ieee.Toward.even.cut s (m <<< (52 - m.log2)) 0 = m <<< (52 - m.log2) := by
          unfold Ieee.Toward.cut
          simp [Nat.mod_one]
        rw [hcut]
        have hk : m <<< (52 - m.log2) < 2 ^ 53 := by
          have h1 : m < 2 ^ (m.log2 + 1) := Nat.lt_log2_self
          rw [Nat.shiftLeft_eq]
          calc m * 2 ^ (52 - m.log2) < 2 ^ (m.log2 + 1) * 2 ^ (52 - m.log2) := (Nat.mul_lt_mul_right (Nat.two_pow_pos _)).2 h1
            _ = 2 ^ 53 := by rw [← Nat.pow_add]; congr 1; omega
        have h2 : (e + ↑m.log2 - 52 - -1074).toNat ≤ 1149 := by omega
        exact hword _ (bound_aux _ _ h2 hk)
    rw [hlow]
    rfl
theorem canon_f2f {s k : FloatKind} {x r : Nat} (h : floatToFloatBits s x k = some r) (hk : s ≠ k) : canon k r = r := by
  refine canon_of_not ?_
  unfold floatToFloatBits at h
  rw [if_neg hk] at h
  split at h
  · cases h
  · cases h; exact isNaN_encode_inf ..
  · split at h
    · cases h
    · cases h; exact isNaN_encode_number ..
section
variable {P : Program} {w : World} {ρ : Mp} {L : Nat} {H : Heap}
theorem run_conv_nan (src dst : TypeId) (s k : FloatKind) (b : Nat) (hs : (P.underlying src).isSome = true) (hd : P.underlying dst = some (.float k)) (hk : s ≠ k) (hn : isNaN s b = true) :
    (convert src dst (.float s b)).run P w = .ok (.float k ((Question.nanConv k b).cut (w.tape w.drawn (.nanConv k b)))) w.drew := by
  obtain ⟨u, hs'⟩ := Option.isSome_iff_exists.1 hs
  obtain ⟨sg, t, hr⟩ := read_nan hn
  have hr' : s.decode b = .nan sg t := hr
  cases u <;> simp [convert, run_underlying hs', run_underlying hd, Conv.floatToFloat, hk, hr', Question.forced]
theorem gives_f2f {src dst : TypeId} {s k : FloatKind} {x : Th Nat} {u : Value} (h : Rel w ρ L H) (hs : (P.underlying src).isSome = true) (hd : P.underlying dst = some (.float k)) (hk : s ≠ k)
    (hx : Sim w ρ H.length L (.f s x) u) (hok : f2fOk s (x .u) k) : Gives P (convert src dst u) w ρ L H (.f k fun _ => f2f s (x .u) k) H := by
  obtain ⟨b, rfl, hb⟩ := hx.f_inv
  rw [← hb] at hok
  cases hn : isNaN s b with
  | true =>
    have e : floatToFloatBits s (canon s b) k = none := by
      obtain ⟨sg, t, hr⟩ := read_nan (k := s) (x := canon s b) (by rw [isNaN_canon]; exact hn)
      have hr' : s.decode (canon s b) = .nan sg t := hr
      unfold floatToFloatBits
      rw [if_neg hk, hr']
    exact gives_drew h (run_conv_nan src dst s k b hs hd hk hn) (sim_nan k _ (isNaN_nanConv k b _) _ _ _ (by unfold f2f; rw [← hb, e]; rfl))
  | false =>
    rw [canon_of_not hn] at hok hb
    obtain ⟨r, hr⟩ := Option.isSome_iff_exists.1 (hok.resolve_left (by simp [hn]))
    exact gives_pure h (run_convert_float_float w src dst s k b r hs hd hr) (.f ((canon_f2f hr hk).trans (by unfold f2f; rw [← hb, hr]; rfl)))
theorem run_conv_same (src dst : TypeId) (k : FloatKind) (b : Nat) (hs : (P.underlying src).isSome = true) (hd : P.underlying dst = some (.float k)) :
    (convert src dst (.float k b)).run P w = .ok (.float k b) w := by
  obtain ⟨u, hs'⟩ := Option.isSome_iff_exists.1 hs
  cases u <;> simp [convert, run_underlying hs', run_underlying hd, Conv.floatToFloat]
theorem run_conv_itof (src dst : TypeId) (k : FloatKind) (ik : IntKind) (n : Int) (hs : (P.underlying src).isSome = true) (hd : P.underlying dst = some (.float k)) :
    (convert src dst (.int ik n)).run P w = .ok (.float k (itof k n)) w := by
  obtain ⟨u, hs'⟩ := Option.isSome_iff_exists.1 hs
  cases u <;> simp [convert, run_underlying hs', run_underlying hd, Conv.intToFloat, itof]
theorem run_conv_int (src dst : TypeId) (k ik : IntKind) (n : Int) (hs : (P.underlying src).isSome = true) (hd : P.underlying dst = some (.int k)) :
    (convert src dst (.int ik n)).run P w = .ok (.int k (k.wrap n)) w := by
  obtain ⟨u, hs'⟩ := Option.isSome_iff_exists.1 hs
  cases u <;> simp [convert, run_underlying hs', run_underlying hd, Conv.intToInt]
theorem run_conv_str (src dst : TypeId) (s : ByteArray) (hs : P.underlying src = some .string) (hd : P.underlying dst = some .string) :
    (convert src dst (.string s)).run P w = .ok (.string s) w := by
  simp [convert, run_underlying hs, run_underlying hd]
theorem floatToIntVal_canon {s : FloatKind} {x : Nat} {k : IntKind} (h : (floatToIntVal s (canon s x) k).isSome = true) : canon s x = x := by
  cases hn : isNaN s x with
  | false => exact canon_of_not hn
  | true =>
    obtain ⟨sg, t, hr⟩ := read_nan (k := s) (x := canon s x) (by rw [isNaN_canon]; exact hn)
    have hr' : s.decode (canon s x) = .nan sg t := hr
    unfold floatToIntVal at h
    rw [hr'] at h
    simp [Ieee.Datum.toInt, Ieee.Datum.integral] at h
theorem gives_conv {tt : TT} (htt : TTok P tt) {src dst : TypeId} {x r : AV} {p : Th Prop} {u : Value} (h : Rel w ρ L H) (hsrc : tt.desc src ≠ .invalid) (hstr : tt.desc dst = .string → tt.desc src = .string)
    (hr : aconv tt dst x = some (r, p)) (hp : p .u) (hx : Sim w ρ H.length L x u) : Gives P (convert src dst u) w ρ L H r H := by
  have hs : (P.underlying src).isSome = true := by rw [htt.desc rfl hsrc]; rfl
  have dd : ∀ d, tt.desc dst = d → d ≠ .invalid → P.underlying dst = some d := fun d e hn => htt.desc e hn
  unfold aconv at hr
  split at hr
  · rename_i k kk n e
    cases hx.i_inv
    have e0 := Option.some.inj hr
    have e1 := congrArg Prod.fst e0
    have e2 := congrArg Prod.snd e0
    subst e1; subst e2
    exact gives_mk h (run_conv_int src dst k kk (n .u) hs (dd _ e (by simp))) hp
  · rename_i k kk n e
    cases hx.i_inv
    cases hr
    exact gives_pure h (run_conv_itof src dst k kk (n .u) hs (dd _ e (by simp))) (.f (canon_of_not (isNaN_encode_number ..)))
  · rename_i k s y e
    obtain ⟨b, rfl, hb⟩ := hx.f_inv
    cases hr
    have hp' : (floatToIntVal s (y .u) k).isSome = true := hp
    rw [← hb] at hp'
    have hc := floatToIntVal_canon hp'
    rw [hc] at hp'
    obtain ⟨n, hn⟩ := Option.isSome_iff_exists.1 hp'
    have : Sim w ρ H.length L (.i k fun _ => ftoi s (y .u) k) (.int k n) := by
      have e : n = ftoi s (y .u) k := by unfold ftoi; rw [← hb, hc, hn]; rfl
      subst e
      exact .i
    exact gives_pure h (run_convert_float_int w src dst s k b n hs (dd _ e (by simp)) hn) this
  · rename_i y e
    obtain ⟨b, rfl, hb⟩ := hx.f_inv
    cases hr
    exact gives_pure h (run_conv_same src dst _ b hs (dd _ e (by simp))) (.f hb)
  · rename_i y e
    obtain ⟨b, rfl, hb⟩ := hx.f_inv
    cases hr
    exact gives_pure h (run_conv_same src dst _ b hs (dd _ e (by simp))) (.f hb)
  · rename_i y e
    cases hr
    refine gives_f2f h hs (dd _ e (by simp)) (by simp) hx ?_
    cases hn : isNaN .f32 (y .u) with
    | true => exact .inl hn
    | false => exact .inr (widen_some hn)
  · rename_i y e
    cases hr
    exact gives_f2f h hs (dd _ e (by simp)) (by simp) hx hp
  · rename_i s e
    cases hx.s_inv
    cases hr
    exact gives_pure h (run_conv_str src dst _ (htt.desc (hstr e) (by simp)) (dd _ e (by simp))) .s
  · cases hr
end
end Go.Aw
