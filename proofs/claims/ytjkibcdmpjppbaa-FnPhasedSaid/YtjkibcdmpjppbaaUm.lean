/- What phases drawn in quarters, turned by sixteenths, answer: finitely many cases, told by the kernel. -/
import Derived.Test.YtjkibcdmpjppbaaUl
set_option linter.unusedSimpArgs false
set_option linter.unusedVariables false
set_option maxRecDepth 100000
namespace Go.Proofs.Ytjkibcdmpjppbaa
open Go.Aw
abbrev milD : Nat := 4562254508917369340
def okB (x : Nat) : Bool := isNaN .f64 x || (floatToFloatBits .f64 x .f32).isSome
theorem okB_ok {x : Nat} (h : okB x = true) : f2fOk .f64 x .f32 := by
  unfold okB at h
  rw [Bool.or_eq_true] at h
  exact h
def clB (x : Nat) : Bool := match FloatKind.f64.format.read x with
  | .number _ m e => decide (((m.log2 + 1 : Nat) : Int) + e ≤ 51)
  | _ => false
theorem clB_cl {x : Nat} (h : clB x = true) : Cl x 51 := by
  unfold clB at h
  split at h <;> first | (cases h; done) | skip
  rename_i s m e hr
  refine ⟨s, m, e, m.log2 + 1, hr, Nat.le_of_lt Nat.lt_log2_self, of_decide_eq_true h⟩
def pw (a b : Nat) : Nat := fadd .f64 (fmul .f64 (wd a) (wd a)) (fmul .f64 (wd b) (wd b))
def memN (l : List Nat) (x : Nat) : Bool := l.any fun y => Nat.beq x y
theorem memN_all {l : List Nat} {x : Nat} {P : Nat → Bool} (h : memN l x = true) (hP : l.all P = true) : P x = true := by
  obtain ⟨y, hy, e⟩ := List.any_eq_true.1 h
  rw [Nat.eq_of_beq_eq_true e]
  exact List.all_eq_true.1 hP y hy
def memP (l : List (Nat × Nat)) (x y : Nat) : Bool := l.any fun z => Nat.beq x z.1 && Nat.beq y z.2
theorem memP_all {l : List (Nat × Nat)} {x y : Nat} {P : Nat × Nat → Bool} (h : memP l x y = true) (hP : l.all P = true) : P (x, y) = true := by
  obtain ⟨z, hz, e⟩ := List.any_eq_true.1 h
  rw [Bool.and_eq_true] at e
  rw [Nat.eq_of_beq_eq_true e.1, Nat.eq_of_beq_eq_true e.2]
  exact List.all_eq_true.1 hP z hz
def tq (a : Int) : Nat := fdiv .f32 (itof .f32 (a - 8)) 1098907648
def quartL : List Nat := [3212836864, 3208642560, 3204448256, 3196059648, 0, 1048576000, 1056964608, 1061158912, 1065353216]
def tabD : List Nat := [0, 4401142735847817216, 4391009636686233600, 4400298310917685248, 4395513236313604096, 4392135536593076224, 4393542911476629504, 4391433617236694544, 4391291111662944256, 4382002437431492608, 4383128337338335232, 4372995238176751616, 4386506037058863104, 4377498837804122112]
def tabP : List (Nat × Nat) := [(4611686018427387904, 4611686018427387904), (4609715693590413312, 4609715693590413312), (4608308318706860032, 4608308318706860032), (4607463893776728064, 4607463893776728064), (4607182418800017408, 4607182418800017408), (4607745368753438720, 4607745368753438720), (4605493568939753472, 4605493568939753472), (4603804719079489536, 4603804719079489536), (4603241769126068224, 4603241769126068224), (4602678819172646912, 4602678819172646912), (4599301119452119040, 4599301119452119040), (4598175219545276416, 4598175219545276416), (4593671619917905920, 4593671619917905920), (4589168020290535424, 4589168020290535424), (0, 0), (4611686017707908352, 4611686018427387904), (4609715692568634944, 4609715693590413312), (4608308318710638928, 4608308318706860032), (4607463893336910288, 4607463893776728064), (4607182418285989448, 4607182418800017408), (4607463893161546384, 4607463893776728064), (4608308318834639940, 4608308318706860032), (4609715693270090560, 4609715693590413312), (4607745368239774308, 4607745368753438720), (4605493568487989824, 4605493568939753472), (4603804718629814816, 4603804719079489536), (4603241768503446656, 4603241769126068224), (4603804718652380580, 4603804719079489536), (4605493568735991840, 4605493568939753472), (4602678818453167360, 4602678819172646912), (4599301119455897936, 4599301119452119040), (4598175219031248456, 4598175219545276416), (4599301119579898948, 4599301119452119040), (4593671619198426368, 4593671619917905920), (4589168019776507464, 4589168020290535424), (4611686018119084608, 4611686018427387904), (4609715693847809257, 4609715693590413312), (4608308318229451684, 4608308318706860032), (4607463893660395072, 4607463893776728064), (4607182418491714112, 4607182418800017408), (4607745368295299328, 4607745368753438720), (4605493568926522706, 4605493568939753472), (4603804718886799976, 4603804719079489536), (4603241768667928832, 4603241769126068224), (4602678818864343616, 4602678819172646912), (4599301118974710692, 4599301119452119040), (4598175219236973120, 4598175219545276416), (4593671619609602624, 4593671619917905920), (4589168019982232128, 4589168020290535424)]
def phT : List (Nat × Nat × Nat) := [(9223372036854775808, 1065353216, 2147483648), (4602678819172646912, 3212836864, 0), (0, 1065353216, 0), (4603241769126068224, 3211559774, 3200511765), (4593671619917905920, 1060439283, 1060439283), (4604367669032910848, 3200511765, 3211559774), (4598175219545276416, 0, 1065353216), (4605493568939753472, 1053028117, 3211559774), (4600427019358961664, 3207922931, 1060439283), (4606619468846596096, 1064076126, 3200511765), (4603804719079489536, 3207922931, 3207922931), (4606056518893174784, 1060439283, 3207922931), (4604930618986332160, 0, 3212836864), (4589168020290535424, 1064076126, 1053028117), (4601552919265804288, 3211559774, 1053028117), (4595923419731591168, 1053028117, 1064076126), (4599301119452119040, 3200511765, 1064076126)]
abbrev Six : Type := Nat × Nat × Nat × Nat × Nat × Nat
def sixA : List Six := [(9223372036854775808, 0, 1065353216, 2147483648, 1065353216, 0), (4602678819172646912, 4602678819172646912, 3212836864, 0, 3212836864, 0), (0, 0, 1065353216, 0, 1065353216, 0), (4603241769126068224, 4601552919265804288, 3211559774, 3200511765, 3211559774, 1053028117), (4593671619917905920, 4606056518893174784, 1060439283, 1060439283, 1060439283, 3207922931), (4604367669032910848, 4599301119452119040, 3200511765, 3211559774, 3200511765, 1064076126)]
def sixB : List Six := [(4598175219545276416, 4604930618986332160, 0, 1065353216, 0, 3212836864), (4605493568939753472, 4595923419731591168, 1053028117, 3211559774, 1053028117, 1064076126), (4600427019358961664, 4603804719079489536, 3207922931, 1060439283, 3207922931, 3207922931), (4606619468846596096, 4589168020290535424, 1064076126, 3200511765, 1064076126, 1053028117), (4603804719079489536, 4600427019358961664, 3207922931, 3207922931, 3207922931, 1060439283), (4606056518893174784, 4593671619917905920, 1060439283, 3207922931, 1060439283, 1060439283)]
def sixC : List Six := [(4604930618986332160, 4598175219545276416, 0, 3212836864, 0, 1065353216), (4589168020290535424, 4606619468846596096, 1064076126, 1053028117, 1064076126, 3200511765), (4601552919265804288, 4603241769126068224, 3211559774, 1053028117, 3211559774, 3200511765), (0, 9223372036854775808, 1065353216, 0, 1065353216, 2147483648), (4595923419731591168, 4605493568939753472, 1053028117, 1064076126, 1053028117, 3211559774), (4599301119452119040, 4604367669032910848, 3200511765, 1064076126, 3200511765, 3211559774)]
theorem tabD_ok : tabD.all (fun w => okB (fsqrt .f64 w) && !fgt .f64 (wd (f2f .f64 (fsqrt .f64 w) .f32)) milD) = true := by decide +kernel
theorem tabP_ok : tabP.all (fun w => okB (fsqrt .f64 w.1) && okB (fsqrt .f64 w.2) && !fgt .f64 (gapF (wd (f2f .f64 (fsqrt .f64 w.1) .f32)) (wd (f2f .f64 (fsqrt .f64 w.2) .f32))) milD) = true := by decide +kernel
theorem phT_ok : phT.all (fun z => Nat.beq (partF z.1) z.1 && (Nat.beq (phC z.1) z.2.1 && Nat.beq (phS z.1) z.2.2)) = true := by decide +kernel
def memT (f c s : Nat) : Bool := phT.any fun z => Nat.beq f z.1 && (Nat.beq c z.2.1 && Nat.beq s z.2.2)
theorem memT_ph {x f c s : Nat} (h : memT f c s = true) (hx : partF x = f) : phC x = c ∧ phS x = s := by
  obtain ⟨z, hz, e⟩ := List.any_eq_true.1 h
  have h2 := List.all_eq_true.1 phT_ok z hz
  simp only [Bool.and_eq_true] at e h2
  obtain ⟨e1, e2, e3⟩ := e
  obtain ⟨g1, g2, g3⟩ := h2
  have e1 := Nat.eq_of_beq_eq_true e1
  have e2 := Nat.eq_of_beq_eq_true e2
  have e3 := Nat.eq_of_beq_eq_true e3
  have g1 := Nat.eq_of_beq_eq_true g1
  have g2 := Nat.eq_of_beq_eq_true g2
  have g3 := Nat.eq_of_beq_eq_true g3
  have hp : partF x = partF z.1 := by rw [hx, e1, g1]
  have k1 : phC x = phC z.1 := by
    unfold phC phCw phA phB phR phQ
    rw [hp]
  have k2 : phS x = phS z.1 := by
    unfold phS phSw phA phB phR phQ
    rw [hp]
  exact ⟨by rw [k1, g2, e2], by rw [k2, g3, e3]⟩
theorem six_ok : (sixA ++ sixB ++ sixC).all (fun z => memT z.1 z.2.2.1 z.2.2.2.1 && memT z.2.1 z.2.2.2.2.1 z.2.2.2.2.2) = true := by decide +kernel
def inSix (f b : Nat) : Bool := (sixA ++ sixB ++ sixC).any fun z => Nat.beq f z.1 && Nat.beq b z.2.1
theorem turns_ok : (List.range 17).all (fun a => isFin (tq (a : Int)) && isFin (fneg .f32 (tq (a : Int))) && (List.range 8).all fun i => clB (turnP (tq (a : Int)) i) && (clB (turnP (fneg .f32 (tq (a : Int))) i) && inSix (partF (turnP (tq (a : Int)) i)) (partF (turnP (fneg .f32 (tq (a : Int))) i)))) = true := by decide +kernel
theorem still_ok : (List.range 8).all (fun i => clB (turnP 0 i) && Nat.beq (partF (turnP 0 i)) 0) = true := by decide +kernel
theorem quart_ok : (List.range 9).all (fun p => memN quartL (quartF (p : Int)) && isFin (quartF (p : Int))) = true := by decide +kernel
/-- What one phase answers that is turned and turned back. -/
def gd (x y c s c' s' : Nat) : Bool :=
  let X := mRe x y c s
  let Y := mIm x y c s
  let U := mRe X Y c' s'
  let V := mIm X Y c' s'
  okB (tRe x y c s) && (okB (tIm x y c s) && (isFin X && (isFin Y && (okB (tRe X Y c' s') && (okB (tIm X Y c' s') && (isFin U && (isFin V && (memN tabD (pw (fsub .f32 U x) (fsub .f32 V y)) && memP tabP (pw X Y) (pw x y)))))))))
def gs (x y : Nat) : Bool :=
  let X := mRe x y 1065353216 0
  let Y := mIm x y 1065353216 0
  okB (tRe x y 1065353216 0) && (okB (tIm x y 1065353216 0) && (isFin X && (isFin Y && memN tabD (pw (fsub .f32 X x) (fsub .f32 Y y)))))
theorem gs_ok : quartL.all (fun x => quartL.all fun y => gs x y) = true := by decide +kernel
def gAll (l : List Six) : Bool := l.all fun z => quartL.all fun x => quartL.all fun y => gd x y z.2.2.1 z.2.2.2.1 z.2.2.2.2.1 z.2.2.2.2.2
end Go.Proofs.Ytjkibcdmpjppbaa
