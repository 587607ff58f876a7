/- Addresses of elements and fields, slices, new blocks, append. -/
/- Slices that are made, literals, parts of slices, append. -/
import Derived.Test.YtfdmmbcjidkmoaaAwe
import Derived.Laws.Strings
import Derived.Laws.BytesArg
namespace Go.Aw

section
variable {P : Program} {w : World} {ρ : Mp} {L : Nat} {H : Heap}
theorem run_index {t e : TypeId} {info : TypeInfo} (ht : P.underlying t = some (.slice e)) (hi : P.info? e = some info) (a : Addr) (len cap : Nat) (ik : IntKind) (k : Int) (h0 : 0 ≤ k) (h1 : k < len) :
    (Instr.indexAt t (.slice (some a) len cap) (.int ik k)).run P w = .ok (.pointer (some (a.add (k.toNat * info.size)))) w := by
  have he : P.elem t = e := by simp [Program.elem, ht]
  have hr := run_indexAt_slice w t a len cap ik k (by rw [he]; exact ht)
  rw [hr, if_pos ⟨h0, h1⟩, he, run_sizeOf hi]
  rfl
/-- How long a slice is, and its rows. -/
def arows (H : Heap) (s : AV) : Option (Th Nat × Nat × (Th Nat → Nat → AV) × Th Prop) :=
  match s with
  | .ro _ n sz g => some (n, sz, g, fun _ => True)
  | .own id i n sz => match H[id]? with
    | some (some (_, .tab m sz' g)) => if sz = sz' then some (n, sz, fun j c => g (fun _ => i .u + j .u) c, fun _ => i .u + n .u ≤ m .u) else none
    | _ => none
  | .v (.slice none 0 0) => some (fun _ => 0, 1, fun _ _ => .dead, fun _ => True)
  | _ => none
theorem arows_sound (h : Rel w ρ L H) {s : AV} {n : Th Nat} {sz : Nat} {g : Th Nat → Nat → AV} {ob : Th Prop} {u : Value} (hr : arows H s = some (n, sz, g, ob)) (hob : ob .u) (hs : Sim w ρ H.length L s u) :
    ∃ base cap, u = .slice base (n .u) cap ∧ (n .u = 0 ∨ n .u ≤ cap ∧ ∃ blk off, base = some ⟨blk, off, none⟩ ∧
      ∀ i c, i < n .u → c < sz → ∃ x, w.cell? ⟨blk, off + (i * sz + c), none⟩ = some x ∧ x.oneCell' = true ∧ Sim w ρ H.length L (g (fun _ => i) c) x) := by
  unfold arows at hr
  split at hr
  · cases hr
    cases hs with
    | ro0 h0 => exact ⟨_, _, by rw [h0], .inl h0⟩
    | ro us hn hq hc hsim => exact ⟨_, _, rfl, .inr ⟨hn, _, _, rfl, fun i c hi hcc => ⟨us i c, (hc i c hi hcc).1, (hc i c hi hcc).2, hsim i c hi hcc⟩⟩⟩
  · rename_i id i n' sz'
    split at hr <;> first | (cases hr; done) | skip
    rename_i fr m sz2 g' hH
    split at hr <;> cases hr
    rename_i he
    subst he
    obtain ⟨blk, cs, T, hb, hB⟩ := h.at_ hH
    cases hs with
    | own hid hv =>
    obtain ⟨off, cap, rfl, hn, hcm, hoff, hroom⟩ := hv blk hb
    refine ⟨_, cap, rfl, ?_⟩
    rcases Nat.eq_zero_or_pos (n .u) with h0 | h0
    · exact .inl h0
    · refine .inr ⟨hn, blk, off, rfl, fun j c hj hc => ?_⟩
      have hob' : i .u + n .u ≤ m .u := hob
      have e : off = i .u * sz := by rcases hoff with e | e; exact e; omega
      obtain ⟨x, h1, h2, h3⟩ := hB.cell ((i .u + j) * sz + c) _ (.tab (i .u + j) c (by omega) hc)
      refine ⟨x, ?_, h2, h3⟩
      rw [cell_of_row w blk _ cs T (0, 0) hB.here, e, ← h1, Nat.add_mul, Nat.add_assoc]
  · cases hr
    cases hs
    exact ⟨_, _, rfl, .inl rfl⟩
  · cases hr
def aindexAddr (tt : TT) (H : Heap) (t : TypeId) (x i : AV) : Option (AV × Th Prop) :=
  match tt.desc t, x, i with
  | .slice e, .own id j n sz, .i _ k => match tt.info e with
    | some ti => if live H id && ti.size == sz then some (.ptr id (fun _ => j .u + (k .u).toNat) sz 0, fun _ => 0 ≤ k .u ∧ k .u < (n .u : Int)) else none
    | none => none
  | .slice e, .ro fr n sz g, .i _ k => match tt.info e with
    | some ti => if ti.size = sz then some (.rptr fr sz (g fun _ => (k .u).toNat), fun _ => 0 ≤ k .u ∧ k .u < (n .u : Int)) else none
    | none => none
  | _, _, _ => none
theorem gives_index {tt : TT} (htt : TTok P tt) {t : TypeId} {x i r : AV} {ob : Th Prop} {u v : Value} (h : Rel w ρ L H) (hr : aindexAddr tt H t x i = some (r, ob)) (hob : ob .u)
    (hx : Sim w ρ H.length L x u) (hi : Sim w ρ H.length L i v) : Gives P (Instr.indexAt t u v) w ρ L H r H := by
  unfold aindexAddr at hr
  split at hr
  · rename_i e id j n sz ik k hd
    split at hr <;> first | (cases hr; done) | skip
    rename_i ti hti
    split at hr <;> cases hr
    rename_i hc
    simp only [Bool.and_eq_true, beq_iff_eq] at hc
    obtain ⟨hl, hsz⟩ := hc
    have ht := htt.desc hd (by simp)
    obtain ⟨_, info, z, hinfo, hins, _⟩ := htt.info hti
    obtain ⟨blk, hb⟩ := live_at h hl
    cases hi.i_inv
    have hob' : 0 ≤ k .u ∧ k .u < (n .u : Int) := hob
    cases hx with
    | own hid hv =>
    obtain ⟨off, cap, rfl, hn, hcm, hoff, hroom⟩ := hv blk hb
    have e : off = j .u * sz := by rcases hoff with e | e; exact e; omega
    refine gives_pure h (run_index ht hinfo _ _ _ _ _ hob'.1 hob'.2) (.ptr hid fun b hb' => ?_)
    rw [hb] at hb'
    cases hb'
    rw [addr_add, e, hins, hsz, Nat.add_mul, Nat.add_zero]
  · rename_i e fr n sz g ik k hd
    split at hr <;> first | (cases hr; done) | skip
    rename_i ti hti
    split at hr <;> cases hr
    rename_i hsz
    have ht := htt.desc hd (by simp)
    obtain ⟨_, info, z, hinfo, hins, _⟩ := htt.info hti
    cases hi.i_inv
    have hob' : 0 ≤ k .u ∧ k .u < (n .u : Int) := hob
    cases hx with
    | ro0 h0 => omega
    | ro us hn hq hc hsim =>
    rename_i blk off cap
    have hk : (k .u).toNat < n .u := by omega
    refine gives_pure h (run_index ht hinfo _ _ _ _ _ hob'.1 hob'.2) ?_
    rw [addr_add, hins, hsz]
    exact .rptr (us (k .u).toNat) hq (fun c hc' => by rw [Nat.add_assoc]; exact hc _ c hk hc') (fun c hc' => hsim _ c hk hc')
  · cases hr
/-- A slice of bytes as a string. -/
def bOf : AV → Int
  | .i _ y => y .u
  | _ => 0
def aconvS (tt : TT) (H : Heap) (e : TypeId) (x : AV) : Option (AV × Th Prop) :=
  match tt.desc e with
  | .int .u8 => match arows H x with
    | some (n, 1, g, ob) => some (.s fun _ => strOfNums ((List.range (n .u)).map fun i => bOf (g (fun _ => i) 0)), fun _ => ob .u ∧ ∀ i, i < n .u → ∃ y, g (fun _ => i) 0 = .i .u8 y)
    | _ => none
  | _ => none
theorem aconvS_i {tt : TT} {H : Heap} {e : TypeId} {k : IntKind} {n : Th Int} : aconvS tt H e (.i k n) = none := by
  unfold aconvS arows
  split <;> rfl
theorem aconvS_f {tt : TT} {H : Heap} {e : TypeId} {k : FloatKind} {n : Th Nat} : aconvS tt H e (.f k n) = none := by
  unfold aconvS arows
  split <;> rfl
theorem run_conv_none {P : Program} (w : World) (src e : TypeId) (hs : P.underlying src = some (.slice e)) (he : P.underlying e = some (.int .u8)) (p : Option Addr) (c : Nat) (dst : TypeId) (hd : P.underlying dst = some .string) :
    (convert src dst (.slice p 0 c)).run P w = .ok (.string ByteArray.empty) w := by
  rw [run_convert_bytes_string w src dst e _ 0 c hs he hd]
  cases p <;> simp [Conv.bytesToString, loadCells]
  all_goals rfl
theorem gives_convS {tt : TT} (htt : TTok P tt) {src dst e : TypeId} {x r : AV} {ob : Th Prop} {u : Value} (h : Rel w ρ L H) (hsrc : tt.desc src = .slice e) (hdst : tt.desc dst = .string) (hr : aconvS tt H e x = some (r, ob)) (hob : ob .u)
    (hx : Sim w ρ H.length L x u) : Gives P (convert src dst u) w ρ L H r H := by
  unfold aconvS at hr
  split at hr <;> first | (cases hr; done) | skip
  rename_i he
  split at hr <;> cases hr
  rename_i n g ob' hrow
  obtain ⟨hob1, hb⟩ := hob
  obtain ⟨base, cap, rfl, hn⟩ := arows_sound h hrow hob1 hx
  have hs := htt.desc hsrc (by simp)
  have hd := htt.desc hdst (by simp)
  have hu := htt.desc he (by simp)
  by_cases h0 : n .u = 0
  · have e := run_conv_none w src _ hs hu base cap dst hd
    rw [h0]
    refine gives_pure h (e.trans ?_) .s
    rfl
  · rcases hn with hn | ⟨_, blk, off, rfl, hcell⟩
    · exact absurd hn h0
    · refine gives_pure h (run_convert_bytes_arg w src _ hs hu blk off (n .u) cap _ (by simp) (fun i hi => ?_) dst hd) .s
      obtain ⟨v, h1, h2, h3⟩ := hcell i 0 hi (by decide)
      obtain ⟨y, hy⟩ := hb i hi
      rw [hy] at h3
      cases h3.i_inv
      rw [Nat.mul_one, Nat.add_zero] at h1
      rw [h1]
      simp [List.getD_eq_getElem?_getD, hi, hy, bOf]
/-- A string's byte. -/
def byteAt (s : ByteArray) (i : Nat) : Int := ((s.data.toList.getD i 0).toNat : Int)
def aindexS (tt : TT) (t : TypeId) (x i : AV) : Option (AV × Th Prop) :=
  match tt.desc t, x, i with
  | .string, .s s, .i _ k => some (.i .u8 fun _ => byteAt (s .u) (k .u).toNat, fun _ => 0 ≤ k .u ∧ k .u < ((s .u).size : Int))
  | _, _, _ => none
theorem gives_indexS {tt : TT} (htt : TTok P tt) {t : TypeId} {x i r : AV} {ob : Th Prop} {u v : Value} (h : Rel w ρ L H) (hr : aindexS tt t x i = some (r, ob)) (hob : ob .u)
    (hx : Sim w ρ H.length L x u) (hi : Sim w ρ H.length L i v) : Gives P (Instr.index t u v) w ρ L H r H := by
  unfold aindexS at hr
  split at hr <;> cases hr
  rename_i s k' k hd
  cases hx.s_inv
  cases hi.i_inv
  have hob' : 0 ≤ k .u ∧ k .u < ((s .u).size : Int) := hob
  have e := Go.run_index_string (P := P) w t (s .u) k' (k .u) (htt.desc hd (by simp))
  rw [dif_pos hob'] at e
  refine gives_pure h (e.trans ?_) .i
  have hl : (k .u).toNat < (s .u).size := by omega
  have hl2 : (k .u).toNat < (s .u).data.toList.length := by simpa using hl
  have : ((s .u)[(k .u).toNat]'hl) = (s .u).data.toList.getD (k .u).toNat 0 := by
    rw [List.getD_eq_getElem?_getD, List.getElem?_eq_getElem hl2]
    rfl
  rw [this]
  rfl
def alen (H : Heap) (tt : TT) (t : TypeId) (x : AV) : Option AV :=
  match tt.desc t, x with
  | .string, .s x => some (.i .i64 fun _ => ((x .u).size : Int))
  | .slice _, .ro _ n _ _ => some (.i .i64 fun _ => (n .u : Int))
  | .slice _, .own id _ n _ => if live H id then some (.i .i64 fun _ => (n .u : Int)) else none
  | .slice _, .v (.slice none 0 0) => some (.i .i64 fun _ => 0)
  | _, _ => none
theorem gives_len {tt : TT} (htt : TTok P tt) {t ty : TypeId} {x r : AV} {u : Value} (h : Rel w ρ L H) (hr : alen H tt t x = some r) (hx : Sim w ρ H.length L x u) :
    Gives P (Builtin.len_ #[t] ty #[u]) w ρ L H r H := by
  unfold alen at hr
  have fin : ∀ (n : Th Int) (s : Sem Value), s.run P w = .ok (.int .i64 (n .u)) w → Gives P s w ρ L H (.i .i64 n) H := fun n s hs => gives_pure h hs .i
  split at hr
  · rename_i s hd
    cases hr; cases hx.s_inv
    exact fin _ _ (by simp [Builtin.len_, run_underlying (htt.desc hd (by simp)), goInt])
  · rename_i e fr n sz g hd
    cases hr
    have he : P.elem t = e := by simp [Program.elem, htt.desc hd (by simp)]
    cases hx with
    | ro0 h0 => exact fin _ _ (by rw [run_len_slice w t ty _ _ _ (by rw [he]; exact htt.desc hd (by simp)), h0]; rfl)
    | ro => exact fin _ _ (run_len_slice w t ty _ _ _ (by rw [he]; exact htt.desc hd (by simp)))
  · rename_i e id i n sz hd
    split at hr <;> cases hr
    rename_i hl
    have he : P.elem t = e := by simp [Program.elem, htt.desc hd (by simp)]
    obtain ⟨blk, hb⟩ := live_at h hl
    cases hx with
    | own hid hv =>
    obtain ⟨off, cap, rfl, _⟩ := hv blk hb
    exact fin _ _ (run_len_slice w t ty _ _ _ (by rw [he]; exact htt.desc hd (by simp)))
  · rename_i e hd
    cases hr; cases hx.v_inv
    have he : P.elem t = e := by simp [Program.elem, htt.desc hd (by simp)]
    exact fin _ _ (run_len_slice w t ty none 0 0 (by rw [he]; exact htt.desc hd (by simp)))
  · cases hr

/-! ### Fields -/
def afieldAddr (tt : TT) (H : Heap) (t : TypeId) (p : AV) (f : Nat) : Option AV :=
  match tt.desc t with
  | .struct fs => match fs[f]? with
    | some fd => match tt.info fd.type with
      | some ti => if ti.size = 0 then none else match p with
        | .ptr id i sz c => if live H id then some (.ptr id i sz (c + fd.offset)) else none
        | .rptr fr m g => if fd.offset + ti.size ≤ m then some (.rptr fr (m - fd.offset) fun j => g (fd.offset + j)) else none
        | _ => none
      | none => none
    | none => none
  | _ => none
theorem gives_fieldAddr {tt : TT} (htt : TTok P tt) {t : TypeId} {p r : AV} {f : Nat} {u : Value} (h : Rel w ρ L H) (hr : afieldAddr tt H t p f = some r) (hs : Sim w ρ H.length L p u) :
    Gives P (Instr.fieldAt t u f) w ρ L H r H := by
  unfold afieldAddr at hr
  split at hr <;> first | (cases hr; done) | skip
  rename_i fs hd
  split at hr <;> first | (cases hr; done) | skip
  rename_i fd hf
  split at hr <;> first | (cases hr; done) | skip
  rename_i ti hti
  split at hr <;> first | (cases hr; done) | skip
  rename_i hnz
  obtain ⟨_, info, z, hinfo, hins, _⟩ := htt.info hti
  have ht := htt.desc hd (by simp)
  have run : ∀ blk off, (Instr.fieldAt t (.pointer (some ⟨blk, off, none⟩)) f).run P w = .ok (.pointer (some ⟨blk, off + fd.offset, none⟩)) w := by
    intro blk off
    have e : info.size ≠ 0 := by omega
    simp [Instr.fieldAt, run_underlying ht, hf, Instr.sureAddr, fieldPlace, run_sizeOf hinfo, e, addr_add]
  split at hr
  · rename_i id i sz c
    split at hr <;> cases hr
    rename_i hl
    obtain ⟨blk, hb⟩ := live_at h hl
    cases hs with
    | ptr hid hv =>
    rw [hv blk hb]
    refine gives_pure h (run _ _) (.ptr hid fun b hb' => ?_)
    rw [hb] at hb'; cases hb'
    rw [Nat.add_assoc]
  · rename_i fr m g
    split at hr <;> cases hr
    cases hs with
    | rptr us hq hc hsim =>
    refine gives_pure h (run _ _) (.rptr (fun j => us (fd.offset + j)) hq (fun c hcc => ?_) (fun c hcc => hsim _ (by omega)))
    rw [Nat.add_assoc]
    exact hc _ (by omega)
  · cases hr
def afield (tt : TT) (t : TypeId) (x : AV) (f : Nat) : Option AV :=
  match tt.desc t, x with
  | .struct fs, .agg l => match fs[f]? with
    | some fd => match tt.info fd.type with
      | some ti => if fd.offset + ti.size ≤ l.length then asOne ti.desc ((l.drop fd.offset).take ti.size) else none
      | none => none
    | none => none
  | _, _ => none
theorem gives_field {tt : TT} (htt : TTok P tt) {t : TypeId} {x r : AV} {f : Nat} {u : Value} (h : Rel w ρ L H) (hr : afield tt t x f = some r) (hs : Sim w ρ H.length L x u) :
    Gives P (Instr.field t u f) w ρ L H r H := by
  unfold afield at hr
  split at hr <;> first | (cases hr; done) | skip
  rename_i fs l hd
  split at hr <;> first | (cases hr; done) | skip
  rename_i fd hf
  split at hr <;> first | (cases hr; done) | skip
  rename_i ti hti
  split at hr <;> first | (cases hr; done) | skip
  rename_i hle
  obtain ⟨htd, info, z, hinfo, hins, _⟩ := htt.info hti
  obtain ⟨us, rfl, hl, hj⟩ := hs.agg_inv
  have ht := htt.desc hd (by simp)
  unfold asOne at hr
  split at hr
  · rename_i hag
    cases hr
    refine gives_pure h (v := .agg (us.extract fd.offset (fd.offset + ti.size))) ?_ (.agg (by simp; omega) fun j a x ha hx => ?_)
    · simp [Instr.field, run_underlying ht, hf, part, run_isAgg htd, hag, run_sizeOf hinfo, hins, asAgg]
    · rw [Array.getElem?_extract] at hx
      have hlt : j < ti.size := by
        rcases Nat.lt_or_ge j ti.size with h' | h'
        · exact h'
        · rw [List.getElem?_take, if_neg (by omega)] at ha; cases ha
      rw [List.getElem?_take, if_pos hlt, List.getElem?_drop] at ha
      split at hx
      · exact hj _ a x ha hx
      · cases hx
  · rename_i hag
    split at hr <;> cases hr
    rename_i hone
    have ha : l[fd.offset]? = some r := by
      have := congrArg (fun q => q[0]?) hone
      simp only [List.getElem?_cons_zero] at this
      rw [List.getElem?_take] at this
      split at this
      · rw [List.getElem?_drop] at this; simpa using this
      · cases this
    have hlt := (List.getElem?_eq_some_iff.1 ha).1
    have hu : us[fd.offset]? = some (us[fd.offset]'(by omega)) := Array.getElem?_eq_getElem (by omega)
    have hagf : isAggD ti.desc = false := by simpa using hag
    refine gives_pure h (v := us[fd.offset]'(by omega)) ?_ (hj _ _ _ ha hu)
    simp [Instr.field, run_underlying ht, hf, part, run_isAgg htd, hagf, asAgg, hu]

/-! ### New blocks -/
theorem sim_zero {x : Value} (h : okZero x = true) (w : World) (ρ : Mp) (N L : Nat) : Sim w ρ N L (zeroAV x) x := by
  cases x <;> simp only [okZero, zeroAV, Bool.and_eq_true, beq_iff_eq] at h ⊢
  case float => exact .f h
  case complex => exact .c h.1 h.2
  case int => exact .i
  case bool => exact .b
  case string => exact .s
  all_goals exact .v h
theorem one_zero {x : Value} (h : okZero x = true) : x.oneCell' = true := by
  cases x <;> first | rfl | (simp [okZero, plain] at h; done)
theorem zero_sound {t : TypeId} {i : TI} (hi : TIok P t i) : ∃ info z, P.info? t = some info ∧ info.size = i.size ∧ info.bytes = i.bytes ∧ info.zero = some z ∧ z.cells.size = i.size ∧ i.zero.length = i.size ∧
    ∀ (j : Nat) (a : AV), i.zero[j]? = some a → ∃ x, z.cells[j]? = some x ∧ x.oneCell' = true ∧ ∀ (w : World) (ρ : Mp) (N L : Nat), Sim w ρ N L a x := by
  obtain ⟨hd, info, z, h1, h2, h3, h4, h5, h6, h7⟩ := hi
  refine ⟨info, z, h1, h2, h3, h4, h5, by rw [h6]; simpa using h5, fun j a ha => ?_⟩
  rw [h6, List.getElem?_map, Option.map_eq_some_iff] at ha
  obtain ⟨x, hx, rfl⟩ := ha
  have hok := List.all_eq_true.1 h7 x (List.mem_of_getElem? hx)
  exact ⟨x, by simpa using hx, one_zero hok, fun w ρ N L => sim_zero hok w ρ N L⟩
theorem gives_newVar {s : Sem Value} {cells : Array Value} {T : TypeId} {as : List AV} (h : Rel w ρ L H) (hL : L ≤ w.heap.size)
    (hs : s.run P w = .ok (.pointer (some ⟨w.heap.size, 0, none⟩)) (w.alloc (.cells cells T)))
    (hc : ∀ (j : Nat) (a : AV), as[j]? = some a → ∃ x, cells[j]? = some x ∧ x.oneCell' = true ∧ Sim w ρ H.length L a x) :
    Gives P s w ρ L H (.ptr H.length (fun _ => 0) as.length 0) (H ++ [some (true, .box as)]) := by
  refine ⟨_, _, ρ.set H.length (some w.heap.size), hs, h.alloc hL true cells T (.box as) (fun off a hat => by cases hat with | box ha => exact hc off a ha), ?_, ?_⟩
  · have := Pass.alloc h (.cells cells T)
    simpa using this
  · refine .ptr (by simp) fun blk hb => ?_
    rw [Mp.set_same] at hb
    cases hb
    simp
def abox (H : Heap) (x : AV) : Option (AV × Heap) :=
  match aflat H x with
  | some as => some (.ptr H.length (fun _ => 0) as.length 0, H ++ [some (true, .box as)])
  | none => none
theorem gives_box {T : TypeId} {x r : AV} {H' : Heap} {u : Value} (h : Rel w ρ L H) (hL : L ≤ w.heap.size) (hr : abox H x = some (r, H')) (hs : Sim w ρ H.length L x u) :
    Gives P (Instr.box T u) w ρ L H r H' := by
  unfold abox at hr
  split at hr <;> cases hr
  rename_i as hf
  obtain ⟨_, h2⟩ := aflat_sound h hf hs
  exact gives_newVar (T := T) h hL (by simp [Instr.box, newVar, newRow]) h2
def aalloc (tt : TT) (H : Heap) (t : TypeId) : Option (AV × Heap) :=
  match tt.info t with
  | some i => some (.ptr H.length (fun _ => 0) i.zero.length 0, H ++ [some (true, .box i.zero)])
  | none => none
theorem gives_alloc {tt : TT} (htt : TTok P tt) {t : TypeId} {r : AV} {H' : Heap} (h : Rel w ρ L H) (hL : L ≤ w.heap.size) (hr : aalloc tt H t = some (r, H')) :
    Gives P (Instr.alloc t true (.tuple #[])) w ρ L H r H' := by
  unfold aalloc at hr
  split at hr <;> cases hr
  rename_i i hi
  obtain ⟨info, z, h1, h2, h3, h4, h5, h6, h7⟩ := zero_sound (htt.info hi)
  refine gives_newVar h hL (cells := z.cells) (T := t) ?_ fun j a ha => ?_
  · simp [Instr.alloc, zeroValue, typeInfo, h1, h4, newVar, newRow]
  · obtain ⟨x, k1, k2, k3⟩ := h7 j a ha
    exact ⟨x, k1, k2, k3 _ _ _ _⟩
end
end Go.Aw
namespace Go.Aw

section
variable {P : Program} {w : World} {ρ : Mp} {L : Nat} {H : Heap}
theorem gives_newRow {s : Sem Value} {cells : Array Value} {T : TypeId} {n : Th Nat} {cap sz : Nat} {g : Th Nat → Nat → AV} (h : Rel w ρ L H) (hL : L ≤ w.heap.size) (hn : n .u ≤ cap) (hcm : cap ≤ maxLen) (hsz : cap * sz ≤ cells.size)
    (hs : s.run P w = .ok (.slice (some ⟨w.heap.size, 0, none⟩) (n .u) cap) (w.alloc (.cells cells T)))
    (hc : ∀ i c, i < n .u → c < sz → ∃ x, cells[i * sz + c]? = some x ∧ x.oneCell' = true ∧ Sim w ρ H.length L (g (fun _ => i) c) x) :
    Gives P s w ρ L H (.own H.length (fun _ => 0) n sz) (H ++ [some (true, .tab n sz g)]) := by
  refine ⟨_, _, ρ.set H.length (some w.heap.size), hs, h.alloc hL true cells T (.tab n sz g) (fun off a hat => by cases hat with | tab i c hi hcc => exact hc i c hi hcc), ?_, ?_⟩
  · have := Pass.alloc h (.cells cells T)
    simpa using this
  · refine .own (by simp) fun blk hb => ?_
    rw [Mp.set_same] at hb
    cases hb
    exact ⟨0, cap, rfl, hn, hcm, .inl (by omega), cells, T, (0, 0), heap_alloc_new w _, by omega⟩
def amake (tt : TT) (H : Heap) (t : TypeId) (l c : AV) : Option (AV × Heap × Th Prop) :=
  match tt.desc t, l, c with
  | .slice e, .i _ k, .i _ k' => match tt.info e with
    | some i => some (.own H.length (fun _ => 0) (fun _ => (k .u).toNat) i.size, H ++ [some (true, .tab (fun _ => (k .u).toNat) i.size fun _ c => i.zero.getD c .dead)], fun _ => k' .u = k .u ∧ 0 ≤ k .u ∧ (i.bytes : Int) * k .u ≤ 281474976710656 ∧ k .u ≤ 9223372036854775807)
    | none => none
  | _, _, _ => none
theorem madeCells_at (z : Array Value) (n i c : Nat) (hi : i < n) (hc : c < z.size) : (madeCells z (n * z.size))[i * z.size + c]? = some z[c] := by
  have hlt : i * z.size + c < n * z.size := by
    have h1 : (i + 1) * z.size ≤ n * z.size := Nat.mul_le_mul_right _ hi
    rw [Nat.add_mul] at h1
    omega
  unfold madeCells
  rw [Array.getElem?_map, Array.getElem?_range, if_pos hlt, Option.map_some]
  have hm : (i * z.size + c) % z.size = c := by rw [Nat.mul_comm, Nat.mul_add_mod, Nat.mod_eq_of_lt hc]
  rw [hm, getElem!_pos z c hc]
theorem gives_make {tt : TT} (htt : TTok P tt) {t : TypeId} {l c r : AV} {H' : Heap} {ob : Th Prop} {u v : Value} (h : Rel w ρ L H) (hL : L ≤ w.heap.size) (hr : amake tt H t l c = some (r, H', ob)) (hob : ob .u)
    (hu : Sim w ρ H.length L l u) (hv : Sim w ρ H.length L c v) : Gives P (Instr.makeSlice t u v) w ρ L H r H' := by
  unfold amake at hr
  split at hr <;> first | (cases hr; done) | skip
  rename_i e ik k ik' k' hd
  split at hr <;> cases hr
  rename_i i hi
  cases hu.i_inv; cases hv.i_inv
  obtain ⟨hkk, h0, hb, h63⟩ : k' .u = k .u ∧ 0 ≤ k .u ∧ (i.bytes : Int) * k .u ≤ 281474976710656 ∧ k .u ≤ 9223372036854775807 := hob
  rw [hkk]
  obtain ⟨info, z, h1, h2, h3, h4, h5, h6, h7⟩ := zero_sound (htt.info hi)
  have hrun := run_make (P := P) w t e info z (htt.desc hd (by simp)) h1 h4 ik ik' (k .u) (k .u) h0 (Int.le_refl _) (by rw [h3]; exact hb) h63
  refine gives_newRow h hL (Nat.le_refl _) (by unfold maxLen; omega) (by rw [size_madeCells, h2]; exact Nat.le_refl _) hrun fun j c hj hc => ?_
  have ha : i.zero[c]? = some (i.zero.getD c .dead) := by rw [List.getElem?_eq_getElem (by omega), List.getD_eq_getElem?_getD, List.getElem?_eq_getElem (by omega)]; rfl
  obtain ⟨x, k1, k2, k3⟩ := h7 c _ ha
  refine ⟨x, ?_, k2, k3 _ _ _ _⟩
  have hm := madeCells_at z.cells (k .u).toNat j c hj (by omega)
  rw [h2, ← h5, hm]
  rw [Array.getElem?_eq_getElem (by omega)] at k1
  exact k1

/-! ### Literals -/
def CellsSim (w : World) (ρ : Mp) (N L : Nat) (as : List AV) (cs : Array Value) : Prop :=
  cs.size = as.length ∧ ∀ (j : Nat) (a : AV), as[j]? = some a → ∃ x, cs[j]? = some x ∧ x.oneCell' = true ∧ Sim w ρ N L a x
def afill (place : Nat → Option (Nat × Nat)) (cells : List AV) : List (Nat × List AV) → Option (List AV)
  | [] => some cells
  | (i, as) :: rest => match place i with
    | none => none
    | some (off, size) => if as.length = size ∧ off + as.length ≤ cells.length then afill place (cells.take off ++ as ++ cells.drop (off + as.length)) rest else none
theorem fold_set (off : Nat) (us : List Value) : ∀ (k : Nat) (cs : Array Value), off + k + us.length ≤ cs.size →
    let r := (us.zipIdx k).foldl (fun (cs : Array Value) (p : Value × Nat) => cs.setIfInBounds (off + p.2) p.1) cs
    r.size = cs.size ∧ ∀ j : Nat, r[j]? = if off + k ≤ j ∧ j < off + k + us.length then us[j - (off + k)]? else cs[j]? := by
  induction us with
  | nil => intro k cs _; exact ⟨rfl, fun j => by simp; intro h1 h2; omega⟩
  | cons u us ih =>
    intro k cs hk
    simp only [List.zipIdx_cons, List.foldl_cons, List.length_cons] at hk ⊢
    obtain ⟨h1, h2⟩ := ih (k + 1) (cs.setIfInBounds (off + k) u) (by simp; omega)
    refine ⟨by rw [h1]; simp, fun j => ?_⟩
    rw [h2 j]
    by_cases hj : off + (k + 1) ≤ j ∧ j < off + (k + 1) + us.length
    · rw [if_pos hj, if_pos (by omega), show j - (off + k) = (j - (off + (k + 1))) + 1 by omega, List.getElem?_cons_succ]
    · rw [if_neg hj]
      by_cases he : j = off + k
      · subst he
        rw [if_pos (by omega), Nat.sub_self, List.getElem?_cons_zero]
        rw [Array.getElem?_setIfInBounds_self_of_lt (by omega)]
      · rw [if_neg (by omega), Array.getElem?_setIfInBounds_ne (by omega)]
theorem fill_sound {place : Nat → Option (Nat × Nat)} : ∀ (ps : List (Nat × List AV)) (qs : List (Nat × Value)) (as : List AV) (cs : Array Value) (as' : List AV),
    ps.map (·.1) = qs.map (·.1) → (∀ (j : Nat) (p : Nat × List AV) (q : Nat × Value), ps[j]? = some p → qs[j]? = some q → CellsSim w ρ H.length L p.2 q.2.cells) →
    CellsSim w ρ H.length L as cs → afill place as ps = some as' → ∃ cs', Instr.fill place cs qs = some cs' ∧ CellsSim w ρ H.length L as' cs' := by
  intro ps
  induction ps with
  | nil =>
    intro qs as cs as' hm _ hc hf
    cases qs with
    | nil => simp only [afill] at hf; cases hf; exact ⟨cs, rfl, hc⟩
    | cons => simp at hm
  | cons p ps ih =>
    intro qs as cs as' hm hj hc hf
    cases qs with
    | nil => simp at hm
    | cons q qs =>
      obtain ⟨i, a⟩ := p
      obtain ⟨i', v⟩ := q
      simp only [List.map_cons, List.cons.injEq] at hm
      obtain ⟨rfl, hm⟩ := hm
      have hcell : CellsSim w ρ H.length L a v.cells := hj 0 _ _ rfl rfl
      simp only [afill] at hf
      simp only [Instr.fill]
      cases hp : place i with
      | none => rw [hp] at hf; cases hf
      | some os =>
        obtain ⟨off, size⟩ := os
        rw [hp] at hf
        simp only at hf ⊢
        split at hf <;> first | (cases hf; done) | skip
        rename_i hok
        have e : ¬ (v.cells.size ≠ size || off + v.cells.size > cs.size) = true := by
          rw [hcell.1, hc.1]
          simp only [ne_eq, Bool.or_eq_true, decide_eq_true_eq, not_or, Decidable.not_not]
          omega
        rw [if_neg e]
        obtain ⟨f1, f2⟩ := fold_set off v.cells.toList 0 cs (by simp [hcell.1, hc.1]; omega)
        have hz : v.cells.zipIdx.foldl (fun (cs : Array Value) (x : Value × Nat) => cs.setIfInBounds (off + x.2) x.1) cs = (v.cells.toList.zipIdx 0).foldl (fun (cs : Array Value) (p : Value × Nat) => cs.setIfInBounds (off + p.2) p.1) cs := by
          rw [← Array.foldl_toList]
          simp
        refine ih qs _ _ as' hm (fun j p q h1 h2 => hj (j + 1) p q h1 h2) ?_ hf
        rw [hz]
        refine ⟨by rw [f1, hc.1]; simp; omega, fun j x hx => ?_⟩
        rw [f2 j]
        simp only [Nat.add_zero, Array.length_toList, hcell.1]
        by_cases hin : off ≤ j ∧ j < off + a.length
        · rw [if_pos hin]
          rw [List.append_assoc, List.getElem?_append_right (by simp; omega)] at hx
          have hlen : (as.take off).length = off := by simp; omega
          rw [hlen, List.getElem?_append_left (by omega)] at hx
          obtain ⟨y, k1, k2, k3⟩ := hcell.2 _ x hx
          exact ⟨y, by simpa using k1, k2, k3⟩
        · rw [if_neg hin]
          refine hc.2 j x ?_
          rw [List.append_assoc] at hx
          have hlen : (as.take off).length = off := by simp; omega
          by_cases h1 : j < off
          · rw [List.getElem?_append_left (by omega), List.getElem?_take, if_pos h1] at hx; exact hx
          · rw [List.getElem?_append_right (by omega), hlen, List.getElem?_append_right (by omega), List.getElem?_drop, show off + a.length + (j - off - a.length) = j by omega] at hx
            exact hx
def aparts (H : Heap) : List (Nat × AV) → Option (List (Nat × List AV))
  | [] => some []
  | (i, a) :: rest => match aflat H a, aparts H rest with
    | some as, some r => some ((i, as) :: r)
    | _, _ => none
theorem aparts_sound (h : Rel w ρ L H) : ∀ (xs : List (Nat × AV)) (qs : List (Nat × Value)) (ps : List (Nat × List AV)), aparts H xs = some ps → xs.map (·.1) = qs.map (·.1) →
    (∀ (j : Nat) (x : Nat × AV) (q : Nat × Value), xs[j]? = some x → qs[j]? = some q → Sim w ρ H.length L x.2 q.2) →
    ps.map (·.1) = qs.map (·.1) ∧ ∀ (j : Nat) (p : Nat × List AV) (q : Nat × Value), ps[j]? = some p → qs[j]? = some q → CellsSim w ρ H.length L p.2 q.2.cells := by
  intro xs
  induction xs with
  | nil =>
    intro qs ps hp hm _
    cases hp
    exact ⟨hm, fun j p q hp => by simp at hp⟩
  | cons x xs ih =>
    intro qs ps hp hm hs
    cases qs with
    | nil => simp at hm
    | cons q qs =>
      simp only [List.map_cons, List.cons.injEq] at hm
      simp only [aparts] at hp
      split at hp <;> cases hp
      rename_i as r hf hr
      obtain ⟨i1, i2⟩ := ih qs r hr hm.2 fun j a b h1 h2 => hs (j + 1) a b h1 h2
      refine ⟨by simp [hm.1, i1], fun j p q' h1 h2 => ?_⟩
      cases j with
      | zero => cases h1; cases h2; exact aflat_sound h hf (hs 0 _ _ rfl rfl)
      | succ j => exact i2 j p q' h1 h2
theorem zeros_sim {t : TypeId} {i : TI} (hi : TIok P t i) : ∃ info z, P.info? t = some info ∧ info.size = i.size ∧ info.bytes = i.bytes ∧ info.zero = some z ∧ z.cells.size = i.size ∧ CellsSim w ρ H.length L i.zero z.cells := by
  obtain ⟨info, z, h1, h2, h3, h4, h5, h6, h7⟩ := zero_sound hi
  refine ⟨info, z, h1, h2, h3, h4, h5, by omega, fun j a ha => ?_⟩
  obtain ⟨x, k1, k2, k3⟩ := h7 j a ha
  exact ⟨x, k1, k2, k3 _ _ _ _⟩
/-- The cells of a struct's literal. -/
def fplaces (tt : TT) (fs : Array Field) : Option (List (Nat × Nat)) := fs.toList.mapM fun f => (tt.info f.type).map fun i => (f.offset, i.size)
def abuild (tt : TT) (H : Heap) (t : TypeId) (xs : List (Nat × AV)) : Option AV :=
  match tt.info t, aparts H xs with
  | some i, some ps => match i.desc with
    | .struct fs => match fplaces tt fs with
      | some pl => (afill (fun j => pl[j]?) i.zero ps).map .agg
      | none => none
    | .array _ e => match tt.info e with
      | some j => (afill (fun k => some (k * j.size, j.size)) i.zero ps).map .agg
      | none => none
    | _ => none
  | _, _ => none
theorem run_places {tt : TT} (htt : TTok P tt) : ∀ (fs : List Field) (pl : List (Nat × Nat)), (fs.mapM fun f => (tt.info f.type).map fun i => (f.offset, i.size)) = some pl →
    (fs.mapM fun f => (do pure (f.offset, ← sizeOf f.type) : Sem (Nat × Nat))).run P w = .ok pl w := by
  intro fs
  induction fs with
  | nil => intro pl h; simp at h; subst h; simp
  | cons f fs ih =>
    intro pl h
    simp only [List.mapM_cons, Option.bind_eq_bind, Option.bind_eq_some_iff, Option.map_eq_some_iff] at h
    obtain ⟨p, ⟨i, hi, rfl⟩, q, hq, hpl⟩ := h
    cases hpl
    obtain ⟨_, info, z, hinfo, hsz, _⟩ := htt.info hi
    simp only [List.mapM_cons, Sem.run_bind, run_sizeOf hinfo, hsz, Result.andThen_ok, Sem.run_pure, ih q hq]
theorem gives_build {tt : TT} (htt : TTok P tt) {t : TypeId} {xs : List (Nat × AV)} {r : AV} {qs : Array (Nat × Value)} (h : Rel w ρ L H) (hr : abuild tt H t xs = some r)
    (hm : xs.map (·.1) = qs.toList.map (·.1)) (hs : ∀ (j : Nat) (x : Nat × AV) (q : Nat × Value), xs[j]? = some x → qs.toList[j]? = some q → Sim w ρ H.length L x.2 q.2) :
    Gives P (Instr.build t qs) w ρ L H r H := by
  unfold abuild at hr
  split at hr <;> first | (cases hr; done) | skip
  rename_i i ps hi hp
  obtain ⟨m1, m2⟩ := aparts_sound h xs qs.toList ps hp hm hs
  obtain ⟨info, z, h1, h2, h3, h4, h5, h6⟩ := zeros_sim (w := w) (ρ := ρ) (H := H) (L := L) (htt.info hi)
  have hd := (htt.info hi).1
  have fin : ∀ cs' as', CellsSim w ρ H.length L as' cs' → Sim w ρ H.length L (.agg as') (.agg cs') := fun cs' as' hc => .agg hc.1.symm fun j a u ha hu => by
    obtain ⟨x, k1, _, k3⟩ := hc.2 j a ha
    rw [hu] at k1
    cases k1
    exact k3
  split at hr
  · rename_i fs hdesc
    split at hr <;> first | (cases hr; done) | skip
    rename_i pl hpl
    rw [Option.map_eq_some_iff] at hr
    obtain ⟨as', hfill, rfl⟩ := hr
    obtain ⟨cs', hcs, hsim⟩ := fill_sound (w := w) (ρ := ρ) (H := H) (L := L) ps qs.toList i.zero z.cells as' m1 m2 h6 hfill
    have hplaces := run_places (P := P) (w := w) htt fs.toList pl hpl
    refine gives_pure h (v := .agg cs') ?_ (fin _ _ hsim)
    have hpl' : (fs.mapM fun f => (do pure (f.offset, ← sizeOf f.type) : Sem (Nat × Nat))).run P w = .ok pl.toArray w := by
      rw [Array.mapM_eq_mapM_toList]
      simp only [Sem.run_map, hplaces, Result.andThen_ok]
    simp only [Instr.build, Sem.run_bind, zeroValue, typeInfo, run_program, Result.andThen_ok, h1, h4, Sem.run_pure, run_underlying hd, hdesc]
    simp only [hpl', Result.andThen_ok, List.getElem?_toArray, hcs, Sem.run_pure]
  · rename_i len e hdesc
    split at hr <;> first | (cases hr; done) | skip
    rename_i j hj
    rw [Option.map_eq_some_iff] at hr
    obtain ⟨as', hfill, rfl⟩ := hr
    obtain ⟨cs', hcs, hsim⟩ := fill_sound (w := w) (ρ := ρ) (H := H) (L := L) ps qs.toList i.zero z.cells as' m1 m2 h6 hfill
    obtain ⟨_, info', z', hinfo', hsz', _⟩ := htt.info hj
    refine gives_pure h (v := .agg cs') ?_ (fin _ _ hsim)
    simp only [Instr.build, Sem.run_bind, zeroValue, typeInfo, run_program, Result.andThen_ok, h1, h4, Sem.run_pure, run_underlying hd, hdesc, run_sizeOf hinfo', hsz', hcs]
  · cases hr
end
end Go.Aw
