/- Addresses of elements and fields, slices, new blocks, append. -/
import Derived.Test.YtjlkflceicdcdaaDoorAwe
import Derived.Laws.Strings
import Derived.Laws.BytesArg
namespace Go.Aw

section
variable {P : Program} {w : World} {ρ : Mp} {L : Nat} {H : Heap}
theorem run_index {t e : TypeId} {info : TypeInfo} (ht : P.underlying t = some (.slice e)) (hi : P.info? e = some info) (a : Addr) (len cap : Nat) (ik : IntKind) (k : Int) (h0 : 0 ≤ k) (h1 : k < len) :
    (Instr.indexAt t (.slice (some a) len cap) (.int ik k)).run P w = .ok (.pointer (some (a.add (k.toNat * info.size)))) w := by
  have he : P.elem t = e := by simp [Program.elem, ht]
  have hr := run_indexAt_slice w t a len cap ik k (by rw [he]; exact ht)
  rw [hr, if_pos ⟨h0, h1⟩, he, run_sizeOf hi]
  rfl
/-- How long a slice is, and its rows. -/
def arows (H : Heap) (s : AV) : Option (Th Nat × Nat × (Th Nat → Nat → AV) × Th Prop) :=
  match s with
  | .ro _ n sz g => some (n, sz, g, fun _ => True)
  | .own id i n sz => match H[id]? with
    | some (some (_, .tab m sz' g)) => if sz = sz' then some (n, sz, fun j c => g (fun _ => i .u + j .u) c, fun _ => i .u + n .u ≤ m .u) else none
    | _ => none
  | .v (.slice none 0 0) => some (fun _ => 0, 1, fun _ _ => .dead, fun _ => True)
  | _ => none
theorem arows_sound (h : Rel w ρ L H) {s : AV} {n : Th Nat} {sz : Nat} {g : Th Nat → Nat → AV} {ob : Th Prop} {u : Value} (hr : arows H s = some (n, sz, g, ob)) (hob : ob .u) (hs : Sim w ρ H.length L s u) :
    ∃ base cap, u = .slice base (n .u) cap ∧ (n .u = 0 ∨ n .u ≤ cap ∧ ∃ blk off, base = some ⟨blk, off, none⟩ ∧
      ∀ i c, i < n .u → c < sz → ∃ x, w.cell? ⟨blk, off + (i * sz + c), none⟩ = some x ∧ x.oneCell' = true ∧ Sim w ρ H.length L (g (fun _ => i) c) x) := by
  unfold arows at hr
  split at hr
  · cases hr
    cases hs with
    | ro0 h0 => exact ⟨_, _, by rw [h0], .inl h0⟩
    | ro us hn hq hc hsim => exact ⟨_, _, rfl, .inr ⟨hn, _, _, rfl, fun i c hi hcc => ⟨us i c, (hc i c hi hcc).1, (hc i c hi hcc).2, hsim i c hi hcc⟩⟩⟩
  · rename_i id i n' sz'
    split at hr <;> first | (cases hr; done) | skip
    rename_i fr m sz2 g' hH
    split at hr <;> cases hr
    rename_i he
    subst he
    obtain ⟨blk, cs, T, hb, hB⟩ := h.at_ hH
    cases hs with
    | own hid hv =>
    obtain ⟨off, cap, rfl, hn, hcm, hoff, hroom⟩ := hv blk hb
    refine ⟨_, cap, rfl, ?_⟩
    rcases Nat.eq_zero_or_pos (n .u) with h0 | h0
    · exact .inl h0
    · refine .inr ⟨hn, blk, off, rfl, fun j c hj hc => ?_⟩
      have hob' : i .u + n .u ≤ m .u := hob
      have e : off = i .u * sz := by rcases hoff with e | e; exact e; omega
      obtain ⟨x, h1, h2, h3⟩ := hB.cell ((i .u + j) * sz + c) _ (.tab (i .u + j) c (by omega) hc)
      refine ⟨x, ?_, h2, h3⟩
      rw [cell_of_row w blk _ cs T (0, 0) hB.here, e, ← h1, Nat.add_mul, Nat.add_assoc]
  · cases hr
    cases hs
    exact ⟨_, _, rfl, .inl rfl⟩
  · cases hr
def aindexAddr (tt : TT) (H : Heap) (t : TypeId) (x i : AV) : Option (AV × Th Prop) :=
  match tt.desc t, x, i with
  | .slice e, .own id j n sz, .i _ k => match tt.info e with
    | some ti => if live H id && ti.size == sz then some (.ptr id (fun _ => j .u + (k .u).toNat) sz 0, fun _ => 0 ≤ k .u ∧ k .u < (n .u : Int)) else none
    | none => none
  | .slice e, .ro fr n sz g, .i _ k => match tt.info e with
    | some ti => if ti.size = sz then some (.rptr fr sz (g fun _ => (k .u).toNat), fun _ => 0 ≤ k .u ∧ k .u < (n .u : Int)) else none
    | none => none
  | _, _, _ => none
theorem gives_index {tt : TT} (htt : TTok P tt) {t : TypeId} {x i r : AV} {ob : Th Prop} {u v : Value} (h : Rel w ρ L H) (hr : aindexAddr tt H t x i = some (r, ob)) (hob : ob .u)
    (hx : Sim w ρ H.length L x u) (hi : Sim w ρ H.length L i v) : Gives P (Instr.indexAt t u v) w ρ L H r H := by
  unfold aindexAddr at hr
  split at hr
  · rename_i e id j n sz ik k hd
    split at hr <;> first | (cases hr; done) | skip
    rename_i ti hti
    split at hr <;> cases hr
    rename_i hc
    simp only [Bool.and_eq_true, beq_iff_eq] at hc
    obtain ⟨hl, hsz⟩ := hc
    have ht := htt.desc hd (by simp)
    obtain ⟨_, info, z, hinfo, hins, _⟩ := htt.info hti
    obtain ⟨blk, hb⟩ := live_at h hl
    cases hi.i_inv
    have hob' : 0 ≤ k .u ∧ k .u < (n .u : Int) := hob
    cases hx with
    | own hid hv =>
    obtain ⟨off, cap, rfl, hn, hcm, hoff, hroom⟩ := hv blk hb
    have e : off = j .u * sz := by rcases hoff with e | e; exact e; omega
    refine gives_pure h (run_index ht hinfo _ _ _ _ _ hob'.1 hob'.2) (.ptr hid fun b hb' => ?_)
    rw [hb] at hb'
    cases hb'
    rw [addr_add, e, hins, hsz, Nat.add_mul, Nat.add_zero]
  · rename_i e fr n sz g ik k hd
    split at hr <;> first | (cases hr; done) | skip
    rename_i ti hti
    split at hr <;> cases hr
    rename_i hsz
    have ht := htt.desc hd (by simp)
    obtain ⟨_, info, z, hinfo, hins, _⟩ := htt.info hti
    cases hi.i_inv
    have hob' : 0 ≤ k .u ∧ k .u < (n .u : Int) := hob
    cases hx with
    | ro0 h0 => omega
    | ro us hn hq hc hsim =>
    rename_i blk off cap
    have hk : (k .u).toNat < n .u := by omega
    refine gives_pure h (run_index ht hinfo _ _ _ _ _ hob'.1 hob'.2) ?_
    rw [addr_add, hins, hsz]
    exact .rptr (us (k .u).toNat) hq (fun c hc' => by rw [Nat.add_assoc]; exact hc _ c hk hc') (fun c hc' => hsim _ c hk hc')
  · cases hr
/-- A slice of bytes as a string. -/
def bOf : AV → Int
  | .i _ y => y .u
  | _ => 0
def aconvS (tt : TT) (H : Heap) (e : TypeId) (x : AV) : Option (AV × Th Prop) :=
  match tt.desc e with
  | .int .u8 => match arows H x with
    | some (n, 1, g, ob) => some (.s fun _ => strOfNums ((List.range (n .u)).map fun i => bOf (g (fun _ => i) 0)), fun _ => ob .u ∧ ∀ i, i < n .u → ∃ y, g (fun _ => i) 0 = .i .u8 y)
    | _ => none
  | _ => none
theorem aconvS_i {tt : TT} {H : Heap} {e : TypeId} {k : IntKind} {n : Th Int} : aconvS tt H e (.i k n) = none := by
  unfold aconvS arows
  split <;> rfl
theorem aconvS_f {tt : TT} {H : Heap} {e : TypeId} {k : FloatKind} {n : Th Nat} : aconvS tt H e (.f k n) = none := by
  unfold aconvS arows
  split <;> rfl
theorem run_conv_none {P : Program} (w : World) (src e : TypeId) (hs : P.underlying src = some (.slice e)) (he : P.underlying e = some (.int .u8)) (p : Option Addr) (c : Nat) (dst : TypeId) (hd : P.underlying dst = some .string) :
    (convert src dst (.slice p 0 c)).run P w = .ok (.string ByteArray.empty) w := by
  rw [run_convert_bytes_string w src dst e _ 0 c hs he hd]
  cases p <;> simp [Conv.bytesToString, loadCells]
  all_goals rfl
theorem gives_convS {tt : TT} (htt : TTok P tt) {src dst e : TypeId} {x r : AV} {ob : Th Prop} {u : Value} (h : Rel w ρ L H) (hsrc : tt.desc src = .slice e) (hdst : tt.desc dst = .string) (hr : aconvS tt H e x = some (r, ob)) (hob : ob .u)
    (hx : Sim w ρ H.length L x u) : Gives P (convert src dst u) w ρ L H r H := by
  unfold aconvS at hr
  split at hr <;> first | (cases hr; done) | skip
  rename_i he
  split at hr <;> cases hr
  rename_i n g ob' hrow
  obtain ⟨hob1, hb⟩ := hob
  obtain ⟨base, cap, rfl, hn⟩ := arows_sound h hrow hob1 hx
  have hs := htt.desc hsrc (by simp)
  have hd := htt.desc hdst (by simp)
  have hu := htt.desc he (by simp)
  by_cases h0 : n .u = 0
  · have e := run_conv_none w src _ hs hu base cap dst hd
    rw [h0]
    refine gives_pure h (e.trans ?_) .s
    rfl
  · rcases hn with hn | ⟨_, blk, off, rfl, hcell⟩
    · exact absurd hn h0
    · refine gives_pure h (run_convert_bytes_arg w src _ hs hu blk off (n .u) cap _ (by simp) (fun i hi => ?_) dst hd) .s
      obtain ⟨v, h1, h2, h3⟩ := hcell i 0 hi (by decide)
      obtain ⟨y, hy⟩ := hb i hi
      rw [hy] at h3
      cases h3.i_inv
      rw [Nat.mul_one, Nat.add_zero] at h1
      rw [h1]
      simp [List.getD_eq_getElem?_getD, hi, hy, bOf]
/-- A string's byte. -/
def byteAt (s : ByteArray) (i : Nat) : Int := ((s.data.toList.getD i 0).toNat : Int)
def aindexS (tt : TT) (t : TypeId) (x i : AV) : Option (AV × Th Prop) :=
  match tt.desc t, x, i with
  | .string, .s s, .i _ k => some (.i .u8 fun _ => byteAt (s .u) (k .u).toNat, fun _ => 0 ≤ k .u ∧ k .u < ((s .u).size : Int))
  | _, _, _ => none
theorem gives_indexS {tt : TT} (htt : TTok P tt) {t : TypeId} {x i r : AV} {ob : Th Prop} {u v : Value} (h : Rel w ρ L H) (hr : aindexS tt t x i = some (r, ob)) (hob : ob .u)
    (hx : Sim w ρ H.length L x u) (hi : Sim w ρ H.length L i v) : Gives P (Instr.index t u v) w ρ L H r H := by
  unfold aindexS at hr
  split at hr <;> cases hr
  rename_i s k' k hd
  cases hx.s_inv
  cases hi.i_inv
  have hob' : 0 ≤ k .u ∧ k .u < ((s .u).size : Int) := hob
  have e := Go.run_index_string (P := P) w t (s .u) k' (k .u) (htt.desc hd (by simp))
  rw [dif_pos hob'] at e
  refine gives_pure h (e.trans ?_) .i
  have hl : (k .u).toNat < (s .u).size := by omega
  have hl2 : (k .u).toNat < (s .u).data.toList.length := by simpa using hl
  have : ((s .u)[(k .u).toNat]'hl) = (s .u).data.toList.getD (k .u).toNat 0 := by
    rw [List.getD_eq_getElem?_getD, List.getElem?_eq_getElem hl2]
    rfl
  rw [this]
  rfl
def alen (H : Heap) (tt : TT) (t : TypeId) (x : AV) : Option AV :=
  match tt.desc t, x with
  | .string, .s x => some (.i .i64 fun _ => ((x .u).size : Int))
  | .slice _, .ro _ n _ _ => some (.i .i64 fun _ => (n .u : Int))
  | .slice _, .own id _ n _ => if live H id then some (.i .i64 fun _ => (n .u : Int)) else none
  | .slice _, .v (.slice none 0 0) => some (.i .i64 fun _ => 0)
  | _, _ => none
theorem gives_len {tt : TT} (htt : TTok P tt) {t ty : TypeId} {x r : AV} {u : Value} (h : Rel w ρ L H) (hr : alen H tt t x = some r) (hx : Sim w ρ H.length L x u) :
    Gives P (Builtin.len_ #[t] ty #[u]) w ρ L H r H := by
  unfold alen at hr
  have fin : ∀ (n : Th Int) (s : Sem Value), s.run P w = .ok (.int .i64 (n .u)) w → Gives P s w ρ L H (.i .i64 n) H := fun n s hs => gives_pure h hs .i
  split at hr
  · rename_i s hd
    cases hr; cases hx.s_inv
    exact fin _ _ (by simp [Builtin.len_, run_underlying (htt.desc hd (by simp)), goInt])
  · rename_i e fr n sz g hd
    cases hr
    have he : P.elem t = e := by simp [Program.elem, htt.desc hd (by simp)]
    cases hx with
    | ro0 h0 => exact fin _ _ (by rw [run_len_slice w t ty _ _ _ (by rw [he]; exact htt.desc hd (by simp)), h0]; rfl)
    | ro => exact fin _ _ (run_len_slice w t ty _ _ _ (by rw [he]; exact htt.desc hd (by simp)))
  · rename_i e id i n sz hd
    split at hr <;> cases hr
    rename_i hl
    have he : P.elem t = e := by simp [Program.elem, htt.desc hd (by simp)]
    obtain ⟨blk, hb⟩ := live_at h hl
    cases hx with
    | own hid hv =>
    obtain ⟨off, cap, rfl, _⟩ := hv blk hb
    exact fin _ _ (run_len_slice w t ty _ _ _ (by rw [he]; exact htt.desc hd (by simp)))
  · rename_i e hd
    cases hr; cases hx.v_inv
    have he : P.elem t = e := by simp [Program.elem, htt.desc hd (by simp)]
    exact fin _ _ (run_len_slice w t ty none 0 0 (by rw [he]; exact htt.desc hd (by simp)))
  · cases hr

/-! ### Fields -/
def afieldAddr (tt : TT) (H : Heap) (t : TypeId) (p : AV) (f : Nat) : Option AV :=
  match tt.desc t with
  | .struct fs => match fs[f]? with
    | some fd => match tt.info fd.type with
      | some ti => if ti.size = 0 then none else match p with
        | .ptr id i sz c => if live H id then some (.ptr id i sz (c + fd.offset)) else none
        | .rptr fr m g => if fd.offset + ti.size ≤ m then some (.rptr fr (m - fd.offset) fun j => g (fd.offset + j)) else none
        | _ => none
      | none => none
    | none => none
  | _ => none
theorem gives_fieldAddr {tt : TT} (htt : TTok P tt) {t : TypeId} {p r : AV} {f : Nat} {u : Value} (h : Rel w ρ L H) (hr : afieldAddr tt H t p f = some r) (hs : Sim w ρ H.length L p u) :
    Gives P (Instr.fieldAt t u f) w ρ L H r H := by
  unfold afieldAddr at hr
  split at hr <;> first | (cases hr; done) | skip
  rename_i fs hd
  split at hr <;> first | (cases hr; done) | skip
  rename_i fd hf
  split at hr <;> first | (cases hr; done) | skip
  rename_i ti hti
  split at hr <;> first | (cases hr; done) | skip
  rename_i hnz
  obtain ⟨_, info, z, hinfo, hins, _⟩ := htt.info hti
  have ht := htt.desc hd (by simp)
  have run : ∀ blk off, (Instr.fieldAt t (.pointer (some ⟨blk, off, none⟩)) f).run P w = .ok (.pointer (some ⟨blk, off + fd.offset, none⟩)) w := by
    intro blk off
    have e : info.size ≠ 0 := by omega
    simp [Instr.fieldAt, run_underlying ht, hf, Instr.sureAddr, fieldPlace, run_sizeOf hinfo, e, addr_add]
  split at hr
  · rename_i id i sz c
    split at hr <;> cases hr
    rename_i hl
    obtain ⟨blk, hb⟩ := live_at h hl
    cases hs with
    | ptr hid hv =>
    rw [hv blk hb]
    refine gives_pure h (run _ _) (.ptr hid fun b hb' => ?_)
    rw [hb] at hb'; cases hb'
    rw [Nat.add_assoc]
  · rename_i fr m g
    split at hr <;> cases hr
    cases hs with
    | rptr us hq hc hsim =>
    refine gives_pure h (run _ _) (.rptr (fun j => us (fd.offset + j)) hq (fun c hcc => ?_) (fun c hcc => hsim _ (by omega)))
    rw [Nat.add_assoc]
    exact hc _ (by omega)
  · cases hr
def afield (tt : TT) (t : TypeId) (x : AV) (f : Nat) : Option AV :=
  match tt.desc t, x with
  | .struct fs, .agg l => match fs[f]? with
    | some fd => match tt.info fd.type with
      | some ti => if fd.offset + ti.size ≤ l.length then asOne ti.desc ((l.drop fd.offset).take ti.size) else none
      | none => none
    | none => none
  | _, _ => none
theorem gives_field {tt : TT} (htt : TTok P tt) {t : TypeId} {x r : AV} {f : Nat} {u : Value} (h : Rel w ρ L H) (hr : afield tt t x f = some r) (hs : Sim w ρ H.length L x u) :
    Gives P (Instr.field t u f) w ρ L H r H := by
  unfold afield at hr
  split at hr <;> first | (cases hr; done) | skip
  rename_i fs l hd
  split at hr <;> first | (cases hr; done) | skip
  rename_i fd hf
  split at hr <;> first | (cases hr; done) | skip
  rename_i ti hti
  split at hr <;> first | (cases hr; done) | skip
  rename_i hle
  obtain ⟨htd, info, z, hinfo, hins, _⟩ := htt.info hti
  obtain ⟨us, rfl, hl, hj⟩ := hs.agg_inv
  have ht := htt.desc hd (by simp)
  unfold asOne at hr
  split at hr
  · rename_i hag
    cases hr
    refine gives_pure h (v := .agg (us.extract fd.offset (fd.offset + ti.size))) ?_ (.agg (by simp; omega) fun j a x ha hx => ?_)
    · simp [Instr.field, run_underlying ht, hf, part, run_isAgg htd, hag, run_sizeOf hinfo, hins, asAgg]
    · rw [Array.getElem?_extract] at hx
      have hlt : j < ti.size := by
        rcases Nat.lt_or_ge j ti.size with h' | h'
        · exact h'
        · rw [List.getElem?_take, if_neg (by omega)] at ha; cases ha
      rw [List.getElem?_take, if_pos hlt, List.getElem?_drop] at ha
      split at hx
      · exact hj _ a x ha hx
      · cases hx
  · rename_i hag
    split at hr <;> cases hr
    rename_i hone
    have ha : l[fd.offset]? = some r := by
      have := congrArg (fun q => q[0]?) hone
      simp only [List.getElem?_cons_zero] at this
      rw [List.getElem?_take] at this
      split at this
      · rw [List.getElem?_drop] at this; simpa using this
      · cases this
    have hlt := (List.getElem?_eq_some_iff.1 ha).1
    have hu : us[fd.offset]? = some (us[fd.offset]'(by omega)) := Array.getElem?_eq_getElem (by omega)
    have hagf : isAggD ti.desc = false := by simpa using hag
    refine gives_pure h (v := us[fd.offset]'(by omega)) ?_ (hj _ _ _ ha hu)
    simp [Instr.field, run_underlying ht, hf, part, run_isAgg htd, hagf, asAgg, hu]

/-! ### New blocks -/
theorem sim_zero {x : Value} (h : okZero x = true) (w : World) (ρ : Mp) (N L : Nat) : Sim w ρ N L (zeroAV x) x := by
  cases x <;> simp only [okZero, zeroAV, Bool.and_eq_true, beq_iff_eq] at h ⊢
  case float => exact .f h
  case complex => exact .c h.1 h.2
  case int => exact .i
  case bool => exact .b
  case string => exact .s
  all_goals exact .v h
theorem one_zero {x : Value} (h : okZero x = true) : x.oneCell' = true := by
  cases x <;> first | rfl | (simp [okZero, plain] at h; done)
theorem zero_sound {t : TypeId} {i : TI} (hi : TIok P t i) : ∃ info z, P.info? t = some info ∧ info.size = i.size ∧ info.bytes = i.bytes ∧ info.zero = some z ∧ z.cells.size = i.size ∧ i.zero.length = i.size ∧
    ∀ (j : Nat) (a : AV), i.zero[j]? = some a → ∃ x, z.cells[j]? = some x ∧ x.oneCell' = true ∧ ∀ (w : World) (ρ : Mp) (N L : Nat), Sim w ρ N L a x := by
  obtain ⟨hd, info, z, h1, h2, h3, h4, h5, h6, h7⟩ := hi
  refine ⟨info, z, h1, h2, h3, h4, h5, by rw [h6]; simpa using h5, fun j a ha => ?_⟩
  rw [h6, List.getElem?_map, Option.map_eq_some_iff] at ha
  obtain ⟨x, hx, rfl⟩ := ha
  have hok := List.all_eq_true.1 h7 x (List.mem_of_getElem? hx)
  exact ⟨x, by simpa using hx, one_zero hok, fun w ρ N L => sim_zero hok w ρ N L⟩
theorem gives_newVar {s : Sem Value} {cells : Array Value} {T : TypeId} {as : List AV} (h : Rel w ρ L H) (hL : L ≤ w.heap.size)
    (hs : s.run P w = .ok (.pointer (some ⟨w.heap.size, 0, none⟩)) (w.alloc (.cells cells T)))
    (hc : ∀ (j : Nat) (a : AV), as[j]? = some a → ∃ x, cells[j]? = some x ∧ x.oneCell' = true ∧ Sim w ρ H.length L a x) :
    Gives P s w ρ L H (.ptr H.length (fun _ => 0) as.length 0) (H ++ [some (true, .box as)]) := by
  refine ⟨_, _, ρ.set H.length (some w.heap.size), hs, h.alloc hL true cells T (.box as) (fun off a hat => by cases hat with | box ha => exact hc off a ha), ?_, ?_⟩
  · have := Pass.alloc h (.cells cells T)
    simpa using this
  · refine .ptr (by simp) fun blk hb => ?_
    rw [Mp.set_same] at hb
    cases hb
    simp
def abox (H : Heap) (x : AV) : Option (AV × Heap) :=
  match aflat H x with
  | some as => some (.ptr H.length (fun _ => 0) as.length 0, H ++ [some (true, .box as)])
  | none => none
theorem gives_box {T : TypeId} {x r : AV} {H' : Heap} {u : Value} (h : Rel w ρ L H) (hL : L ≤ w.heap.size) (hr : abox H x = some (r, H')) (hs : Sim w ρ H.length L x u) :
    Gives P (Instr.box T u) w ρ L H r H' := by
  unfold abox at hr
  split at hr <;> cases hr
  rename_i as hf
  obtain ⟨_, h2⟩ := aflat_sound h hf hs
  exact gives_newVar (T := T) h hL (by simp [Instr.box, newVar, newRow]) h2
def aalloc (tt : TT) (H : Heap) (t : TypeId) : Option (AV × Heap) :=
  match tt.info t with
  | some i => some (.ptr H.length (fun _ => 0) i.zero.length 0, H ++ [some (true, .box i.zero)])
  | none => none
theorem gives_alloc {tt : TT} (htt : TTok P tt) {t : TypeId} {r : AV} {H' : Heap} (h : Rel w ρ L H) (hL : L ≤ w.heap.size) (hr : aalloc tt H t = some (r, H')) :
    Gives P (Instr.alloc t true (.tuple #[])) w ρ L H r H' := by
  unfold aalloc at hr
  split at hr <;> cases hr
  rename_i i hi
  obtain ⟨info, z, h1, h2, h3, h4, h5, h6, h7⟩ := zero_sound (htt.info hi)
  refine gives_newVar h hL (cells := z.cells) (T := t) ?_ fun j a ha => ?_
  · simp [Instr.alloc, zeroValue, typeInfo, h1, h4, newVar, newRow]
  · obtain ⟨x, k1, k2, k3⟩ := h7 j a ha
    exact ⟨x, k1, k2, k3 _ _ _ _⟩
end
end Go.Aw
