/- Slice literals, parts of slices and strings, append, copies of strings. -/
import Derived.Test.YtfdmmbcjidkmoaaAwg
namespace Go.Aw

section
variable {P : Program} {w : World} {ρ : Mp} {L : Nat} {H : Heap}
def zerosList (n : Nat) (i : TI) : List AV := (List.range (n * i.size)).map fun j => i.zero.getD (j % i.size) .dead
def abuildSlice (tt : TT) (H : Heap) (t : TypeId) (n : Nat) (xs : List (Nat × AV)) : Option (AV × Heap) :=
  match tt.desc t, aparts H xs with
  | .slice e, some ps => match tt.info e with
    | some i => if 0 < i.size ∧ n * i.size ≤ 16777216 then match afill (fun k => some (k * i.size, i.size)) (zerosList n i) ps with
        | some fl => some (.own H.length (fun _ => 0) (fun _ => n) i.size, H ++ [some (true, .tab (fun _ => n) i.size fun r c => fl.getD (r .u * i.size + c) .dead)])
        | none => none
      else none
    | none => none
  | _, _ => none
theorem afill_length {place : Nat → Option (Nat × Nat)} : ∀ (ps : List (Nat × List AV)) (as as' : List AV), afill place as ps = some as' → as'.length = as.length := by
  intro ps
  induction ps with
  | nil => intro as as' h; cases h; rfl
  | cons p ps ih =>
    intro as as' h
    obtain ⟨i, a⟩ := p
    simp only [afill] at h
    split at h <;> first | (cases h; done) | skip
    split at h <;> first | (cases h; done) | skip
    rw [ih _ _ h]
    simp; omega
theorem zeros_cells {t : TypeId} {i : TI} (hi : TIok P t i) (hs : 0 < i.size) (n : Nat) : ∃ info z, P.info? t = some info ∧ info.size = i.size ∧ info.zero = some z ∧ z.cells.size = i.size ∧
    CellsSim w ρ H.length L (zerosList n i) ((Array.range (n * i.size)).map (z.cells[· % z.cells.size]!)) := by
  obtain ⟨info, z, h1, h2, h3, h4, h5, h6, h7⟩ := zero_sound hi
  refine ⟨info, z, h1, h2, h4, h5, by simp [zerosList], fun j a ha => ?_⟩
  obtain ⟨hj, rfl⟩ := range_map_at ha
  have hm : j % i.size < i.size := Nat.mod_lt _ hs
  have ha' : i.zero[j % i.size]? = some (i.zero.getD (j % i.size) .dead) := by rw [List.getD_eq_getElem?_getD, List.getElem?_eq_getElem (by omega)]; rfl
  obtain ⟨x, k1, k2, k3⟩ := h7 _ _ ha'
  refine ⟨x, ?_, k2, k3 _ _ _ _⟩
  rw [Array.getElem?_map, Array.getElem?_range, if_pos hj, Option.map_some, h5]
  rw [Array.getElem?_eq_getElem (by omega)] at k1
  rw [getElem!_pos z.cells _ (by omega)]
  exact k1
theorem gives_buildSlice {tt : TT} (htt : TTok P tt) {t : TypeId} {n : Nat} {xs : List (Nat × AV)} {r : AV} {H' : Heap} {qs : Array (Nat × Value)} (h : Rel w ρ L H) (hL : L ≤ w.heap.size) (hr : abuildSlice tt H t n xs = some (r, H'))
    (hm : xs.map (·.1) = qs.toList.map (·.1)) (hs : ∀ (j : Nat) (x : Nat × AV) (q : Nat × Value), xs[j]? = some x → qs.toList[j]? = some q → Sim w ρ H.length L x.2 q.2) :
    Gives P (Instr.buildSlice t n qs) w ρ L H r H' := by
  unfold abuildSlice at hr
  split at hr <;> first | (cases hr; done) | skip
  rename_i e ps hd hp
  split at hr <;> first | (cases hr; done) | skip
  rename_i i hi
  split at hr <;> first | (cases hr; done) | skip
  rename_i hc
  split at hr <;> cases hr
  rename_i fl hfl
  obtain ⟨m1, m2⟩ := aparts_sound h xs qs.toList ps hp hm hs
  obtain ⟨info, z, h1, h2, h3, h4, h5⟩ := zeros_cells (P := P) (w := w) (ρ := ρ) (H := H) (L := L) (htt.info hi) hc.1 n
  obtain ⟨cs', hcs, hsim⟩ := fill_sound (w := w) (ρ := ρ) (H := H) (L := L) ps qs.toList _ _ fl m1 m2 h5 hfl
  have hflen : fl.length = n * i.size := by rw [afill_length _ _ _ hfl]; simp [zerosList]
  have hrun : (Instr.buildSlice t n qs).run P w = .ok (.slice (some ⟨w.heap.size, 0, none⟩) n n) (w.alloc (.cells cs' e)) := by
    have e1 : ¬ n * info.size > 2 ^ 24 := by rw [h2]; omega
    by_cases h0 : n * info.size = 0
    · have hcs0 : Instr.fill (fun j => some (j * info.size, info.size)) #[] qs.toList = some cs' := by
        rw [h2] at h0 ⊢
        rw [h0] at hcs
        simpa [Array.range_zero'] using hcs
      simp only [Instr.buildSlice, Sem.run_bind, run_underlying (htt.desc hd (by simp)), Result.andThen_ok, run_sizeOf h1, h0, if_true, Array.range_zero', Array.map_empty, hcs0, newRow]
      rfl
    · have hcs1 : Instr.fill (fun j => some (j * info.size, info.size)) ((Array.range (n * info.size)).map (z.cells[· % z.cells.size]!)) qs.toList = some cs' := by rw [h2]; exact hcs
      simp only [Instr.buildSlice, Sem.run_bind, run_underlying (htt.desc hd (by simp)), Result.andThen_ok, run_sizeOf h1, e1, if_false, h0, zeroValue, typeInfo, run_program, h1, h3, Sem.run_pure, hcs1, newRow, run_newObj]
      rfl
  refine gives_newRow h hL (Nat.le_refl _) ?_ (by rw [hsim.1, hflen]; exact Nat.le_refl _) hrun fun r c hr hcc => ?_
  · have : n * 1 ≤ n * i.size := Nat.mul_le_mul_left _ hc.1
    unfold maxLen; omega
  · have hlt : r * i.size + c < n * i.size := by
      have h1 : (r + 1) * i.size ≤ n * i.size := Nat.mul_le_mul_right _ hr
      rw [Nat.add_mul] at h1
      omega
    refine hsim.2 _ _ ?_
    rw [List.getD_eq_getElem?_getD, List.getElem?_eq_getElem (by omega)]
    rfl

/-! ### Parts of slices and strings -/
def abound (d : Th Int) : Option AV → Option (Th Int)
  | none => some d
  | some (.i _ k) => some k
  | _ => none
def areslice (tt : TT) (H : Heap) (t : TypeId) (x : AV) (lo hi : Option AV) : Option (AV × Th Prop) :=
  match tt.desc t, x with
  | .slice e, .own id j n sz => match tt.info e, abound (fun _ => 0) lo, abound (fun _ => (n .u : Int)) hi with
    | some i, some l, some h => if live H id && i.size == sz then some (.own id (fun _ => j .u + (l .u).toNat) (fun _ => (h .u - l .u).toNat) sz, fun _ => 0 ≤ l .u ∧ l .u ≤ h .u ∧ h .u ≤ (n .u : Int)) else none
    | _, _, _ => none
  | .slice e, .ro fr n sz g => match tt.info e, abound (fun _ => 0) lo, abound (fun _ => (n .u : Int)) hi with
    | some i, some l, some h => if i.size = sz then some (.ro fr (fun _ => (h .u - l .u).toNat) sz (fun r c => g (fun _ => (l .u).toNat + r .u) c), fun _ => 0 ≤ l .u ∧ l .u ≤ h .u ∧ h .u ≤ (n .u : Int)) else none
    | _, _, _ => none
  | .string, .s x => match abound (fun _ => 0) lo, abound (fun _ => ((x .u).size : Int)) hi with
    | some l, some h => some (.s fun _ => (x .u).extract (l .u).toNat (h .u).toNat, fun _ => 0 ≤ l .u ∧ l .u ≤ h .u ∧ h .u ≤ ((x .u).size : Int))
    | _, _ => none
  | _, _ => none
/-- A bound that was told: not there, or this number. -/
def BoundIs (d : Int) (v : Option Value) (k : Int) : Prop := (v = none ∧ k = d) ∨ ∃ ik, v = some (.int ik k)
theorem abound_sound {d : Th Int} {a : Option AV} {v : Option Value} {k : Th Int} (hr : abound d a = some k) (hn : a = none ↔ v = none) (hs : ∀ x u, a = some x → v = some u → Sim w ρ H.length L x u) : BoundIs (d .u) v (k .u) := by
  unfold abound at hr
  split at hr
  · cases hr; exact .inl ⟨hn.1 rfl, rfl⟩
  · rename_i ik k'
    cases hr
    cases v with
    | none => exact absurd (hn.2 rfl) (by simp)
    | some u => cases (hs _ u rfl rfl).i_inv; exact .inr ⟨ik, rfl⟩
  · cases hr
theorem run_bounds (isSlice : Bool) (len cap : Nat) {lo hi : Option Value} {l h : Int} (hl : BoundIs 0 lo l) (hh : BoundIs len hi h) (h0 : 0 ≤ l) (h1 : l ≤ h) (h2 : h ≤ len) (hc : len ≤ cap) :
    (Instr.sliceBounds isSlice len cap lo hi none).run P w = .ok (l.toNat, h.toNat, cap) w := by
  have b1 : ∀ ik code, (Instr.sliceBound (.int ik h) cap code).run P w = .ok h.toNat w := fun ik code => run_sliceBound w ik h cap code (by omega) (by omega)
  have b2 : ∀ ik code, (Instr.sliceBound (.int ik l) h.toNat code).run P w = .ok l.toNat w := fun ik code => run_sliceBound w ik l h.toNat code h0 (by omega)
  have b3 : ∀ ik code, (Instr.sliceBound (.int ik l) len code).run P w = .ok l.toNat w := fun ik code => run_sliceBound w ik l len code h0 (by omega)
  rcases hl with ⟨rfl, rfl⟩ | ⟨ik, rfl⟩ <;> rcases hh with ⟨rfl, rfl⟩ | ⟨ik', rfl⟩ <;> simp [Instr.sliceBounds, b1, b2, b3]
theorem gives_reslice {tt : TT} (htt : TTok P tt) {t : TypeId} {x r : AV} {lo hi : Option AV} {ob : Th Prop} {u : Value} {vlo vhi : Option Value} (h : Rel w ρ L H) (hr : areslice tt H t x lo hi = some (r, ob)) (hob : ob .u)
    (hx : Sim w ρ H.length L x u) (hln : lo = none ↔ vlo = none) (hhn : hi = none ↔ vhi = none) (hls : ∀ x u, lo = some x → vlo = some u → Sim w ρ H.length L x u) (hhs : ∀ x u, hi = some x → vhi = some u → Sim w ρ H.length L x u) :
    Gives P (Instr.sliceAt t u vlo vhi none) w ρ L H r H := by
  unfold areslice at hr
  split at hr
  · rename_i e id j n sz hd
    split at hr <;> first | (cases hr; done) | skip
    rename_i i l hb hi' hlo hhi
    split at hr <;> cases hr
    rename_i hc
    simp only [Bool.and_eq_true, beq_iff_eq] at hc
    obtain ⟨hl, hsz⟩ := hc
    obtain ⟨o1, o2, o3⟩ : 0 ≤ l .u ∧ l .u ≤ hb .u ∧ hb .u ≤ (n .u : Int) := hob
    obtain ⟨blk, hb'⟩ := live_at h hl
    obtain ⟨_, info, z, hinfo, hins, _⟩ := htt.info hi'
    have ht := htt.desc hd (by simp)
    cases hx with
    | own hid hv =>
    obtain ⟨off, cap, rfl, hn, hcm, hoff, hroom⟩ := hv blk hb'
    have hbd := run_bounds (P := P) (w := w) true (n .u) cap (abound_sound (w := w) (ρ := ρ) (H := H) (L := L) hlo hln hls) (abound_sound (w := w) (ρ := ρ) (H := H) (L := L) hhi hhn hhs) o1 o2 o3 hn
    refine gives_pure h (v := .slice (some (if cap = (l .u).toNat then (⟨blk, off, none⟩ : Addr) else (⟨blk, off, none⟩ : Addr).add ((l .u).toNat * info.size))) ((hb .u).toNat - (l .u).toNat) (cap - (l .u).toNat)) ?_ (.own hid fun b hbb => ?_)
    · simp only [Instr.sliceAt, Sem.run_bind, run_underlying ht, Result.andThen_ok, Instr.slice, hbd, run_sizeOf hinfo, Sem.run_pure]
      split <;> simp
    · rw [hb'] at hbb; cases hbb
      have e1 : (hb .u - l .u).toNat = (hb .u).toNat - (l .u).toNat := by omega
      simp only [e1]
      rw [hins, hsz]
      by_cases hcl : cap = (l .u).toNat
      · rw [if_pos hcl]
        refine ⟨off, cap - (l .u).toNat, rfl, by omega, by omega, .inr (by omega), ?_⟩
        obtain ⟨cs, T, fz, g1, g2⟩ := hroom
        refine ⟨cs, T, fz, g1, ?_⟩
        have : cap - (l .u).toNat = 0 := by omega
        rw [this]; omega
      · rw [if_neg hcl, addr_add]
        refine ⟨off + (l .u).toNat * sz, cap - (l .u).toNat, rfl, by omega, by omega, ?_, ?_⟩
        · left
          rcases hoff with e | e
          · rw [e, Nat.add_mul]
          · omega
        · obtain ⟨cs, T, fz, g1, g2⟩ := hroom
          refine ⟨cs, T, fz, g1, ?_⟩
          have : (l .u).toNat * sz + (cap - (l .u).toNat) * sz = cap * sz := by rw [← Nat.add_mul]; congr 1; omega
          omega
  · rename_i e fr n sz g hd
    split at hr <;> first | (cases hr; done) | skip
    rename_i i l hb hi' hlo hhi
    split at hr <;> cases hr
    rename_i hsz
    obtain ⟨o1, o2, o3⟩ : 0 ≤ l .u ∧ l .u ≤ hb .u ∧ hb .u ≤ (n .u : Int) := hob
    obtain ⟨_, info, z, hinfo, hins, _⟩ := htt.info hi'
    have ht := htt.desc hd (by simp)
    have bl := abound_sound (w := w) (ρ := ρ) (H := H) (L := L) hlo hln hls
    have bh := abound_sound (w := w) (ρ := ρ) (H := H) (L := L) hhi hhn hhs
    have e1 : (hb .u - l .u).toNat = (hb .u).toNat - (l .u).toNat := by omega
    have run : ∀ (a : Option Addr) (cap : Nat), n .u ≤ cap → (Instr.sliceAt t (.slice a (n .u) cap) vlo vhi none).run P w = .ok (.slice (if cap = (l .u).toNat then a else a.map (·.add ((l .u).toNat * info.size))) (hb .u - l .u).toNat (cap - (l .u).toNat)) w := by
      intro a cap hn
      have hbd := run_bounds (P := P) (w := w) true (n .u) cap bl bh o1 o2 o3 hn
      simp only [Instr.sliceAt, Sem.run_bind, run_underlying ht, Result.andThen_ok, Instr.slice, hbd, run_sizeOf hinfo, Sem.run_pure, e1]
    cases hx with
    | ro0 h0 =>
      rename_i a cap
      have e2 : (hb .u - l .u).toNat = 0 := by omega
      have := run a cap (by omega)
      rw [e2, h0] at this
      exact gives_pure h this (.ro0 e2)
    | ro us hn hq hc hsim =>
      rename_i blk off cap
      have := run (some ⟨blk, off, none⟩) cap hn
      by_cases hz : (hb .u - l .u).toNat = 0
      · rw [hz] at this
        exact gives_pure h this (.ro0 hz)
      · have hcl : cap ≠ (l .u).toNat := by omega
        rw [if_neg hcl, Option.map_some, addr_add, hins, hsz] at this
        refine gives_pure h this (.ro (n := fun _ => (hb .u - l .u).toNat) (fun r c => us ((l .u).toNat + r) c) (by omega) hq (fun r c hr hcc => ?_) (fun r c hr hcc => hsim ((l .u).toNat + r) c (by omega) hcc))
        have := hc ((l .u).toNat + r) c (by omega) hcc
        rw [Nat.add_mul] at this
        rw [Nat.add_assoc, ← Nat.add_assoc ((l .u).toNat * sz)]
        exact this
  · rename_i s hd
    split at hr <;> cases hr
    rename_i l hb hlo hhi
    obtain ⟨o1, o2, o3⟩ : 0 ≤ l .u ∧ l .u ≤ hb .u ∧ hb .u ≤ ((s .u).size : Int) := hob
    cases hx.s_inv
    have ht := htt.desc hd (by simp)
    have hbd := run_bounds (P := P) (w := w) false (s .u).size (s .u).size (abound_sound (w := w) (ρ := ρ) (H := H) (L := L) hlo hln hls) (abound_sound (w := w) (ρ := ρ) (H := H) (L := L) hhi hhn hhs) o1 o2 o3 (Nat.le_refl _)
    exact gives_pure h (v := .string ((s .u).extract (l .u).toNat (hb .u).toNat)) (by simp [Instr.sliceAt, run_underlying ht, Instr.slice, hbd]) .s
  · cases hr

/-! ### append -/
/-- What is appended: so many rows. -/
structure Feeds (P : Program) (w : World) (ρ : Mp) (N L : Nat) (sz : Nat) (x : Value) (m : Nat) (g : Th Nat → Nat → AV) (news : List Value) : Prop where
  len : (Builtin.lenOf x).run P w = .ok m w
  cells : ∀ w' : World, w'.heap = w.heap → (Builtin.firstCells sz m x).run P w' = .ok news.toArray w'
  size : news.length = m * sz
  at_ : ∀ i c, i < m → c < sz → ∃ y, news[i * sz + c]? = some y ∧ y.oneCell' = true ∧ Sim w ρ N L (g (fun _ => i) c) y
theorem feeds_rows (h : Rel w ρ L H) {x : AV} {m : Th Nat} {sz : Nat} {g : Th Nat → Nat → AV} {ob : Th Prop} {u : Value} (hr : arows H x = some (m, sz, g, ob)) (hob : ob .u) (hs : Sim w ρ H.length L x u) (hsz : m .u = 0 ∨ 0 < sz) (sz' : Nat) (he : m .u = 0 ∨ sz' = sz) :
    ∃ news, Feeds P w ρ H.length L sz' u (m .u) g news := by
  obtain ⟨base, cap, rfl, hc⟩ := arows_sound h hr hob hs
  generalize m .u = m at *
  rcases Nat.eq_zero_or_pos m with h0 | h0
  · subst h0
    refine ⟨[], by simp [Builtin.lenOf], fun w' _ => ?_, by simp, fun i c hi => absurd hi (by omega)⟩
    cases base <;> simp [Builtin.firstCells, loadCells, loadCellsFrom]
  · obtain ⟨hn, blk, off, rfl, hcell⟩ := hc.resolve_left (by omega)
    have hsz0 : 0 < sz := hsz.resolve_left (by omega)
    have hes : sz' = sz := he.resolve_left (by omega)
    subst hes
    have hrow : ∀ j, j < m * sz' → w.cell? ⟨blk, off + j, none⟩ = some ((w.cell? ⟨blk, off + j, none⟩).getD undef) := by
      intro j hj
      have hi : j / sz' < m := Nat.div_lt_of_lt_mul (by rwa [Nat.mul_comm] at hj)
      obtain ⟨x, h1, _, _⟩ := hcell (j / sz') (j % sz') hi (Nat.mod_lt _ hsz0)
      rw [Nat.div_add_mod'] at h1
      rw [h1]; rfl
    refine ⟨(List.range (m * sz')).map fun j => (w.cell? ⟨blk, off + j, none⟩).getD undef, by simp [Builtin.lenOf], fun w' hw' => ?_, by simp, fun i c hi hcc => ?_⟩
    · simp only [Builtin.firstCells]
      refine run_loadCells w' ⟨blk, off, none⟩ (m * sz') (fun j => (w.cell? ⟨blk, off + j, none⟩).getD undef) fun j hj => ?_
      rw [addr_add, ← hrow j hj]
      simp [World.cell?, hw']
    · have hlt : i * sz' + c < m * sz' := by
        have h1 : (i + 1) * sz' ≤ m * sz' := Nat.mul_le_mul_right _ hi
        rw [Nat.add_mul] at h1
        omega
      obtain ⟨x, h1, h2, h3⟩ := hcell i c hi hcc
      refine ⟨x, ?_, h2, h3⟩
      rw [List.getElem?_map, List.getElem?_range hlt, Option.map_some, h1]
      rfl
theorem feeds_string (s : ByteArray) (N : Nat) : ∃ news, Feeds P w ρ N L 1 (.string s) s.size (fun i _ => .i .u8 fun _ => ((s.data.toList.getD (i .u) 0).toNat : Int)) news := by
  have e : s.extract 0 s.size = s := by
    apply ByteArray.ext
    simp
  have hmap : s.data.map (fun b => Value.int .u8 (b.toNat : Int)) = (s.data.toList.map fun b => Value.int .u8 (b.toNat : Int)).toArray := by apply Array.ext'; simp
  refine ⟨s.data.toList.map fun b => .int .u8 b.toNat, by simp [Builtin.lenOf], fun w' _ => by simp only [Builtin.firstCells, e, hmap, Sem.run_pure], by rw [List.length_map, Array.length_toList, Nat.mul_one]; rfl, fun i c hi hc => ?_⟩
  have hi' : i < s.data.toList.length := by rw [Array.length_toList]; exact hi
  have hc0 : c = 0 := by omega
  subst hc0
  refine ⟨.int .u8 ((s.data.toList.getD i 0).toNat : Int), by rw [List.getElem?_map, Nat.mul_one, Nat.add_zero, List.getD_eq_getElem?_getD, List.getElem?_eq_getElem hi']; rfl, rfl, .i⟩
theorem run_append_room' {t1 t2 ty e : TypeId} {info : TypeInfo} {d2 : TypeDesc} (ht : P.underlying t1 = some (.slice e)) (ht2 : P.underlying t2 = some d2) (hd2 : d2 = .string ∨ ∃ e', d2 = .slice e') (hi : P.info? e = some info)
    {blk off sLen sCap m : Nat} {x : Value} {news : List Value} {w' : World} (hlen : (Builtin.lenOf x).run P w = .ok m w) (hcells : (Builtin.firstCells info.size m x).run P w = .ok news.toArray w) (hroom : sLen + m ≤ sCap)
    (hst : (storeCells ⟨blk, off + sLen * info.size, none⟩ news).run P w = .ok Unit.unit w') :
    (Builtin.append_ #[t1, t2] ty #[.slice (some ⟨blk, off, none⟩) sLen sCap, x]).run P w = .ok (.slice (some ⟨blk, off, none⟩) (sLen + m) sCap) w' := by
  rcases hd2 with rfl | ⟨e', rfl⟩ <;> simp [Builtin.append_, run_underlying ht, run_underlying ht2, run_sizeOf hi, hlen, hroom, hcells, addr_add, hst]
theorem run_append_grow' {t1 t2 ty e : TypeId} {info : TypeInfo} {z : Value} {d2 : TypeDesc} (ht : P.underlying t1 = some (.slice e)) (ht2 : P.underlying t2 = some d2) (hd2 : d2 = .string ∨ ∃ e', d2 = .slice e') (hi : P.info? e = some info) (hz : info.zero = some z)
    {base : Option Addr} {sLen sCap m : Nat} {x : Value} {olds news : List Value} (hlen : (Builtin.lenOf x).run P w = .ok m w) (hcells : ∀ w' : World, w'.heap = w.heap → (Builtin.firstCells info.size m x).run P w' = .ok news.toArray w')
    (holds : ∀ w' : World, w'.heap = w.heap → (Builtin.firstCells info.size sLen (.slice base sLen sCap)).run P w' = .ok olds.toArray w') (hg : sCap < sLen + m) (h63 : sLen + m ≤ 9223372036854775807) (hfit : (sLen + m) * info.bytes ≤ 140737488355328) :
    (Builtin.append_ #[t1, t2] ty #[.slice base sLen sCap, x]).run P w =
      .ok (.slice (some ⟨w.heap.size, 0, none⟩) (sLen + m) (grownCap w (sLen + m) sCap e)) (w.drew.alloc (.cells (olds.toArray ++ news.toArray ++ Builtin.zeroCells z.cells (grownCap w (sLen + m) sCap e - (sLen + m))) e)) := by
  have hn : ¬ (sLen + m ≤ sCap) := by omega
  have h63' : ¬ (9223372036854775807 < ((sLen : Int) + (m : Int))) := by omega
  have h48' : ¬ (281474976710656 < Builtin.nextslicecap (sLen + m) sCap * info.bytes) := by have := growslice_fits hg hfit; omega
  have hf := hcells w.drew rfl
  have hfo := holds w.drew rfl
  rcases hd2 with rfl | ⟨e', rfl⟩ <;> simp [Builtin.append_, run_underlying ht, run_underlying ht2, run_sizeOf hi, typeInfo, zeroValue, hi, hz, hlen, hn, h63', h48', Question.forced, hf, hfo, newRow, grownCap] <;> (congr 2; apply Array.ext'; simp [List.append_assoc])
/-- append, where the slice's block is let go and goes on under a new name. -/
def aapp (n : Th Nat) (g g2 : Th Nat → Nat → AV) : Th Nat → Nat → AV := fun j c => if j .u < n .u then g j c else g2 (fun _ => j .u - n .u) c
def afeed (tt : TT) (H : Heap) (t2 : TypeId) (sz : Nat) (x : AV) : Option (Th Nat × (Th Nat → Nat → AV) × Th Prop) :=
  match tt.desc t2, x with
  | .string, .s x => if sz = 1 then some (fun _ => (x .u).size, fun i _ => .i .u8 fun _ => (((x .u).data.toList.getD (i .u) 0).toNat : Int), fun _ => True) else none
  | .slice _, x => match arows H x with
    | some (m, sz', g, ob) => some (m, g, fun _ => ob .u ∧ (m .u = 0 ∨ sz' = sz))
    | none => none
  | _, _ => none
def aappend (tt : TT) (H : Heap) (t1 t2 : TypeId) (s x : AV) : Option (AV × Heap × Th Prop) :=
  match tt.desc t1 with
  | .slice e => match tt.info e with
    | some i => if 0 < i.size then match afeed tt H t2 i.size x with
      | some (m, g2, ob) => match s with
        | .own id j n sz => match H[id]? with
          | some (some (fr, .tab k sz' g)) => if sz = sz' ∧ i.size = sz then
              some (.own H.length (fun _ => 0) (fun _ => n .u + m .u) sz, H.set id none ++ [some (fr, .tab (fun _ => n .u + m .u) sz (aapp n g g2))], fun _ => ob .u ∧ j .u = 0 ∧ n .u ≤ k .u ∧ (n .u + m .u) * i.bytes ≤ 140737488355328 ∧ n .u + m .u ≤ 9223372036854775807)
            else none
          | _ => none
        | .v (.slice none 0 0) => some (.own H.length (fun _ => 0) m i.size, H ++ [some (true, .tab m i.size g2)], fun _ => ob .u ∧ 0 < m .u ∧ m .u * i.bytes ≤ 140737488355328 ∧ m .u ≤ 9223372036854775807)
        | _ => none
      | none => none
      else none
    | none => none
  | _ => none
theorem afeed_sound {tt : TT} (htt : TTok P tt) (h : Rel w ρ L H) {t2 : TypeId} {sz : Nat} {m : Th Nat} {x : AV} {g : Th Nat → Nat → AV} {ob : Th Prop} {u : Value} (hr : afeed tt H t2 sz x = some (m, g, ob)) (hob : ob .u) (hs : Sim w ρ H.length L x u) (hsz : 0 < sz) :
    ∃ d2 news, P.underlying t2 = some d2 ∧ (d2 = .string ∨ ∃ e', d2 = .slice e') ∧ Feeds P w ρ H.length L sz u (m .u) g news := by
  unfold afeed at hr
  split at hr
  · rename_i s hd
    split at hr <;> cases hr
    rename_i h1
    subst h1
    cases hs.s_inv
    obtain ⟨news, hn⟩ := feeds_string (P := P) (w := w) (ρ := ρ) (L := L) (s .u) H.length
    exact ⟨_, news, htt.desc hd (by simp), .inl rfl, hn⟩
  · rename_i hd
    split at hr <;> cases hr
    rename_i sz' ob' hrows
    have hob' : ob' .u ∧ (m .u = 0 ∨ sz' = sz) := hob
    obtain ⟨news, hn⟩ := feeds_rows (P := P) h hrows hob'.1 hs (hob'.2.imp id (fun e => by rw [e]; exact hsz)) sz (hob'.2.imp id Eq.symm)
    exact ⟨_, news, htt.desc hd (by simp), .inr ⟨_, rfl⟩, hn⟩
  · cases hr
theorem set_append_last {α : Type} (l : List α) (a b : α) : (l ++ [a]).set l.length b = l ++ [b] := by
  rw [List.set_append_right _ _ (Nat.le_refl _)]; simp
theorem gives_append {tt : TT} (htt : TTok P tt) {t1 t2 ty : TypeId} {s x r : AV} {H' : Heap} {ob : Th Prop} {u v : Value} (h : Rel w ρ L H) (hL : L ≤ w.heap.size) (hr : aappend tt H t1 t2 s x = some (r, H', ob)) (hob : ob .u)
    (hs : Sim w ρ H.length L s u) (hx : Sim w ρ H.length L x v) : Gives P (Builtin.append_ #[t1, t2] ty #[u, v]) w ρ L H r H' := by
  unfold aappend at hr
  split at hr <;> first | (cases hr; done) | skip
  rename_i e hd
  split at hr <;> first | (cases hr; done) | skip
  rename_i i hi
  split at hr <;> first | (cases hr; done) | skip
  rename_i hpos
  split at hr <;> first | (cases hr; done) | skip
  rename_i mT g2 obf hfeed
  have ht := htt.desc hd (by simp)
  obtain ⟨info, z, hinfo, hisz, hib, hiz, hzs, _, _⟩ := zero_sound (htt.info hi)
  split at hr
  · rename_i id jT nT sz
    split at hr <;> first | (cases hr; done) | skip
    rename_i fr kT sz' g hH
    split at hr <;> cases hr
    rename_i hc
    obtain ⟨rfl, hsz⟩ := hc
    obtain ⟨m, rfl⟩ : ∃ m, mT = fun _ => m := ⟨mT .u, rfl⟩
    obtain ⟨n, rfl⟩ : ∃ n, nT = fun _ => n := ⟨nT .u, rfl⟩
    obtain ⟨k, rfl⟩ : ∃ k, kT = fun _ => k := ⟨kT .u, rfl⟩
    obtain ⟨j, rfl⟩ : ∃ j, jT = fun _ => j := ⟨jT .u, rfl⟩
    obtain ⟨hobf, hj0, hnk, hbytes, h63⟩ : obf .u ∧ j = 0 ∧ n ≤ k ∧ (n + m) * i.bytes ≤ 140737488355328 ∧ n + m ≤ 9223372036854775807 := hob
    subst hj0
    obtain ⟨d2, news, ht2, hd2, hF⟩ := afeed_sound (P := P) htt h hfeed hobf hx hpos
    rw [hsz] at hF hpos
    have hrows : arows H (.own id (fun _ => 0) (fun _ => n) sz) = some (fun _ => n, sz, fun j c => g (fun _ => 0 + j .u) c, fun _ => 0 + n ≤ k) := by simp [arows, hH]
    obtain ⟨olds, hO⟩ := feeds_rows (P := P) h hrows (show 0 + n ≤ k by omega) hs (.inr hpos) sz (.inr rfl)
    obtain ⟨blk, cs, T, hb, hB⟩ := h.at_ hH
    cases hs with
    | own hid hv =>
    obtain ⟨off, cap, rfl, hn, hcm, hoff, hroom⟩ := hv blk hb
    replace hn : n ≤ cap := hn
    replace hoff : off = 0 * sz ∨ cap = 0 := hoff
    by_cases hfit : n + m ≤ cap
    · obtain ⟨hR1, hP1⟩ := h.rename hb hH
      have hoff0 : off = 0 ∨ cap = 0 := hoff.imp (fun e => by omega) (fun e => e)
      by_cases hcap : cap = 0
      · have hm0 : m = 0 := by omega
        have hn0 : n = 0 := by omega
        subst hm0; subst hn0; subst hcap
        have hnews : news = [] := List.eq_nil_of_length_eq_zero (by rw [hF.size]; omega)
        subst hnews
        have hrun := run_append_room' (P := P) (w := w) (t1 := t1) (t2 := t2) (ty := ty) (blk := blk) (off := off) (sLen := 0) (sCap := 0) (w' := w) ht ht2 hd2 hinfo hF.len (by rw [hisz, hsz]; exact hF.cells w rfl) (by omega) (by simp [storeCells])
        refine ⟨_, w, (ρ.set id none).set H.length (some blk), hrun, ?_, ?_, ?_⟩
        · have := hR1.write (id := H.length) (blk := blk) (Mp.set_same _ _ _) hB.here hB.here rfl rfl (fun _ _ => rfl) rfl rfl rfl (fr := fr) (B := .tab (fun _ => k) sz g) (B' := .tab (fun _ => 0 + 0) sz (aapp (fun _ => 0) g g2)) (by simp)
            (fun off a hat => by cases hat with | tab i c hi hcc => exact absurd (show i < 0 + 0 from hi) (by omega))
          rw [show H.length = (H.set id none).length by simp, set_append_last] at this
          simpa using this
        · simpa using hP1
        · refine .own (by simp) fun b hbb => ?_
          rw [Mp.set_same] at hbb; cases hbb
          exact ⟨off, 0, rfl, Nat.le_refl _, hcm, .inr rfl, hroom⟩
      · have hoff' : off = 0 := hoff0.resolve_right hcap
        subst hoff'
        have hsize : cap * sz ≤ cs.size := by
          obtain ⟨cs2, T2, fz2, q1, q2⟩ := hroom
          rw [hB.here] at q1; cases q1; omega
        have hle : n * sz + news.length ≤ cs.size := by
          rw [hF.size, ← Nat.add_mul]
          exact Nat.le_trans (Nat.mul_le_mul_right _ hfit) hsize
        have hone : ∀ v ∈ news, v.oneCell' = true := by
          intro v hv
          obtain ⟨j, hj, rfl⟩ := List.mem_iff_getElem.1 hv
          have hj' : j < m * sz := by rw [← hF.size]; exact hj
          obtain ⟨y, y1, y2, _⟩ := hF.at_ (j / sz) (j % sz) (Nat.div_lt_of_lt_mul (by rwa [Nat.mul_comm] at hj')) (Nat.mod_lt _ hpos)
          rw [Nat.div_add_mod', List.getElem?_eq_getElem hj] at y1
          cases y1
          exact y2
        obtain ⟨w', cs', hst, hw', hss, hhs, hoth, o1, o2, o3, hcell⟩ := store_cells (P := P) hB.here news hle hone
        have hrun := run_append_room' (P := P) (w := w) (t1 := t1) (t2 := t2) (ty := ty) (blk := blk) (off := 0) (sLen := n) (sCap := cap) (w' := w') ht ht2 hd2 hinfo hF.len (by rw [hisz, hsz]; exact hF.cells w rfl) hfit (by rw [hisz, hsz, Nat.zero_add]; exact hst)
        refine ⟨_, w', (ρ.set id none).set H.length (some blk), hrun, ?_, ?_, ?_⟩
        · have := hR1.write (id := H.length) (blk := blk) (Mp.set_same _ _ _) hB.here hw' hss hhs hoth o1 o2 o3 (fr := fr) (B := .tab (fun _ => k) sz g) (B' := .tab (fun _ => n + m) sz (aapp (fun _ => n) g g2)) (by simp) (fun off a hat => by
            cases hat with
            | tab i c hi hcc =>
              replace hi : i < n + m := hi
              rw [hcell]
              simp only [aapp]
              by_cases hin : i < n
              · have hlt : i * sz + c < n * sz := by
                  have h1 : (i + 1) * sz ≤ n * sz := Nat.mul_le_mul_right _ hin
                  rw [Nat.add_mul] at h1
                  omega
                rw [if_neg (by omega), if_pos hin]
                obtain ⟨y, y1, y2, y3⟩ := hB.cell _ _ (.tab i c (by omega) hcc)
                exact ⟨y, y1, y2, by simpa using y3.mono hP1 (Nat.le_refl _)⟩
              · have hge : n * sz ≤ i * sz := Nat.mul_le_mul_right _ (by omega)
                have hsub : (i - n) * sz = i * sz - n * sz := Nat.sub_mul ..
                have hlt : (i - n) * sz + c < m * sz := by
                  have h1 : (i - n + 1) * sz ≤ m * sz := Nat.mul_le_mul_right _ (by omega)
                  rw [Nat.add_mul] at h1
                  omega
                rw [if_pos (by rw [hF.size]; omega), if_neg hin]
                obtain ⟨y, y1, y2, y3⟩ := hF.at_ (i - n) c (by omega) hcc
                refine ⟨y, ?_, y2, by simpa using y3.mono hP1 (Nat.le_refl _)⟩
                rw [← y1]; congr 1; omega)
          rw [show H.length = (H.set id none).length by simp, set_append_last] at this
          simpa using this
        · have hp2 := Pass.write (w := w) (w' := w') (ρ := (ρ.set id none).set H.length (some blk)) (H.length + 1) (id := H.length) (Mp.set_same _ _ _) hB.here hw' hss hhs hoth o1 o2 o3
          simpa using hP1.trans hp2
        · refine .own (by simp) fun b hbb => ?_
          rw [Mp.set_same] at hbb; cases hbb
          exact ⟨0, cap, rfl, hfit, hcm, .inl (by omega), cs', T, (0, 0), hw', by omega⟩
    · have hrun := run_append_grow' (P := P) (w := w) (t1 := t1) (t2 := t2) (ty := ty) (base := some ⟨blk, off, none⟩) (sLen := n) (sCap := cap) (olds := olds) ht ht2 hd2 hinfo hiz hF.len (fun w' hw' => by rw [hisz, hsz]; exact hF.cells w' hw')
        (fun w' hw' => by rw [hisz, hsz]; exact hO.cells w' hw') (by omega) h63 (by rw [hib]; exact hbytes)
      have hge := grownCap_ge w (n + m) cap e
      have hgm := grownCap_le_maxLen w (n + m) cap e (by unfold maxLen; omega)
      have hk := (h.kill id).same (w' := w.drew) rfl rfl rfl rfl
      have hpk : Pass w ρ H.length w.drew (ρ.set id none) H.length := (Pass.kill w ρ H.length id).trans (Pass.same _ _ rfl rfl rfl rfl)
      have hcsz : (olds.toArray ++ news.toArray ++ Builtin.zeroCells z.cells (grownCap w (n + m) cap e - (n + m))).size = grownCap w (n + m) cap e * sz := by
        simp only [Array.size_append, List.size_toArray, size_zeroCells, hzs, hO.size, hF.size, hsz, ← Nat.add_mul]
        congr 1; omega
      have hat : ∀ off a, (Blk.tab (fun _ => n + m) sz (aapp (fun _ => n) g g2)).At off a → ∃ y, (olds.toArray ++ news.toArray ++ Builtin.zeroCells z.cells (grownCap w (n + m) cap e - (n + m)))[off]? = some y ∧ y.oneCell' = true ∧ Sim w.drew (ρ.set id none) (H.set id none).length L a y := by
        intro off a hat
        cases hat with
        | tab i c hi hcc =>
          replace hi : i < n + m := hi
          simp only [aapp]
          have hget : ∀ j, j < (n + m) * sz → (olds.toArray ++ news.toArray ++ Builtin.zeroCells z.cells (grownCap w (n + m) cap e - (n + m)))[j]? = (olds ++ news)[j]? := by
            intro j hj
            rw [Array.getElem?_append_left (by simp only [Array.size_append, List.size_toArray, hO.size, hF.size, ← Nat.add_mul]; exact hj)]
            simp
          have hlt : i * sz + c < (n + m) * sz := by
            have h1 : (i + 1) * sz ≤ (n + m) * sz := Nat.mul_le_mul_right _ hi
            rw [Nat.add_mul] at h1
            omega
          rw [hget _ hlt]
          by_cases hin : i < n
          · have hlt2 : i * sz + c < n * sz := by
              have h1 : (i + 1) * sz ≤ n * sz := Nat.mul_le_mul_right _ hin
              rw [Nat.add_mul] at h1
              omega
            rw [if_pos hin, List.getElem?_append_left (by rw [hO.size]; exact hlt2)]
            obtain ⟨y, y1, y2, y3⟩ := hO.at_ i c hin hcc
            rw [Nat.zero_add] at y3
            exact ⟨y, y1, y2, by simpa using y3.mono hpk (Nat.le_refl _)⟩
          · have hge2 : n * sz ≤ i * sz := Nat.mul_le_mul_right _ (by omega)
            have hsub : (i - n) * sz = i * sz - n * sz := Nat.sub_mul ..
            rw [if_neg hin, List.getElem?_append_right (by rw [hO.size]; omega), hO.size]
            obtain ⟨y, y1, y2, y3⟩ := hF.at_ (i - n) c (by omega) hcc
            refine ⟨y, ?_, y2, by simpa using y3.mono hpk (Nat.le_refl _)⟩
            rw [← y1]; congr 1; omega
      have hR := hk.alloc hL fr (olds.toArray ++ news.toArray ++ Builtin.zeroCells z.cells (grownCap w (n + m) cap e - (n + m))) e (.tab (fun _ => n + m) sz (aapp (fun _ => n) g g2)) hat
      have hPa := Pass.alloc hk (.cells (olds.toArray ++ news.toArray ++ Builtin.zeroCells z.cells (grownCap w (n + m) cap e - (n + m))) e)
      simp only [List.length_set] at hR hPa
      refine ⟨_, _, (ρ.set id none).set H.length (some w.drew.heap.size), hrun, hR, ?_, ?_⟩
      · simpa using hpk.trans hPa
      · refine .own (by simp) fun b hbb => ?_
        rw [Mp.set_same] at hbb; cases hbb
        exact ⟨0, _, rfl, hge, hgm, .inl (by omega), _, e, (0, 0), heap_alloc_new w.drew _, by rw [hcsz]; omega⟩
  · cases hr
    obtain ⟨m, rfl⟩ : ∃ m, mT = fun _ => m := ⟨mT .u, rfl⟩
    obtain ⟨hobf, hm, hbytes, h63⟩ : obf .u ∧ 0 < m ∧ m * i.bytes ≤ 140737488355328 ∧ m ≤ 9223372036854775807 := hob
    obtain ⟨d2, news, ht2, hd2, hF⟩ := afeed_sound (P := P) htt h hfeed hobf hx hpos
    cases hs.v_inv
    have hrun := run_append_grow' (P := P) (w := w) (t1 := t1) (t2 := t2) (ty := ty) (base := none) (sLen := 0) (sCap := 0) (olds := []) ht ht2 hd2 hinfo hiz hF.len (fun w' hw' => by rw [hisz]; exact hF.cells w' hw')
      (fun w' _ => by simp [Builtin.firstCells]) (by omega) (by omega) (by rw [hib, Nat.zero_add]; exact hbytes)
    have hge := grownCap_ge w (0 + m) 0 e
    have hgm := grownCap_le_maxLen w (0 + m) 0 e (by unfold maxLen; omega)
    have hk := h.same (w' := w.drew) rfl rfl rfl rfl
    have hpk : Pass w ρ H.length w.drew ρ H.length := Pass.same _ _ rfl rfl rfl rfl
    have hcsz : ((#[] : Array Value) ++ news.toArray ++ Builtin.zeroCells z.cells (grownCap w (0 + m) 0 e - (0 + m))).size = grownCap w (0 + m) 0 e * i.size := by
      simp only [Array.size_append, List.size_toArray, size_zeroCells, hzs, hF.size, List.length_nil, Nat.zero_add, ← Nat.add_mul]
      congr 1; rw [Nat.zero_add] at hge; omega
    have hat : ∀ off a, (Blk.tab (fun _ => m) i.size g2).At off a → ∃ y, ((#[] : Array Value) ++ news.toArray ++ Builtin.zeroCells z.cells (grownCap w (0 + m) 0 e - (0 + m)))[off]? = some y ∧ y.oneCell' = true ∧ Sim w.drew ρ H.length L a y := by
      intro off a hat
      cases hat with
      | tab i' c hi' hcc =>
        replace hi' : i' < m := hi'
        have hlt : i' * i.size + c < m * i.size := by
          have h1 : (i' + 1) * i.size ≤ m * i.size := Nat.mul_le_mul_right _ hi'
          rw [Nat.add_mul] at h1
          omega
        rw [Array.getElem?_append_left (by simp only [Array.size_append, List.size_toArray, hF.size]; omega)]
        obtain ⟨y, y1, y2, y3⟩ := hF.at_ i' c hi' hcc
        exact ⟨y, by simpa using y1, y2, y3.mono hpk (Nat.le_refl _)⟩
    have hR := hk.alloc hL true ((#[] : Array Value) ++ news.toArray ++ Builtin.zeroCells z.cells (grownCap w (0 + m) 0 e - (0 + m))) e (.tab (fun _ => m) i.size g2) hat
    have hPa := Pass.alloc hk (.cells ((#[] : Array Value) ++ news.toArray ++ Builtin.zeroCells z.cells (grownCap w (0 + m) 0 e - (0 + m))) e)
    refine ⟨_, _, ρ.set H.length (some w.drew.heap.size), hrun, hR, ?_, ?_⟩
    · simpa using hpk.trans hPa
    · refine .own (by simp) fun b hbb => ?_
      rw [Mp.set_same] at hbb; cases hbb
      refine ⟨0, grownCap w (0 + m) 0 e, by rw [Nat.zero_add]; rfl, by omega, hgm, .inl (by omega), _, e, (0, 0), heap_alloc_new w.drew _, by rw [hcsz]; omega⟩
  · cases hr
end
end Go.Aw
