/- Operations on memory: reading, writing, new blocks, slices. -/
import Derived.Test.YtfdmmbcjidkmoaaAwd
namespace Go.Aw

def TT.info (tt : TT) (t : TypeId) : Option TI := match tt[t]? with | some (some i) => some i | _ => none
theorem TTok.info {P : Program} {tt : TT} (h : TTok P tt) {t : TypeId} {i : TI} (hi : tt.info t = some i) : TIok P t i := by
  unfold TT.info at hi
  split at hi
  · rename_i j hj; cases hi; exact h t _ hj
  · cases hi
theorem TT.desc_of_info {tt : TT} {t : TypeId} {i : TI} (hi : tt.info t = some i) : tt.desc t = i.desc := by
  unfold TT.info at hi
  unfold TT.desc
  split at hi
  · rename_i j hj; cases hi; rw [hj]
  · cases hi
theorem range_map_at {α : Type} {f : Nat → α} {n j : Nat} {a : α} (h : ((List.range n).map f)[j]? = some a) : j < n ∧ a = f j := by
  rw [List.getElem?_map] at h
  by_cases hj : j < n
  · rw [List.getElem?_range hj] at h
    cases h
    exact ⟨hj, rfl⟩
  · rw [List.getElem?_eq_none (by simpa using hj)] at h
    cases h
def isAggD : TypeDesc → Bool
  | .struct _ | .array _ _ => true
  | _ => false
def live (H : Heap) (id : Nat) : Bool := match H[id]? with | some (some _) => true | _ => false
def one (H : Heap) : AV → Bool
  | .v _ | .i .. | .b _ | .s _ | .f .. | .c .. | .ro .. | .rptr .. | .fn .. | .ifc => true
  | .own id .. => live H id
  | .ptr id .. => live H id
  | _ => false
def aflat (H : Heap) : AV → Option (List AV)
  | .agg l => if l.all (one H) then some l else none
  | a => if one H a then some [a] else none

section
variable {P : Program} {w : World} {ρ : Mp} {L : Nat} {H : Heap}
theorem live_at (h : Rel w ρ L H) {id : Nat} (hl : live H id = true) : ∃ blk, ρ id = some blk := by
  unfold live at hl
  split at hl
  · rename_i B hB
    exact h.dom id B.1 B.2 hB
  · cases hl
theorem plain_one {x : Value} (h : plain x = true) : x.oneCell' = true := by unfold plain at h; cases x <;> first | rfl | cases h
theorem one_sound (h : Rel w ρ L H) {a : AV} {u : Value} (ho : one H a = true) (hs : Sim w ρ H.length L a u) : u.oneCell' = true := by
  cases hs with
  | v hp => exact plain_one hp
  | i => rfl
  | b => rfl
  | s => rfl
  | f => rfl
  | c => rfl
  | ro0 => rfl
  | ro => rfl
  | rptr => rfl
  | fn => rfl
  | ifc => rfl
  | own _ hv =>
    obtain ⟨blk, hb⟩ := live_at h ho
    obtain ⟨off, cap, rfl, _⟩ := hv blk hb
    rfl
  | ptr _ hv =>
    obtain ⟨blk, hb⟩ := live_at h ho
    rw [hv blk hb]
    rfl
  | agg => cases ho
  | tup => cases ho
  | on => cases ho
  | dead => cases ho
theorem cells_one {u : Value} (h : u.oneCell' = true) : u.cells = #[u] := by cases u <;> first | rfl | cases h
theorem aflat_sound (h : Rel w ρ L H) {a : AV} {as : List AV} {u : Value} (hf : aflat H a = some as) (hs : Sim w ρ H.length L a u) :
    u.cells.size = as.length ∧ ∀ (j : Nat) (x : AV), as[j]? = some x → ∃ y, u.cells[j]? = some y ∧ y.oneCell' = true ∧ Sim w ρ H.length L x y := by
  unfold aflat at hf
  split at hf
  · rename_i l
    split at hf <;> cases hf
    rename_i hall
    obtain ⟨us, rfl, hl, hj⟩ := hs.agg_inv
    refine ⟨hl.symm, fun j x hx => ?_⟩
    have hlt := (List.getElem?_eq_some_iff.1 hx).1
    have hu : us[j]? = some (us[j]'(by omega)) := Array.getElem?_eq_getElem (by omega)
    refine ⟨_, hu, ?_, hj j x _ hx hu⟩
    exact one_sound h (List.all_eq_true.1 hall x (List.mem_of_getElem? hx)) (hj j x _ hx hu)
  · split at hf <;> cases hf
    rename_i ho
    have h1 := one_sound h ho hs
    rw [cells_one h1]
    refine ⟨rfl, fun j x hx => ?_⟩
    cases j with
    | zero => simp at hx; subst hx; exact ⟨u, rfl, h1, hs⟩
    | succ j => simp at hx

/-! ### Reading at an address -/
def aread (H : Heap) (p : AV) (n : Nat) : Option (List AV × Th Prop) :=
  match p with
  | .ptr id i sz c => match H[id]? with
    | some (some (_, .box l)) => if c + n ≤ l.length then some ((l.drop c).take n, fun _ => i .u = 0) else none
    | some (some (_, .tab m sz' g)) => if sz = sz' ∧ c + n ≤ sz then some ((List.range n).map fun j => g i (c + j), fun _ => i .u < m .u) else none
    | _ => none
  | .rptr _ m g => if n ≤ m then some ((List.range n).map g, fun _ => True) else none
  | _ => none
theorem aread_sound (h : Rel w ρ L H) {p : AV} {n : Nat} {as : List AV} {ob : Th Prop} {u : Value} (hr : aread H p n = some (as, ob)) (hob : ob .u) (hs : Sim w ρ H.length L p u) :
    as.length = n ∧ ∃ blk off, u = .pointer (some ⟨blk, off, none⟩) ∧ ∀ (j : Nat) (a : AV), as[j]? = some a → ∃ x, w.cell? ⟨blk, off + j, none⟩ = some x ∧ x.oneCell' = true ∧ Sim w ρ H.length L a x := by
  unfold aread at hr
  split at hr
  · rename_i id i sz c
    cases hs with
    | ptr hid hv =>
    split at hr
    · rename_i fr l hH
      split at hr <;> cases hr
      rename_i hc
      have hi0 : i .u = 0 := hob
      obtain ⟨blk, cs, T, hb, hB⟩ := h.at_ hH
      refine ⟨by simp; omega, blk, i .u * sz + c, hv blk hb, fun j a ha => ?_⟩
      have hj : j < n := by
        rcases Nat.lt_or_ge j n with h' | h'
        · exact h'
        · rw [List.getElem?_take, if_neg (by omega)] at ha; cases ha
      rw [List.getElem?_take, if_pos hj, List.getElem?_drop] at ha
      obtain ⟨x, h1, h2, h3⟩ := hB.cell (c + j) a (.box ha)
      exact ⟨x, by rw [hi0, Nat.zero_mul, Nat.zero_add, cell_of_row w blk _ cs T (0, 0) hB.here]; exact h1, h2, h3⟩
    · rename_i fr m sz' g hH
      split at hr <;> cases hr
      rename_i hc
      obtain ⟨rfl, hc⟩ := hc
      obtain ⟨blk, cs, T, hb, hB⟩ := h.at_ hH
      refine ⟨by simp, blk, i .u * sz + c, hv blk hb, fun j a ha => ?_⟩
      obtain ⟨hj, rfl⟩ := range_map_at ha
      obtain ⟨x, h1, h2, h3⟩ := hB.cell (i .u * sz + (c + j)) _ (.tab (i .u) (c + j) hob (by omega))
      exact ⟨x, by rw [Nat.add_assoc, cell_of_row w blk _ cs T (0, 0) hB.here]; exact h1, h2, h3⟩
    · cases hr
  · rename_i fr m g
    split at hr <;> cases hr
    rename_i hn
    cases hs with
    | rptr us hq hc hsim =>
    rename_i blk off
    refine ⟨by simp, blk, off, rfl, fun j a ha => ?_⟩
    obtain ⟨hj, rfl⟩ := range_map_at ha
    obtain ⟨h1, h2⟩ := hc j (by omega)
    exact ⟨us j, h1, h2, hsim j (by omega)⟩
  · cases hr

def asOne (d : TypeDesc) (as : List AV) : Option AV :=
  if isAggD d then some (.agg as) else match as with | [a] => some a | _ => none
def aload (tt : TT) (H : Heap) (t : TypeId) (p : AV) : Option (AV × Th Prop) :=
  match tt.info t with
  | some i => match aread H p i.size with
    | some (as, ob) => (asOne i.desc as).map fun a => (a, ob)
    | none => none
  | none => none
theorem run_isAgg {t : TypeId} {d : TypeDesc} (hd : P.underlying t = some d) (w : World) : (isAgg t).run P w = .ok (isAggD d) w := by
  cases d <;> simp [isAgg, run_underlying hd, isAggD]
theorem run_sizeOf {t : TypeId} {info : TypeInfo} (hi : P.info? t = some info) (w : World) : (sizeOf t).run P w = .ok info.size w := by
  simp [sizeOf, typeInfo, hi]
theorem addr_add (blk off j : Nat) : (⟨blk, off, none⟩ : Addr).add j = ⟨blk, off + j, none⟩ := Addr.add_lit blk off j
theorem sim_agg_range {as : List AV} {n : Nat} {f : Nat → Value} (hl : as.length = n) (h : ∀ (j : Nat) (a : AV), as[j]? = some a → Sim w ρ H.length L a (f j)) :
    Sim w ρ H.length L (.agg as) (.agg ((List.range n).map f).toArray) := by
  refine .agg (by simp [hl]) fun j a u ha hu => ?_
  rw [List.getElem?_toArray] at hu
  obtain ⟨_, rfl⟩ := range_map_at hu
  exact h j a ha
theorem run_loadVar_at {t : TypeId} {i : TI} (hi : TIok P t i) {as : List AV} {a : AV} (hl : as.length = i.size) {blk off : Nat}
    (hc : ∀ (j : Nat) (a : AV), as[j]? = some a → ∃ x, w.cell? ⟨blk, off + j, none⟩ = some x ∧ x.oneCell' = true ∧ Sim w ρ H.length L a x) (ha : asOne i.desc as = some a) :
    ∃ v, (loadVar t ⟨blk, off, none⟩).run P w = .ok v w ∧ Sim w ρ H.length L a v := by
  obtain ⟨hd, info, z, hinfo, hsz, _⟩ := hi
  have hf : ∀ (j : Nat) (a : AV), as[j]? = some a → w.cell? ⟨blk, off + j, none⟩ = some ((w.cell? ⟨blk, off + j, none⟩).getD undef) ∧ Sim w ρ H.length L a ((w.cell? ⟨blk, off + j, none⟩).getD undef) := by
    intro j a ha
    obtain ⟨x, h1, _, h3⟩ := hc j a ha
    rw [h1]
    exact ⟨rfl, h3⟩
  unfold asOne at ha
  split at ha
  · rename_i hagg
    cases ha
    have hrun := run_loadCells (P := P) w ⟨blk, off, none⟩ i.size (fun j => (w.cell? ⟨blk, off + j, none⟩).getD undef) (fun j hj => by
      rw [addr_add]
      exact (hf j _ (List.getElem?_eq_getElem (by omega))).1)
    refine ⟨_, ?_, sim_agg_range hl fun j a ha => (hf j a ha).2⟩
    simp only [loadVar, Sem.run_bind, run_isAgg hd, Result.andThen_ok, hagg, if_true, run_sizeOf hinfo, hsz, hrun, Sem.run_pure]
  · rename_i hagg
    split at ha <;> cases ha
    obtain ⟨h1, h2⟩ := hf 0 a rfl
    rw [Nat.add_zero] at h1 h2
    have hag : isAggD i.desc = false := by simpa using hagg
    generalize (w.cell? ⟨blk, off, none⟩).getD undef = x at h1 h2
    refine ⟨x, ?_, h2⟩
    simp [loadVar, run_isAgg hd, hag, h1]
theorem gives_load {tt : TT} (htt : TTok P tt) {t : TypeId} {p a : AV} {ob : Th Prop} {u : Value} (h : Rel w ρ L H) (hr : aload tt H t p = some (a, ob)) (hob : ob .u) (hs : Sim w ρ H.length L p u) :
    Gives P (Instr.loadAt t u) w ρ L H a H := by
  unfold aload at hr
  split at hr <;> first | (cases hr; done) | skip
  rename_i i hi
  split at hr <;> first | (cases hr; done) | skip
  rename_i as ob' hread
  rw [Option.map_eq_some_iff] at hr
  obtain ⟨a', ha, he⟩ := hr
  cases he
  obtain ⟨hl, blk, off, rfl, hc⟩ := aread_sound h hread hob hs
  obtain ⟨v, hv, hsim⟩ := run_loadVar_at (htt.info hi) hl hc ha
  exact gives_pure h (by simpa [Instr.loadAt, Instr.sureAddr] using hv) hsim

/-! ### Writing at an address -/
def awrite (H : Heap) (p : AV) (as : List AV) : Option (Heap × Th Prop) :=
  match p with
  | .ptr id i sz c => match H[id]? with
    | some (some (fr, .box l)) => if c + as.length ≤ l.length then some (H.set id (some (fr, .box (l.take c ++ as ++ l.drop (c + as.length)))), fun _ => i .u = 0) else none
    | some (some (fr, .tab m sz' g)) => if sz = sz' ∧ c + as.length ≤ sz then
        some (H.set id (some (fr, .tab m sz fun i' c' => if i' .u = i .u then (if c ≤ c' ∧ c' < c + as.length then as.getD (c' - c) .dead else g i' c') else g i' c')), fun _ => i .u < m .u) else none
    | _ => none
  | _ => none
theorem mul_add_inj {sz i i' c c' : Nat} (hc : c < sz) (hc' : c' < sz) (h : i * sz + c = i' * sz + c') : i = i' ∧ c = c' := by
  have h1 : (i * sz + c) / sz = i := by rw [Nat.mul_comm, Nat.mul_add_div (by omega), Nat.div_eq_of_lt hc]; rfl
  have h2 : (i' * sz + c') / sz = i' := by rw [Nat.mul_comm, Nat.mul_add_div (by omega), Nat.div_eq_of_lt hc']; rfl
  have h3 : i = i' := by rw [← h1, h, h2]
  subst h3
  exact ⟨rfl, by omega⟩
theorem store_cells {blk o : Nat} {cs : Array Value} {T : TypeId} (hw : w.heap[blk]? = some (.cells cs T (0, 0))) (us : List Value) (hfit : o + us.length ≤ cs.size) (h1 : ∀ v ∈ us, v.oneCell' = true) :
    ∃ w' cs', (storeCells ⟨blk, o, none⟩ us).run P w = .ok Unit.unit w' ∧ w'.heap[blk]? = some (.cells cs' T (0, 0)) ∧ cs'.size = cs.size ∧ w'.heap.size = w.heap.size ∧
      (∀ b, b ≠ blk → w'.heap[b]? = w.heap[b]?) ∧ w'.os = w.os ∧ w'.tape = w.tape ∧ w'.output = w.output ∧
      (∀ off, cs'[off]? = if o ≤ off ∧ off < o + us.length then us[off - o]? else cs[off]?) := by
  have hr := run_storeCells_at P blk o T us 0 cs w hw (by omega) h1
  simp only [Nat.add_zero] at hr
  refine ⟨_, _, hr, setRow_heap w blk cs _ T (0, 0) hw, ?_, size_setRow w blk _, fun b hb => setRow_other w blk b _ hb, rfl, rfl, rfl, fun off => ?_⟩
  · simp; omega
  · rw [List.getElem?_toArray, List.append_assoc]
    by_cases h1 : off < o
    · rw [List.getElem?_append_left (by simp; omega), List.getElem?_take, if_pos h1, if_neg (by omega)]
      simp
    · rw [List.getElem?_append_right (by simp; omega)]
      have hlen : (cs.toList.take o).length = o := by simp; omega
      rw [hlen]
      by_cases h2 : off < o + us.length
      · rw [List.getElem?_append_left (by omega), if_pos ⟨by omega, h2⟩]
      · rw [List.getElem?_append_right (by omega), List.getElem?_drop, if_neg (by omega), show o + us.length + (off - o - us.length) = off by omega]
        simp
theorem gives_write {p : AV} {as : List AV} {H' : Heap} {ob : Th Prop} {u : Value} (h : Rel w ρ L H) (hr : awrite H p as = some (H', ob)) (hob : ob .u) (hs : Sim w ρ H.length L p u)
    (us : List Value) (hl : us.length = as.length) (hus : ∀ (j : Nat) (x : AV), as[j]? = some x → ∃ y, us[j]? = some y ∧ y.oneCell' = true ∧ Sim w ρ H.length L x y) :
    ∃ a w', u = .pointer (some a) ∧ (storeCells a us).run P w = .ok Unit.unit w' ∧ Rel w' ρ L H' ∧ Pass w ρ H.length w' ρ H'.length := by
  have hone : ∀ v ∈ us, v.oneCell' = true := by
    intro v hv
    obtain ⟨j, hj, rfl⟩ := List.mem_iff_getElem.1 hv
    obtain ⟨y, h1, h2, _⟩ := hus j _ (List.getElem?_eq_getElem (by omega))
    rw [List.getElem?_eq_getElem hj] at h1
    cases h1
    exact h2
  unfold awrite at hr
  split at hr <;> first | (cases hr; done) | skip
  rename_i id i sz c
  cases hs with
  | ptr hid hv =>
  split at hr
  · rename_i fr l hH
    split at hr <;> cases hr
    rename_i hc
    have hi0 : i .u = 0 := hob
    obtain ⟨blk, cs, T, hb, hB⟩ := h.at_ hH
    have hsz : c + us.length ≤ cs.size := by
      rcases Nat.eq_zero_or_pos us.length with h0 | h0
      · rcases Nat.eq_zero_or_pos c with h1 | h1
        · omega
        · obtain ⟨x, hx, _⟩ := hB.cell (c - 1) _ (.box (List.getElem?_eq_getElem (by omega)))
          have := (Array.getElem?_eq_some_iff.1 hx).1
          omega
      · obtain ⟨x, hx, _⟩ := hB.cell (c + us.length - 1) _ (.box (List.getElem?_eq_getElem (by omega)))
        have := (Array.getElem?_eq_some_iff.1 hx).1
        omega
    obtain ⟨w', cs', hrun, hw', hss, hhs, hoth, o1, o2, o3, hcell⟩ := store_cells (P := P) hB.here us hsz hone
    refine ⟨⟨blk, c, none⟩, w', by rw [hv blk hb, hi0]; simp, hrun, ?_, ?_⟩
    · refine h.write hb hB.here hw' hss hhs hoth o1 o2 o3 hH fun off a hat => ?_
      cases hat with
      | box ha =>
        rw [hcell]
        by_cases hin : c ≤ off ∧ off < c + us.length
        · rw [if_pos hin]
          refine hus (off - c) a ?_
          rw [List.append_assoc, List.getElem?_append_right (by simp; omega)] at ha
          have hlen : (l.take c).length = c := by simp; omega
          rw [hlen, List.getElem?_append_left (by omega)] at ha
          exact ha
        · rw [if_neg hin]
          refine hB.cell off a (.box ?_)
          rw [List.append_assoc] at ha
          have hlen : (l.take c).length = c := by simp; omega
          by_cases h1 : off < c
          · rw [List.getElem?_append_left (by omega), List.getElem?_take, if_pos h1] at ha
            exact ha
          · rw [List.getElem?_append_right (by omega), hlen, List.getElem?_append_right (by omega), List.getElem?_drop, show c + as.length + (off - c - as.length) = off by omega] at ha
            exact ha
    · have := Pass.write (w := w) (w' := w') H.length hb hB.here hw' hss hhs hoth o1 o2 o3
      simpa using this
  · rename_i fr m sz' g hH
    split at hr <;> cases hr
    rename_i hc
    obtain ⟨rfl, hc⟩ := hc
    obtain ⟨blk, cs, T, hb, hB⟩ := h.at_ hH
    by_cases hpos : us.length = 0
    · have hus0 : us = [] := List.eq_nil_of_length_eq_zero hpos
      subst hus0
      refine ⟨⟨blk, i .u * sz + c, none⟩, w, hv blk hb, by simp [storeCells], ?_, by simpa using Pass.refl w ρ H.length⟩
      refine h.write hb hB.here hB.here rfl rfl (fun _ _ => rfl) rfl rfl rfl hH fun off a hat => ?_
      cases hat with
      | tab i' c' hi' hc' =>
        have e : (if i' = i .u then (if c ≤ c' ∧ c' < c + as.length then as.getD (c' - c) .dead else g (fun _ => i') c') else g (fun _ => i') c') = g (fun _ => i') c' := by
          split
          · rw [if_neg (by simp at hl; omega)]
          · rfl
        dsimp only
        rw [e]
        exact hB.cell _ _ (.tab i' c' hi' hc')
    · have hsz : i .u * sz + c + us.length ≤ cs.size := by
        obtain ⟨x, hx, _⟩ := hB.cell (i .u * sz + (c + us.length - 1)) _ (.tab (i .u) (c + us.length - 1) hob (by omega))
        have := (Array.getElem?_eq_some_iff.1 hx).1
        omega
      obtain ⟨w', cs', hrun, hw', hss, hhs, hoth, o1, o2, o3, hcell⟩ := store_cells (P := P) hB.here us hsz hone
      refine ⟨⟨blk, i .u * sz + c, none⟩, w', hv blk hb, hrun, ?_, ?_⟩
      · refine h.write hb hB.here hw' hss hhs hoth o1 o2 o3 hH fun off a hat => ?_
        cases hat with
        | tab i' c' hi' hc' =>
          rw [hcell]
          dsimp only
          by_cases hii : i' = i .u
          · subst hii
            rw [if_pos rfl]
            by_cases hin : c ≤ c' ∧ c' < c + as.length
            · rw [if_pos hin, if_pos (by omega), show i .u * sz + c' - (i .u * sz + c) = c' - c by omega]
              refine hus (c' - c) _ ?_
              rw [List.getD, List.getElem?_eq_getElem (by omega)]
              rfl
            · rw [if_neg hin, if_neg (by omega)]
              exact hB.cell _ _ (.tab (i .u) c' hi' hc')
          · rw [if_neg hii, if_neg ?_]
            · exact hB.cell _ _ (.tab i' c' hi' hc')
            · rintro ⟨h1, h2⟩
              have := mul_add_inj (sz := sz) (i := i') (i' := i .u) (c := c') (c' := c + (i' * sz + c' - (i .u * sz + c))) hc' (by omega) (by omega)
              exact hii this.1
      · have := Pass.write (w := w) (w' := w') H.length hb hB.here hw' hss hhs hoth o1 o2 o3
        simpa using this
  · cases hr
def astore (tt : TT) (H : Heap) (t : TypeId) (p x : AV) : Option (Heap × Th Prop) :=
  match tt.info t, aflat H x with
  | some i, some as => if as.length = i.size then awrite H p as else none
  | _, _ => none
theorem gives_store {tt : TT} (htt : TTok P tt) {t : TypeId} {p x : AV} {H' : Heap} {ob : Th Prop} {u v : Value} (h : Rel w ρ L H) (hr : astore tt H t p x = some (H', ob)) (hob : ob .u)
    (hs : Sim w ρ H.length L p u) (hx : Sim w ρ H.length L x v) : ∃ w', (Instr.storeAt t u v).run P w = .ok Unit.unit w' ∧ Rel w' ρ L H' ∧ Pass w ρ H.length w' ρ H'.length := by
  unfold astore at hr
  split at hr <;> first | (cases hr; done) | skip
  rename_i i as hi hf
  split at hr <;> first | (cases hr; done) | skip
  rename_i hlen
  obtain ⟨hsz, hcells⟩ := aflat_sound h hf hx
  obtain ⟨hd, info, z, hinfo, hinsz, _⟩ := htt.info hi
  obtain ⟨a, w', rfl, hrun, hR, hP⟩ := gives_write (P := P) h hr hob hs v.cells.toList (by simpa using hsz) (fun j x hx => by
    obtain ⟨y, h1, h2, h3⟩ := hcells j x hx
    exact ⟨y, by simpa using h1, h2, h3⟩)
  refine ⟨w', ?_, hR, hP⟩
  have e : ¬ (v.cells.size ≠ info.size) := by omega
  simp only [Instr.storeAt, Instr.sureAddr, Sem.run_bind, Sem.run_pure, Result.andThen_ok, storeVar, run_sizeOf hinfo, e, if_false]
  simpa using hrun
end
end Go.Aw
