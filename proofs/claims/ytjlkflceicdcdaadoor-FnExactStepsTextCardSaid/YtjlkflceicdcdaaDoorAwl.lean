/- What is told is told anew (forgotten, renamed, seen as read only); a function out of its body; calls. -/
import Derived.Test.YtjlkflceicdcdaaDoorAwk
namespace Go.Aw

/-! ### Told anew -/
def cmp (ρ : Mp) (H' : Heap) (σ : List Nat) : Mp := fun j => if live H' j then (σ[j]?).bind ρ else none
/-- Within a function what is new stays new; a function that is called sees all as there before. -/
def Fits (keep : Bool) (w : World) (L L' : Nat) : Prop := (keep = true → L' = L) ∧ (keep = false → L' = w.heap.size)
theorem Fits.keep (w : World) (L : Nat) : Fits true w L L := ⟨fun _ => rfl, fun e => by cases e⟩
theorem Fits.call (w : World) (L : Nat) : Fits false w L w.heap.size := ⟨fun e => (by cases e), fun _ => rfl⟩
def FrOK (keep fr fr' : Bool) : Prop := (keep = true → fr' = fr) ∧ (keep = false → fr' = false)
theorem FrOK.same {fr : Bool} : FrOK true fr fr := ⟨fun _ => rfl, fun e => by cases e⟩
theorem FrOK.call {fr : Bool} : FrOK false fr false := ⟨fun e => (by cases e), fun _ => rfl⟩
def ViewOK (keep fr fr' : Bool) : Prop := (keep = true → fr' = true ∧ fr = true) ∧ (keep = false → fr' = false)
theorem ViewOK.new : ViewOK true true true := ⟨fun _ => ⟨rfl, rfl⟩, fun e => by cases e⟩
theorem ViewOK.call {fr : Bool} : ViewOK false fr false := ⟨fun e => (by cases e), fun _ => rfl⟩
def AvTo (H H' : Heap) (σ : List Nat) (keep : Bool) (a a' : AV) : Prop :=
  ∀ w ρ L L' v, Fits keep w L L' → Rel w ρ L H → Sim w ρ H.length L a v → Sim w (cmp ρ H' σ) H'.length L' a' v
def BlkTo (H H' : Heap) (σ : List Nat) (keep : Bool) (B B' : Blk) : Prop := ∀ off a', B'.At off a' → ∃ a, B.At off a ∧ AvTo H H' σ keep a a'
structure HeapTo (H H' : Heap) (σ : List Nat) (keep : Bool) : Prop where
  at_ : ∀ (j : Nat) (fr : Bool) (B' : Blk), H'[j]? = some (some (fr, B')) → ∃ id fr0 B, σ[j]? = some id ∧ H[id]? = some (some (fr0, B)) ∧ (fr = true → fr0 = true ∧ keep = true) ∧ BlkTo H H' σ keep B B'
  inj : ∀ (j j' id : Nat), live H' j = true → live H' j' = true → σ[j]? = some id → σ[j']? = some id → j = j'
theorem cmp_some {ρ : Mp} {H' : Heap} {σ : List Nat} {j blk : Nat} (h : cmp ρ H' σ j = some blk) : live H' j = true ∧ ∃ id, σ[j]? = some id ∧ ρ id = some blk := by
  unfold cmp at h
  split at h
  · rename_i hl
    rw [Option.bind_eq_some_iff] at h
    exact ⟨hl, h⟩
  · cases h
theorem live_some {H : Heap} {id : Nat} (h : live H id = true) : ∃ fr B, H[id]? = some (some (fr, B)) := by
  unfold live at h
  split at h
  · rename_i B hB; exact ⟨B.1, B.2, hB⟩
  · cases h
theorem live_of {H : Heap} {id : Nat} {fr : Bool} {B : Blk} (h : H[id]? = some (some (fr, B))) : live H id = true := by unfold live; rw [h]
theorem live_lt {H : Heap} {id : Nat} (h : live H id = true) : id < H.length := by
  obtain ⟨fr, B, h⟩ := live_some h
  exact (List.getElem?_eq_some_iff.1 h).1
theorem Rel.to {w : World} {ρ : Mp} {L L' : Nat} {H H' : Heap} {σ : List Nat} {keep : Bool} (h : Rel w ρ L H) (k : HeapTo H H' σ keep) (hL : Fits keep w L L') : Rel w (cmp ρ H' σ) L' H' where
  live j blk hj := by
    obtain ⟨hl, id, hid, hr⟩ := cmp_some hj
    obtain ⟨fr, B', hB'⟩ := live_some hl
    obtain ⟨id', fr0, B, h1, h2, h3, h4⟩ := k.at_ j fr B' hB'
    rw [hid] at h1; cases h1
    obtain ⟨fr1, B1, cs, T, g1, g2⟩ := h.live id blk hr
    rw [h2] at g1; cases g1
    refine ⟨fr, B', cs, T, hB', g2.here, fun e => ?_, fun off a' hat => ?_⟩
    · obtain ⟨e1, e2⟩ := h3 e
      exact Nat.le_trans (Nat.le_of_eq (hL.1 e2)) (g2.fresh e1)
    · obtain ⟨a, ha, hto⟩ := h4 off a' hat
      obtain ⟨u, u1, u2, u3⟩ := g2.cell off a ha
      exact ⟨u, u1, u2, hto w ρ L L' u hL h u3⟩
  dom j fr B' hj := by
    obtain ⟨id, fr0, B, h1, h2, _⟩ := k.at_ j fr B' hj
    obtain ⟨blk, hb⟩ := h.dom id fr0 B h2
    exact ⟨blk, by unfold cmp; rw [if_pos (live_of hj), h1]; exact hb⟩
  inj j j' blk h1 h2 := by
    obtain ⟨l1, id, i1, r1⟩ := cmp_some h1
    obtain ⟨l2, id', i2, r2⟩ := cmp_some h2
    have := h.inj id id' blk r1 r2
    subst this
    exact k.inj j j' id l1 l2 i1 i2
  lore := h.lore
  away j blk hj := by
    obtain ⟨_, id, _, hr⟩ := cmp_some hj
    exact h.away id blk hr
  deep := by
    cases keep with
    | true => rw [hL.1 rfl]; exact h.deep
    | false => rw [hL.2 rfl]; exact lore_big h.lore

section
variable {H H' : Heap} {σ : List Nat} {keep : Bool}
theorem AvTo.dead (a : AV) : AvTo H H' σ keep a .dead := fun _ _ _ _ _ _ _ _ => .dead
theorem AvTo.v (x : Value) : AvTo H H' σ keep (.v x) (.v x) := fun _ _ _ _ _ _ _ h => by cases h with | v h => exact .v h
theorem AvTo.i {k : IntKind} {n m : Th Int} (e : n .u = m .u) : AvTo H H' σ keep (.i k n) (.i k m) := fun _ _ _ _ _ _ _ h => by cases h with | i => rw [e]; exact .i
theorem AvTo.b {p q : Th Bool} (e : p .u = q .u) : AvTo H H' σ keep (.b p) (.b q) := fun _ _ _ _ _ _ _ h => by cases h with | b => rw [e]; exact .b
theorem AvTo.s {p q : Th ByteArray} (e : p .u = q .u) : AvTo H H' σ keep (.s p) (.s q) := fun _ _ _ _ _ _ _ h => by cases h with | s => rw [e]; exact .s
theorem AvTo.f {k : FloatKind} {x y : Th Nat} (e : x .u = y .u) : AvTo H H' σ keep (.f k x) (.f k y) := fun _ _ _ _ _ _ _ h => by cases h with | f h => exact .f (h.trans e)
theorem AvTo.c {k : FloatKind} {x y x' y' : Th Nat} (e : x .u = x' .u) (e' : y .u = y' .u) : AvTo H H' σ keep (.c k x y) (.c k x' y') := fun _ _ _ _ _ _ _ h => by cases h with | c h1 h2 => exact .c (h1.trans e) (h2.trans e')
theorem AvTo.ifc : AvTo H H' σ keep .ifc .ifc := fun _ _ _ _ _ _ _ h => by cases h; exact .ifc
theorem AvTo.on {b b' : Th Bool} {a a' : AV} (e : b .u = b' .u) (h : AvTo H H' σ keep a a') : AvTo H H' σ keep (.on b a) (.on b' a') := fun w ρ L L' v hL hR hs => by
  cases hs with | on h1 h2 => exact .on (fun e' => h w ρ L L' v hL hR (h1 (e.trans e'))) fun e' => h2 (e.trans e')
theorem quiet_to {w : World} {ρ : Mp} {L L' : Nat} {fr fr' : Bool} {blk : Nat} (h : Quiet w ρ L fr blk) (hf : FrOK keep fr fr') (hL : Fits keep w L L') : Quiet w (cmp ρ H' σ) L' fr' blk := by
  have hno : ∀ id, cmp ρ H' σ id ≠ some blk := fun j hj => by
    obtain ⟨_, id, _, hr⟩ := cmp_some hj
    exact h.2.1 id hr
  cases keep with
  | true =>
    obtain rfl := hf.1 rfl
    obtain rfl := hL.1 rfl
    exact ⟨h.1, hno, h.2.2⟩
  | false =>
    obtain rfl := hf.2 rfl
    obtain rfl := hL.2 rfl
    exact ⟨h.1, hno, fun e => (by cases e), fun _ => h.1⟩
theorem AvTo.ro {fr fr' : Bool} {n n' : Th Nat} {sz : Nat} {g g' : Th Nat → Nat → AV} (e : n .u = n' .u) (hf : FrOK keep fr fr') (h : ∀ i c, i < n' .u → c < sz → AvTo H H' σ keep (g (fun _ => i) c) (g' (fun _ => i) c)) : AvTo H H' σ keep (.ro fr n sz g) (.ro fr' n' sz g') :=
  fun w ρ L L' v hL hR hs => by
    cases hs with
    | ro0 h0 => exact .ro0 (e ▸ h0)
    | ro u hn hq hc hsim =>
      rw [e] at hn hc hsim ⊢
      exact .ro u hn (quiet_to hq hf hL) hc fun i c hi hcc => h i c hi hcc w ρ L L' _ hL hR (hsim i c hi hcc)
theorem AvTo.rptr {fr fr' : Bool} {m : Nat} {g g' : Nat → AV} (hf : FrOK keep fr fr') (h : ∀ c, c < m → AvTo H H' σ keep (g c) (g' c)) : AvTo H H' σ keep (.rptr fr m g) (.rptr fr' m g') :=
  fun w ρ L L' v hL hR hs => by
    cases hs with
    | rptr u hq hc hsim => exact .rptr u (quiet_to hq hf hL) hc fun c hcc => h c hcc w ρ L L' _ hL hR (hsim c hcc)
theorem AvTo.own {id j : Nat} {i n i' n' : Th Nat} {sz : Nat} (hl : live H' j = true) (hj : σ[j]? = some id) (ei : i .u = i' .u) (en : n .u = n' .u) : AvTo H H' σ keep (.own id i n sz) (.own j i' n' sz) := fun w ρ L L' v _ _ hs => by
  cases hs with
  | own hid hv =>
  refine .own (live_lt hl) fun blk hb => ?_
  obtain ⟨_, id', h1, h2⟩ := cmp_some hb
  rw [hj] at h1; cases h1
  rw [← ei, ← en]
  exact hv blk h2
theorem AvTo.ptr {id j : Nat} {i i' : Th Nat} {sz c : Nat} (hl : live H' j = true) (hj : σ[j]? = some id) (ei : i .u = i' .u) : AvTo H H' σ keep (.ptr id i sz c) (.ptr j i' sz c) := fun w ρ L L' v _ _ hs => by
  cases hs with
  | ptr hid hv =>
  refine .ptr (live_lt hl) fun blk hb => ?_
  obtain ⟨_, id', h1, h2⟩ := cmp_some hb
  rw [hj] at h1; cases h1
  rw [← ei]
  exact hv blk h2
/-- A block that goes on under no name. -/
def Left (H' : Heap) (σ : List Nat) (id : Nat) : Prop := ∀ j, live H' j = true → σ[j]? ≠ some id
theorem quiet_left {w : World} {ρ : Mp} {L L' : Nat} {id blk : Nat} {fr fr' : Bool} {B : Blk} {cs : Array Value} {T : TypeId} {N : Nat} {Hh : Heap} (hR : Rel w ρ L Hh) (hb : ρ id = some blk) (hB : BlkRel w ρ N L fr B blk cs T) (hl : Left H' σ id)
    (hf : ViewOK keep fr fr') (hL : Fits keep w L L') : Quiet w (cmp ρ H' σ) L' fr' blk := by
  have hno : ∀ j, cmp ρ H' σ j ≠ some blk := fun j hj => by
    obtain ⟨hlj, id', h1, h2⟩ := cmp_some hj
    have := hR.inj id id' blk hb h2
    subst this
    exact hl j hlj h1
  cases keep with
  | true =>
    obtain ⟨rfl, rfl⟩ := hf.1 rfl
    obtain rfl := hL.1 rfl
    exact ⟨hR.block_lt hb, hno, fun _ => ⟨hB.fresh rfl, cs, T, hB.here⟩, fun e => by cases e⟩
  | false =>
    obtain rfl := hf.2 rfl
    obtain rfl := hL.2 rfl
    exact ⟨hR.block_lt hb, hno, fun e => (by cases e), fun _ => hR.block_lt hb⟩
/-- A slice of one's own, seen as one that is only read. -/
theorem AvTo.view {id : Nat} {i n n' m : Th Nat} {sz : Nat} {fr fr' : Bool} {g g' : Th Nat → Nat → AV} (hH : H[id]? = some (some (fr, .tab m sz g))) (hle : i .u + n' .u ≤ m .u) (hl : Left H' σ id) (en : n .u = n' .u) (hf : ViewOK keep fr fr')
    (h : ∀ j c, j < n' .u → c < sz → AvTo H H' σ keep (g (fun _ => i .u + j) c) (g' (fun _ => j) c)) : AvTo H H' σ keep (.own id i n sz) (.ro fr' n' sz g') := fun w ρ L L' v hL hR hs => by
  obtain ⟨blk, cs, T, hb, hB⟩ := hR.at_ hH
  cases hs with
  | own hid hv =>
  obtain ⟨off, cap, rfl, hn, hcm, hoff, hroom⟩ := hv blk hb
  rw [en] at hn ⊢
  rcases Nat.eq_zero_or_pos (n' .u) with h0 | h0
  · rw [h0]; exact .ro0 h0
  · have e : off = i .u * sz := by rcases hoff with e | e; exact e; omega
    subst e
    have hcell : ∀ j c, j < n' .u → c < sz → ∃ x, cs[i .u * sz + (j * sz + c)]? = some x ∧ x.oneCell' = true ∧ Sim w ρ H.length L (g (fun _ => i .u + j) c) x := by
      intro j c hj hc
      have := hB.cell _ _ (.tab (i .u + j) c (by omega) hc)
      rwa [Nat.add_mul, Nat.add_assoc] at this
    refine .ro (fun j c => (cs[i .u * sz + (j * sz + c)]?).getD undef) hn (quiet_left hR hb hB hl hf hL) (fun j c hj hc => ?_) (fun j c hj hc => ?_)
    · obtain ⟨x, h1, h2, _⟩ := hcell j c hj hc
      rw [cell_of_row w blk _ cs T (0, 0) hB.here, h1]
      exact ⟨rfl, h2⟩
    · obtain ⟨x, h1, _, h3⟩ := hcell j c hj hc
      rw [h1]
      exact h j c hj hc w ρ L L' _ hL hR h3
/-- A pointer into a box of one's own, seen as one through which is only read. -/
theorem AvTo.viewBox {id c m : Nat} {i : Th Nat} {sz : Nat} {fr fr' : Bool} {l : List AV} {g' : Nat → AV} (hi : i .u = 0) (hH : H[id]? = some (some (fr, .box l))) (hl : Left H' σ id) (hf : ViewOK keep fr fr') (hle : c + m ≤ l.length)
    (h : ∀ j, j < m → AvTo H H' σ keep (l.getD (c + j) .dead) (g' j)) : AvTo H H' σ keep (.ptr id i sz c) (.rptr fr' m g') := fun w ρ L L' v hL hR hs => by
  obtain ⟨blk, cs, T, hb, hB⟩ := hR.at_ hH
  cases hs with
  | ptr hid hv =>
  rw [hv blk hb, hi]
  have hcell : ∀ j, j < m → ∃ x, cs[0 * sz + c + j]? = some x ∧ x.oneCell' = true ∧ Sim w ρ H.length L (l.getD (c + j) .dead) x := by
    intro j hj
    have := hB.cell (c + j) (l.getD (c + j) .dead) (.box (by rw [List.getD_eq_getElem?_getD, List.getElem?_eq_getElem (by omega)]; rfl))
    rwa [Nat.zero_mul, Nat.zero_add]
  refine .rptr (fun j => (cs[0 * sz + c + j]?).getD undef) (quiet_left hR hb hB hl hf hL) (fun j hj => ?_) (fun j hj => ?_)
  · obtain ⟨x, h1, h2, _⟩ := hcell j hj
    rw [cell_of_row w blk _ cs T (0, 0) hB.here, h1]
    exact ⟨rfl, h2⟩
  · obtain ⟨x, h1, _, h3⟩ := hcell j hj
    rw [h1]
    exact h j hj w ρ L L' _ hL hR h3
/-- A pointer into a row of one's own, seen as one through which is only read. -/
theorem AvTo.viewTab {id c m : Nat} {i k : Th Nat} {sz : Nat} {fr fr' : Bool} {g : Th Nat → Nat → AV} {g' : Nat → AV} (hH : H[id]? = some (some (fr, .tab k sz g))) (hi : i .u < k .u) (hl : Left H' σ id) (hf : ViewOK keep fr fr') (hle : c + m ≤ sz)
    (h : ∀ j, j < m → AvTo H H' σ keep (g (fun _ => i .u) (c + j)) (g' j)) : AvTo H H' σ keep (.ptr id i sz c) (.rptr fr' m g') := fun w ρ L L' v hL hR hs => by
  obtain ⟨blk, cs, T, hb, hB⟩ := hR.at_ hH
  cases hs with
  | ptr hid hv =>
  rw [hv blk hb]
  have hcell : ∀ j, j < m → ∃ x, cs[i .u * sz + c + j]? = some x ∧ x.oneCell' = true ∧ Sim w ρ H.length L (g (fun _ => i .u) (c + j)) x := by
    intro j hj
    have := hB.cell _ _ (.tab (i .u) (c + j) hi (by omega))
    rwa [← Nat.add_assoc] at this
  refine .rptr (fun j => (cs[i .u * sz + c + j]?).getD undef) (quiet_left hR hb hB hl hf hL) (fun j hj => ?_) (fun j hj => ?_)
  · obtain ⟨x, h1, h2, _⟩ := hcell j hj
    rw [cell_of_row w blk _ cs T (0, 0) hB.here, h1]
    exact ⟨rfl, h2⟩
  · obtain ⟨x, h1, _, h3⟩ := hcell j hj
    rw [h1]
    exact h j hj w ρ L L' _ hL hR h3
/-- Pointwise. -/
def AllTo (H H' : Heap) (σ : List Nat) (keep : Bool) : List AV → List AV → Prop
  | [], [] => True
  | a :: l, a' :: l' => AvTo H H' σ keep a a' ∧ AllTo H H' σ keep l l'
  | _, _ => False
theorem AllTo.len : ∀ {l l' : List AV}, AllTo H H' σ keep l l' → l.length = l'.length := by
  intro l
  induction l with
  | nil => intro l' h; cases l' <;> first | rfl | exact h.elim
  | cons a l ih => intro l' h; cases l' <;> first | exact h.elim | simp [ih h.2]
theorem AllTo.get : ∀ {l l' : List AV}, AllTo H H' σ keep l l' → ∀ (j : Nat) (a' : AV), l'[j]? = some a' → ∃ a, l[j]? = some a ∧ AvTo H H' σ keep a a' := by
  intro l
  induction l with
  | nil => intro l' h j a' hj; cases l' <;> first | (simp at hj; done) | exact h.elim
  | cons a l ih =>
    intro l' h j a' hj
    cases l' with
    | nil => exact h.elim
    | cons b l' =>
      cases j with
      | zero => simp at hj; subst hj; exact ⟨a, rfl, h.1⟩
      | succ j => exact ih h.2 j a' hj
theorem AllTo.same {l : List AV} (h : ∀ a ∈ l, AvTo H H' σ keep a a) : AllTo H H' σ keep l l := by
  induction l with
  | nil => trivial
  | cons a l ih => exact ⟨h a (by simp), ih fun x hx => h x (by simp [hx])⟩
theorem sim_all {w : World} {ρ : Mp} {L L' : Nat} {l l' : List AV} {us : Array Value} (hL : Fits keep w L L') (hR : Rel w ρ L H) (h : AllTo H H' σ keep l l') (hlen : l.length = us.size)
    (hs : ∀ (j : Nat) (a : AV) (u : Value), l[j]? = some a → us[j]? = some u → Sim w ρ H.length L a u) : l'.length = us.size ∧ ∀ (j : Nat) (a : AV) (u : Value), l'[j]? = some a → us[j]? = some u → Sim w (cmp ρ H' σ) H'.length L' a u :=
  ⟨h.len ▸ hlen, fun j a u ha hu => by
    obtain ⟨b, hb, hto⟩ := h.get j a ha
    exact hto w ρ L L' u hL hR (hs j b u hb hu)⟩
theorem AvTo.agg {l l' : List AV} (h : AllTo H H' σ keep l l') : AvTo H H' σ keep (.agg l) (.agg l') := fun w ρ L L' v hL hR hs => by
  cases hs with | agg h1 h2 => obtain ⟨k1, k2⟩ := sim_all hL hR h h1 h2; exact .agg k1 k2
theorem AvTo.tup {l l' : List AV} (h : AllTo H H' σ keep l l') : AvTo H H' σ keep (.tup l) (.tup l') := fun w ρ L L' v hL hR hs => by
  cases hs with | tup h1 h2 => obtain ⟨k1, k2⟩ := sim_all hL hR h h1 h2; exact .tup k1 k2
theorem AvTo.fn {f : Fn} {l l' m m' : List AV} (h : AllTo H H' σ keep l l') (k : AllTo H H' σ keep m m') : AvTo H H' σ keep (.fn f l m) (.fn f l' m') := fun w ρ L L' v hL hR hs => by
  cases hs with
  | fn h1 h2 h3 h4 =>
  obtain ⟨k1, k2⟩ := sim_all hL hR h h1 h2
  obtain ⟨k3, k4⟩ := sim_all hL hR k h3 h4
  exact .fn k1 k2 k3 k4
end
/-- What is told may be told anew at any place. -/
theorem AW.to {P : Program} {N0 : Nat} {c : Code} {Q : Exit → List AV → Heap → Prop} {env env' : List AV} {H H' : Heap} (σ : List Nat) (hH : HeapTo H H' σ true) (henv : AllTo H H' σ true env env') (hN : N0 ≤ H'.length) (h0 : ∀ j, j < N0 → live H' j = true → σ[j]? = some j)
    (h : AW P N0 c Q env' H') : AW P N0 c Q env H := by
  intro w0 ρ0 ρ a w s
  refine h w0 ρ0 (cmp ρ H' σ) a w ⟨s.defers, ⟨by rw [← henv.len]; exact s.env.len, fun t x v h1 h2 => ?_⟩, s.rel.to hH (Fits.keep _ _), ?_⟩
  · obtain ⟨b, hb, hto⟩ := henv.get t x h1
    exact hto w ρ _ _ v (Fits.keep _ _) s.rel (s.env.at_ t b v hb h2)
  · refine ⟨s.pass.size, hN, fun id blk hid hr => ?_, fun id blk hr => ?_, s.pass.cells, fun id blk cs T fz hid hr hw => ?_, s.pass.os, s.pass.tape, s.pass.output⟩
    · obtain ⟨hl, id', h1, h2⟩ := cmp_some hr
      rw [h0 id hid hl] at h1; cases h1
      exact s.pass.old id blk hid h2
    · obtain ⟨_, id', _, h2⟩ := cmp_some hr
      exact s.pass.new id' blk h2
    · obtain ⟨hl, id', h1, h2⟩ := cmp_some hr
      rw [h0 id hid hl] at h1; cases h1
      exact s.pass.shape id blk cs T fz hid h2 hw

/-! ### A function out of its body -/
def finA (tt : TT) (fn : Func) (res : AV) (Hc' : Heap) (N0 : Nat) : Exit → List AV → Heap → Prop
  | .normal, env, H | .ret, env, H => ∃ r p σ, aresults tt H env fn.results.toList = some (r, p) ∧ p .u ∧ HeapTo H Hc' σ true ∧ AvTo H Hc' σ true r res ∧ ∀ j, j < N0 → live Hc' j = true → σ[j]? = some j
  | _, _, _ => False
theorem Con.of {P : Program} {tt : TT} (htt : TTok P tt) {f : FuncId} {fn : Func} {c : Code} {args : List AV} {Hc Hc' : Heap} {res : AV} (hf : P.funcs[f]? = some fn) (hb : fn.body = some c) (hn : (fn.name == "runtime.NumGoroutine") = false) (hlen : Hc.length ≤ Hc'.length)
    (h : AW P Hc.length c (finA tt fn res Hc' Hc.length) (args ++ List.replicate (fn.ntmps - args.length) .dead) Hc) : Con P f args Hc res Hc' where
  enters := ⟨fn, hf, hn, by rw [hb]; rfl⟩
  len := hlen
  call w ρ vals hR hl hs := by
    refine calls_of_wp hf hb ?_
    have s : St w ρ Hc.length ρ (args ++ List.replicate (fn.ntmps - args.length) .dead) Hc { tmps := vals ++ Array.replicate (fn.ntmps - vals.size) undef, defers := [] } w := by
      refine ⟨rfl, ⟨by simp [hl], fun t x v h1 h2 => ?_⟩, hR, Pass.refl _ _ _⟩
      by_cases ht : t < args.length
      · rw [List.getElem?_append_left ht] at h1
        rw [Array.getElem?_append_left (by omega)] at h2
        exact hs t x v h1 h2
      · rw [List.getElem?_append_right (by omega), List.getElem?_replicate] at h1
        split at h1 <;> cases h1
        exact .dead
    refine wp_mono (h w ρ ρ _ w s) fun e a' w' hh => ?_
    obtain ⟨env', H', ρ', hq, hs'⟩ := hh
    have fin : (∃ r p σ, aresults tt H' env' fn.results.toList = some (r, p) ∧ p .u ∧ HeapTo H' Hc' σ true ∧ AvTo H' Hc' σ true r res ∧ ∀ j, j < Hc.length → live Hc' j = true → σ[j]? = some j) →
        a'.defers = [] ∧ ∃ v, (results fn a'.tmps).run P w' = .ok v w' ∧ ∃ v' ρ2, Ending.returned v = .returned v' ∧ Sim w' ρ2 Hc'.length w.heap.size res v' ∧ Rel w' ρ2 w.heap.size Hc' ∧ Pass w ρ Hc.length w' ρ2 Hc'.length := by
      rintro ⟨r, p, σ, h1, h2, h3, h4, h5⟩
      obtain ⟨v, hv, hsim⟩ := run_results (P := P) htt hs' h1 h2
      refine ⟨hs'.defers, v, hv, v, cmp ρ' Hc' σ, rfl, h4 w' ρ' _ _ v (Fits.keep _ _) hs'.rel hsim, hs'.rel.to h3 (Fits.keep _ _), ?_⟩
      refine ⟨hs'.pass.size, hlen, fun id blk hid hr => ?_, fun id blk hr => ?_, hs'.pass.cells, fun id blk cs T fz hid hr hw => ?_, hs'.pass.os, hs'.pass.tape, hs'.pass.output⟩
      · obtain ⟨hl, id', i1, i2⟩ := cmp_some hr
        rw [h5 id hid hl] at i1; cases i1
        exact hs'.pass.old id blk hid i2
      · obtain ⟨_, id', _, i2⟩ := cmp_some hr
        exact hs'.pass.new id' blk i2
      · obtain ⟨hl, id', i1, i2⟩ := cmp_some hr
        rw [h5 id hid hl] at i1; cases i1
        exact hs'.pass.shape id blk cs T fz hid i2 hw
    cases e <;> first | exact hq.elim | exact fin hq

/-! ### Calls -/
mutual
def ren (m : Nat → Nat) : AV → AV
  | .own id i n sz => .own (m id) i n sz
  | .ptr id i sz c => .ptr (m id) i sz c
  | .ro fr n sz g => .ro fr n sz fun i c => ren m (g i c)
  | .rptr fr k g => .rptr fr k fun c => ren m (g c)
  | .agg l => .agg (renL m l)
  | .tup l => .tup (renL m l)
  | .fn f l k => .fn f (renL m l) (renL m k)
  | .on b a => .on b (ren m a)
  | .v x => .v x
  | .i k n => .i k n
  | .b p => .b p
  | .s x => .s x
  | .f k x => .f k x
  | .c k x y => .c k x y
  | .ifc => .ifc
  | .dead => .dead
def renL (m : Nat → Nat) : List AV → List AV
  | [] => []
  | a :: l => ren m a :: renL m l
end
theorem renL_map (m : Nat → Nat) (l : List AV) : renL m l = l.map (ren m) := by
  induction l with
  | nil => simp [renL]
  | cons a l ih => simp [renL, ih]
def renB (m : Nat → Nat) : Blk → Blk
  | .box l => .box (renL m l)
  | .tab n sz g => .tab n sz fun i c => ren m (g i c)
def renE (m : Nat → Nat) : Option (Bool × Blk) → Option (Bool × Blk)
  | some (fr, B) => some (fr, renB m B)
  | none => none
/-- All that is only read lies in new memory. -/
inductive AllFr : AV → Prop
  | v {x : Value} : AllFr (.v x)
  | i {k : IntKind} {n : Th Int} : AllFr (.i k n)
  | b {p : Th Bool} : AllFr (.b p)
  | s {x : Th ByteArray} : AllFr (.s x)
  | f {k : FloatKind} {x : Th Nat} : AllFr (.f k x)
  | c {k : FloatKind} {x y : Th Nat} : AllFr (.c k x y)
  | ro {n : Th Nat} {sz : Nat} {g : Th Nat → Nat → AV} : (∀ i c, i < n .u → c < sz → AllFr (g (fun _ => i) c)) → AllFr (.ro true n sz g)
  | rptr {m : Nat} {g : Nat → AV} : (∀ c, c < m → AllFr (g c)) → AllFr (.rptr true m g)
  | own {id sz : Nat} {i n : Th Nat} : AllFr (.own id i n sz)
  | ptr {id sz c : Nat} {i : Th Nat} : AllFr (.ptr id i sz c)
  | agg {l : List AV} : (∀ a ∈ l, AllFr a) → AllFr (.agg l)
  | tup {l : List AV} : (∀ a ∈ l, AllFr a) → AllFr (.tup l)
  | fn {f : Fn} {l m : List AV} : (∀ a ∈ l, AllFr a) → (∀ a ∈ m, AllFr a) → AllFr (.fn f l m)
  | ifc : AllFr .ifc
  | on {b : Th Bool} {a : AV} : AllFr a → AllFr (.on b a)
  | dead : AllFr .dead
/-- From the callee's names to the caller's. -/
theorem Sim.ren {w : World} {ρ ρ2 : Mp} {N N2 L L2 : Nat} {m : Nat → Nat} {a : AV} {v : Value} (any : Prop) (h : Sim w ρ N L a v) (hm : ∀ id, id < N → m id < N2) (hr : ∀ id blk, id < N → ρ2 (m id) = some blk → ρ id = some blk)
    (hq : ∀ fr blk, Quiet w ρ L fr blk → (fr = true ∨ any) → Quiet w ρ2 L2 fr blk) (hall : AllFr a ∨ any) : Sim w ρ2 N2 L2 (ren m a) v := by
  induction h with
  | v h => simp only [Aw.ren]; exact .v h
  | i => simp only [Aw.ren]; exact .i
  | b => simp only [Aw.ren]; exact .b
  | s => simp only [Aw.ren]; exact .s
  | f h => simp only [Aw.ren]; exact .f h
  | c h1 h2 => simp only [Aw.ren]; exact .c h1 h2
  | ro0 h => simp only [Aw.ren]; exact .ro0 h
  | ro u hn hqq hc _ ih =>
    simp only [Aw.ren]
    exact .ro u hn (hq _ _ hqq (hall.imp (fun e => by cases e; rfl) id)) hc fun i c hi hcc => ih i c hi hcc (hall.imp (fun e => by cases e with | ro e => exact e i c hi hcc) id)
  | own hid hv => simp only [Aw.ren]; exact .own (hm _ hid) fun blk hb => hv blk (hr _ blk hid hb)
  | ptr hid hv => simp only [Aw.ren]; exact .ptr (hm _ hid) fun blk hb => hv blk (hr _ blk hid hb)
  | rptr u hqq hc _ ih =>
    simp only [Aw.ren]
    exact .rptr u (hq _ _ hqq (hall.imp (fun e => by cases e; rfl) id)) hc fun c hcc => ih c hcc (hall.imp (fun e => by cases e with | rptr e => exact e c hcc) id)
  | agg hl _ ih =>
    simp only [Aw.ren]
    refine .agg (by rw [renL_map]; simpa using hl) fun j a u ha hu => ?_
    rw [renL_map, List.getElem?_map, Option.map_eq_some_iff] at ha
    obtain ⟨b, hb, rfl⟩ := ha
    exact ih j b u hb hu (hall.imp (fun e => by cases e with | agg e => exact e b (List.mem_of_getElem? hb)) id)
  | tup hl _ ih =>
    simp only [Aw.ren]
    refine .tup (by rw [renL_map]; simpa using hl) fun j a u ha hu => ?_
    rw [renL_map, List.getElem?_map, Option.map_eq_some_iff] at ha
    obtain ⟨b, hb, rfl⟩ := ha
    exact ih j b u hb hu (hall.imp (fun e => by cases e with | tup e => exact e b (List.mem_of_getElem? hb)) id)
  | fn hl _ hk _ ih1 ih2 =>
    simp only [Aw.ren]
    refine .fn (by rw [renL_map]; simpa using hl) (fun j a u ha hu => ?_) (by rw [renL_map]; simpa using hk) (fun j a u ha hu => ?_)
    · rw [renL_map, List.getElem?_map, Option.map_eq_some_iff] at ha
      obtain ⟨b, hb, rfl⟩ := ha
      exact ih1 j b u hb hu (hall.imp (fun e => by cases e with | fn e _ => exact e b (List.mem_of_getElem? hb)) id)
    · rw [renL_map, List.getElem?_map, Option.map_eq_some_iff] at ha
      obtain ⟨b, hb, rfl⟩ := ha
      exact ih2 j b u hb hu (hall.imp (fun e => by cases e with | fn _ e => exact e b (List.mem_of_getElem? hb)) id)
  | ifc => simp only [Aw.ren]; exact .ifc
  | on _ h2 ih =>
    simp only [Aw.ren]
    exact .on (fun e => ih e (hall.imp (fun e => by cases e with | on e => exact e) id)) h2
  | dead => simp only [Aw.ren]; exact .dead
end Go.Aw
