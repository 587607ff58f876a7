/- Abstract values, what of the memory they stand for, and that it lasts while others write elsewhere. -/
import Derived.Test.YtfdmmbcjidkmoaaAwa
import Derived.Test.YtfdmmbcjidkmoaaAwL
import Derived.Laws.Append
import Derived.Laws.AppendOwn
import Derived.Laws.MakeOwn
import Derived.Laws.Slices
namespace Go.Aw

/-- What stands behind a lambda is left as it is by the evaluator. -/
inductive U where
  | u
abbrev Th (α : Type) := U → α
inductive AV where
  | v (x : Value)
  | i (k : IntKind) (n : Th Int)
  | b (p : Th Bool)
  | s (x : Th ByteArray)
  | f (k : FloatKind) (x : Th Nat)
  | c (k : FloatKind) (x y : Th Nat)
  | ro (fr : Bool) (n : Th Nat) (sz : Nat) (g : Th Nat → Nat → AV)
  | own (id : Nat) (i n : Th Nat) (sz : Nat)
  | ptr (id : Nat) (i : Th Nat) (sz c : Nat)
  | rptr (fr : Bool) (m : Nat) (g : Nat → AV)
  | agg (l : List AV)
  | tup (l : List AV)
  | fn (fn : Fn) (first captured : List AV)
  | ifc
  | on (p : Th Bool) (a : AV)
  | dead
instance : Inhabited AV := ⟨.dead⟩

inductive Blk where
  | box (l : List AV)
  | tab (n : Th Nat) (sz : Nat) (g : Th Nat → Nat → AV)
/-- What stands at an offset. -/
inductive Blk.At : Blk → Nat → AV → Prop
  | box {l : List AV} {off : Nat} {a : AV} : l[off]? = some a → Blk.At (.box l) off a
  | tab {n : Th Nat} {sz : Nat} {g : Th Nat → Nat → AV} (i c : Nat) : i < n .u → c < sz → Blk.At (.tab n sz g) (i * sz + c) (g (fun _ => i) c)
abbrev Heap := List (Option (Bool × Blk))

/-- nil, of whatever kind. -/
def plain : Value → Bool
  | .nilFunc | .nilIface | .pointer none | .slice none 0 0 => true
  | _ => false

abbrev Mp := Nat → Option Nat
/-- A block that nobody who is told writes: a new one, which is no more than cells, or one that was there before. -/
def Quiet (w : World) (ρ : Mp) (L : Nat) (fr : Bool) (blk : Nat) : Prop :=
  blk < w.heap.size ∧ (∀ id, ρ id ≠ some blk) ∧ (fr = true → L ≤ blk ∧ ∃ cs T, w.heap[blk]? = some (.cells cs T (0, 0))) ∧ (fr = false → blk < L)
def Roomy (w : World) (blk need : Nat) : Prop := ∃ cs T fz, w.heap[blk]? = some (.cells cs T fz) ∧ need ≤ cs.size

inductive Sim (w : World) (ρ : Mp) (N L : Nat) : AV → Value → Prop where
  | v {x : Value} : plain x = true → Sim w ρ N L (.v x) x
  | i {k : IntKind} {n : Th Int} : Sim w ρ N L (.i k n) (.int k (n .u))
  | b {p : Th Bool} : Sim w ρ N L (.b p) (.bool (p .u))
  | s {x : Th ByteArray} : Sim w ρ N L (.s x) (.string (x .u))
  | f {k : FloatKind} {x : Th Nat} {y : Nat} : canon k y = x .u → Sim w ρ N L (.f k x) (.float k y)
  | c {k : FloatKind} {x y : Th Nat} {a b : Nat} : canon k a = x .u → canon k b = y .u → Sim w ρ N L (.c k x y) (.complex k a b)
  | ro0 {fr : Bool} {n : Th Nat} {sz : Nat} {g : Th Nat → Nat → AV} {a : Option Addr} {cap : Nat} : n .u = 0 → Sim w ρ N L (.ro fr n sz g) (.slice a 0 cap)
  | ro {fr : Bool} {n : Th Nat} {sz : Nat} {g : Th Nat → Nat → AV} {blk off cap : Nat} (u : Nat → Nat → Value) : n .u ≤ cap → Quiet w ρ L fr blk →
      (∀ i c, i < n .u → c < sz → w.cell? ⟨blk, off + (i * sz + c), none⟩ = some (u i c) ∧ (u i c).oneCell' = true) →
      (∀ i c, i < n .u → c < sz → Sim w ρ N L (g (fun _ => i) c) (u i c)) → Sim w ρ N L (.ro fr n sz g) (.slice (some ⟨blk, off, none⟩) (n .u) cap)
  | own {id : Nat} {i n : Th Nat} {sz : Nat} {v : Value} : id < N →
      (∀ blk, ρ id = some blk → ∃ off cap, v = .slice (some ⟨blk, off, none⟩) (n .u) cap ∧ n .u ≤ cap ∧ cap ≤ maxLen ∧ (off = i .u * sz ∨ cap = 0) ∧ Roomy w blk (off + cap * sz)) →
      Sim w ρ N L (.own id i n sz) v
  | ptr {id : Nat} {i : Th Nat} {sz c : Nat} {v : Value} : id < N → (∀ blk, ρ id = some blk → v = .pointer (some ⟨blk, i .u * sz + c, none⟩)) → Sim w ρ N L (.ptr id i sz c) v
  | rptr {fr : Bool} {m : Nat} {g : Nat → AV} {blk off : Nat} (u : Nat → Value) : Quiet w ρ L fr blk →
      (∀ c, c < m → w.cell? ⟨blk, off + c, none⟩ = some (u c) ∧ (u c).oneCell' = true) →
      (∀ c, c < m → Sim w ρ N L (g c) (u c)) → Sim w ρ N L (.rptr fr m g) (.pointer (some ⟨blk, off, none⟩))
  | agg {l : List AV} {us : Array Value} : l.length = us.size → (∀ (j : Nat) (a : AV) (u : Value), l[j]? = some a → us[j]? = some u → Sim w ρ N L a u) → Sim w ρ N L (.agg l) (.agg us)
  | tup {l : List AV} {us : Array Value} : l.length = us.size → (∀ (j : Nat) (a : AV) (u : Value), l[j]? = some a → us[j]? = some u → Sim w ρ N L a u) → Sim w ρ N L (.tup l) (.tuple us)
  | fn {f : Fn} {l m : List AV} {us vs : Array Value} : l.length = us.size → (∀ (j : Nat) (a : AV) (u : Value), l[j]? = some a → us[j]? = some u → Sim w ρ N L a u) →
      m.length = vs.size → (∀ (j : Nat) (a : AV) (u : Value), m[j]? = some a → vs[j]? = some u → Sim w ρ N L a u) → Sim w ρ N L (.fn f l m) (.func f us vs)
  | ifc {t : TypeId} {v : Value} : Sim w ρ N L .ifc (.iface t v)
  | on {p : Th Bool} {a : AV} {v : Value} : (p .u = true → Sim w ρ N L a v) → (p .u = false → v = undef) → Sim w ρ N L (.on p a) v
  | dead {v : Value} : Sim w ρ N L .dead v

/-- From w to w' nothing turned but blocks that ρ names and new ones. -/
structure Pass (w : World) (ρ : Mp) (N : Nat) (w' : World) (ρ' : Mp) (N' : Nat) : Prop where
  size : w.heap.size ≤ w'.heap.size
  len : N ≤ N'
  old : ∀ id blk, id < N → ρ' id = some blk → ρ id = some blk
  new : ∀ id blk, ρ' id = some blk → (∃ j, ρ j = some blk) ∨ w.heap.size ≤ blk
  cells : ∀ blk, blk < w.heap.size → (∀ id, ρ id ≠ some blk) → w'.heap[blk]? = w.heap[blk]?
  shape : ∀ id blk cs T fz, id < N → ρ' id = some blk → w.heap[blk]? = some (.cells cs T fz) → ∃ cs' T' fz', w'.heap[blk]? = some (.cells cs' T' fz') ∧ cs'.size = cs.size
  os : w'.os = w.os
  tape : w'.tape = w.tape
  output : w'.output = w.output

theorem Pass.refl (w : World) (ρ : Mp) (N : Nat) : Pass w ρ N w ρ N :=
  ⟨Nat.le_refl _, Nat.le_refl _, fun _ _ _ h => h, fun id _ h => .inl ⟨id, h⟩, fun _ _ _ => rfl, fun _ _ cs T fz _ _ h => ⟨cs, T, fz, h, rfl⟩, rfl, rfl, rfl⟩
theorem Pass.trans {w w1 w2 : World} {ρ ρ1 ρ2 : Mp} {N N1 N2 : Nat} (h : Pass w ρ N w1 ρ1 N1) (k : Pass w1 ρ1 N1 w2 ρ2 N2) : Pass w ρ N w2 ρ2 N2 where
  size := Nat.le_trans h.size k.size
  len := Nat.le_trans h.len k.len
  old id blk hid hr := h.old id blk hid (k.old id blk (Nat.lt_of_lt_of_le hid h.len) hr)
  new id blk hr := by
    rcases k.new id blk hr with ⟨j, hj⟩ | hj
    · exact h.new j blk hj
    · exact .inr (Nat.le_trans h.size hj)
  cells blk hb hn := by
    rw [k.cells blk (Nat.lt_of_lt_of_le hb h.size) (fun id hid => by
      rcases h.new id blk hid with ⟨j, hj⟩ | hj
      · exact hn j hj
      · omega), h.cells blk hb hn]
  shape id blk cs T fz hid hr hw := by
    obtain ⟨cs', T', fz', h1, h2⟩ := h.shape id blk cs T fz hid (k.old id blk (Nat.lt_of_lt_of_le hid h.len) hr) hw
    obtain ⟨cs2, T2, fz2, h3, h4⟩ := k.shape id blk cs' T' fz' (Nat.lt_of_lt_of_le hid h.len) hr h1
    exact ⟨cs2, T2, fz2, h3, h4.trans h2⟩
  os := k.os.trans h.os
  tape := k.tape.trans h.tape
  output := k.output.trans h.output
/-- A draw turns nothing. -/
theorem Pass.same {w w' : World} (ρ : Mp) (N : Nat) (h : w'.heap = w.heap) (ho : w'.os = w.os) (ht : w'.tape = w.tape) (hp : w'.output = w.output) : Pass w ρ N w' ρ N :=
  ⟨by rw [h]; exact Nat.le_refl _, Nat.le_refl _, fun _ _ _ h => h, fun id _ h => .inl ⟨id, h⟩, fun _ _ _ => by rw [h], fun _ _ cs T fz _ _ hh => ⟨cs, T, fz, by rw [h]; exact hh, rfl⟩, ho, ht, hp⟩

theorem Quiet.mono {w w' : World} {ρ ρ' : Mp} {N N' L blk : Nat} {fr : Bool} (h : Quiet w ρ L fr blk) (k : Pass w ρ N w' ρ' N') : Quiet w' ρ' L fr blk :=
  ⟨Nat.lt_of_lt_of_le h.1 k.size, fun id hid => by
    rcases k.new id blk hid with ⟨j, hj⟩ | hj
    · exact h.2.1 j hj
    · have := h.1; omega, fun e => ⟨(h.2.2.1 e).1, by rw [k.cells blk h.1 h.2.1]; exact (h.2.2.1 e).2⟩, h.2.2.2⟩
theorem cell_eq {w w' : World} {blk off : Nat} (h : w'.heap[blk]? = w.heap[blk]?) : w'.cell? ⟨blk, off, none⟩ = w.cell? ⟨blk, off, none⟩ := by
  simp [World.cell?, h]
theorem Pass.cell {w w' : World} {ρ ρ' : Mp} {N N' L blk : Nat} {fr : Bool} (k : Pass w ρ N w' ρ' N') (h : Quiet w ρ L fr blk) (off : Nat) : w'.cell? ⟨blk, off, none⟩ = w.cell? ⟨blk, off, none⟩ :=
  cell_eq (k.cells blk h.1 h.2.1)
theorem Pass.roomy {w w' : World} {ρ ρ' : Mp} {N N' id blk need : Nat} (k : Pass w ρ N w' ρ' N') (hid : id < N) (hr : ρ' id = some blk) (h : Roomy w blk need) : Roomy w' blk need := by
  obtain ⟨cs, T, fz, h1, h2⟩ := h
  obtain ⟨cs', T', fz', h3, h4⟩ := k.shape id blk cs T fz hid hr h1
  exact ⟨cs', T', fz', h3, by omega⟩

theorem Sim.mono {w w' : World} {ρ ρ' : Mp} {N N' L : Nat} {a : AV} {v : Value} (h : Sim w ρ N L a v) (k : Pass w ρ N w' ρ' N') (_hL : L ≤ L) : Sim w' ρ' N' L a v := by
  induction h with
  | v h => exact .v h
  | i => exact .i
  | b => exact .b
  | s => exact .s
  | f h => exact .f h
  | c h1 h2 => exact .c h1 h2
  | ro0 h => exact .ro0 h
  | ro u hn hq hc _ ih => exact .ro u hn (hq.mono k) (fun i c hi hcc => by rw [k.cell hq]; exact hc i c hi hcc) ih
  | own hid hv =>
    refine .own (Nat.lt_of_lt_of_le hid k.len) fun blk hb => ?_
    obtain ⟨off, cap, h1, h2, h3, h4, h5⟩ := hv blk (k.old _ blk hid hb)
    exact ⟨off, cap, h1, h2, h3, h4, k.roomy hid hb h5⟩
  | ptr hid hv => exact .ptr (Nat.lt_of_lt_of_le hid k.len) fun blk hb => hv blk (k.old _ blk hid hb)
  | rptr u hq hc _ ih => exact .rptr u (hq.mono k) (fun c hcc => by rw [k.cell hq]; exact hc c hcc) ih
  | agg hl _ ih => exact .agg hl ih
  | tup hl _ ih => exact .tup hl ih
  | fn hl _ hm _ ih1 ih2 => exact .fn hl ih1 hm ih2
  | ifc => exact .ifc
  | on _ h2 ih => exact .on ih h2
  | dead => exact .dead

/-- What a block that is told holds. -/
structure BlkRel (w : World) (ρ : Mp) (N L : Nat) (fr : Bool) (B : Blk) (blk : Nat) (cs : Array Value) (T : TypeId) : Prop where
  here : w.heap[blk]? = some (.cells cs T (0, 0))
  fresh : fr = true → L ≤ blk
  cell : ∀ off a, B.At off a → ∃ u, cs[off]? = some u ∧ u.oneCell' = true ∧ Sim w ρ N L a u
structure Rel (w : World) (ρ : Mp) (L : Nat) (H : Heap) : Prop where
  live : ∀ id blk, ρ id = some blk → ∃ fr B cs T, H[id]? = some (some (fr, B)) ∧ BlkRel w ρ H.length L fr B blk cs T
  dom : ∀ id fr B, H[id]? = some (some (fr, B)) → ∃ blk, ρ id = some blk
  inj : ∀ id id' blk, ρ id = some blk → ρ id' = some blk → id = id'
  lore : LoreX w
  away : ∀ id blk, ρ id = some blk → loreG ≤ blk
  deep : loreG ≤ L
theorem Rel.lt {w : World} {ρ : Mp} {L : Nat} {H : Heap} (h : Rel w ρ L H) {id blk : Nat} (hr : ρ id = some blk) : id < H.length := by
  obtain ⟨fr, B, cs, T, hh, _⟩ := h.live id blk hr
  exact (List.getElem?_eq_some_iff.1 hh).1
theorem Rel.block_lt {w : World} {ρ : Mp} {L : Nat} {H : Heap} (h : Rel w ρ L H) {id blk : Nat} (hr : ρ id = some blk) : blk < w.heap.size := by
  obtain ⟨fr, B, cs, T, _, hb⟩ := h.live id blk hr
  exact (Array.getElem?_eq_some_iff.1 hb.here).1
theorem Rel.at_ {w : World} {ρ : Mp} {L : Nat} {H : Heap} (h : Rel w ρ L H) {id : Nat} {fr : Bool} {B : Blk} (hh : H[id]? = some (some (fr, B))) :
    ∃ blk cs T, ρ id = some blk ∧ BlkRel w ρ H.length L fr B blk cs T := by
  obtain ⟨blk, hr⟩ := h.dom id fr B hh
  obtain ⟨fr', B', cs, T, hh', hb⟩ := h.live id blk hr
  rw [hh] at hh'
  cases hh'
  exact ⟨blk, cs, T, hr, hb⟩
/-- Behind a step that turns no block that is told. -/
theorem Rel.same {w w' : World} {ρ : Mp} {L : Nat} {H : Heap} (h : Rel w ρ L H) (hw : w'.heap = w.heap) (ho : w'.os = w.os) (ht : w'.tape = w.tape) (hp : w'.output = w.output) : Rel w' ρ L H where
  live id blk hr := by
    obtain ⟨fr, B, cs, T, hh, hb⟩ := h.live id blk hr
    exact ⟨fr, B, cs, T, hh, by rw [hw]; exact hb.here, hb.fresh, fun off a hat => by
      obtain ⟨u, h1, h2, h3⟩ := hb.cell off a hat
      exact ⟨u, h1, h2, h3.mono (Pass.same ρ _ hw ho ht hp) (Nat.le_refl _)⟩⟩
  dom := h.dom
  inj := h.inj
  lore := lore_keep h.lore fun b _ => by rw [hw]
  away := h.away
  deep := h.deep

/-! ### The steps of the memory -/
def Mp.set (ρ : Mp) (id : Nat) (o : Option Nat) : Mp := fun j => if j = id then o else ρ j
theorem Mp.set_same (ρ : Mp) (id : Nat) (o : Option Nat) : ρ.set id o id = o := if_pos rfl
theorem Mp.set_other (ρ : Mp) {id j : Nat} (o : Option Nat) (h : j ≠ id) : ρ.set id o j = ρ j := if_neg h

/-- A new block. -/
theorem Pass.alloc {w : World} {ρ : Mp} {L : Nat} {H : Heap} (_h : Rel w ρ L H) (o : Obj) : Pass w ρ H.length (w.alloc o) (ρ.set H.length (some w.heap.size)) (H.length + 1) where
  size := by simp
  len := Nat.le_succ _
  old id blk hid hr := by rw [Mp.set_other _ _ (by omega)] at hr; exact hr
  new id blk hr := by
    by_cases e : id = H.length
    · subst e; rw [Mp.set_same] at hr; cases hr; exact .inr (Nat.le_refl _)
    · rw [Mp.set_other _ _ e] at hr; exact .inl ⟨id, hr⟩
  cells blk hb _ := heap_alloc_old w o blk hb
  shape id blk cs T fz hid hr hw := ⟨cs, T, fz, by rw [heap_alloc_old w o blk (Array.getElem?_eq_some_iff.1 hw).1]; exact hw, rfl⟩
  os := rfl
  tape := rfl
  output := rfl
theorem Rel.alloc {w : World} {ρ : Mp} {L : Nat} {H : Heap} (h : Rel w ρ L H) (hL : L ≤ w.heap.size) (fr : Bool) (cs : Array Value) (T : TypeId) (B : Blk)
    (hc : ∀ off a, B.At off a → ∃ u, cs[off]? = some u ∧ u.oneCell' = true ∧ Sim w ρ H.length L a u) :
    Rel (w.alloc (.cells cs T)) (ρ.set H.length (some w.heap.size)) L (H ++ [some (fr, B)]) := by
  have hp := Pass.alloc h (.cells cs T)
  have hlen : (H ++ [some (fr, B)]).length = H.length + 1 := by simp
  have haway : ∀ id blk, (ρ.set H.length (some w.heap.size)) id = some blk → loreG ≤ blk := fun id blk hr => by
    by_cases e : id = H.length
    · subst e; rw [Mp.set_same] at hr; cases hr; exact lore_big h.lore
    · rw [Mp.set_other _ _ e] at hr; exact h.away id blk hr
  refine ⟨?_, ?_, ?_, lore_keep h.lore fun b hb => heap_alloc_old w _ b (Nat.lt_of_lt_of_le hb (lore_big h.lore)), haway, h.deep⟩
  · intro id blk hr
    by_cases e : id = H.length
    · subst e
      rw [Mp.set_same] at hr
      cases hr
      refine ⟨fr, B, cs, T, by simp, heap_alloc_new w _, fun _ => hL, fun off a hat => ?_⟩
      obtain ⟨u, h1, h2, h3⟩ := hc off a hat
      exact ⟨u, h1, h2, by rw [hlen]; exact h3.mono hp (Nat.le_refl _)⟩
    · rw [Mp.set_other _ _ e] at hr
      obtain ⟨fr', B', cs', T', hh, hb⟩ := h.live id blk hr
      have hlt := (List.getElem?_eq_some_iff.1 hh).1
      refine ⟨fr', B', cs', T', by rw [List.getElem?_append_left hlt]; exact hh, ?_, hb.fresh, fun off a hat => ?_⟩
      · rw [heap_alloc_old w _ blk (h.block_lt hr)]; exact hb.here
      · obtain ⟨u, h1, h2, h3⟩ := hb.cell off a hat
        exact ⟨u, h1, h2, by rw [hlen]; exact h3.mono hp (Nat.le_refl _)⟩
  · intro id fr' B' hh
    by_cases e : id = H.length
    · exact ⟨_, by rw [e, Mp.set_same]⟩
    · have hlt : id < H.length := by
        have := (List.getElem?_eq_some_iff.1 hh).1
        simp at this; omega
      rw [List.getElem?_append_left hlt] at hh
      obtain ⟨blk, hr⟩ := h.dom id fr' B' hh
      exact ⟨blk, by rw [Mp.set_other _ _ e]; exact hr⟩
  · intro id id' blk h1 h2
    by_cases e : id = H.length
    · by_cases e' : id' = H.length
      · rw [e, e']
      · rw [e, Mp.set_same] at h1
        rw [Mp.set_other _ _ e'] at h2
        cases h1
        exact absurd (h.block_lt h2) (Nat.lt_irrefl _)
    · rw [Mp.set_other _ _ e] at h1
      by_cases e' : id' = H.length
      · rw [e', Mp.set_same] at h2
        cases h2
        exact absurd (h.block_lt h1) (Nat.lt_irrefl _)
      · rw [Mp.set_other _ _ e'] at h2
        exact h.inj id id' blk h1 h2

/-- A block is let go. -/
theorem Pass.kill (w : World) (ρ : Mp) (N id0 : Nat) : Pass w ρ N w (ρ.set id0 none) N where
  size := Nat.le_refl _
  len := Nat.le_refl _
  old id blk _ hr := by
    by_cases e : id = id0
    · subst e; rw [Mp.set_same] at hr; cases hr
    · rw [Mp.set_other _ _ e] at hr; exact hr
  new id blk hr := by
    by_cases e : id = id0
    · subst e; rw [Mp.set_same] at hr; cases hr
    · rw [Mp.set_other _ _ e] at hr; exact .inl ⟨id, hr⟩
  cells _ _ _ := rfl
  shape _ _ cs T fz _ _ h := ⟨cs, T, fz, h, rfl⟩
  os := rfl
  tape := rfl
  output := rfl
theorem Rel.kill {w : World} {ρ : Mp} {L : Nat} {H : Heap} (h : Rel w ρ L H) (id0 : Nat) : Rel w (ρ.set id0 none) L (H.set id0 none) := by
  have hlen : (H.set id0 none).length = H.length := by simp
  have haway : ∀ id blk, (ρ.set id0 none) id = some blk → loreG ≤ blk := fun id blk hr => by
    by_cases e : id = id0
    · subst e; rw [Mp.set_same] at hr; cases hr
    · rw [Mp.set_other _ _ e] at hr; exact h.away id blk hr
  refine ⟨?_, ?_, ?_, h.lore, haway, h.deep⟩
  · intro id blk hr
    by_cases e : id = id0
    · subst e; rw [Mp.set_same] at hr; cases hr
    · rw [Mp.set_other _ _ e] at hr
      obtain ⟨fr, B, cs, T, hh, hb⟩ := h.live id blk hr
      refine ⟨fr, B, cs, T, by rw [List.getElem?_set_ne (Ne.symm e)]; exact hh, hb.here, hb.fresh, fun off a hat => ?_⟩
      obtain ⟨u, h1, h2, h3⟩ := hb.cell off a hat
      exact ⟨u, h1, h2, by rw [hlen]; exact h3.mono (Pass.kill w ρ _ id0) (Nat.le_refl _)⟩
  · intro id fr B hh
    by_cases e : id = id0
    · subst e
      rw [List.getElem?_set_self' ] at hh
      cases hx : H[id]? <;> simp [hx] at hh
    · rw [List.getElem?_set_ne (Ne.symm e)] at hh
      obtain ⟨blk, hr⟩ := h.dom id fr B hh
      exact ⟨blk, by rw [Mp.set_other _ _ e]; exact hr⟩
  · intro id id' blk h1 h2
    by_cases e : id = id0
    · subst e; rw [Mp.set_same] at h1; cases h1
    · by_cases e' : id' = id0
      · subst e'; rw [Mp.set_same] at h2; cases h2
      · rw [Mp.set_other _ _ e] at h1; rw [Mp.set_other _ _ e'] at h2
        exact h.inj id id' blk h1 h2
/-- The cells of a block that is told are others. -/
theorem Pass.write {w w' : World} {ρ : Mp} (N : Nat) {blk id : Nat} (hr : ρ id = some blk) {cs cs' : Array Value} {T : TypeId}
    (hw : w.heap[blk]? = some (.cells cs T (0, 0))) (hw' : w'.heap[blk]? = some (.cells cs' T (0, 0))) (hs : cs'.size = cs.size) (hsz : w'.heap.size = w.heap.size)
    (ho : ∀ b, b ≠ blk → w'.heap[b]? = w.heap[b]?) (h1 : w'.os = w.os) (h2 : w'.tape = w.tape) (h3 : w'.output = w.output) : Pass w ρ N w' ρ N where
  size := Nat.le_of_eq hsz.symm
  len := Nat.le_refl _
  old _ _ _ h := h
  new id _ h := .inl ⟨id, h⟩
  cells b _ hn := ho b fun e => hn id (e ▸ hr)
  shape _ b ds T' fz' _ _ h := by
    by_cases e : b = blk
    · subst e
      rw [hw] at h
      cases h
      exact ⟨_, _, _, hw', hs⟩
    · exact ⟨ds, T', fz', by rw [ho b e]; exact h, rfl⟩
  os := h1
  tape := h2
  output := h3
theorem Rel.write {w w' : World} {ρ : Mp} {L : Nat} {H : Heap} (h : Rel w ρ L H) {blk id : Nat} (hr : ρ id = some blk) {cs cs' : Array Value} {T : TypeId}
    (hw : w.heap[blk]? = some (.cells cs T (0, 0))) (hw' : w'.heap[blk]? = some (.cells cs' T (0, 0))) (hs : cs'.size = cs.size) (hsz : w'.heap.size = w.heap.size)
    (ho : ∀ b, b ≠ blk → w'.heap[b]? = w.heap[b]?) (h1 : w'.os = w.os) (h2 : w'.tape = w.tape) (h3 : w'.output = w.output)
    {fr : Bool} {B B' : Blk} (hh : H[id]? = some (some (fr, B)))
    (hc : ∀ off a, B'.At off a → ∃ u, cs'[off]? = some u ∧ u.oneCell' = true ∧ Sim w ρ H.length L a u) : Rel w' ρ L (H.set id (some (fr, B'))) := by
  have hp : Pass w ρ H.length w' ρ H.length := Pass.write _ hr hw hw' hs hsz ho h1 h2 h3
  have hlen : (H.set id (some (fr, B'))).length = H.length := by simp
  have hlt := (List.getElem?_eq_some_iff.1 hh).1
  refine ⟨?_, ?_, h.inj, lore_keep h.lore fun b hb => ho b fun e => by have := h.away id blk hr; omega, h.away, h.deep⟩
  · intro id' blk' hr'
    by_cases e : id' = id
    · subst e
      have eb : blk' = blk := by rw [hr] at hr'; cases hr'; rfl
      subst eb
      obtain ⟨fr0, B0, cs0, T0, hh0, hb0⟩ := h.live _ _ hr
      rw [hh] at hh0; cases hh0
      have hhere := hb0.here
      rw [hw] at hhere; cases hhere
      refine ⟨fr, B', cs', T, by rw [List.getElem?_set_self hlt], hw', hb0.fresh, fun off a hat => ?_⟩
      obtain ⟨u, k1, k2, k3⟩ := hc off a hat
      exact ⟨u, k1, k2, by rw [hlen]; exact k3.mono hp (Nat.le_refl _)⟩
    · obtain ⟨fr0, B0, cs0, T0, hh0, hb0⟩ := h.live _ _ hr'
      refine ⟨fr0, B0, cs0, T0, by rw [List.getElem?_set_ne (Ne.symm e)]; exact hh0, ?_, hb0.fresh, fun off a hat => ?_⟩
      · rw [ho blk' fun eb => e (h.inj id' id blk' hr' (eb ▸ hr))]; exact hb0.here
      · obtain ⟨u, k1, k2, k3⟩ := hb0.cell off a hat
        exact ⟨u, k1, k2, by rw [hlen]; exact k3.mono hp (Nat.le_refl _)⟩
  · intro id' fr0 B0 hh0
    by_cases e : id' = id
    · subst e; exact ⟨blk, hr⟩
    · rw [List.getElem?_set_ne (Ne.symm e)] at hh0
      exact h.dom id' fr0 B0 hh0
/-- A block goes on under a new name. -/
theorem Rel.rename {w : World} {ρ : Mp} {L : Nat} {H : Heap} (h : Rel w ρ L H) {id0 blk : Nat} (hr : ρ id0 = some blk) {fr : Bool} {B : Blk} (hh : H[id0]? = some (some (fr, B))) :
    Rel w ((ρ.set id0 none).set H.length (some blk)) L (H.set id0 none ++ [some (fr, B)]) ∧ Pass w ρ H.length w ((ρ.set id0 none).set H.length (some blk)) (H.length + 1) := by
  have hlt := (List.getElem?_eq_some_iff.1 hh).1
  have hp : Pass w ρ H.length w ((ρ.set id0 none).set H.length (some blk)) (H.length + 1) := by
    refine ⟨Nat.le_refl _, Nat.le_succ _, ?_, ?_, fun _ _ _ => rfl, fun _ _ cs T fz _ _ h => ⟨cs, T, fz, h, rfl⟩, rfl, rfl, rfl⟩
    · intro id b hid hb
      rw [Mp.set_other _ _ (by omega)] at hb
      exact (Pass.kill w ρ H.length id0).old id b hid hb
    · intro id b hb
      by_cases e : id = H.length
      · rw [e, Mp.set_same] at hb; cases hb; exact .inl ⟨id0, hr⟩
      · rw [Mp.set_other _ _ e] at hb
        exact (Pass.kill w ρ H.length id0).new id b hb
  have haway : ∀ id b, ((ρ.set id0 none).set H.length (some blk)) id = some b → loreG ≤ b := fun id b hb => by
    by_cases e : id = H.length
    · rw [e, Mp.set_same] at hb; cases hb; exact h.away id0 _ hr
    · rw [Mp.set_other _ _ e] at hb; exact (h.kill id0).away id b hb
  refine ⟨⟨?_, ?_, ?_, h.lore, haway, h.deep⟩, hp⟩
  · have hlen : (H.set id0 none ++ [some (fr, B)]).length = H.length + 1 := by simp
    intro id b hb
    by_cases e : id = H.length
    · rw [e, Mp.set_same] at hb; cases hb
      obtain ⟨fr0, B0, cs, T, hh0, hb0⟩ := h.live id0 blk hr
      rw [hh] at hh0; cases hh0
      refine ⟨fr, B, cs, T, by rw [e]; simp, hb0.here, hb0.fresh, fun off a hat => ?_⟩
      obtain ⟨u, k1, k2, k3⟩ := hb0.cell off a hat
      exact ⟨u, k1, k2, by rw [hlen]; exact k3.mono hp (Nat.le_refl _)⟩
    · rw [Mp.set_other _ _ e] at hb
      have hb' := hb
      have hne : id ≠ id0 := by intro e'; subst e'; rw [Mp.set_same] at hb; cases hb
      rw [Mp.set_other _ _ hne] at hb'
      obtain ⟨fr0, B0, cs, T, hh0, hb0⟩ := h.live id b hb'
      have hl := (List.getElem?_eq_some_iff.1 hh0).1
      refine ⟨fr0, B0, cs, T, ?_, hb0.here, hb0.fresh, fun off a hat => ?_⟩
      · rw [List.getElem?_append_left (by simpa using hl), List.getElem?_set_ne (Ne.symm hne)]; exact hh0
      · obtain ⟨u, k1, k2, k3⟩ := hb0.cell off a hat
        exact ⟨u, k1, k2, by rw [hlen]; exact k3.mono hp (Nat.le_refl _)⟩
  · intro id fr0 B0 hh0
    by_cases e : id = H.length
    · exact ⟨blk, by rw [e, Mp.set_same]⟩
    · have hl : id < H.length := by
        have := (List.getElem?_eq_some_iff.1 hh0).1
        simp at this; omega
      rw [List.getElem?_append_left (by simpa using hl)] at hh0
      obtain ⟨b, hb⟩ := (h.kill id0).dom id fr0 B0 hh0
      exact ⟨b, by rw [Mp.set_other _ _ e]; exact hb⟩
  · intro id id' b h1 h2
    by_cases e : id = H.length
    · by_cases e' : id' = H.length
      · rw [e, e']
      · rw [e, Mp.set_same] at h1; cases h1
        rw [Mp.set_other _ _ e'] at h2
        have hne : id' ≠ id0 := by intro e2; subst e2; rw [Mp.set_same] at h2; cases h2
        rw [Mp.set_other _ _ hne] at h2
        exact absurd (h.inj id' id0 blk h2 hr) hne
    · rw [Mp.set_other _ _ e] at h1
      by_cases e' : id' = H.length
      · rw [e', Mp.set_same] at h2; cases h2
        have hne : id ≠ id0 := by intro e2; subst e2; rw [Mp.set_same] at h1; cases h1
        rw [Mp.set_other _ _ hne] at h1
        exact absurd (h.inj id id0 blk h1 hr) hne
      · rw [Mp.set_other _ _ e'] at h2
        exact (h.kill id0).inj id id' b h1 h2
end Go.Aw
