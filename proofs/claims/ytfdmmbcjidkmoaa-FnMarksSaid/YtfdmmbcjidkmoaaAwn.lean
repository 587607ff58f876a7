/- Functions that neither take nor give names: a table of what they answer; whole code run by the evaluator, with stops where it cannot go on. -/
import Derived.Test.YtfdmmbcjidkmoaaAwm
import Derived.Orders
namespace Go.Aw

/-! ### Values without names -/
/-- No names. -/
inductive Free : AV → Prop
  | v {x : Value} : Free (.v x)
  | i {k : IntKind} {n : Th Int} : Free (.i k n)
  | b {p : Th Bool} : Free (.b p)
  | s {x : Th ByteArray} : Free (.s x)
  | f {k : FloatKind} {x : Th Nat} : Free (.f k x)
  | c {k : FloatKind} {x y : Th Nat} : Free (.c k x y)
  | ro {fr : Bool} {n : Th Nat} {sz : Nat} {g : Th Nat → Nat → AV} : (∀ i c, i < n .u → c < sz → Free (g (fun _ => i) c)) → Free (.ro fr n sz g)
  | rptr {fr : Bool} {m : Nat} {g : Nat → AV} : (∀ c, c < m → Free (g c)) → Free (.rptr fr m g)
  | agg {l : List AV} : (∀ a ∈ l, Free a) → Free (.agg l)
  | tup {l : List AV} : (∀ a ∈ l, Free a) → Free (.tup l)
  | fn {f : Fn} {l m : List AV} : (∀ a ∈ l, Free a) → (∀ a ∈ m, Free a) → Free (.fn f l m)
  | ifc : Free .ifc
  | on {b : Th Bool} {a : AV} : Free a → Free (.on b a)
  | dead : Free .dead
mutual
/-- As a callee sees it: nothing of what is only read is new. -/
def unfr : AV → AV
  | .ro _ n sz g => .ro false n sz fun i c => unfr (g i c)
  | .rptr _ k g => .rptr false k fun c => unfr (g c)
  | .agg l => .agg (unfrL l)
  | .tup l => .tup (unfrL l)
  | .fn f l k => .fn f (unfrL l) (unfrL k)
  | .on b a => .on b (unfr a)
  | .own id i n sz => .own id i n sz
  | .ptr id i sz c => .ptr id i sz c
  | .v x => .v x
  | .i k n => .i k n
  | .b p => .b p
  | .s x => .s x
  | .f k x => .f k x
  | .c k x y => .c k x y
  | .ifc => .ifc
  | .dead => .dead
def unfrL : List AV → List AV
  | [] => []
  | a :: l => unfr a :: unfrL l
end
theorem unfrL_map (l : List AV) : unfrL l = l.map unfr := by
  induction l with
  | nil => simp [unfrL]
  | cons a l ih => simp [unfrL, ih]
section
variable {H H' : Heap} {σ : List Nat}
theorem allTo_map {keep : Bool} {l : List AV} {f : AV → AV} (h : ∀ a ∈ l, AvTo H H' σ keep a (f a)) : AllTo H H' σ keep l (l.map f) := by
  induction l with
  | nil => trivial
  | cons a l ih => exact ⟨h a (by simp), ih fun x hx => h x (by simp [hx])⟩
theorem Free.to {a : AV} (h : Free a) : AvTo H H' σ false a (unfr a) := by
  induction h with
  | v => simp only [unfr]; exact .v _
  | i => simp only [unfr]; exact .i rfl
  | b => simp only [unfr]; exact .b rfl
  | s => simp only [unfr]; exact .s rfl
  | f => simp only [unfr]; exact .f rfl
  | c => simp only [unfr]; exact .c rfl rfl
  | ro _ ih => simp only [unfr]; exact .ro rfl .call fun i c hi hc => ih i c hi hc
  | rptr _ ih => simp only [unfr]; exact .rptr .call fun c hc => ih c hc
  | agg _ ih => simp only [unfr, unfrL_map]; exact .agg (allTo_map ih)
  | tup _ ih => simp only [unfr, unfrL_map]; exact .tup (allTo_map ih)
  | fn _ _ ih1 ih2 => simp only [unfr, unfrL_map]; exact .fn (allTo_map ih1) (allTo_map ih2)
  | ifc => simp only [unfr]; exact .ifc
  | on _ ih => simp only [unfr]; exact .on rfl ih
  | dead => simp only [unfr]; exact .dead _
end
/-! ### New memory that nobody is told of is overwritten -/
mutual
/-- What is left of what is told: of what is only read in new memory the shape alone. -/
def kill : AV → AV
  | .ro true n sz _ => .ro true n sz fun _ _ => .dead
  | .ro false n sz g => .ro false n sz fun i c => kill (g i c)
  | .rptr true k _ => .rptr true k fun _ => .dead
  | .rptr false k g => .rptr false k fun c => kill (g c)
  | .agg l => .agg (killL l)
  | .tup l => .tup (killL l)
  | .fn f l k => .fn f (killL l) (killL k)
  | .on b a => .on b (kill a)
  | .own id i n sz => .own id i n sz
  | .ptr id i sz c => .ptr id i sz c
  | .v x => .v x
  | .i k n => .i k n
  | .b p => .b p
  | .s x => .s x
  | .f k x => .f k x
  | .c k x y => .c k x y
  | .ifc => .ifc
  | .dead => .dead
def killL : List AV → List AV
  | [] => []
  | a :: l => kill a :: killL l
end
theorem killL_map (l : List AV) : killL l = l.map kill := by
  induction l with
  | nil => simp only [killL, List.map_nil]
  | cons a l ih => simp only [killL, ih, List.map_cons]
def killB : Blk → Blk
  | .box l => .box (killL l)
  | .tab n sz g => .tab n sz fun i c => kill (g i c)
def killE : Option (Bool × Blk) → Option (Bool × Blk)
  | some (fr, B) => some (fr, killB B)
  | none => none
def killH : Heap → Heap
  | [] => []
  | e :: H => killE e :: killH H
theorem killH_map (H : Heap) : killH H = H.map killE := by
  induction H with
  | nil => rfl
  | cons a l ih => simp only [killH, ih, List.map_cons]
structure Scrib (w : World) (ρ : Mp) (L : Nat) (w' : World) : Prop where
  size : w'.heap.size = w.heap.size
  cells : ∀ blk, blk < L ∨ (∃ id, ρ id = some blk) → w'.heap[blk]? = w.heap[blk]?
  shape : ∀ (blk : Nat) (cs : Array Value) (T : TypeId), w.heap[blk]? = some (Obj.cells cs T (0, 0)) → ∃ cs' : Array Value, w'.heap[blk]? = some (Obj.cells cs' T (0, 0)) ∧ ∀ (off : Nat) (u : Value), cs[off]? = some u → u.oneCell' = true → ∃ u', cs'[off]? = some u' ∧ u'.oneCell' = true
  os : w'.os = w.os
  tape : w'.tape = w.tape
  output : w'.output = w.output
theorem Scrib.new {w w' : World} {ρ : Mp} {L blk : Nat} (k : Scrib w ρ L w') (hq : Quiet w ρ L true blk) : Quiet w' ρ L true blk ∧ ∀ (off : Nat) (u : Value), w.cell? ⟨blk, off, none⟩ = some u → u.oneCell' = true → w'.cell? ⟨blk, off, none⟩ = some ((w'.cell? ⟨blk, off, none⟩).getD undef) ∧ ((w'.cell? ⟨blk, off, none⟩).getD undef).oneCell' = true := by
  obtain ⟨q1, q2, q3, q4⟩ := hq
  obtain ⟨hL, cs, T, hcs⟩ := q3 rfl
  obtain ⟨cs', hcs', h1⟩ := k.shape blk cs T hcs
  refine ⟨⟨by rw [k.size]; exact q1, q2, fun _ => ⟨hL, cs', T, hcs'⟩, fun e => absurd e (by simp)⟩, fun off u hu ho => ?_⟩
  simp only [World.cell?, hcs, Option.isSome_none, Bool.false_eq_true, if_false] at hu
  obtain ⟨u', hu', ho'⟩ := h1 off u hu ho
  simp only [World.cell?, hcs', Option.isSome_none, Bool.false_eq_true, if_false, hu', Option.getD_some]
  exact ⟨trivial, ho'⟩
theorem Sim.kill {w w' : World} {ρ : Mp} {N L : Nat} {a : AV} {v : Value} (h : Sim w ρ N L a v) (k : Scrib w ρ L w') : Sim w' ρ N L (kill a) v := by
  have old : ∀ blk, Quiet w ρ L false blk → Quiet w' ρ L false blk ∧ w'.heap[blk]? = w.heap[blk]? := fun blk hq =>
    ⟨⟨by rw [k.size]; exact hq.1, hq.2.1, fun e => absurd e (by simp), hq.2.2.2⟩, k.cells blk (.inl (hq.2.2.2 rfl))⟩
  induction h with
  | v h => simp only [Aw.kill]; exact .v h
  | i => simp only [Aw.kill]; exact .i
  | b => simp only [Aw.kill]; exact .b
  | s => simp only [Aw.kill]; exact .s
  | f h => simp only [Aw.kill]; exact .f h
  | c h1 h2 => simp only [Aw.kill]; exact .c h1 h2
  | @ro0 fr _ _ _ _ _ h =>
    cases fr
    · simp only [Aw.kill]; exact .ro0 h
    · simp only [Aw.kill]; exact .ro0 h
  | @ro fr _ _ _ _ _ _ u hn hq hc hs ih =>
    cases fr
    · simp only [Aw.kill]
      obtain ⟨q1, q2⟩ := old _ hq
      exact .ro u hn q1 (fun i c hi hcc => by rw [cell_eq q2]; exact hc i c hi hcc) fun i c hi hcc => ih i c hi hcc
    · simp only [Aw.kill]
      obtain ⟨q1, q2⟩ := k.new hq
      exact .ro _ hn q1 (fun i c hi hcc => q2 _ _ (hc i c hi hcc).1 (hc i c hi hcc).2) fun _ _ _ _ => .dead
  | own hid hv =>
    simp only [Aw.kill]
    refine .own hid fun blk hb => ?_
    obtain ⟨off, cap, e, h1, h2, h3, cs, T, fz, h4, h5⟩ := hv blk hb
    exact ⟨off, cap, e, h1, h2, h3, cs, T, fz, by rw [k.cells blk (.inr ⟨_, hb⟩)]; exact h4, h5⟩
  | ptr hid hv => simp only [Aw.kill]; exact .ptr hid hv
  | @rptr fr _ _ _ _ u hq hc hs ih =>
    cases fr
    · simp only [Aw.kill]
      obtain ⟨q1, q2⟩ := old _ hq
      exact .rptr u q1 (fun c hcc => by rw [cell_eq q2]; exact hc c hcc) fun c hcc => ih c hcc
    · simp only [Aw.kill]
      obtain ⟨q1, q2⟩ := k.new hq
      exact .rptr _ q1 (fun c hcc => q2 _ _ (hc c hcc).1 (hc c hcc).2) fun _ _ => .dead
  | agg hl hs ih =>
    simp only [Aw.kill, killL_map]
    refine .agg (by simpa using hl) fun j a u ha hu => ?_
    rw [List.getElem?_map, Option.map_eq_some_iff] at ha
    obtain ⟨b, hb, rfl⟩ := ha
    exact ih j b u hb hu
  | tup hl hs ih =>
    simp only [Aw.kill, killL_map]
    refine .tup (by simpa using hl) fun j a u ha hu => ?_
    rw [List.getElem?_map, Option.map_eq_some_iff] at ha
    obtain ⟨b, hb, rfl⟩ := ha
    exact ih j b u hb hu
  | fn h1 h2 h3 h4 ih1 ih2 =>
    simp only [Aw.kill, killL_map]
    refine .fn (by simpa using h1) (fun j a u ha hu => ?_) (by simpa using h3) fun j a u ha hu => ?_
    · rw [List.getElem?_map, Option.map_eq_some_iff] at ha
      obtain ⟨b, hb, rfl⟩ := ha
      exact ih1 j b u hb hu
    · rw [List.getElem?_map, Option.map_eq_some_iff] at ha
      obtain ⟨b, hb, rfl⟩ := ha
      exact ih2 j b u hb hu
  | ifc => simp only [Aw.kill]; exact .ifc
  | on h1 h2 ih => simp only [Aw.kill]; exact .on (fun e => ih e) h2
  | dead => simp only [Aw.kill]; exact .dead
theorem killB_at {B : Blk} {off : Nat} {a' : AV} (h : (killB B).At off a') : ∃ a, B.At off a ∧ a' = kill a := by
  cases B with
  | box l =>
    simp only [killB, killL_map] at h
    cases h with
    | box h =>
      rw [List.getElem?_map, Option.map_eq_some_iff] at h
      obtain ⟨a, ha, rfl⟩ := h
      exact ⟨a, .box ha, rfl⟩
  | tab n sz g =>
    simp only [killB] at h
    cases h with | tab i c hi hc => exact ⟨_, .tab i c hi hc, rfl⟩
theorem Rel.scrib {w w' : World} {ρ : Mp} {L : Nat} {H : Heap} (h : Rel w ρ L H) (k : Scrib w ρ L w') : Rel w' ρ L (killH H) where
  live id blk hr := by
    obtain ⟨fr, B, cs, T, h1, h2⟩ := h.live id blk hr
    refine ⟨fr, killB B, cs, T, by rw [killH_map, List.getElem?_map, h1]; rfl, ?_, h2.fresh, fun off a ha => ?_⟩
    · rw [k.cells blk (.inr ⟨id, hr⟩)]; exact h2.here
    · obtain ⟨b, hb, rfl⟩ := killB_at ha
      obtain ⟨u, u1, u2, u3⟩ := h2.cell off b hb
      refine ⟨u, u1, u2, ?_⟩
      have : (killH H).length = H.length := by rw [killH_map, List.length_map]
      rw [this]
      exact u3.kill k
  dom id fr B hh := by
    rw [killH_map, List.getElem?_map, Option.map_eq_some_iff] at hh
    obtain ⟨e, he, hee⟩ := hh
    match e, hee with
    | some (fr', B'), _ => exact h.dom id fr' B' he
  inj := h.inj
  lore := lore_keep h.lore fun b hb => k.cells b (.inl (Nat.lt_of_lt_of_le hb h.deep))
  away := h.away
  deep := h.deep
theorem killH_length (H : Heap) : (killH H).length = H.length := by rw [killH_map, List.length_map]
theorem St.scrib {w0 : World} {ρ0 ρ : Mp} {N0 : Nat} {env : List AV} {H : Heap} {a : Act} {w w' : World} (s : St w0 ρ0 N0 ρ env H a w) (k : Scrib w ρ w0.heap.size w') : St w0 ρ0 N0 ρ (killL env) (killH H) a w' := by
  refine ⟨s.defers, ⟨by rw [killL_map, List.length_map]; exact s.env.len, fun t x v hx hv => ?_⟩, s.rel.scrib k, ?_⟩
  · rw [killL_map, List.getElem?_map, Option.map_eq_some_iff] at hx
    obtain ⟨b, hb, rfl⟩ := hx
    rw [killH_length]
    exact (s.env.at_ t b v hb hv).kill k
  · rw [killH_length]
    refine ⟨by rw [k.size]; exact s.pass.size, s.pass.len, s.pass.old, s.pass.new, fun blk hb hn => ?_, fun id blk cs T fz hid hr hw => ?_, k.os.trans s.pass.os, k.tape.trans s.pass.tape, k.output.trans s.pass.output⟩
    · rw [k.cells blk (.inl hb)]; exact s.pass.cells blk hb hn
    · rw [k.cells blk (.inr ⟨id, hr⟩)]; exact s.pass.shape id blk cs T fz hid hr hw
/-! ### The table -/
/-- Reads only: the answer, the memory that is new, what has to hold. -/
abbrev Kr := List AV → Option (AV × Heap × Th Prop)
/-- Writes the block of its first argument, which is a slice of it: the answer, the block behind it, what has to hold. -/
abbrev Km := (i n : Th Nat) → (sz : Nat) → List AV → Blk → Option (AV × Blk × Th Prop)
/-- What a function answers: by cases. -/
inductive Ans where
  | one (r : AV) (H' : Heap) (p : Th Prop)
  | two (b : Th Bool) (y n : Ans)
/-- Of arguments and blocks that are handed over, as the function sees them. -/
abbrev Kg := List AV → Heap → Option Ans
/-- One without a body that turns no memory. -/
abbrev Kx := List AV → Option (AV × Th Prop)
/-- One that writes new memory that nobody is told of: the answer, what has to hold. -/
abbrev Ks := List AV → Heap → Option (AV × Th Prop)
inductive KC where
  | r (k : Kr)
  | m (k : Km) (k0 : Kr)
  | x (k : Kx)
  | g (take : Nat) (k : Kg)
  | s (k : Ks)
abbrev CT := List (FuncId × KC)
def CT.find : CT → FuncId → Option KC
  | [], _ => none
  | (f, k) :: l, g => match Nat.beq f g with
    | true => some k
    | false => CT.find l g
def unfrB : Blk → Blk
  | .box l => .box (unfrL l)
  | .tab n sz g => .tab n sz fun i c => unfr (g i c)
def FrB (B : Blk) : Prop := ∀ off a, B.At off a → AllFr a
def FrH (H : Heap) : Prop := ∀ (j : Nat) (fr : Bool) (B : Blk), H[j]? = some (some (fr, B)) → FrB B
def FreeB (B : Blk) : Prop := ∀ off a, B.At off a → Free a
def AnsOk (P : Program) (f : FuncId) (args : List AV) (Hc : Heap) : Ans → Prop
  | .one r H' p => p .u → AllFr r ∧ FrH H' ∧ Con P f args Hc r H'
  | .two b y n => (b .u = true → AnsOk P f args Hc y) ∧ (b .u = false → AnsOk P f args Hc n)
/-- What one function answers. -/
def Tells (P : Program) (f : FuncId) : KC → Prop
  | .r k => ∀ args r H' p, k args = some (r, H', p) → p .u → AllFr r ∧ FrH H' ∧ Con P f (unfrL args) [] r H'
  | .m k k0 => (∀ args r H' p, k0 args = some (r, H', p) → p .u → AllFr r ∧ FrH H' ∧ Con P f (unfrL args) [] r H') ∧ ∀ i n sz args B r B' p, k i n sz args B = some (r, B', p) → p .u → AllFr r ∧ FrB B' ∧ Con P f (.own 0 i n sz :: unfrL args) [some (false, unfrB B)] r [some (false, B')]
  | .x k => ∀ args r p, k args = some (r, p) → p .u → ∀ (w : World) (ρ : Mp) (L : Nat) (H : Heap) (vals : Array Value), Rel w ρ L H → args.length = vals.size →
      (∀ (j : Nat) (x : AV) (v : Value), args[j]? = some x → vals[j]? = some v → Sim w ρ H.length L x v) → Does P (callFunc f vals) w ρ L H r H
  | .g _ k => ∀ args Hc a, k args Hc = some a → AnsOk P f args Hc a
  | .s k => ∀ args H r p, k args H = some (r, p) → p .u → Enters P f ∧ ∀ (w : World) (ρ : Mp) (L : Nat) (vals : Array Value), Rel w ρ L H → args.length = vals.size →
      (∀ (j : Nat) (x : AV) (v : Value), args[j]? = some x → vals[j]? = some v → Sim w ρ H.length L x v) → Calls P f vals w fun e w' => ∃ v, e = .returned v ∧ Scrib w ρ L w' ∧ ∀ (w' : World) (ρ : Mp) (N L : Nat), Sim w' ρ N L r v
def CTok (P : Program) (ct : CT) : Prop := P.follows .mixedOrders = true ∧ ∀ f k, ct.find f = some k → Tells P f k
theorem CTok.nil (P : Program) (h : P.follows .mixedOrders = true := by rfl) : CTok P [] := ⟨h, fun _ _ h => by cases h⟩
theorem CTok.cons {P : Program} {ct : CT} {f : FuncId} {k : KC} (h : Tells P f k) (hs : CTok P ct) : CTok P ((f, k) :: ct) := by
  refine ⟨hs.1, fun g k' hk => ?_⟩
  simp only [CT.find] at hk
  split at hk
  · rename_i e
    cases hk
    rw [Nat.beq_eq] at e
    exact e ▸ h
  · exact hs.2 g k' hk
theorem FrH.nil : FrH [] := fun j fr B h => by simp at h
theorem FrH.cons {e : Option (Bool × Blk)} {H : Heap} (h : ∀ fr B, e = some (fr, B) → FrB B) (hs : FrH H) : FrH (e :: H) := by
  intro j fr B hj
  cases j with
  | zero => simp only [List.getElem?_cons_zero, Option.some.injEq] at hj; exact h fr B hj
  | succ j => exact hs j fr B (by simpa using hj)
theorem FrB.tab {n : Th Nat} {sz : Nat} {g : Th Nat → Nat → AV} (h : ∀ i c, i < n .u → c < sz → AllFr (g (fun _ => i) c)) : FrB (.tab n sz g) := by
  intro off a ha
  cases ha with | tab i c hi hc => exact h i c hi hc
def AllFree : List AV → Prop
  | [] => True
  | a :: l => Free a ∧ AllFree l
theorem AllFree.mem : ∀ {l : List AV}, AllFree l → ∀ a ∈ l, Free a := by
  intro l
  induction l with
  | nil => intro _ a h; cases h
  | cons x l ih =>
    intro h a ha
    rcases List.mem_cons.1 ha with rfl | ha
    · exact h.1
    · exact ih h.2 a ha
theorem getD_free {l : List AV} (h : AllFree l) (j : Nat) : Free (l.getD j .dead) := by
  rw [List.getD_eq_getElem?_getD]
  cases hj : l[j]? with
  | none => exact .dead
  | some a => exact h.mem a (List.mem_of_getElem? hj)
/-- What stands in a box, as one that is only read: a list of one's own too, where it is not handed over. -/
def acell (H : Heap) (σ : List Nat) : AV → AV × Th Prop
  | .own id i n sz => match σ.any (Nat.beq id) with
    | true => (.dead, fun _ => True)
    | false => match H[id]? with
      | some (some (_, .tab m sz' g)) => match Nat.beq sz sz' with
        | true => (.ro false n sz fun j c => g (fun _ => i .u + j .u) c, fun _ => i .u + n .u ≤ m .u ∧ ∀ j c, j < n .u → c < sz → Free (g (fun _ => i .u + j) c))
        | false => (.dead, fun _ => True)
      | _ => (.dead, fun _ => True)
  | .ro fr n sz g => (.ro fr n sz g, fun _ => Free (.ro fr n sz g))
  | .rptr fr m g => (.rptr fr m g, fun _ => Free (.rptr fr m g))
  | .agg l => (.agg l, fun _ => Free (.agg l))
  | .fn f l m => (.fn f l m, fun _ => Free (.fn f l m))
  | .tup l => (.tup l, fun _ => Free (.tup l))
  | .v x => (.v x, fun _ => True)
  | .i k n => (.i k n, fun _ => True)
  | .b p => (.b p, fun _ => True)
  | .s x => (.s x, fun _ => True)
  | .f k x => (.f k x, fun _ => True)
  | .c k x y => (.c k x y, fun _ => True)
  | .ifc => (.ifc, fun _ => True)
  | _ => (.dead, fun _ => True)
def acells (H : Heap) (σ : List Nat) : List AV → List AV × Th Prop
  | [] => ([], fun _ => True)
  | a :: l => match acell H σ a, acells H σ l with
    | (x, p), (y, q) => (x :: y, fun _ => p .u ∧ q .u)
def aviewP (H : Heap) (σ : List Nat) (id : Nat) (i : Th Nat) (c : Nat) : AV × Th Prop :=
  match H[id]? with
  | some (some (_, .box l)) => match acells H σ l with
    | (l', q) => (.rptr false (l'.length - c) (fun j => l'.getD (c + j) .dead), fun _ => i .u = 0 ∧ c ≤ l'.length ∧ q .u)
  | _ => (.dead, fun _ => True)
theorem acell_to {H Hc : Heap} {σ : List Nat} : ∀ {a : AV}, (acell H σ a).2 .u → AvTo H Hc σ false a (unfr (acell H σ a).1) := by
  intro a h
  cases a with
  | own id i n sz =>
    simp only [acell] at h ⊢
    split at h
    · rename_i hs
      simp only [unfr]; exact .dead _
    · rename_i hs
      split at h
      · rename_i fr m sz' g hH
        split at h
        · rename_i e
          obtain rfl := Nat.beq_eq.mp e
          simp only [unfr]
          refine AvTo.view hH h.1 (fun j hj e' => ?_) rfl .call fun j c hj hc => Free.to (h.2 j c hj hc)
          have hm := List.mem_of_getElem? e'
          have := List.any_eq_false.1 hs id hm
          simp at this
        · simp only [unfr]; exact .dead _
      · simp only [unfr]; exact .dead _
  | ro => exact Free.to h
  | rptr => exact Free.to h
  | agg => exact Free.to h
  | fn => exact Free.to h
  | tup => exact Free.to h
  | v => exact Free.to .v
  | i => exact Free.to .i
  | b => exact Free.to .b
  | s => exact Free.to .s
  | f => exact Free.to .f
  | c => exact Free.to .c
  | ifc => exact Free.to .ifc
  | _ => simp only [acell, unfr]; exact .dead _
theorem acells_len {H : Heap} {σ : List Nat} : ∀ (l : List AV), (acells H σ l).1.length = l.length := by
  intro l
  induction l with
  | nil => rfl
  | cons a l ih => simp only [acells, List.length_cons, ih]
theorem acells_to {H Hc : Heap} {σ : List Nat} : ∀ (l : List AV), (acells H σ l).2 .u → ∀ j, AvTo H Hc σ false (l.getD j .dead) (unfr ((acells H σ l).1.getD j .dead)) := by
  intro l
  induction l with
  | nil => intro _ j; simp only [acells, List.getD_nil, unfr]; exact .dead _
  | cons a l ih =>
    intro h j
    simp only [acells] at h ⊢
    cases j with
    | zero => simp only [List.getD_cons_zero]; exact acell_to h.1
    | succ j => simp only [List.getD_cons_succ]; exact ih h.2 j
mutual
/-- An argument, as one that is only read. -/
def aview (H : Heap) (a : AV) : AV × Th Prop :=
  match a with
  | .own id i n sz => match H[id]? with
    | some (some (_, .tab m sz' g)) => if sz = sz' then (.ro false n sz fun j c => g (fun _ => i .u + j .u) c, fun _ => i .u + n .u ≤ m .u ∧ ∀ j c, j < n .u → c < sz → Free (g (fun _ => i .u + j) c)) else (.dead, fun _ => True)
    | _ => (.dead, fun _ => True)
  | .ro fr n sz g => (.ro fr n sz g, fun _ => Free (.ro fr n sz g))
  | .rptr fr m g => (.rptr fr m g, fun _ => Free (.rptr fr m g))
  | .ptr id i _ c => aviewP H [] id i c
  | .agg l => match aviews H l with
    | (y, q) => (.agg y, q)
  | .fn f l m => match aviews H l, aviews H m with
    | (x, p), (y, q) => (.fn f x y, fun _ => p .u ∧ q .u)
  | .tup l => (.tup l, fun _ => Free (.tup l))
  | .v x => (.v x, fun _ => True)
  | .i k n => (.i k n, fun _ => True)
  | .b p => (.b p, fun _ => True)
  | .s x => (.s x, fun _ => True)
  | .f k x => (.f k x, fun _ => True)
  | .c k x y => (.c k x y, fun _ => True)
  | .ifc => (.ifc, fun _ => True)
  | _ => (.dead, fun _ => True)
def aviews (H : Heap) : List AV → List AV × Th Prop
  | [] => ([], fun _ => True)
  | a :: l => match aview H a, aviews H l with
    | (x, p), (y, q) => (x :: y, fun _ => p .u ∧ q .u)
end
theorem aview_own {H : Heap} {id : Nat} {i n : Th Nat} {sz : Nat} (h : (aview H (.own id i n sz)).2 .u) : AvTo H [] [] false (.own id i n sz) (unfr (aview H (.own id i n sz)).1) := by
  simp only [aview] at h ⊢
  split at h
  · rename_i fr m sz' g hH
    split at h
    · rename_i e
      subst e
      rw [if_pos rfl]
      simp only [unfr]
      refine AvTo.view hH h.1 (fun j hj => by simp [live] at hj) rfl .call fun j c hj hc => Free.to (h.2 j c hj hc)
    · rename_i e
      rw [if_neg e]
      simp only [unfr]
      exact .dead _
  · simp only [unfr]; exact .dead _
theorem aviewP_to {H Hc : Heap} {σ : List Nat} {id : Nat} {i : Th Nat} {sz c : Nat} (hno : Left Hc σ id) (h : (aviewP H σ id i c).2 .u) : AvTo H Hc σ false (.ptr id i sz c) (unfr (aviewP H σ id i c).1) := by
  unfold aviewP at h ⊢
  split at h
  · rename_i fr l hH
    simp only [unfr] at h ⊢
    have hl := acells_len (H := H) (σ := σ) l
    exact AvTo.viewBox h.1 hH hno .call (by have := h.2.1; omega) fun j _ => acells_to l h.2.2 _
  · simp only [unfr]; exact .dead _
mutual
theorem aview_to (H : Heap) : ∀ (a : AV), (aview H a).2 .u → AvTo H [] [] false a (unfr (aview H a).1)
  | .own _ _ _ _, h => aview_own h
  | .agg l, h => by
    simp only [aview, unfr] at h ⊢
    exact .agg (aviews_to H l h)
  | .ro .., h => Free.to h
  | .rptr .., h => Free.to h
  | .fn f l m, h => by
    simp only [aview, unfr] at h ⊢
    exact .fn (aviews_to H l h.1) (aviews_to H m h.2)
  | .tup .., h => Free.to h
  | .v _, _ => Free.to .v
  | .i .., _ => Free.to .i
  | .b _, _ => Free.to .b
  | .s _, _ => Free.to .s
  | .f .., _ => Free.to .f
  | .c .., _ => Free.to .c
  | .ifc, _ => Free.to .ifc
  | .ptr .., h => by
    simp only [aview] at h ⊢
    exact aviewP_to (fun j hj => by simp [live] at hj) h
  | .on .., _ => by simp only [aview, unfr]; exact .dead _
  | .dead, _ => by simp only [aview, unfr]; exact .dead _
theorem aviews_to (H : Heap) : ∀ (l : List AV), (aviews H l).2 .u → AllTo H [] [] false l (unfrL (aviews H l).1)
  | [], _ => by simp only [aviews, unfrL]; trivial
  | a :: l, h => by
    simp only [aviews, unfrL] at h ⊢
    exact ⟨aview_to H a h.1, aviews_to H l h.2⟩
end
/-- What the operation calls: the function, what it answers, the arguments. -/
def acallee (ct : CT) (ev : Operand → AV) (op : Op) : Option (KC × List AV) :=
  match op with
  | .call { callee := .value fop, args, argTypes := _ } => match ev fop with
    | .fn (.func f) fst cap => match ct.find f with
      | some k => some (k, fst ++ args.toList.map ev ++ cap)
      | none => none
    | _ => none
  | _ => none
def acallR (H : Heap) (k : Kr) (args : List AV) : Option (AV × Heap × Th Prop) :=
  match aviews H args with
  | (l, q) => match k l with
    | some (r, Hc', p) => some (r, Hc', fun _ => q .u ∧ p .u)
    | none => none
def acallM (H : Heap) (k : Km) (args : List AV) : Option (AV × Heap × Th Prop) :=
  match args with
  | .own id i n sz :: rest => match H[id]? with
    | some (some (_, B)) => match k i n sz rest B with
      | some (r, B', p) => some (ren (upM [id] H.length) r, afterCall H [id] [some (false, B')], fun _ => (FreeB B ∧ ∀ a ∈ rest, Free a) ∧ p .u)
      | none => none
    | _ => none
  | _ => none
def astepC0 (tt : TT) (ct : CT) (ops : Array Oper) (env : List AV) (H : Heap) (o : Oper) : Option (List AV × Heap × Th Prop) :=
  match astep tt ops env H o with
  | some r => some r
  | none => match o.guard with
    | none => match acallee ct (aeval env) o.op with
      | some (.r k, args) => match acallR H k args with
        | some (r, Hc', p) => some (aput env o.dst (ren (upM [] H.length) r), afterCall H [] Hc', p)
        | none => none
      | some (.m k k0, args) => match acallM H k args with
        | some (r, H', p) => some (aput env o.dst r, H', p)
        | none => match acallR H k0 args with
          | some (r, Hc', p) => some (aput env o.dst (ren (upM [] H.length) r), afterCall H [] Hc', p)
          | none => none
      | some (.x k, args) => match k args with
        | some (r, p) => some (aput env o.dst r, H, p)
        | none => none
      | some (.s k, args) => match k args H with
        | some (r, p) => some (aput (killL env) o.dst r, killH H, p)
        | none => none
      | _ => none
    | some (j, want) => match guardAV ops env j with
      | some (c, b) => match acallee ct (fun x => unOn (aeval env x)) o.op with
        | some (.r k, args) => match acallR H k args with
          | some (r, [], p) => match condsOf env o.op.operands.toList with
            | q => some (aput env o.dst (.on (fun _ => c .u && (b .u == want)) (ren (upM [] H.length) r)), H, fun _ => (c .u && (b .u == want)) = true → (q .u ∧ p .u))
          | _ => none
        | _ => none
      | none => none
section
variable {P : Program} {N0 : Nat}
theorem afterCall_nil (H : Heap) : afterCall H [] [] = H := by simp [afterCall, updH]
theorem acallee_some {ct : CT} {ev : Operand → AV} {op : Op} {k : KC} {args : List AV} (h : acallee ct ev op = some (k, args)) : ∃ fop as ts f fst cap, op = .call ⟨.value fop, as, ts⟩ ∧ ev fop = .fn (.func f) fst cap ∧ ct.find f = some k ∧ args = fst ++ as.toList.map ev ++ cap := by
  unfold acallee at h
  split at h <;> first | (cases h; done) | skip
  rename_i fop as ts
  split at h <;> first | (cases h; done) | skip
  rename_i f fst cap hfop
  split at h <;> first | (cases h; done) | skip
  rename_i k' hk
  cases h
  exact ⟨fop, as, ts, f, fst, cap, rfl, hfop, hk, rfl⟩
/-- Where the table has what a function that reads answers. -/
def Reads (kc : KC) (k : Kr) : Prop := kc = .r k ∨ ∃ m, kc = .m m k
theorem reads_tells {f : FuncId} {kc : KC} {k : Kr} (h : Reads kc k) (ht : Tells P f kc) : ∀ args r H' p, k args = some (r, H', p) → p .u → AllFr r ∧ FrH H' ∧ Con P f (unfrL args) [] r H' := by
  rcases h with rfl | ⟨m, rfl⟩
  · exact ht
  · exact ht.1
theorem wp_toldR {ct : CT} (hct : CTok P ct) {kc : KC} {o : Oper} {env : List AV} {H Hc' : Heap} {r : AV} {p : Th Prop} {k : Kr} {args : List AV} (ev : Operand → AV)
    (hev : ∀ x ∈ o.op.operands.toList, ∀ (w : World) (ρ : Mp) (N L : Nat) (u : Value), Sim w ρ N L (aeval env x) u → Sim w ρ N L (ev x) u) (hs : acallee ct ev o.op = some (kc, args)) (hkc : Reads kc k) (hk : acallR H k args = some (r, Hc', p)) (hp : p .u)
    (res2 : AV) (hr2 : ∀ (w : World) (ρ : Mp) (N L : Nat) (v : Value), Sim w ρ N L (ren (upM [] H.length) r) v → Sim w ρ N L res2 v)
    {w0 : World} {ρ0 ρ : Mp} {a : Act} {w : World} (s : St w0 ρ0 N0 ρ env H a w) (K : Act → World → Prop) (Q : Exit → Act → World → Prop)
    (h : ∀ ρ' a' w', St w0 ρ0 N0 ρ' (aput env o.dst res2) (afterCall H [] Hc') a' w' → K a' w') : o.wp P a w K Q := by
  obtain ⟨fop, as, ts, f, fst, cap, hop, hfop, hf, rfl⟩ := acallee_some hs
  unfold acallR at hk
  generalize hl : aviews H (fst ++ as.toList.map ev ++ cap) = lq at hk
  obtain ⟨l, q⟩ := lq
  simp only at hk
  split at hk <;> cases hk
  rename_i hk'
  obtain ⟨hr1, hr3, hcon⟩ := reads_tells hkc (hct.2 f _ hf) l _ _ _ hk' hp.2
  have hto : AllTo H [] [] false (fst ++ as.toList.map ev ++ cap) (unfrL l) := by
    have := aviews_to H (fst ++ as.toList.map ev ++ cap) (by rw [hl]; exact hp.1)
    rw [hl] at this
    exact this
  exact wp_called (Hc := []) hop ev hev hfop hcon [] hto ⟨fun j fr B h => by simp at h, fun j j' id h => by simp [live] at h⟩ rfl (by simp) (by simp) False (fun e => e) (.inl hr1) (fun j fr B off a h1 h2 => .inl (hr3 j fr B h1 off a h2)) res2 hr2 s K Q h
theorem AOps.toldR {ct : CT} (hct : CTok P ct) {kc : KC} {ops : Array Oper} {K : List AV → Heap → Prop} {i : Nat} {o : Oper} {env : List AV} {H Hc' : Heap} {r : AV} {p : Th Prop} {k : Kr} {args : List AV} (ho : ops[i]? = some o) (hd : Done ops env o) (ev : Operand → AV)
    (hev : ∀ x ∈ o.op.operands.toList, ∀ (w : World) (ρ : Mp) (N L : Nat) (u : Value), Sim w ρ N L (aeval env x) u → Sim w ρ N L (ev x) u) (hs : acallee ct ev o.op = some (kc, args)) (hkc : Reads kc k) (hk : acallR H k args = some (r, Hc', p)) (hp : p .u)
    (res2 : AV) (hr2 : ∀ (w : World) (ρ : Mp) (N L : Nat) (v : Value), Sim w ρ N L (ren (upM [] H.length) r) v → Sim w ρ N L res2 v) (h : AOps P ops N0 K (i + 1) (aput env o.dst res2) (afterCall H [] Hc')) : AOps P ops N0 K i env H := by
  intro Q w0 ρ0 ρ a w s hQ
  have hlt' : i < ops.size := (Array.getElem?_eq_some_iff.1 ho).1
  rw [range'_step hlt']
  simp only [wpOps, ho]
  rw [if_pos (hd.wanted s)]
  exact .inl (wp_toldR hct ev hev hs hkc hk hp res2 hr2 s _ _ fun ρ' a' w' s' => h Q w0 ρ0 ρ' a' w' s' hQ)
theorem wp_toldM {ct : CT} (hct : CTok P ct) {o : Oper} {env : List AV} {H H' : Heap} {r : AV} {p : Th Prop} {k : Km} {k0 : Kr} {args : List AV} (ev : Operand → AV)
    (hev : ∀ x ∈ o.op.operands.toList, ∀ (w : World) (ρ : Mp) (N L : Nat) (u : Value), Sim w ρ N L (aeval env x) u → Sim w ρ N L (ev x) u) (hs : acallee ct ev o.op = some (.m k k0, args)) (hk : acallM H k args = some (r, H', p)) (hp : p .u)
    {w0 : World} {ρ0 ρ : Mp} {a : Act} {w : World} (s : St w0 ρ0 N0 ρ env H a w) (K : Act → World → Prop) (Q : Exit → Act → World → Prop) (h : ∀ ρ' a' w', St w0 ρ0 N0 ρ' (aput env o.dst r) H' a' w' → K a' w') : o.wp P a w K Q := by
  obtain ⟨fop, as, ts, f, fst, cap, hop, hfop, hf, rfl⟩ := acallee_some hs
  unfold acallM at hk
  split at hk <;> first | (cases hk; done) | skip
  rename_i id ii n sz rest hargs
  split at hk <;> first | (cases hk; done) | skip
  rename_i fr B hB
  split at hk <;> cases hk
  rename_i r B' p' hk'
  obtain ⟨⟨hfree, hq⟩, hp'⟩ := hp
  obtain ⟨hr1, hr3, hcon⟩ := (hct.2 f _ hf).2 ii n sz rest B _ _ _ hk' hp'
  have hlive : live [some (false, unfrB B)] 0 = true := rfl
  have hB' : BlkTo H [some (false, unfrB B)] [id] false B (unfrB B) := by
    intro off a' h'
    cases B with
    | box l =>
      simp only [unfrB] at h'
      cases h' with
      | box h' =>
        rw [unfrL_map, List.getElem?_map, Option.map_eq_some_iff] at h'
        obtain ⟨a, ha, rfl⟩ := h'
        exact ⟨a, .box ha, (hfree _ _ (.box ha)).to⟩
    | tab m sz' g =>
      simp only [unfrB] at h'
      cases h' with | tab i c hi hc => exact ⟨_, .tab i c hi hc, (hfree _ _ (.tab i c hi hc)).to⟩
  refine wp_called (Hc := [some (false, unfrB B)]) hop ev hev hfop hcon [id] ?_ ⟨fun j fr0 B0 h => ?_, fun j j' id h1 h2 _ _ => ?_⟩ rfl (by simp) ?_ False (fun e => e) (.inl hr1) (fun j fr B off a h1 h2 => ?_) _ (fun _ _ _ _ _ hv => hv) s K Q h
  · rw [hargs]
    exact ⟨.own hlive rfl rfl rfl, unfrL_map rest ▸ allTo_map fun a ha => (hq a ha).to⟩
  · match j, h with
    | 0, h => cases h; exact ⟨id, fr, B, rfl, hB, by simp, hB'⟩
    | j + 1, h => simp at h
  · have l1 := live_lt h1
    have l2 := live_lt h2
    simp at l1 l2
    omega
  · intro x hx
    simp at hx
    subst hx
    exact (List.getElem?_eq_some_iff.1 hB).1
  · match j, h1 with
    | 0, h1 => cases h1; exact .inl (hr3 off a h2)
    | j + 1, h1 => simp at h1
theorem AOps.toldM {ct : CT} (hct : CTok P ct) {ops : Array Oper} {K : List AV → Heap → Prop} {i : Nat} {o : Oper} {env : List AV} {H H' : Heap} {r : AV} {p : Th Prop} {k : Km} {args : List AV} (ho : ops[i]? = some o) (hd : Done ops env o)
    {k0 : Kr} (hs : acallee ct (aeval env) o.op = some (.m k k0, args)) (hk : acallM H k args = some (r, H', p)) (hp : p .u) (h : AOps P ops N0 K (i + 1) (aput env o.dst r) H') : AOps P ops N0 K i env H := by
  intro Q w0 ρ0 ρ a w s hQ
  have hlt' : i < ops.size := (Array.getElem?_eq_some_iff.1 ho).1
  rw [range'_step hlt']
  simp only [wpOps, ho]
  rw [if_pos (hd.wanted s)]
  exact .inl (wp_toldM hct (aeval env) (fun x _ w ρ N L u hu => hu) hs hk hp s _ _ fun ρ' a' w' s' => h Q w0 ρ0 ρ' a' w' s' hQ)
theorem args_sim {w : World} {ρ : Mp} {N L : Nat} {fst cap : List AV} {us vs : Array Value} {as : Array Operand} {ev : Operand → AV} {a : Act} (l1 : fst.length = us.size) (s1 : ∀ (j : Nat) (x : AV) (u : Value), fst[j]? = some x → us[j]? = some u → Sim w ρ N L x u)
    (s2 : ∀ (j : Nat) (x : AV) (u : Value), cap[j]? = some x → vs[j]? = some u → Sim w ρ N L x u) (hev : ∀ x ∈ as.toList, Sim w ρ N L (ev x) (a.eval x)) :
    ∀ (j : Nat) (x : AV) (u : Value), (fst ++ as.toList.map ev ++ cap)[j]? = some x → (us ++ as.map a.eval ++ vs)[j]? = some u → Sim w ρ N L x u := by
  intro j x u hx hu
  have el : (us ++ as.map a.eval ++ vs) = (us.toList ++ as.toList.map a.eval ++ vs.toList).toArray := by apply Array.ext'; simp
  rw [el, List.getElem?_toArray] at hu
  by_cases c1 : j < fst.length
  · rw [List.append_assoc, List.getElem?_append_left c1] at hx
    rw [List.append_assoc, List.getElem?_append_left (by rw [Array.length_toList]; omega)] at hu
    exact s1 j x u hx (by simpa using hu)
  · rw [List.append_assoc, List.getElem?_append_right (by omega)] at hx
    rw [List.append_assoc, List.getElem?_append_right (by rw [Array.length_toList]; omega), Array.length_toList, ← l1] at hu
    by_cases c2 : j - fst.length < as.size
    · rw [List.getElem?_append_left (by simpa using c2)] at hx hu
      rw [List.getElem?_map, Option.map_eq_some_iff] at hx hu
      obtain ⟨o1, g1, rfl⟩ := hx
      obtain ⟨o2, g2, rfl⟩ := hu
      rw [g1] at g2; cases g2
      exact hev o1 (List.mem_of_getElem? g1)
    · rw [List.getElem?_append_right (by simpa using c2)] at hx hu
      simp only [List.length_map, Array.length_toList] at hx hu
      exact s2 _ x u hx (by simpa using hu)
theorem wp_toldX {ct : CT} (hct : CTok P ct) {o : Oper} {env : List AV} {H : Heap} {r : AV} {p : Th Prop} {k : Kx} {args : List AV} (ev : Operand → AV)
    (hev : ∀ x ∈ o.op.operands.toList, ∀ (w : World) (ρ : Mp) (N L : Nat) (u : Value), Sim w ρ N L (aeval env x) u → Sim w ρ N L (ev x) u) (hs : acallee ct ev o.op = some (.x k, args)) (hk : k args = some (r, p)) (hp : p .u)
    {w0 : World} {ρ0 ρ : Mp} {a : Act} {w : World} (s : St w0 ρ0 N0 ρ env H a w) (K : Act → World → Prop) (Q : Exit → Act → World → Prop) (h : ∀ ρ' a' w', St w0 ρ0 N0 ρ' (aput env o.dst r) H a' w' → K a' w') : o.wp P a w K Q := by
  obtain ⟨fop, as, ts, f, fst, cap, hop, hfop, hf, rfl⟩ := acallee_some hs
  have hevs : ∀ x ∈ o.op.operands.toList, Sim w ρ H.length w0.heap.size (ev x) (a.eval x) := fun x hx => hev x hx _ _ _ _ _ (aeval_sound s.env x)
  have hfs := hevs fop (by rw [hop]; simp [Op.operands, Call.operands])
  rw [hfop] at hfs
  have hf' : ∃ us vs : Array Value, a.eval fop = .func (.func f) us vs ∧ fst.length = us.size ∧ (∀ (j : Nat) (x : AV) (u : Value), fst[j]? = some x → us[j]? = some u → Sim w ρ H.length w0.heap.size x u) ∧ cap.length = vs.size ∧ (∀ (j : Nat) (x : AV) (u : Value), cap[j]? = some x → vs[j]? = some u → Sim w ρ H.length w0.heap.size x u) := by
    generalize a.eval fop = q at hfs
    cases hfs with | fn h1 h2 h3 h4 => exact ⟨_, _, rfl, h1, h2, h3, h4⟩
  obtain ⟨us, vs, hfe, l1, s1, l2, s2⟩ := hf'
  have hrun : execOp a.eval o = callFunc f (us ++ as.map a.eval ++ vs) := by
    unfold execOp
    simp only [hop, resolve, hfe, Deferred.ofValue, pure_bind, invoke]
  have hdoes := (hct.2 f _ hf) _ _ _ hk hp w ρ w0.heap.size H (us ++ as.map a.eval ++ vs) s.rel (by simp [l1, l2]) (args_sim l1 s1 s2 fun x hx => hevs x (by rw [hop]; simp only [Op.operands, Call.operands, Array.toList_append, List.mem_append]; exact .inr hx))
  obtain ⟨v, w', ρ', hr, hR, hP, hv⟩ := hdoes
  have s' := s.step hR hP hv o.dst
  unfold Oper.wp Oper.upon
  rw [hrun]
  rcases hr with hr | ⟨hr, rfl⟩ <;> rw [hr] <;> exact h ρ' _ w' s'
theorem AOps.toldX {ct : CT} (hct : CTok P ct) {ops : Array Oper} {K : List AV → Heap → Prop} {i : Nat} {o : Oper} {env : List AV} {H : Heap} {r : AV} {p : Th Prop} {k : Kx} {args : List AV} (ho : ops[i]? = some o) (hd : Done ops env o)
    (hs : acallee ct (aeval env) o.op = some (.x k, args)) (hk : k args = some (r, p)) (hp : p .u) (h : AOps P ops N0 K (i + 1) (aput env o.dst r) H) : AOps P ops N0 K i env H := by
  intro Q w0 ρ0 ρ a w s hQ
  have hlt' : i < ops.size := (Array.getElem?_eq_some_iff.1 ho).1
  rw [range'_step hlt']
  simp only [wpOps, ho]
  rw [if_pos (hd.wanted s)]
  exact .inl (wp_toldX hct (aeval env) (fun x _ w ρ N L u hu => hu) hs hk hp s _ _ fun ρ' a' w' s' => h Q w0 ρ0 ρ' a' w' s' hQ)
theorem AOps.toldS {ct : CT} (hct : CTok P ct) {ops : Array Oper} {K : List AV → Heap → Prop} {i : Nat} {o : Oper} {env : List AV} {H : Heap} {r : AV} {p : Th Prop} {k : Ks} {args : List AV} (ho : ops[i]? = some o) (hd : Done ops env o)
    (hs : acallee ct (aeval env) o.op = some (.s k, args)) (hk : k args H = some (r, p)) (hp : p .u) (h : AOps P ops N0 K (i + 1) (aput (killL env) o.dst r) (killH H)) : AOps P ops N0 K i env H := by
  intro Q w0 ρ0 ρ a w s hQ
  have hlt' : i < ops.size := (Array.getElem?_eq_some_iff.1 ho).1
  rw [range'_step hlt']
  simp only [wpOps, ho]
  rw [if_pos (hd.wanted s)]
  refine .inl ?_
  obtain ⟨fop, as, ts, f, fst, cap, hop, hfop, hf, rfl⟩ := acallee_some hs
  have hevs : ∀ x ∈ o.op.operands.toList, Sim w ρ H.length w0.heap.size (aeval env x) (a.eval x) := fun x hx => aeval_sound s.env x
  have hfs := hevs fop (by rw [hop]; simp [Op.operands, Call.operands])
  rw [hfop] at hfs
  have hf' : ∃ us vs : Array Value, a.eval fop = .func (.func f) us vs ∧ fst.length = us.size ∧ (∀ (j : Nat) (x : AV) (u : Value), fst[j]? = some x → us[j]? = some u → Sim w ρ H.length w0.heap.size x u) ∧ cap.length = vs.size ∧ (∀ (j : Nat) (x : AV) (u : Value), cap[j]? = some x → vs[j]? = some u → Sim w ρ H.length w0.heap.size x u) := by
    generalize a.eval fop = q at hfs
    cases hfs with | fn h1 h2 h3 h4 => exact ⟨_, _, rfl, h1, h2, h3, h4⟩
  obtain ⟨us, vs, hfe, l1, s1, l2, s2⟩ := hf'
  obtain ⟨⟨fn, hfn, hname, hbody⟩, hcall⟩ := (hct.2 f _ hf) _ _ _ _ hk hp
  have hrun : (execOp a.eval o).run P w = .ok (.enter f (us ++ as.map a.eval ++ vs)) w := by
    unfold execOp
    simp only [hop, resolve, hfe, Deferred.ofValue, Sem.run_bind, Sem.run_pure, Result.andThen_ok, invoke, callFunc, run_program, hfn, hname, hbody, Bool.false_eq_true, if_false]
  have hc := hcall w ρ w0.heap.size (us ++ as.map a.eval ++ vs) s.rel (by simp [l1, l2]) (args_sim l1 s1 s2 fun x hx => hevs x (by rw [hop]; simp only [Op.operands, Call.operands, Array.toList_append, List.mem_append]; exact .inr hx))
  unfold Oper.wp Oper.upon
  rw [hrun]
  refine hc.mono fun e w' hh => ?_
  obtain ⟨v, rfl, hS, hv⟩ := hh
  have s1 := s.scrib hS
  exact h Q w0 ρ0 ρ _ w' (s1.step s1.rel (Pass.refl _ _ _) (hv _ _ _ _) o.dst) hQ
theorem AOps.oneC0 {tt : TT} (htt : TTok P tt) {ct : CT} (hct : CTok P ct) {ops : Array Oper} {K : List AV → Heap → Prop} {i : Nat} {o : Oper} {env env' : List AV} {H H' : Heap} {p : Th Prop} (ho : ops[i]? = some o) (hs : astepC0 tt ct ops env H o = some (env', H', p)) (hp : p .u)
    (h : AOps P ops N0 K (i + 1) env' H') : AOps P ops N0 K i env H := by
  unfold astepC0 at hs
  split at hs
  · rename_i r hr
    cases hs
    exact AOps.one htt ho hr hp h
  · split at hs
    · rename_i hg
      split at hs <;> first | (cases hs; done) | skip
      · rename_i k args hc
        split at hs <;> cases hs
        rename_i r Hc' hk
        exact AOps.toldR hct ho (.inl hg) (aeval env) (fun x _ w ρ N L u hu => hu) hc (.inl rfl) hk hp _ (fun _ _ _ _ _ hv => hv) h
      · rename_i k k0 args hc
        split at hs
        · cases hs
          rename_i r hk
          exact AOps.toldM hct ho (.inl hg) hc hk hp h
        · split at hs <;> cases hs
          rename_i r Hc' hk
          exact AOps.toldR hct ho (.inl hg) (aeval env) (fun x _ w ρ N L u hu => hu) hc (.inr ⟨_, rfl⟩) hk hp _ (fun _ _ _ _ _ hv => hv) h
      · rename_i k args hc
        split at hs <;> cases hs
        rename_i r hk
        exact AOps.toldX hct ho (.inl hg) hc hk hp h
      · rename_i k args hc
        split at hs <;> cases hs
        rename_i r hk
        exact AOps.toldS hct ho (.inl hg) hc hk hp h
    · rename_i j want hg
      split at hs <;> first | (cases hs; done) | skip
      rename_i c b hgav
      split at hs <;> first | (cases hs; done) | skip
      rename_i k args hc
      split at hs <;> cases hs
      rename_i r p' hk
      cases hcb : (c .u && (b .u == want)) with
      | true =>
        obtain ⟨hq, hp'⟩ := hp hcb
        have hcb' := hcb
        simp only [Bool.and_eq_true, beq_iff_eq] at hcb'
        refine AOps.toldR hct ho (.inr ⟨j, want, c, b, hg, hgav, hcb'.1, hcb'.2⟩) (fun x => unOn (aeval env x)) (fun x hx w ρ N L u hu => hu.unOn (conds_at hq x hx)) hc (.inl rfl) hk hp' _ (fun w ρ N L v hv => ?_) (by rw [afterCall_nil]; exact h)
        exact .on (fun _ => hv) (fun e => by rw [hcb] at e; cases e)
      | false => exact AOps.pass ho hg hgav hcb _ _ hcb h
def apick (b0 : Th Bool) (x y : AV) : Option (Th Bool × Th Prop) :=
  match x, y with
  | .b p, .b q => some (fun _ => bif b0 .u then p .u else q .u, fun _ => True)
  | .on c1 (.b p), .b q => some (fun _ => bif b0 .u then p .u else q .u, fun _ => b0 .u = true → c1 .u = true)
  | .b p, .on c2 (.b q) => some (fun _ => bif b0 .u then p .u else q .u, fun _ => b0 .u = false → c2 .u = true)
  | .on c1 (.b p), .on c2 (.b q) => some (fun _ => bif b0 .u then p .u else q .u, fun _ => (b0 .u = true → c1 .u = true) ∧ (b0 .u = false → c2 .u = true))
  | _, _ => none
theorem apick_sound {H : Heap} {w : World} {ρ : Mp} {L : Nat} {b0 : Th Bool} {x y : AV} {r : Th Bool} {p : Th Prop} {u v : Value} (hr : apick b0 x y = some (r, p)) (hp : p .u) (hx : Sim w ρ H.length L x u) (hy : Sim w ρ H.length L y v) : Sim w ρ H.length L (.b r) (if b0 .u then u else v) := by
  unfold apick at hr
  split at hr <;> cases hr
  · exact sim_bool (fun _ => hx.b_inv) (fun _ => hy.b_inv)
  · exact sim_bool (fun e => (hx.on_inv (hp e)).b_inv) (fun _ => hy.b_inv)
  · exact sim_bool (fun _ => hx.b_inv) (fun e => (hy.on_inv (hp e)).b_inv)
  · exact sim_bool (fun e => (hx.on_inv (hp.1 e)).b_inv) (fun e => (hy.on_inv (hp.2 e)).b_inv)
/-- A choice of bools under a guard: only the side that is chosen need be told. -/
def alazy (ops : Array Oper) (env : List AV) (o : Oper) : Option (List AV × Th Prop) :=
  match o.op with
  | .pick cc x y => match o.guard with
    | some (j, want) => match guardAV ops env j with
      | some (c, b) => match unOn (aeval env cc) with
        | .b b0 => match apick b0 (aeval env x) (aeval env y) with
          | some (r, p) => match condOf (aeval env cc) with
            | q => some (aput env o.dst (.on (fun _ => c .u && (b .u == want)) (.b r)), fun _ => (c .u && (b .u == want)) = true → (q .u ∧ p .u))
          | none => none
        | _ => none
      | none => none
    | none => none
  | _ => none
theorem AOps.lazy {ops : Array Oper} {K : List AV → Heap → Prop} {i : Nat} {o : Oper} {env env' : List AV} {H : Heap} {p : Th Prop} (ho : ops[i]? = some o) (hs : alazy ops env o = some (env', p)) (hp : p .u)
    (h : AOps P ops N0 K (i + 1) env' H) : AOps P ops N0 K i env H := by
  unfold alazy at hs
  split at hs <;> first | (cases hs; done) | skip
  rename_i cc x y hop
  split at hs <;> first | (cases hs; done) | skip
  rename_i j want hg
  split at hs <;> first | (cases hs; done) | skip
  rename_i c b hgav
  split at hs <;> first | (cases hs; done) | skip
  rename_i b0 hb0
  split at hs <;> cases hs
  rename_i r p' hr
  cases hc : (c .u && (b .u == want)) with
  | false => exact AOps.pass ho hg hgav hc _ _ hc h
  | true =>
    obtain ⟨hcc, hp⟩ := hp hc
    intro Q w0 ρ0 ρ a w s hQ
    have hlt : i < ops.size := (Array.getElem?_eq_some_iff.1 ho).1
    rw [range'_step hlt]
    simp only [wpOps, ho]
    have hc' := hc
    simp only [Bool.and_eq_true, beq_iff_eq] at hc'
    have hd : Done ops env o := .inr ⟨j, want, c, b, hg, hgav, hc'.1, hc'.2⟩
    rw [if_pos (hd.wanted s)]
    have ec : a.eval cc = .bool (b0 .u) := by
      have := (aeval_sound s.env cc).unOn hcc
      rw [hb0] at this
      exact this.b_inv
    have run : (execOp a.eval o).run P w = .ok (.value (if b0 .u then a.eval x else a.eval y)) w := by
      unfold execOp
      simp only [hop]
      rw [ec]
      simp [asBool]
    have s' := s.step s.rel (Pass.refl _ _ _) (r := .on (fun _ => c .u && (b .u == want)) (.b r)) (v := if b0 .u then a.eval x else a.eval y) (.on (fun _ => apick_sound hr hp (aeval_sound s.env x) (aeval_sound s.env y)) (fun e => by rw [hc] at e; cases e)) o.dst
    left
    unfold Oper.wp Oper.upon
    rw [run]
    exact h Q w0 ρ0 ρ _ w s' hQ
def astepC (tt : TT) (ct : CT) (ops : Array Oper) (env : List AV) (H : Heap) (o : Oper) : Option (List AV × Heap × Th Prop) :=
  match alazy ops env o with
  | some (env', p) => some (env', H, p)
  | none => astepC0 tt ct ops env H o
theorem AOps.oneC {tt : TT} (htt : TTok P tt) {ct : CT} (hct : CTok P ct) {ops : Array Oper} {K : List AV → Heap → Prop} {i : Nat} {o : Oper} {env env' : List AV} {H H' : Heap} {p : Th Prop} (ho : ops[i]? = some o) (hs : astepC tt ct ops env H o = some (env', H', p)) (hp : p .u)
    (h : AOps P ops N0 K (i + 1) env' H') : AOps P ops N0 K i env H := by
  unfold astepC at hs
  split at hs
  · rename_i env1 p1 hl
    cases hs
    exact AOps.lazy ho hl hp h
  · exact AOps.oneC0 htt hct ho hs hp h
def arunC (tt : TT) (ct : CT) (ops : Array Oper) : List Oper → Nat → List AV → Heap → Nat × List AV × Heap × List (Th Prop)
  | [], i, env, H => (i, env, H, [])
  | o :: l, i, env, H => match astepC tt ct ops env H o with
    | some (env', H', p) => match arunC tt ct ops l (i + 1) env' H' with
      | (j, e, h, ps) => (j, e, h, p :: ps)
    | none => (i, env, H, [])
theorem AOps.runC {tt : TT} (htt : TTok P tt) {ct : CT} (hct : CTok P ct) {ops : Array Oper} {K : List AV → Heap → Prop} {i j : Nat} {env env' : List AV} {H H' : Heap} {ps : List (Th Prop)} (hr : arunC tt ct ops (ops.toList.drop i) i env H = (j, env', H', ps)) (hp : All ps)
    (h : AOps P ops N0 K j env' H') : AOps P ops N0 K i env H := by
  have key : ∀ (l : List Oper) (i : Nat) (env : List AV) (H : Heap) (ps : List (Th Prop)), ops.toList.drop i = l → arunC tt ct ops l i env H = (j, env', H', ps) → All ps → AOps P ops N0 K i env H := by
    intro l
    induction l with
    | nil =>
      intro i env H ps _ hr _
      cases hr
      exact h
    | cons o l ih =>
      intro i env H ps hl hr hp
      simp only [arunC] at hr
      have ho : ops[i]? = some o := by
        have := congrArg (fun q => q[0]?) hl
        simp only [List.getElem?_drop, List.getElem?_cons_zero, Nat.add_zero] at this
        simpa using this
      have hl' : ops.toList.drop (i + 1) = l := by
        have := congrArg (List.drop 1) hl
        rw [List.drop_drop] at this
        simpa using this
      split at hr
      · rename_i env1 H1 p hs
        generalize hq : arunC tt ct ops l (i + 1) env1 H1 = q at hr
        obtain ⟨j', e', h', ps'⟩ := q
        simp only [Prod.mk.injEq] at hr
        obtain ⟨rfl, rfl, rfl, rfl⟩ := hr
        exact AOps.oneC htt hct ho hs hp.1 (ih (i + 1) env1 H1 ps' hl' hq hp.2)
      · cases hr
        exact h
  exact key _ i env H ps rfl hr hp

/-! ### Blocks that are handed over -/
def addId (l : List Nat) (id : Nat) : List Nat := match l.any (Nat.beq id) with
  | true => l
  | false => l ++ [id]
mutual
def idsOf (l : List Nat) : AV → List Nat
  | .own id _ _ _ => addId l id
  | .ptr id _ _ _ => addId l id
  | .agg as => idsOfL l as
  | _ => l
def idsOfL (l : List Nat) : List AV → List Nat
  | [] => l
  | a :: as => idsOfL (idsOf l a) as
end
/-- What stands in boxes is handed over too. -/
def idsBox (H : Heap) : List Nat → List Nat → List Nat
  | [], l => l
  | id :: σ, l => match H[id]? with
    | some (some (_, .box as)) => idsBox H σ (idsOfL l as)
    | _ => idsBox H σ l
def posIn : List Nat → Nat → Option Nat
  | [], _ => none
  | x :: l, id => match Nat.beq x id with
    | true => some 0
    | false => match posIn l id with
      | some j => some (j + 1)
      | none => none
theorem posIn_some : ∀ {σ : List Nat} {id j : Nat}, posIn σ id = some j → σ[j]? = some id := by
  intro σ
  induction σ with
  | nil => intro id j h; cases h
  | cons x l ih =>
    intro id j h
    simp only [posIn] at h
    split at h
    · rename_i e; cases h; rw [Nat.beq_eq] at e; subst e; rfl
    · split at h <;> cases h
      rename_i j' hj
      simpa using ih hj
theorem posIn_none : ∀ {σ : List Nat} {id : Nat}, posIn σ id = none → id ∉ σ := by
  intro σ
  induction σ with
  | nil => intro id _ h; simp at h
  | cons x l ih =>
    intro id h hm
    simp only [posIn] at h
    split at h
    · cases h
    · rename_i e
      split at h <;> cases h
      rename_i hj
      rcases List.mem_cons.1 hm with rfl | hm
      · simp at e
      · exact ih hj hm
mutual
/-- An argument as the function sees it: what is handed over under its new name, all else only read. -/
def agive (H : Heap) (σ : List Nat) (a : AV) : AV × Th Prop :=
  match a with
  | .own id i n sz => match posIn σ id with
    | some j => (.own j i n sz, fun _ => True)
    | none => match aview H (.own id i n sz) with
      | (x, p) => (unfr x, p)
  | .ptr id i sz c => match posIn σ id with
    | some j => (.ptr j i sz c, fun _ => True)
    | none => match aviewP H σ id i c with
      | (x, p) => (unfr x, p)
  | .agg l => match agives H σ l with
    | (y, q) => (.agg y, q)
  | .ro fr n sz g => (unfr (.ro fr n sz g), fun _ => Free (.ro fr n sz g))
  | .rptr fr m g => (unfr (.rptr fr m g), fun _ => Free (.rptr fr m g))
  | .fn f l m => match agives H σ l, agives H σ m with
    | (x, p), (y, q) => (.fn f x y, fun _ => p .u ∧ q .u)
  | .tup l => (unfr (.tup l), fun _ => Free (.tup l))
  | .v x => (.v x, fun _ => True)
  | .i k n => (.i k n, fun _ => True)
  | .b p => (.b p, fun _ => True)
  | .s x => (.s x, fun _ => True)
  | .f k x => (.f k x, fun _ => True)
  | .c k x y => (.c k x y, fun _ => True)
  | .ifc => (.ifc, fun _ => True)
  | _ => (.dead, fun _ => True)
def agives (H : Heap) (σ : List Nat) : List AV → List AV × Th Prop
  | [] => ([], fun _ => True)
  | a :: l => match agive H σ a, agives H σ l with
    | (x, p), (y, q) => (x :: y, fun _ => p .u ∧ q .u)
end
def giveB (H : Heap) (σ : List Nat) : Blk → Blk × Th Prop
  | .box l => match agives H σ l with
    | (y, q) => (.box y, q)
  | .tab n sz g => (.tab n sz fun i c => unfr (g i c), fun _ => FreeB (.tab n sz g))
/-- The blocks that are handed over; none where one is not there. -/
def giveH (H : Heap) (σ : List Nat) : List Nat → Option (Heap × Th Prop)
  | [] => some ([], fun _ => True)
  | id :: l => match H[id]?, giveH H σ l with
    | some (some (_, B)), some (Hc, q) => match giveB H σ B with
      | (B', p) => some (some (false, B') :: Hc, fun _ => p .u ∧ q .u)
    | _, _ => none
def distinct : List Nat → Bool
  | [] => true
  | x :: l => !l.any (Nat.beq x) && distinct l
theorem distinct_nodup : ∀ {l : List Nat}, distinct l = true → l.Nodup := by
  intro l
  induction l with
  | nil => intro _; exact List.nodup_nil
  | cons x l ih =>
    intro h
    simp only [distinct, Bool.and_eq_true, Bool.not_eq_true'] at h
    refine List.nodup_cons.2 ⟨fun hm => ?_, ih h.2⟩
    have := List.any_eq_false.1 h.1 x hm
    simp at this
def atake (H : Heap) (take : Nat) (args : List AV) : Option (List Nat × List AV × Heap × Th Prop) :=
  match idsOfL [] (args.take take) with
  | σ0 => match idsBox H (idsBox H σ0 σ0) (idsBox H σ0 σ0) with
    | σ => match distinct σ, giveH H σ σ, agives H σ args with
      | true, some (Hc, q), (args', p) => some (σ, args', Hc, fun _ => q .u ∧ p .u)
      | _, _, _ => none
theorem giveH_at {H : Heap} {σ : List Nat} : ∀ {l : List Nat} {Hc : Heap} {q : Th Prop}, giveH H σ l = some (Hc, q) → q .u → Hc.length = l.length ∧ ∀ (j id : Nat), l[j]? = some id → ∃ fr B, H[id]? = some (some (fr, B)) ∧ Hc[j]? = some (some (false, (giveB H σ B).1)) ∧ (giveB H σ B).2 .u := by
  intro l
  induction l with
  | nil => intro Hc q h _; cases h; exact ⟨rfl, fun j id h => by simp at h⟩
  | cons x l ih =>
    intro Hc q h hq
    simp only [giveH] at h
    split at h <;> cases h
    rename_i fr B Hc' q' hB hrest
    obtain ⟨h1, h2⟩ := ih hrest hq.2
    refine ⟨by simp [h1], fun j id hj => ?_⟩
    cases j with
    | zero => simp at hj; subst hj; exact ⟨fr, B, hB, rfl, hq.1⟩
    | succ j => simpa using h2 j id (by simpa using hj)
section
variable {H Hc : Heap} {σ : List Nat}
mutual
theorem agive_to (hlive : ∀ j id : Nat, σ[j]? = some id → live Hc j = true) : ∀ (a : AV), (agive H σ a).2 .u → AvTo H Hc σ false a (agive H σ a).1
  | .own id i n sz, h => by
    simp only [agive] at h ⊢
    split at h
    · rename_i j hj
      exact .own (hlive j id (posIn_some hj)) (posIn_some hj) rfl rfl
    · rename_i hj
      have hno := posIn_none hj
      simp only [aview] at h ⊢
      split at h
      · rename_i fr m sz' g hH
        split at h
        · rename_i e
          subst e
          rw [if_pos rfl]
          simp only [unfr]
          exact AvTo.view hH h.1 (fun j _ e => hno (List.mem_of_getElem? e)) rfl .call fun j c hj hc => Free.to (h.2 j c hj hc)
        · rename_i e
          rw [if_neg e]
          simp only [unfr]
          exact .dead _
      · simp only [unfr]; exact .dead _
  | .ptr id i sz c, h => by
    simp only [agive] at h ⊢
    split at h
    · rename_i j hj
      exact .ptr (hlive j id (posIn_some hj)) (posIn_some hj) rfl
    · rename_i hj
      have hno := posIn_none hj
      exact aviewP_to (fun j _ e => hno (List.mem_of_getElem? e)) h
  | .agg l, h => by
    simp only [agive] at h ⊢
    exact .agg (agives_to hlive l h)
  | .ro .., h => Free.to h
  | .rptr .., h => Free.to h
  | .fn f l m, h => by
    simp only [agive] at h ⊢
    exact .fn (agives_to hlive l h.1) (agives_to hlive m h.2)
  | .tup .., h => Free.to h
  | .v x, _ => .v x
  | .i .., _ => .i rfl
  | .b _, _ => .b rfl
  | .s _, _ => .s rfl
  | .f .., _ => .f rfl
  | .c .., _ => .c rfl rfl
  | .ifc, _ => .ifc
  | .on .., _ => by simp only [agive]; exact .dead _
  | .dead, _ => by simp only [agive]; exact .dead _
theorem agives_to (hlive : ∀ j id : Nat, σ[j]? = some id → live Hc j = true) : ∀ (l : List AV), (agives H σ l).2 .u → AllTo H Hc σ false l (agives H σ l).1
  | [], _ => by simp only [agives]; trivial
  | a :: l, h => by
    simp only [agives] at h ⊢
    exact ⟨agive_to hlive a h.1, agives_to hlive l h.2⟩
end
theorem giveB_to (hlive : ∀ j id : Nat, σ[j]? = some id → live Hc j = true) {B : Blk} (h : (giveB H σ B).2 .u) : BlkTo H Hc σ false B (giveB H σ B).1 := by
  intro off a' h'
  cases B with
  | box l =>
    simp only [giveB] at h h'
    cases h' with
    | box h' =>
      obtain ⟨a, ha, hto⟩ := (agives_to hlive l h).get _ _ h'
      exact ⟨a, .box ha, hto⟩
  | tab m sz' g =>
    simp only [giveB] at h h'
    cases h' with | tab i c hi hc => exact ⟨_, .tab i c hi hc, (h _ _ (.tab i c hi hc)).to⟩
end
/-- What is left to show behind a call, by the cases of what is answered. -/
def AnsK (P : Program) (ops : Array Oper) (N0 : Nat) (K : List AV → Heap → Prop) (i : Nat) (env : List AV) (H : Heap) (dst : Option Tmp) (σ : List Nat) : Ans → Prop
  | .one r H' p => p .u ∧ (p .u → AOps P ops N0 K (i + 1) (aput env dst (ren (upM σ H.length) r)) (afterCall H σ H'))
  | .two b y n => (b .u = true → AnsK P ops N0 K i env H dst σ y) ∧ (b .u = false → AnsK P ops N0 K i env H dst σ n)
def agcall (ct : CT) (env : List AV) (H : Heap) (o : Oper) : Option (List Nat × Ans × Th Prop) :=
  match o.guard with
  | none => match acallee ct (aeval env) o.op with
    | some (.g take k, args) => match atake H take args with
      | some (σ, args', Hc, q) => match k args' Hc with
        | some a => some (σ, a, q)
        | none => none
      | none => none
    | _ => none
  | some _ => none
section
variable {P : Program} {N0 : Nat}
theorem AOps.toldG {ct : CT} (hct : CTok P ct) {ops : Array Oper} {K : List AV → Heap → Prop} {i : Nat} {o : Oper} {env : List AV} {H : Heap} {σ : List Nat} {a : Ans} {q : Th Prop} (ho : ops[i]? = some o)
    (hs : agcall ct env H o = some (σ, a, q)) (hq : q .u) (h : AnsK P ops N0 K i env H o.dst σ a) : AOps P ops N0 K i env H := by
  unfold agcall at hs
  split at hs <;> first | (cases hs; done) | skip
  rename_i hg
  split at hs <;> first | (cases hs; done) | skip
  rename_i take k args hc
  split at hs <;> first | (cases hs; done) | skip
  rename_i σ' args' Hc q' ht
  split at hs <;> cases hs
  rename_i hk
  obtain ⟨fop, as, ts, f, fst, cap, hop, hfop, hf, rfl⟩ := acallee_some hc
  have hok : AnsOk P f args' Hc a := hct.2 f _ hf args' Hc a hk
  unfold atake at ht
  simp only at ht
  split at ht <;> cases ht
  rename_i hd hA hH
  have hn := distinct_nodup hd
  obtain ⟨hlen, hat⟩ := giveH_at hH hq.1
  generalize idsBox H (idsBox H (idsOfL [] (List.take take (fst ++ as.toList.map (aeval env) ++ cap))) (idsOfL [] (List.take take (fst ++ as.toList.map (aeval env) ++ cap)))) (idsBox H (idsOfL [] (List.take take (fst ++ as.toList.map (aeval env) ++ cap))) (idsOfL [] (List.take take (fst ++ as.toList.map (aeval env) ++ cap)))) = σ at *
  have hlive : ∀ j id : Nat, σ[j]? = some id → live Hc j = true := fun j id hj => by
    obtain ⟨fr, B, _, h2, _⟩ := hat j id hj
    exact live_of h2
  have hargs : AllTo H Hc σ false (fst ++ as.toList.map (aeval env) ++ cap) args' := by
    have := agives_to hlive (fst ++ as.toList.map (aeval env) ++ cap) (by rw [hA]; exact hq.2)
    rw [hA] at this
    exact this
  have hHt : HeapTo H Hc σ false := ⟨fun j fr0 B0 h => by
    have hj : j < σ.length := by rw [← hlen]; exact (List.getElem?_eq_some_iff.1 h).1
    obtain ⟨fr, B, h1, h2, h3⟩ := hat j σ[j] (List.getElem?_eq_getElem hj)
    rw [h2] at h; cases h
    exact ⟨σ[j], fr, B, List.getElem?_eq_getElem hj, h1, by simp, giveB_to hlive h3⟩, fun j j' id _ _ e1 e2 => by
    have l1 := (List.getElem?_eq_some_iff.1 e1).1
    have l2 := (List.getElem?_eq_some_iff.1 e2).1
    exact (List.getElem_inj hn (h₀ := l1) (h₁ := l2)).1 ((List.getElem?_eq_some_iff.1 e1).2.trans (List.getElem?_eq_some_iff.1 e2).2.symm)⟩
  have hlt : ∀ id ∈ σ, id < H.length := fun id hm => by
    obtain ⟨j, hj⟩ := List.mem_iff_getElem?.1 hm
    obtain ⟨fr, B, h1, _⟩ := hat j id hj
    exact (List.getElem?_eq_some_iff.1 h1).1
  clear hk hat hA hH hd hc
  induction a with
  | one r H' p =>
    obtain ⟨hp, h⟩ := h
    obtain ⟨k1, k2, k3⟩ := hok hp
    exact AOps.call ho hop (.inl hg) (aeval env) (fun x _ w ρ N L u hu => hu) hfop k3 σ hargs hHt hlen.symm hn hlt False (fun e => e) (.inl k1) (fun j fr B off a h1 h2 => .inl (k2 j fr B h1 off a h2)) _ (fun _ _ _ _ _ hv => hv) (h hp)
  | two b y n ih1 ih2 =>
    cases hb : b .u with
    | true => exact ih1 (hok.1 hb) (h.1 hb)
    | false => exact ih2 (hok.2 hb) (h.2 hb)
end

/-! ### Regions whose order is open -/
/-- What is told of an operation does not hang on the memory. -/
def isPure (op : Op) : Bool := match op with
  | .move _ => true
  | .assign _ => true
  | .extract _ _ => true
  | .unOp _ _ _ => true
  | .index _ _ _ => true
  | .makeFunc _ _ _ => true
  | _ => false
def scalV (a : AV) : Bool := match a with
  | .i _ _ => true
  | .f _ _ => true
  | .b _ => true
  | .s _ => true
  | _ => false
theorem aparts_scal {H H1 : Heap} {ev : Operand → AV} : ∀ (l : List (Nat × Operand)), (l.all fun p => scalV (ev p.2)) = true → aparts H1 (l.map fun p => (p.1, ev p.2)) = aparts H (l.map fun p => (p.1, ev p.2)) := by
  intro l
  induction l with
  | nil => intro _; rfl
  | cons q l ih =>
    intro h
    rw [List.all_cons, Bool.and_eq_true] at h
    have e1 : aflat H1 (ev q.2) = aflat H (ev q.2) := by
      have := h.1
      unfold scalV at this
      split at this <;> first | (cases this; done) | (rename_i e; rw [e]; rfl)
    simp only [List.map_cons, aparts, e1, ih h.2]
/-- An operation over two numbers, or a composition of numbers. -/
def isScal (ev : Operand → AV) (op : Op) : Bool := match op with
  | .binOp _ _ x y _ => match ev x, ev y with
    | .i _ _, .i _ _ => true
    | .f _ _, .f _ _ => true
    | _, _ => false
  | .convert _ _ x => match ev x with
    | .i _ _ => true
    | .f _ _ => true
    | _ => false
  | .build _ ps => ps.toList.all fun p => scalV (ev p.2)
  | _ => false
def isIdx (op : Op) : Bool := match op with
  | .indexAddr _ _ _ => true
  | _ => false
def isStore (op : Op) : Bool := match op with
  | .store _ _ _ => true
  | _ => false
def isLoad (op : Op) : Bool := match op with
  | .load _ _ => true
  | _ => false
/-- The memory turns, or grows. -/
def turns (k : Nat) : Bool := Nat.beq k 2 || (Nat.beq k 3 || Nat.beq k 6)
/-- A new variable: it reads nothing. -/
def isAlloc : Op → Bool
  | .alloc _ => true
  | _ => false
/-- One operation without a guard: what it puts, the memory behind it, what has to hold; 0: whatever the memory is, 1: the memory stays, 2: it turns, 3: it grows, 4: the memory stays and may have grown, 5: the memory stays, and all that has to be there is the block, 6: what lies in a block turns. -/
def astepV (tt : TT) (ct : CT) (H : Heap) (ev : Operand → AV) (op : Op) : Option (AV × Heap × Th Prop × Nat) :=
  match aopq tt H ev op with
  | some (r, p) => some (r, H, p, match isPure op with
    | true => 0
    | false => match isScal ev op with
      | true => 0
      | false => match isLoad op with
        | true => 4
        | false => match isIdx op with
          | true => 5
          | false => 1)
  | none => match aoph tt H ev op with
    | some (r, H', p) => some (r, H', p, match isStore op with
      | true => 6
      | false => match isAlloc op with
        | true => 3
        | false => 2)
    | none => match acallee ct ev op with
      | some (.r k, args) => match acallR H k args with
        | some (r, [], p) => some (ren (upM [] H.length) r, H, p, 1)
        | some (r, Hc', p) => some (ren (upM [] H.length) r, afterCall H [] Hc', p, 3)
        | none => none
      | some (.x k, args) => match k args with
        | some (r, p) => some (r, H, p, 1)
        | none => none
      | some (.m k k0, args) => match acallM H k args with
        | some (r, H', p) => some (r, H', p, 2)
        | none => match acallR H k0 args with
          | some (r, Hc', p) => some (ren (upM [] H.length) r, afterCall H [] Hc', p, 2)
          | none => none
      | _ => none
/-- One operation, under a guard or not; under a guard none that turns the memory. -/
def astepG (tt : TT) (ct : CT) (ops : Array Oper) (env : List AV) (H : Heap) (o : Oper) : Option (AV × Heap × Th Prop × Nat) :=
  match o.guard with
  | none => astepV tt ct H (aeval env) o.op
  | some (j, want) => match guardAV ops env j with
    | some (c, b) => match o.op with
      | .pick cc x y => match unOn (aeval env cc) with
        | .b b0 => match apick b0 (aeval env x) (aeval env y) with
          | some (r, p) => match condOf (aeval env cc) with
            | q => some (.on (fun _ => c .u && (b .u == want)) (.b r), H, fun _ => (c .u && (b .u == want)) = true → (q .u ∧ p .u), 0)
          | none => none
        | _ => none
      | op => match astepV tt ct H (fun x => unOn (aeval env x)) op with
        | some (r, H', p, k) => match turns k with
          | true => none
          | false => match condsOf env op.operands.toList with
            | q => some (.on (fun _ => c .u && (b .u == want)) r, H', fun _ => (c .u && (b .u == want)) = true → (q .u ∧ p .u), k)
        | none => none
    | none => none
/-- The operations in the order of the text. -/
def arunV (tt : TT) (ct : CT) (ops : Array Oper) : List Oper → List AV → Heap → Option (List AV × Heap × List Nat × List (Th Prop))
  | [], env, H => some (env, H, [], [])
  | o :: l, env, H => match astepG tt ct ops env H o with
      | some (r, H', p, k) => match arunV tt ct ops l (aput env o.dst r) H' with
        | some (e, h, ks, ps) => some (e, h, k :: ks, p :: ps)
        | none => none
      | none => none
def edgesOK (l : List Oper) : Bool := (List.range l.length).all fun i => match l[i]? with
  | some o => o.after.toList.all fun e => match Region.binds .any e with
    | true => Nat.blt e.on i
    | false => true
  | none => false
/-- Operation j waits for operation i, at once or by others. -/
def reach (l : List Oper) : Nat → Nat → Nat → Bool
  | 0, _, _ => false
  | f + 1, j, i => match l[j]? with
    | some o => match o.after.toList.any (fun e => Nat.beq e.on i && Region.binds .any e) with
      | true => true
      | false => o.after.toList.any fun e => Nat.blt i e.on && (Region.binds .any e && reach l f e.on i)
    | none => false
def readsT (o : Oper) (d : Option Tmp) : Bool := match d with
  | some t => o.op.operands.toList.any fun x => match x with
    | .tmp t' => Nat.beq t' t
    | _ => false
  | none => false
def sameD (d d' : Option Tmp) : Bool := match d, d' with
  | some t, some t' => Nat.beq t t'
  | _, _ => false
/-- An operand, or the guard. -/
def readsG (l : List Oper) (o : Oper) (d : Option Tmp) : Bool := readsT o d || match o.guard with
  | some (j, _) => match l[j]? with
    | some q => sameD q.dst d
    | none => false
  | none => false
/-- j ahead of i, and yet in either order. -/
def skips (ki kj : Nat) : Bool := (Nat.beq kj 4 && Nat.beq ki 3) || ((Nat.beq kj 5 && (Nat.beq ki 3 || Nat.beq ki 6)) || (Nat.beq ki 5 && Nat.beq kj 6))
/-- j ahead of i: where one reads what the other puts, or both have to do with the memory and one turns it, i waits for j. -/
def pairOK (l : List Oper) (ks : List Nat) (i j : Nat) (oi oj : Oper) : Bool :=
  !sameD oi.dst oj.dst && (match readsG l oi oj.dst || readsG l oj oi.dst || (!skips (ks.getD i 0) (ks.getD j 0) && ((turns (ks.getD i 0) && !Nat.beq (ks.getD j 0) 0) || (turns (ks.getD j 0) && !Nat.beq (ks.getD i 0) 0))) with
    | true => reach l l.length i j
    | false => true)
def orderOK (l : List Oper) (ks : List Nat) (n : Nat) : Bool := edgesOK l && (List.range l.length).all fun i => match l[i]? with
  | some oi => (match oi.dst with
    | some d => Nat.blt d n
    | none => true) && !readsG l oi oi.dst && (List.range i).all fun j => match l[j]? with
      | some oj => pairOK l ks i j oi oj
      | none => false
  | none => false
section
variable {P : Program} {N0 : Nat}
theorem get_grow {H X : Heap} {id : Nat} {e : Option (Bool × Blk)} (h : H[id]? = some e) : (H ++ X)[id]? = some e := by
  rw [List.getElem?_append_left (List.getElem?_eq_some_iff.1 h).1]; exact h
theorem aread_grow {H X : Heap} {p : AV} {n : Nat} {r : List AV × Th Prop} (h : aread H p n = some r) : aread (H ++ X) p n = some r := by
  unfold aread at h ⊢
  cases p with
  | ptr id i sz c =>
    simp only at h ⊢
    cases hH : H[id]? with
    | none => rw [hH] at h; cases h
    | some e => rw [hH] at h; rw [get_grow hH]; exact h
  | _ => exact h
theorem aload_grow {tt : TT} {H X : Heap} {t : TypeId} {p : AV} {r : AV × Th Prop} (h : aload tt H t p = some r) : aload tt (H ++ X) t p = some r := by
  unfold aload at h ⊢
  split at h <;> first | (cases h; done) | skip
  rename_i i hi
  split at h <;> first | (cases h; done) | skip
  rename_i as ob ha
  simp only [aread_grow (X := X) ha]
  exact h
theorem grow_nil (H Hc' : Heap) : afterCall H [] Hc' = H ++ (Hc'.drop ([] : List Nat).length).map (renE (upM [] H.length)) := by
  unfold afterCall
  cases Hc' <;> rfl
theorem aindex_live {tt : TT} {H H1 : Heap} {t : TypeId} {x i : AV} {r : AV × Th Prop} (hm : ∀ id, live H id = true → live H1 id = true) (h : aindexAddr tt H t x i = some r) : aindexAddr tt H1 t x i = some r := by
  unfold aindexAddr at h ⊢
  split at h <;> first | (cases h; done) | skip
  · split at h <;> first | (cases h; done) | skip
    rename_i ti hti
    split at h <;> first | (cases h; done) | skip
    rename_i hc
    simp only [Bool.and_eq_true] at hc
    simp only [hm _ hc.1, hc.2, Bool.and_self, if_true]
    exact h
  · exact h
theorem live_set {H : Heap} {id : Nat} {e B : Bool × Blk} (h : H[id]? = some (some e)) (id' : Nat) : live (H.set id (some B)) id' = live H id' := by
  have hl := (List.getElem?_eq_some_iff.1 h).1
  unfold live
  by_cases e : id = id'
  · subst e
    rw [List.getElem?_set_self hl, h]
  · rw [List.getElem?_set_ne e]
theorem astore_live {tt : TT} {H H' : Heap} {t : TypeId} {p x : AV} {ob : Th Prop} (h : astore tt H t p x = some (H', ob)) (id : Nat) : live H' id = live H id := by
  unfold astore at h
  split at h <;> first | (cases h; done) | skip
  split at h <;> first | (cases h; done) | skip
  unfold awrite at h
  repeat' split at h
  all_goals first | (cases h; done) | skip
  all_goals cases h
  all_goals exact live_set (by assumption) id
theorem astepV_kind {tt : TT} {ct : CT} {H H' : Heap} {ev : Operand → AV} {op : Op} {r : AV} {p : Th Prop} {k : Nat} (h : astepV tt ct H ev op = some (r, H', p, k)) :
    (turns k = false → H' = H) ∧ (k = 0 → ∀ H1, astepV tt ct H1 ev op = some (r, H1, p, 0)) ∧ (k = 3 → ∃ X, H' = H ++ X) ∧ (k = 4 → ∀ X, astepV tt ct (H ++ X) ev op = some (r, H ++ X, p, 4)) ∧
    (k = 5 → ∀ H1, (∀ id, live H id = true → live H1 id = true) → astepV tt ct H1 ev op = some (r, H1, p, 5)) ∧ (k = 6 → ∀ id, live H' id = live H id) := by
  unfold astepV at h
  split at h
  · rename_i r' p' hr
    cases h
    cases hpu : isPure op with
    | true =>
      dsimp only
      refine ⟨fun _ => rfl, fun hk H1 => ?_, fun hk => absurd hk (by decide), fun hk => absurd hk (by decide), fun hk => absurd hk (by decide), fun hk => absurd hk (by decide)⟩
      have : aopq tt H1 ev op = aopq tt H ev op := by
        unfold isPure at hpu
        split at hpu <;> first | (cases hpu; done) | rfl
      unfold astepV
      rw [this, hr]
      simp only [hpu]
    | false =>
      cases hsc : isScal ev op with
      | true =>
        dsimp only
        refine ⟨fun _ => rfl, fun hk H1 => ?_, fun hk => absurd hk (by decide), fun hk => absurd hk (by decide), fun hk => absurd hk (by decide), fun hk => absurd hk (by decide)⟩
        have : aopq tt H1 ev op = aopq tt H ev op := by
          unfold isScal at hsc
          split at hsc <;> first | (cases hsc; done) | skip
          · rename_i o t x y q
            split at hsc <;> first | (cases hsc; done) | skip
            all_goals (rename_i h1 h2; simp only [aopq, h1, h2, abin])
          · rename_i s d x
            split at hsc <;> first | (cases hsc; done) | skip
            all_goals (rename_i h1; simp only [aopq, h1, aconvS_i, aconvS_f])
          · rename_i t ps
            simp only [aopq, abuild, aparts_scal (H := H) (H1 := H1) _ hsc]
        unfold astepV
        rw [this, hr]
        simp only [hpu, hsc]
      | false =>
        cases hlo : isLoad op with
        | true =>
          dsimp only
          refine ⟨fun _ => rfl, fun hk => absurd hk (by decide), fun hk => absurd hk (by decide), fun hk X => ?_, fun hk => absurd hk (by decide), fun hk => absurd hk (by decide)⟩
          have : aopq tt (H ++ X) ev op = aopq tt H ev op := by
            unfold isLoad at hlo
            split at hlo <;> first | (cases hlo; done) | skip
            rw [hr]
            exact aload_grow hr
          unfold astepV
          rw [this, hr]
          simp only [hpu, hsc, hlo]
        | false =>
          cases hix : isIdx op with
          | true =>
            dsimp only
            refine ⟨fun _ => rfl, fun hk => absurd hk (by decide), fun hk => absurd hk (by decide), fun hk => absurd hk (by decide), fun hk H1 hm => ?_, fun hk => absurd hk (by decide)⟩
            have : aopq tt H1 ev op = aopq tt H ev op := by
              unfold isIdx at hix
              split at hix <;> first | (cases hix; done) | skip
              rw [hr]
              exact aindex_live hm hr
            unfold astepV
            rw [this, hr]
            simp only [hpu, hsc, hlo, hix]
          | false =>
            dsimp only
            exact ⟨fun _ => rfl, fun hk => absurd hk (by decide), fun hk => absurd hk (by decide), fun hk => absurd hk (by decide), fun hk => absurd hk (by decide), fun hk => absurd hk (by decide)⟩
  · split at h
    · rename_i r' H1 p' hr
      cases h
      cases hst : isStore op with
      | true =>
        dsimp only
        refine ⟨fun hk => absurd hk (by decide), fun hk => absurd hk (by decide), fun hk => absurd hk (by decide), fun hk => absurd hk (by decide), fun hk => absurd hk (by decide), fun _ id => ?_⟩
        unfold isStore at hst
        split at hst <;> first | (cases hst; done) | skip
        simp only [aoph] at hr
        split at hr <;> cases hr
        rename_i hr
        exact astore_live hr id
      | false =>
        cases hal : isAlloc op with
        | true =>
          dsimp only
          refine ⟨fun hk => absurd hk (by decide), fun hk => absurd hk (by decide), fun _ => ?_, fun hk => absurd hk (by decide), fun hk => absurd hk (by decide), fun hk => absurd hk (by decide)⟩
          unfold isAlloc at hal
          split at hal <;> first | (cases hal; done) | skip
          simp only [aoph] at hr
          split at hr <;> cases hr
          rename_i ha
          unfold aalloc at ha
          split at ha <;> cases ha
          exact ⟨_, rfl⟩
        | false =>
          dsimp only
          exact ⟨fun hk => absurd hk (by decide), fun hk => absurd hk (by decide), fun hk => absurd hk (by decide), fun hk => absurd hk (by decide), fun hk => absurd hk (by decide), fun hk => absurd hk (by decide)⟩
    · split at h <;> first | (cases h; done) | skip
      · split at h <;> cases h
        · exact ⟨fun _ => rfl, fun hk => absurd hk (by decide), fun hk => absurd hk (by decide), fun hk => absurd hk (by decide), fun hk => absurd hk (by decide), fun hk => absurd hk (by decide)⟩
        · exact ⟨fun hk => absurd hk (by decide), fun hk => absurd hk (by decide), fun _ => ⟨_, grow_nil _ _⟩, fun hk => absurd hk (by decide), fun hk => absurd hk (by decide), fun hk => absurd hk (by decide)⟩
      · split at h <;> cases h
        exact ⟨fun _ => rfl, fun hk => absurd hk (by decide), fun hk => absurd hk (by decide), fun hk => absurd hk (by decide), fun hk => absurd hk (by decide), fun hk => absurd hk (by decide)⟩
      · split at h
        · cases h
          exact ⟨fun hk => absurd hk (by decide), fun hk => absurd hk (by decide), fun hk => absurd hk (by decide), fun hk => absurd hk (by decide), fun hk => absurd hk (by decide), fun hk => absurd hk (by decide)⟩
        · split at h <;> cases h
          exact ⟨fun hk => absurd hk (by decide), fun hk => absurd hk (by decide), fun hk => absurd hk (by decide), fun hk => absurd hk (by decide), fun hk => absurd hk (by decide), fun hk => absurd hk (by decide)⟩
theorem wp_V {tt : TT} (htt : TTok P tt) {ct : CT} (hct : CTok P ct) {Q : Exit → Act → World → Prop} {o : Oper} {env : List AV} {ev : Operand → AV} {H H' : Heap} {r : AV} {p : Th Prop} {k : Nat}
    (hq : astepV tt ct H ev o.op = some (r, H', p, k)) (hp : p .u) (hsub : ∀ x ∈ o.op.operands.toList, ∀ (w : World) (ρ : Mp) (N L : Nat) (u : Value), Sim w ρ N L (aeval env x) u → Sim w ρ N L (ev x) u) {w0 : World} {ρ0 ρ : Mp} {a : Act} {w : World} (s : St w0 ρ0 N0 ρ env H a w) (K : Act → World → Prop)
    (h : ∀ ρ' a' w', St w0 ρ0 N0 ρ' (aput env o.dst r) H' a' w' → K a' w') : o.wp P a w K Q := by
  have hL : w0.heap.size ≤ w.heap.size := s.pass.size
  have hsim : ∀ x ∈ o.op.operands.toList, Sim w ρ H.length w0.heap.size (ev x) (a.eval x) := fun x hx => hsub x hx _ _ _ _ _ (aeval_sound s.env x)
  have fin : ∀ r H1, Does P (execOp a.eval o) w ρ w0.heap.size H r H1 → (∀ ρ' a' w', St w0 ρ0 N0 ρ' (aput env o.dst r) H1 a' w' → K a' w') → o.wp P a w K Q := by
    intro r H1 hd hk
    obtain ⟨v, w', ρ', hrun, hR, hP, hv⟩ := hd
    have s' := s.step hR hP hv o.dst
    unfold Oper.wp Oper.upon
    rcases hrun with hrun | ⟨hrun, rfl⟩ <;> rw [hrun] <;> exact hk _ _ _ s'
  unfold astepV at hq
  split at hq
  · rename_i r' p' hr
    cases hq
    exact fin _ _ (aopq_sound htt s.rel hr hp hsim) h
  · split at hq
    · rename_i r' H1 p' hr
      cases hq
      exact fin _ _ (aoph_sound htt s.rel hL hr hp hsim) h
    · split at hq <;> first | (cases hq; done) | skip
      · rename_i k' args hk
        split at hq <;> cases hq
        · rename_i r' hr
          exact wp_toldR hct ev hsub hk (.inl rfl) hr hp _ (fun _ _ _ _ _ hv => hv) s K Q fun ρ' a' w' s' => h ρ' a' w' (by rw [afterCall_nil] at s'; exact s')
        · rename_i r' Hc' _ hr
          exact wp_toldR hct ev hsub hk (.inl rfl) hr hp _ (fun _ _ _ _ _ hv => hv) s K Q h
      · rename_i k' args hk
        split at hq <;> cases hq
        rename_i hr
        exact wp_toldX hct ev hsub hk hr hp s K Q h
      · rename_i k' k0 args hk
        split at hq
        · cases hq
          rename_i hr
          exact wp_toldM hct ev hsub hk hr hp s K Q h
        · split at hq <;> cases hq
          rename_i hr
          exact wp_toldR hct ev hsub hk (.inr ⟨_, rfl⟩) hr hp _ (fun _ _ _ _ _ hv => hv) s K Q h
/-- What an operation put, told anew. -/
theorem St.put2 {w0 : World} {ρ0 ρ : Mp} {env : List AV} {H : Heap} {a : Act} {w : World} {d : Option Tmp} {r r2 : AV} (s : St w0 ρ0 N0 ρ (aput env d r) H a w) (h : ∀ v, Sim w ρ H.length w0.heap.size r v → Sim w ρ H.length w0.heap.size r2 v) : St w0 ρ0 N0 ρ (aput env d r2) H a w := by
  refine ⟨s.defers, ⟨?_, fun t x v hx hv => ?_⟩, s.rel, s.pass⟩
  · have := s.env.len
    simp only [aput_eq] at this ⊢
    split <;> simpa using this
  · have h1 := s.env.at_ t
    simp only [aput_eq] at hx h1
    cases d with
    | none => exact h1 x v hx hv
    | some d =>
      simp only at hx h1
      by_cases e : d = t
      · subst e
        have hl : d < env.length := by
          have := (List.getElem?_eq_some_iff.1 hx).1
          simpa using this
        rw [List.getElem?_set_self hl] at hx
        cases hx
        exact h v (h1 r v (by rw [List.getElem?_set_self hl]) hv)
      · rw [List.getElem?_set_ne e] at hx
        exact h1 x v (by rw [List.getElem?_set_ne e]; exact hx) hv
theorem conds_eq {env env1 : List AV} : ∀ {l : List Operand}, (∀ x ∈ l, aeval env1 x = aeval env x) → condsOf env1 l = condsOf env l := by
  intro l
  induction l with
  | nil => intro _; rfl
  | cons x l ih =>
    intro h
    simp only [condsOf, h x (by simp), ih fun y hy => h y (by simp [hy])]
theorem wpOp_G {tt : TT} (htt : TTok P tt) {ct : CT} (hct : CTok P ct) {ops : Array Oper} {Q : Exit → Act → World → Prop} {i : Nat} {o : Oper} {env env2 : List AV} {H H' : Heap} {r : AV} {p : Th Prop} {k : Nat} (ho : ops[i]? = some o)
    (hq : astepG tt ct ops env2 H o = some (r, H', p, k)) (hp : p .u) (hev : ∀ x ∈ o.op.operands.toList, aeval env x = aeval env2 x) (hgv : ∀ j want, o.guard = some (j, want) → guardAV ops env j = guardAV ops env2 j) {w0 : World} {ρ0 ρ : Mp} {a : Act} {w : World} (s : St w0 ρ0 N0 ρ env H a w) (K : Act → World → Prop)
    (h : ∀ ρ' a' w', St w0 ρ0 N0 ρ' (aput env o.dst r) H' a' w' → K a' w') : wpOp P ops Q i K a w := by
  unfold astepG at hq
  split at hq
  · rename_i hg
    have hw : Region.wanted o (yielded ops a.tmps) = true := by simp [Region.wanted, hg]
    unfold wpOp
    simp only [ho, hw, if_true]
    exact .inl (wp_V htt hct hq hp (fun x hx w ρ N L u hu => by rw [← hev x hx]; exact hu) s K h)
  · rename_i j want hg
    split at hq <;> first | (cases hq; done) | skip
    rename_i c b hgav
    rw [← hgv j want hg] at hgav
    have skip : (c .u && (b .u == want)) = false → ∀ r1, r = .on (fun _ => c .u && (b .u == want)) r1 → H' = H → wpOp P ops Q i K a w := by
      intro hc r1 er eH
      have hy := yielded_guard s hgav
      have hw : Region.wanted o (yielded ops a.tmps) = false := by
        cases hcc : c .u with
        | false => simp [Region.wanted, hg, hy.2 hcc]
        | true =>
          rw [hcc] at hc
          simp only [Bool.true_and, beq_eq_false_iff_ne] at hc
          simp [Region.wanted, hg, hy.1 hcc, hc]
      unfold wpOp
      simp only [ho, hw, Bool.false_eq_true, if_false]
      refine h ρ _ _ ?_
      rw [er, eH]
      exact s.step s.rel (Pass.refl _ _ _) (v := undef) (.on (fun e => by rw [hc] at e; cases e) (fun _ => rfl)) o.dst
    have wanted : (c .u && (b .u == want)) = true → Region.wanted o (yielded ops a.tmps) = true := by
      intro hc
      simp only [Bool.and_eq_true, beq_iff_eq] at hc
      exact Done.wanted s (.inr ⟨j, want, c, b, hg, hgav, hc.1, hc.2⟩)
    split at hq
    · rename_i cc x y hop
      split at hq <;> first | (cases hq; done) | skip
      rename_i b0 hb0
      split at hq <;> cases hq
      rename_i r' p' hpk
      cases hc : (c .u && (b .u == want)) with
      | false => exact skip hc _ rfl rfl
      | true =>
        obtain ⟨hcc, hp'⟩ := hp hc
        have e1 : aeval env cc = aeval env2 cc := hev cc (by rw [hop]; simp [Op.operands])
        have e2 : aeval env x = aeval env2 x := hev x (by rw [hop]; simp [Op.operands])
        have e3 : aeval env y = aeval env2 y := hev y (by rw [hop]; simp [Op.operands])
        have ec : a.eval cc = .bool (b0 .u) := by
          have := (aeval_sound s.env cc).unOn (by rw [e1]; exact hcc)
          rw [e1, hb0] at this
          exact this.b_inv
        have run : (execOp a.eval o).run P w = .ok (.value (if b0 .u then a.eval x else a.eval y)) w := by
          unfold execOp
          simp only [hop]
          rw [ec]
          simp [asBool]
        have s' := s.step s.rel (Pass.refl _ _ _) (r := .on (fun _ => c .u && (b .u == want)) (.b r')) (v := if b0 .u then a.eval x else a.eval y) (.on (fun _ => apick_sound hpk hp' (e2 ▸ aeval_sound s.env x) (e3 ▸ aeval_sound s.env y)) (fun e => by rw [hc] at e; cases e)) o.dst
        unfold wpOp
        simp only [ho, wanted hc, if_true]
        left
        unfold Oper.wp Oper.upon
        rw [run]
        exact h ρ _ w s'
    · rename_i op hne hop
      split at hq <;> first | (cases hq; done) | skip
      rename_i r' H1 p' k' hv
      split at hq <;> cases hq
      rename_i hk
      have eH : H' = H := (astepV_kind hv).1 hk
      cases hc : (c .u && (b .u == want)) with
      | false => exact skip hc _ rfl eH
      | true =>
        obtain ⟨hcs, hp'⟩ := hp hc
        unfold wpOp
        simp only [ho, wanted hc, if_true]
        refine .inl (wp_V htt hct hv hp' (fun x hx w ρ N L u hu => ?_) s K fun ρ' a' w' s' => h ρ' a' w' (s'.put2 fun v hv => .on (fun _ => hv) (fun e => by rw [hc] at e; cases e)))
        rw [hev x hx] at hu
        exact hu.unOn (conds_at hcs x hx)
theorem astepG_kind {tt : TT} {ct : CT} {ops : Array Oper} {H H' : Heap} {env : List AV} {o : Oper} {r : AV} {p : Th Prop} {k : Nat} (h : astepG tt ct ops env H o = some (r, H', p, k)) :
    (turns k = false → H' = H) ∧ (k = 0 → ∀ H1, astepG tt ct ops env H1 o = some (r, H1, p, 0)) ∧ (k = 3 → ∃ X, H' = H ++ X) ∧ (k = 4 → ∀ X, astepG tt ct ops env (H ++ X) o = some (r, H ++ X, p, 4)) ∧
    (k = 5 → ∀ H1, (∀ id, live H id = true → live H1 id = true) → astepG tt ct ops env H1 o = some (r, H1, p, 5)) ∧ (k = 6 → ∀ id, live H' id = live H id) := by
  unfold astepG at h
  split at h
  · rename_i hg
    have := astepV_kind h
    unfold astepG
    simp only [hg]
    exact this
  · rename_i j want hg
    split at h <;> first | (cases h; done) | skip
    rename_i c b hgav
    split at h
    · rename_i cc x y hop
      split at h <;> first | (cases h; done) | skip
      rename_i b0 hb0
      split at h <;> cases h
      rename_i r' p' hpk
      refine ⟨fun _ => rfl, fun _ H1 => ?_, fun hk => absurd hk (by decide), fun hk => absurd hk (by decide), fun hk => absurd hk (by decide), fun hk => absurd hk (by decide)⟩
      unfold astepG
      simp only [hg, hgav, hop, hb0, hpk]
    · rename_i op hne hop
      split at h <;> first | (cases h; done) | skip
      rename_i r' H1 p' k' hv
      split at h <;> cases h
      rename_i hk
      obtain ⟨k1, k2, k3, k4, k5, k6⟩ := astepV_kind hv
      refine ⟨fun _ => k1 hk, fun e H2 => ?_, fun e => k3 e, fun e X => ?_, fun e H2 hm => ?_, fun e => k6 e⟩
      · have := k2 e H2
        unfold astepG
        simp only [hg, hgav, this, show turns 0 = false from rfl]
      · have := k4 e X
        unfold astepG
        simp only [hg, hgav, this, show turns 4 = false from rfl]
      · have := k5 e H2 hm
        unfold astepG
        simp only [hg, hgav, this, show turns 5 = false from rfl]
/-- What stands ahead of each operation, in the order of the text. -/
structure Line (tt : TT) (ct : CT) (ops : Array Oper) (l : List Oper) (ks : List Nat) (env : List AV) (H : Heap) (E : Nat → List AV) (HH : Nat → Heap) (R : Nat → AV) : Prop where
  start : E 0 = env ∧ HH 0 = H
  step : ∀ (i : Nat) (o : Oper), l[i]? = some o → (∃ p, astepG tt ct ops (E i) (HH i) o = some (R i, HH (i + 1), p, ks.getD i 0) ∧ p .u) ∧ E (i + 1) = aput (E i) o.dst (R i)
theorem line_of {tt : TT} {ct : CT} {ops : Array Oper} : ∀ {l : List Oper} {ks : List Nat} {env fin : List AV} {H H' : Heap} {ps : List (Th Prop)}, arunV tt ct ops l env H = some (fin, H', ks, ps) → All ps → ∃ E HH R, Line tt ct ops l ks env H E HH R ∧ E l.length = fin ∧ HH l.length = H' := by
  intro l
  induction l with
  | nil => intro ks env fin H H' ps h _; cases h; exact ⟨fun _ => env, fun _ => H, fun _ => .dead, ⟨⟨rfl, rfl⟩, fun i o h => by simp at h⟩, rfl, rfl⟩
  | cons o l ih =>
    intro ks env fin H H' ps h hp
    simp only [arunV] at h
    split at h <;> first | (cases h; done) | skip
    rename_i r H1 p k hr
    split at h <;> cases h
    rename_i ks' ps' hs
    obtain ⟨E, HH, R, h1, h2, h3⟩ := ih hs hp.2
    refine ⟨fun i => match i with | 0 => env | i + 1 => E i, fun i => match i with | 0 => H | i + 1 => HH i, fun i => match i with | 0 => r | i + 1 => R i, ⟨⟨rfl, rfl⟩, fun i q hq => ?_⟩, h2, h3⟩
    cases i with
    | zero => cases hq; exact ⟨⟨p, by simpa [h1.start.2] using hr, hp.1⟩, h1.start.1⟩
    | succ i =>
      obtain ⟨⟨p', k2, k3⟩, k4⟩ := h1.step i q (by simpa using hq)
      exact ⟨⟨p', by simpa using k2, k3⟩, k4⟩
theorem Line.len {tt : TT} {ct : CT} {ops : Array Oper} {l : List Oper} {ks : List Nat} {env : List AV} {H : Heap} {E : Nat → List AV} {HH : Nat → Heap} {R : Nat → AV} (h : Line tt ct ops l ks env H E HH R) : ∀ (i : Nat), i ≤ l.length → (E i).length = env.length := by
  intro i
  induction i with
  | zero => intro _; rw [h.start.1]
  | succ i ih =>
    intro hi
    rw [(h.step i l[i] (List.getElem?_eq_getElem (by omega))).2, ← ih (by omega)]
    simp only [aput_eq]; split <;> simp
/-- What no operation ahead of the i-th puts stands as at the start; what one puts stands as it puts it. -/
theorem Line.at_ {tt : TT} {ct : CT} {ops : Array Oper} {l : List Oper} {ks : List Nat} {env : List AV} {H : Heap} {E : Nat → List AV} {HH : Nat → Heap} {R : Nat → AV} (h : Line tt ct ops l ks env H E HH R) (hu : ∀ (i j : Nat) (o q : Oper) (t : Tmp), l[i]? = some o → l[j]? = some q → j ≠ i → q.dst = some t → o.dst ≠ some t) :
    ∀ (i : Nat), i ≤ l.length → (∀ t, (∀ (j : Nat) (q : Oper), l[j]? = some q → j < i → q.dst ≠ some t) → (E i)[t]? = env[t]?) ∧ ∀ (j : Nat) (q : Oper) (t : Nat), l[j]? = some q → j < i → q.dst = some t → t < env.length → (E i)[t]? = some (R j) := by
  intro i
  induction i with
  | zero => intro _; exact ⟨fun t _ => by rw [h.start.1], fun j q t _ hj => absurd hj (Nat.not_lt_zero _)⟩
  | succ i ih =>
    intro hi
    have ho : l[i]? = some l[i] := List.getElem?_eq_getElem (by omega)
    obtain ⟨k1, k2⟩ := ih (by omega)
    have hs := (h.step i l[i] ho).2
    refine ⟨fun t ht => ?_, fun j q t hq hj hd ht => ?_⟩
    · rw [hs]
      have hne := ht i l[i] ho (Nat.lt_succ_self i)
      simp only [aput_eq]
      split
      · rename_i d hd
        rw [List.getElem?_set_ne (fun e => hne (hd.trans (congrArg some e)))]
        exact k1 t fun j q hq hj => ht j q hq (by omega)
      · exact k1 t fun j q hq hj => ht j q hq (by omega)
    · rw [hs]
      by_cases e : j = i
      · subst e
        rw [ho] at hq; cases hq
        simp only [aput_eq, hd]
        rw [List.getElem?_set_self (by rw [h.len j (by omega)]; exact ht)]
      · have hne := hu i j l[i] q t ho hq e hd
        simp only [aput_eq]
        split
        · rename_i d hd'
          rw [List.getElem?_set_ne (fun e' => hne (by rw [hd', e']))]
          exact k2 j q t hq (by omega) hd ht
        · exact k2 j q t hq (by omega) hd ht
/-- Where none turns the memory between, it is the same. -/
theorem Line.still {tt : TT} {ct : CT} {ops : Array Oper} {l : List Oper} {ks : List Nat} {env : List AV} {H : Heap} {E : Nat → List AV} {HH : Nat → Heap} {R : Nat → AV} (h : Line tt ct ops l ks env H E HH R) {i : Nat} : ∀ {d : Nat}, i + d ≤ l.length → (∀ j, i ≤ j → j < i + d → turns (ks.getD j 0) = false) → HH (i + d) = HH i := by
  intro d
  induction d with
  | zero => intro _ _; rfl
  | succ d ih =>
    intro hl hk
    obtain ⟨⟨p, hs, _⟩, _⟩ := h.step (i + d) l[i + d] (List.getElem?_eq_getElem (by omega))
    rw [show i + (d + 1) = i + d + 1 by omega, (astepG_kind hs).1 (hk (i + d) (by omega) (by omega))]
    exact ih (by omega) fun j h1 h2 => hk j h1 (by omega)
/-- Where it only grows between, it has grown. -/
theorem Line.grown {tt : TT} {ct : CT} {ops : Array Oper} {l : List Oper} {ks : List Nat} {env : List AV} {H : Heap} {E : Nat → List AV} {HH : Nat → Heap} {R : Nat → AV} (h : Line tt ct ops l ks env H E HH R) {i : Nat} : ∀ {d : Nat}, i + d ≤ l.length → (∀ j, i ≤ j → j < i + d → turns (ks.getD j 0) = true → ks.getD j 0 = 3) → ∃ X, HH (i + d) = HH i ++ X := by
  intro d
  induction d with
  | zero => intro _ _; exact ⟨[], by simp⟩
  | succ d ih =>
    intro hl hk
    obtain ⟨X, hX⟩ := ih (by omega) fun j h1 h2 => hk j h1 (by omega)
    obtain ⟨⟨p, hs, _⟩, _⟩ := h.step (i + d) l[i + d] (List.getElem?_eq_getElem (by omega))
    cases hT : turns (ks.getD (i + d) 0) with
    | false => exact ⟨X, by rw [show i + (d + 1) = i + d + 1 by omega, (astepG_kind hs).1 hT]; exact hX⟩
    | true =>
      obtain ⟨Y, hY⟩ := (astepG_kind hs).2.2.1 (hk (i + d) (by omega) (by omega) hT)
      exact ⟨X ++ Y, by rw [show i + (d + 1) = i + d + 1 by omega, hY, hX, List.append_assoc]⟩
theorem live_grow {H X : Heap} {id : Nat} (h : live H id = true) : live (H ++ X) id = true := by
  unfold live at h ⊢
  cases hH : H[id]? with
  | none => rw [hH] at h; cases h
  | some e => rw [hH] at h; rw [get_grow hH]; exact h
/-- Where what lies in blocks turns alone, or the memory grows, what was there is there. -/
theorem Line.lives {tt : TT} {ct : CT} {ops : Array Oper} {l : List Oper} {ks : List Nat} {env : List AV} {H : Heap} {E : Nat → List AV} {HH : Nat → Heap} {R : Nat → AV} (h : Line tt ct ops l ks env H E HH R) {i : Nat} : ∀ {d : Nat}, i + d ≤ l.length → (∀ j, i ≤ j → j < i + d → turns (ks.getD j 0) = true → ks.getD j 0 = 3 ∨ ks.getD j 0 = 6) → ∀ id, live (HH i) id = true → live (HH (i + d)) id = true := by
  intro d
  induction d with
  | zero => intro _ _ id hid; exact hid
  | succ d ih =>
    intro hl hk id hid
    have hX := ih (by omega) (fun j h1 h2 => hk j h1 (by omega)) id hid
    obtain ⟨⟨p, hs, _⟩, _⟩ := h.step (i + d) l[i + d] (List.getElem?_eq_getElem (by omega))
    rw [show i + (d + 1) = i + d + 1 by omega]
    cases hT : turns (ks.getD (i + d) 0) with
    | false => rw [(astepG_kind hs).1 hT]; exact hX
    | true =>
      rcases hk (i + d) (by omega) (by omega) hT with e | e
      · obtain ⟨Y, hY⟩ := (astepG_kind hs).2.2.1 e
        rw [hY]
        exact live_grow hX
      · rw [(astepG_kind hs).2.2.2.2.2 e]; exact hX
theorem Line.alive {tt : TT} {ct : CT} {ops : Array Oper} {l : List Oper} {ks : List Nat} {env : List AV} {H : Heap} {E : Nat → List AV} {HH : Nat → Heap} {R : Nat → AV} (h : Line tt ct ops l ks env H E HH R) {i : Nat} : ∀ {d : Nat}, i + d ≤ l.length → (∀ j, i ≤ j → j < i + d → turns (ks.getD j 0) = true → ks.getD j 0 = 6) → ∀ id, live (HH (i + d)) id = live (HH i) id := by
  intro d
  induction d with
  | zero => intro _ _ id; rfl
  | succ d ih =>
    intro hl hk id
    have hX := ih (by omega) (fun j h1 h2 => hk j h1 (by omega)) id
    obtain ⟨⟨p, hs, _⟩, _⟩ := h.step (i + d) l[i + d] (List.getElem?_eq_getElem (by omega))
    rw [show i + (d + 1) = i + d + 1 by omega, ← hX]
    cases hT : turns (ks.getD (i + d) 0) with
    | false => rw [(astepG_kind hs).1 hT]
    | true => rw [(astepG_kind hs).2.2.2.2.2 (hk (i + d) (by omega) (by omega) hT)]
theorem reach_listed {ops : Array Oper} {listed : Array Bool} (hcl : ∀ (i : Nat) (o : Oper), ops[i]? = some o → listed.getD i false = true → ∀ e ∈ o.after, Region.binds .any e = true → listed.getD e.on false = true) :
    ∀ (f j i : Nat) (o : Oper), ops[j]? = some o → (∀ e ∈ o.after, Region.binds .any e = true → listed.getD e.on false = true) → reach ops.toList f j i = true → listed.getD i false = true := by
  intro f
  induction f with
  | zero => intro j i o _ _ h; cases h
  | succ f ih =>
    intro j i o ho hd h
    have hol : ops.toList[j]? = some o := by simpa using ho
    simp only [reach, hol] at h
    split at h
    · rename_i h1
      obtain ⟨e, he, hb⟩ := List.any_eq_true.1 h1
      simp only [Bool.and_eq_true] at hb
      have := hd e (by simpa using he) hb.2
      rwa [Nat.beq_eq.mp hb.1] at this
    · obtain ⟨e, he, hb⟩ := List.any_eq_true.1 h
      simp only [Bool.and_eq_true] at hb
      have hl := hd e (by simpa using he) hb.2.1
      cases hq : ops[e.on]? with
      | none =>
        have hr := hb.2.2
        have : ops.toList[e.on]? = none := by simpa using hq
        cases f with
        | zero => cases hr
        | succ f => simp only [reach, this] at hr; cases hr
      | some q => exact ih e.on i q hq (hcl e.on q hq hl) hb.2.2
theorem edges_at {ops : Array Oper} (hok : edgesOK ops.toList = true) {j : Nat} {o : Oper} (ho : ops[j]? = some o) : ∀ e ∈ o.after, Region.binds .any e = true → e.on < j := by
  intro e he hb
  have hj := (Array.getElem?_eq_some_iff.1 ho).1
  have h1 := List.all_eq_true.1 hok j (List.mem_range.2 (by simpa using hj))
  rw [show ops.toList[j]? = some o by simpa using ho] at h1
  have h2 := List.all_eq_true.1 h1 e (by simpa using he)
  rw [hb] at h2
  simpa [Nat.blt_eq] using h2
theorem all_listed {ops : Array Oper} {listed : Array Bool} (hok : edgesOK ops.toList = true) (hsz : listed.size = ops.size) (hr : Region.ready .any ops listed = []) : ∀ j, j < ops.size → listed.getD j false = true := by
  intro j
  induction j using Nat.strongRecOn with
  | _ j ih =>
    intro hj
    cases hl : listed.getD j false with
    | true => rfl
    | false =>
      have ho : ops[j]? = some ops[j] := Array.getElem?_eq_getElem hj
      have hun : listed.getD j true = false := by
        have hjl : j < listed.size := by omega
        simp [hjl] at hl ⊢; exact hl
      have hdep := edges_at hok ho
      have : j ∈ Region.ready .any ops listed := mem_ready.2 ⟨hun, _, ho, fun e he hb => ih e.on (hdep e he hb) (by have := hdep e he hb; omega)⟩
      rw [hr] at this
      simp at this
/-- A region whose order is open: whatever the order, what is told at its end is what the order of the text tells. -/
theorem AW.drawnA {tt : TT} (htt : TTok P tt) {ct : CT} (hct : CTok P ct) {id : Nat} {ops : Array Oper} {Q : Exit → List AV → Heap → Prop} {env fin : List AV} {H H' : Heap} {ks : List Nat} {ps : List (Th Prop)} (hq : arunV tt ct ops ops.toList env H = some (fin, H', ks, ps))
    (hd : orderOK ops.toList ks env.length = true) (hp : All ps) (h : Q .normal fin H') : AW P N0 (.region id ops true) Q env H := by
  unfold orderOK at hd
  simp only [Bool.and_eq_true] at hd
  obtain ⟨hE, hO⟩ := hd
  obtain ⟨E, HH, R, hL, hfin, hfinH⟩ := line_of hq hp
  have tl : ∀ {i : Nat} {o : Oper}, ops[i]? = some o → ops.toList[i]? = some o := fun {i o} ho => by simpa using ho
  have at_ : ∀ {i : Nat} {o : Oper}, ops[i]? = some o → (∀ d, o.dst = some d → d < env.length) ∧ readsG ops.toList o o.dst = false ∧ ∀ (j : Nat) (q : Oper), ops[j]? = some q → j < i → pairOK ops.toList ks i j o q = true := by
    intro i o ho
    have hi := (Array.getElem?_eq_some_iff.1 ho).1
    have h1 := List.all_eq_true.1 hO i (List.mem_range.2 (by simpa using hi))
    rw [tl ho] at h1
    simp only [Bool.and_eq_true, Bool.not_eq_true'] at h1
    obtain ⟨⟨h1, h2⟩, h3⟩ := h1
    refine ⟨fun d hd => by rw [hd] at h1; simpa [Nat.blt_eq] using h1, h2, fun j q hq hj => ?_⟩
    have := List.all_eq_true.1 h3 j (List.mem_range.2 hj)
    rw [tl hq] at this
    exact this
  have hu : ∀ (i j : Nat) (o q : Oper) (t : Tmp), ops.toList[i]? = some o → ops.toList[j]? = some q → j ≠ i → q.dst = some t → o.dst ≠ some t := by
    intro i j o q t ho hq' hne hd hd'
    have key : ∀ {i j : Nat} {o q : Oper}, ops[i]? = some o → ops[j]? = some q → j < i → q.dst = some t → o.dst = some t → False := by
      intro i j o q ho hq' hlt hd hd'
      have := (at_ ho).2.2 j q hq' hlt
      unfold pairOK sameD at this
      rw [hd, hd'] at this
      simp at this
    rcases Nat.lt_or_gt_of_ne hne with hlt | hgt
    · exact key (by simpa using ho) (by simpa using hq') hlt hd hd'
    · exact key (by simpa using hq') (by simpa using ho) hgt hd' hd
  have hat := hL.at_ hu
  have reads : ∀ {o : Oper} {t : Tmp}, Operand.tmp t ∈ o.op.operands.toList → readsG ops.toList o (some t) = true := fun {o t} hx => by
    unfold readsG
    rw [show readsT o (some t) = true from List.any_eq_true.2 ⟨_, hx, by simp⟩, Bool.true_or]
  intro w0 ρ0 ρ a w s
  refine wp_region_any hct.1 ?_
  have key : ∀ (fuel : Nat) (listed : Array Bool) (env1 : List AV) (k : Nat) (ρ : Mp) (a : Act) (w : World), listed.size = ops.size → listed.toList.count false = fuel → env1.length = env.length → k ≤ ops.size →
      (∀ (i : Nat) (o : Oper), ops[i]? = some o → listed.getD i false = true → ∀ e ∈ o.after, Region.binds .any e = true → listed.getD e.on false = true) →
      (∀ j, j < ops.size → turns (ks.getD j 0) = true → (listed.getD j false = true ↔ j < k)) →
      (∀ t, (∀ (j : Nat) (o : Oper), ops[j]? = some o → listed.getD j false = true → o.dst ≠ some t) → env1[t]? = env[t]?) → (∀ (j : Nat) (o : Oper) (t : Nat), ops[j]? = some o → listed.getD j false = true → o.dst = some t → env1[t]? = some (R j)) → St w0 ρ0 N0 ρ env1 (HH k) a w →
      wpAny P .any ops (fun e a' w' => ∃ env' H' ρ', Q e env' H' ∧ St w0 ρ0 N0 ρ' env' H' a' w') fuel listed a w := by
    intro fuel
    induction fuel with
    | zero =>
      intro listed env1 k ρ a w hsz hc hl hk hcl hkk hi1 hi2 s
      have hall : ∀ j, j < ops.size → listed.getD j false = true := by
        intro j hj
        have hjl : j < listed.size := by omega
        cases hb : listed[j] with
        | true => simp [hjl, hb]
        | false =>
          have hm : listed[j] ∈ listed.toList := by simp
          rw [hb] at hm
          exact absurd hm (List.count_eq_zero.1 hc)
      refine ⟨?_, fin, H', ρ, h, ?_⟩
      · rw [List.eq_nil_iff_forall_not_mem]
        intro j hj
        obtain ⟨h0, o, ho, _⟩ := mem_ready.1 hj
        have hjl := (Array.getElem?_eq_some_iff.1 ho).1
        have h1 := hall j hjl
        have hjl' : j < listed.size := by omega
        simp [hjl'] at h0 h1
        rw [h0] at h1; cases h1
      · have e : env1 = fin := by
          rw [← hfin]
          refine List.ext_getElem? fun t => ?_
          obtain ⟨k1, k2⟩ := hat ops.toList.length (Nat.le_refl _)
          by_cases hw : ∃ (j : Nat) (o : Oper), ops[j]? = some o ∧ o.dst = some t
          · obtain ⟨j, o, ho, hd⟩ := hw
            have hj := (Array.getElem?_eq_some_iff.1 ho).1
            rw [k2 j o t (tl ho) (by simpa using hj) hd ((at_ ho).1 t hd)]
            exact hi2 j o t ho (hall j hj) hd
          · rw [k1 t fun j q hq' _ e => hw ⟨j, q, by simpa using hq', e⟩]
            exact hi1 t fun j o ho _ e => hw ⟨j, o, ho, e⟩
        have eH : HH k = H' := by
          rw [← hfinH]
          have := hL.still (i := k) (d := ops.toList.length - k) (by simp; omega) fun j h1 h2 => Bool.eq_false_iff.2 fun e => by
            have hjs : j < ops.size := by simp at h2; omega
            have := (hkk j hjs e).1 (hall j hjs)
            omega
          rw [show k + (ops.toList.length - k) = ops.toList.length by simp; omega] at this
          exact this.symm
        rw [e, eH] at s
        exact s
    | succ fuel ih =>
      intro listed env1 k ρ a w hsz hc hl hk hcl hkk hi1 hi2 s
      refine ⟨fun hr => ?_, fun i hi => ?_⟩
      · exfalso
        have hall := all_listed hE hsz hr
        have : listed.toList.count false = 0 := by
          rw [List.count_eq_zero]
          intro hm
          obtain ⟨j, hj, e⟩ := List.mem_iff_getElem.1 hm
          have hjl : j < listed.size := by simpa using hj
          have := hall j (by omega)
          simp [hjl] at this e
          rw [e] at this; cases this
        omega
      · obtain ⟨h0, o, ho, hdep⟩ := mem_ready.1 hi
        have hil := (Array.getElem?_eq_some_iff.1 ho).1
        have hil' : i < listed.size := by omega
        have hun : listed.getD i false = false := by simpa [hil'] using h0
        obtain ⟨hdlt, hself, hpair⟩ := at_ ho
        obtain ⟨⟨p, hs, hp'⟩, _⟩ := hL.step i o (tl ho)
        obtain ⟨k1, k2⟩ := hat i (by simpa using Nat.le_of_lt hil)
        -- what i waits for is listed; what waits for i is not
        have wait1 : ∀ j, reach ops.toList ops.toList.length i j = true → listed.getD j false = true := fun j hr => reach_listed hcl _ i j o ho hdep hr
        have wait2 : ∀ (j : Nat) (q : Oper), ops[j]? = some q → reach ops.toList ops.toList.length j i = true → listed.getD j false = false := by
          intro j q hq' hr
          cases hlj : listed.getD j false with
          | false => rfl
          | true =>
            have := reach_listed hcl _ j i q hq' (hcl j q hq' hlj) hr
            rw [hun] at this; cases this
        have htmp : ∀ t, readsG ops.toList o (some t) = true → env1[t]? = (E i)[t]? := by
          intro t hx
          by_cases hw : ∃ (j : Nat) (q : Oper), ops[j]? = some q ∧ q.dst = some t
          · obtain ⟨j, q, hq', hdq⟩ := hw
            have hji : j ≠ i := by
              intro e
              subst e
              rw [ho] at hq'; cases hq'
              rw [hdq, hx] at hself; cases hself
            have other : ∀ (j' : Nat) (q' : Oper), ops[j']? = some q' → q'.dst = some t → j' = j := by
              intro j' q' hq2 hd2
              refine Classical.byContradiction fun hne => ?_
              exact hu j j' q q' t (tl hq') (tl hq2) hne hd2 hdq
            rcases Nat.lt_or_gt_of_ne hji with hlt | hgt
            · have hpo := hpair j q hq' hlt
              unfold pairOK at hpo
              simp only [hdq, hx, Bool.true_or, Bool.and_eq_true] at hpo
              rw [hi2 j q t hq' (wait1 j hpo.2) hdq, k2 j q t (tl hq') hlt hdq ((at_ hq').1 t hdq)]
            · have hpo := (at_ hq').2.2 i o ho hgt
              unfold pairOK at hpo
              simp only [hdq, hx, Bool.true_or, Bool.or_true, Bool.and_eq_true] at hpo
              have hno := wait2 j q hq' hpo.2
              have e1 : env1[t]? = env[t]? := hi1 t fun j' q' hq2 hl2 hd2 => by
                rw [other j' q' hq2 hd2, hno] at hl2; cases hl2
              have e2 : (E i)[t]? = env[t]? := k1 t fun j' q' hq2 hj2 hd2 => by
                have := other j' q' (by simpa using hq2) hd2
                omega
              rw [e1, e2]
          · rw [hi1 t fun j q hq' _ e => hw ⟨j, q, hq', e⟩, k1 t fun j q hq' hj e => hw ⟨j, q, by simpa using hq', e⟩]
        have hev : ∀ x ∈ o.op.operands.toList, aeval env1 x = aeval (E i) x := by
          intro x hx
          cases x with
          | tmp t =>
            simp only [aeval, lget_eq]
            rw [List.getD_eq_getElem?_getD, List.getD_eq_getElem?_getD, htmp t (reads hx)]
          | _ => rfl
        have hgv : ∀ j want, o.guard = some (j, want) → guardAV ops env1 j = guardAV ops (E i) j := by
          intro j want hg
          rw [guardAV_eq, guardAV_eq]
          cases hq' : ops.toList[j]? with
          | none => rfl
          | some q =>
            simp only
            cases hdq : q.dst with
            | none => rfl
            | some d =>
              simp only
              rw [htmp d (by unfold readsG; simp only [hg, hq', hdq, sameD]; simp)]
        -- the memory that i sees
        have seen : ks.getD i 0 ≠ 0 → (∀ j, j < ops.size → turns (ks.getD j 0) = true → ¬ (ks.getD i 0 = 5 ∧ ks.getD j 0 = 6) → j < i → j < k) ∧ (∀ j, j < ops.size → turns (ks.getD j 0) = true → ¬ (ks.getD i 0 = 4 ∧ ks.getD j 0 = 3) → ¬ (ks.getD i 0 = 5 ∧ (ks.getD j 0 = 3 ∨ ks.getD j 0 = 6)) → i ≤ j → k ≤ j) := by
          intro hi0
          have hz : Nat.beq (ks.getD i 0) 0 = false := by
            cases hb : Nat.beq (ks.getD i 0) 0 with
            | false => rfl
            | true => exact absurd (Nat.beq_eq.mp hb) hi0
          refine ⟨fun j hj h2 hx hlt => ?_, fun j hj h2 hx hx5 hge => ?_⟩
          · have hq' : ops[j]? = some ops[j] := Array.getElem?_eq_getElem hj
            have hpo := hpair j _ hq' hlt
            unfold pairOK at hpo
            have hsk : skips (ks.getD i 0) (ks.getD j 0) = false := by
              cases hb : skips (ks.getD i 0) (ks.getD j 0) with
              | false => rfl
              | true =>
                unfold skips at hb
                simp only [Bool.or_eq_true, Bool.and_eq_true, Nat.beq_eq] at hb
                rcases hb with hb | hb | hb
                · rw [hb.1] at h2; exact absurd h2 (by decide)
                · rw [hb.1] at h2; exact absurd h2 (by decide)
                · exact absurd hb hx
            simp only [h2, hsk, hz, Bool.not_false, Bool.and_true, Bool.or_true, Bool.and_eq_true] at hpo
            exact (hkk j hj h2).1 (wait1 j hpo.2)
          · refine Nat.le_of_not_lt fun hlt => ?_
            have hlj := (hkk j hj h2).2 hlt
            rcases Nat.eq_or_lt_of_le hge with e | hgt
            · subst e; rw [hun] at hlj; cases hlj
            · have hq' : ops[j]? = some ops[j] := Array.getElem?_eq_getElem hj
              have hpo := (at_ hq').2.2 i o ho hgt
              unfold pairOK at hpo
              have hsk : skips (ks.getD j 0) (ks.getD i 0) = false := by
                cases hb : skips (ks.getD j 0) (ks.getD i 0) with
                | false => rfl
                | true =>
                  unfold skips at hb
                  simp only [Bool.or_eq_true, Bool.and_eq_true, Nat.beq_eq] at hb
                  rcases hb with hb | hb | hb
                  · exact absurd hb hx
                  · exact absurd hb hx5
                  · rw [hb.1] at h2; exact absurd h2 (by decide)
              simp only [h2, hsk, hz, Bool.not_false, Bool.and_self, Bool.or_true, Bool.true_or, Bool.and_eq_true] at hpo
              rw [wait2 j _ hq' hpo.2] at hlj; cases hlj
        have hHk : ks.getD i 0 ≠ 0 → ks.getD i 0 ≠ 4 → ks.getD i 0 ≠ 5 → HH k = HH i := by
          intro hi0 hi4 hi5
          obtain ⟨s1, s2⟩ := seen hi0
          rcases Nat.le_total k i with hki | hik
          · have := hL.still (i := k) (d := i - k) (by simp; omega) fun j h1 h2 => Bool.eq_false_iff.2 fun e => by
              have := s1 j (by omega) e (fun hx => hi5 hx.1) (by omega)
              omega
            rw [show k + (i - k) = i by omega] at this
            exact this.symm
          · have := hL.still (i := i) (d := k - i) (by simp; omega) fun j h1 h2 => Bool.eq_false_iff.2 fun e => by
              have := s2 j (by omega) e (fun hx => hi4 hx.1) (fun hx => hi5 hx.1) h1
              omega
            rw [show i + (k - i) = k by omega] at this
            exact this
        have hGk : ks.getD i 0 = 4 → ∃ X, HH k = HH i ++ X := by
          intro hi4
          obtain ⟨s1, s2⟩ := seen (by rw [hi4]; decide)
          rcases Nat.le_total k i with hki | hik
          · have := hL.still (i := k) (d := i - k) (by simp; omega) fun j h1 h2 => Bool.eq_false_iff.2 fun e => by
              have := s1 j (by omega) e (fun hx => absurd (hi4.symm.trans hx.1) (by decide)) (by omega)
              omega
            rw [show k + (i - k) = i by omega] at this
            exact ⟨[], by rw [List.append_nil]; exact this.symm⟩
          · have := hL.grown (i := i) (d := k - i) (by simp; omega) fun j h1 h2 e => by
              refine Classical.byContradiction fun hne => ?_
              have := s2 j (by omega) e (fun hx => hne hx.2) (fun hx => absurd (hi4.symm.trans hx.1) (by decide)) h1
              omega
            rw [show i + (k - i) = k by omega] at this
            exact this
        have hLk : ks.getD i 0 = 5 → ∀ id, live (HH i) id = true → live (HH k) id = true := by
          intro hi5
          obtain ⟨s1, s2⟩ := seen (by rw [hi5]; decide)
          have n4 : ∀ {q : Prop}, ¬ (ks.getD i 0 = 4 ∧ q) := fun hx => absurd (hi5.symm.trans hx.1) (by decide)
          rcases Nat.le_total k i with hki | hik
          · have := hL.alive (i := k) (d := i - k) (by simp; omega) fun j h1 h2 e => by
              refine Classical.byContradiction fun hne => ?_
              have := s1 j (by omega) e (fun hx => hne hx.2) (by omega)
              omega
            rw [show k + (i - k) = i by omega] at this
            exact fun id hid => by rw [← this id]; exact hid
          · have := hL.lives (i := i) (d := k - i) (by simp; omega) fun j h1 h2 e => by
              refine Classical.byContradiction fun hne => ?_
              have := s2 j (by omega) e n4 (fun hx => hne hx.2) h1
              omega
            rw [show i + (k - i) = k by omega] at this
            exact this
        have next : ∀ (k' : Nat) (ρ' : Mp) (a' : Act) (w' : World), k' ≤ ops.size → (∀ j, j < ops.size → turns (ks.getD j 0) = true → (((listed.setIfInBounds i true).getD j false = true) ↔ j < k')) → St w0 ρ0 N0 ρ' (aput env1 o.dst (R i)) (HH k') a' w' →
            wpAny P .any ops (fun e a' w' => ∃ env' H' ρ', Q e env' H' ∧ St w0 ρ0 N0 ρ' env' H' a' w') fuel (listed.setIfInBounds i true) a' w' := by
          intro k' ρ' a' w' hk' hkk' s'
          refine ih (listed.setIfInBounds i true) (aput env1 o.dst (R i)) k' ρ' a' w' (by simp [hsz]) ?_ (by simp only [aput_eq]; split <;> simp [hl]) hk' (fun j q hq' hlj e he hb => ?_) hkk' (fun t ht => ?_) (fun j q t hq' hlj hdq => ?_) s'
          · have hf : listed.toList[i] = false := by simpa [hil'] using h0
            rw [Array.toList_setIfInBounds, List.count_set (by simpa using hil'), hc]
            simp [hf]
          · by_cases e' : j = i
            · subst e'
              rw [ho] at hq'; cases hq'
              exact getD_set_true (hdep e he hb)
            · rw [getD_set_ne false (Ne.symm e')] at hlj
              exact getD_set_true (hcl j q hq' hlj e he hb)
          · simp only [aput_eq]
            have hself' : (listed.setIfInBounds i true).getD i false = true := by simp [hil']
            split
            · rename_i d hd
              have hne : d ≠ t := fun e => ht i o ho hself' (by rw [hd, e])
              rw [List.getElem?_set_ne hne]
              exact hi1 t fun j q hq' hlj => ht j q hq' (getD_set_true hlj)
            · exact hi1 t fun j q hq' hlj => ht j q hq' (getD_set_true hlj)
          · by_cases e : j = i
            · subst e
              rw [ho] at hq'; cases hq'
              simp only [aput_eq, hdq]
              rw [List.getElem?_set_self (by rw [hl]; exact hdlt t hdq)]
            · rw [getD_set_ne false (Ne.symm e)] at hlj
              simp only [aput_eq]
              split
              · rename_i d hd
                have hne : d ≠ t := fun e' => hu i j o q t (tl ho) (tl hq') e hdq (by rw [hd, e'])
                rw [List.getElem?_set_ne hne]
                exact hi2 j q t hq' hlj hdq
              · exact hi2 j q t hq' hlj hdq
        have other : ∀ j, j ≠ i → (listed.setIfInBounds i true).getD j false = listed.getD j false := fun j hj => getD_set_ne false (Ne.symm hj)
        have hself' : (listed.setIfInBounds i true).getD i false = true := by simp [hil']
        by_cases hi0 : ks.getD i 0 = 0
        · have hs' := (astepG_kind hs).2.1 hi0 (HH k)
          refine wpOp_G htt hct ho hs' hp' hev hgv s _ fun ρ' a' w' s' => next k ρ' a' w' hk (fun j hj h2 => ?_) s'
          rw [other j (fun e => by rw [e, hi0] at h2; exact absurd h2 (by decide))]
          exact hkk j hj h2
        · by_cases hi4 : ks.getD i 0 = 4
          · obtain ⟨X, hX⟩ := hGk hi4
            have hs' := (astepG_kind hs).2.2.2.1 hi4 X
            rw [← hX] at hs'
            refine wpOp_G htt hct ho hs' hp' hev hgv s _ fun ρ' a' w' s' => next k ρ' a' w' hk (fun j hj h2 => ?_) s'
            rw [other j (fun e => by rw [e, hi4] at h2; exact absurd h2 (by decide))]
            exact hkk j hj h2
          by_cases hi5 : ks.getD i 0 = 5
          · have hs' := (astepG_kind hs).2.2.2.2.1 hi5 (HH k) (hLk hi5)
            refine wpOp_G htt hct ho hs' hp' hev hgv s _ fun ρ' a' w' s' => next k ρ' a' w' hk (fun j hj h2 => ?_) s'
            rw [other j (fun e => by rw [e, hi5] at h2; exact absurd h2 (by decide))]
            exact hkk j hj h2
          have eH := hHk hi0 hi4 hi5
          rw [eH] at s
          by_cases hi2' : turns (ks.getD i 0) = true
          · refine wpOp_G htt hct ho hs hp' hev hgv s _ fun ρ' a' w' s' => next (i + 1) ρ' a' w' (by omega) (fun j hj h2 => ?_) s'
            obtain ⟨s1, s2⟩ := seen hi0
            by_cases e : j = i
            · subst e; simp [hself']
            · rw [other j e, hkk j hj h2]
              constructor
              · intro hlt
                rcases Nat.lt_or_ge j i with h' | h'
                · omega
                · have := s2 j hj h2 (fun hx => hi4 hx.1) (fun hx => hi5 hx.1) h'; omega
              · intro hlt
                exact s1 j hj h2 (fun hx => hi5 hx.1) (by omega)
          · have e1 : HH (i + 1) = HH i := (astepG_kind hs).1 (Bool.eq_false_iff.2 hi2')
            refine wpOp_G htt hct ho hs hp' hev hgv s _ fun ρ' a' w' s' => next k ρ' a' w' hk (fun j hj h2 => ?_) (by rw [eH, ← e1]; exact s')
            rw [other j (fun e => by rw [e] at h2; exact hi2' h2)]
            exact hkk j hj h2
  refine key _ _ env 0 ρ a _ (by simp) (by simp) rfl (Nat.zero_le _) (fun i o ho hli => ?_) (fun j hj _ => by simp [hj]) (fun t _ => rfl) (fun j o t ho hlj _ => ?_) ?_
  · have hil := (Array.getElem?_eq_some_iff.1 ho).1
    simp [hil] at hli
  · have hjl := (Array.getElem?_eq_some_iff.1 ho).1
    simp [hjl] at hlj
  · rw [hL.start.2]
    exact ⟨s.defers, ⟨s.env.len, fun t x v h1 h2 => (s.env.at_ t x v h1 h2).mono (Pass.same ρ _ rfl rfl rfl rfl) (Nat.le_refl _)⟩, s.rel.same rfl rfl rfl rfl, s.pass.trans (Pass.same ρ _ rfl rfl rfl rfl)⟩
end

/-! ### Whole code -/
inductive Out where
  | leaf (x : Exit) (env : List AV) (H : Heap)
  | br (b : Th Bool) (t e : Out)
  | obs (ps : List (Th Prop)) (t : Out)
  | code (c : Code) (env : List AV) (H : Heap) (k : Exit → List AV → Heap → Out)
  | ops (l : Array Oper) (i : Nat) (env : List AV) (H : Heap) (k : List AV → Heap → Out)
def Post (P : Program) (N0 : Nat) (Q : Exit → List AV → Heap → Prop) : Out → Prop
  | .leaf x e h => Q x e h
  | .br b t e => (b .u = true → Post P N0 Q t) ∧ (b .u = false → Post P N0 Q e)
  | .obs ps t => All ps ∧ (All ps → Post P N0 Q t)
  | .code c e h k => AW P N0 c (fun x e h => Post P N0 Q (k x e h)) e h
  | .ops l i e h k => AOps P l N0 (fun e h => Post P N0 Q (k e h)) i e h
def thenO (f : List AV → Heap → Out) : Out → Out
  | .leaf .normal e h => f e h
  | .leaf x e h => .leaf x e h
  | .br b t e => .br b (thenO f t) (thenO f e)
  | .obs ps t => .obs ps (thenO f t)
  | .code c e h k => .code c e h fun x e h => thenO f (k x e h)
  | .ops l i e h k => .ops l i e h fun e h => thenO f (k e h)
def blockO (id : Nat) : Out → Out
  | .leaf (.exit id') e h => match Nat.beq id' id with
    | true => .leaf .normal e h
    | false => .leaf (.exit id') e h
  | .leaf x e h => .leaf x e h
  | .br b t e => .br b (blockO id t) (blockO id e)
  | .obs ps t => .obs ps (blockO id t)
  | .code c e h k => .code c e h fun x e h => blockO id (k x e h)
  | .ops l i e h k => .ops l i e h fun e h => blockO id (k e h)
theorem post_mono {Q Q' : Exit → List AV → Heap → Prop} (hq : ∀ x e h, Q x e h → Q' x e h) : ∀ {o : Out}, Post P N0 Q o → Post P N0 Q' o := by
  intro o
  induction o with
  | leaf x e h => exact hq x e h
  | br b t e ih1 ih2 => exact fun h => ⟨fun hb => ih1 (h.1 hb), fun hb => ih2 (h.2 hb)⟩
  | obs ps t ih => exact fun h => ⟨h.1, fun hp => ih (h.2 hp)⟩
  | code c e h k ih => exact fun hh => AW.mono hh fun x e h hx => ih x e h hx
  | ops l i e h k ih => exact fun hh Q1 w0 ρ0 ρ a w s hQ => hh Q1 w0 ρ0 ρ a w s fun env' H' ρ' a' w' hk => hQ env' H' ρ' a' w' (ih env' H' hk)
theorem post_then {Q : Exit → List AV → Heap → Prop} {f : List AV → Heap → Out} : ∀ {o : Out}, Post P N0 Q (thenO f o) → Post P N0 (thenA (fun e h => Post P N0 Q (f e h)) Q) o := by
  intro o
  induction o with
  | leaf x e h => cases x <;> exact fun h => h
  | br b t e ih1 ih2 => exact fun h => ⟨fun hb => ih1 (h.1 hb), fun hb => ih2 (h.2 hb)⟩
  | obs ps t ih => exact fun h => ⟨h.1, fun hp => ih (h.2 hp)⟩
  | code c e h k ih => exact fun hh => AW.mono hh fun x e h hx => ih x e h hx
  | ops l i e h k ih => exact fun hh Q1 w0 ρ0 ρ a w s hQ => hh Q1 w0 ρ0 ρ a w s fun env' H' ρ' a' w' hk => hQ env' H' ρ' a' w' (ih env' H' hk)
theorem post_block {Q : Exit → List AV → Heap → Prop} {id : Nat} : ∀ {o : Out}, Post P N0 Q (blockO id o) → Post P N0 (blockA id Q) o := by
  intro o
  induction o with
  | leaf x e h =>
    cases x with
    | exit id' =>
      intro hh
      simp only [blockO] at hh
      simp only [Post, blockA]
      split at hh
      · rename_i e'
        rw [if_pos (Nat.beq_eq.mp e')]
        exact hh
      · rename_i e'
        rw [if_neg (fun e => by rw [e, Nat.beq_refl] at e'; cases e')]
        exact hh
    | _ => exact fun h => h
  | br b t e ih1 ih2 => exact fun h => ⟨fun hb => ih1 (h.1 hb), fun hb => ih2 (h.2 hb)⟩
  | obs ps t ih => exact fun h => ⟨h.1, fun hp => ih (h.2 hp)⟩
  | code c e h k ih => exact fun hh => AW.mono hh fun x e h hx => ih x e h hx
  | ops l i e h k ih => exact fun hh Q1 w0 ρ0 ρ a w s hQ => hh Q1 w0 ρ0 ρ a w s fun env' H' ρ' a' w' hk => hQ env' H' ρ' a' w' (ih env' H' hk)
/-- What a call comes to, by its cases. -/
def ansO (dst : Option Tmp) (env : List AV) (H : Heap) (σ : List Nat) (k : List AV → Heap → Out) : Ans → Out
  | .one r H' p => .obs [p] (k (aput env dst (ren (upM σ H.length) r)) (afterCall H σ H'))
  | .two b y n => .br b (ansO dst env H σ k y) (ansO dst env H σ k n)
/-- An operation under a guard that makes or writes memory: the guard, and what it does where it is done. -/
def aguard (tt : TT) (ops : Array Oper) (env : List AV) (H : Heap) (o : Oper) : Option (Th Bool × AV × Heap × Th Prop) :=
  match o.guard with
  | some (j, want) => match guardAV ops env j with
    | some (c, b) => match aoph tt H (fun x => unOn (aeval env x)) o.op with
      | some (r, H2, p) => match condsOf env o.op.operands.toList with
        | q => some (fun _ => c .u && (b .u == want), r, H2, fun _ => q .u ∧ p .u)
      | none => none
    | none => none
  | none => none
/-- Where it is not done, its answer is nil. -/
def dull : AV → AV
  | .own .. => .v (.slice none 0 0)
  | .ptr .. => .v (.pointer none)
  | a => a
theorem AOps.guarded {tt : TT} (htt : TTok P tt) {ops : Array Oper} {K : List AV → Heap → Prop} {i : Nat} {o : Oper} {env : List AV} {H H2 : Heap} {g : Th Bool} {r : AV} {q : Th Prop} (ho : ops[i]? = some o) (ha : aguard tt ops env H o = some (g, r, H2, q))
    (h1 : g .u = true → q .u ∧ (q .u → AOps P ops N0 K (i + 1) (aput env o.dst r) H2)) (r0 : AV) (h2 : g .u = false → AOps P ops N0 K (i + 1) (aput env o.dst (.on (fun _ => false) r0)) H) : AOps P ops N0 K i env H := by
  unfold aguard at ha
  split at ha <;> first | (cases ha; done) | skip
  rename_i j want hg
  split at ha <;> first | (cases ha; done) | skip
  rename_i c b hgav
  split at ha <;> first | (cases ha; done) | skip
  rename_i r' H2' p hr
  cases ha
  cases hc : (c .u && (b .u == want)) with
  | false => exact AOps.pass ho hg hgav hc r0 (fun _ => false) rfl (h2 hc)
  | true =>
    obtain ⟨⟨hq, hp⟩, hk⟩ := h1 hc
    have hk := hk ⟨hq, hp⟩
    intro Q w0 ρ0 ρ a w s hQ
    have hlt : i < ops.size := (Array.getElem?_eq_some_iff.1 ho).1
    rw [range'_step hlt]
    simp only [wpOps, ho]
    have hc' := hc
    simp only [Bool.and_eq_true, beq_iff_eq] at hc'
    have hd : Done ops env o := .inr ⟨j, want, c, b, hg, hgav, hc'.1, hc'.2⟩
    rw [if_pos (hd.wanted s)]
    have hL : w0.heap.size ≤ w.heap.size := s.pass.size
    obtain ⟨v, w', ρ', hrun, hR, hP, hv⟩ := aoph_sound htt s.rel hL hr hp (a := a) fun x hx => (aeval_sound s.env x).unOn (conds_at hq x hx)
    have s' := s.step hR hP hv o.dst
    left
    unfold Oper.wp Oper.upon
    rcases hrun with hrun | ⟨hrun, rfl⟩ <;> rw [hrun] <;> exact hk Q w0 ρ0 ρ' _ w' s' hQ
/-- A region; it stops at calls that are answered by cases, and goes on behind them. -/
def aregion (tt : TT) (ct : CT) (ops : Array Oper) : List Oper → Nat → List AV → Heap → Out
  | [], i, env, H => .ops ops i env H fun e h => .leaf .normal e h
  | _ :: fuel, i, env, H => match arunC tt ct ops (ops.toList.drop i) i env H with
    | (j, env', H', ps) => .obs ps (match Nat.ble ops.size j with
      | true => .leaf .normal env' H'
      | false => match ops.toList[j]? with
        | some o => match agcall ct env' H' o with
          | some (σ, a, q) => .obs [q] (ansO o.dst env' H' σ (aregion tt ct ops fuel (j + 1)) a)
          | none => match aguard tt ops env' H' o with
            | some (g, r, H2, q) => .br g (.obs [q] (aregion tt ct ops fuel (j + 1) (aput env' o.dst r) H2)) (aregion tt ct ops fuel (j + 1) (aput env' o.dst (.on (fun _ => false) (dull r))) H')
            | none => .ops ops j env' H' fun e h => .leaf .normal e h
        | none => .ops ops j env' H' fun e h => .leaf .normal e h)
def aexec (tt : Th TT) (ct : Th CT) : Code → List AV → Heap → Out
  | .region id ops d, env, H => match d with
    | false => aregion (tt .u) (ct .u) ops (default :: ops.toList) 0 env H
    | true => match arunV (tt .u) (ct .u) ops ops.toList env H with
      | some (fin, H', ks, ps) => match orderOK ops.toList ks env.length with
        | true => .obs ps (.leaf .normal fin H')
        | false => .code (.region id ops true) env H fun x e h => .leaf x e h
      | none => .code (.region id ops true) env H fun x e h => .leaf x e h
  | .seq a b, env, H => thenO (aexec tt ct b) (aexec tt ct a env H)
  | .skip, env, H => .leaf .normal env H
  | .ret, env, H => .leaf .ret env H
  | .exit id, env, H => .leaf (.exit id) env H
  | .cond c x y, env, H => match aeval env c with
    | .b b => .br b (aexec tt ct x env H) (aexec tt ct y env H)
    | _ => .code (.cond c x y) env H fun x e h => .leaf x e h
  | .block id c, env, H => blockO id (aexec tt ct c env H)
  | c, env, H => .code c env H fun x e h => .leaf x e h
theorem ansO_post {ops : Array Oper} {i : Nat} {env : List AV} {H : Heap} {dst : Option Tmp} {σ : List Nat} {Q : Exit → List AV → Heap → Prop} {K : List AV → Heap → Prop} {k : List AV → Heap → Out} (hk : ∀ e h, Post P N0 Q (k e h) → AOps P ops N0 K (i + 1) e h) :
    ∀ {a : Ans}, Post P N0 Q (ansO dst env H σ k a) → AnsK P ops N0 K i env H dst σ a := by
  intro a
  induction a with
  | one r H' p => exact fun h => ⟨h.1.1, fun hp => hk _ _ (h.2 ⟨hp, trivial⟩)⟩
  | two b y n ih1 ih2 => exact fun h => ⟨fun hb => ih1 (h.1 hb), fun hb => ih2 (h.2 hb)⟩
theorem aregion_sound {tt : TT} (htt : TTok P tt) {ct : CT} (hct : CTok P ct) {ops : Array Oper} {Q : Exit → List AV → Heap → Prop} : ∀ (fuel : List Oper) (i : Nat) (env : List AV) (H : Heap), Post P N0 Q (aregion tt ct ops fuel i env H) → AOps P ops N0 (fun e h => Q .normal e h) i env H := by
  intro fuel
  induction fuel with
  | nil => intro i env H h; exact h
  | cons o0 fuel ih =>
    intro i env H h
    simp only [aregion] at h
    generalize hr : arunC tt ct ops (ops.toList.drop i) i env H = r at h
    obtain ⟨j, env', H', ps⟩ := r
    simp only [Post] at h
    obtain ⟨hp, h⟩ := h
    have h := h hp
    refine AOps.runC htt hct hr hp ?_
    split at h
    · rename_i e
      exact AOps.done (Nat.le_of_ble_eq_true e) h
    · split at h
      · rename_i o ho
        split at h
        · rename_i σ a q hs
          obtain ⟨hq, h⟩ := h
          exact AOps.toldG hct (by simpa using ho) hs hq.1 (ansO_post (fun e h => ih _ e h) (h hq))
        · split at h
          · rename_i g r H2 q hgd
            obtain ⟨ha, hb⟩ := h
            exact AOps.guarded htt (by simpa using ho) hgd (fun e => ⟨(ha e).1.1, fun hq => ih _ _ _ ((ha e).2 ⟨hq, trivial⟩)⟩) _ (fun e => ih _ _ _ (hb e))
          · exact h
      · exact h
theorem AW.exec' {tt : TT} (htt : TTok P tt) {ct : CT} (hct : CTok P ct) : ∀ {c : Code} {Q : Exit → List AV → Heap → Prop} {env : List AV} {H : Heap}, Post P N0 Q (aexec (fun _ => tt) (fun _ => ct) c env H) → AW P N0 c Q env H := by
  intro c
  have same : ∀ (c : Code) (Q : Exit → List AV → Heap → Prop) (env : List AV) (H : Heap), Post P N0 Q (.code c env H fun x e h => .leaf x e h) → AW P N0 c Q env H := fun c Q env H h => h
  induction c with
  | region id ops d =>
    intro Q env H h
    cases d with
    | true =>
      simp only [aexec] at h
      split at h
      · rename_i fin H' ks ps hq
        split at h
        · rename_i hd
          exact AW.drawnA htt hct hq hd h.1 (h.2 h.1)
        · exact same _ _ _ _ h
      · exact same _ _ _ _ h
    | false =>
      simp only [aexec] at h
      exact AW.region (aregion_sound htt hct _ 0 env H h)
  | seq a b iha ihb =>
    intro Q env H h
    refine AW.seq (iha (post_mono ?_ (post_then h)))
    intro x e h hx
    cases x <;> first | exact ihb hx | exact hx
  | skip => intro Q env H h; exact AW.skip h
  | ret => intro Q env H h; exact AW.ret h
  | exit id => intro Q env H h; exact AW.exit h
  | cond c x y ihx ihy =>
    intro Q env H h
    simp only [aexec] at h
    split at h
    · rename_i b hb
      exact AW.cond hb (fun e => ihx (h.1 e)) (fun e => ihy (h.2 e))
    · exact same _ _ _ _ h
  | block id c ih => intro Q env H h; exact AW.block (ih (post_block h))
  | _ => intro Q env H h; exact same _ _ _ _ h
theorem AW.exec {tt : TT} (htt : TTok P tt) {ct : CT} (hct : CTok P ct) {c : Code} {Q : Exit → List AV → Heap → Prop} {env : List AV} {H : Heap} {o : Out} (he : aexec (fun _ => tt) (fun _ => ct) c env H = o) (h : Post P N0 Q o) : AW P N0 c Q env H := AW.exec' htt hct (he ▸ h)
theorem Post.eval {Q : Exit → List AV → Heap → Prop} {o o' : Out} (he : o = o') (h : Post P N0 Q o') : Post P N0 Q o := he ▸ h

/-! ### Loops -/
/-- What is told is told anew, all names the same. -/
def EntTo (H H' : Heap) (σ : List Nat) : Option (Bool × Blk) → Option (Bool × Blk) → Prop
  | _, none => True
  | some (fr, B), some (fr', B') => (fr' = true → fr = true) ∧ BlkTo H H' σ true B B'
  | none, some _ => False
def EntsTo (H H' : Heap) (σ : List Nat) : Heap → Heap → Prop
  | _, [] => True
  | e :: l, e' :: l' => EntTo H H' σ e e' ∧ EntsTo H H' σ l l'
  | [], _ => False
theorem EntsTo.at_ {H H' : Heap} {σ : List Nat} : ∀ {l l' : Heap}, EntsTo H H' σ l l' → l'.length ≤ l.length ∧ ∀ (j : Nat) (fr : Bool) (B' : Blk), l'[j]? = some (some (fr, B')) → ∃ fr0 B, l[j]? = some (some (fr0, B)) ∧ (fr = true → fr0 = true) ∧ BlkTo H H' σ true B B' := by
  intro l
  induction l with
  | nil => intro l' h; cases l' with
    | nil => exact ⟨Nat.le_refl _, fun j fr B h => by simp at h⟩
    | cons e l' => exact h.elim
  | cons e l ih =>
    intro l' h
    cases l' with
    | nil => exact ⟨Nat.zero_le _, fun j fr B h => by simp at h⟩
    | cons e' l' =>
      obtain ⟨h1, h2⟩ := h
      obtain ⟨k1, k2⟩ := ih h2
      refine ⟨by simp; omega, fun j fr B' hj => ?_⟩
      cases j with
      | zero =>
        simp only [List.getElem?_cons_zero, Option.some.injEq] at hj
        subst hj
        match e, h1 with
        | some (fr0, B), h1 => exact ⟨fr0, B, rfl, h1.1, h1.2⟩
      | succ j => exact k2 j fr B' hj
def To (N0 : Nat) (env : List AV) (H : Heap) (env' : List AV) (H' : Heap) : Prop := ∃ σ, HeapTo H H' σ true ∧ AllTo H H' σ true env env' ∧ N0 ≤ H'.length ∧ ∀ j, j < N0 → live H' j = true → σ[j]? = some j
theorem range_at {n j : Nat} (h : j < n) : (List.range n)[j]? = some j := by rw [List.getElem?_range h]
theorem To.same {env env' : List AV} {H H' : Heap} (hN : N0 ≤ H'.length) (hH : EntsTo H H' (List.range H'.length) H H') (h : AllTo H H' (List.range H'.length) true env env') : To N0 env H env' H' := by
  obtain ⟨h1, h2⟩ := hH.at_
  refine ⟨List.range H'.length, ⟨fun j fr B' hj => ?_, fun j j' id l1 l2 e1 e2 => ?_⟩, h, hN, fun j hj _ => range_at (by omega)⟩
  · obtain ⟨fr0, B, k1, k2, k3⟩ := h2 j fr B' hj
    exact ⟨j, fr0, B, range_at (List.getElem?_eq_some_iff.1 hj).1, k1, fun e => ⟨k2 e, rfl⟩, k3⟩
  · rw [range_at (live_lt l1)] at e1
    rw [range_at (live_lt l2)] at e2
    cases e1; cases e2; rfl
theorem BlkTo.tab {H H' : Heap} {σ : List Nat} {keep : Bool} {n n' : Th Nat} {sz : Nat} {g g' : Th Nat → Nat → AV} (hn : n' .u ≤ n .u) (h : ∀ i c, i < n' .u → c < sz → AvTo H H' σ keep (g (fun _ => i) c) (g' (fun _ => i) c)) : BlkTo H H' σ keep (.tab n sz g) (.tab n' sz g') := by
  intro off a' h'
  cases h' with | tab i c hi hc => exact ⟨_, .tab i c (by omega) hc, h i c hi hc⟩
theorem BlkTo.box {H H' : Heap} {σ : List Nat} {keep : Bool} {l l' : List AV} (h : AllTo H H' σ keep l l') : BlkTo H H' σ keep (.box l) (.box l') := by
  intro off a' h'
  cases h' with | box hb => obtain ⟨a, ha, hto⟩ := h.get _ _ hb; exact ⟨a, .box ha, hto⟩
theorem AvTo.nilRo {H H' : Heap} {σ : List Nat} {keep : Bool} {n : Th Nat} {fr : Bool} {sz : Nat} {g : Th Nat → Nat → AV} (h : n .u = 0) : AvTo H H' σ keep (.v (.slice none 0 0)) (.ro fr n sz g) := fun _ _ _ _ _ _ _ hs => by
  cases hs; exact .ro0 h
theorem AvTo.onT {H H' : Heap} {σ : List Nat} {keep : Bool} {b : Th Bool} {a a' : AV} (hb : b .u = true) (h : AvTo H H' σ keep a a') : AvTo H H' σ keep (.on b a) a' := fun w ρ L L' v hL hR hs => by
  cases hs with | on h1 _ => exact h w ρ L L' v hL hR (h1 hb)
/-- A loop: what is told at its head, by an index that goes on. -/
theorem AW.loopTo {c : Code} {Q : Exit → List AV → Heap → Prop} {env : List AV} {H : Heap} {ι : Type} (J : ι → Prop) (m : ι → Nat) (E : ι → List AV) (F : ι → Heap) (x0 : ι) (hJ : J x0) (h0 : To N0 env H (E x0) (F x0))
    (round : ∀ x, J x → AW P N0 c (thenA (fun e h => ∃ y, J y ∧ m y < m x ∧ To N0 e h (E y) (F y)) Q) (E x) (F x)) : AW P N0 (.loop c) Q env H := by
  refine AW.loop (fun n env H => ∃ x, J x ∧ m x = n ∧ To N0 env H (E x) (F x)) (n := m x0) ⟨x0, hJ, rfl, h0⟩ fun n env H hI => ?_
  obtain ⟨x, hx, rfl, σ, k1, k2, k3, k4⟩ := hI
  refine AW.to σ k1 k2 k3 k4 (AW.mono (round x hx) ?_)
  intro e env' H' h
  cases e with
  | normal =>
    obtain ⟨y, h1, h2, h3⟩ := h
    exact ⟨m y, h2, y, h1, rfl, h3⟩
  | _ => exact h
end
end Go.Aw
