/- From a law's contract to its row: arguments that are read, the call, the arguments read again. -/
import Derived.Test.YtfdmmbcjidkmoaaAwo
import Derived.ReadAgain
import Derived.ChangeSame
import Derived.RowKit
import Derived.Carry
import Derived.Handed
import Derived.Deep.Slices
namespace Go.Aw
open Go.ChangeShapes Go.WideShapes Go.RowKit

/-! ### What is read again -/
section
variable {H : Type} {enc : TypeId × Value → H} {P : Program}
theorem trodAll_carry {w w' : World} {base : Nat} {spare : Nat → Bool} {held : Bool} : ∀ {ts : List TypeId} {vs : List Value} {ds : List (DataW H)} {ps : List MemPlace}, DataW.TrodAll enc P w base spare held ts vs ds ps → (∀ p ∈ ps, w.sameAt w' p) → DataW.TrodAll enc P w' base spare held ts vs ds ps
  | [], [], [], _, h, _ => h
  | _ :: _, _ :: _, _ :: _, _, ⟨p, q, ⟨n, h1⟩, h2, e⟩, hs => ⟨p, q, ⟨n, DataW.trod_carry n _ _ _ h1 fun x hx => hs x (by rw [e]; exact List.mem_append_left _ hx)⟩, trodAll_carry h2 fun x hx => hs x (by rw [e]; exact List.mem_append_right _ hx), e⟩
theorem post_of_below {f : Func} {s : ChangeSpec} {apart fresh handsOn again : Bool} {W W' : World} {args : Array Value} {v : Value} {ds gs : List (DataW H)} {before pa pv : List MemPlace}
    (hW : DataW.Whole enc P f.params.toList s.vars apart W args.toList ds gs before)
    (hres : ∀ (b : Nat) (sp : Nat → Bool) (hd : Bool), DataW.TrodAll enc P W' b sp hd f.resultTypes.toList (v.resultList f.resultTypes.size) (s.fn H (ds ++ gs)).results [])
    (hargs : ∀ sp : Nat → Bool, (∀ p ∈ before, sp p.block = true) → DataW.TrodAll enc P W' 0 sp true f.params.toList args.toList (s.fn H (ds ++ gs)).args pa)
    (hvars : ∀ sp : Nat → Bool, (∀ p ∈ before, sp p.block = true) → DataW.TrodVars enc P W' sp s.vars (s.fn H (ds ++ gs)).vars pv)
    (hps : before = pa ++ pv) (hb : Below W.heap.size W W')
    (hok : ∀ (j : Nat) (t : TypeId) (r : Value), f.resultTypes[j]? = some t → (v.resultList f.resultTypes.size)[j]? = some r → Value.okWide P W' .any 0 t r) :
    s.post enc P f apart fresh handsOn again W args v W' := by
  have hlt : ∀ p ∈ before, p.block < W.heap.size := fun p hp => hW.lt p hp
  have hold : ∀ p ∈ before, (fun b => decide (b < W.heap.size)) p.block = true := fun p hp => by simpa using hlt p hp
  refine ⟨ds, gs, before, [], pa, pv, hW, hres _ _ _, hargs _ hold, hvars _ hold, World.keptBut_mono (fun p hp => ⟨hp, ?_⟩) (hb.frame (· ∈ before)), fun _ => ?_⟩
  · rw [hps, List.mem_append] at hp
    exact Or.inr hp
  · obtain ⟨_, _, _, _, _, hz, hn⟩ := hW
    refine ⟨hok, _, _, ([] ++ pa) ++ pv, ⟨[] ++ pa, pv, trodAll_append (hargs _ (fun _ _ => rfl)) (hres _ _ _), hvars _ (fun _ _ => rfl), rfl, ?_, ?_⟩, ?_⟩
    · intro b off hp
      have hin : MemPlace.cell b off ∈ before := by rw [hps]; simpa using hp
      rw [hb.frozen (hlt _ hin)]
      exact hz b off hin
    · intro ha
      have := hn ha
      rw [hps] at this
      simpa using this
    · intro p hp _
      rw [hps]
      simpa using hp
theorem trodAll_len {w : World} {base : Nat} {spare : Nat → Bool} {held : Bool} : ∀ {ts : List TypeId} {vs : List Value} {ds : List (DataW H)} {ps : List MemPlace}, DataW.TrodAll enc P w base spare held ts vs ds ps → ds.length = ts.length
  | [], [], [], _, _ => rfl
  | _ :: _, _ :: _, _ :: _, _, ⟨_, _, _, h2, _⟩ => by simp [trodAll_len h2]
/-- No names at all. -/
def noMp : Mp := fun _ => none
theorem rel_nil (w : World) (L : Nat) (hw : LoreX w) (hL : loreG ≤ L) : Rel w noMp L [] := ⟨fun id blk h => (by cases h), fun id fr B h => (by simp at h), fun id id' blk h => (by cases h), hw, fun id blk h => (by cases h), hL⟩
theorem below_of_pass {w w' : World} {ρ' : Mp} (h : Pass w noMp 0 w' ρ' 0) : Below w.heap.size w w' := ⟨h.os, h.tape, h.output, h.size, fun k hk => h.cells k hk fun id h => (by cases h)⟩
/-- A law over plain data out of its contract. -/
theorem lifted {a : Assume} {C : Checked} {os : Os} {f : FuncId} {fn : Func} {s : ChangeSpec} {conds : List PathCond} {apart fresh handsOn again : Bool} {tb : TypeId}
    (own : ownKnob C.prog.godebug = none) (started : os.Started) (noInit : C.prog.inits.idxOf? f = none) (hfn : C.prog.funcs[f]? = some fn)
    (witness : ∃ (w : World) (tape : Tape) (i : Input), w.os = os ∧ (w.forCall tape i).Shaped C.prog ∧ i.vars = [] ∧ Input.okWide C.prog (w.forCall tape i) .any w.heap.size f i ∧
      s.pre6 enc C.prog fn conds apart (w.forCall tape i).memory i.args ∧ a.holds C.prog (lone (Frame.enter C.prog f i.args .normal) [] (w.forCall tape i)))
    (hl : laidOutB C.prog = true) (hm : mapsRowed C.prog = true) (hfull : ∀ t e, t < C.prog.types.size → C.prog.underlying t = some (.slice e) → 0 < C.prog.cellsOf e)
    (hpar : ∀ t ∈ fn.params.toList, t < C.prog.types.size) (hrt : fn.resultTypes = #[tb]) (htb : C.prog.underlying tb = some .bool) (hv : s.vars = [])
    (hs : ∀ ds : List (DataW H), ds.length = fn.params.size → (s.fn H ds).results = [.lit (.bool true)] ∧ (s.fn H ds).args = ds ∧ (s.fn H ds).vars = [])
    (hcon : ∀ (W : World) (base : Nat) (args : Array Value) (ds : List (DataW H)) (ps : List MemPlace), (∀ (j : Nat) t v, fn.params[j]? = some t → args[j]? = some v → Value.okWide C.prog W .any base t v) → DataW.TrodAll enc C.prog W 0 (fun _ => true) true fn.params.toList args.toList ds ps →
      ∃ avs : List AV, avs.length = args.size ∧ (∀ (j : Nat) (x : AV) (v : Value), avs[j]? = some x → args[j]? = some v → Sim W noMp 0 W.heap.size x v) ∧ Con C.prog f avs [] (.b fun _ => true) []) (hlore : ∀ W : World, LoreX W := by exact fun _ => trivial) :
    ReturnsInHanded a C os f .any (s.pre6 enc C.prog fn conds apart) (s.post enc C.prog fn apart fresh handsOn again) := by
  refine returnsInHanded_of_change own started noInit hfn witness ?_
  intro W base args ds gs before hval hW _ _
  have hW' := hW
  obtain ⟨p, q, hA, hV, rfl, _, _⟩ := hW
  rw [hv] at hV
  obtain ⟨rfl, rfl⟩ := trodVars_none hV
  obtain ⟨avs, hlen, hsim, con⟩ := hcon W base args ds p hval hA
  have hdl : ds.length = fn.params.size := by
    have := trodAll_len hA
    simpa using this
  obtain ⟨hr, ha, hvs⟩ := hs ds hdl
  refine (con.call W noMp args (rel_nil W _ (hlore W) (lore_big (hlore W))) hlen hsim).mono fun e W' ⟨v, ρ', he, hsv, _, hpass⟩ => ?_
  subst he
  cases hsv.b_inv
  have hb := below_of_pass hpass
  refine ⟨_, rfl, post_of_below (pa := p) (pv := []) hW' (fun b sp hd => ?_) (fun sp hsp => ?_) (fun sp _ => ?_) rfl hb ?_⟩
  · rw [List.append_nil, hr, hrt]
    exact trodAll_mk1 (shut_bool htb true)
  · rw [List.append_nil, ha]
    refine DataW.TrodAll.respare (kids_rows hl hm) hfull hpar (trodAll_carry hA fun x hx => hb.same (hW'.lt x (by simpa using hx))) fun x hx => hsp x (by simpa using hx)
  · rw [List.append_nil, hvs, hv]
    rfl
  · exact ok_one hrt rfl (okWide_bool_mk htb true)

/-! ### Arguments -/
theorem read_int {w : World} {t : TypeId} {k : IntKind} {v : Value} {base L : Nat} {d : DataW H} {ps : List MemPlace} (ht : P.underlying t = some (.int k)) (ho : Value.okWide P w .any base t v) (h : DataW.Trod enc P w 0 (fun _ => true) true t v d ps) :
    ∃ n : Int, (Lit.int k n).wf = true ∧ Sim w noMp 0 L (.i k fun _ => n) v := by
  obtain ⟨n, rfl⟩ := okWide_int ht ho
  obtain ⟨fuel, hf⟩ := h
  cases fuel with
  | zero => simp [DataW.trod] at hf
  | succ fuel =>
    simp only [DataW.trod, ht, Value.cells] at hf
    simp at hf
    exact ⟨n, hf.1, .i⟩
theorem read_f32 {w : World} {t : TypeId} {v : Value} {fuel : Nat} {x : DataW H × List MemPlace} (ht : P.underlying t = some (.float .f32)) (h : DataW.trod enc P w 0 (fun _ => true) true fuel t [v] = some x) : ∃ b, v = .float .f32 b := by
  cases fuel with
  | zero => simp [DataW.trod] at h
  | succ fuel =>
    cases v <;> simp [DataW.trod, ht] at h
    exact ⟨_, by rw [h.1.1]⟩
/-- A list of numbers, as one cell. -/
theorem row_floats {w : World} {t e : TypeId} {v : Value} {fuel : Nat} {y : DataW H × List MemPlace} (ht : P.underlying t = some (.slice e)) (he : P.underlying e = some (.float .f32)) (hc : P.cellsOf e = 1)
    (h : DataW.trod enc P w 0 (fun _ => true) true fuel t [v] = some y) : ∃ (n : Nat) (x : Nat → Nat), n ≤ 9223372036854775807 ∧ v.oneCell' = true ∧ Sim w noMp 0 w.heap.size (.ro false (fun _ => n) 1 fun i _ => .f .f32 fun _ => x (i .u)) v := by
  rcases Deep.open_slice1 ht hc h with ⟨hcs, _⟩ | ⟨a, len, cap, m, k, V, D, Pl, hcs, _, hl, hmx, hm, _, hx⟩
  · simp only [List.cons.injEq, and_true] at hcs
    subst hcs
    exact ⟨0, fun _ => 0, by omega, rfl, .ro0 rfl⟩
  · simp only [List.cons.injEq, and_true] at hcs
    subst hcs
    simp only [if_true] at hm
    have hx' : ∀ i, i < len → w.cell? (a.add i) = some (V i) ∧ ∃ b, V i = .float .f32 b := fun i hi => ⟨(hx i (by omega)).1, read_f32 he (hx i (by omega)).2⟩
    have hmax : len ≤ 9223372036854775807 := by unfold maxLen at hmx; omega
    rcases Nat.eq_zero_or_pos len with h0 | h0
    · subst h0
      exact ⟨0, fun _ => 0, by omega, rfl, .ro0 rfl⟩
    · obtain ⟨b, off, spot⟩ := a
      have hspot : spot = none := by simpa [Addr.add] using World.cell?_spot (hx' 0 h0).1
      subst hspot
      have hblk : b < w.heap.size := by
        have := (hx' 0 h0).1
        rw [Addr.add_lit] at this
        rcases Nat.lt_or_ge b w.heap.size with h' | h'
        · exact h'
        · simp [World.cell?, Array.getElem?_eq_none h'] at this
      refine ⟨len, fun i => match V i with
        | .float _ b => canon .f32 b
        | _ => 0, hmax, rfl, .ro (fun i _ => V i) hl ⟨hblk, fun id h => (by cases h), fun h => (by cases h), fun _ => hblk⟩ (fun i c hi hcc => ?_) (fun i c hi hcc => ?_)⟩
      · obtain rfl : c = 0 := by omega
        obtain ⟨h1, b', h2⟩ := hx' i hi
        rw [Addr.add_lit] at h1
        exact ⟨by simpa using h1, by rw [h2]; rfl⟩
      · obtain ⟨_, b', h2⟩ := hx' i hi
        simp only [h2]
        exact .f rfl
/-- A list of lists of numbers, as one cell. -/
theorem rows_floats {w : World} {s t e : TypeId} {v : Value} {fuel : Nat} {y : DataW H × List MemPlace} (hs : P.underlying s = some (.slice t)) (hct : P.cellsOf t = 1) (ht : P.underlying t = some (.slice e)) (he : P.underlying e = some (.float .f32)) (hc : P.cellsOf e = 1)
    (h : DataW.trod enc P w 0 (fun _ => true) true fuel s [v] = some y) : ∃ (n : Nat) (m : Nat → Nat) (x : Nat → Nat → Nat), n ≤ 9223372036854775807 ∧ (∀ i, i < n → m i ≤ 9223372036854775807) ∧ Sim w noMp 0 w.heap.size (listFF false (fun _ => n) m x) v := by
  rcases Deep.open_slice1 hs hct h with ⟨hcs, _⟩ | ⟨a, len, cap, m, k, V, D, Pl, hcs, _, hl, hmx, hm, _, hx⟩
  · simp only [List.cons.injEq, and_true] at hcs
    subst hcs
    exact ⟨0, fun _ => 0, fun _ _ => 0, by omega, fun i hi => absurd hi (Nat.not_lt_zero _), .ro0 rfl⟩
  · simp only [List.cons.injEq, and_true] at hcs
    subst hcs
    simp only [if_true] at hm
    have hx' : ∀ i, i < len → ∃ q : Nat × (Nat → Nat), w.cell? (a.add i) = some (V i) ∧ q.1 ≤ 9223372036854775807 ∧ (V i).oneCell' = true ∧ Sim w noMp 0 w.heap.size (.ro false (fun _ => q.1) 1 fun i _ => .f .f32 fun _ => q.2 (i .u)) (V i) := fun i hi => by
      obtain ⟨n, x, h1, h2, h3⟩ := row_floats ht he hc (hx i (by omega)).2
      exact ⟨(n, x), (hx i (by omega)).1, h1, h2, h3⟩
    have hmax : len ≤ 9223372036854775807 := by unfold maxLen at hmx; omega
    rcases Nat.eq_zero_or_pos len with h0 | h0
    · subst h0
      exact ⟨0, fun _ => 0, fun _ _ => 0, by omega, fun i hi => absurd hi (Nat.not_lt_zero _), .ro0 rfl⟩
    · obtain ⟨b, off, spot⟩ := a
      have hspot : spot = none := by
        obtain ⟨_, h1, _⟩ := hx' 0 h0
        simpa [Addr.add] using World.cell?_spot h1
      subst hspot
      have hblk : b < w.heap.size := by
        obtain ⟨_, this, _⟩ := hx' 0 h0
        rw [Addr.add_lit] at this
        rcases Nat.lt_or_ge b w.heap.size with h' | h'
        · exact h'
        · simp [World.cell?, Array.getElem?_eq_none h'] at this
      have hex : ∃ q : Nat → Nat × (Nat → Nat), ∀ i, i < len → w.cell? (Addr.add ⟨b, off, none⟩ i) = some (V i) ∧ (q i).1 ≤ 9223372036854775807 ∧ (V i).oneCell' = true ∧ Sim w noMp 0 w.heap.size (.ro false (fun _ => (q i).1) 1 fun j _ => .f .f32 fun _ => (q i).2 (j .u)) (V i) := by
        refine ⟨fun i => if h : i < len then Classical.choose (hx' i h) else (0, fun _ => 0), fun i hi => ?_⟩
        simp only [dif_pos hi]
        exact Classical.choose_spec (hx' i hi)
      obtain ⟨q, hq⟩ := hex
      refine ⟨len, fun i => (q i).1, fun i => (q i).2, hmax, fun i hi => (hq i hi).2.1, .ro (fun i _ => V i) hl ⟨hblk, fun id h => (by cases h), fun h => (by cases h), fun _ => hblk⟩ (fun i c hi hcc => ?_) (fun i c hi hcc => (hq i hi).2.2.2)⟩
      obtain rfl : c = 0 := by omega
      obtain ⟨h1, _, h2, _⟩ := hq i hi
      rw [Addr.add_lit] at h1
      exact ⟨by simpa using h1, h2⟩
theorem read_rows {w : World} {s t e : TypeId} {v : Value} {base : Nat} {d : DataW H} {ps : List MemPlace} (hs : P.underlying s = some (.slice t)) (hct : P.cellsOf t = 1) (ht : P.underlying t = some (.slice e)) (he : P.underlying e = some (.float .f32)) (hc : P.cellsOf e = 1)
    (ho : Value.okWide P w .any base s v) (h : DataW.Trod enc P w 0 (fun _ => true) true s v d ps) : ∃ (n : Nat) (m : Nat → Nat) (x : Nat → Nat → Nat), n ≤ 9223372036854775807 ∧ (∀ i, i < n → m i ≤ 9223372036854775807) ∧ Sim w noMp 0 w.heap.size (listFF false (fun _ => n) m x) v := by
  obtain ⟨a0, len, cap, rfl⟩ := okWide_slice hs ho
  obtain ⟨fuel, hf⟩ := h
  exact rows_floats hs hct ht he hc hf
theorem read_floats {w : World} {t e : TypeId} {v : Value} {base : Nat} {d : DataW H} {ps : List MemPlace} (ht : P.underlying t = some (.slice e)) (he : P.underlying e = some (.float .f32)) (hc : P.cellsOf e = 1) (ho : Value.okWide P w .any base t v)
    (h : DataW.Trod enc P w 0 (fun _ => true) true t v d ps) : ∃ (n : Nat) (x : Nat → Nat), n ≤ 9223372036854775807 ∧ Sim w noMp 0 w.heap.size (.ro false (fun _ => n) 1 fun i _ => .f .f32 fun _ => x (i .u)) v := by
  obtain ⟨a0, len, cap, rfl⟩ := okWide_slice ht ho
  obtain ⟨fuel, hf⟩ := h
  rcases Deep.open_slice1 ht hc hf with ⟨hcs, _⟩ | ⟨a, len', cap', m, k, V, D, Pl, hcs, _, hl, hmx, hm, _, hx⟩
  · simp [Value.cells] at hcs
    obtain ⟨rfl, rfl, rfl⟩ := hcs
    exact ⟨0, fun _ => 0, by omega, .ro0 rfl⟩
  · simp [Value.cells] at hcs
    obtain ⟨rfl, rfl, rfl⟩ := hcs
    simp only [if_true] at hm
    have hx' : ∀ i, i < len → w.cell? (a.add i) = some (V i) ∧ ∃ b, V i = .float .f32 b := fun i hi => ⟨(hx i (by omega)).1, read_f32 he (hx i (by omega)).2⟩
    have hmax : len ≤ 9223372036854775807 := by unfold maxLen at hmx; omega
    rcases Nat.eq_zero_or_pos len with h0 | h0
    · subst h0
      exact ⟨0, fun _ => 0, by omega, .ro0 rfl⟩
    · obtain ⟨b, off, spot⟩ := a
      have hspot : spot = none := by simpa [Addr.add] using World.cell?_spot (hx' 0 h0).1
      subst hspot
      have hblk : b < w.heap.size := by
        have := (hx' 0 h0).1
        rw [Addr.add_lit] at this
        rcases Nat.lt_or_ge b w.heap.size with h' | h'
        · exact h'
        · simp [World.cell?, Array.getElem?_eq_none h'] at this
      refine ⟨len, fun i => match V i with
        | .float _ b => canon .f32 b
        | _ => 0, hmax, .ro (fun i _ => V i) hl ⟨hblk, fun id h => (by cases h), fun h => (by cases h), fun _ => hblk⟩ (fun i c hi hcc => ?_) (fun i c hi hcc => ?_)⟩
      · obtain rfl : c = 0 := by omega
        obtain ⟨h1, b', h2⟩ := hx' i hi
        rw [Addr.add_lit] at h1
        exact ⟨by simpa using h1, by rw [h2]; rfl⟩
      · obtain ⟨_, b', h2⟩ := hx' i hi
        simp only [h2]
        exact .f rfl
end
end Go.Aw
