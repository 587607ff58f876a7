/- A call in a region. -/
import Derived.Test.YtfdmmbcjidkmoaaAwl
namespace Go.Aw

def upM (σ : List Nat) (n : Nat) : Nat → Nat := fun j => if j < σ.length then σ.getD j 0 else n + (j - σ.length)
def joinE (m : Nat → Nat) (old : Option (Option (Bool × Blk))) (e : Option (Bool × Blk)) : Option (Bool × Blk) :=
  match e, old with
  | some (_, B), some (some (fr, _)) => some (fr, renB m B)
  | _, _ => none
def updH (m : Nat → Nat) (H : Heap) : List Nat → Heap → Heap
  | id :: σ, e :: es => updH m (H.set id (joinE m H[id]? e)) σ es
  | _, _ => H
/-- The caller's memory behind the call. -/
def afterCall (H : Heap) (σ : List Nat) (Hc' : Heap) : Heap := updH (upM σ H.length) H σ Hc' ++ (Hc'.drop σ.length).map (renE (upM σ H.length))
theorem updH_length (m : Nat → Nat) : ∀ (σ : List Nat) (es : Heap) (H : Heap), (updH m H σ es).length = H.length := by
  intro σ
  induction σ with
  | nil => intro es H; cases es <;> rfl
  | cons id σ ih =>
    intro es H
    cases es with
    | nil => rfl
    | cons e es => simp only [updH]; rw [ih]; simp
theorem updH_other (m : Nat → Nat) : ∀ (σ : List Nat) (es : Heap) (H : Heap) (id : Nat), id ∉ σ → (updH m H σ es)[id]? = H[id]? := by
  intro σ
  induction σ with
  | nil => intro es H id _; cases es <;> rfl
  | cons i σ ih =>
    intro es H id hid
    cases es with
    | nil => rfl
    | cons e es =>
      simp only [updH]
      rw [ih es _ id (fun h => hid (by simp [h])), List.getElem?_set_ne (fun h => hid (by simp [h]))]
theorem updH_at (m : Nat → Nat) : ∀ (σ : List Nat) (es : Heap) (H : Heap) (j id : Nat), σ.Nodup → σ.length ≤ es.length → σ[j]? = some id → id < H.length → ∃ e, es[j]? = some e ∧ (updH m H σ es)[id]? = some (joinE m H[id]? e) := by
  intro σ
  induction σ with
  | nil => intro es H j id _ _ h; simp at h
  | cons i σ ih =>
    intro es H j id hn hl h hid
    cases es with
    | nil => simp at hl
    | cons e es =>
      rw [List.nodup_cons] at hn
      simp only [updH]
      cases j with
      | zero =>
        simp at h
        subst h
        refine ⟨e, rfl, ?_⟩
        rw [updH_other m σ es _ i hn.1, List.getElem?_set_self hid]
      | succ j =>
        simp only [List.getElem?_cons_succ] at h
        obtain ⟨e', h1, h2⟩ := ih es (H.set i (joinE m H[i]? e)) j id hn.2 (by simpa using hl) h (by simpa using hid)
        refine ⟨e', by simpa using h1, ?_⟩
        have hne : i ≠ id := fun e => hn.1 (e ▸ List.mem_of_getElem? h)
        rw [h2, List.getElem?_set_ne hne]
theorem renB_at {m : Nat → Nat} {B : Blk} {off : Nat} {a' : AV} (h : (renB m B).At off a') : ∃ a, B.At off a ∧ a' = ren m a := by
  cases B with
  | box l =>
    simp only [renB] at h
    cases h with
    | box h =>
      rw [renL_map, List.getElem?_map, Option.map_eq_some_iff] at h
      obtain ⟨a, ha, rfl⟩ := h
      exact ⟨a, .box ha, rfl⟩
  | tab n sz g =>
    simp only [renB] at h
    cases h with | tab i c hi hc => exact ⟨_, .tab i c hi hc, rfl⟩
open Classical in
/-- Where the caller's names lead behind the call. -/
noncomputable def aftM (ρ ρc : Mp) (σ : List Nat) (n : Nat) : Mp := fun id =>
  if h : ∃ j : Nat, σ[j]? = some id then ρc (Classical.choose h) else if id < n then ρ id else ρc (σ.length + (id - n))
theorem aftM_at {ρ ρc : Mp} {σ : List Nat} {n j id : Nat} (hn : σ.Nodup) (h : σ[j]? = some id) : aftM ρ ρc σ n id = ρc j := by
  unfold aftM
  have hex : ∃ j : Nat, σ[j]? = some id := ⟨j, h⟩
  rw [dif_pos hex]
  have hc := Classical.choose_spec hex
  congr 1
  have l1 := (List.getElem?_eq_some_iff.1 h).1
  have l2 := (List.getElem?_eq_some_iff.1 hc).1
  exact (List.getElem_inj hn (h₀ := l2) (h₁ := l1)).1 ((List.getElem?_eq_some_iff.1 hc).2.trans (List.getElem?_eq_some_iff.1 h).2.symm)
theorem aftM_old {ρ ρc : Mp} {σ : List Nat} {n id : Nat} (h : id ∉ σ) (hid : id < n) : aftM ρ ρc σ n id = ρ id := by
  unfold aftM
  rw [dif_neg (fun ⟨j, hj⟩ => h (List.mem_of_getElem? hj)), if_pos hid]
theorem aftM_new {ρ ρc : Mp} {σ : List Nat} {n id : Nat} (h : id ∉ σ) (hid : n ≤ id) : aftM ρ ρc σ n id = ρc (σ.length + (id - n)) := by
  unfold aftM
  rw [dif_neg (fun ⟨j, hj⟩ => h (List.mem_of_getElem? hj)), if_neg (by omega)]
theorem aftM_up {ρ ρc : Mp} {σ : List Nat} {n j : Nat} (hn : σ.Nodup) (hlt : ∀ id ∈ σ, id < n) : aftM ρ ρc σ n (upM σ n j) = ρc j := by
  unfold upM
  by_cases h : j < σ.length
  · rw [if_pos h]
    refine aftM_at hn ?_
    rw [List.getD_eq_getElem?_getD, List.getElem?_eq_getElem h]
    rfl
  · rw [if_neg h, aftM_new (fun hm => by have := hlt _ hm; omega) (by omega)]
    congr 1
    omega
section
variable {P : Program} {N0 : Nat}
theorem behind_call {w w' : World} {ρ ρc' : Mp} {H Hc Hc' : Heap} {σ : List Nat} {L : Nat} {res : AV} {v : Value} (h : Rel w ρ L H) (hL : L ≤ w.heap.size) (hσ : σ.length = Hc.length) (hn : σ.Nodup) (hlt : ∀ id ∈ σ, id < H.length) (hlen : Hc.length ≤ Hc'.length)
    (any : Prop) (hany : ¬ any) (hres : AllFr res ∨ any) (hcells : ∀ (j : Nat) (fr : Bool) (B : Blk) (off : Nat) (a : AV), Hc'[j]? = some (some (fr, B)) → B.At off a → AllFr a ∨ any)
    (hv : Sim w' ρc' Hc'.length w.heap.size res v) (hR : Rel w' ρc' w.heap.size Hc') (hP : Pass w (cmp ρ Hc σ) Hc.length w' ρc' Hc'.length) :
    let ρ2 := aftM ρ ρc' σ H.length
    Rel w' ρ2 L (afterCall H σ Hc') ∧ Pass w ρ H.length w' ρ2 (afterCall H σ Hc').length ∧ Sim w' ρ2 (afterCall H σ Hc').length L (ren (upM σ H.length) res) v := by
  intro ρ2
  have hlen2 : (afterCall H σ Hc').length = H.length + (Hc'.length - σ.length) := by simp [afterCall, updH_length]
  -- what lies behind a name
  have cases_ : ∀ id blk, ρ2 id = some blk → (∃ j, σ[j]? = some id ∧ j < σ.length ∧ ρc' j = some blk ∧ ρ id = some blk) ∨ (id ∉ σ ∧ id < H.length ∧ ρ id = some blk) ∨ (id ∉ σ ∧ H.length ≤ id ∧ ρc' (σ.length + (id - H.length)) = some blk) := by
    intro id blk hb
    by_cases hm : id ∈ σ
    · obtain ⟨j, hj⟩ := List.mem_iff_getElem?.1 hm
      have hjl := (List.getElem?_eq_some_iff.1 hj).1
      have e : ρ2 id = ρc' j := aftM_at hn hj
      rw [e] at hb
      obtain ⟨_, id', i1, i2⟩ := cmp_some (hP.old j blk (by omega) hb)
      rw [hj] at i1; cases i1
      exact .inl ⟨j, hj, hjl, hb, i2⟩
    · by_cases hl : id < H.length
      · have e : ρ2 id = ρ id := aftM_old hm hl
        exact .inr (.inl ⟨hm, hl, e ▸ hb⟩)
      · have e : ρ2 id = ρc' (σ.length + (id - H.length)) := aftM_new hm (by omega)
        exact .inr (.inr ⟨hm, by omega, e ▸ hb⟩)
  have fromc : ∀ j blk, ρc' j = some blk → (∃ id, id ∈ σ ∧ ρ id = some blk) ∨ w.heap.size ≤ blk := by
    intro j blk hb
    rcases hP.new j blk hb with ⟨j0, h0⟩ | h0
    · obtain ⟨_, id', i1, i2⟩ := cmp_some h0
      exact .inl ⟨id', List.mem_of_getElem? i1, i2⟩
    · exact .inr h0
  have oldcell : ∀ id blk, id ∉ σ → ρ id = some blk → w'.heap[blk]? = w.heap[blk]? := by
    intro id blk hm hb
    refine hP.cells blk (h.block_lt hb) fun j hj => ?_
    obtain ⟨_, id', i1, i2⟩ := cmp_some hj
    exact hm (h.inj id id' blk hb i2 ▸ List.mem_of_getElem? i1)
  have hPass : Pass w ρ H.length w' ρ2 (afterCall H σ Hc').length := by
    refine ⟨hP.size, by omega, fun id blk hid hb => ?_, fun id blk hb => ?_, fun blk hb hno => ?_, fun id blk cs T fz hid hb hw => ?_, hP.os, hP.tape, hP.output⟩
    · rcases cases_ id blk hb with ⟨j, _, _, _, k⟩ | ⟨_, _, k⟩ | ⟨_, k, _⟩
      · exact k
      · exact k
      · omega
    · rcases cases_ id blk hb with ⟨j, _, _, _, k⟩ | ⟨_, _, k⟩ | ⟨_, _, k⟩
      · exact .inl ⟨id, k⟩
      · exact .inl ⟨id, k⟩
      · exact (fromc _ blk k).imp (fun ⟨i, _, k⟩ => ⟨i, k⟩) (fun x => x)
    · refine hP.cells blk hb fun j hj => ?_
      obtain ⟨_, id', _, i2⟩ := cmp_some hj
      exact hno id' i2
    · rcases cases_ id blk hb with ⟨j, _, hjl, k, _⟩ | ⟨hm, _, k⟩ | ⟨_, k, _⟩
      · exact hP.shape j blk cs T fz (by omega) k hw
      · exact ⟨cs, T, fz, by rw [oldcell id blk hm k]; exact hw, rfl⟩
      · omega
  have hq : ∀ fr blk, Quiet w' ρc' w.heap.size fr blk → (fr = true ∨ any) → Quiet w' ρ2 L fr blk := by
    intro fr blk hqq ho
    obtain rfl := ho.resolve_right hany
    refine ⟨hqq.1, fun id hb => ?_, fun e => ⟨Nat.le_trans hL (hqq.2.2.1 e).1, (hqq.2.2.1 e).2⟩, fun e => by cases e⟩
    rcases cases_ id blk hb with ⟨j, _, _, k, _⟩ | ⟨hm, _, k⟩ | ⟨_, _, k⟩
    · exact hqq.2.1 j k
    · exact absurd (h.block_lt k) (Nat.not_lt.2 (hqq.2.2.1 rfl).1)
    · exact hqq.2.1 _ k
  have hren : ∀ a u, Sim w' ρc' Hc'.length w.heap.size a u → (AllFr a ∨ any) → Sim w' ρ2 (afterCall H σ Hc').length L (ren (upM σ H.length) a) u := by
    intro a u ha hal
    refine ha.ren any (fun j hj => ?_) (fun j blk _ hb => ?_) hq hal
    · unfold upM
      rw [hlen2]
      split
      · rename_i hjl
        have : σ.getD j 0 ∈ σ := by
          rw [List.getD_eq_getElem?_getD, List.getElem?_eq_getElem hjl]
          exact List.getElem_mem hjl
        have := hlt _ this
        omega
      · omega
    · have e : ρ2 (upM σ H.length j) = ρc' j := aftM_up hn hlt
      rw [← e]; exact hb
  have haway : ∀ id blk, ρ2 id = some blk → loreG ≤ blk := fun id blk hb => by
    rcases cases_ id blk hb with ⟨j, _, _, _, k2⟩ | ⟨_, _, k⟩ | ⟨_, _, k⟩
    · exact h.away id blk k2
    · exact h.away id blk k
    · exact hR.away _ blk k
  refine ⟨⟨fun id blk hb => ?_, fun id fr B hh => ?_, fun id id' blk h1 h2 => ?_, hR.lore, haway, h.deep⟩, hPass, hren res v hv hres⟩
  · rcases cases_ id blk hb with ⟨j, hj, hjl, k, k2⟩ | ⟨hm, hl, k⟩ | ⟨hm, hl, k⟩
    · obtain ⟨frc, B, cs, T, g1, g2⟩ := hR.live j blk k
      obtain ⟨fr0, B0, cs0, T0, g3, g4⟩ := h.live id blk k2
      have hid := hlt id (List.mem_of_getElem? hj)
      obtain ⟨e, he1, he2⟩ := updH_at (upM σ H.length) σ Hc' H j id hn (by omega) hj hid
      rw [g1] at he1; cases he1
      refine ⟨fr0, renB (upM σ H.length) B, cs, T, ?_, g2.here, g4.fresh, fun off a' hat => ?_⟩
      · unfold afterCall
        rw [List.getElem?_append_left (by rw [updH_length]; exact hid), he2, g3]
        rfl
      · obtain ⟨a, ha, rfl⟩ := renB_at hat
        obtain ⟨u, u1, u2, u3⟩ := g2.cell off a ha
        exact ⟨u, u1, u2, hren a u u3 (hcells j frc B off a g1 ha)⟩
    · obtain ⟨fr0, B0, cs0, T0, g3, g4⟩ := h.live id blk k
      refine ⟨fr0, B0, cs0, T0, ?_, by rw [oldcell id blk hm k]; exact g4.here, g4.fresh, fun off a hat => ?_⟩
      · unfold afterCall
        rw [List.getElem?_append_left (by rw [updH_length]; exact hl), updH_other _ σ Hc' H id hm, g3]
      · obtain ⟨u, u1, u2, u3⟩ := g4.cell off a hat
        exact ⟨u, u1, u2, u3.mono hPass (Nat.le_refl _)⟩
    · obtain ⟨frc, B, cs, T, g1, g2⟩ := hR.live _ blk k
      refine ⟨frc, renB (upM σ H.length) B, cs, T, ?_, g2.here, fun e => Nat.le_trans hL (g2.fresh e), fun off a' hat => ?_⟩
      · unfold afterCall
        rw [List.getElem?_append_right (by rw [updH_length]; exact hl), updH_length, List.getElem?_map, List.getElem?_drop, g1]
        rfl
      · obtain ⟨a, ha, rfl⟩ := renB_at hat
        obtain ⟨u, u1, u2, u3⟩ := g2.cell off a ha
        exact ⟨u, u1, u2, hren a u u3 (hcells _ frc B off a g1 ha)⟩
  · unfold afterCall at hh
    by_cases hl : id < H.length
    · rw [List.getElem?_append_left (by rw [updH_length]; exact hl)] at hh
      by_cases hm : id ∈ σ
      · obtain ⟨j, hj⟩ := List.mem_iff_getElem?.1 hm
        obtain ⟨e, he1, he2⟩ := updH_at (upM σ H.length) σ Hc' H j id hn (by omega) hj hl
        rw [he2] at hh
        cases e with
        | none => simp [joinE] at hh
        | some e =>
          obtain ⟨frc, Bc⟩ := e
          obtain ⟨blk, hb⟩ := hR.dom j frc Bc he1
          exact ⟨blk, by rw [show ρ2 id = ρc' j from aftM_at hn hj]; exact hb⟩
      · rw [updH_other _ σ Hc' H id hm] at hh
        obtain ⟨blk, hb⟩ := h.dom id fr B hh
        exact ⟨blk, by rw [show ρ2 id = ρ id from aftM_old hm hl]; exact hb⟩
    · rw [List.getElem?_append_right (by rw [updH_length]; omega), updH_length, List.getElem?_map, List.getElem?_drop, Option.map_eq_some_iff] at hh
      obtain ⟨e, he, hre⟩ := hh
      cases e with
      | none => cases hre
      | some e =>
        obtain ⟨frc, Bc⟩ := e
        obtain ⟨blk, hb⟩ := hR.dom _ frc Bc he
        exact ⟨blk, by rw [show ρ2 id = ρc' (σ.length + (id - H.length)) from aftM_new (fun hm => hl (hlt id hm)) (by omega)]; exact hb⟩
  · have kc : ∀ j id blk, ρc' j = some blk → id ∉ σ → ρ id = some blk → False := by
      intro j id blk hj hm hb
      rcases fromc j blk hj with ⟨i, hi, hb'⟩ | hge
      · exact hm (h.inj id i blk hb hb' ▸ hi)
      · exact absurd (h.block_lt hb) (Nat.not_lt.2 hge)
    rcases cases_ id blk h1 with ⟨j, hj, hjl, k, k2⟩ | ⟨hm, hl, k⟩ | ⟨hm, hl, k⟩ <;> rcases cases_ id' blk h2 with ⟨j', hj', hjl', k', k2'⟩ | ⟨hm', hl', k'⟩ | ⟨hm', hl', k'⟩
    · exact h.inj id id' blk k2 k2'
    · exact h.inj id id' blk k2 k'
    · have := hR.inj j _ blk k k'; omega
    · exact h.inj id id' blk k k2'
    · exact h.inj id id' blk k k'
    · exact (kc _ id blk k' hm k).elim
    · have := hR.inj _ j' blk k k'; omega
    · exact (kc _ id' blk k hm' k').elim
    · have := hR.inj _ _ blk k k'; omega
theorem yielded_guard {w0 : World} {ρ0 ρ : Mp} {env : List AV} {H : Heap} {a : Act} {w : World} (s : St w0 ρ0 N0 ρ env H a w) {ops : Array Oper} {j : Nat} {c b : Th Bool} (hgav : guardAV ops env j = some (c, b)) :
    (c .u = true → yielded ops a.tmps j = some (b .u)) ∧ (c .u = false → yielded ops a.tmps j = none) := by
  rw [guardAV_eq] at hgav
  split at hgav <;> first | (cases hgav; done) | skip
  rename_i oj hoj
  split at hgav <;> first | (cases hgav; done) | skip
  rename_i d hd
  have hoj' : ops[j]? = some oj := by simpa using hoj
  have hy1 : ∀ b, a.tmps[d]? = some (.bool b) → yielded ops a.tmps j = some b := by
    intro b hb; unfold yielded; rw [hoj']; simp [hd, hb]
  have hy0 : a.tmps[d]? = some undef → yielded ops a.tmps j = none := by
    intro hb; unfold yielded; rw [hoj']; simp [hd, hb, undef]
  split at hgav <;> cases hgav
  · rename_i he
    have hdl := (List.getElem?_eq_some_iff.1 he).1
    have hv : a.tmps[d]? = some (a.tmps[d]'(by rw [← s.env.len]; exact hdl)) := Array.getElem?_eq_getElem _
    have hsim := s.env.at_ d _ _ he hv
    have e := hsim.b_inv
    exact ⟨fun _ => hy1 (b .u) (by rw [hv, e]), fun e => by cases e⟩
  · rename_i he
    have hdl := (List.getElem?_eq_some_iff.1 he).1
    have hv : a.tmps[d]? = some (a.tmps[d]'(by rw [← s.env.len]; exact hdl)) := Array.getElem?_eq_getElem _
    have hsim := s.env.at_ d _ _ he hv
    rw [hv] at hy0 hy1
    generalize a.tmps[d]'(by rw [← s.env.len]; exact hdl) = u at hsim hy0 hy1
    cases hsim with
    | on h1 h2 =>
      constructor
      · intro hc; exact hy1 (b .u) (by rw [(h1 hc).b_inv])
      · intro hc; exact hy0 (by rw [h2 hc])
/-- An operation that is surely done. -/
def Done (ops : Array Oper) (env : List AV) (o : Oper) : Prop := o.guard = none ∨ ∃ j want c b, o.guard = some (j, want) ∧ guardAV ops env j = some (c, b) ∧ c .u = true ∧ b .u = want
theorem Done.wanted {w0 : World} {ρ0 ρ : Mp} {env : List AV} {H : Heap} {a : Act} {w : World} (s : St w0 ρ0 N0 ρ env H a w) {ops : Array Oper} {o : Oper} (h : Done ops env o) : Region.wanted o (yielded ops a.tmps) = true := by
  rcases h with h | ⟨j, want, c, b, h1, h2, h3, h4⟩
  · simp [Region.wanted, h]
  · simp [Region.wanted, h1, (yielded_guard s h2).1 h3, h4]
/-- An operation that is surely left out. -/
theorem AOps.pass {ops : Array Oper} {K : List AV → Heap → Prop} {i : Nat} {o : Oper} {env : List AV} {H : Heap} {j : Nat} {want : Bool} {c b : Th Bool} (ho : ops[i]? = some o) (hg : o.guard = some (j, want)) (hgav : guardAV ops env j = some (c, b)) (hc : (c .u && (b .u == want)) = false)
    (r : AV) (cc : Th Bool) (hcc : cc .u = false) (h : AOps P ops N0 K (i + 1) (aput env o.dst (.on cc r)) H) : AOps P ops N0 K i env H := by
  intro Q w0 ρ0 ρ a w s hQ
  have hlt : i < ops.size := (Array.getElem?_eq_some_iff.1 ho).1
  rw [range'_step hlt]
  simp only [wpOps, ho]
  have hy := yielded_guard s hgav
  have hw : Region.wanted o (yielded ops a.tmps) = false := by
    cases hcc : c .u with
    | false => simp [Region.wanted, hg, hy.2 hcc]
    | true =>
      rw [hcc] at hc
      simp only [Bool.true_and, beq_eq_false_iff_ne] at hc
      simp [Region.wanted, hg, hy.1 hcc, hc]
  rw [hw, if_neg (by simp)]
  refine h Q w0 ρ0 ρ _ w ?_ hQ
  exact s.step s.rel (Pass.refl _ _ _) (r := .on cc r) (v := undef) (.on (fun e => by rw [hcc] at e; cases e) (fun _ => rfl)) o.dst
theorem wp_called {o : Oper} {env : List AV} {H : Heap} {fop : Operand} {args : Array Operand} {argTypes : Array TypeId} {f : FuncId} {fst cap : List AV} {Hc Hc' : Heap} {args' : List AV} {res : AV}
    (hop : o.op = .call ⟨.value fop, args, argTypes⟩) (ev : Operand → AV) (hev : ∀ x ∈ o.op.operands.toList, ∀ (w : World) (ρ : Mp) (N L : Nat) (u : Value), Sim w ρ N L (aeval env x) u → Sim w ρ N L (ev x) u)
    (hfop : ev fop = .fn (.func f) fst cap) (hcon : Con P f args' Hc res Hc') (σ : List Nat)
    (hargs : AllTo H Hc σ false (fst ++ args.toList.map ev ++ cap) args') (hH : HeapTo H Hc σ false) (hσ : σ.length = Hc.length) (hn : σ.Nodup) (hlt : ∀ id ∈ σ, id < H.length)
    (any : Prop) (hany : ¬ any) (hres : AllFr res ∨ any) (hcells : ∀ (j : Nat) (fr : Bool) (B : Blk) (off : Nat) (a : AV), Hc'[j]? = some (some (fr, B)) → B.At off a → AllFr a ∨ any)
    (res2 : AV) (hr2 : ∀ (w : World) (ρ : Mp) (N L : Nat) (v : Value), Sim w ρ N L (ren (upM σ H.length) res) v → Sim w ρ N L res2 v)
    {w0 : World} {ρ0 ρ : Mp} {a : Act} {w : World} (s : St w0 ρ0 N0 ρ env H a w) (K : Act → World → Prop) (Q : Exit → Act → World → Prop)
    (h : ∀ ρ' a' w', St w0 ρ0 N0 ρ' (aput env o.dst res2) (afterCall H σ Hc') a' w' → K a' w') : o.wp P a w K Q := by
  have hevs : ∀ x ∈ o.op.operands.toList, Sim w ρ H.length w0.heap.size (ev x) (a.eval x) := fun x hx => hev x hx _ _ _ _ _ (aeval_sound s.env x)
  have hf := hevs fop (by rw [hop]; simp [Op.operands, Call.operands])
  rw [hfop] at hf
  have hL : w0.heap.size ≤ w.heap.size := s.pass.size
  have hf' : ∃ us vs : Array Value, a.eval fop = .func (.func f) us vs ∧ fst.length = us.size ∧ (∀ (j : Nat) (x : AV) (u : Value), fst[j]? = some x → us[j]? = some u → Sim w ρ H.length w0.heap.size x u) ∧ cap.length = vs.size ∧ (∀ (j : Nat) (x : AV) (u : Value), cap[j]? = some x → vs[j]? = some u → Sim w ρ H.length w0.heap.size x u) := by
    generalize a.eval fop = q at hf
    cases hf with | fn h1 h2 h3 h4 => exact ⟨_, _, rfl, h1, h2, h3, h4⟩
  obtain ⟨us, vs, hfe, l1, s1, l2, s2⟩ := hf'
  obtain ⟨fn, hfn, hname, hbody⟩ := hcon.enters
  have hrun : (execOp a.eval o).run P w = .ok (.enter f (us ++ args.map a.eval ++ vs)) w := by
    unfold execOp
    simp only [hop, resolve, hfe, Deferred.ofValue, Sem.run_bind, Sem.run_pure, Result.andThen_ok, invoke, callFunc, run_program, hfn, hname, hbody, Bool.false_eq_true, if_false]
  have hsz : (fst ++ args.toList.map ev ++ cap).length = (us ++ args.map a.eval ++ vs).size := by simp [l1, l2]
  have hsim : ∀ (j : Nat) (x : AV) (u : Value), (fst ++ args.toList.map ev ++ cap)[j]? = some x → (us ++ args.map a.eval ++ vs)[j]? = some u → Sim w ρ H.length w0.heap.size x u := by
    intro j x u hx hu
    have el : (us ++ args.map a.eval ++ vs) = (us.toList ++ args.toList.map a.eval ++ vs.toList).toArray := by apply Array.ext'; simp
    rw [el, List.getElem?_toArray] at hu
    by_cases c1 : j < fst.length
    · rw [List.append_assoc, List.getElem?_append_left c1] at hx
      rw [List.append_assoc, List.getElem?_append_left (by rw [Array.length_toList]; omega)] at hu
      exact s1 j x u hx (by simpa using hu)
    · rw [List.append_assoc, List.getElem?_append_right (by omega)] at hx
      rw [List.append_assoc, List.getElem?_append_right (by rw [Array.length_toList]; omega), Array.length_toList, ← l1] at hu
      by_cases c2 : j - fst.length < args.size
      · rw [List.getElem?_append_left (by simpa using c2)] at hx hu
        rw [List.getElem?_map, Option.map_eq_some_iff] at hx hu
        obtain ⟨o1, g1, rfl⟩ := hx
        obtain ⟨o2, g2, rfl⟩ := hu
        rw [g1] at g2; cases g2
        exact hevs o1 (by rw [hop]; simp only [Op.operands, Call.operands, Array.toList_append, List.mem_append]; exact .inr (List.mem_of_getElem? g1))
      · rw [List.getElem?_append_right (by simpa using c2)] at hx hu
        simp only [List.length_map, Array.length_toList] at hx hu
        exact s2 _ x u hx (by simpa using hu)
  have hRc := s.rel.to (L' := w.heap.size) hH (Fits.call _ _)
  obtain ⟨q1, q2⟩ := sim_all (L' := w.heap.size) (Fits.call _ _) s.rel hargs hsz hsim
  have hcall := hcon.call w (cmp ρ Hc σ) (us ++ args.map a.eval ++ vs) hRc q1 q2
  unfold Oper.wp Oper.upon
  rw [hrun]
  refine hcall.mono fun e w' hh => ?_
  obtain ⟨v, ρc', rfl, hv, hR, hP⟩ := hh
  obtain ⟨r1, r2, r3⟩ := behind_call s.rel hL hσ hn hlt hcon.len any hany hres hcells hv hR hP
  exact h _ _ w' (s.step r1 r2 (hr2 _ _ _ _ _ r3) o.dst)
theorem AOps.call {ops : Array Oper} {K : List AV → Heap → Prop} {i : Nat} {o : Oper} {env : List AV} {H : Heap} {fop : Operand} {args : Array Operand} {argTypes : Array TypeId} {f : FuncId} {fst cap : List AV} {Hc Hc' : Heap} {args' : List AV} {res : AV}
    (ho : ops[i]? = some o) (hop : o.op = .call ⟨.value fop, args, argTypes⟩) (hd : Done ops env o) (ev : Operand → AV) (hev : ∀ x ∈ o.op.operands.toList, ∀ (w : World) (ρ : Mp) (N L : Nat) (u : Value), Sim w ρ N L (aeval env x) u → Sim w ρ N L (ev x) u)
    (hfop : ev fop = .fn (.func f) fst cap) (hcon : Con P f args' Hc res Hc') (σ : List Nat)
    (hargs : AllTo H Hc σ false (fst ++ args.toList.map ev ++ cap) args') (hH : HeapTo H Hc σ false) (hσ : σ.length = Hc.length) (hn : σ.Nodup) (hlt : ∀ id ∈ σ, id < H.length)
    (any : Prop) (hany : ¬ any) (hres : AllFr res ∨ any) (hcells : ∀ (j : Nat) (fr : Bool) (B : Blk) (off : Nat) (a : AV), Hc'[j]? = some (some (fr, B)) → B.At off a → AllFr a ∨ any)
    (res2 : AV) (hr2 : ∀ (w : World) (ρ : Mp) (N L : Nat) (v : Value), Sim w ρ N L (ren (upM σ H.length) res) v → Sim w ρ N L res2 v)
    (h : AOps P ops N0 K (i + 1) (aput env o.dst res2) (afterCall H σ Hc')) : AOps P ops N0 K i env H := by
  intro Q w0 ρ0 ρ a w s hQ
  have hlt' : i < ops.size := (Array.getElem?_eq_some_iff.1 ho).1
  rw [range'_step hlt']
  simp only [wpOps, ho]
  rw [if_pos (hd.wanted s)]
  exact .inl (wp_called hop ev hev hfop hcon σ hargs hH hσ hn hlt any hany hres hcells res2 hr2 s _ _ fun ρ' a' w' s' => h Q w0 ρ0 ρ' a' w' s' hQ)
end
end Go.Aw
