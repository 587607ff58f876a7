/- Slices that are made, literals, parts of slices, append. -/
import Derived.Test.YtjlkflceicdcdaaDoorAwf
namespace Go.Aw

section
variable {P : Program} {w : World} {ρ : Mp} {L : Nat} {H : Heap}
theorem gives_newRow {s : Sem Value} {cells : Array Value} {T : TypeId} {n : Th Nat} {cap sz : Nat} {g : Th Nat → Nat → AV} (h : Rel w ρ L H) (hL : L ≤ w.heap.size) (hn : n .u ≤ cap) (hcm : cap ≤ maxLen) (hsz : cap * sz ≤ cells.size)
    (hs : s.run P w = .ok (.slice (some ⟨w.heap.size, 0, none⟩) (n .u) cap) (w.alloc (.cells cells T)))
    (hc : ∀ i c, i < n .u → c < sz → ∃ x, cells[i * sz + c]? = some x ∧ x.oneCell' = true ∧ Sim w ρ H.length L (g (fun _ => i) c) x) :
    Gives P s w ρ L H (.own H.length (fun _ => 0) n sz) (H ++ [some (true, .tab n sz g)]) := by
  refine ⟨_, _, ρ.set H.length (some w.heap.size), hs, h.alloc hL true cells T (.tab n sz g) (fun off a hat => by cases hat with | tab i c hi hcc => exact hc i c hi hcc), ?_, ?_⟩
  · have := Pass.alloc h (.cells cells T)
    simpa using this
  · refine .own (by simp) fun blk hb => ?_
    rw [Mp.set_same] at hb
    cases hb
    exact ⟨0, cap, rfl, hn, hcm, .inl (by omega), cells, T, (0, 0), heap_alloc_new w _, by omega⟩
def amake (tt : TT) (H : Heap) (t : TypeId) (l c : AV) : Option (AV × Heap × Th Prop) :=
  match tt.desc t, l, c with
  | .slice e, .i _ k, .i _ k' => match tt.info e with
    | some i => some (.own H.length (fun _ => 0) (fun _ => (k .u).toNat) i.size, H ++ [some (true, .tab (fun _ => (k .u).toNat) i.size fun _ c => i.zero.getD c .dead)], fun _ => k' .u = k .u ∧ 0 ≤ k .u ∧ (i.bytes : Int) * k .u ≤ 281474976710656 ∧ k .u ≤ 9223372036854775807)
    | none => none
  | _, _, _ => none
theorem madeCells_at (z : Array Value) (n i c : Nat) (hi : i < n) (hc : c < z.size) : (madeCells z (n * z.size))[i * z.size + c]? = some z[c] := by
  have hlt : i * z.size + c < n * z.size := by
    have h1 : (i + 1) * z.size ≤ n * z.size := Nat.mul_le_mul_right _ hi
    rw [Nat.add_mul] at h1
    omega
  unfold madeCells
  rw [Array.getElem?_map, Array.getElem?_range, if_pos hlt, Option.map_some]
  have hm : (i * z.size + c) % z.size = c := by rw [Nat.mul_comm, Nat.mul_add_mod, Nat.mod_eq_of_lt hc]
  rw [hm, getElem!_pos z c hc]
theorem gives_make {tt : TT} (htt : TTok P tt) {t : TypeId} {l c r : AV} {H' : Heap} {ob : Th Prop} {u v : Value} (h : Rel w ρ L H) (hL : L ≤ w.heap.size) (hr : amake tt H t l c = some (r, H', ob)) (hob : ob .u)
    (hu : Sim w ρ H.length L l u) (hv : Sim w ρ H.length L c v) : Gives P (Instr.makeSlice t u v) w ρ L H r H' := by
  unfold amake at hr
  split at hr <;> first | (cases hr; done) | skip
  rename_i e ik k ik' k' hd
  split at hr <;> cases hr
  rename_i i hi
  cases hu.i_inv; cases hv.i_inv
  obtain ⟨hkk, h0, hb, h63⟩ : k' .u = k .u ∧ 0 ≤ k .u ∧ (i.bytes : Int) * k .u ≤ 281474976710656 ∧ k .u ≤ 9223372036854775807 := hob
  rw [hkk]
  obtain ⟨info, z, h1, h2, h3, h4, h5, h6, h7⟩ := zero_sound (htt.info hi)
  have hrun := run_make (P := P) w t e info z (htt.desc hd (by simp)) h1 h4 ik ik' (k .u) (k .u) h0 (Int.le_refl _) (by rw [h3]; exact hb) h63
  refine gives_newRow h hL (Nat.le_refl _) (by unfold maxLen; omega) (by rw [size_madeCells, h2]; exact Nat.le_refl _) hrun fun j c hj hc => ?_
  have ha : i.zero[c]? = some (i.zero.getD c .dead) := by rw [List.getElem?_eq_getElem (by omega), List.getD_eq_getElem?_getD, List.getElem?_eq_getElem (by omega)]; rfl
  obtain ⟨x, k1, k2, k3⟩ := h7 c _ ha
  refine ⟨x, ?_, k2, k3 _ _ _ _⟩
  have hm := madeCells_at z.cells (k .u).toNat j c hj (by omega)
  rw [h2, ← h5, hm]
  rw [Array.getElem?_eq_getElem (by omega)] at k1
  exact k1

/-! ### Literals -/
def CellsSim (w : World) (ρ : Mp) (N L : Nat) (as : List AV) (cs : Array Value) : Prop :=
  cs.size = as.length ∧ ∀ (j : Nat) (a : AV), as[j]? = some a → ∃ x, cs[j]? = some x ∧ x.oneCell' = true ∧ Sim w ρ N L a x
def afill (place : Nat → Option (Nat × Nat)) (cells : List AV) : List (Nat × List AV) → Option (List AV)
  | [] => some cells
  | (i, as) :: rest => match place i with
    | none => none
    | some (off, size) => if as.length = size ∧ off + as.length ≤ cells.length then afill place (cells.take off ++ as ++ cells.drop (off + as.length)) rest else none
theorem fold_set (off : Nat) (us : List Value) : ∀ (k : Nat) (cs : Array Value), off + k + us.length ≤ cs.size →
    let r := (us.zipIdx k).foldl (fun (cs : Array Value) (p : Value × Nat) => cs.setIfInBounds (off + p.2) p.1) cs
    r.size = cs.size ∧ ∀ j : Nat, r[j]? = if off + k ≤ j ∧ j < off + k + us.length then us[j - (off + k)]? else cs[j]? := by
  induction us with
  | nil => intro k cs _; exact ⟨rfl, fun j => by simp; intro h1 h2; omega⟩
  | cons u us ih =>
    intro k cs hk
    simp only [List.zipIdx_cons, List.foldl_cons, List.length_cons] at hk ⊢
    obtain ⟨h1, h2⟩ := ih (k + 1) (cs.setIfInBounds (off + k) u) (by simp; omega)
    refine ⟨by rw [h1]; simp, fun j => ?_⟩
    rw [h2 j]
    by_cases hj : off + (k + 1) ≤ j ∧ j < off + (k + 1) + us.length
    · rw [if_pos hj, if_pos (by omega), show j - (off + k) = (j - (off + (k + 1))) + 1 by omega, List.getElem?_cons_succ]
    · rw [if_neg hj]
      by_cases he : j = off + k
      · subst he
        rw [if_pos (by omega), Nat.sub_self, List.getElem?_cons_zero]
        rw [Array.getElem?_setIfInBounds_self_of_lt (by omega)]
      · rw [if_neg (by omega), Array.getElem?_setIfInBounds_ne (by omega)]
theorem fill_sound {place : Nat → Option (Nat × Nat)} : ∀ (ps : List (Nat × List AV)) (qs : List (Nat × Value)) (as : List AV) (cs : Array Value) (as' : List AV),
    ps.map (·.1) = qs.map (·.1) → (∀ (j : Nat) (p : Nat × List AV) (q : Nat × Value), ps[j]? = some p → qs[j]? = some q → CellsSim w ρ H.length L p.2 q.2.cells) →
    CellsSim w ρ H.length L as cs → afill place as ps = some as' → ∃ cs', Instr.fill place cs qs = some cs' ∧ CellsSim w ρ H.length L as' cs' := by
  intro ps
  induction ps with
  | nil =>
    intro qs as cs as' hm _ hc hf
    cases qs with
    | nil => simp only [afill] at hf; cases hf; exact ⟨cs, rfl, hc⟩
    | cons => simp at hm
  | cons p ps ih =>
    intro qs as cs as' hm hj hc hf
    cases qs with
    | nil => simp at hm
    | cons q qs =>
      obtain ⟨i, a⟩ := p
      obtain ⟨i', v⟩ := q
      simp only [List.map_cons, List.cons.injEq] at hm
      obtain ⟨rfl, hm⟩ := hm
      have hcell : CellsSim w ρ H.length L a v.cells := hj 0 _ _ rfl rfl
      simp only [afill] at hf
      simp only [Instr.fill]
      cases hp : place i with
      | none => rw [hp] at hf; cases hf
      | some os =>
        obtain ⟨off, size⟩ := os
        rw [hp] at hf
        simp only at hf ⊢
        split at hf <;> first | (cases hf; done) | skip
        rename_i hok
        have e : ¬ (v.cells.size ≠ size || off + v.cells.size > cs.size) = true := by
          rw [hcell.1, hc.1]
          simp only [ne_eq, Bool.or_eq_true, decide_eq_true_eq, not_or, Decidable.not_not]
          omega
        rw [if_neg e]
        obtain ⟨f1, f2⟩ := fold_set off v.cells.toList 0 cs (by simp [hcell.1, hc.1]; omega)
        have hz : v.cells.zipIdx.foldl (fun (cs : Array Value) (x : Value × Nat) => cs.setIfInBounds (off + x.2) x.1) cs = (v.cells.toList.zipIdx 0).foldl (fun (cs : Array Value) (p : Value × Nat) => cs.setIfInBounds (off + p.2) p.1) cs := by
          rw [← Array.foldl_toList]
          simp
        refine ih qs _ _ as' hm (fun j p q h1 h2 => hj (j + 1) p q h1 h2) ?_ hf
        rw [hz]
        refine ⟨by rw [f1, hc.1]; simp; omega, fun j x hx => ?_⟩
        rw [f2 j]
        simp only [Nat.add_zero, Array.length_toList, hcell.1]
        by_cases hin : off ≤ j ∧ j < off + a.length
        · rw [if_pos hin]
          rw [List.append_assoc, List.getElem?_append_right (by simp; omega)] at hx
          have hlen : (as.take off).length = off := by simp; omega
          rw [hlen, List.getElem?_append_left (by omega)] at hx
          obtain ⟨y, k1, k2, k3⟩ := hcell.2 _ x hx
          exact ⟨y, by simpa using k1, k2, k3⟩
        · rw [if_neg hin]
          refine hc.2 j x ?_
          rw [List.append_assoc] at hx
          have hlen : (as.take off).length = off := by simp; omega
          by_cases h1 : j < off
          · rw [List.getElem?_append_left (by omega), List.getElem?_take, if_pos h1] at hx; exact hx
          · rw [List.getElem?_append_right (by omega), hlen, List.getElem?_append_right (by omega), List.getElem?_drop, show off + a.length + (j - off - a.length) = j by omega] at hx
            exact hx
def aparts (H : Heap) : List (Nat × AV) → Option (List (Nat × List AV))
  | [] => some []
  | (i, a) :: rest => match aflat H a, aparts H rest with
    | some as, some r => some ((i, as) :: r)
    | _, _ => none
theorem aparts_sound (h : Rel w ρ L H) : ∀ (xs : List (Nat × AV)) (qs : List (Nat × Value)) (ps : List (Nat × List AV)), aparts H xs = some ps → xs.map (·.1) = qs.map (·.1) →
    (∀ (j : Nat) (x : Nat × AV) (q : Nat × Value), xs[j]? = some x → qs[j]? = some q → Sim w ρ H.length L x.2 q.2) →
    ps.map (·.1) = qs.map (·.1) ∧ ∀ (j : Nat) (p : Nat × List AV) (q : Nat × Value), ps[j]? = some p → qs[j]? = some q → CellsSim w ρ H.length L p.2 q.2.cells := by
  intro xs
  induction xs with
  | nil =>
    intro qs ps hp hm _
    cases hp
    exact ⟨hm, fun j p q hp => by simp at hp⟩
  | cons x xs ih =>
    intro qs ps hp hm hs
    cases qs with
    | nil => simp at hm
    | cons q qs =>
      simp only [List.map_cons, List.cons.injEq] at hm
      simp only [aparts] at hp
      split at hp <;> cases hp
      rename_i as r hf hr
      obtain ⟨i1, i2⟩ := ih qs r hr hm.2 fun j a b h1 h2 => hs (j + 1) a b h1 h2
      refine ⟨by simp [hm.1, i1], fun j p q' h1 h2 => ?_⟩
      cases j with
      | zero => cases h1; cases h2; exact aflat_sound h hf (hs 0 _ _ rfl rfl)
      | succ j => exact i2 j p q' h1 h2
theorem zeros_sim {t : TypeId} {i : TI} (hi : TIok P t i) : ∃ info z, P.info? t = some info ∧ info.size = i.size ∧ info.bytes = i.bytes ∧ info.zero = some z ∧ z.cells.size = i.size ∧ CellsSim w ρ H.length L i.zero z.cells := by
  obtain ⟨info, z, h1, h2, h3, h4, h5, h6, h7⟩ := zero_sound hi
  refine ⟨info, z, h1, h2, h3, h4, h5, by omega, fun j a ha => ?_⟩
  obtain ⟨x, k1, k2, k3⟩ := h7 j a ha
  exact ⟨x, k1, k2, k3 _ _ _ _⟩
/-- The cells of a struct's literal. -/
def fplaces (tt : TT) (fs : Array Field) : Option (List (Nat × Nat)) := fs.toList.mapM fun f => (tt.info f.type).map fun i => (f.offset, i.size)
def abuild (tt : TT) (H : Heap) (t : TypeId) (xs : List (Nat × AV)) : Option AV :=
  match tt.info t, aparts H xs with
  | some i, some ps => match i.desc with
    | .struct fs => match fplaces tt fs with
      | some pl => (afill (fun j => pl[j]?) i.zero ps).map .agg
      | none => none
    | .array _ e => match tt.info e with
      | some j => (afill (fun k => some (k * j.size, j.size)) i.zero ps).map .agg
      | none => none
    | _ => none
  | _, _ => none
theorem run_places {tt : TT} (htt : TTok P tt) : ∀ (fs : List Field) (pl : List (Nat × Nat)), (fs.mapM fun f => (tt.info f.type).map fun i => (f.offset, i.size)) = some pl →
    (fs.mapM fun f => (do pure (f.offset, ← sizeOf f.type) : Sem (Nat × Nat))).run P w = .ok pl w := by
  intro fs
  induction fs with
  | nil => intro pl h; simp at h; subst h; simp
  | cons f fs ih =>
    intro pl h
    simp only [List.mapM_cons, Option.bind_eq_bind, Option.bind_eq_some_iff, Option.map_eq_some_iff] at h
    obtain ⟨p, ⟨i, hi, rfl⟩, q, hq, hpl⟩ := h
    cases hpl
    obtain ⟨_, info, z, hinfo, hsz, _⟩ := htt.info hi
    simp only [List.mapM_cons, Sem.run_bind, run_sizeOf hinfo, hsz, Result.andThen_ok, Sem.run_pure, ih q hq]
theorem gives_build {tt : TT} (htt : TTok P tt) {t : TypeId} {xs : List (Nat × AV)} {r : AV} {qs : Array (Nat × Value)} (h : Rel w ρ L H) (hr : abuild tt H t xs = some r)
    (hm : xs.map (·.1) = qs.toList.map (·.1)) (hs : ∀ (j : Nat) (x : Nat × AV) (q : Nat × Value), xs[j]? = some x → qs.toList[j]? = some q → Sim w ρ H.length L x.2 q.2) :
    Gives P (Instr.build t qs) w ρ L H r H := by
  unfold abuild at hr
  split at hr <;> first | (cases hr; done) | skip
  rename_i i ps hi hp
  obtain ⟨m1, m2⟩ := aparts_sound h xs qs.toList ps hp hm hs
  obtain ⟨info, z, h1, h2, h3, h4, h5, h6⟩ := zeros_sim (w := w) (ρ := ρ) (H := H) (L := L) (htt.info hi)
  have hd := (htt.info hi).1
  have fin : ∀ cs' as', CellsSim w ρ H.length L as' cs' → Sim w ρ H.length L (.agg as') (.agg cs') := fun cs' as' hc => .agg hc.1.symm fun j a u ha hu => by
    obtain ⟨x, k1, _, k3⟩ := hc.2 j a ha
    rw [hu] at k1
    cases k1
    exact k3
  split at hr
  · rename_i fs hdesc
    split at hr <;> first | (cases hr; done) | skip
    rename_i pl hpl
    rw [Option.map_eq_some_iff] at hr
    obtain ⟨as', hfill, rfl⟩ := hr
    obtain ⟨cs', hcs, hsim⟩ := fill_sound (w := w) (ρ := ρ) (H := H) (L := L) ps qs.toList i.zero z.cells as' m1 m2 h6 hfill
    have hplaces := run_places (P := P) (w := w) htt fs.toList pl hpl
    refine gives_pure h (v := .agg cs') ?_ (fin _ _ hsim)
    have hpl' : (fs.mapM fun f => (do pure (f.offset, ← sizeOf f.type) : Sem (Nat × Nat))).run P w = .ok pl.toArray w := by
      rw [Array.mapM_eq_mapM_toList]
      simp only [Sem.run_map, hplaces, Result.andThen_ok]
    simp only [Instr.build, Sem.run_bind, zeroValue, typeInfo, run_program, Result.andThen_ok, h1, h4, Sem.run_pure, run_underlying hd, hdesc]
    simp only [hpl', Result.andThen_ok, List.getElem?_toArray, hcs, Sem.run_pure]
  · rename_i len e hdesc
    split at hr <;> first | (cases hr; done) | skip
    rename_i j hj
    rw [Option.map_eq_some_iff] at hr
    obtain ⟨as', hfill, rfl⟩ := hr
    obtain ⟨cs', hcs, hsim⟩ := fill_sound (w := w) (ρ := ρ) (H := H) (L := L) ps qs.toList i.zero z.cells as' m1 m2 h6 hfill
    obtain ⟨_, info', z', hinfo', hsz', _⟩ := htt.info hj
    refine gives_pure h (v := .agg cs') ?_ (fin _ _ hsim)
    simp only [Instr.build, Sem.run_bind, zeroValue, typeInfo, run_program, Result.andThen_ok, h1, h4, Sem.run_pure, run_underlying hd, hdesc, run_sizeOf hinfo', hsz', hcs]
  · cases hr
end
end Go.Aw
