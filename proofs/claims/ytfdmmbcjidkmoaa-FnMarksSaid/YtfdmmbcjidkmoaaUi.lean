/- The reference's source of choices, in this folder's words: a struct of one's own. -/
import Derived.Test.YtfdmmbcjidkmoaaUh
set_option linter.unusedSimpArgs false
set_option linter.unusedVariables false
namespace Go.Proofs.Ytfdmmbcjidkmoaa
open Go.Aw
abbrev listB (n : Th Nat) (b : Nat → Int) : AV := .ro false n 1 fun i _ => .i .u8 fun _ => b (i .u)
abbrev srcEf (fr : Bool) (n : Th Nat) (b : Nat → Int) (k : Nat) (s : Int) : Option (Bool × Blk) := some (fr, .box [listB n b, .i .i64 fun _ => (k : Int), .i .u64 fun _ => s])
abbrev srcE (n : Th Nat) (b : Nat → Int) (k : Nat) (s : Int) : Option (Bool × Blk) := some (true, .box [listB n b, .i .i64 fun _ => (k : Int), .i .u64 fun _ => s])
theorem enters_of {P : Program} {f : FuncId} {fn : Func} {c : Code} (hf : P.funcs[f]? = some fn) (hb : fn.body = some c) (hn : (fn.name == "runtime.NumGoroutine") = false) : Enters P f := ⟨fn, hf, hn, by rw [hb]; rfl⟩
theorem sim_bytes {w : World} {ρ : Mp} {N L : Nat} {n : Th Nat} {b : Nat → Int} {v : Value} (h : Sim w ρ N L (listB n b) v) :
    ∃ base cap, v = .slice base (n .u) cap ∧ ∀ k, k < n .u → ∃ a, base = some a ∧ w.cell? (a.add k) = some (.int .u8 (b k)) := by
  cases h with
  | ro0 h0 => exact ⟨_, _, by rw [h0], fun k hk => by omega⟩
  | ro u hn hq hc hs =>
    refine ⟨_, _, rfl, fun k hk => ⟨_, rfl, ?_⟩⟩
    obtain ⟨h1, _⟩ := hc k 0 hk (by decide)
    have h2 := (hs k 0 hk (by decide)).i_inv
    rw [h2] at h1
    by_cases h0 : k = 0
    · subst h0; simpa [Addr.add] using h1
    · simpa [Addr.add, h0] using h1
theorem from_call {H : Heap} {n : Th Nat} {b : Nat → Int} (w : World) (ρ : Mp) (L : Nat) (vals : Array Value) (hL : L ≤ w.heap.size) (hR : Rel w ρ L H) (hl : [listB n b].length = vals.size)
    (hs : ∀ (j : Nat) (x : AV) (v : Value), [listB n b][j]? = some x → vals[j]? = some v → Sim w ρ H.length L x v) :
    Calls Try.prog 66 vals w fun e w' => ∃ v ρ', e = .returned v ∧ Rel w' ρ' L (H ++ [srcE n b 0 0]) ∧ Pass w ρ H.length w' ρ' (H ++ [srcE n b 0 0]).length ∧ Sim w' ρ' (H ++ [srcE n b 0 0]).length L (.ptr H.length (fun _ => 0) 3 0) v := by
  obtain ⟨v, rfl⟩ : ∃ v, vals = #[v] := by
    obtain ⟨l⟩ := vals
    match l, hl with
    | [v], _ => exact ⟨v, rfl⟩
  have h1 := hs 0 _ v rfl rfl
  obtain ⟨base, cap, rfl, _⟩ := sim_bytes h1
  refine (from_walk base (n .u) cap w).mono ?_
  rintro e w' ⟨rfl, T, rfl⟩
  have hr := hR.alloc hL true #[.slice base (n .u) cap, .int .i64 0, .int .u64 0] T (.box [listB n b, .i .i64 fun _ => ((0 : Nat) : Int), .i .u64 fun _ => 0]) (fun off a ha => by
    cases ha with | box ha =>
      match off, ha with
      | 0, ha => cases ha; exact ⟨_, rfl, rfl, h1⟩
      | 1, ha => cases ha; exact ⟨_, rfl, rfl, .i⟩
      | 2, ha => cases ha; exact ⟨_, rfl, rfl, .i⟩)
  have hp := Pass.alloc hR (.cells #[.slice base (n .u) cap, .int .i64 0, .int .u64 0] T)
  have hlen : (H ++ [srcE n b 0 0]).length = H.length + 1 := by simp
  refine ⟨_, ρ.set H.length (some w.heap.size), rfl, hr, by rw [hlen]; exact hp, ?_⟩
  rw [hlen]
  refine .ptr (by omega) fun blk hb => ?_
  rw [Mp.set_same] at hb
  cases hb
  rfl
theorem pick_callF {fr : Bool} {H : Heap} {id : Nat} {n : Th Nat} {b : Nat → Int} {k : Nat} {s m : Int} (hH : H[id]? = some (srcEf fr n b k s)) (hm : 1 < m) (hm2 : m ≤ 200) (hk : k < 4611686018427387904) (hn : n .u < 4611686018427387904) (hbb : ∀ k, k < n .u → 0 ≤ b k ∧ b k < 256)
    (w : World) (ρ : Mp) (L : Nat) (vals : Array Value) (hL : L ≤ w.heap.size) (hR : Rel w ρ L H) (hl : [AV.ptr id (fun _ => 0) 3 0, .i .i64 fun _ => m].length = vals.size)
    (hs : ∀ (j : Nat) (x : AV) (v : Value), [AV.ptr id (fun _ => 0) 3 0, .i .i64 fun _ => m][j]? = some x → vals[j]? = some v → Sim w ρ H.length L x v) :
    Calls Try.prog 67 vals w fun e w' => ∃ v ρ', e = .returned v ∧ Rel w' ρ' L (H.set id (srcEf fr n b (k + 1) (seedN s (bAt (n .u) b k)))) ∧ Pass w ρ H.length w' ρ' (H.set id (srcEf fr n b (k + 1) (seedN s (bAt (n .u) b k)))).length ∧ Sim w' ρ' (H.set id (srcEf fr n b (k + 1) (seedN s (bAt (n .u) b k)))).length L (.i .i64 fun _ => pickN m (n .u) b k s) v := by
  obtain ⟨v1, v2, rfl⟩ : ∃ v1 v2, vals = #[v1, v2] := by
    obtain ⟨l⟩ := vals
    match l, hl with
    | [v1, v2], _ => exact ⟨v1, v2, rfl⟩
  have h1 := hs 0 _ v1 rfl rfl
  obtain rfl := (hs 1 _ v2 rfl rfl).i_inv
  obtain ⟨blk, cs, T, hb, hB⟩ := hR.at_ hH
  have hp1 : v1 = .pointer (some ⟨blk, 0, none⟩) := by
    cases h1 with | ptr _ hv => simpa using hv blk hb
  subst hp1
  obtain ⟨u0, c0, _, s0⟩ := hB.cell 0 _ (.box rfl)
  obtain ⟨u1, c1, _, s1⟩ := hB.cell 1 _ (.box rfl)
  obtain ⟨u2, c2, _, s2⟩ := hB.cell 2 _ (.box rfl)
  obtain ⟨base, cap, rfl, hbytes⟩ := sim_bytes s0
  obtain rfl := s1.i_inv
  obtain rfl := s2.i_inv
  have hcell : ∀ o, w.cell? ⟨blk, o, none⟩ = cs[o]? := fun o => by
    unfold World.cell?
    rw [hB.here]
    rfl
  have hfz : ∀ o, w.frozen? ⟨blk, o, none⟩ = false := fun o => by
    unfold World.frozen?
    rw [hB.here]
    simp
  refine (pick_walk m hm hm2 w blk (n .u) cap base k s b hk hn (by rw [hcell]; exact c0) (by rw [hcell]; exact c1) (by rw [hcell]; exact c2) (hfz 1) (hfz 2) hbb (hbytes k)).mono ?_
  rintro e w' ⟨rfl, hh, ho, ht, hout⟩
  have hsz : 3 ≤ cs.size := by
    have := (Array.getElem?_eq_some_iff.1 c2).1
    omega
  obtain ⟨x1, hx1⟩ : ∃ x1 : Value, x1 = .int .i64 ((k : Int) + 1) := ⟨_, rfl⟩
  obtain ⟨x2, hx2⟩ : ∃ x2 : Value, x2 = .int .u64 (seedN s (bAt (n .u) b k)) := ⟨_, rfl⟩
  rw [← hx1, ← hx2] at hh
  have hhere : w'.heap[blk]? = some (.cells ((cs.setIfInBounds 1 x1).setIfInBounds 2 x2) T (0, 0)) := by
    rw [hh]
    simp [World.setCell, Array.getElem?_modify, hB.here]
  have hoth : ∀ q, q ≠ blk → w'.heap[q]? = w.heap[q]? := fun q hq => by
    rw [hh]
    have hq' : ¬ blk = q := fun e => hq e.symm
    simp [World.setCell, Array.getElem?_modify, hq']
  have hhs : w'.heap.size = w.heap.size := by rw [hh]; simp [World.setCell]
  have hcs : ((cs.setIfInBounds 1 x1).setIfInBounds 2 x2).size = cs.size := by simp
  have hr := hR.write hb hB.here hhere hcs hhs hoth ho ht hout hH (B' := .box [listB n b, .i .i64 fun _ => ((k + 1 : Nat) : Int), .i .u64 fun _ => seedN s (bAt (n .u) b k)]) (fun off a ha => by
    cases ha with | box ha =>
      match off, ha with
      | 0, ha => cases ha; exact ⟨.slice base (n .u) cap, by simp [Array.getElem?_setIfInBounds, c0], rfl, s0⟩
      | 1, ha => cases ha; exact ⟨.int .i64 ((k : Int) + 1), by simp [Array.getElem?_setIfInBounds, hx1]; omega, rfl, .i⟩
      | 2, ha => cases ha; exact ⟨.int .u64 (seedN s (bAt (n .u) b k)), by simp [Array.getElem?_setIfInBounds, hx2]; omega, rfl, .i⟩)
  have hp := Pass.write (w := w) (w' := w') H.length hb hB.here hhere hcs hhs hoth ho ht hout
  have hlen : (H.set id (srcEf fr n b (k + 1) (seedN s (bAt (n .u) b k)))).length = H.length := by simp
  exact ⟨_, ρ, rfl, hr, by rw [hlen]; exact hp, .i⟩
theorem pick_call {H : Heap} {id : Nat} {n : Th Nat} {b : Nat → Int} {k : Nat} {s m : Int} (hH : H[id]? = some (srcE n b k s)) (hm : 1 < m) (hm2 : m ≤ 200) (hk : k < 4611686018427387904) (hn : n .u < 4611686018427387904) (hbb : ∀ k, k < n .u → 0 ≤ b k ∧ b k < 256)
    (w : World) (ρ : Mp) (L : Nat) (vals : Array Value) (hL : L ≤ w.heap.size) (hR : Rel w ρ L H) (hl : [AV.ptr id (fun _ => 0) 3 0, .i .i64 fun _ => m].length = vals.size)
    (hs : ∀ (j : Nat) (x : AV) (v : Value), [AV.ptr id (fun _ => 0) 3 0, .i .i64 fun _ => m][j]? = some x → vals[j]? = some v → Sim w ρ H.length L x v) :
    Calls Try.prog 67 vals w fun e w' => ∃ v ρ', e = .returned v ∧ Rel w' ρ' L (H.set id (srcE n b (k + 1) (seedN s (bAt (n .u) b k)))) ∧ Pass w ρ H.length w' ρ' (H.set id (srcE n b (k + 1) (seedN s (bAt (n .u) b k)))).length ∧ Sim w' ρ' (H.set id (srcE n b (k + 1) (seedN s (bAt (n .u) b k)))).length L (.i .i64 fun _ => pickN m (n .u) b k s) v :=
  pick_callF hH hm hm2 hk hn hbb w ρ L vals hL hR hl hs
end Go.Proofs.Ytfdmmbcjidkmoaa
