/- Marks written into lists of lists whose rows nobody is told of. -/
import Derived.Test.YtgbfngkmnodgdaaHa
import Derived.Deep.LoopGhost
set_option linter.unusedSimpArgs false
set_option linter.unusedVariables false
namespace Go.Proofs.Ytgbfngkmnodgdaa
open Go.Aw
theorem ops_step {P : Program} {ops : Array Oper} {Q : Exit → Act → World → Prop} {i : Nat} {rest : List Nat} {a : Act} {w w' : World} {o : Oper} {v : Value} (ho : ops[i]? = some o) (hg : o.guard = none)
    (hr : (execOp a.eval o).run P w = .ok (.value v) w') (h : wpOps P ops Q rest (a.put o.dst v) w') : wpOps P ops Q (i :: rest) a w := by
  simp only [wpOps, ho]
  rw [if_pos (by simp [Region.wanted, hg])]
  refine .inl ?_
  unfold Oper.wp Oper.upon
  rw [hr]
  exact h
theorem ops_skip {P : Program} {ops : Array Oper} {Q : Exit → Act → World → Prop} {i : Nat} {rest : List Nat} {a : Act} {w w' : World} {o : Oper} (ho : ops[i]? = some o) (hg : o.guard = none)
    (hr : (execOp a.eval o).run P w = .ok .skip w') (h : wpOps P ops Q rest (a.put o.dst undef) w') : wpOps P ops Q (i :: rest) a w := by
  simp only [wpOps, ho]
  rw [if_pos (by simp [Region.wanted, hg])]
  refine .inl ?_
  unfold Oper.wp Oper.upon
  rw [hr]
  exact h
theorem ops_call {P : Program} {ops : Array Oper} {Q : Exit → Act → World → Prop} {i : Nat} {rest : List Nat} {a : Act} {w : World} {o : Oper} {f : FuncId} {args : Array Value} (ho : ops[i]? = some o) (hg : o.guard = none)
    (hr : (execOp a.eval o).run P w = .ok (.enter f args) w) (h : Calls P f args w fun e w' => ∃ v, e = .returned v ∧ wpOps P ops Q rest (a.put o.dst v) w') : wpOps P ops Q (i :: rest) a w := by
  simp only [wpOps, ho]
  rw [if_pos (by simp [Region.wanted, hg])]
  refine .inl ?_
  unfold Oper.wp Oper.upon
  rw [hr]
  refine h.mono fun e w' hh => ?_
  obtain ⟨v, rfl, h2⟩ := hh
  exact h2
section
variable {P : Program} {w : World} {ev : Operand → Value} {o : Oper}
theorem ex_move {x : Operand} (hop : o.op = .move x) : (execOp ev o).run P w = .ok (.value (ev x)) w := by unfold execOp; simp [hop]
theorem ex_assign {x : Operand} (hop : o.op = .assign x) : (execOp ev o).run P w = .ok (.value (ev x)) w := by unfold execOp; simp [hop]
theorem ex_lss {x y : Operand} {t t' : TypeId} {a b : Int} (hop : o.op = .binOp .lss t x y t') (hx : ev x = .int .i64 a) (hy : ev y = .int .i64 b) : (execOp ev o).run P w = .ok (.value (.bool (decide (a < b)))) w := by
  unfold execOp; simp [hop, hx, hy, binOp, Op.intCmp, eqGuard]
theorem ex_add {x y : Operand} {t t' : TypeId} {a b : Int} (hop : o.op = .binOp .add t x y t') (hx : ev x = .int .i64 a) (hy : ev y = .int .i64 b) (hf : -9223372036854775808 ≤ a + b ∧ a + b ≤ 9223372036854775807) : (execOp ev o).run P w = .ok (.value (.int .i64 (a + b))) w := by
  unfold execOp; simp [hop, hx, hy, binOp, Op.intArith, eqGuard, wrap_fits hf]
theorem ex_len {x : Operand} {t e : TypeId} {b : Option Addr} {n c : Nat} (hop : o.op = .call ⟨.builtin .len, #[x], #[t]⟩) (ht : P.underlying t = some (.slice e)) (hx : ev x = .slice b n c) : (execOp ev o).run P w = .ok (.value (.int .i64 n)) w := by
  have he : P.elem t = e := by simp [Program.elem, ht]
  have h1 : (Builtin.len_ #[t] o.type #[ev x]).run P w = .ok (.int .i64 n) w := by rw [hx]; exact run_len_slice w t o.type b n c (by rw [he]; exact ht)
  unfold execOp
  simp only [hop, resolve, Sem.run_bind, Sem.run_pure, Result.andThen_ok, invoke]
  have hb : ∀ cs, builtin .len #[t] o.type cs (#[x].map ev) = (do pure (Next.value (← Builtin.len_ #[t] o.type #[ev x]))) := fun _ => by simp [builtin]
  simp only [hb, Sem.run_bind, h1, Sem.run_pure, Result.andThen_ok]
theorem ex_conv {x : Operand} {s d : TypeId} {a : Int} (hop : o.op = .convert s d x) (hs : (P.underlying s).isSome = true) (hd : P.underlying d = some (.float .f32)) (hx : ev x = .int .i64 a) : (execOp ev o).run P w = .ok (.value (.float .f32 (itof .f32 a))) w := by
  unfold execOp; simp [hop, hx, run_conv_itof _ _ _ _ _ hs hd]
theorem ex_index {x y : Operand} {t e : TypeId} {info : TypeInfo} {blk off : Nat} {n c : Nat} {k : Int} (hop : o.op = .indexAddr t x y) (ht : P.underlying t = some (.slice e)) (hi : P.info? e = some info) (h1 : info.size = 1) (hx : ev x = .slice (some ⟨blk, off, none⟩) n c) (hy : ev y = .int .i64 k) (h0 : 0 ≤ k) (hk : k < n) :
    (execOp ev o).run P w = .ok (.value (.pointer (some ⟨blk, off + k.toNat, none⟩))) w := by
  unfold execOp; simp [hop, hx, hy, run_index ht hi _ _ _ _ _ h0 hk, h1, addr_add]
theorem ex_load {x : Operand} {t : TypeId} {d : TypeDesc} {blk off : Nat} {u : Value} (hop : o.op = .load t x) (ht : P.underlying t = some d) (ha : isAggD d = false) (hx : ev x = .pointer (some ⟨blk, off, none⟩)) (hc : w.cell? ⟨blk, off, none⟩ = some u) (h1 : u.oneCell' = true) :
    (execOp ev o).run P w = .ok (.value u) w := by
  unfold execOp
  simp [hop, hx, Instr.loadAt, Instr.sureAddr, loadVar, run_isAgg ht, ha, hc]
theorem ex_store {x y : Operand} {t : TypeId} {info : TypeInfo} {blk off : Nat} {v : Value} {cs : Array Value} {T : TypeId} (hop : o.op = .store t x y) (hi : P.info? t = some info) (h1 : info.size = 1) (hx : ev x = .pointer (some ⟨blk, off, none⟩)) (hy : ev y = v) (hv : v.oneCell' = true)
    (hw : w.heap[blk]? = some (.cells cs T (0, 0))) (hfit : off + 1 ≤ cs.size) :
    ∃ w' cs', (execOp ev o).run P w = .ok .skip w' ∧ w'.heap[blk]? = some (.cells cs' T (0, 0)) ∧ cs'.size = cs.size ∧ w'.heap.size = w.heap.size ∧ (∀ b, b ≠ blk → w'.heap[b]? = w.heap[b]?) ∧ w'.os = w.os ∧ w'.tape = w.tape ∧ w'.output = w.output ∧ ∀ (off : Nat) (u : Value), cs[off]? = some u → u.oneCell' = true → ∃ u', cs'[off]? = some u' ∧ u'.oneCell' = true := by
  obtain ⟨w', cs', k1, k2, k3, k4, k5, k6, k7, k8, k9⟩ := store_cells (P := P) hw [v] (by simpa using hfit) (by simpa using hv)
  refine ⟨w', cs', ?_, k2, k3, k4, k5, k6, k7, k8, fun o1 u h1 h2 => ?_⟩
  rotate_left
  · rw [k9]
    by_cases e : off ≤ o1 ∧ o1 < off + [v].length
    · rw [if_pos e]
      have : o1 - off = 0 := by simp at e; omega
      rw [this]
      exact ⟨v, rfl, hv⟩
    · rw [if_neg e]
      exact ⟨u, h1, h2⟩
  have hc : v.cells = #[v] := cells_one hv
  have e : ¬ ((#[v] : Array Value).size ≠ info.size) := by rw [h1]; simp
  unfold execOp
  simp only [hop, hx, hy, Instr.storeAt, Instr.sureAddr, Sem.run_bind, Sem.run_pure, Result.andThen_ok, storeVar, Go.Aw.run_sizeOf hi, hc, e, if_false]
  simp only [k1, Result.andThen_ok]
theorem ex_call {fop : Operand} {f : FuncId} {args : Array Operand} {ts : Array TypeId} {fn : Func} {av : Array Value} (hop : o.op = .call ⟨.value fop, args, ts⟩) (hfe : ev fop = .func (.func f) #[] #[]) (hf : P.funcs[f]? = some fn) (hname : (fn.name == "runtime.NumGoroutine") = false) (hbody : fn.body.isNone = false)
    (ha : #[] ++ args.map ev ++ #[] = av) : (execOp ev o).run P w = .ok (.enter f av) w := by
  subst ha
  unfold execOp
  simp only [hop, resolve, hfe, Deferred.ofValue, Sem.run_bind, Sem.run_pure, Result.andThen_ok, invoke, callFunc, run_program, hf, hname, hbody, Bool.false_eq_true, if_false]
end
theorem ops_store {P : Program} {ops : Array Oper} {Q : Exit → Act → World → Prop} {i : Nat} {rest : List Nat} {a : Act} {w : World} {o : Oper} {x y : Operand} {t : TypeId} {info : TypeInfo} {blk off : Nat} {v : Value} {cs : Array Value} {T : TypeId} (ho : ops[i]? = some o) (hg : o.guard = none)
    (hop : o.op = .store t x y) (hi : P.info? t = some info) (h1 : info.size = 1) (hx : a.eval x = .pointer (some ⟨blk, off, none⟩)) (hy : a.eval y = v) (hv : v.oneCell' = true) (hw : w.heap[blk]? = some (.cells cs T (0, 0))) (hfit : off + 1 ≤ cs.size)
    (h : ∀ (w' : World) (cs' : Array Value), w'.heap[blk]? = some (.cells cs' T (0, 0)) → cs'.size = cs.size → w'.heap.size = w.heap.size → (∀ b, b ≠ blk → w'.heap[b]? = w.heap[b]?) → w'.os = w.os → w'.tape = w.tape → w'.output = w.output → (∀ (off : Nat) (u : Value), cs[off]? = some u → u.oneCell' = true → ∃ u', cs'[off]? = some u' ∧ u'.oneCell' = true) → wpOps P ops Q rest (a.put o.dst undef) w') : wpOps P ops Q (i :: rest) a w := by
  obtain ⟨w', cs', k0, k1, k2, k3, k4, k5, k6, k7, k8⟩ := ex_store (P := P) (ev := a.eval) hop hi h1 hx hy hv hw hfit
  exact ops_skip ho hg k0 (h w' cs' k1 k2 k3 k4 k5 k6 k7 k8)
/-- A block whose numbers may be others: all else stands. -/
structure Touch (w : World) (blk : Nat) (w' : World) : Prop where
  size : w'.heap.size = w.heap.size
  other : ∀ b, b ≠ blk → w'.heap[b]? = w.heap[b]?
  shape : ∀ (b : Nat) (cs : Array Value) (T : TypeId), w.heap[b]? = some (Obj.cells cs T (0, 0)) → ∃ cs' : Array Value, w'.heap[b]? = some (Obj.cells cs' T (0, 0)) ∧ cs'.size = cs.size ∧ ∀ (off : Nat) (u : Value), cs[off]? = some u → u.oneCell' = true → ∃ u', cs'[off]? = some u' ∧ u'.oneCell' = true
  os : w'.os = w.os
  tape : w'.tape = w.tape
  output : w'.output = w.output
theorem Touch.refl (w : World) (blk : Nat) : Touch w blk w := ⟨rfl, fun _ _ => rfl, fun _ cs _ h => ⟨cs, h, rfl, fun _ u h1 h2 => ⟨u, h1, h2⟩⟩, rfl, rfl, rfl⟩
theorem markS_calls {n cap : Nat} {k : Int} {base : Option Addr} {blk off : Nat} {w : World} (h0 : 0 ≤ k) (h1 : k + n ≤ 9223372036854775807) (hb : 0 < n → base = some ⟨blk, off, none⟩ ∧ ∃ cs T, w.heap[blk]? = some (.cells cs T (0, 0)) ∧ off + n ≤ cs.size) :
    Calls Try.prog 18 #[.slice base n cap, .int .i64 k] w fun e w' => e = .returned (.int .i64 (k + n)) ∧ Touch w blk w' := by
  have t24 : Try.prog.underlying 22 = some (.slice 51) := by kernel_rfl
  have t34 : Try.prog.underlying 51 = some (.float .f32) := by kernel_rfl
  have t3 : (Try.prog.underlying 3).isSome = true := by kernel_rfl
  obtain ⟨info, hinfo, hsz⟩ : ∃ info, Try.prog.info? 51 = some info ∧ info.size = 1 := by
    have h : (Try.prog.info? 51).map (·.size) = some 1 := by kernel_rfl
    exact Option.map_eq_some_iff.1 h
  refine calls_of_wp Try.func18 rfl ?_
  refine wp_seq (wp_region ?_)
  refine ops_step rfl rfl (ex_assign rfl) ?_
  refine wp_seq (wp_seq (wp_region ?_))
  refine ops_step rfl rfl (ex_assign rfl) ?_
  refine wp_block ?_
  refine wp_loop_ghost (fun m a w1 => ∃ (i : Nat) (z : Int), z = k + (i : Int) ∧ m = n - i ∧ i ≤ n ∧ Touch w blk w1 ∧ ∃ d2 d3 d4 d6 d7 d8 d9 d10 d11 d12 d13 d14 d15 d16 d17 d18 d19, a = { tmps := #[.slice base n cap, .int .i64 z, d2, d3, d4, .int .i64 (i : Int), d6, d7, d8, d9, d10, d11, d12, d13, d14, d15, d16, d17, d18, d19], defers := [] }) n
    ⟨0, k, by omega, rfl, Nat.zero_le _, Touch.refl _ _, undef, undef, .int .i64 0, undef, undef, undef, undef, undef, undef, undef, undef, undef, undef, undef, undef, undef, undef, by kernel_rfl⟩ ?_
  rintro m a w1 ⟨i, z, hz, rfl, hi, hT, d2, d3, d4, d6, d7, d8, d9, d10, d11, d12, d13, d14, d15, d16, d17, d18, d19, rfl⟩
  refine wp_seq (wp_seq (wp_region ?_))
  refine ops_step rfl rfl (ex_move rfl) ?_
  refine ops_step rfl rfl (ex_move rfl) ?_
  refine ops_step rfl rfl (ex_len (b := base) (n := n) (c := cap) rfl t24 (by kernel_rfl)) ?_
  refine ops_step rfl rfl (ex_lss (a := (i : Int)) (b := (n : Int)) rfl (by kernel_rfl) (by kernel_rfl)) ?_
  refine wp_cond_split (t := decide ((i : Int) < (n : Int))) (by kernel_rfl) (fun hlt => wp_skip ?_) fun hge => wp_exit ?_
  · have hlt' : i < n := by have := of_decide_eq_true hlt; omega
    obtain ⟨hbase, cs, T, hcs, hfit⟩ := hb (by omega)
    obtain ⟨cs1, hcs1, hsz1, _⟩ := hT.shape blk cs T hcs
    subst hbase
    refine wp_seq (wp_block (wp_seq (wp_region ?_)))
    refine ops_step rfl rfl (ex_move rfl) ?_
    refine ops_step rfl rfl (ex_move rfl) ?_
    refine ops_step rfl rfl (ex_move rfl) ?_
    refine ops_step rfl rfl (ex_conv (a := z) rfl t3 t34 (by kernel_rfl)) ?_
    refine ops_step rfl rfl (ex_index (blk := blk) (off := off) (n := n) (c := cap) (k := (i : Int)) rfl t24 hinfo hsz (by kernel_rfl) (by kernel_rfl) (by omega) (by omega)) ?_
    refine ops_store rfl rfl rfl hinfo hsz (blk := blk) (off := off + (i : Int).toNat) (v := .float .f32 (itof .f32 z)) (by kernel_rfl) (by kernel_rfl) rfl hcs1 (by omega) fun w2 cs2 h2 h3 h4 h5 h6 h7 h8 h9 => ?_
    have hT2 : Touch w blk w2 := by
      refine ⟨h4.trans hT.size, fun b hne => (h5 b hne).trans (hT.other b hne), fun b cs0 T0 hh => ?_, h6.trans hT.os, h7.trans hT.tape, h8.trans hT.output⟩
      obtain ⟨cs3, g1, g2, g3⟩ := hT.shape b cs0 T0 hh
      by_cases hbb : b = blk
      · subst hbb
        rw [hcs1] at g1; cases g1
        refine ⟨cs2, h2, h3.trans g2, fun off u q1 q2 => ?_⟩
        obtain ⟨u1, q3, q4⟩ := g3 off u q1 q2
        exact h9 off u1 q3 q4
      · exact ⟨cs3, by rw [h5 b hbb]; exact g1, g2, g3⟩
    refine wp_region ?_
    refine ops_step rfl rfl (ex_move rfl) ?_
    refine ops_step rfl rfl (ex_add (a := z) (b := 1) rfl (by kernel_rfl) (by kernel_rfl) (by omega)) ?_
    refine ops_step rfl rfl (ex_assign rfl) ?_
    refine wp_region ?_
    refine ops_step rfl rfl (ex_move rfl) ?_
    refine ops_step rfl rfl (ex_add (a := (i : Int)) (b := 1) rfl (by kernel_rfl) (by kernel_rfl) (by omega)) ?_
    refine ops_step rfl rfl (ex_assign rfl) ?_
    have e1 : ((i + 1 : Nat) : Int) = (i : Int) + 1 := by omega
    refine ⟨n - (i + 1), by omega, i + 1, z + 1, by omega, rfl, by omega, hT2, d2, d3, d4, .int .i64 (i : Int), .slice (some ⟨blk, off, none⟩) n cap, .int .i64 (n : Int), .bool (decide ((i : Int) < (n : Int))), .int .i64 (i : Int), .int .i64 ((i : Int) + 1), .slice (some ⟨blk, off, none⟩) n cap, .int .i64 (i : Int), .int .i64 z, .float .f32 (itof .f32 z), .pointer (some ⟨blk, off + (i : Int).toNat, none⟩), .int .i64 z, .int .i64 (z + 1), d19, ?_⟩
    rw [e1]
    kernel_rfl
  · have hge' : ¬ (i : Int) < n := of_decide_eq_false hge
    have e : i = n := by omega
    subst e
    refine wp_seq (wp_region ?_)
    refine ops_step rfl rfl (ex_move rfl) ?_
    refine ops_step rfl rfl (ex_assign rfl) ?_
    refine wp_ret ?_
    refine ⟨by kernel_rfl, .int .i64 z, ?_, by rw [hz], hT⟩
    kernel_rfl
/-- Some blocks whose numbers may be others: all else stands. -/
structure TouchG (w : World) (G : Nat → Prop) (w' : World) : Prop where
  size : w'.heap.size = w.heap.size
  other : ∀ b, ¬ G b → w'.heap[b]? = w.heap[b]?
  shape : ∀ (b : Nat) (cs : Array Value) (T : TypeId), w.heap[b]? = some (Obj.cells cs T (0, 0)) → ∃ cs' : Array Value, w'.heap[b]? = some (Obj.cells cs' T (0, 0)) ∧ cs'.size = cs.size ∧ ∀ (off : Nat) (u : Value), cs[off]? = some u → u.oneCell' = true → ∃ u', cs'[off]? = some u' ∧ u'.oneCell' = true
  os : w'.os = w.os
  tape : w'.tape = w.tape
  output : w'.output = w.output
theorem TouchG.refl (w : World) (G : Nat → Prop) : TouchG w G w := ⟨rfl, fun _ _ => rfl, fun _ cs _ h => ⟨cs, h, rfl, fun _ u h1 h2 => ⟨u, h1, h2⟩⟩, rfl, rfl, rfl⟩
theorem TouchG.step {w w1 w2 : World} {G : Nat → Prop} {blk : Nat} (h : TouchG w G w1) (k : Touch w1 blk w2) (hg : G blk ∨ w1.heap.size ≤ blk) : TouchG w G w2 := by
  refine ⟨k.size.trans h.size, fun b hb => ?_, fun b cs T hh => ?_, k.os.trans h.os, k.tape.trans h.tape, k.output.trans h.output⟩
  · by_cases e : b = blk
    · subst e
      rcases hg with hg | hg
      · exact absurd hg hb
      · rw [Array.getElem?_eq_none (by rw [k.size]; exact hg), Array.getElem?_eq_none (by rw [← h.size]; exact hg)]
    · exact (k.other b e).trans (h.other b hb)
  · obtain ⟨cs1, g1, g2, i1⟩ := h.shape b cs T hh
    obtain ⟨cs2, g3, g4, i2⟩ := k.shape b cs1 T g1
    refine ⟨cs2, g3, g4.trans g2, fun off u h1 h2 => ?_⟩
    obtain ⟨u1, h3, h4⟩ := i1 off u h1 h2
    exact i2 off u1 h3 h4
/-- A row: a list that may be written. -/
def RowAt (w : World) (G : Nat → Prop) (u : Value) (m : Nat) : Prop := ∃ rb rc, u = .slice rb m rc ∧ (0 < m → ∃ (blk off : Nat) (cs : Array Value) (T : TypeId), rb = some ⟨blk, off, none⟩ ∧ w.heap[blk]? = some (Obj.cells cs T (0, 0)) ∧ off + m ≤ cs.size ∧ G blk)
theorem markSS_calls {n cap : Nat} {k : Int} {base : Option Addr} {bt ot : Nat} {w : World} {G : Nat → Prop} {m : Nat → Nat} (hn : n ≤ 9223372036854775807) (h0 : 0 ≤ k) (h1 : k + (sumM m n : Int) ≤ 9223372036854775807)
    (hb : 0 < n → base = some ⟨bt, ot, none⟩ ∧ ¬ G bt ∧ ∀ j, j < n → ∃ u, w.cell? ⟨bt, ot + j, none⟩ = some u ∧ RowAt w G u (m j)) :
    Calls Try.prog 19 #[.slice base n cap, .int .i64 k] w fun e w' => e = .returned (.int .i64 (k + (sumM m n : Int))) ∧ TouchG w G w' := by
  have t22 : Try.prog.underlying 23 = some (.slice 22) := by kernel_rfl
  have t24 : Try.prog.underlying 22 = some (.slice 51) := by kernel_rfl
  obtain ⟨info, hinfo, hsz⟩ : ∃ info, Try.prog.info? 22 = some info ∧ info.size = 1 := by
    have h : (Try.prog.info? 22).map (·.size) = some 1 := by kernel_rfl
    exact Option.map_eq_some_iff.1 h
  refine calls_of_wp Try.func19 rfl ?_
  refine wp_seq (wp_region ?_)
  refine ops_step rfl rfl (ex_assign rfl) ?_
  refine wp_seq (wp_seq (wp_region ?_))
  refine ops_step rfl rfl (ex_assign rfl) ?_
  refine wp_block ?_
  refine wp_loop_ghost (fun q a w1 => ∃ (i : Nat) (z : Int), z = k + (sumM m i : Int) ∧ q = n - i ∧ i ≤ n ∧ TouchG w G w1 ∧ ∃ d2 d3 d4 d6 d7 d8 d9 d10 d11 d12 d13 d14 d15 d16 d17 d18, a = { tmps := #[.slice base n cap, .int .i64 z, d2, d3, d4, .int .i64 (i : Int), d6, d7, d8, d9, d10, d11, d12, d13, d14, d15, d16, d17, d18], defers := [] }) n
    ⟨0, k, by simp [sumM], rfl, Nat.zero_le _, TouchG.refl _ _, undef, undef, .int .i64 0, undef, undef, undef, undef, undef, undef, undef, undef, undef, undef, undef, undef, undef, by kernel_rfl⟩ ?_
  rintro q a w1 ⟨i, z, hz, rfl, hi, hT, d2, d3, d4, d6, d7, d8, d9, d10, d11, d12, d13, d14, d15, d16, d17, d18, rfl⟩
  refine wp_seq (wp_seq (wp_region ?_))
  refine ops_step rfl rfl (ex_move rfl) ?_
  refine ops_step rfl rfl (ex_move rfl) ?_
  refine ops_step rfl rfl (ex_len (b := base) (n := n) (c := cap) rfl t22 (by kernel_rfl)) ?_
  refine ops_step rfl rfl (ex_lss (a := (i : Int)) (b := (n : Int)) rfl (by kernel_rfl) (by kernel_rfl)) ?_
  refine wp_cond_split (t := decide ((i : Int) < (n : Int))) (by kernel_rfl) (fun hlt => wp_skip ?_) fun hge => wp_exit ?_
  · have hlt' : i < n := by have := of_decide_eq_true hlt; omega
    obtain ⟨hbase, hGb, hrows⟩ := hb (by omega)
    obtain ⟨u, hu, rb, rc, rfl, hrow⟩ := hrows i hlt'
    subst hbase
    have hu1 : w1.cell? ⟨bt, ot + (i : Int).toNat, none⟩ = some (.slice rb (m i) rc) := by
      rw [cell_eq (hT.other bt hGb), Int.toNat_natCast]
      exact hu
    have es : sumM m (i + 1) = sumM m i + m i := rfl
    have esl := sumM_le m (show i + 1 ≤ n by omega)
    refine wp_seq (wp_block (wp_region ?_))
    refine ops_step rfl rfl (ex_move rfl) ?_
    refine ops_step rfl rfl (ex_move rfl) ?_
    refine ops_step rfl rfl (ex_index (blk := bt) (off := ot) (n := n) (c := cap) (k := (i : Int)) rfl t22 hinfo hsz (by kernel_rfl) (by kernel_rfl) (by omega) (by omega)) ?_
    refine ops_step rfl rfl (ex_load (blk := bt) (off := ot + (i : Int).toNat) rfl t24 rfl (by kernel_rfl) hu1 rfl) ?_
    refine ops_step rfl rfl (ex_move rfl) ?_
    refine ops_call rfl rfl (ex_call (av := #[.slice rb (m i) rc, .int .i64 z]) rfl (by kernel_rfl) Try.func18 rfl rfl (by kernel_rfl)) ?_
    obtain ⟨blk, hblk⟩ : ∃ blk, (G blk ∨ w1.heap.size ≤ blk) ∧ ∃ off, 0 < m i → rb = some ⟨blk, off, none⟩ ∧ ∃ cs T, w1.heap[blk]? = some (.cells cs T (0, 0)) ∧ off + m i ≤ cs.size := by
      by_cases hm : 0 < m i
      · obtain ⟨blk, off, cs, T, r1, r2, r3, r4⟩ := hrow hm
        obtain ⟨cs1, g1, g2, _⟩ := hT.shape blk cs T r2
        exact ⟨blk, .inl r4, off, fun _ => ⟨r1, cs1, T, g1, by omega⟩⟩
      · exact ⟨w1.heap.size, .inr (Nat.le_refl _), 0, fun h => absurd h hm⟩
    obtain ⟨hg, off, hrb⟩ := hblk
    refine (markS_calls (n := m i) (cap := rc) (k := z) (base := rb) (blk := blk) (off := off) (w := w1) (by omega) (by omega) hrb).mono fun e w2 hh => ?_
    obtain ⟨rfl, hT1⟩ := hh
    refine ⟨_, rfl, ?_⟩
    refine ops_step rfl rfl (ex_assign rfl) ?_
    refine wp_region ?_
    refine ops_step rfl rfl (ex_move rfl) ?_
    refine ops_step rfl rfl (ex_add (a := (i : Int)) (b := 1) rfl (by kernel_rfl) (by kernel_rfl) (by omega)) ?_
    refine ops_step rfl rfl (ex_assign rfl) ?_
    have e1 : ((i + 1 : Nat) : Int) = (i : Int) + 1 := by omega
    refine ⟨n - (i + 1), by omega, i + 1, z + (m i : Int), by omega, rfl, by omega, hT.step hT1 hg, d2, d3, d4, .int .i64 (i : Int), .slice (some ⟨bt, ot, none⟩) n cap, .int .i64 (n : Int), .bool (decide ((i : Int) < (n : Int))), .int .i64 (i : Int), .int .i64 ((i : Int) + 1), .slice (some ⟨bt, ot, none⟩) n cap, .int .i64 (i : Int), .pointer (some ⟨bt, ot + (i : Int).toNat, none⟩), .slice rb (m i) rc, .int .i64 z, .int .i64 (z + (m i : Int)), d18, ?_⟩
    rw [e1]
    kernel_rfl
  · have hge' : ¬ (i : Int) < n := of_decide_eq_false hge
    have e : i = n := by omega
    subst e
    refine wp_seq (wp_region ?_)
    refine ops_step rfl rfl (ex_move rfl) ?_
    refine ops_step rfl rfl (ex_assign rfl) ?_
    refine wp_ret ?_
    refine ⟨by kernel_rfl, .int .i64 z, ?_, by rw [hz], hT⟩
    kernel_rfl
def isRowB : AV → Bool
  | .ro true _ 1 _ => true
  | _ => false
theorem isRowB_ro {n : Th Nat} {g : Th Nat → Nat → AV} : isRowB (.ro true n 1 g) = true := rfl
def kMarkSS : Ks
  | [.own id i n 1, .i .i64 k], H => match H[id]? with
    | some (some (_, .tab m 1 g)) => some (.i .i64 fun _ => k .u + (sumM (rowN g) (n .u) : Int), fun _ => i .u = 0 ∧ n .u ≤ m .u ∧ (∀ j, j < n .u → isRowB (g (fun _ => j) 0) = true) ∧ n .u ≤ 9223372036854775807 ∧ 0 ≤ k .u ∧ k .u + (sumM (rowN g) (n .u) : Int) ≤ 9223372036854775807)
    | _ => none
  | _, _ => none
theorem row_at {w : World} {ρ : Mp} {N L : Nat} {a : AV} {u : Value} (h : isRowB a = true) (hs : Sim w ρ N L a u) : RowAt w (fun b => L ≤ b ∧ ∀ id, ρ id ≠ some b) u (match asL a with
    | some (k, _) => k .u
    | none => 0) := by
  unfold isRowB at h
  split at h
  · rename_i n g
    simp only [asL]
    cases hs with
    | ro0 h0 => rw [h0]; exact ⟨_, _, rfl, fun e => absurd e (by omega)⟩
    | ro us hn hq hc hsim =>
      rename_i blk off cap
      refine ⟨_, _, rfl, fun hpos => ?_⟩
      obtain ⟨q1, q2, q3, q4⟩ := hq
      obtain ⟨hL, cs, T, hcs⟩ := q3 rfl
      refine ⟨blk, off, cs, T, rfl, hcs, ?_, hL, q2⟩
      obtain ⟨c1, _⟩ := hc (n .u - 1) 0 (by omega) (by omega)
      simp only [World.cell?, hcs, Option.isSome_none, Bool.false_eq_true, if_false] at c1
      have := (Array.getElem?_eq_some_iff.1 c1).1
      omega
  · cases h
theorem markSS_tells : Tells Try.prog 19 (.s kMarkSS) := by
  intro args H r p hr hp
  unfold kMarkSS at hr
  split at hr <;> first | (cases hr; done) | skip
  rename_i id i n k
  split at hr <;> cases hr
  rename_i fr m g hH
  obtain ⟨hi, hn, hrow, hn1, h0, h1⟩ := hp
  refine ⟨⟨_, Try.func19, rfl, rfl⟩, fun w ρ L vals hR hl hs => ?_⟩
  obtain ⟨v1, v2, rfl⟩ : ∃ v1 v2, vals = #[v1, v2] := by
    obtain ⟨l⟩ := vals
    match l, hl with
    | [v1, v2], _ => exact ⟨v1, v2, rfl⟩
  have s1 := hs 0 _ v1 rfl rfl
  cases (hs 1 _ v2 rfl rfl).i_inv
  obtain ⟨blk, cs, T, hb, hB⟩ := hR.at_ hH
  cases s1 with
  | own hid hv =>
  obtain ⟨off, cap, rfl, hnc, hcm, hoff, hroom⟩ := hv blk hb
  refine (markSS_calls (G := fun b => L ≤ b ∧ ∀ id, ρ id ≠ some b) (m := rowN g) (bt := blk) (ot := off) (w := w) hn1 h0 h1 fun hpos => ⟨rfl, fun hg => hg.2 id hb, fun j hj => ?_⟩).mono fun e w' hh => ?_
  · have hoff0 : off = 0 := by
      rcases hoff with e | e
      · rw [e, hi]
      · omega
    obtain ⟨u, u1, u2, u3⟩ := hB.cell _ _ (.tab j 0 (by omega) (by omega))
    refine ⟨u, ?_, row_at (hrow j hj) u3⟩
    rw [hoff0]
    simp only [World.cell?, hB.here, Option.isSome_none, Bool.false_eq_true, if_false]
    rw [show 0 + j = j * 1 + 0 by omega]
    exact u1
  · obtain ⟨rfl, hT⟩ := hh
    refine ⟨_, rfl, ⟨hT.size, fun b hb' => hT.other b fun hg => ?_, fun b cs T hh => (hT.shape b cs T hh).imp fun _ h => ⟨h.1, h.2.2⟩, hT.os, hT.tape, hT.output⟩, fun _ _ _ _ => .i⟩
    rcases hb' with h | ⟨id', h⟩
    · omega
    · exact hg.2 id' h
theorem szLL_sum {n : Nat} {m : Nat → Nat} (h : ¬ szLL n m 1048576 < 0) : sumM m n ≤ 1048576 := by
  have h3 : ¬ (1048576 : Int) - (n : Int) - (sumM m n : Int) < 0 := by
    intro h'
    simp only [szLL, decide_eq_true h', cond_true] at h
    omega
  omega
/-! Copies whose list of rows has a name. -/
def kToSSo : Kr
  | [a] => match asLL a with
    | some (n, g) => some (.own 0 (fun _ => 0) n 1, [some (true, .tab n 1 fun j _ => .ro true (fun _ => rowN g (j .u)) 1 fun k _ => .f .f32 fun _ => rowX g (j .u) (k .u))], fun _ => IsFF n g ∧ n .u ≤ 1048576 ∧ ∀ i, i < n .u → rowN g i ≤ 1048576)
    | none => none
  | _ => none
theorem toSSo_tells : Tells Try.prog 13 (.r kToSSo) := by
  intro args r H' p hr hp
  unfold kToSSo at hr
  split at hr <;> first | (cases hr; done) | skip
  split at hr <;> cases hr
  rename_i n g hL
  obtain ⟨hp, hn, hmm⟩ := hp
  refine ⟨.own, .cons (fun fr B e => by cases e; exact .tab fun _ _ _ _ => .ro fun _ _ _ _ => .f) .nil, Con.pre (args' := [listFF false n (rowN g) (rowX g)]) ⟨.asLL hL hp, trivial⟩ ?_⟩
  generalize rowN g = m at hmm
  generalize rowX g = x
  refine Con.of ttok Try.func13 rfl rfl (Nat.zero_le _) (AW.exec ttok ctToSS_ok (by cbv) ?_)
  simp only [natCast_int, Post, All, thenA, canon0, canon064, and_true, true_and, forall_const, implies_true, decide_eq_true_eq, decide_eq_false_iff_not, Bool.not_eq_true', Bool.not_eq_false', Bool.true_and, Bool.and_true, beq_true, beq_false, Int.toNat_natCast, Int.ofNat_lt, Int.ofNat_le, Nat.zero_add, Nat.add_zero, imp_self, Bool.cond_false_right, Bool.cond_true_left, Bool.cond_true_right, IsF, rdF_eq, fOf, AV.f.injEq, exists_eq', free_list, free_fn0, List.not_mem_nil, List.mem_cons, false_imp, forall_eq, or_false, free_i, free_f, free_b, ren_f, ren_i, ren_b, and_self, bne_iff_ne, bne_eq_false_iff_eq, ne_eq, Int.natCast_inj, or_true, true_or, freeB_list, unfr_f, unfr_i, unfr_b, unfr_c, unfr_s, free_c, free_s, ren_c, ren_s, unfr_ro, unfr_rptr, ren_ro, free_ll, free_box, kill_f, kill_i, kill_b, kill_c, kill_s, kill_rof, kill_rot, Int.toNat_zero, isFF_ll, rowN_ll, rowX_ll, AllFree, Option.some.injEq, Prod.mk.injEq, Bool.false_eq_true, Bool.true_eq_false]
  (repeat' first | with_reducible assumption | with_reducible apply And.intro | with_reducible intro hh) <;> first | ((first | with_reducible show (_ : Int) ≤ _ | with_reducible show (_ : Int) < _ | with_reducible show (_ : Nat) ≤ _ | with_reducible show (_ : Nat) < _ | with_reducible show (_ : Int) = _ | with_reducible show (_ : Nat) = _ | with_reducible show ¬ _ | with_reducible show _ ≠ _) <;> first | omega | (simp only [Bool.and_eq_true, Bool.or_eq_false_iff, Bool.not_eq_false', Bool.not_eq_true', decide_eq_true_eq, decide_eq_false_iff_not] at *; omega) | (with_reducible assumption)) | (with_reducible assumption) | skip
  refine AW.loopH (ι := Nat) (fun i => i ≤ n .u) (fun i => n .u - i) (fun i => mkE Try.f13.ntmps [(0, listFF false n m x), (3, .own 0 (fun _ => 0) n 1), (4, .i .i64 fun _ => (i : Int))])
    (fun i => [blkRows n m x i]) 0 (Nat.zero_le _) (To.list (Nat.zero_le _) (Nat.le_refl _) (fun e => e) (fun j hj => ?_) ?_) ?_
  · exact AvTo.nilRo (by simp)
  · (repeat' first | exact AllTo.nil | apply AllTo.cons) <;> first | exact AvTo.dead _ | exact AvTo.i rfl | exact AvTo.own rfl rfl rfl rfl | exact Free.same (free_ll.2 trivial)
  · rintro Q' hQ i hi
    refine AW.exec ttok ctToSS_ok (by cbv) ?_
    simp only [natCast_int, Post, All, thenA, canon0, canon064, and_true, true_and, forall_const, implies_true, decide_eq_true_eq, decide_eq_false_iff_not, Bool.not_eq_true', Bool.not_eq_false', Bool.true_and, Bool.and_true, beq_true, beq_false, Int.toNat_natCast, Int.ofNat_lt, Int.ofNat_le, Nat.zero_add, Nat.add_zero, imp_self, Bool.cond_false_right, Bool.cond_true_left, Bool.cond_true_right, IsF, rdF_eq, fOf, AV.f.injEq, exists_eq', free_list, free_fn0, List.not_mem_nil, List.mem_cons, false_imp, forall_eq, or_false, free_i, free_f, free_b, ren_f, ren_i, ren_b, and_self, bne_iff_ne, bne_eq_false_iff_eq, ne_eq, Int.natCast_inj, or_true, true_or, freeB_list, unfr_f, unfr_i, unfr_b, unfr_c, unfr_s, free_c, free_s, ren_c, ren_s, unfr_ro, unfr_rptr, ren_ro, free_ll, free_box, kill_f, kill_i, kill_b, kill_c, kill_s, kill_rof, kill_rot, Int.toNat_zero, isFF_ll, rowN_ll, rowX_ll, AllFree, Option.some.injEq, Prod.mk.injEq, Bool.false_eq_true, Bool.true_eq_false]
    have hrow := hmm i
    (repeat' first | with_reducible assumption | with_reducible apply And.intro | with_reducible intro hh) <;> first | ((first | with_reducible show (_ : Int) ≤ _ | with_reducible show (_ : Int) < _ | with_reducible show (_ : Nat) ≤ _ | with_reducible show (_ : Nat) < _ | with_reducible show (_ : Int) = _ | with_reducible show (_ : Nat) = _ | with_reducible show ¬ _ | with_reducible show _ ≠ _) <;> first | omega | (simp only [Bool.and_eq_true, Bool.or_eq_false_iff, Bool.not_eq_false', Bool.not_eq_true', decide_eq_true_eq, decide_eq_false_iff_not] at *; omega) | (with_reducible assumption)) | (with_reducible assumption) | skip
    · refine ⟨i + 1, by omega, by omega, To.moved (k := 0) rfl (Nat.le_refl _) (fun e => e) (fun j hj => put_one (fun e => ?_) fun e => ?_) ?_⟩
      · subst e
        refine AvTo.view (id := 1) (fr := true) rfl (by simp) (fun j' hj' => ?_) (by simp) .new fun k c hk hc => ?_
        · match j' with
          | 0 => simp
          | j' + 1 => simp
        · exact AvTo.f (by simp)
      · have e' : j ≠ i := e
        exact AvTo.ro (show (bif decide (j < i) then m j else 0) = (bif decide (j < i + 1) then m j else 0) by rw [show decide (j < i + 1) = decide (j < i) from decide_eq_decide.2 (by omega)]) .same fun k c hk hc => AvTo.f rfl
      · (repeat' first | exact AllTo.nil | apply AllTo.cons) <;> first | exact AvTo.dead _ | exact AvTo.i rfl | exact AvTo.own rfl rfl rfl rfl | exact Free.same (free_ll.2 trivial)
    · obtain ⟨rfl⟩ := hQ
      refine Post.eval (by cbv) ?_
      have e : i = n .u := by omega
      simp only [natCast_int, Post, All, thenA, canon0, canon064, and_true, true_and, forall_const, implies_true, decide_eq_true_eq, decide_eq_false_iff_not, Bool.not_eq_true', Bool.not_eq_false', Bool.true_and, Bool.and_true, beq_true, beq_false, Int.toNat_natCast, Int.ofNat_lt, Int.ofNat_le, Nat.zero_add, Nat.add_zero, imp_self, Bool.cond_false_right, Bool.cond_true_left, Bool.cond_true_right, IsF, rdF_eq, fOf, AV.f.injEq, exists_eq', free_list, free_fn0, List.not_mem_nil, List.mem_cons, false_imp, forall_eq, or_false, free_i, free_f, free_b, ren_f, ren_i, ren_b, and_self, bne_iff_ne, bne_eq_false_iff_eq, ne_eq, Int.natCast_inj, or_true, true_or, freeB_list, unfr_f, unfr_i, unfr_b, unfr_c, unfr_s, free_c, free_s, ren_c, ren_s, unfr_ro, unfr_rptr, ren_ro, free_ll, free_box, kill_f, kill_i, kill_b, kill_c, kill_s, kill_rof, kill_rot, Int.toNat_zero, isFF_ll, rowN_ll, rowX_ll, AllFree, Option.some.injEq, Prod.mk.injEq, Bool.false_eq_true, Bool.true_eq_false]
      refine fin_ret (.inl rfl) (by cbv) (by simp) (To.list (Nat.zero_le _) (Nat.le_refl _) (fun e => e) (fun j hj => AvTo.ro ?_ .same fun k' c' hk' hc' => AvTo.f (by simp)) (.cons (AvTo.own rfl rfl rfl rfl) .nil))
      have hj' : j < n .u := hj
      simp only [e, hj', decide_true, cond_true]
end Go.Proofs.Ytgbfngkmnodgdaa
