/- The reference's source of choices: what it draws, walked. -/
import Derived.Test.YtfdmmbcjidkmoaaUe
import Derived.Laws.Externs
import Derived.WalkKit
import Derived.BigCall
import Derived.Deep.QuietTactic
import Derived.BigQuiet
set_option linter.unusedSimpArgs false
set_option linter.unusedVariables false
namespace Go.Proofs.Ytfdmmbcjidkmoaa
open Go.Aw
open Go.RowKit
/-- A byte of a list, 0 behind its end. -/
def bAt (n : Nat) (b : Nat → Int) (k : Nat) : Int := if k < n then b k else 0
def seedN (s x : Int) : Int := IntKind.u64.wrap (IntKind.u64.wrap (IntKind.u64.wrap (s * 6364136223846793005) + x) + 1442695040888963407)
def drawN (n : Nat) (b : Nat → Int) (k : Nat) (s : Int) : Int := if k + 1 ≤ n then bAt n b k else bits .and .u64 (seedN s (bAt n b k) / 2 ^ 40) 255
theorem and255 (x : Int) : 0 ≤ bits .and .u64 x 255 ∧ bits .and .u64 x 255 < 256 := by
  unfold bits
  show 0 ≤ IntKind.u64.wrap ((BitVec.ofInt 64 x &&& BitVec.ofInt 64 255).toNat : Int) ∧ IntKind.u64.wrap ((BitVec.ofInt 64 x &&& BitVec.ofInt 64 255).toNat : Int) < 256
  have e : (BitVec.ofInt 64 x &&& BitVec.ofInt 64 255).toNat = (BitVec.ofInt 64 x).toNat % 2 ^ 8 := by
    rw [BitVec.toNat_and, show (BitVec.ofInt 64 255).toNat = 2 ^ 8 - 1 by decide, Nat.and_two_pow_sub_one_eq_mod]
  rw [e, IntKind.wrap_u64]
  omega
theorem wrap64_small {x : Int} (h : 0 ≤ x ∧ x < 256) : wrap64 x = x := by
  unfold wrap64
  omega
set_option maxHeartbeats 2000000 in
set_option maxRecDepth 100000 in
theorem next_walk (w : World) (p : Nat) (n cap : Nat) (base : Option Addr) (k : Nat) (s : Int) (b : Nat → Int) (hk : k < 4611686018427387904) (hn : n < 4611686018427387904)
    (h0 : w.cell? ⟨p, 0, none⟩ = some (.slice base n cap)) (h1 : w.cell? ⟨p, 1, none⟩ = some (.int .i64 (k : Int))) (h2 : w.cell? ⟨p, 2, none⟩ = some (.int .u64 s))
    (hf1 : w.frozen? ⟨p, 1, none⟩ = false) (hf2 : w.frozen? ⟨p, 2, none⟩ = false)
    (hb : k < n → ∃ a, base = some a ∧ w.cell? (a.add k) = some (.int .u8 (b k)) ∧ 0 ≤ b k ∧ b k < 256) :
    Calls Try.prog 123 #[.pointer (some ⟨p, 0, none⟩)] w fun e w' => e = .returned (.int .i64 (drawN n b k s)) ∧ (w'.heap = ((w.setCell ⟨p, 1, none⟩ (.int .i64 ((k : Int) + 1))).setCell ⟨p, 2, none⟩ (.int .u64 (seedN s (bAt n b k)))).heap ∧ w'.os = w.os ∧ w'.tape = w.tape ∧ w'.output = w.output) := by
  by_cases hkn : (k : Int) < (n : Int)
  · obtain ⟨a, rfl, hba, hb0, hb1⟩ := hb (by omega)
    have hx : bAt n b k = b k := by unfold bAt; rw [if_pos (by omega)]
    have hd : drawN n b k s = b k := by unfold drawN; rw [if_pos (by omega), hx]
    rw [hx, hd]
    clear hb
    go_enter Try.func123, Try.ntmps123
    go_wp2
    go_quiet (fail)
    go_wp2
    go_quiet (fail)
    go_wp2
    go_quiet (fail)
    go_wp2
    go_ret
    exact ⟨rfl, rfl, rfl, rfl, rfl⟩
  · have hx : bAt n b k = 0 := by unfold bAt; rw [if_neg (by omega)]
    have hd : drawN n b k s = bits .and .u64 (seedN s 0 / 2 ^ 40) 255 := by unfold drawN; rw [if_neg (by omega), hx]
    rw [hx, hd]
    clear hb
    go_enter Try.func123, Try.ntmps123
    go_wp2
    have hv := and255 (seedN s 0 / 2 ^ 40)
    unfold seedN at hv
    go_quiet (fail)
    go_wp2
    go_quiet (fail)
    go_wp2
    go_ret
    refine ⟨?_, ?_, rfl, rfl, rfl⟩
    · have e : IntKind.u64.wrap (IntKind.u64.wrap (s * 6364136223846793005)) = IntKind.u64.wrap (IntKind.u64.wrap (s * 6364136223846793005) + 0) := by rw [Int.add_zero]
      have e40 : (1099511627776 : Int) = 2 ^ 40 := by decide
      show Ending.returned (Value.int .i64 (wrap64 _)) = _
      rw [e, e40]
      unfold seedN
      rw [wrap64_small hv]
    · show _ = ((w.setCell _ _).setCell _ (.int .u64 (seedN s 0))).heap
      unfold seedN
      rw [Int.add_zero]
      rfl
theorem drawN_in {n : Nat} {b : Nat → Int} (hb : ∀ k, k < n → 0 ≤ b k ∧ b k < 256) (k : Nat) (s : Int) : 0 ≤ drawN n b k s ∧ drawN n b k s < 256 := by
  unfold drawN
  by_cases h : k + 1 ≤ n
  · rw [if_pos h]
    unfold bAt
    rw [if_pos (by omega)]
    exact hb k (by omega)
  · rw [if_neg h]
    exact and255 _
def pickN (m : Int) (n : Nat) (b : Nat → Int) (k : Nat) (s : Int) : Int := drawN n b k s % m
set_option maxHeartbeats 2000000 in
set_option maxRecDepth 100000 in
theorem pick_walk (m : Int) (hm : 1 < m) (hm2 : m ≤ 200) (w : World) (p : Nat) (n cap : Nat) (base : Option Addr) (k : Nat) (s : Int) (b : Nat → Int) (hk : k < 4611686018427387904) (hn : n < 4611686018427387904)
    (h0 : w.cell? ⟨p, 0, none⟩ = some (.slice base n cap)) (h1 : w.cell? ⟨p, 1, none⟩ = some (.int .i64 (k : Int))) (h2 : w.cell? ⟨p, 2, none⟩ = some (.int .u64 s))
    (hf1 : w.frozen? ⟨p, 1, none⟩ = false) (hf2 : w.frozen? ⟨p, 2, none⟩ = false)
    (hbb : ∀ k, k < n → 0 ≤ b k ∧ b k < 256) (hb : k < n → ∃ a, base = some a ∧ w.cell? (a.add k) = some (.int .u8 (b k))) :
    Calls Try.prog 67 #[.pointer (some ⟨p, 0, none⟩), .int .i64 m] w fun e w' => e = .returned (.int .i64 (pickN m n b k s)) ∧ (w'.heap = ((w.setCell ⟨p, 1, none⟩ (.int .i64 ((k : Int) + 1))).setCell ⟨p, 2, none⟩ (.int .u64 (seedN s (bAt n b k)))).heap ∧ w'.os = w.os ∧ w'.tape = w.tape ∧ w'.output = w.output) := by
  have c := next_walk w p n cap base k s b hk hn h0 h1 h2 hf1 hf2 fun h => by
    obtain ⟨a, e1, e2⟩ := hb h
    exact ⟨a, e1, e2, hbb k h⟩
  obtain ⟨d0, d1⟩ := drawN_in hbb k s
  obtain ⟨v, hv⟩ : ∃ v, drawN n b k s = v := ⟨_, rfl⟩
  unfold pickN
  rw [hv] at c d0 d1 ⊢
  clear h0 h1 h2 hf1 hf2 hbb hb hv
  go_enter Try.func67, Try.ntmps67
  go_wp2_with (go_at_call 123; refine c.mono ?_; rintro e W1 ⟨rfl, hW⟩)
  go_ret
  exact ⟨rfl, hW⟩
theorem from_walk (base : Option Addr) (n cap : Nat) (w : World) :
    Calls Try.prog 66 #[.slice base n cap] w fun e w' => e = .returned (.pointer (some ⟨w.heap.size, 0, none⟩)) ∧ ∃ T, w' = w.alloc (.cells #[.slice base n cap, .int .i64 0, .int .u64 0] T) := by
  go_enter Try.func66, Try.ntmps66
  go_wp2
  go_ret
  exact ⟨rfl, _, rfl⟩
section
variable {P : Program} {N0 : Nat}
/-- A call that works in all of the caller's memory: what it comes to is told in the caller's own words. -/
theorem AOps.callL {ops : Array Oper} {K : List AV → Heap → Prop} {i : Nat} {o : Oper} {env : List AV} {H H' : Heap} {fop : Operand} {ars : Array Operand} {ts : Array TypeId} {f : FuncId} {r : AV} (ho : ops[i]? = some o) (hg : o.guard = none)
    (hop : o.op = .call { callee := .value fop, args := ars, argTypes := ts }) (hfop : aeval env fop = .fn (.func f) [] []) (he : Enters P f)
    (hcall : ∀ (w : World) (ρ : Mp) (L : Nat) (vals : Array Value), L ≤ w.heap.size → Rel w ρ L H → (ars.toList.map (aeval env)).length = vals.size → (∀ (j : Nat) (x : AV) (v : Value), (ars.toList.map (aeval env))[j]? = some x → vals[j]? = some v → Sim w ρ H.length L x v) →
      Calls P f vals w fun e w' => ∃ v ρ', e = .returned v ∧ Rel w' ρ' L H' ∧ Pass w ρ H.length w' ρ' H'.length ∧ Sim w' ρ' H'.length L r v)
    (h : AOps P ops N0 K (i + 1) (aput env o.dst r) H') : AOps P ops N0 K i env H := by
  intro Q w0 ρ0 ρ a w s hQ
  have hlt' : i < ops.size := (Array.getElem?_eq_some_iff.1 ho).1
  rw [range'_step hlt']
  simp only [wpOps, ho]
  have hdn : Done ops env o := .inl hg
  rw [if_pos (hdn.wanted s)]
  refine .inl ?_
  have hfs := aeval_sound s.env fop
  rw [hfop] at hfs
  have hfe : a.eval fop = .func (.func f) #[] #[] := by
    generalize a.eval fop = q at hfs
    cases hfs with
    | fn h1 h2 h3 h4 =>
      rename_i us vs
      have e1 : us = #[] := by simpa using h1.symm
      have e2 : vs = #[] := by simpa using h3.symm
      rw [e1, e2]
  obtain ⟨fn, hfn, hname, hbody⟩ := he
  have hrun : (execOp a.eval o).run P w = .ok (.enter f (#[] ++ ars.map a.eval ++ #[])) w := by
    unfold execOp
    simp only [hop, resolve, hfe, Deferred.ofValue, Sem.run_bind, Sem.run_pure, Result.andThen_ok, invoke, callFunc, run_program, hfn, hname, hbody, Bool.false_eq_true, if_false]
  have hc := hcall w ρ w0.heap.size (#[] ++ ars.map a.eval ++ #[]) s.pass.size s.rel (by simp) (fun j x v h1 h2 => by
    have h2' : (ars.toList.map a.eval)[j]? = some v := by simpa using h2
    rw [List.getElem?_map] at h1 h2'
    cases hq : ars.toList[j]? with
    | none => rw [hq] at h1; cases h1
    | some z =>
      rw [hq] at h1 h2'
      cases h1
      cases h2'
      exact aeval_sound s.env z)
  unfold Oper.wp Oper.upon
  rw [hrun]
  refine hc.mono fun e w' hh => ?_
  obtain ⟨v, ρ', rfl, hR, hP, hv⟩ := hh
  exact h Q w0 ρ0 ρ' _ w' (s.step hR hP hv o.dst) hQ
end
end Go.Proofs.Ytfdmmbcjidkmoaa
