/- From a law's contract to its row, where the row lists variables. -/
import Derived.Test.YtkglnfkbejoheaaDoorAwr
import Derived.LaidMore
import Derived.Lay
import Derived.OpenShut
import Derived.SevenTiedAt
import Derived.Stop.Joined
namespace Go.Aw
open Go.ChangeShapes Go.WideShapes Go.RowKit
section
variable {H : Type} {enc : TypeId × Value → H} {P : Program}
/-- A law over plain data out of its contract, the listed variables laid. -/
theorem liftedL {a : Assume} {C : Checked} {os : Os} {f : FuncId} {fn : Func} {s : ChangeSpec} {conds : List PathCond} {apart fresh handsOn again : Bool} {tb : TypeId} {laid : List (String × DataW Unit)}
    (own : ownKnob C.prog.godebug = none) (started : os.Started) (noInit : C.prog.inits.idxOf? f = none) (hfn : C.prog.funcs[f]? = some fn)
    (witness : ∃ (w : World) (tape : Tape) (i : Input), w.os = os ∧ (w.forCall tape i).Shaped C.prog ∧ i.vars = [] ∧ Input.okWide C.prog (w.forCall tape i) .any w.heap.size f i ∧
      ((s.pre enc C.prog fn conds apart (w.forCall tape i).memory i.args ∧ laidMetH C.prog laid (w.forCall tape i).memory) ∧ sizedMet enc C.prog fn (OpenSpec.ofChange s) apart (w.forCall tape i).memory i.args) ∧ a.holds C.prog (lone (Frame.enter C.prog f i.args .normal) [] (w.forCall tape i)))
    (hl : laidOutB C.prog = true) (hm : mapsRowed C.prog = true) (hfull : ∀ t e, t < C.prog.types.size → C.prog.underlying t = some (.slice e) → 0 < C.prog.cellsOf e)
    (hpar : ∀ t ∈ fn.params.toList, t < C.prog.types.size) (hrt : fn.resultTypes = #[tb]) (htb : C.prog.underlying tb = some .bool) (hv : s.vars = [])
    (hs : ∀ ds : List (DataW H), ds.length = fn.params.size → (s.fn H ds).results = [.lit (.bool true)] ∧ (s.fn H ds).args = ds ∧ (s.fn H ds).vars = [])
    (hcon : ∀ (W : World) (base : Nat) (args : Array Value) (ds : List (DataW H)) (ps : List MemPlace), laidMetH C.prog laid W → (∀ (j : Nat) t v, fn.params[j]? = some t → args[j]? = some v → Value.okWide C.prog W .any base t v) → DataW.TrodAll enc C.prog W 0 (fun _ => true) true fn.params.toList args.toList ds ps →
      ∃ avs : List AV, avs.length = args.size ∧ (∀ (j : Nat) (x : AV) (v : Value), avs[j]? = some x → args[j]? = some v → Sim W noMp 0 W.heap.size x v) ∧ Con C.prog f avs [] (.b fun _ => true) []) (hlore : ∀ W : World, laidMetH C.prog laid W → LoreX W := by exact fun _ _ => trivial) :
    ReturnsInHanded a C os f .any (fun w args => (s.pre enc C.prog fn conds apart w args ∧ laidMetH C.prog laid w) ∧ sizedMet enc C.prog fn (OpenSpec.ofChange s) apart w args) (s.post enc C.prog fn apart fresh handsOn again) := by
  refine returnsInHanded_of_change_and (X := fun w _ => laidMetH C.prog laid w) (fun _ _ _ hh h => h.of_heap hh) own started noInit hfn witness ?_
  intro W base args ds gs before hval hW _ _ hL _
  have hW' := hW
  obtain ⟨p, q, hA, hV, rfl, _, _⟩ := hW
  rw [hv] at hV
  obtain ⟨rfl, rfl⟩ := trodVars_none hV
  obtain ⟨avs, hlen, hsim, con⟩ := hcon W base args ds p hL hval hA
  have hdl : ds.length = fn.params.size := by
    have := trodAll_len hA
    simpa using this
  obtain ⟨hr, ha, hvs⟩ := hs ds hdl
  refine (con.call W noMp args (rel_nil W _ (hlore W hL) (lore_big (hlore W hL))) hlen hsim).mono fun e W' ⟨v, ρ', he, hsv, _, hpass⟩ => ?_
  subst he
  cases hsv.b_inv
  have hb := below_of_pass hpass
  refine ⟨_, rfl, post_of_below (pa := p) (pv := []) hW' (fun b sp hd => ?_) (fun sp hsp => ?_) (fun sp _ => ?_) rfl hb ?_⟩
  · rw [List.append_nil, hr, hrt]
    exact trodAll_mk1 (shut_bool htb true)
  · rw [List.append_nil, ha]
    refine DataW.TrodAll.respare (kids_rows hl hm) hfull hpar (trodAll_carry hA fun x hx => hb.same (hW'.lt x (by simpa using hx))) fun x hx => hsp x (by simpa using hx)
  · rw [List.append_nil, hvs, hv]
    rfl
  · exact ok_one hrt rfl (okWide_bool_mk htb true)
theorem read_str {w : World} {t : TypeId} {v : Value} {base L : Nat} {d : DataW H} {ps : List MemPlace} (ht : P.underlying t = some .string) (ho : Value.okWide P w .any base t v) (h : DataW.Trod enc P w 0 (fun _ => true) true t v d ps) :
    ∃ x : ByteArray, x.size ≤ 9223372036854775807 ∧ Sim w noMp 0 L (.s fun _ => x) v := by
  obtain ⟨x, rfl⟩ := okWide_string ht ho
  obtain ⟨fuel, hf⟩ := h
  cases fuel with
  | zero => simp [DataW.trod] at hf
  | succ fuel =>
    simp only [DataW.trod, ht, Value.cells] at hf
    simp at hf
    refine ⟨x, ?_, .s⟩
    have := hf.1
    unfold maxLen at this
    omega
end
end Go.Aw
