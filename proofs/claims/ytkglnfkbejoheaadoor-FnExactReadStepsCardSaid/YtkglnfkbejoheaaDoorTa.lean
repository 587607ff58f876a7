/- JournalOf: the program's side, walked over the kit's contracts of strings.Builder and this folder's own. -/
import Derived.Test.YtkglnfkbejoheaaDoorFk
import Derived.Test.YtkglnfkbejoheaaDoorAwG
import Derived.Shelf.Strings.BuilderF
import Derived.Deep.LoopGhost
import Derived.Deep.DeepCutAuto
import Derived.Deep.DeepFit
import Derived.WalkKit
import Derived.BigCall
set_option linter.unusedSimpArgs false
set_option linter.unusedVariables false
namespace Go.Proofs.YtkglnfkbejoheaaDoor
open Go.Aw
open Go.RowKit
open Go.Lib (indexByte countByte extract_eq size_eq decDigits itoa)
theorem extra105 : Builder.Extra Tryd.prog Tryd.lays105_ren where
  sizeBuilder := by kernel_rfl
  liesBuilder := by kernel_rfl
  t5 := Tryd.lays105.t5
  a5 := Tryd.lays105.a5
  z5 := Tryd.lays105.z5
  v5 := Tryd.lays105.v5
  infoByte := by kernel_rfl
  cellsByte := by kernel_rfl
  sizeByte := by kernel_rfl
  neB5 := by decide
theorem lore_below {w w' : World} (h : LoreX w) (b : Below w.heap.size w w') : LoreX w' := lore_keep h fun k hk => b.block k (Nat.lt_of_lt_of_le hk (lore_big h))
theorem rel_none {w : World} (h : LoreX w) : Rel w (fun _ => none) w.heap.size [] where
  live := fun id blk hr => nomatch hr
  dom := fun id fr B hh => by simp at hh
  inj := fun id id' blk hr => nomatch hr
  lore := h
  away := fun id blk hr => nomatch hr
  deep := lore_big h
theorem calls_of {f : FuncId} {args : List AV} {r : AV} (hc : Con Tryd.prog f (unfrL args) [] r []) {w : World} {vals : Array Value} (hl : LoreX w) (hn : (unfrL args).length = vals.size)
    (hs : ∀ (j : Nat) (x : AV) (v : Value), (unfrL args)[j]? = some x → vals[j]? = some v → Sim w (fun _ => none) 0 w.heap.size x v) :
    Calls Tryd.prog f vals w fun e w' => ∃ v ρ', e = .returned v ∧ Sim w' ρ' 0 w.heap.size r v ∧ Below w.heap.size w w' := by
  refine (hc.call w _ vals (rel_none hl) hn hs).mono ?_
  rintro e w' ⟨v, ρ', rfl, h1, h2, h3⟩
  exact ⟨v, ρ', rfl, h1, h3.os, h3.tape, h3.output, h3.size, fun k hk => h3.cells k hk fun id h => by cases h⟩
/-- What is made of memory alone, by the kit's word, as this folder's. -/
theorem rel_below {w w' : World} {ρ : Mp} {L : Nat} (h : Rel w ρ L []) (b : Below w.heap.size w w') : Rel w' ρ L [] ∧ Pass w ρ 0 w' ρ 0 := by
  have no : ∀ id blk, ρ id ≠ some blk := fun id blk hr => by
    obtain ⟨fr, B, cs, T, hh, _⟩ := h.live id blk hr
    simp at hh
  refine ⟨⟨fun id blk hr => absurd hr (no id blk), fun id fr B hh => by simp at hh, fun id id' blk hr => absurd hr (no id blk), lore_below h.lore b, h.away, h.deep⟩, ?_⟩
  exact ⟨b.size, Nat.le_refl _, fun id blk hid => absurd hid (Nat.not_lt_zero _), fun id blk hr => .inl ⟨id, hr⟩, fun blk hb _ => b.block blk hb, fun id blk cs T fz hid => absurd hid (Nat.not_lt_zero _), b.os, b.tape, b.output⟩
theorem chk_calls (a : Int) (x : ByteArray) (w : World) (hl : LoreX w) (h0 : 0 ≤ a) (h1 : a ≤ 65002) (hx : x.size ≤ 1073741824) :
    Calls Tryd.prog 64 #[.int .i64 a, .string x] w fun e w' => e = .returned (.tuple #[.int .i64 (chkN a x x.size), .bool true]) ∧ Below w.heap.size w w' := by
  obtain ⟨_, _, hc⟩ := implChk [.i .i64 fun _ => a, .s fun _ => x] _ _ _ rfl ⟨⟨h0, h1⟩, hx⟩
  refine (calls_of hc hl rfl fun j a v h1 h2 => ?_).mono ?_
  · match j, h1, h2 with
    | 0, h1, h2 => cases h1; cases h2; exact .i
    | 1, h1, h2 => cases h1; cases h2; exact .s
  · rintro e w' ⟨v, ρ', rfl, h1, h2⟩
    obtain ⟨us, rfl, hl, hj⟩ := h1.tup_inv
    refine ⟨?_, h2⟩
    obtain ⟨us⟩ := us
    match us, hl with
    | [v, u], _ =>
      have k1 := hj 0 _ v rfl rfl
      have k2 := hj 1 _ u rfl rfl
      cases k1; cases k2; rfl
/-- The journal's lines, as far as they are written. -/
def accJ (x : Nat → ByteArray) : Nat → List UInt8 × Int
  | 0 => ([], 0)
  | k + 1 => let a := accJ x k; let c := chkN a.2 (x k) (x k).size; (a.1 ++ ((decB c ++ ⟨#[32]⟩) ++ x k ++ ⟨#[10]⟩).data.toList, c)
theorem accJ_chk (x : Nat → ByteArray) : ∀ k, 0 ≤ (accJ x k).2 ∧ (accJ x k).2 ≤ 65002
  | 0 => ⟨Int.le_refl _, by show (0 : Int) ≤ 65002; decide⟩
  | k + 1 => chkN_in _ (accJ_chk x k).1 (accJ_chk x k).2 _
/-- Whether the k-th line may be written, and what is then written is short. -/
def goodJ (x : Nat → ByteArray) (k : Nat) : Bool := !decide (0 ≤ indexByte (x k).data.toList 10) && decide ((accJ x (k + 1)).1.length ≤ 16000)
def allJ (x : Nat → ByteArray) : Nat → Bool
  | 0 => true
  | k + 1 => allJ x k && goodJ x k
def outJ (x : Nat → ByteArray) (n : Nat) : Value := .tuple #[.string (bif allJ x n then toB (accJ x n).1 else ⟨#[]⟩), .bool (allJ x n)]
theorem allJ_mono {x : Nat → ByteArray} : ∀ {n k : Nat}, allJ x n = true → k ≤ n → allJ x k = true
  | 0, k, h, hk => by rw [show k = 0 by omega]; rfl
  | n + 1, k, h, hk => by
    by_cases e : k = n + 1
    · rw [e]; exact h
    · unfold allJ at h
      rw [Bool.and_eq_true] at h
      exact allJ_mono h.1 (by omega)
theorem allJ_bad {x : Nat → ByteArray} {n k : Nat} (hk : k < n) (h : goodJ x k = false) : allJ x n = false := by
  cases e : allJ x n
  · rfl
  · have := allJ_mono e (show k + 1 ≤ n by omega)
    unfold allJ at this
    rw [h, Bool.and_false] at this
    cases this
theorem bcell {W w1 : World} {B : Nat} (hb : Below B W w1) (b o : Nat) (h : b < B) : w1.cell? ⟨b, o, none⟩ = W.cell? ⟨b, o, none⟩ := hb.cell (p := ⟨b, o, none⟩) h
theorem isB_below {T e : TypeId} {B b : Nat} {bs : List Value} {W W' : World} (h : Lib.IsBuilderF T e B b bs W) (hb : Below W.heap.size W W') : Lib.IsBuilderF T e B b bs W' := by
  have one : ∀ p, Lib.BuilderAtF T e B b p bs W → Lib.BuilderAtF T e B b p bs W' := by
    rintro p ⟨hB, v, hv, ⟨hn, hown⟩, hne⟩
    refine ⟨hB, v, (hb.block b (Array.getElem?_eq_some_iff.1 hv).1).trans hv, ⟨hn, ?_⟩, hne⟩
    rcases hown with h | ⟨g, cap, cur, fz, h1, h2, h3, h4⟩
    · exact .inl h
    · exact .inr ⟨g, cap, cur, fz, h1, h2, (hb.block g (Array.getElem?_eq_some_iff.1 h3).1).trans h3, h4⟩
  rcases h with h | h
  · exact .inl (one _ h)
  · exact .inr (one _ h)
theorem decB_size {n : Int} (h0 : 0 ≤ n) (h1 : n ≤ 9223372036854775807) : 1 ≤ (decB n).size ∧ (decB n).size ≤ 19 := by
  obtain ⟨u, rfl⟩ : ∃ u : Nat, n = u := ⟨n.toNat, by omega⟩
  unfold decB
  rw [Lib.itoa_nonneg, size_toB]
  refine ⟨?_, dec_len u (by omega)⟩
  by_cases h : u < 10
  · rw [dec_small h]; exact Nat.le_refl _
  · rw [dec_big h]; simp
def kJrn : Kr
  | [a] => match asL a with
    | some (n, g) => some (.tup [.s fun _ => bif allJ (rdT g) (n .u) then toB (accJ (rdT g) (n .u)).1 else ⟨#[]⟩, .b fun _ => allJ (rdT g) (n .u)], [], fun _ => IsT n g ∧ n .u ≤ 1048576 ∧ ∀ i, i < n .u → (rdT g i).size ≤ 1073741824)
    | none => none
  | _ => none
/-- What a walk shows of a function over a list of texts, as this folder's word. -/
theorem tells_lines {f : FuncId} (he : Go.Aw.Enters Tryd.prog f) (h : ∀ (x : Nat → ByteArray) (n : Nat) (a : Option Addr) (bk o cap : Nat) (w : World), LoreX w → (0 < n → a = some ⟨bk, o, none⟩ ∧ bk < w.heap.size ∧ n ≤ cap) → n ≤ 1048576 →
    (∀ i, i < n → w.cell? ⟨bk, o + i, none⟩ = some (.string (x i))) → (∀ i, i < n → (x i).size ≤ 1073741824) → Calls Tryd.prog f #[.slice a n cap] w fun e w' => e = .returned (outJ x n) ∧ Below w.heap.size w w') : Tells Tryd.prog f (.r kJrn) := by
  intro args r H' p hr hp
  unfold kJrn at hr
  split at hr <;> first | (cases hr; done) | skip
  split at hr <;> cases hr
  rename_i n g hL
  obtain ⟨hI, hn, hx⟩ := hp
  refine ⟨allFr_tup2 .s .b, .nil, Con.pre (args' := [listT false n (rdT g)]) ⟨Sub.asT hL hI, trivial⟩ ⟨he, Nat.le_refl _, fun w ρ vals hR hl hs => ?_⟩⟩
  obtain ⟨v, rfl⟩ : ∃ v, vals = #[v] := by
    obtain ⟨l⟩ := vals
    match l, hl with
    | [v], _ => exact ⟨v, rfl⟩
  have s0 := hs 0 _ v rfl rfl
  have fin : ∀ (a : Option Addr) (bk o cap : Nat), (0 < n .u → a = some ⟨bk, o, none⟩ ∧ bk < w.heap.size ∧ n .u ≤ cap) → (∀ i, i < n .u → w.cell? ⟨bk, o + i, none⟩ = some (.string (rdT g i))) →
      Calls Tryd.prog f #[.slice a (n .u) cap] w fun e w' => ∃ v ρ', e = .returned v ∧ Sim w' ρ' 0 w.heap.size (.tup [.s fun _ => bif allJ (rdT g) (n .u) then toB (accJ (rdT g) (n .u)).1 else ⟨#[]⟩, .b fun _ => allJ (rdT g) (n .u)]) v ∧ Rel w' ρ' w.heap.size [] ∧ Pass w ρ 0 w' ρ' 0 := by
    intro a bk o cap ha hc
    refine (h (rdT g) (n .u) a bk o cap w hR.lore ha hn hc hx).mono ?_
    rintro e w' ⟨rfl, hb⟩
    obtain ⟨k1, k2⟩ := rel_below hR hb
    refine ⟨_, ρ, rfl, .tup rfl fun j x u h1 h2 => ?_, k1, k2⟩
    match j, h1, h2 with
    | 0, h1, h2 => cases h1; cases h2; exact .s
    | 1, h1, h2 => cases h1; cases h2; exact .b
  cases s0 with
  | ro0 h0 =>
    rename_i a cap
    have := fin a 0 0 cap (fun h => absurd h (by omega)) (fun i hi => absurd hi (by omega))
    rw [show Value.slice a 0 cap = .slice a (n .u) cap by rw [h0]]
    exact this
  | ro us hn' hq hc hsim =>
    rename_i blk off cap
    have hcell : ∀ i, i < n .u → w.cell? ⟨blk, off + i, none⟩ = some (.string (rdT g i)) := fun i hi => by
      obtain ⟨h1, _⟩ := hc i 0 hi (by omega)
      have h2 := hsim i 0 hi (by omega)
      have e : us i 0 = .string (rdT g i) := h2.s_inv
      rw [e] at h1
      simpa using h1
    refine fin _ blk off cap (fun hpos => ⟨rfl, ?_, hn'⟩) hcell
    have h1 := hcell 0 hpos
    rcases Nat.lt_or_ge blk w.heap.size with h' | h'
    · exact h'
    · simp [World.cell?, Array.getElem?_eq_none h'] at h1
end Go.Proofs.YtkglnfkbejoheaaDoor
