/- Numbers in hexadecimal, on both sides. -/
import Derived.Test.YtkglnfkbejoheaaDoorTb
import Derived.Test.YtkglnfkbejoheaaDoorTd
import Derived.Test.YtkglnfkbejoheaaDoorGc
import Derived.Test.YtkglnfkbejoheaaDoorAwv
import Derived.Laws.Externs
import Derived.Shelf.Strings.Repeat
set_option linter.unusedSimpArgs false
set_option linter.unusedVariables false
namespace Go.Proofs.YtkglnfkbejoheaaDoor
open Go.Aw
open Go.RowKit
open Go.Lib (indexByte countByte extract_eq size_eq decDigits itoa)
/-! ### Words of numbers -/
def kWord32 : Kx
  | [.f .f32 x] => some (.i .u32 fun _ => (x .u : Int), fun _ => isNaN .f32 (x .u) = false)
  | _ => none
theorem word32_tells : Tells Tryd.prog 114 (.x kWord32) := by
  intro args r p hr hp w ρ L H vals hR hl hs
  unfold kWord32 at hr
  split at hr <;> cases hr
  rename_i x
  obtain ⟨v, rfl⟩ : ∃ v, vals = #[v] := by
    obtain ⟨l⟩ := vals
    match l, hl with
    | [v], _ => exact ⟨v, rfl⟩
  obtain ⟨b, rfl, hb⟩ := (hs 0 _ v rfl rfl).f_inv
  have hrun := run_callFunc_extern (P := Tryd.prog) (e := Extern.MathFloatBits.float32bits) Tryd.func114 (by kernel_rfl) (by kernel_rfl) (by kernel_rfl) (by kernel_rfl) #[.float .f32 b] w
  have hb' : b = x .u := by rw [← hb]; exact (canon_of_not (by rw [← isNaN_canon, hb]; exact hp)).symm
  have e : Extern.MathFloatBits.float32bits #[.float .f32 b] = pure (.int .u32 b) := rfl
  rw [e] at hrun
  exact ⟨.int .u32 b, w, ρ, .inl (by rw [hrun]; simp), hR, Pass.refl _ _ _, by rw [hb']; exact .i⟩
theorem feq_selfC {k : FloatKind} {x : Nat} : feq k x x = !isNaN k x := by
  cases h : isNaN k x with
  | false => exact feq_self h
  | true =>
    obtain ⟨s, t, e⟩ := read_nan h
    unfold feq Ieee.Format.order
    rw [e, order_nan_l]
    rfl
def wordF (x : Nat) : Nat := bif isNaN .f32 x then 2143289344 else x
theorem wordF_lt {x : Nat} (h : x < 4294967296) : wordF x < 4294967296 := by
  unfold wordF
  cases isNaN .f32 x
  · exact h
  · show 2143289344 < 4294967296; decide
def kWord : Kr
  | [.f .f32 x] => some (.i .i64 fun _ => (wordF (x .u) : Int), [], fun _ => x .u < 4294967296)
  | _ => none
def ctWord32 : CT := [(114, .x kWord32)]
theorem ctWord32_ok : CTok Tryd.prog ctWord32 := .cons word32_tells (.nil _)
theorem specWord : Tells Tryd.prog 81 (.r kWord) := by
  intro args r H' p hr hp
  unfold kWord at hr
  split at hr <;> cases hr
  rename_i x
  have hp : x .u < 4294967296 := hp
  refine ⟨.i, .nil, Con.of ttok Tryd.func81 rfl rfl (Nat.zero_le _) (AW.exec ttok ctWord32_ok (by cbv) ?_)⟩
  simp only [natCast_int, Post, All, thenA, canon0, canon064, and_true, true_and, forall_const, implies_true, decide_eq_true_eq, decide_eq_false_iff_not, Bool.not_eq_true', Bool.not_eq_false', Bool.true_and, Bool.and_true, beq_true, beq_false, Int.toNat_natCast, Int.ofNat_lt, Int.ofNat_le, Nat.zero_add, Nat.add_zero, imp_self, Bool.cond_false_right, Bool.cond_true_left, Bool.cond_true_right, IsF, rdF_eq, fOf, AV.f.injEq, exists_eq', free_list, free_fn0, List.not_mem_nil, List.mem_cons, false_imp, forall_eq, or_false, free_i, free_f, free_b, ren_f, ren_i, ren_b, and_self, bne_iff_ne, bne_eq_false_iff_eq, ne_eq, Int.natCast_inj, or_true, true_or, freeB_list, unfr_f, unfr_i, unfr_b, unfr_c, unfr_s, free_c, free_s, ren_c, ren_s, unfr_ro, unfr_rptr, ren_ro, free_ll, free_box, kill_f, kill_i, kill_b, kill_c, kill_s, kill_rof, kill_rot, Int.toNat_zero, isFF_ll, rowN_ll, rowX_ll, AllFree, Option.some.injEq, Prod.mk.injEq, Bool.false_eq_true, Bool.true_eq_false, feq_selfC, Bool.not_not]
  (repeat' first | with_reducible assumption | with_reducible apply And.intro | with_reducible intro hh) <;> first | ((first | with_reducible show (_ : Int) ≤ _ | with_reducible show (_ : Int) < _ | with_reducible show (_ : Nat) ≤ _ | with_reducible show (_ : Nat) < _ | with_reducible show (_ : Int) = _ | with_reducible show (_ : Nat) = _ | with_reducible show ¬ _ | with_reducible show _ ≠ _) <;> first | omega | (simp only [Bool.and_eq_true, Bool.or_eq_false_iff, Bool.not_eq_false', Bool.not_eq_true', decide_eq_true_eq, decide_eq_false_iff_not] at *; omega) | (with_reducible assumption)) | (with_reducible assumption) | skip
  all_goals refine fin_ret (.inl rfl) (by cbv) (by simp) (To.fresh ⟨.i ?_, trivial⟩)
  all_goals simp_all [wordF]
theorem implWord : Tells Tryd.prog 94 (.r kWord) := by
  intro args r H' p hr hp
  unfold kWord at hr
  split at hr <;> cases hr
  rename_i x
  have hp : x .u < 4294967296 := hp
  refine ⟨.i, .nil, Con.of ttok Tryd.func94 rfl rfl (Nat.zero_le _) (AW.exec ttok ctWord32_ok (by cbv) ?_)⟩
  simp only [natCast_int, Post, All, thenA, canon0, canon064, and_true, true_and, forall_const, implies_true, decide_eq_true_eq, decide_eq_false_iff_not, Bool.not_eq_true', Bool.not_eq_false', Bool.true_and, Bool.and_true, beq_true, beq_false, Int.toNat_natCast, Int.ofNat_lt, Int.ofNat_le, Nat.zero_add, Nat.add_zero, imp_self, Bool.cond_false_right, Bool.cond_true_left, Bool.cond_true_right, IsF, rdF_eq, fOf, AV.f.injEq, exists_eq', free_list, free_fn0, List.not_mem_nil, List.mem_cons, false_imp, forall_eq, or_false, free_i, free_f, free_b, ren_f, ren_i, ren_b, and_self, bne_iff_ne, bne_eq_false_iff_eq, ne_eq, Int.natCast_inj, or_true, true_or, freeB_list, unfr_f, unfr_i, unfr_b, unfr_c, unfr_s, free_c, free_s, ren_c, ren_s, unfr_ro, unfr_rptr, ren_ro, free_ll, free_box, kill_f, kill_i, kill_b, kill_c, kill_s, kill_rof, kill_rot, Int.toNat_zero, isFF_ll, rowN_ll, rowX_ll, AllFree, Option.some.injEq, Prod.mk.injEq, Bool.false_eq_true, Bool.true_eq_false, feq_selfC, Bool.not_not]
  (repeat' first | with_reducible assumption | with_reducible apply And.intro | with_reducible intro hh) <;> first | ((first | with_reducible show (_ : Int) ≤ _ | with_reducible show (_ : Int) < _ | with_reducible show (_ : Nat) ≤ _ | with_reducible show (_ : Nat) < _ | with_reducible show (_ : Int) = _ | with_reducible show (_ : Nat) = _ | with_reducible show ¬ _ | with_reducible show _ ≠ _) <;> first | omega | (simp only [Bool.and_eq_true, Bool.or_eq_false_iff, Bool.not_eq_false', Bool.not_eq_true', decide_eq_true_eq, decide_eq_false_iff_not] at *; omega) | (with_reducible assumption)) | (with_reducible assumption) | skip
  all_goals refine fin_ret (.inl rfl) (by cbv) (by simp) (To.fresh ⟨.i ?_, trivial⟩)
  all_goals simp_all [wordF]
/-! ### Eight digits -/
def hexN : Nat → Nat → List UInt8
  | 0, _ => []
  | n + 1, v => hexN n (v / 16) ++ [hexD (v % 16)]
theorem hexN_len : ∀ n v, (hexN n v).length = n
  | 0, _ => rfl
  | n + 1, v => by rw [hexN, List.length_append, hexN_len n]; rfl
theorem hexN_zero : ∀ n, hexN n 0 = List.replicate n 48
  | 0 => rfl
  | n + 1 => by
    rw [hexN, show 0 / 16 = 0 from rfl, hexN_zero n, List.replicate_succ']
    rfl
theorem hexL_pad : ∀ n v, v < 16 ^ (n + 1) → (hexL v).length ≤ n + 1 ∧ List.replicate (n + 1 - (hexL v).length) 48 ++ hexL v = hexN (n + 1) v
  | 0, v, h => by
    have h' : v < 16 := by simpa using h
    rw [hexL_small h']
    refine ⟨Nat.le_refl _, ?_⟩
    simp [hexN, Nat.mod_eq_of_lt h']
  | n + 1, v, h => by
    by_cases h' : v < 16
    · rw [hexL_small h', hexN, Nat.div_eq_of_lt h', Nat.mod_eq_of_lt h', hexN_zero]
      exact ⟨by simp, by simp⟩
    · obtain ⟨h1, h2⟩ := hexL_pad n (v / 16) (by rw [Nat.div_lt_iff_lt_mul (by decide), ← Nat.pow_succ]; exact h)
      rw [hexL_big h', hexN, ← h2, List.length_append]
      refine ⟨by simpa using h1, ?_⟩
      rw [show n + 1 + 1 - ((hexL (v / 16)).length + [hexD (v % 16)].length) = n + 1 - (hexL (v / 16)).length by simp, List.append_assoc]
def hexB (v : Nat) : ByteArray := toB (hexN 8 v)
theorem hexB_size (v : Nat) : (hexB v).size = 8 := by rw [hexB, size_toB, hexN_len]
/-! ### The library's FormatInt and Repeat, as this folder's -/
theorem lore_at15 {w : World} (h : LoreX w) : w.cell? ⟨8, 15, none⟩ = some (.int .u8 4) := by
  obtain ⟨T, fz, e⟩ := h.deb
  rw [show loreB = 8 from rfl] at e
  rw [Lib.cell_of_heap e]
  rfl
def kFmt16 : Kr
  | [.i .i64 n, .i .i64 b] => some (.s fun _ => toB (hexL (n .u).toNat), [], fun _ => (0 ≤ n .u ∧ n .u < 4294967296) ∧ b .u = 16)
  | _ => none
theorem fmt16_tells : Tells Tryd.prog 118 (.r kFmt16) := by
  intro args r H' p hr hp
  unfold kFmt16 at hr
  split at hr <;> cases hr
  rename_i n b
  obtain ⟨⟨h0, h1⟩, hb⟩ := hp
  refine ⟨.s, .nil, ⟨⟨_, Tryd.func118, by kernel_rfl, rfl⟩, Nat.le_refl _, fun w ρ vals hR hl hs => ?_⟩⟩
  obtain ⟨v, u, rfl⟩ : ∃ v u, vals = #[v, u] := by
    obtain ⟨l⟩ := vals
    match l, hl with
    | [v, u], _ => exact ⟨v, u, rfl⟩
  obtain rfl := (hs 0 _ v rfl rfl).i_inv
  obtain rfl := (hs 1 _ u rfl rfl).i_inv
  rw [hb]
  obtain ⟨m, hm⟩ : ∃ m : Nat, n .u = m := ⟨(n .u).toNat, by omega⟩
  have key := fmtS16_walk m (by omega) w (lore_at15 hR.lore)
  rw [← hm] at key
  refine key.mono ?_
  rintro e w' ⟨rfl, hb'⟩
  obtain ⟨k1, k2⟩ := rel_below hR hb'
  refine ⟨_, ρ, rfl, ?_, k1, k2⟩
  rw [show m = (n .u).toNat by omega]
  exact .s
def repB (x : ByteArray) (c : Nat) : ByteArray := toB (Lib.repeatL x.data.toList c)
def kRep : Kr
  | [.s x, .i .i64 c] => some (.s fun _ => repB (x .u) (c .u).toNat, [], fun _ => (0 ≤ c .u ∧ c .u ≤ 9223372036854775807) ∧ (x .u).size * (c .u).toNat ≤ 140737488355328)
  | _ => none
theorem rep_tells : Tells Tryd.prog 96 (.r kRep) := by
  intro args r H' p hr hp
  unfold kRep at hr
  split at hr <;> cases hr
  rename_i x c
  obtain ⟨⟨h0, h1⟩, hb⟩ := hp
  refine ⟨.s, .nil, ⟨⟨_, Tryd.func96, by kernel_rfl, rfl⟩, Nat.le_refl _, fun w ρ vals hR hl hs => ?_⟩⟩
  obtain ⟨v, u, rfl⟩ : ∃ v u, vals = #[v, u] := by
    obtain ⟨l⟩ := vals
    match l, hl with
    | [v, u], _ => exact ⟨v, u, rfl⟩
  obtain rfl := (hs 0 _ v rfl rfl).s_inv
  obtain rfl := (hs 1 _ u rfl rfl).i_inv
  obtain ⟨m, hm⟩ : ∃ m : Nat, c .u = m := ⟨(c .u).toNat, by omega⟩
  have hm' : (c .u).toNat = m := by omega
  have key := Any.strings_Repeat Tryd.lays105 extra105 (x .u) m w (by omega) (by rw [← hm']; exact hb)
  rw [← hm] at key
  refine key.mono ?_
  rintro e w' ⟨rfl, hb'⟩
  obtain ⟨k1, k2⟩ := rel_below hR hb'
  refine ⟨_, ρ, rfl, ?_, k1, k2⟩
  rw [show m = (c .u).toNat by omega]
  exact .s
theorem repB_one (c : Nat) : repB ⟨⟨[48]⟩⟩ c = toB (List.replicate c 48) := by
  unfold repB
  congr 1
  induction c with
  | zero => rfl
  | succ c ih => rw [Lib.repeatL, ih]; rfl
def kHex : Kr
  | [.f .f32 x] => some (.s fun _ => hexB (wordF (x .u)), [], fun _ => x .u < 4294967296)
  | _ => none
def ctHex : CT := [(94, .r kWord), (118, .r kFmt16), (96, .r kRep)]
theorem ctHex_ok : CTok Tryd.prog ctHex := .cons implWord (.cons fmt16_tells (.cons rep_tells (.nil _)))
theorem implHex : Tells Tryd.prog 87 (.r kHex) := by
  intro args r H' p hr hp
  unfold kHex at hr
  split at hr <;> cases hr
  rename_i x
  have hp : x .u < 4294967296 := hp
  have hw := wordF_lt hp
  obtain ⟨l1, l2⟩ := hexL_pad 7 (wordF (x .u)) hw
  have hz := size_toB (hexL (wordF (x .u)))
  have h8 : (8 - ((toB (hexL (wordF (x .u)))).size : Int)).toNat = 8 - (hexL (wordF (x .u))).length := by rw [hz]; omega
  refine ⟨.s, .nil, Con.of ttok Tryd.func87 rfl rfl (Nat.zero_le _) (AW.exec ttok ctHex_ok (by cbv) ?_)⟩
  simp only [natCast_int, Post, All, thenA, canon0, canon064, and_true, true_and, forall_const, implies_true, decide_eq_true_eq, decide_eq_false_iff_not, Bool.not_eq_true', Bool.not_eq_false', Bool.true_and, Bool.and_true, beq_true, beq_false, Int.toNat_natCast, Int.ofNat_lt, Int.ofNat_le, Nat.zero_add, Nat.add_zero, imp_self, Bool.cond_false_right, Bool.cond_true_left, Bool.cond_true_right, IsF, rdF_eq, fOf, AV.f.injEq, exists_eq', free_list, free_fn0, List.not_mem_nil, List.mem_cons, false_imp, forall_eq, or_false, free_i, free_f, free_b, ren_f, ren_i, ren_b, and_self, bne_iff_ne, bne_eq_false_iff_eq, ne_eq, Int.natCast_inj, or_true, true_or, freeB_list, unfr_f, unfr_i, unfr_b, unfr_c, unfr_s, free_c, free_s, ren_c, ren_s, unfr_ro, unfr_rptr, ren_ro, free_ll, free_box, kill_f, kill_i, kill_b, kill_c, kill_s, kill_rof, kill_rot, Int.toNat_zero, isFF_ll, rowN_ll, rowX_ll, AllFree, Option.some.injEq, Prod.mk.injEq, Bool.false_eq_true, Bool.true_eq_false, hp]
  (repeat' first | with_reducible assumption | with_reducible apply And.intro | with_reducible intro hh) <;> first | ((first | with_reducible show (_ : Int) ≤ _ | with_reducible show (_ : Int) < _ | with_reducible show (_ : Nat) ≤ _ | with_reducible show (_ : Nat) < _ | with_reducible show (_ : Int) = _ | with_reducible show (_ : Nat) = _ | with_reducible show ¬ _ | with_reducible show _ ≠ _) <;> first | omega | (simp only [Bool.and_eq_true, Bool.or_eq_false_iff, Bool.not_eq_false', Bool.not_eq_true', decide_eq_true_eq, decide_eq_false_iff_not] at *; omega) | (with_reducible assumption)) | (with_reducible assumption) | skip
  · rw [h8]; show 1 * _ ≤ _; omega
  · rw [h8, repB_one, size_toB, size_toB, List.length_replicate]; omega
  · refine fin_ret (.inl rfl) (by cbv) (by simp) (To.fresh (.cons (.s ?_) .nil))
    show repB ⟨⟨[48]⟩⟩ (8 - ((toB (hexL (wordF (x .u)))).size : Int)).toNat ++ toB (hexL (wordF (x .u))) = hexB (wordF (x .u))
    rw [h8, repB_one, toB_app, hexB, ← l2]
theorem hex_at : ∀ (n v i : Nat), i < n → (hexN n v).getD i 0 = hexD (v / 16 ^ (n - 1 - i) % 16)
  | 0, v, i, h => absurd h (Nat.not_lt_zero _)
  | n + 1, v, i, h => by
    rw [hexN, List.getD_eq_getElem?_getD]
    by_cases e : i < n
    · rw [List.getElem?_append_left (by rw [hexN_len]; exact e), ← List.getD_eq_getElem?_getD, hex_at n (v / 16) i e, Nat.div_div_eq_div_mul, ← Nat.pow_succ']
      rw [show (n - 1 - i).succ = n + 1 - 1 - i by omega]
    · obtain rfl : i = n := by omega
      rw [List.getElem?_append_right (by rw [hexN_len]; exact Nat.le_refl _), hexN_len]
      simp
theorem and15i (a : Nat) (h : a < 9223372036854775808) : bits BinOp.and IntKind.i64 (a : Int) 15 = ((a % 16 : Nat) : Int) := by
  have e : (BitVec.ofInt 64 (a : Int) &&& BitVec.ofInt 64 15).toNat = a % 16 := by
    rw [BitVec.toNat_and]
    simp only [BitVec.ofInt_natCast, BitVec.toNat_ofNat]
    rw [Nat.mod_eq_of_lt (by omega)]
    exact Nat.and_two_pow_sub_one_eq_mod a 4
  unfold bits
  show IntKind.i64.wrap ((BitVec.ofInt 64 (a : Int) &&& BitVec.ofInt 64 15).toNat : Int) = _
  rw [e, IntKind.wrap_i64]
  omega
def digS (v i : Nat) : Int := (((hexN 8 v).getD i 0).toNat : Int)
abbrev blkH (j v : Nat) : Option (Bool × Blk) := some (true, .tab (fun _ => j) 1 fun i _ => .i .u8 fun _ => digS v (i .u))
theorem digs16 : ∀ k, k < 16 → byteAt ⟨#[48, 49, 50, 51, 52, 53, 54, 55, 56, 57, 97, 98, 99, 100, 101, 102]⟩ k = ((hexD k).toNat : Int) := by decide
theorem list_getD (l : List UInt8) : (List.range l.length).map (fun i => l.getD i 0) = l := by
  apply List.ext_getElem?
  intro i
  rw [List.getElem?_map]
  by_cases h : i < l.length
  · rw [List.getElem?_range h, List.getElem?_eq_getElem h]
    simp [List.getD_eq_getElem?_getD, h]
  · rw [List.getElem?_eq_none (by simpa using h), List.getElem?_eq_none (by omega)]
    rfl
theorem hexB_of (v : Nat) : strOfNums (List.map (fun i => bOf (AV.i IntKind.u8 fun _ => digS v i)) (List.range 8)) = hexB v := by
  have h := list_getD (hexN 8 v)
  rw [hexN_len] at h
  unfold strOfNums hexB toB
  congr 2
  rw [List.map_map, ← h]
  apply List.map_congr_left
  intro i hi
  show UInt8.ofNat (digS v i).toNat = _
  unfold digS
  rw [Int.toNat_natCast, UInt8.ofNat_toNat]
def ctHexS : CT := [(81, .r kWord)]
theorem ctHexS_ok : CTok Tryd.prog ctHexS := .cons specWord (.nil _)
end Go.Proofs.YtkglnfkbejoheaaDoor
