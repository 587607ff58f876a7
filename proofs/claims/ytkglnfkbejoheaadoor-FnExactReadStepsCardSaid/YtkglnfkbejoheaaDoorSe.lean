/- Numbers written in decimal: the kit's contract of the library, over the table of powers of ten. -/
import Derived.Test.YtkglnfkbejoheaaDoorSc
import Derived.Test.YtkglnfkbejoheaaDoorAwF
import Derived.Shelf.Strconv.Itoa3
import Derived.Lib.AppendIntMem
set_option linter.unusedSimpArgs false
set_option linter.unusedVariables false
namespace Go.Proofs.YtkglnfkbejoheaaDoor
open Go.Aw
open Go.Sort (grow)
open Go.Lib (indexByte countByte extract_eq size_eq)
theorem lore_tab {w : World} (h : LoreX w) : Lib.TabIs Tryd.prog w "internal/strconv.uint64pow10" .u64 Lib.pow10Tab := by
  obtain ⟨T, fz, e⟩ := h.pow
  unfold Lib.TabIs World.var?
  rw [show Tryd.prog.globalNamed "internal/strconv.uint64pow10" = some loreT by kernel_rfl, Option.bind_some, e]
  rfl
theorem rel_grow {w : World} {ρ : Mp} {L : Nat} (h : Rel w ρ L []) (k : Nat) (os : Array Obj) : Rel (grow (w.drewN k) os) ρ L [] ∧ Pass w ρ 0 (grow (w.drewN k) os) ρ 0 := by
  have no : ∀ id blk, ρ id ≠ some blk := fun id blk hr => by
    obtain ⟨fr, B, cs, T, hh, _⟩ := h.live id blk hr
    simp at hh
  refine ⟨⟨fun id blk hr => absurd hr (no id blk), fun id fr B hh => by simp at hh, fun id id' blk hr => absurd hr (no id blk), lore_keep h.lore fun b hb => Lib.heap_grow_old w k os b (Nat.lt_of_lt_of_le hb (lore_big h.lore)), h.away, h.deep⟩, ?_⟩
  exact ⟨Lib.size_grow w k os, Nat.le_refl _, fun id blk hid => absurd hid (Nat.not_lt_zero _), fun id blk hr => .inl ⟨id, hr⟩, fun blk hb _ => Lib.heap_grow_old w k os blk hb, fun id blk cs T fz hid => absurd hid (Nat.not_lt_zero _), rfl, rfl, rfl⟩
def decB (n : Int) : ByteArray := toB (Lib.itoa n)
def kFmt : Kr
  | [.i .i64 n, .i .i64 b] => some (.s fun _ => decB (n .u), [], fun _ => (-9223372036854775808 ≤ n .u ∧ n .u ≤ 9223372036854775807) ∧ b .u = 10)
  | _ => none
theorem fmt_tells : Tells Tryd.prog 144 (.r kFmt) := by
  intro args r H' p hr hp
  unfold kFmt at hr
  split at hr <;> cases hr
  rename_i n b
  obtain ⟨⟨h0, h1⟩, hb⟩ := hp
  refine ⟨.s, .nil, ⟨⟨_, Tryd.func144, by kernel_rfl, rfl⟩, Nat.le_refl _, fun w ρ vals hR hl hs => ?_⟩⟩
  obtain ⟨v, u, rfl⟩ : ∃ v u, vals = #[v, u] := by
    obtain ⟨l⟩ := vals
    match l, hl with
    | [v, u], _ => exact ⟨v, u, rfl⟩
  obtain rfl := (hs 0 _ v rfl rfl).i_inv
  obtain rfl := (hs 1 _ u rfl rfl).i_inv
  rw [hb]
  refine (Any.internal_strconv_FormatInt_10 Tryd.lays246 (n .u) h0 h1 w (lore_tab hR.lore)).mono ?_
  rintro e w' ⟨rfl, k, os, rfl⟩
  obtain ⟨k1, k2⟩ := rel_grow hR k os
  exact ⟨_, ρ, rfl, .s, k1, k2⟩
def ctFmt : CT := [(144, .r kFmt)]
theorem ctFmt_ok : CTok Tryd.prog ctFmt := .cons fmt_tells (.nil _)
theorem fmtS_tells : Tells Tryd.prog 118 (.r kFmt) := by
  intro args r H' p hr hp
  unfold kFmt at hr
  split at hr <;> cases hr
  rename_i n b
  obtain ⟨⟨h0, h1⟩, hb⟩ := hp
  refine ⟨.s, .nil, Con.of ttok Tryd.func118 rfl rfl (Nat.le_refl _) (AW.exec ttok ctFmt_ok (by cbv) ?_)⟩
  simp only [natCast_int, Post, All, thenA, canon0, canon064, and_true, true_and, forall_const, implies_true, decide_eq_true_eq, decide_eq_false_iff_not, Bool.not_eq_true', Bool.not_eq_false', Bool.true_and, Bool.and_true, beq_true, beq_false, Int.toNat_natCast, Int.ofNat_lt, Int.ofNat_le, Nat.zero_add, Nat.add_zero, imp_self, Bool.cond_false_right, Bool.cond_true_left, Bool.cond_true_right, IsF, rdF_eq, fOf, AV.f.injEq, exists_eq', free_list, free_fn0, List.not_mem_nil, List.mem_cons, false_imp, forall_eq, or_false, free_i, free_f, free_b, ren_f, ren_i, ren_b, and_self, bne_iff_ne, bne_eq_false_iff_eq, ne_eq, Int.natCast_inj, or_true, true_or, freeB_list, unfr_f, unfr_i, unfr_b, unfr_c, unfr_s, free_c, free_s, ren_c, ren_s, unfr_ro, unfr_rptr, ren_ro, free_ll, free_box, kill_f, kill_i, kill_b, kill_c, kill_s, kill_rof, kill_rot, Int.toNat_zero, isFF_ll, rowN_ll, rowX_ll, AllFree, Option.some.injEq, Prod.mk.injEq, Bool.false_eq_true, Bool.true_eq_false, hb, h0, h1]
  (repeat' first | with_reducible assumption | with_reducible apply And.intro | with_reducible intro hh) <;> first | ((first | with_reducible show (_ : Int) ≤ _ | with_reducible show (_ : Int) < _ | with_reducible show (_ : Nat) ≤ _ | with_reducible show (_ : Nat) < _ | with_reducible show (_ : Int) = _ | with_reducible show (_ : Nat) = _ | with_reducible show ¬ _ | with_reducible show _ ≠ _) <;> first | omega | (simp only [Bool.and_eq_true, Bool.or_eq_false_iff, Bool.not_eq_false', Bool.not_eq_true', decide_eq_true_eq, decide_eq_false_iff_not] at *; omega) | (with_reducible assumption)) | (with_reducible assumption) | skip
  all_goals exact fin_ret (.inl rfl) (by cbv) (by simp) (To.fresh (.cons (.s rfl) .nil))
def kDec : Kr
  | [.i .i64 n] => some (.s fun _ => decB (n .u), [], fun _ => -9223372036854775808 ≤ n .u ∧ n .u ≤ 9223372036854775807)
  | _ => none
def ctDec : CT := [(118, .r kFmt)]
theorem ctDec_ok : CTok Tryd.prog ctDec := .cons fmtS_tells (.nil _)
end Go.Proofs.YtkglnfkbejoheaaDoor
