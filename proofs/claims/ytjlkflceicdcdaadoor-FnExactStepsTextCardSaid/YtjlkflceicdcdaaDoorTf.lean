/- Texts of numbers, on both sides. -/
import Derived.Test.YtjlkflceicdcdaaDoorTe
import Derived.Test.YtjlkflceicdcdaaDoorHb
import Derived.Shelf.Strings.OnBuilder
set_option linter.unusedSimpArgs false
set_option linter.unusedVariables false
namespace Go.Proofs.YtjlkflceicdcdaaDoor
open Go.Aw
open Go.RowKit
open Go.Lib (indexByte countByte extract_eq size_eq decDigits itoa)
/-- Texts with a comma between them. -/
def jn (y : Nat → ByteArray) : Nat → ByteArray
  | 0 => ⟨#[]⟩
  | k + 1 => bif decide (k = 0) then y 0 else jn y k ++ (⟨⟨[44]⟩⟩ ++ y k)
theorem jn_one (y : Nat → ByteArray) : jn y 1 = y 0 := rfl
theorem jn_succ (y : Nat → ByteArray) {k : Nat} (h : 1 ≤ k) : jn y (k + 1) = jn y k ++ (⟨⟨[44]⟩⟩ ++ y k) := by
  show (bif decide (k = 0) then _ else _) = _
  rw [decide_eq_false (by omega)]
  rfl
def sepB : ByteArray := ⟨⟨[44]⟩⟩
theorem joinTail_snoc (sep : List UInt8) (r : List (List UInt8)) (a : List UInt8) : Lib.joinTail sep (r ++ [a]) = Lib.joinTail sep r ++ sep ++ a := by
  simp [Lib.joinTail, List.append_assoc]
theorem toB_data (l : List UInt8) : (toB l).data.toList = l := by simp [toB]
theorem data_toB (b : ByteArray) : toB b.data.toList = b := rfl
theorem jn_join (y : Nat → ByteArray) : ∀ n, 1 ≤ n → toB (Lib.join ((List.range n).map fun i => (y i).data.toList) [44]) = jn y n := by
  have h : ∀ k, toB ((y 0).data.toList ++ Lib.joinTail [44] ((List.range k).map fun i => (y (i + 1)).data.toList)) = jn y (k + 1) := by
    intro k
    induction k with
    | zero => simp [Lib.joinTail, jn]; rfl
    | succ k ih =>
      rw [jn_succ y (by omega), ← ih, List.range_succ, List.map_append, List.map_singleton, joinTail_snoc]
      rw [show (⟨⟨[44]⟩⟩ ++ y (k + 1) : ByteArray) = toB ([44] ++ (y (k + 1)).data.toList) by rw [← toB_app]; rfl, toB_app]
      simp only [List.append_assoc]
  intro n hn
  obtain ⟨k, rfl⟩ : ∃ k, n = k + 1 := ⟨n - 1, by omega⟩
  rw [List.range_succ_eq_map, List.map_cons, Lib.join_cons, List.map_map]
  exact h k
theorem jn_size (y : Nat → ByteArray) (hy : ∀ i, (y i).size = 8) : ∀ n, (jn y n).size ≤ 9 * n
  | 0 => Nat.le_refl _
  | k + 1 => by
    have ih := jn_size y hy k
    by_cases h : k = 0
    · subst h; rw [jn_one, hy]; decide
    · rw [jn_succ y (by omega), ByteArray.size_append, ByteArray.size_append, hy]
      have : (⟨⟨[44]⟩⟩ : ByteArray).size = 1 := rfl
      omega
/-! ### Join -/
def kJoin : Kr
  | [a, .s sep] => match asL a with
    | some (n, g) => some (.s fun _ => toB (Lib.join ((List.range (n .u)).map fun i => (rdT g i).data.toList) (sep .u).data.toList), [], fun _ => IsT n g ∧ n .u ≤ 1048576 ∧ (Lib.join ((List.range (n .u)).map fun i => (rdT g i).data.toList) (sep .u).data.toList).length ≤ 140737488355328)
    | none => none
  | _ => none
theorem extra156 : Builder.Extra Tryd.prog Tryd.lays156_ren where
  sizeBuilder := by kernel_rfl
  liesBuilder := by kernel_rfl
  t5 := by kernel_rfl
  a5 := fun w => extra105.a5 w
  z5 := fun w => extra105.z5 w
  v5 := fun w => extra105.v5 w
  infoByte := by kernel_rfl
  cellsByte := by kernel_rfl
  sizeByte := by kernel_rfl
  neB5 := by decide
theorem join_tells : Tells Tryd.prog 86 (.r kJoin) := by
  intro args r H' p hr hp
  unfold kJoin at hr
  split at hr <;> first | (cases hr; done) | skip
  split at hr <;> cases hr
  rename_i sep _ n g hL
  obtain ⟨hI, hn, hlen⟩ := hp
  refine ⟨.s, .nil, Con.pre (args' := [listT false n (rdT g), .s sep]) ⟨Sub.asT hL hI, Sub.refl _, trivial⟩ ⟨⟨_, Tryd.func86, by kernel_rfl, rfl⟩, Nat.le_refl _, fun w ρ vals hR hl hs => ?_⟩⟩
  obtain ⟨v, u, rfl⟩ : ∃ v u, vals = #[v, u] := by
    obtain ⟨l⟩ := vals
    match l, hl with
    | [v, u], _ => exact ⟨v, u, rfl⟩
  have s0 := hs 0 _ v rfl rfl
  obtain rfl := (hs 1 _ u rfl rfl).s_inv
  generalize rdT g = x at *
  have hcl : ((List.range (n .u)).map x).map (·.data.toList) = (List.range (n .u)).map fun i => (x i).data.toList := by rw [List.map_map]; rfl
  cases s0 with
  | ro0 h0 =>
    rename_i a cap
    refine (Any.strings_Join_none Tryd.lays156 extra156 a cap (sep .u) w).mono ?_
    rintro e w' ⟨rfl, rfl⟩
    refine ⟨_, ρ, rfl, ?_, hR, Pass.refl _ _ _⟩
    rw [h0]
    exact .s
  | ro us hn' hq hc hsim =>
    rename_i blk off cap
    have hcell : ∀ i, i < n .u → w.cell? ⟨blk, off + i, none⟩ = some (.string (x i)) := fun i hi => by
      obtain ⟨h1, _⟩ := hc i 0 hi (by omega)
      have h2 := hsim i 0 hi (by omega)
      have e : us i 0 = .string (x i) := h2.s_inv
      rw [e] at h1
      simpa using h1
    rcases Nat.eq_zero_or_pos (n .u) with h0 | hpos
    · rw [h0]
      refine (Any.strings_Join_none Tryd.lays156 extra156 _ cap (sep .u) w).mono ?_
      rintro e w' ⟨rfl, rfl⟩
      exact ⟨_, ρ, rfl, .s, hR, Pass.refl _ _ _⟩
    have hblk : blk < w.heap.size := by
      have h1 := hcell 0 hpos
      rcases Nat.lt_or_ge blk w.heap.size with h' | h'
      · exact h'
      · simp [World.cell?, Array.getElem?_eq_none h'] at h1
    have key := Any.strings_Join Tryd.lays156 extra156 blk off cap ((List.range (n .u)).map x) (sep .u) w (fun j y hj => by
      rw [List.getElem?_map] at hj
      by_cases h : j < n .u
      · rw [List.getElem?_range h] at hj
        cases hj
        exact hcell j h
      · rw [List.getElem?_eq_none (by simpa using h)] at hj
        cases hj) hblk (by simp; omega) (by simpa using hn') (by rw [hcl]; exact hlen)
    rw [hcl, List.length_map, List.length_range] at key
    refine key.mono ?_
    rintro e w' ⟨rfl, hb'⟩
    obtain ⟨k1, k2⟩ := rel_below hR hb'
    exact ⟨_, ρ, rfl, .s, k1, k2⟩
/-! ### The program's side -/
def W32T (n : Nat) (x : Nat → Nat) : Prop := ∀ i, i < n → x i < 4294967296
def hexT (x : Nat → Nat) (i : Nat) : ByteArray := hexB (wordF (x i))
def numB (n : Nat) (x : Nat → Nat) : ByteArray := bif decide (n = 0) then ⟨⟨[110, 111, 110, 101]⟩⟩ else jn (hexT x) n
def kNone : Kr
  | [a] => match asL a with
    | some (n, g) => some (.s fun _ => bif decide (n .u = 0) then ⟨⟨[110, 111, 110, 101]⟩⟩ else jn (rdT g) (n .u), [], fun _ => IsT n g ∧ n .u ≤ 1048576 ∧ ∀ i, (rdT g i).size = 8)
    | none => none
  | _ => none
def ctNone : CT := [(86, .r kJoin)]
theorem ctNone_ok : CTok Tryd.prog ctNone := .cons join_tells (.nil _)
theorem none_tells : Tells Tryd.prog 70 (.r kNone) := by
  intro args r H' p hr hp
  unfold kNone at hr
  split at hr <;> first | (cases hr; done) | skip
  split at hr <;> cases hr
  rename_i n g hL
  obtain ⟨hp, hn, hsz⟩ := hp
  refine ⟨.s, .nil, Con.pre (args' := [listT false n (rdT g)]) ⟨Sub.asT hL hp, trivial⟩ ?_⟩
  generalize rdT g = x at hsz ⊢
  have hI : IsT n fun i _ => .s fun _ => x (i .u) := ⟨hp.1, fun _ _ => ⟨_, rfl⟩⟩
  have hjs := jn_size x hsz (n .u)
  have hrd : (rdT fun i _ => .s fun _ => x (i .u)) = x := rfl
  have hjl : 1 ≤ n .u → (Lib.join ((List.range (n .u)).map fun i => (x i).data.toList) [44]).length = (jn x (n .u)).size := fun h => by
    rw [← jn_join x _ h, size_toB]
  refine Con.of ttok Tryd.func70 rfl rfl (Nat.zero_le _) (AW.exec ttok ctNone_ok (by cbv) ?_)
  simp only [natCast_int, Post, All, thenA, canon0, canon064, and_true, true_and, forall_const, implies_true, decide_eq_true_eq, decide_eq_false_iff_not, Bool.not_eq_true', Bool.not_eq_false', Bool.true_and, Bool.and_true, beq_true, beq_false, Int.toNat_natCast, Int.ofNat_lt, Int.ofNat_le, Nat.zero_add, Nat.add_zero, imp_self, Bool.cond_false_right, Bool.cond_true_left, Bool.cond_true_right, IsF, rdF_eq, fOf, AV.f.injEq, exists_eq', free_list, free_fn0, List.not_mem_nil, List.mem_cons, false_imp, forall_eq, or_false, free_i, free_f, free_b, ren_f, ren_i, ren_b, and_self, bne_iff_ne, bne_eq_false_iff_eq, ne_eq, Int.natCast_inj, or_true, true_or, freeB_list, unfr_f, unfr_i, unfr_b, unfr_c, unfr_s, free_c, free_s, ren_c, ren_s, unfr_ro, unfr_rptr, ren_ro, free_ll, free_box, kill_f, kill_i, kill_b, kill_c, kill_s, kill_rof, kill_rot, Int.toNat_zero, isFF_ll, rowN_ll, rowX_ll, AllFree, Option.some.injEq, Prod.mk.injEq, Bool.false_eq_true, Bool.true_eq_false]
  (repeat' first | with_reducible assumption | with_reducible apply And.intro | with_reducible intro hh) <;> first | ((first | with_reducible show (_ : Int) ≤ _ | with_reducible show (_ : Int) < _ | with_reducible show (_ : Nat) ≤ _ | with_reducible show (_ : Nat) < _ | with_reducible show (_ : Int) = _ | with_reducible show (_ : Nat) = _ | with_reducible show ¬ _ | with_reducible show _ ≠ _) <;> first | omega | (simp only [Bool.and_eq_true, Bool.or_eq_false_iff, Bool.not_eq_false', Bool.not_eq_true', decide_eq_true_eq, decide_eq_false_iff_not] at *; omega) | (with_reducible assumption)) | (with_reducible assumption) | skip
  · have e : n .u = 0 := by simpa using ‹((n .u : Int) == 0) = true›
    refine fin_ret (.inl rfl) (by cbv) (by simp) (To.fresh (.cons (.s ?_) .nil))
    simp only [decide_eq_true e, cond_true]
  · exact Free.listT
  · have e : n .u ≠ 0 := by simpa using ‹((n .u : Int) == 0) = false›
    rw [hrd, hjl (by omega)]
    omega
  · have e : n .u ≠ 0 := by simpa using ‹((n .u : Int) == 0) = false›
    refine fin_ret (.inl rfl) (by cbv) (by simp) (To.fresh (.cons (.s ?_) .nil))
    simp only [decide_eq_false e, cond_false]
    rw [hrd]
    exact jn_join x _ (by omega)
/-- The words of numbers, as a list. -/
abbrev blkN (k : Nat) (x : Nat → Nat) : Option (Bool × Blk) := some (true, .tab (fun _ => k) 1 fun i _ => .s fun _ => hexT x (i .u))
def textN (n : Nat) (x : Nat → Nat) : ByteArray := bif decide (n ≤ 256) then numB n x else ⟨#[]⟩
def kNumT : Kr
  | [a] => match asL a with
    | some (n, g) => some (.tup [.s fun _ => textN (n .u) (rdF g), .b fun _ => decide (n .u ≤ 256)], [], fun _ => IsF n g ∧ W32T (n .u) (rdF g))
    | none => none
  | _ => none
def ctNumT : CT := [(69, .r kHex), (70, .r kNone)]
theorem ctNumT_ok : CTok Tryd.prog ctNumT := .cons implHex (.cons none_tells (.nil _))
theorem hexT_size (x : Nat → Nat) (i : Nat) : (hexT x i).size = 8 := hexB_size _
theorem implNum : Tells Tryd.prog 46 (.r kNumT) := by
  intro args r H' p hr hp
  unfold kNumT at hr
  split at hr <;> first | (cases hr; done) | skip
  split at hr <;> cases hr
  rename_i n g hL
  obtain ⟨hp, hw⟩ := hp
  refine ⟨allFr_tup2 .s .b, .nil, Con.pre (args' := [listF false n (rdF g)]) ⟨.asL hL hp, trivial⟩ ?_⟩
  generalize rdF g = x at hw ⊢
  refine Con.of ttok Tryd.func46 rfl rfl (Nat.zero_le _) (AW.exec ttok ctNumT_ok (by cbv) ?_)
  simp only [natCast_int, Post, All, thenA, canon0, canon064, and_true, true_and, forall_const, implies_true, decide_eq_true_eq, decide_eq_false_iff_not, Bool.not_eq_true', Bool.not_eq_false', Bool.true_and, Bool.and_true, beq_true, beq_false, Int.toNat_natCast, Int.ofNat_lt, Int.ofNat_le, Nat.zero_add, Nat.add_zero, imp_self, Bool.cond_false_right, Bool.cond_true_left, Bool.cond_true_right, IsF, rdF_eq, fOf, AV.f.injEq, exists_eq', free_list, free_fn0, List.not_mem_nil, List.mem_cons, false_imp, forall_eq, or_false, free_i, free_f, free_b, ren_f, ren_i, ren_b, and_self, bne_iff_ne, bne_eq_false_iff_eq, ne_eq, Int.natCast_inj, or_true, true_or, freeB_list, unfr_f, unfr_i, unfr_b, unfr_c, unfr_s, free_c, free_s, ren_c, ren_s, unfr_ro, unfr_rptr, ren_ro, free_ll, free_box, kill_f, kill_i, kill_b, kill_c, kill_s, kill_rof, kill_rot, Int.toNat_zero, isFF_ll, rowN_ll, rowX_ll, AllFree, Option.some.injEq, Prod.mk.injEq, Bool.false_eq_true, Bool.true_eq_false]
  (repeat' first | with_reducible assumption | with_reducible apply And.intro | with_reducible intro hh) <;> first | ((first | with_reducible show (_ : Int) ≤ _ | with_reducible show (_ : Int) < _ | with_reducible show (_ : Nat) ≤ _ | with_reducible show (_ : Nat) < _ | with_reducible show (_ : Int) = _ | with_reducible show (_ : Nat) = _ | with_reducible show ¬ _ | with_reducible show _ ≠ _) <;> first | omega | (simp only [Bool.and_eq_true, Bool.or_eq_false_iff, Bool.not_eq_false', Bool.not_eq_true', decide_eq_true_eq, decide_eq_false_iff_not] at *; omega) | (with_reducible assumption)) | (with_reducible assumption) | skip
  · refine fin_ret (.inl rfl) (by cbv) (by simp) (To.fresh (.cons (.tup (.cons (.s ?_) (.cons (.b ?_) .nil))) .nil))
    · simp only [textN, decide_eq_false (show ¬ n .u ≤ 256 by omega), cond_false]
    · simp only [decide_eq_false (show ¬ n .u ≤ 256 by omega)]
  have h256 : n .u ≤ 256 := by omega
  refine AW.loopH (ι := Nat) (fun i => i ≤ n .u) (fun i => n .u - i) (fun i => mkE Tryd.f46.ntmps [(4, .own 0 (fun _ => 0) (fun _ => i) 1), (11, listF false n x), (12, .i .i64 fun _ => (n .u : Int)), (13, .i .i64 fun _ => (i : Int))])
    (fun i => [blkN i x]) 0 (Nat.zero_le _) (To.list (Nat.zero_le _) (Nat.le_refl _) (fun e => e) (fun j hj => absurd hj (Nat.not_lt_zero _)) ?_) ?_
  · (repeat' first | exact AllTo.nil | apply AllTo.cons) <;> first | exact AvTo.dead _ | exact AvTo.i rfl | exact AvTo.own rfl rfl rfl rfl | exact Free.same Free.listF | skip
  · rintro Q' hQ i hi
    have hwi := hw i
    have hwb : i < n .u → wordF (x i) < 4294967296 := fun h => wordF_lt (hwi h)
    refine AW.exec ttok ctNumT_ok (by cbv) ?_
    simp only [natCast_int, Post, All, thenA, canon0, canon064, and_true, true_and, forall_const, implies_true, decide_eq_true_eq, decide_eq_false_iff_not, Bool.not_eq_true', Bool.not_eq_false', Bool.true_and, Bool.and_true, beq_true, beq_false, Int.toNat_natCast, Int.ofNat_lt, Int.ofNat_le, Nat.zero_add, Nat.add_zero, imp_self, Bool.cond_false_right, Bool.cond_true_left, Bool.cond_true_right, IsF, rdF_eq, fOf, AV.f.injEq, exists_eq', free_list, free_fn0, List.not_mem_nil, List.mem_cons, false_imp, forall_eq, or_false, free_i, free_f, free_b, ren_f, ren_i, ren_b, and_self, bne_iff_ne, bne_eq_false_iff_eq, ne_eq, Int.natCast_inj, or_true, true_or, freeB_list, unfr_f, unfr_i, unfr_b, unfr_c, unfr_s, free_c, free_s, ren_c, ren_s, unfr_ro, unfr_rptr, ren_ro, free_ll, free_box, kill_f, kill_i, kill_b, kill_c, kill_s, kill_rof, kill_rot, Int.toNat_zero, isFF_ll, rowN_ll, rowX_ll, AllFree, Option.some.injEq, Prod.mk.injEq, Bool.false_eq_true, Bool.true_eq_false]
    (repeat' first | with_reducible assumption | with_reducible apply And.intro | with_reducible intro hh) <;> first | ((first | with_reducible show (_ : Int) ≤ _ | with_reducible show (_ : Int) < _ | with_reducible show (_ : Nat) ≤ _ | with_reducible show (_ : Nat) < _ | with_reducible show (_ : Int) = _ | with_reducible show (_ : Nat) = _ | with_reducible show ¬ _ | with_reducible show _ ≠ _) <;> first | omega | (simp only [Bool.and_eq_true, Bool.or_eq_false_iff, Bool.not_eq_false', Bool.not_eq_true', decide_eq_true_eq, decide_eq_false_iff_not] at *; omega) | (with_reducible assumption)) | (with_reducible assumption) | skip
    · refine ⟨i + 1, by omega, by omega, To.moved (k := 2) rfl (Nat.le_refl _) (fun e => e) (fun j hj => app_one hj (fun _ => AvTo.s rfl) fun e => AvTo.s (by subst e; rfl)) ?_⟩
      (repeat' first | exact AllTo.nil | apply AllTo.cons) <;> first | exact AvTo.dead _ | exact AvTo.i rfl | exact AvTo.own rfl rfl rfl rfl | exact Free.same Free.listF | skip
    · obtain ⟨rfl⟩ := hQ
      refine Post.eval (by cbv) ?_
      have e : i = n .u := by omega
      simp only [natCast_int, Post, All, thenA, canon0, canon064, and_true, true_and, forall_const, implies_true, decide_eq_true_eq, decide_eq_false_iff_not, Bool.not_eq_true', Bool.not_eq_false', Bool.true_and, Bool.and_true, beq_true, beq_false, Int.toNat_natCast, Int.ofNat_lt, Int.ofNat_le, Nat.zero_add, Nat.add_zero, imp_self, Bool.cond_false_right, Bool.cond_true_left, Bool.cond_true_right, IsF, rdF_eq, fOf, AV.f.injEq, exists_eq', free_list, free_fn0, List.not_mem_nil, List.mem_cons, false_imp, forall_eq, or_false, free_i, free_f, free_b, ren_f, ren_i, ren_b, and_self, bne_iff_ne, bne_eq_false_iff_eq, ne_eq, Int.natCast_inj, or_true, true_or, freeB_list, unfr_f, unfr_i, unfr_b, unfr_c, unfr_s, free_c, free_s, ren_c, ren_s, unfr_ro, unfr_rptr, ren_ro, free_ll, free_box, kill_f, kill_i, kill_b, kill_c, kill_s, kill_rof, kill_rot, Int.toNat_zero, isFF_ll, rowN_ll, rowX_ll, AllFree, Option.some.injEq, Prod.mk.injEq, Bool.false_eq_true, Bool.true_eq_false]
      (repeat' first | with_reducible assumption | with_reducible apply And.intro | with_reducible intro hh) <;> first | ((first | with_reducible show (_ : Int) ≤ _ | with_reducible show (_ : Int) < _ | with_reducible show (_ : Nat) ≤ _ | with_reducible show (_ : Nat) < _ | with_reducible show (_ : Int) = _ | with_reducible show (_ : Nat) = _ | with_reducible show ¬ _ | with_reducible show _ ≠ _) <;> first | omega | (simp only [Bool.and_eq_true, Bool.or_eq_false_iff, Bool.not_eq_false', Bool.not_eq_true', decide_eq_true_eq, decide_eq_false_iff_not] at *; omega) | (with_reducible assumption)) | (with_reducible assumption) | skip
      · exact ⟨by show i ≤ 9223372036854775807; omega, fun _ _ => ⟨_, rfl⟩⟩
      · exact hexT_size _ _
      · refine fin_ret (.inl rfl) (by cbv) (by simp) (To.fresh (.cons (.tup (.cons (.s ?_) (.cons (.b ?_) .nil))) .nil))
        · simp only [textN, decide_eq_true h256, cond_true, e]
          rfl
        · simp only [decide_eq_true h256]
/-! ### The reference's side -/
def kNT : Kr
  | [a] => match asL a with
    | some (n, g) => some (.s fun _ => numB (n .u) (rdF g), [], fun _ => IsF n g ∧ n .u ≤ 256 ∧ W32T (n .u) (rdF g))
    | none => none
  | _ => none
def ctNT : CT := [(80, .r kHex)]
theorem ctNT_ok : CTok Tryd.prog ctNT := .cons specHex (.nil _)
theorem specNT : Tells Tryd.prog 67 (.r kNT) := by
  intro args r H' p hr hp
  unfold kNT at hr
  split at hr <;> first | (cases hr; done) | skip
  split at hr <;> cases hr
  rename_i n g hL
  obtain ⟨hp, h256, hw⟩ := hp
  refine ⟨.s, .nil, Con.pre (args' := [listF false n (rdF g)]) ⟨.asL hL hp, trivial⟩ ?_⟩
  generalize rdF g = x at hw ⊢
  refine Con.of ttok Tryd.func67 rfl rfl (Nat.zero_le _) (AW.exec ttok ctNT_ok (by cbv) ?_)
  have hw0 := hw 0
  simp only [natCast_int, Post, All, thenA, canon0, canon064, and_true, true_and, forall_const, implies_true, decide_eq_true_eq, decide_eq_false_iff_not, Bool.not_eq_true', Bool.not_eq_false', Bool.true_and, Bool.and_true, beq_true, beq_false, Int.toNat_natCast, Int.ofNat_lt, Int.ofNat_le, Nat.zero_add, Nat.add_zero, imp_self, Bool.cond_false_right, Bool.cond_true_left, Bool.cond_true_right, IsF, rdF_eq, fOf, AV.f.injEq, exists_eq', free_list, free_fn0, List.not_mem_nil, List.mem_cons, false_imp, forall_eq, or_false, free_i, free_f, free_b, ren_f, ren_i, ren_b, and_self, bne_iff_ne, bne_eq_false_iff_eq, ne_eq, Int.natCast_inj, or_true, true_or, freeB_list, unfr_f, unfr_i, unfr_b, unfr_c, unfr_s, free_c, free_s, ren_c, ren_s, unfr_ro, unfr_rptr, ren_ro, free_ll, free_box, kill_f, kill_i, kill_b, kill_c, kill_s, kill_rof, kill_rot, Int.toNat_zero, isFF_ll, rowN_ll, rowX_ll, AllFree, Option.some.injEq, Prod.mk.injEq, Bool.false_eq_true, Bool.true_eq_false]
  (repeat' first | with_reducible assumption | with_reducible apply And.intro | with_reducible intro hh) <;> first | ((first | with_reducible show (_ : Int) ≤ _ | with_reducible show (_ : Int) < _ | with_reducible show (_ : Nat) ≤ _ | with_reducible show (_ : Nat) < _ | with_reducible show (_ : Int) = _ | with_reducible show (_ : Nat) = _ | with_reducible show ¬ _ | with_reducible show _ ≠ _) <;> first | omega | (simp only [Bool.and_eq_true, Bool.or_eq_false_iff, Bool.not_eq_false', Bool.not_eq_true', decide_eq_true_eq, decide_eq_false_iff_not] at *; omega) | (with_reducible assumption)) | (with_reducible assumption) | skip
  · have e : n .u = 0 := by simpa using ‹((n .u : Int) == 0) = true›
    refine fin_ret (.inl rfl) (by cbv) (by simp) (To.fresh (.cons (.s ?_) .nil))
    simp only [numB, decide_eq_true e, cond_true]
  all_goals try (have e : n .u ≠ 0 := by simpa using ‹((n .u : Int) == 0) = false›)
  · omega
  · exact hw0 (by omega)
  refine AW.loopH (ι := Nat) (fun i => 1 ≤ i ∧ i ≤ n .u) (fun i => n .u - i) (fun i => mkE Tryd.f67.ntmps [(0, listF false n x), (3, .s fun _ => jn (hexT x) i), (4, .i .i64 fun _ => (i : Int))])
    (fun _ => []) 1 ⟨Nat.le_refl _, by omega⟩ (To.same (Nat.le_refl _) trivial ?_) ?_
  · (repeat' first | exact AllTo.nil | apply AllTo.cons) <;> first | exact AvTo.dead _ | exact AvTo.i rfl | exact AvTo.s rfl | exact Free.same Free.listF | skip
  · rintro Q' hQ i ⟨hi1, hi⟩
    have hwi := hw i
    have hjs := jn_size (hexT x) (hexT_size x) i
    have h8 := hexT_size x i
    have h44 : (⟨⟨[44]⟩⟩ : ByteArray).size = 1 := rfl
    refine AW.exec ttok ctNT_ok (by cbv) ?_
    simp only [natCast_int, Post, All, thenA, canon0, canon064, and_true, true_and, forall_const, implies_true, decide_eq_true_eq, decide_eq_false_iff_not, Bool.not_eq_true', Bool.not_eq_false', Bool.true_and, Bool.and_true, beq_true, beq_false, Int.toNat_natCast, Int.ofNat_lt, Int.ofNat_le, Nat.zero_add, Nat.add_zero, imp_self, Bool.cond_false_right, Bool.cond_true_left, Bool.cond_true_right, IsF, rdF_eq, fOf, AV.f.injEq, exists_eq', free_list, free_fn0, List.not_mem_nil, List.mem_cons, false_imp, forall_eq, or_false, free_i, free_f, free_b, ren_f, ren_i, ren_b, and_self, bne_iff_ne, bne_eq_false_iff_eq, ne_eq, Int.natCast_inj, or_true, true_or, freeB_list, unfr_f, unfr_i, unfr_b, unfr_c, unfr_s, free_c, free_s, ren_c, ren_s, unfr_ro, unfr_rptr, ren_ro, free_ll, free_box, kill_f, kill_i, kill_b, kill_c, kill_s, kill_rof, kill_rot, Int.toNat_zero, isFF_ll, rowN_ll, rowX_ll, AllFree, Option.some.injEq, Prod.mk.injEq, Bool.false_eq_true, Bool.true_eq_false]
    (repeat' first | with_reducible assumption | with_reducible apply And.intro | with_reducible intro hh) <;> first | ((first | with_reducible show (_ : Int) ≤ _ | with_reducible show (_ : Int) < _ | with_reducible show (_ : Nat) ≤ _ | with_reducible show (_ : Nat) < _ | with_reducible show (_ : Int) = _ | with_reducible show (_ : Nat) = _ | with_reducible show ¬ _ | with_reducible show _ ≠ _) <;> first | omega | (simp only [Bool.and_eq_true, Bool.or_eq_false_iff, Bool.not_eq_false', Bool.not_eq_true', decide_eq_true_eq, decide_eq_false_iff_not] at *; omega) | (with_reducible assumption)) | (with_reducible assumption) | skip
    · have : (hexB (wordF (x i))).size = 8 := h8
      omega
    · have : (hexB (wordF (x i))).size = 8 := h8
      rw [ByteArray.size_append]
      omega
    · refine ⟨i + 1, ⟨by omega, by omega⟩, by omega, To.same (Nat.le_refl _) trivial ?_⟩
      (repeat' first | exact AllTo.nil | apply AllTo.cons) <;> first | exact AvTo.dead _ | exact AvTo.i rfl | exact AvTo.s (jn_succ (hexT x) hi1).symm | exact Free.same Free.listF | skip
    · obtain ⟨rfl⟩ := hQ
      refine Post.eval (by cbv) ?_
      have ei : i = n .u := by omega
      simp only [natCast_int, Post, All, thenA, canon0, canon064, and_true, true_and, forall_const, implies_true, decide_eq_true_eq, decide_eq_false_iff_not, Bool.not_eq_true', Bool.not_eq_false', Bool.true_and, Bool.and_true, beq_true, beq_false, Int.toNat_natCast, Int.ofNat_lt, Int.ofNat_le, Nat.zero_add, Nat.add_zero, imp_self, Bool.cond_false_right, Bool.cond_true_left, Bool.cond_true_right, IsF, rdF_eq, fOf, AV.f.injEq, exists_eq', free_list, free_fn0, List.not_mem_nil, List.mem_cons, false_imp, forall_eq, or_false, free_i, free_f, free_b, ren_f, ren_i, ren_b, and_self, bne_iff_ne, bne_eq_false_iff_eq, ne_eq, Int.natCast_inj, or_true, true_or, freeB_list, unfr_f, unfr_i, unfr_b, unfr_c, unfr_s, free_c, free_s, ren_c, ren_s, unfr_ro, unfr_rptr, ren_ro, free_ll, free_box, kill_f, kill_i, kill_b, kill_c, kill_s, kill_rof, kill_rot, Int.toNat_zero, isFF_ll, rowN_ll, rowX_ll, AllFree, Option.some.injEq, Prod.mk.injEq, Bool.false_eq_true, Bool.true_eq_false]
      (repeat' first | with_reducible assumption | with_reducible apply And.intro | with_reducible intro hh) <;> first | ((first | with_reducible show (_ : Int) ≤ _ | with_reducible show (_ : Int) < _ | with_reducible show (_ : Nat) ≤ _ | with_reducible show (_ : Nat) < _ | with_reducible show (_ : Int) = _ | with_reducible show (_ : Nat) = _ | with_reducible show ¬ _ | with_reducible show _ ≠ _) <;> first | omega | (simp only [Bool.and_eq_true, Bool.or_eq_false_iff, Bool.not_eq_false', Bool.not_eq_true', decide_eq_true_eq, decide_eq_false_iff_not] at *; omega) | (with_reducible assumption)) | (with_reducible assumption) | skip
      refine fin_ret (.inl rfl) (by cbv) (by simp) (To.fresh (.cons (.s ?_) .nil))
      simp only [numB, decide_eq_false e, cond_false, ei]
end Go.Proofs.YtjlkflceicdcdaaDoor
