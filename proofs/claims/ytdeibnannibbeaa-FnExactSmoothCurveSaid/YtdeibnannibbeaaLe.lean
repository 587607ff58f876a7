/- The law FnExactSmoothCurve answers yes for every list of numbers; conditions: none. -/
import Derived.Test.YtdeibnannibbeaaGb
import Derived.Test.YtdeibnannibbeaaLr
set_option linter.unusedSimpArgs false
set_option linter.unusedVariables false
namespace Go.Proofs.Ytdeibnannibbeaa
open Go.Aw
theorem isList_le {n : Nat} {x : Nat → Nat} (h : isList n x = true) : 1 ≤ n ∧ n ≤ 128 := by simp only [isList, Bool.and_eq_true, decide_eq_true_eq] at h; exact h.2
theorem free_getD {l : List AV} (h : ∀ a ∈ l, Free a) {i : Nat} : Free (l.getD i .dead) := by
  rw [List.getD_eq_getElem?_getD]
  cases hi : l[i]? with
  | none => exact .dead
  | some a => exact h a (List.mem_of_getElem? hi)
theorem finN_congr {x y : Nat → Nat} {n : Nat} (h : ∀ j, j < n → x j = y j) : finN n x = finN n y := by
  unfold finN allN
  rw [Bool.eq_iff_iff]
  simp only [List.all_eq_true, List.mem_range]
  exact ⟨fun k j hj => by rw [← h j hj]; exact k j hj, fun k j hj => by rw [h j hj]; exact k j hj⟩
def w5 (j : Nat) : Nat := [3225419776, 1094713344, 1099431936, 1094713344, 3225419776].getD j 0
def curveX (n : Nat) (x : Nat → Nat) (i : Nat) : Nat := bif decide (i < 2) || decide (n ≤ i + 2) then x i else fdiv .f32 (dotN w5 (fun j => x (i - 2 + j)) 5) 1108082688
def okCurve (n : Nat) (x : Nat → Nat) : Bool := isList n x && finN n (curveX n x)
def kCurve : Kg
  | [a], [] => match asL a with
    | some (n, g) => some (ansL n (curveX (n .u) (rdF g)) (okCurve (n .u) (rdF g)) (IsF n g))
    | none => none
  | _, _ => none
def ctImplCurve : CT := [(47, .r kIsList), (64, .r kClone), (65, .r kDot), (63, .g 1 kGive)]
theorem ctImplCurve_ok : CTok Try.prog ctImplCurve := .cons isList_tells (.cons clone_tells (.cons dot_tells (.cons checked_g (.nil _))))
set_option maxHeartbeats 1000000 in
theorem implCurve : Tells Try.prog 34 (.g 0 kCurve) := by
  intro args Hc r hr
  unfold kCurve at hr
  split at hr <;> first | (cases hr; done) | skip
  split at hr <;> cases hr
  rename_i n g hL
  refine AnsOk.two ttok Try.func34 rfl rfl (Nat.zero_le _) (Nat.zero_le _) (allFr_tup2 .own .b) (allFr_tup2 .v .b) .list .nil fun hF => ⟨[listF false n (rdF g)], ⟨.asLg hL hF, trivial⟩, ?_⟩
  have hn := hF.1
  generalize rdF g = x
  refine AW.exec ttok ctImplCurve_ok (by cbv) ?_
  simp only [natCast_int, Post, All, thenA, canon0, canon064, and_true, true_and, forall_const, implies_true, decide_eq_true_eq, decide_eq_false_iff_not, Bool.not_eq_true', Bool.not_eq_false', Bool.true_and, Bool.and_true, beq_true, beq_false, Int.toNat_natCast, Int.ofNat_lt, Int.ofNat_le, Nat.zero_add, Nat.add_zero, imp_self, Bool.cond_false_right, Bool.cond_true_left, Bool.cond_true_right, IsF, rdF_eq, fOf, AV.f.injEq, exists_eq', free_list, free_fn0, List.not_mem_nil, List.mem_cons, false_imp, forall_eq, or_false, free_i, free_f, free_b, ren_f, ren_i, ren_b, and_self, bne_iff_ne, bne_eq_false_iff_eq, ne_eq, Int.natCast_inj, or_true, true_or, freeB_list, unfr_f, unfr_i, unfr_b, unfr_c, unfr_s, free_c, free_s, ren_c, ren_s, Bool.false_eq_true, Bool.true_eq_false, eqL_self, heldL_mark, heldL_zero, one_neg, Nat.zero_le, Nat.not_lt_zero, one_add_len, one_le_tb, zero_le_one', not_false_eq_true, true_imp_iff, bne_self_eq_false, Bool.or_false, Bool.false_or, Bool.not_true, Bool.not_false, Bool.true_eq_false, Bool.false_eq_true, false_imp, Nat.le_refl, decide_true, decide_false, not_true_eq_false, Int.lt_irrefl, isList_fin, hn]
  (repeat' first | with_reducible apply And.intro | with_reducible intro hh) <;> first | ((first | with_reducible show (_ : Int) ≤ _ | with_reducible show (_ : Int) < _ | with_reducible show (_ : Nat) ≤ _ | with_reducible show (_ : Nat) < _ | with_reducible show (_ : Int) = _ | with_reducible show (_ : Nat) = _ | with_reducible show ¬ _ | with_reducible show _ ≠ _) <;> first | omega | (simp only [Bool.and_eq_true, Bool.or_eq_false_iff, Bool.not_eq_false', Bool.not_eq_true', decide_eq_true_eq, decide_eq_false_iff_not] at *; omega) | (with_reducible assumption)) | (with_reducible assumption) | skip
  · exact okA.no (by simp_all [okCurve]) (fin_ret (.inl rfl) (by cbv) (by simp) (To.fresh noL_to))
  · have h8 := isList_le (by assumption); omega
  · have h8 := isList_le (by assumption); omega
  have h1 : isList (n .u) x = true := by assumption
  have h8 := isList_le h1
  refine AW.loopH (ι := Nat) (fun i => 2 ≤ i ∧ (i ≤ n .u ∨ i = 2)) (fun i => n .u - i) (fun i => mkE Try.f34.ntmps [(0, listF false n x), (4, .own 0 (fun _ => 0) n 1), (5, .i .i64 fun _ => (i : Int))])
    (fun i => [blkF true n (fun j => bif decide (j < i) then curveX (n .u) x j else x j)]) 2 (by omega) (To.list (Nat.zero_le _) (Nat.le_refl _) (fun e => e) (fun j hj => AvTo.f ?_) ?_) ?_
  · by_cases hj2 : j < 2 <;> simp [hj2, curveX]
  · (repeat' first | exact AllTo.nil | apply AllTo.cons) <;> first | exact AvTo.dead _ | exact AvTo.i rfl | exact AvTo.i (by first | omega | (simp only [natCast_int]; omega)) | exact AvTo.f rfl | exact AvTo.b rfl | exact AvTo.v _ | exact AvTo.own rfl rfl rfl rfl | exact AvTo.own rfl rfl (by first | rfl | omega) (by first | rfl | omega) | exact Free.same .listF | exact Free.same (.fn (by simp) (by simp)) | skip
  · rintro Q' hQ q ⟨hq, hq2⟩
    refine AW.exec ttok ctImplCurve_ok (by cbv) ?_
    simp only [natCast_int, Post, All, thenA, canon0, canon064, and_true, true_and, forall_const, implies_true, decide_eq_true_eq, decide_eq_false_iff_not, Bool.not_eq_true', Bool.not_eq_false', Bool.true_and, Bool.and_true, beq_true, beq_false, Int.toNat_natCast, Int.ofNat_lt, Int.ofNat_le, Nat.zero_add, Nat.add_zero, imp_self, Bool.cond_false_right, Bool.cond_true_left, Bool.cond_true_right, IsF, rdF_eq, fOf, AV.f.injEq, exists_eq', free_list, free_fn0, List.not_mem_nil, List.mem_cons, false_imp, forall_eq, or_false, free_i, free_f, free_b, ren_f, ren_i, ren_b, and_self, bne_iff_ne, bne_eq_false_iff_eq, ne_eq, Int.natCast_inj, or_true, true_or, freeB_list, unfr_f, unfr_i, unfr_b, unfr_c, unfr_s, free_c, free_s, ren_c, ren_s, Bool.false_eq_true, Bool.true_eq_false]
    (repeat' first | with_reducible apply And.intro | with_reducible intro hh) <;> first | ((first | with_reducible show (_ : Int) ≤ _ | with_reducible show (_ : Int) < _ | with_reducible show (_ : Nat) ≤ _ | with_reducible show (_ : Nat) < _ | with_reducible show (_ : Int) = _ | with_reducible show (_ : Nat) = _ | with_reducible show ¬ _ | with_reducible show _ ≠ _) <;> first | omega | (simp only [Bool.and_eq_true, Bool.or_eq_false_iff, Bool.not_eq_false', Bool.not_eq_true', decide_eq_true_eq, decide_eq_false_iff_not] at *; omega) | (with_reducible assumption)) | (with_reducible assumption) | skip
    · rename_i j c hj hc
      exact free_getD (by intro a ha; simp only [List.mem_cons, List.not_mem_nil, or_false] at ha; rcases ha with rfl | rfl | rfl | rfl | rfl <;> exact .f)
    · rename_i j
      have hj := hh
      obtain rfl | rfl | rfl | rfl | rfl : j = 0 ∨ j = 1 ∨ j = 2 ∨ j = 3 ∨ j = 4 := by omega
      all_goals exact ⟨_, rfl⟩
    · refine ⟨q + 1, by omega, by omega, To.moved (k := 0) rfl (Nat.le_refl _) (fun e => e) (fun j hj => ?_) ?_⟩
      · by_cases e : j = q
        · subst e
          simp only [if_true, List.length_cons, List.length_nil, Nat.zero_add, Nat.le_refl, Nat.zero_lt_one, and_self, Nat.sub_self, List.getD_cons_zero]
          refine AvTo.f ?_
          simp only [Nat.lt_succ_self, decide_true, cond_true]
          have e1 : decide (j < 2) = false := by simp; omega
          have e2 : decide (n .u ≤ j + 2) = false := by simp; omega
          simp only [curveX, e1, e2, Bool.or_self, cond_false]
          congr 1
          refine dotN_congr (fun i hi => ?_) fun i hi => ?_
          · obtain rfl | rfl | rfl | rfl | rfl : i = 0 ∨ i = 1 ∨ i = 2 ∨ i = 3 ∨ i = 4 := by omega
            all_goals rfl
          · congr 1; omega
        · simp only [e, if_false]
          exact AvTo.f (by simp only [show (j < q + 1) ↔ j < q by omega])
      · (repeat' first | exact AllTo.nil | apply AllTo.cons) <;> first | exact AvTo.dead _ | exact AvTo.i rfl | exact AvTo.i (by first | omega | (simp only [natCast_int]; omega)) | exact AvTo.f rfl | exact AvTo.b rfl | exact AvTo.v _ | exact AvTo.own rfl rfl rfl rfl | exact AvTo.own rfl rfl (by first | rfl | omega) (by first | rfl | omega) | exact Free.same .listF | exact Free.same (.fn (by simp) (by simp)) | skip
    · obtain ⟨rfl⟩ := hQ
      refine Post.eval (by cbv) ?_
      have hc : ∀ j, j < n .u → (bif decide (j < q) then curveX (n .u) x j else x j) = curveX (n .u) x j := fun j hj => by
        by_cases e : j < q
        · simp [e]
        · have e2 : n .u ≤ j + 2 := by omega
          simp [e, curveX, e2]
      simp only [natCast_int, Post, All, thenA, canon0, canon064, and_true, true_and, forall_const, implies_true, decide_eq_true_eq, decide_eq_false_iff_not, Bool.not_eq_true', Bool.not_eq_false', Bool.true_and, Bool.and_true, beq_true, beq_false, Int.toNat_natCast, Int.ofNat_lt, Int.ofNat_le, Nat.zero_add, Nat.add_zero, imp_self, Bool.cond_false_right, Bool.cond_true_left, Bool.cond_true_right, IsF, rdF_eq, fOf, AV.f.injEq, exists_eq', free_list, free_fn0, List.not_mem_nil, List.mem_cons, false_imp, forall_eq, or_false, free_i, free_f, free_b, ren_f, ren_i, ren_b, and_self, bne_iff_ne, bne_eq_false_iff_eq, ne_eq, Int.natCast_inj, or_true, true_or, freeB_list, unfr_f, unfr_i, unfr_b, unfr_c, unfr_s, free_c, free_s, ren_c, ren_s, Bool.false_eq_true, Bool.true_eq_false, hn, finN_congr hc]
      (repeat' first | with_reducible apply And.intro | with_reducible intro hh) <;> first | ((first | with_reducible show (_ : Int) ≤ _ | with_reducible show (_ : Int) < _ | with_reducible show (_ : Nat) ≤ _ | with_reducible show (_ : Nat) < _ | with_reducible show (_ : Int) = _ | with_reducible show (_ : Nat) = _ | with_reducible show ¬ _ | with_reducible show _ ≠ _) <;> first | omega | (simp only [Bool.and_eq_true, Bool.or_eq_false_iff, Bool.not_eq_false', Bool.not_eq_true', decide_eq_true_eq, decide_eq_false_iff_not] at *; omega) | (with_reducible assumption)) | (with_reducible assumption) | skip
      · exact okA.yes (by simp_all [okCurve]) (fin_ret (.inl rfl) (by cbv) (by simp) (To.list (Nat.zero_le _) (Nat.le_refl _) (fun e => e) (fun j hj => AvTo.f (hc j hj)) yesL_to))
      · exact okA.no (by simp_all [okCurve]) (fin_ret (.inl rfl) (by cbv) (by simp) (To.fresh noL_to))
def ctSpecCurve : CT := [(44, .r kList), (59, .g 1 kGive)]
theorem ctSpecCurve_ok : CTok Try.prog ctSpecCurve := .cons l05List_tells (.cons give_g (.nil _))
abbrev blkW : Option (Bool × Blk) := some (true, .tab (fun _ => 5) 1 fun i _ => .f .f32 fun _ => w5 (i .u))
set_option maxHeartbeats 1000000 in
theorem specCurve : Tells Try.prog 33 (.g 0 kCurve) := by
  intro args Hc r hr
  unfold kCurve at hr
  split at hr <;> first | (cases hr; done) | skip
  split at hr <;> cases hr
  rename_i n g hL
  refine AnsOk.two ttok Try.func33 rfl rfl (Nat.zero_le _) (Nat.zero_le _) (allFr_tup2 .own .b) (allFr_tup2 .v .b) .list .nil fun hF => ⟨[listF false n (rdF g)], ⟨.asLg hL hF, trivial⟩, ?_⟩
  have hn := hF.1
  generalize rdF g = x
  refine AW.exec ttok ctSpecCurve_ok (by cbv) ?_
  simp only [natCast_int, Post, All, thenA, canon0, canon064, and_true, true_and, forall_const, implies_true, decide_eq_true_eq, decide_eq_false_iff_not, Bool.not_eq_true', Bool.not_eq_false', Bool.true_and, Bool.and_true, beq_true, beq_false, Int.toNat_natCast, Int.ofNat_lt, Int.ofNat_le, Nat.zero_add, Nat.add_zero, imp_self, Bool.cond_false_right, Bool.cond_true_left, Bool.cond_true_right, IsF, rdF_eq, fOf, AV.f.injEq, exists_eq', free_list, free_fn0, List.not_mem_nil, List.mem_cons, false_imp, forall_eq, or_false, free_i, free_f, free_b, ren_f, ren_i, ren_b, and_self, bne_iff_ne, bne_eq_false_iff_eq, ne_eq, Int.natCast_inj, or_true, true_or, freeB_list, unfr_f, unfr_i, unfr_b, unfr_c, unfr_s, free_c, free_s, ren_c, ren_s, Bool.false_eq_true, Bool.true_eq_false, eqL_self, heldL_mark, heldL_zero, one_neg, Nat.zero_le, Nat.not_lt_zero, one_add_len, one_le_tb, zero_le_one', not_false_eq_true, true_imp_iff, bne_self_eq_false, Bool.or_false, Bool.false_or, Bool.not_true, Bool.not_false, Bool.true_eq_false, Bool.false_eq_true, false_imp, Nat.le_refl, decide_true, decide_false, not_true_eq_false, Int.lt_irrefl, hn]
  (repeat' first | with_reducible apply And.intro | with_reducible intro hh) <;> first | ((first | with_reducible show (_ : Int) ≤ _ | with_reducible show (_ : Int) < _ | with_reducible show (_ : Nat) ≤ _ | with_reducible show (_ : Nat) < _ | with_reducible show (_ : Int) = _ | with_reducible show (_ : Nat) = _ | with_reducible show ¬ _ | with_reducible show _ ≠ _) <;> first | omega | (simp only [Bool.and_eq_true, Bool.or_eq_false_iff, Bool.not_eq_false', Bool.not_eq_true', decide_eq_true_eq, decide_eq_false_iff_not] at *; omega) | (with_reducible assumption)) | (with_reducible assumption) | skip
  · exact okA.no (by simp_all [okCurve]) (fin_ret (.inl rfl) (by cbv) (by simp) (To.fresh noL_to))
  have h1 : isList (n .u) x = true := by assumption
  have h8 := isList_le h1
  refine AW.loopH (ι := Nat) (fun i => i ≤ n .u) (fun i => n .u - i) (fun i => mkE Try.f33.ntmps [(0, listF false n x), (4, .own 0 (fun _ => 0) (fun _ => 5) 1), (5, .own 1 (fun _ => 0) (fun _ => i) 1), (15, .i .i64 fun _ => (n .u : Int)), (16, .i .i64 fun _ => (i : Int))])
    (fun i => [blkW, blkF true (fun _ => i) (curveX (n .u) x)]) 0 (Nat.zero_le _) (To.same (Nat.zero_le _) ⟨⟨fun e => e, .tab (Nat.le_refl _) fun j c hj hc => ?_⟩, ⟨fun e => e, .tab (Nat.le_refl _) fun j c hj hc => absurd hj (Nat.not_lt_zero _)⟩, trivial⟩ ?_) ?_
  · obtain rfl : c = 0 := by omega
    replace hj : j < 5 := hj
    obtain rfl | rfl | rfl | rfl | rfl : j = 0 ∨ j = 1 ∨ j = 2 ∨ j = 3 ∨ j = 4 := by omega
    all_goals exact AvTo.f rfl
  · (repeat' first | exact AllTo.nil | apply AllTo.cons) <;> first | exact AvTo.dead _ | exact AvTo.i rfl | exact AvTo.i (by first | omega | (simp only [natCast_int]; omega)) | exact AvTo.f rfl | exact AvTo.b rfl | exact AvTo.v _ | exact AvTo.own rfl rfl rfl rfl | exact AvTo.own rfl rfl (by first | rfl | omega) (by first | rfl | omega) | exact Free.same .listF | exact Free.same (.fn (by simp) (by simp)) | skip
  · rintro Q' hQ q hq
    refine AW.exec ttok ctSpecCurve_ok (by cbv) ?_
    simp only [natCast_int, Post, All, thenA, canon0, canon064, and_true, true_and, forall_const, implies_true, decide_eq_true_eq, decide_eq_false_iff_not, Bool.not_eq_true', Bool.not_eq_false', Bool.true_and, Bool.and_true, beq_true, beq_false, Int.toNat_natCast, Int.ofNat_lt, Int.ofNat_le, Nat.zero_add, Nat.add_zero, imp_self, Bool.cond_false_right, Bool.cond_true_left, Bool.cond_true_right, IsF, rdF_eq, fOf, AV.f.injEq, exists_eq', free_list, free_fn0, List.not_mem_nil, List.mem_cons, false_imp, forall_eq, or_false, free_i, free_f, free_b, ren_f, ren_i, ren_b, and_self, bne_iff_ne, bne_eq_false_iff_eq, ne_eq, Int.natCast_inj, or_true, true_or, freeB_list, unfr_f, unfr_i, unfr_b, unfr_c, unfr_s, free_c, free_s, ren_c, ren_s, Bool.false_eq_true, Bool.true_eq_false]
    (repeat' first | with_reducible apply And.intro | with_reducible intro hh) <;> first | ((first | with_reducible show (_ : Int) ≤ _ | with_reducible show (_ : Int) < _ | with_reducible show (_ : Nat) ≤ _ | with_reducible show (_ : Nat) < _ | with_reducible show (_ : Int) = _ | with_reducible show (_ : Nat) = _ | with_reducible show ¬ _ | with_reducible show _ ≠ _) <;> first | omega | (simp only [Bool.and_eq_true, Bool.or_eq_false_iff, Bool.not_eq_false', Bool.not_eq_true', decide_eq_true_eq, decide_eq_false_iff_not] at *; omega) | (with_reducible assumption)) | (with_reducible assumption) | skip
    · have h2 := ‹(_ || _) = true›
      refine ⟨q + 1, by omega, by omega, To.pick [0, 3] (by decide) (Nat.zero_le _) (fun j hj => absurd hj (Nat.not_lt_zero _)) ⟨.list (fun e => e) (Nat.le_refl _) fun j hj => AvTo.f rfl, .list (fun e => e) (Nat.le_refl _) fun j hj => app_one hj (fun _ => AvTo.f rfl) fun e => AvTo.f ?_, trivial⟩ ?_⟩
      · simp only [Bool.or_eq_true, decide_eq_true_eq] at h2
        have e1 : (decide (q < 2) || decide (n .u ≤ q + 2)) = true := by simp only [Bool.or_eq_true, decide_eq_true_eq]; omega
        simp only [e, curveX, e1, cond_true]
      · (repeat' first | exact AllTo.nil | apply AllTo.cons) <;> first | exact AvTo.dead _ | exact AvTo.i rfl | exact AvTo.i (by first | omega | (simp only [natCast_int]; omega)) | exact AvTo.f rfl | exact AvTo.b rfl | exact AvTo.v _ | exact AvTo.own rfl rfl rfl rfl | exact AvTo.own rfl rfl (by first | rfl | omega) (by first | rfl | omega) | exact Free.same .listF | exact Free.same (.fn (by simp) (by simp)) | skip
    · have h2 := ‹(_ || _) = false›
      simp only [Bool.or_eq_false_iff, decide_eq_false_iff_not] at h2
      refine AW.loopH (ι := Nat) (fun k => k ≤ 5) (fun k => 5 - k) (fun k => mkE Try.f33.ntmps [(0, listF false n x), (4, .own 0 (fun _ => 0) (fun _ => 5) 1), (5, .own 1 (fun _ => 0) (fun _ => q) 1), (6, .i .i64 fun _ => (q : Int)), (7, .f .f32 fun _ => dotN w5 (fun j => x (q - 2 + j)) k), (15, .i .i64 fun _ => (n .u : Int)), (16, .i .i64 fun _ => (q : Int)), (36, .i .i64 fun _ => 5), (37, .i .i64 fun _ => (k : Int))])
        (fun _ => [blkW, blkF true (fun _ => q) (curveX (n .u) x)]) 0 (Nat.zero_le _) (To.same (Nat.zero_le _) ⟨.list (fun e => e) (Nat.le_refl _) fun j hj => AvTo.f rfl, .list (fun e => e) (Nat.le_refl _) fun j hj => AvTo.f rfl, trivial⟩ ?_) ?_
      · (repeat' first | exact AllTo.nil | apply AllTo.cons) <;> first | exact AvTo.dead _ | exact AvTo.i rfl | exact AvTo.i (by first | omega | (simp only [natCast_int]; omega)) | exact AvTo.f rfl | exact AvTo.b rfl | exact AvTo.v _ | exact AvTo.own rfl rfl rfl rfl | exact AvTo.own rfl rfl (by first | rfl | omega) (by first | rfl | omega) | exact Free.same .listF | exact Free.same (.fn (by simp) (by simp)) | skip
      · rintro Q2 hQ2 k hk
        refine AW.exec ttok ctSpecCurve_ok (by cbv) ?_
        simp only [natCast_int, Post, All, thenA, canon0, canon064, and_true, true_and, forall_const, implies_true, decide_eq_true_eq, decide_eq_false_iff_not, Bool.not_eq_true', Bool.not_eq_false', Bool.true_and, Bool.and_true, beq_true, beq_false, Int.toNat_natCast, Int.ofNat_lt, Int.ofNat_le, Nat.zero_add, Nat.add_zero, imp_self, Bool.cond_false_right, Bool.cond_true_left, Bool.cond_true_right, IsF, rdF_eq, fOf, AV.f.injEq, exists_eq', free_list, free_fn0, List.not_mem_nil, List.mem_cons, false_imp, forall_eq, or_false, free_i, free_f, free_b, ren_f, ren_i, ren_b, and_self, bne_iff_ne, bne_eq_false_iff_eq, ne_eq, Int.natCast_inj, or_true, true_or, freeB_list, unfr_f, unfr_i, unfr_b, unfr_c, unfr_s, free_c, free_s, ren_c, ren_s, Bool.false_eq_true, Bool.true_eq_false]
        (repeat' first | with_reducible apply And.intro | with_reducible intro hh) <;> first | ((first | with_reducible show (_ : Int) ≤ _ | with_reducible show (_ : Int) < _ | with_reducible show (_ : Nat) ≤ _ | with_reducible show (_ : Nat) < _ | with_reducible show (_ : Int) = _ | with_reducible show (_ : Nat) = _ | with_reducible show ¬ _ | with_reducible show _ ≠ _) <;> first | omega | (simp only [Bool.and_eq_true, Bool.or_eq_false_iff, Bool.not_eq_false', Bool.not_eq_true', decide_eq_true_eq, decide_eq_false_iff_not] at *; omega) | (with_reducible assumption)) | (with_reducible assumption) | skip
        · refine ⟨k + 1, by omega, by omega, To.same (Nat.zero_le _) ⟨.list (fun e => e) (Nat.le_refl _) fun j hj => AvTo.f rfl, .list (fun e => e) (Nat.le_refl _) fun j hj => AvTo.f rfl, trivial⟩ ?_⟩
          (repeat' first | exact AllTo.nil | apply AllTo.cons) <;> first | exact AvTo.dead _ | exact AvTo.i rfl | exact AvTo.i (by first | omega | (simp only [natCast_int]; omega)) | exact AvTo.f rfl | exact AvTo.b rfl | exact AvTo.v _ | exact AvTo.own rfl rfl rfl rfl | exact AvTo.own rfl rfl (by first | rfl | omega) (by first | rfl | omega) | exact Free.same .listF | exact Free.same (.fn (by simp) (by simp)) | skip
          exact AvTo.f (by simp only [dotN]; rw [show ((q : Int) - 2 + (k : Int)).toNat = q - 2 + k by omega])
        · obtain ⟨rfl⟩ := hQ2
          refine Post.eval (by cbv) ?_
          have e : k = 5 := by omega
          simp only [natCast_int, Post, All, thenA, canon0, canon064, and_true, true_and, forall_const, implies_true, decide_eq_true_eq, decide_eq_false_iff_not, Bool.not_eq_true', Bool.not_eq_false', Bool.true_and, Bool.and_true, beq_true, beq_false, Int.toNat_natCast, Int.ofNat_lt, Int.ofNat_le, Nat.zero_add, Nat.add_zero, imp_self, Bool.cond_false_right, Bool.cond_true_left, Bool.cond_true_right, IsF, rdF_eq, fOf, AV.f.injEq, exists_eq', free_list, free_fn0, List.not_mem_nil, List.mem_cons, false_imp, forall_eq, or_false, free_i, free_f, free_b, ren_f, ren_i, ren_b, and_self, bne_iff_ne, bne_eq_false_iff_eq, ne_eq, Int.natCast_inj, or_true, true_or, freeB_list, unfr_f, unfr_i, unfr_b, unfr_c, unfr_s, free_c, free_s, ren_c, ren_s, Bool.false_eq_true, Bool.true_eq_false, e]
          (repeat' first | with_reducible apply And.intro | with_reducible intro hh) <;> first | ((first | with_reducible show (_ : Int) ≤ _ | with_reducible show (_ : Int) < _ | with_reducible show (_ : Nat) ≤ _ | with_reducible show (_ : Nat) < _ | with_reducible show (_ : Int) = _ | with_reducible show (_ : Nat) = _ | with_reducible show ¬ _ | with_reducible show _ ≠ _) <;> first | omega | (simp only [Bool.and_eq_true, Bool.or_eq_false_iff, Bool.not_eq_false', Bool.not_eq_true', decide_eq_true_eq, decide_eq_false_iff_not] at *; omega) | (with_reducible assumption)) | (with_reducible assumption) | skip
          refine ⟨q + 1, by omega, by omega, To.pick [0, 3] (by decide) (Nat.zero_le _) (fun j hj => absurd hj (Nat.not_lt_zero _)) ⟨.list (fun e => e) (Nat.le_refl _) fun j hj => AvTo.f rfl, .list (fun e => e) (Nat.le_refl _) fun j hj => app_one hj (fun _ => AvTo.f rfl) fun e => AvTo.f ?_, trivial⟩ ?_⟩
          · have e1 : (decide (q < 2) || decide (n .u ≤ q + 2)) = false := by simp only [Bool.or_eq_false_iff, decide_eq_false_iff_not]; omega
            simp only [e, curveX, e1, cond_false]
            rfl
          · (repeat' first | exact AllTo.nil | apply AllTo.cons) <;> first | exact AvTo.dead _ | exact AvTo.i rfl | exact AvTo.i (by first | omega | (simp only [natCast_int]; omega)) | exact AvTo.f rfl | exact AvTo.b rfl | exact AvTo.v _ | exact AvTo.own rfl rfl rfl rfl | exact AvTo.own rfl rfl (by first | rfl | omega) (by first | rfl | omega) | exact Free.same .listF | exact Free.same (.fn (by simp) (by simp)) | skip
    · obtain ⟨rfl⟩ := hQ
      refine Post.eval (by cbv) ?_
      have e : q = n .u := by omega
      simp only [natCast_int, Post, All, thenA, canon0, canon064, and_true, true_and, forall_const, implies_true, decide_eq_true_eq, decide_eq_false_iff_not, Bool.not_eq_true', Bool.not_eq_false', Bool.true_and, Bool.and_true, beq_true, beq_false, Int.toNat_natCast, Int.ofNat_lt, Int.ofNat_le, Nat.zero_add, Nat.add_zero, imp_self, Bool.cond_false_right, Bool.cond_true_left, Bool.cond_true_right, IsF, rdF_eq, fOf, AV.f.injEq, exists_eq', free_list, free_fn0, List.not_mem_nil, List.mem_cons, false_imp, forall_eq, or_false, free_i, free_f, free_b, ren_f, ren_i, ren_b, and_self, bne_iff_ne, bne_eq_false_iff_eq, ne_eq, Int.natCast_inj, or_true, true_or, freeB_list, unfr_f, unfr_i, unfr_b, unfr_c, unfr_s, free_c, free_s, ren_c, ren_s, Bool.false_eq_true, Bool.true_eq_false, hn, e]
      (repeat' first | with_reducible apply And.intro | with_reducible intro hh) <;> first | ((first | with_reducible show (_ : Int) ≤ _ | with_reducible show (_ : Int) < _ | with_reducible show (_ : Nat) ≤ _ | with_reducible show (_ : Nat) < _ | with_reducible show (_ : Int) = _ | with_reducible show (_ : Nat) = _ | with_reducible show ¬ _ | with_reducible show _ ≠ _) <;> first | omega | (simp only [Bool.and_eq_true, Bool.or_eq_false_iff, Bool.not_eq_false', Bool.not_eq_true', decide_eq_true_eq, decide_eq_false_iff_not] at *; omega) | (with_reducible assumption)) | (with_reducible assumption) | skip
      · refine okA.yes (by simp_all [okCurve]) (fin_ret (.inl rfl) (by cbv) (by simp) (To.moved (k := 1) rfl (Nat.le_refl _) (fun e => e) (fun j hj => AvTo.f rfl) ?_))
        exact .cons (.tup (.cons (.own rfl rfl rfl rfl) (.cons (.b rfl) .nil))) .nil
      · exact okA.no (by simp_all [okCurve]) (fin_ret (.inl rfl) (by cbv) (by simp) (To.fresh noL_to))
def ctL_SmoothCurve (w : Bool) : CT := [(14, .r kTo), (16, .r kEq), (17, .m kMark kMarkNil), (18, .r kHeld), (33, .g 0 (pickK w kCurve)), (34, .g 0 (pickK w kCurve))]
theorem ctL_SmoothCurve_ok (w : Bool) : CTok Try.prog (ctL_SmoothCurve w) := .cons to_tells (.cons eq_tells (.cons mark_tells (.cons held_tells (.cons (pick_tells w specCurve) (.cons (pick_tells w implCurve) (.nil _))))))
theorem law_SmoothCurve (n : Nat) (x : Nat → Nat) (hn : n ≤ 9223372036854775807) : Con Try.prog 8 [listF false (fun _ => n) x] [] (.b fun _ => true) [] := by
  cases hok : okCurve n x with
  | true =>
    refine Con.of ttok Try.func8 rfl rfl (Nat.le_refl _) (AW.exec ttok (ctL_SmoothCurve_ok true) (by cbv) ?_)
    by_cases hb : (1048576 : Int) < (n : Int)
    · simp only [natCast_int, Post, All, thenA, canon0, canon064, and_true, true_and, forall_const, implies_true, decide_eq_true_eq, decide_eq_false_iff_not, Bool.not_eq_true', Bool.not_eq_false', Bool.true_and, Bool.and_true, beq_true, beq_false, Int.toNat_natCast, Int.ofNat_lt, Int.ofNat_le, Nat.zero_add, Nat.add_zero, imp_self, Bool.cond_false_right, Bool.cond_true_left, Bool.cond_true_right, IsF, rdF_eq, fOf, AV.f.injEq, exists_eq', free_list, free_fn0, List.not_mem_nil, List.mem_cons, false_imp, forall_eq, or_false, free_i, free_f, free_b, ren_f, ren_i, ren_b, and_self, bne_iff_ne, bne_eq_false_iff_eq, ne_eq, Int.natCast_inj, or_true, true_or, freeB_list, unfr_f, unfr_i, unfr_b, unfr_c, unfr_s, free_c, free_s, ren_c, ren_s, Bool.false_eq_true, Bool.true_eq_false, eqL_self, heldL_mark, heldL_zero, one_neg, Nat.zero_le, Nat.not_lt_zero, one_add_len, one_le_tb, zero_le_one', not_false_eq_true, true_imp_iff, bne_self_eq_false, Bool.or_false, Bool.false_or, Bool.not_true, Bool.not_false, Bool.true_eq_false, Bool.false_eq_true, false_imp, Nat.le_refl, decide_true, decide_false, not_true_eq_false, Int.lt_irrefl, hb]
      exact fin_ret (.inl rfl) (by cbv) (by simp) (To.fresh (.cons (.b rfl) .nil))
    · have hb' : n ≤ 1048576 := by omega
      simp only [natCast_int, Post, All, thenA, canon0, canon064, and_true, true_and, forall_const, implies_true, decide_eq_true_eq, decide_eq_false_iff_not, Bool.not_eq_true', Bool.not_eq_false', Bool.true_and, Bool.and_true, beq_true, beq_false, Int.toNat_natCast, Int.ofNat_lt, Int.ofNat_le, Nat.zero_add, Nat.add_zero, imp_self, Bool.cond_false_right, Bool.cond_true_left, Bool.cond_true_right, IsF, rdF_eq, fOf, AV.f.injEq, exists_eq', free_list, free_fn0, List.not_mem_nil, List.mem_cons, false_imp, forall_eq, or_false, free_i, free_f, free_b, ren_f, ren_i, ren_b, and_self, bne_iff_ne, bne_eq_false_iff_eq, ne_eq, Int.natCast_inj, or_true, true_or, freeB_list, unfr_f, unfr_i, unfr_b, unfr_c, unfr_s, free_c, free_s, ren_c, ren_s, Bool.false_eq_true, Bool.true_eq_false, eqL_self, heldL_mark, heldL_zero, one_neg, Nat.zero_le, Nat.not_lt_zero, one_add_len, one_le_tb, zero_le_one', not_false_eq_true, true_imp_iff, bne_self_eq_false, Bool.or_false, Bool.false_or, Bool.not_true, Bool.not_false, Bool.true_eq_false, Bool.false_eq_true, false_imp, Nat.le_refl, decide_true, decide_false, not_true_eq_false, Int.lt_irrefl, hb, hb', hn, hok]
      exact fin_ret (.inl rfl) (by cbv) (by simp) (To.fresh (.cons (.b rfl) .nil))
  | false =>
    refine Con.of ttok Try.func8 rfl rfl (Nat.le_refl _) (AW.exec ttok (ctL_SmoothCurve_ok false) (by cbv) ?_)
    by_cases hb : (1048576 : Int) < (n : Int)
    · simp only [natCast_int, Post, All, thenA, canon0, canon064, and_true, true_and, forall_const, implies_true, decide_eq_true_eq, decide_eq_false_iff_not, Bool.not_eq_true', Bool.not_eq_false', Bool.true_and, Bool.and_true, beq_true, beq_false, Int.toNat_natCast, Int.ofNat_lt, Int.ofNat_le, Nat.zero_add, Nat.add_zero, imp_self, Bool.cond_false_right, Bool.cond_true_left, Bool.cond_true_right, IsF, rdF_eq, fOf, AV.f.injEq, exists_eq', free_list, free_fn0, List.not_mem_nil, List.mem_cons, false_imp, forall_eq, or_false, free_i, free_f, free_b, ren_f, ren_i, ren_b, and_self, bne_iff_ne, bne_eq_false_iff_eq, ne_eq, Int.natCast_inj, or_true, true_or, freeB_list, unfr_f, unfr_i, unfr_b, unfr_c, unfr_s, free_c, free_s, ren_c, ren_s, Bool.false_eq_true, Bool.true_eq_false, eqL_self, heldL_mark, heldL_zero, one_neg, Nat.zero_le, Nat.not_lt_zero, one_add_len, one_le_tb, zero_le_one', not_false_eq_true, true_imp_iff, bne_self_eq_false, Bool.or_false, Bool.false_or, Bool.not_true, Bool.not_false, Bool.true_eq_false, Bool.false_eq_true, false_imp, Nat.le_refl, decide_true, decide_false, not_true_eq_false, Int.lt_irrefl, hb]
      exact fin_ret (.inl rfl) (by cbv) (by simp) (To.fresh (.cons (.b rfl) .nil))
    · have hb' : n ≤ 1048576 := by omega
      simp only [natCast_int, Post, All, thenA, canon0, canon064, and_true, true_and, forall_const, implies_true, decide_eq_true_eq, decide_eq_false_iff_not, Bool.not_eq_true', Bool.not_eq_false', Bool.true_and, Bool.and_true, beq_true, beq_false, Int.toNat_natCast, Int.ofNat_lt, Int.ofNat_le, Nat.zero_add, Nat.add_zero, imp_self, Bool.cond_false_right, Bool.cond_true_left, Bool.cond_true_right, IsF, rdF_eq, fOf, AV.f.injEq, exists_eq', free_list, free_fn0, List.not_mem_nil, List.mem_cons, false_imp, forall_eq, or_false, free_i, free_f, free_b, ren_f, ren_i, ren_b, and_self, bne_iff_ne, bne_eq_false_iff_eq, ne_eq, Int.natCast_inj, or_true, true_or, freeB_list, unfr_f, unfr_i, unfr_b, unfr_c, unfr_s, free_c, free_s, ren_c, ren_s, Bool.false_eq_true, Bool.true_eq_false, eqL_self, heldL_mark, heldL_zero, one_neg, Nat.zero_le, Nat.not_lt_zero, one_add_len, one_le_tb, zero_le_one', not_false_eq_true, true_imp_iff, bne_self_eq_false, Bool.or_false, Bool.false_or, Bool.not_true, Bool.not_false, Bool.true_eq_false, Bool.false_eq_true, false_imp, Nat.le_refl, decide_true, decide_false, not_true_eq_false, Int.lt_irrefl, hb, hb', hn, hok]
      exact fin_ret (.inl rfl) (by cbv) (by simp) (To.fresh (.cons (.b rfl) .nil))
open Go.ChangeShapes in
theorem lifted_SmoothCurve (os : Os) (started : os.Started) (H : Type) (enc : TypeId × Value → H) :
    ReturnsInHanded {} Try.checked os 8 .any (Rows.fnExactSmoothCurveSpec.pre6 enc Try.prog Try.f8 Rows.fnExactSmoothCurveRow.domain false) (Rows.fnExactSmoothCurveSpec.post enc Try.prog Try.f8 Rows.fnExactSmoothCurveRow.apart Rows.fnExactSmoothCurveRow.fresh Rows.fnExactSmoothCurveRow.handsOn Rows.fnExactSmoothCurveRow.again) := by
  refine lifted (C := Try.checked) Try.own started (by kernel_rfl) Try.func8
    (ChangeSpec.witness6 (enc := enc) (C := Try.checked) false ⟨#[], #[.slice none 0 0], []⟩ 8 (by kernel_rfl) (by kernel_rfl) (by kernel_rfl) (by kernel_rfl))
    Try.laidOut Try.mapsOut Try.full (of_decide_eq_true (by kernel_rfl)) (tb := 4) (by kernel_rfl) u4 rfl (fun ds h => ?_) (fun W base args ds ps hval hA => ?_)
  · match ds, h with
    | [d1], _ => exact ⟨rfl, rfl, rfl⟩
  · have hpar : Try.f8.params = #[22] := by kernel_rfl
    rw [hpar] at hA hval
    obtain ⟨v, d, rfl, rfl, h1⟩ := trodAll_one hA
    obtain ⟨n, x, hn, s1⟩ := read_floats u22 u36 c36 (hval 0 _ v rfl rfl) h1
    refine ⟨[listF false (fun _ => n) x], rfl, fun j a u ha hu => ?_, law_SmoothCurve n x hn⟩
    match j, ha, hu with
    | 0, ha, hu => cases ha; cases hu; exact s1
theorem SmoothCurve_said : Rows.FnExactSmoothCurveSaid :=
  OpenClaim.holds_of_wide 8 Try.f8 rfl rfl rfl rfl rfl rfl rfl ⟨rfl, rfl, rfl, rfl, rfl⟩ rfl rfl rfl rfl rfl (by kernel_rfl) Try.func8 (by kernel_rfl)
    (of_decide_eq_true (by kernel_rfl)) (by unfold Func.isWrapper; rw [if_neg (of_decide_eq_false (by kernel_rfl))]; exact ⟨rfl, rfl⟩)
    (fun os started H enc _ => lifted_SmoothCurve os started H enc)
end Go.Proofs.Ytdeibnannibbeaa
