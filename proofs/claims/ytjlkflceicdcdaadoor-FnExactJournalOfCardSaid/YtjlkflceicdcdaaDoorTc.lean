/- JournalOf of the reference, walked. -/
import Derived.Test.YtjlkflceicdcdaaDoorTb
set_option linter.unusedSimpArgs false
set_option linter.unusedVariables false
namespace Go.Proofs.YtjlkflceicdcdaaDoor
open Go.Aw
open Go.RowKit
open Go.Lib (indexByte countByte extract_eq size_eq decDigits itoa)
theorem allJ_true {x : Nat → ByteArray} : ∀ {n : Nat}, (∀ k, k < n → ¬ 0 ≤ indexByte (x k).data.toList 10) → (accJ x n).1.length ≤ 16000 → allJ x n = true
  | 0, _, _ => rfl
  | n + 1, h, hl => by
    unfold allJ goodJ
    have := allJ_true (n := n) (fun k hk => h k (by omega)) (Nat.le_trans (accJ_mono x (Nat.le_succ n)) hl)
    rw [this, decide_eq_false (h n (by omega)), decide_eq_true hl]
    rfl
theorem allJ_long {x : Nat → ByteArray} {n : Nat} (h : 16000 < (accJ x n).1.length) : allJ x n = false := by
  cases n with
  | zero => simp [accJ] at h
  | succ n =>
    unfold allJ goodJ
    rw [decide_eq_false (by omega : ¬ (accJ x (n + 1)).1.length ≤ 16000), Bool.and_false, Bool.and_false]
theorem allJ_long' {x : Nat → ByteArray} {n i : Nat} (hi : i < n) (h : 16000 < sumT x (i + 1) + 3 * (i + 1)) : allJ x n = false := by
  refine allJ_long ?_
  have h1 := (accJ_len x (i + 1)).1
  have h2 := accJ_mono x (show i + 1 ≤ n by omega)
  omega
theorem nl_at {l : List UInt8} {k : Nat} {c : UInt8} (h : l[k]? = some c) : 0 ≤ indexByte l c := by
  by_cases h' : indexByte l c < 0
  · exact absurd (List.mem_of_getElem? h) (index_none h')
  · omega
theorem nl_none {l : List UInt8} {c : UInt8} (h : ∀ k, k < l.length → l[k]? ≠ some c) : indexByte l c < 0 := by
  by_cases h' : indexByte l c < 0
  · exact h'
  · exfalso
    obtain ⟨h1, h2, _⟩ := index_some (show 0 ≤ indexByte l c by omega)
    generalize (indexByte l c).toNat = m at h1 h2
    refine h _ h1 ?_
    rw [h2, List.getElem?_append_right (by simp; omega)]
    have : m - (l.take m).length = 0 := by simp; omega
    rw [this]
    rfl
set_option maxHeartbeats 2000000 in
set_option maxRecDepth 100000 in
theorem specJournal_walk (x : Nat → ByteArray) (n : Nat) (a : Option Addr) (bk o cap : Nat) (w : World) (hl : LoreX w) (ha : 0 < n → a = some ⟨bk, o, none⟩ ∧ bk < w.heap.size ∧ n ≤ cap) (hn : n ≤ 1048576)
    (hcell : ∀ i, i < n → w.cell? ⟨bk, o + i, none⟩ = some (.string (x i))) (hx : ∀ i, i < n → (x i).size ≤ 1073741824) :
    Calls Tryd.prog 12 #[.slice a n cap] w fun e w' => e = .returned (outJ x n) ∧ Below w.heap.size w w' := by
  have HC := Lib.hid hcell
  have HX := Lib.hid hx
  have HA := Lib.hid ha
  have HL := Lib.hid hl
  clear hcell hx ha hl
  go_enter Tryd.func12, Tryd.ntmps12
  go_wp2
  go_loop [4, 5] (fun s4 s5 => ∃ i : Nat, i ≤ n ∧ s4 = .int .i64 ((sumT x i + 3 * i : Nat) : Int) ∧ s5 = .int .i64 i ∧ sumT x i + 3 * i ≤ 16000 ∧ Hid (∀ k, k < i → indexByte (x k).data.toList 10 < 0)) (fun _ s5 => n - (intOf s5).toNat)
  case atStart => exact ⟨0, Nat.zero_le _, rfl, rfl, by simp [sumT], Lib.hid fun k hk => absurd hk (Nat.not_lt_zero _)⟩
  case round =>
    obtain ⟨i, hi, rfl, rfl, htot, HN⟩ := hrel
    by_cases hlt : i < n
    · have hlt' : (i : Int) < (n : Int) := by omega
      obtain ⟨rfl, hbk, _⟩ := HA.out (by omega)
      have hck : w.cell? ⟨bk, o + i, none⟩ = some (.string (x i)) := HC.out i hlt
      have hxi := HX.out i hlt
      obtain ⟨T, hT⟩ : ∃ T, sumT x i + 3 * i = T := ⟨_, rfl⟩
      have hT1 : sumT x (i + 1) + 3 * (i + 1) = T + ((x i).size + 3) := by rw [← hT, show sumT x (i + 1) = sumT x i + (x i).size from rfl]; omega
      rw [hT] at htot
      rw [hT]
      have HT := Lib.hid hT
      have HT1 := Lib.hid hT1
      clear hT hT1
      by_cases hbig : T + ((x i).size + 3) ≤ 16000
      · have hbig' : ¬ (16000 : Int) < (T : Int) + (((x i).size : Int) + 3) := by omega
        obtain ⟨X, hX⟩ : ∃ X, x i = X := ⟨_, rfl⟩
        rw [hX] at hck hxi hbig hbig'
        have HXX := Lib.hid hX
        clear hX
        go_wp2
        go_loop [6] (fun s6 => ∃ k : Nat, k ≤ X.size ∧ s6 = .int .i64 k ∧ Hid (∀ j, j < k → X.data.toList[j]? ≠ some 10)) (fun s6 => X.size - (intOf s6).toNat)
        case atStart => exact ⟨0, Nat.zero_le _, rfl, Lib.hid fun k hk => absurd hk (Nat.not_lt_zero _)⟩
        case round =>
          obtain ⟨k, hk, rfl, HK⟩ := hrel
          by_cases hkx : k < X.size
          · have hb : X.data.toList[k]? = some (X[k]'hkx) := by
              rw [Array.getElem?_toList]
              exact Array.getElem?_eq_getElem hkx
            by_cases h10 : X[k]'hkx = 10
            · have hout : outJ x n = .tuple #[.string ⟨#[]⟩, .bool false] := by
                unfold outJ
                rw [allJ_bad hlt (by unfold goodJ; rw [HXX.out, decide_eq_true (nl_at (by rw [hb, h10]))]; rfl)]
                rfl
              have HO := Lib.hid hout
              have h10' : ((X[k]'hkx).toNat : Int) = 10 := by rw [h10]; rfl
              clear hout h10 hb
              go_wp2
              go_ret2
              exact ⟨by rw [HO.out]; rfl, Below.refl _ _⟩
            · have HB := Lib.hid hb
              have h10' : ¬ ((X[k]'hkx).toNat : Int) = 10 := fun e => h10 (UInt8.toNat_inj.1 (by show _ = 10; omega))
              have H10 := Lib.hid h10
              clear hb h10
              go_wp2
              go_round
              case rel =>
                refine ⟨k + 1, by omega, by go_num, fun j hj => ?_⟩
                by_cases e : j = k
                · subst e
                  rw [HB.out]
                  exact fun h => H10.out (Option.some.inj h)
                · exact HK.out j (by omega)
              case measure => simp [intOf]; omega
          · obtain rfl : k = X.size := by omega
            go_wp2
            go_round
            case rel =>
              refine ⟨i + 1, by omega, ?_, by go_num, by have := HT1.out; rw [HXX.out] at this; omega, fun j hj => ?_⟩
              · have := HT1.out
                rw [HXX.out] at this
                rw [this]
                rfl
              · by_cases e : j = i
                · subst e
                  rw [HXX.out]
                  exact nl_none fun q hq => HK.out q (by rw [size_eq]; exact hq)
                · exact HN.out j (by omega)
            case measure => simp [intOf]; omega
      · have hbig' : (16000 : Int) < (T : Int) + (((x i).size : Int) + 3) := by omega
        have hout : outJ x n = .tuple #[.string ⟨#[]⟩, .bool false] := by unfold outJ; rw [allJ_long' hlt (by have := HT1.out; omega)]; rfl
        have HO := Lib.hid hout
        clear hout
        go_wp2
        go_ret2
        exact ⟨by rw [HO.out]; rfl, Below.refl _ _⟩
    · have hlt' : ¬ (i : Int) < (n : Int) := by omega
      obtain rfl : i = n := by omega
      obtain ⟨hL0, hL1⟩ := accJ_len x i
      have cJ := jrn_calls x i a bk o cap w HL.out HA.out hn (by omega) HC.out
      obtain ⟨Z, hZ⟩ : ∃ Z, toB (accJ x i).1 = Z := ⟨_, rfl⟩
      have hsz : Z.size = (accJ x i).1.length := by rw [← hZ, size_toB]
      rw [hZ] at cJ
      have HZ := Lib.hid hZ
      have HS := Lib.hid hsz
      clear hZ hsz hL0 hL1
      by_cases hlong : Z.size ≤ 16000
      · have hout : outJ x i = .tuple #[.string Z, .bool true] := by
          unfold outJ
          rw [allJ_true (fun k hk => by have := HN.out k hk; omega) (by rw [← HS.out]; exact hlong), HZ.out]
          rfl
        have HO := Lib.hid hout
        have hlong' : ¬ (16000 : Int) < (Z.size : Int) := by omega
        clear hout
        go_wp2_with (go_at_call 33; refine cJ.mono ?_; rintro e W1 ⟨rfl, b1⟩)
        go_ret2
        exact ⟨by rw [HO.out]; rfl, b1⟩
      · have hout : outJ x i = .tuple #[.string ⟨#[]⟩, .bool false] := by
          unfold outJ
          rw [allJ_long (by rw [← HS.out]; omega)]
          rfl
        have HO := Lib.hid hout
        have hlong' : (16000 : Int) < (Z.size : Int) := by omega
        clear hout
        go_wp2_with (go_at_call 33; refine cJ.mono ?_; rintro e W1 ⟨rfl, b1⟩)
        go_ret2
        exact ⟨by rw [HO.out]; rfl, b1⟩
theorem specJournal : Tells Tryd.prog 12 (.r kJrn) := tells_lines ⟨_, Tryd.func12, by kernel_rfl, rfl⟩ specJournal_walk
end Go.Proofs.YtjlkflceicdcdaaDoor
