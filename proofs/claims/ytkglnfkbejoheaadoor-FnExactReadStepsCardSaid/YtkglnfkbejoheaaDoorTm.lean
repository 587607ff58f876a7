/- Texts of hexadecimal digits read: the library's ParseUint at base 16 and 32 bits, walked. -/
/- The library's ParseUint: its errors are not nil. -/
/- Texts of eight hexadecimal digits: what reading makes of them. -/
/- readHex, walked; numbers read on the program's side. -/
import Derived.Test.YtkglnfkbejoheaaDoorTd
import Derived.Shelf.Strconv.ParseUint10b32
import Derived.Lib.AtoiErrMem
import Derived.Test.YtkglnfkbejoheaaDoorAwH
import Derived.Shelf.Strconv.ToError
import Derived.Shelf.Strconv.ToErrorRange
import Derived.Test.YtkglnfkbejoheaaDoorTe
import Derived.Test.YtkglnfkbejoheaaDoorTa
import Derived.Laws.Externs
set_option linter.unusedSimpArgs false
set_option linter.unusedVariables false
namespace Go.Proofs.YtkglnfkbejoheaaDoor
open Go.RowKit
def lowN (c : UInt8) : Nat := (c ||| 32).toNat
def dgt (c : UInt8) : Option Nat := if 48 ≤ c.toNat ∧ c.toNat ≤ 57 then some (c.toNat - 48) else if 97 ≤ lowN c ∧ lowN c ≤ 122 then some (lowN c - 87) else none
/-- What ParseUint makes of bytes, behind a number: a value, and a code: 0 none, 1 out of range, 2 no number. -/
def pu : Nat → List UInt8 → Nat × Nat
  | n, [] => (n, 0)
  | n, c :: r => match dgt c with
    | none => (0, 2)
    | some d => if 16 ≤ d then (0, 2) else if 4294967295 < 16 * n + d then (4294967295, 1) else pu (16 * n + d) r
theorem low_big : ∀ c : UInt8, 97 ≤ lowN c → lowN c ≤ 122 → 57 < c.toNat ∧ c.toNat ≠ 95 := by
  have h : ∀ n : Fin 256, 97 ≤ lowN (UInt8.ofNat n) → lowN (UInt8.ofNat n) ≤ 122 → 57 < (UInt8.ofNat n).toNat ∧ (UInt8.ofNat n).toNat ≠ 95 := by decide +kernel
  intro c
  have := h ⟨c.toNat, c.toNat_lt⟩
  simpa using this
theorem lowN_lt (c : UInt8) : lowN c < 256 := UInt8.toNat_lt _
def errV (k : Nat) : Value := if k = 0 then .nilIface else .iface 174 (.int .i64 k)
def puV (r : Nat × Nat) : Value := .tuple #[.int .u64 r.1, errV r.2]
set_option maxHeartbeats 1000000 in
set_option maxRecDepth 100000 in
theorem lower_walk (c : UInt8) (w : World) : Calls Tryd.prog 138 #[.int .u8 c.toNat] w fun e w' => e = .returned (.int .u8 (lowN c)) ∧ w' = w := by
  have hb : bits BinOp.or IntKind.u8 (c.toNat : Int) 32 = (lowN c : Int) := by
    unfold bits lowN
    show IntKind.u8.wrap ((BitVec.ofInt 8 (c.toNat : Int) ||| BitVec.ofInt 8 32).toNat : Int) = ((c ||| 32).toNat : Int)
    have e : (BitVec.ofInt 8 (c.toNat : Int) ||| BitVec.ofInt 8 32).toNat = (c ||| 32).toNat := by
      rw [BitVec.toNat_or, UInt8.toNat_or]
      simp
    rw [e]
    have := (c ||| 32).toNat_lt
    generalize (c ||| 32).toNat = z at this
    rw [IntKind.wrap_u8]
    omega
  go_enter Tryd.func138, Tryd.ntmps138
  go_wp2
  go_ret
  exact ⟨rfl, rfl⟩
set_option maxHeartbeats 4000000 in
set_option maxRecDepth 100000 in
theorem parse_walk (t : ByteArray) (hne : t.size ≠ 0) (hmax : t.size ≤ 9223372036854775806) (w : World) :
    Calls Tryd.prog 116 #[.string t, .int .i64 16, .int .i64 32] w fun e w' => e = .returned (puV (pu 0 t.data.toList)) ∧ w' = Lib.bytesWorld w 5 t := by
  have hemp : t.toList.isEmpty = false := by
    rw [← decide_eq_emptyBytes]
    exact decide_eq_false (fun h => hne (by rw [h]; rfl))
  have hcv := Lib.run_convert_string_bytes (P := Tryd.prog) w 9 36 5 t (u := .string) (by kernel_rfl) (by kernel_rfl) (by kernel_rfl)
  have hB : ∀ j, j < t.size → (Lib.bytesWorld w 5 t).cell? ⟨w.heap.size, j, none⟩ = some (.int .u8 (t.data.toList.getD j 0).toNat) := fun j hj => Lib.bytesWorld_cell w 5 t j hj
  obtain ⟨W1, hW1⟩ : ∃ W1, W1 = Lib.bytesWorld w 5 t := ⟨_, rfl⟩
  rw [← hW1] at hcv hB ⊢
  clear hW1
  obtain ⟨bs, hL⟩ : ∃ bs, bs = t.data.toList := ⟨_, rfl⟩
  have hLn : bs.length = t.size := by rw [hL, Lib.size_eq]
  rw [← hL] at hB ⊢
  clear hL
  have hmv : IntKind.u64.wrap (IntKind.u64.wrap 4294967296 - 1) = 4294967295 := by
    rw [IntKind.wrap_u64, IntKind.wrap_u64]
    decide
  have HB := Lib.hid hB
  clear hB
  go_enter Tryd.func116, Tryd.ntmps116
  go_wp2
  go_loop [12, 13, 101] (fun vu vn vi => ∃ (k acc : Nat) (a : Int), vu = .bool false ∧ vn = .int .u64 a ∧ vi = .int .i64 k ∧ k ≤ t.size ∧ Hid (a = (acc : Int) ∧ acc ≤ 4294967295 ∧ pu 0 bs = pu acc (bs.drop k))) (fun _ _ vi => t.size - (intOf vi).toNat)
  case atStart => exact ⟨0, 0, 0, rfl, rfl, rfl, by omega, Lib.hid ⟨rfl, by omega, rfl⟩⟩
  case round =>
    obtain ⟨k, acc, a, rfl, rfl, rfl, hk, hh⟩ := hrel
    obtain ⟨ha, hacc, hp⟩ := hh.out
    clear hh
    have a0 : 0 ≤ a := by omega
    have a1 : a ≤ 4294967295 := by omega
    by_cases hkn : k < t.size
    · have hc := HB.out k hkn
      have hdrop : bs.drop k = bs[k]'(by omega) :: bs.drop (k + 1) := List.drop_eq_getElem_cons (by omega)
      have hget : bs.getD k 0 = bs[k]'(by omega) := by simp [List.getD, List.getElem?_eq_getElem (show k < bs.length by omega)]
      rw [hdrop] at hp
      rw [hget] at hc
      generalize bs[k]'(by omega) = c at hc hp
      have hc256 : c.toNat < 256 := c.toNat_lt
      clear hdrop hget
      by_cases hdig : 48 ≤ c.toNat ∧ c.toNat ≤ 57
      · obtain ⟨hd0, hd1⟩ := hdig
        have hdg : dgt c = some (c.toNat - 48) := by unfold dgt; rw [if_pos ⟨hd0, hd1⟩]
        by_cases hov : 4294967295 < 16 * acc + (c.toNat - 48)
        · have HR : Hid (puV (pu 0 bs) = puV (4294967295, 1)) := Lib.hid (by
            rw [hp, pu, hdg]
            show puV (if 16 ≤ c.toNat - 48 then _ else _) = _
            rw [if_neg (by omega), if_pos hov])
          have iov : 4294967295 < a * 16 + ((c.toNat : Int) - 48) := by omega
          clear hov hdg hp hacc ha
          go_wp2
          go_ret2
          exact ⟨by rw [HR.out]; rfl, rfl⟩
        · have HN : Hid (a * 16 + ((c.toNat : Int) - 48) = ((16 * acc + (c.toNat - 48) : Nat) : Int) ∧ 16 * acc + (c.toNat - 48) ≤ 4294967295 ∧ pu 0 bs = pu (16 * acc + (c.toNat - 48)) (bs.drop (k + 1))) := Lib.hid ⟨by omega, by omega, by
            rw [hp, pu, hdg]
            show (if 16 ≤ c.toNat - 48 then _ else _) = _
            rw [if_neg (by omega), if_neg hov]⟩
          have iov : a * 16 + ((c.toNat : Int) - 48) ≤ 4294967295 := by omega
          clear hov hdg hp hacc ha
          go_wp2
          refine ⟨⟨k + 1, 16 * acc + (c.toNat - 48), a * 16 + ((c.toNat : Int) - 48), rfl, (by first | rfl | (congr 1; omega)), (by first | rfl | (congr 1; omega)), by omega, HN⟩, by simp [intOf]; omega⟩
      · have hl256 := lowN_lt c
        by_cases hlet : 97 ≤ lowN c ∧ lowN c ≤ 122
        · obtain ⟨hl0, hl1⟩ := hlet
          obtain ⟨hc57, hc95⟩ := low_big c hl0 hl1
          have hdg : dgt c = some (lowN c - 87) := by unfold dgt; rw [if_neg hdig, if_pos ⟨hl0, hl1⟩]
          have cl := lower_walk c
          generalize lowN c = L at hl0 hl1 hdg cl hl256
          have hc48 : ¬ (c.toNat : Int) ≤ 57 := by omega
          have hc95' : ¬ (c.toNat : Int) = 95 := by omega
          have h48 : (48 : Int) ≤ (c.toNat : Int) := by omega
          have il0 : (97 : Int) ≤ (L : Int) := by omega
          have il1 : (L : Int) ≤ 122 := by omega
          by_cases h16 : L ≤ 102
          · have i16 : ¬ (16 : Int) ≤ (L : Int) - 97 + 10 := by omega
            by_cases hov : 4294967295 < 16 * acc + (L - 87)
            · have HR : Hid (puV (pu 0 bs) = puV (4294967295, 1)) := Lib.hid (by
                rw [hp, pu, hdg]
                show puV (if 16 ≤ L - 87 then _ else _) = _
                rw [if_neg (by omega), if_pos hov])
              have iov : 4294967295 < a * 16 + ((L : Int) - 97 + 10) := by omega
              clear hov hdg hp hacc ha hdig hc57 hc95
              go_wp2_with (go_at_call 138; refine (cl _).mono ?_; rintro e w' ⟨rfl, rfl⟩)
              go_ret2
              exact ⟨by rw [HR.out]; rfl, rfl⟩
            · have HN : Hid (a * 16 + ((L : Int) - 97 + 10) = ((16 * acc + (L - 87) : Nat) : Int) ∧ 16 * acc + (L - 87) ≤ 4294967295 ∧ pu 0 bs = pu (16 * acc + (L - 87)) (bs.drop (k + 1))) := Lib.hid ⟨by omega, by omega, by
                rw [hp, pu, hdg]
                show (if 16 ≤ L - 87 then _ else _) = _
                rw [if_neg (by omega), if_neg hov]⟩
              have iov : a * 16 + ((L : Int) - 97 + 10) ≤ 4294967295 := by omega
              clear hov hdg hp hacc ha hdig hc57 hc95
              go_wp2_with (go_at_call 138; refine (cl _).mono ?_; rintro e w' ⟨rfl, rfl⟩)
              refine ⟨⟨k + 1, 16 * acc + (L - 87), a * 16 + ((L : Int) - 97 + 10), rfl, (by first | rfl | (congr 1; omega)), (by first | rfl | (congr 1; omega)), by omega, HN⟩, by simp [intOf]; omega⟩
          · have i16 : (16 : Int) ≤ (L : Int) - 97 + 10 := by omega
            have HR : Hid (puV (pu 0 bs) = puV (0, 2)) := Lib.hid (by
              rw [hp, pu, hdg]
              show puV (if 16 ≤ L - 87 then _ else _) = _
              rw [if_pos (by omega)])
            clear hdg hp hacc ha hdig hc57 hc95
            go_wp2_with (go_at_call 138; refine (cl _).mono ?_; rintro e w' ⟨rfl, rfl⟩)
            go_ret2
            exact ⟨by rw [HR.out]; rfl, rfl⟩
        · have hdg : dgt c = none := by unfold dgt; rw [if_neg hdig, if_neg hlet]
          have HR : Hid (puV (pu 0 bs) = puV (0, 2)) := Lib.hid (by rw [hp, pu, hdg])
          clear hp hacc ha hdg
          by_cases h95 : c = 95
          · subst h95
            have cl : ∀ w, Calls Tryd.prog 138 #[.int .u8 95] w fun e w' => e = .returned (.int .u8 127) ∧ w' = w := lower_walk 95
            clear hdig hlet hl256
            go_wp2_with (go_at_call 138; refine (cl _).mono ?_; rintro e w' ⟨rfl, rfl⟩)
            go_ret2
            exact ⟨by rw [HR.out]; rfl, rfl⟩
          · have hc95' : ¬ (c.toNat : Int) = 95 := fun h => h95 (UInt8.toNat_inj.1 (by show _ = 95; omega))
            have cl := lower_walk c
            generalize lowN c = L at hlet cl hl256
            have HLT := Lib.hid hlet
            have HDG := Lib.hid hdig
            clear h95 hlet hdig
            by_cases h48 : c.toNat < 48
            · have i48 : ¬ (48 : Int) ≤ (c.toNat : Int) := by omega
              by_cases hL : L < 97
              · have iL : ¬ (97 : Int) ≤ (L : Int) := by omega
                go_wp2_with (go_at_call 138; refine (cl _).mono ?_; rintro e w' ⟨rfl, rfl⟩)
                go_ret2
                exact ⟨by rw [HR.out]; rfl, rfl⟩
              · have iL : (97 : Int) ≤ (L : Int) := by omega
                have iL2 : ¬ (L : Int) ≤ 122 := by have := HLT.out; omega
                go_wp2_with (go_at_call 138; refine (cl _).mono ?_; rintro e w' ⟨rfl, rfl⟩)
                go_ret2
                exact ⟨by rw [HR.out]; rfl, rfl⟩
            · have i48 : (48 : Int) ≤ (c.toNat : Int) := by omega
              have i57 : ¬ (c.toNat : Int) ≤ 57 := by have := HDG.out; omega
              by_cases hL : L < 97
              · have iL : ¬ (97 : Int) ≤ (L : Int) := by omega
                go_wp2_with (go_at_call 138; refine (cl _).mono ?_; rintro e w' ⟨rfl, rfl⟩)
                go_ret2
                exact ⟨by rw [HR.out]; rfl, rfl⟩
              · have iL : (97 : Int) ≤ (L : Int) := by omega
                have iL2 : ¬ (L : Int) ≤ 122 := by have := HLT.out; omega
                go_wp2_with (go_at_call 138; refine (cl _).mono ?_; rintro e w' ⟨rfl, rfl⟩)
                go_ret2
                exact ⟨by rw [HR.out]; rfl, rfl⟩
    · have hkk : k = t.size := by omega
      subst hkk
      have HR : Hid (puV (pu 0 bs) = .tuple #[.int .u64 a, .nilIface]) := Lib.hid (by
        rw [hp, List.drop_eq_nil_of_le (by omega), pu, ha]
        rfl)
      clear hp ha hacc
      go_wp2
      go_ret2
      exact ⟨by rw [HR.out]; rfl, rfl⟩
set_option maxHeartbeats 1000000 in
set_option maxRecDepth 100000 in
theorem parse_empty (w : World) : Calls Tryd.prog 116 #[.string ⟨#[]⟩, .int .i64 16, .int .i64 32] w fun e w' => e = .returned (puV (0, 2)) ∧ w' = w := by
  go_enter Tryd.func116, Tryd.ntmps116
  go_wp2
  go_ret2
  exact ⟨rfl, rfl⟩
def puN (t : ByteArray) : Nat × Nat := bif decide (t.size = 0) then (0, 2) else pu 0 t.data.toList
theorem parse_any (t : ByteArray) (hmax : t.size ≤ 1073741824) (w : World) :
    Calls Tryd.prog 116 #[.string t, .int .i64 16, .int .i64 32] w fun e w' => e = .returned (puV (puN t)) ∧ Below w.heap.size w w' := by
  unfold puN
  by_cases h : t.size = 0
  · rw [decide_eq_true h]
    obtain rfl : t = ⟨#[]⟩ := ByteArray.ext (Array.eq_empty_of_size_eq_zero h)
    exact (parse_empty w).mono fun e w' ⟨h1, h2⟩ => ⟨h1, h2 ▸ Below.refl _ _⟩
  · rw [decide_eq_false h]
    exact (parse_walk t h (by omega) w).mono fun e w' ⟨h1, h2⟩ => ⟨h1, h2 ▸ Lib.bytesWorld_below w 5 t⟩
end Go.Proofs.YtkglnfkbejoheaaDoor
set_option linter.unusedSimpArgs false
set_option linter.unusedVariables false
namespace Go.Proofs.YtkglnfkbejoheaaDoor
open Go.RowKit
theorem pu_code : ∀ (l : List UInt8) (n : Nat), (pu n l).2 = 0 ∨ (pu n l).2 = 1 ∨ (pu n l).2 = 2
  | [], n => .inl rfl
  | c :: r, n => by
    unfold pu
    split
    · exact .inr (.inr rfl)
    · split
      · exact .inr (.inr rfl)
      · split
        · exact .inr (.inl rfl)
        · exact pu_code r _
theorem puN_code (t : ByteArray) : (puN t).2 = 0 ∨ (puN t).2 = 1 ∨ (puN t).2 = 2 := by
  unfold puN
  cases decide (t.size = 0)
  · exact pu_code _ _
  · exact .inr (.inr rfl)
theorem old_cell {w W : World} {b : Nat} {v : Value} (hb : Below w.heap.size w W) (h : w.cell? ⟨b, 0, none⟩ = some v) : W.cell? ⟨b, 0, none⟩ = some v := by
  rw [hb.cell (p := ⟨_, 0, none⟩) (World.block_lt_of_cell? _ _ h)]
  exact h
set_option maxHeartbeats 2000000 in
set_option maxRecDepth 100000 in
/-- strconv.ParseUint at base 16 and 32 bits: the value, and nil or some error. -/
theorem parseS_walk (t : ByteArray) (hmax : t.size ≤ 1073741824) (w : World) {evS evR : Value} (hS : w.cell? ⟨2, 0, none⟩ = some evS) (hS' : ∃ te pe, evS = .iface te pe) (hR : w.cell? ⟨3, 0, none⟩ = some evR) (hR' : ∃ te pe, evR = .iface te pe) :
    Calls Tryd.prog 85 #[.string t, .int .i64 16, .int .i64 32] w fun e w' => ∃ ev, e = .returned (.tuple #[.int .u64 (puN t).1, ev]) ∧ (((puN t).2 = 0 ∧ ev = .nilIface) ∨ ((puN t).2 ≠ 0 ∧ ∃ te pe, ev = .iface te pe)) ∧ Below w.heap.size w w' := by
  have c1 := parse_any t hmax w
  obtain ⟨N, hN⟩ : ∃ N, (puN t).1 = N := ⟨_, rfl⟩
  have hc := puN_code t
  have e1 : puV (puN t) = .tuple #[.int .u64 N, errV (puN t).2] := by unfold puV; rw [hN]
  rw [e1] at c1
  rw [hN]
  clear e1 hN
  generalize (puN t).2 = k at hc c1 ⊢
  have HS := Lib.hid hS
  have HR := Lib.hid hR
  have HS' := Lib.hid hS'
  have HR' := Lib.hid hR'
  clear hS hR hS' hR'
  rcases hc with rfl | rfl | rfl
  · rw [show errV 0 = .nilIface from rfl] at c1
    go_enter Tryd.func85, Tryd.ntmps85
    go_wp2_with (go_at_call 116; refine c1.mono ?_; rintro e W1 ⟨rfl, b1⟩)
    go_ret2
    exact ⟨_, rfl, by simp, b1⟩
  · rw [show errV 1 = .iface 174 (.int .i64 1) from rfl] at c1
    go_enter Tryd.func85, Tryd.ntmps85
    go_wp2_with (go_at_call 116; refine c1.mono ?_; rintro e W1 ⟨rfl, b1⟩)
    have c2 := Any.strconv_toError_range Tryd.lays245 ⟨#[80, 97, 114, 115, 101, 85, 105, 110, 116]⟩ t 16 32 evR W1 (by omega) (old_cell b1 HR.out) (.inr HR'.out)
    go_wp2_with (go_at_call 117; refine c2.mono ?_; rintro e W2 ⟨M, rfl, hM, hM2, b2⟩)
    go_ret2
    exact ⟨_, rfl, .inr ⟨by decide, _, _, rfl⟩, b1.trans (b2.mono b1.size)⟩
  · rw [show errV 2 = .iface 174 (.int .i64 2) from rfl] at c1
    go_enter Tryd.func85, Tryd.ntmps85
    go_wp2_with (go_at_call 116; refine c1.mono ?_; rintro e W1 ⟨rfl, b1⟩)
    have c2 := Any.strconv_toError_syntax Tryd.lays245 ⟨#[80, 97, 114, 115, 101, 85, 105, 110, 116]⟩ t 16 32 evS W1 (by omega) (old_cell b1 HS.out) (.inr HS'.out)
    go_wp2_with (go_at_call 117; refine c2.mono ?_; rintro e W2 ⟨M, rfl, hM, hM2, b2⟩)
    go_ret2
    exact ⟨_, rfl, .inr ⟨by decide, _, _, rfl⟩, b1.trans (b2.mono b1.size)⟩
end Go.Proofs.YtkglnfkbejoheaaDoor
set_option linter.unusedSimpArgs false
set_option linter.unusedVariables false
namespace Go.Proofs.YtkglnfkbejoheaaDoor
open Go.Aw
open Go.Lib (indexByte countByte extract_eq size_eq decDigits itoa)
/-- A digit as the reference reads it. -/
def dl (c : UInt8) : Option Nat := if 48 ≤ c.toNat ∧ c.toNat ≤ 57 then some (c.toNat - 48) else if 97 ≤ c.toNat ∧ c.toNat ≤ 102 then some (c.toNat - 87) else none
theorem all_bytes {p : UInt8 → Prop} (h : ∀ n : Fin 256, p (UInt8.ofNat n)) (c : UInt8) : p c := by
  have := h ⟨c.toNat, c.toNat_lt⟩
  simpa using this
def dlOk (c : UInt8) : Bool := match dl c with
  | some d => dgt c == some d && decide (d < 16) && hexD d == c
  | none => true
theorem dl_dgt (c : UInt8) : ∀ d, dl c = some d → dgt c = some d ∧ d < 16 ∧ hexD d = c := by
  have h : ∀ n : Fin 256, dlOk (UInt8.ofNat n) = true := by decide +kernel
  intro d hd
  have := all_bytes (p := fun c => dlOk c = true) h c
  unfold dlOk at this
  rw [hd] at this
  simpa [and_assoc] using this
theorem dl_hexD : ∀ d, d < 16 → dl (hexD d) = some d := by decide +kernel
def hexval : Nat → List UInt8 → Option Nat
  | n, [] => some n
  | n, c :: r => match dl c with
    | none => none
    | some d => hexval (16 * n + d) r
theorem hexval_cons {n : Nat} {c : UInt8} {r : List UInt8} {d : Nat} (h : dl c = some d) : hexval n (c :: r) = hexval (16 * n + d) r := by
  rw [hexval, h]
theorem hexval_none {n : Nat} {c : UInt8} {r : List UInt8} (h : dl c = none) : hexval n (c :: r) = none := by
  rw [hexval, h]
theorem hexN_front : ∀ (k v : Nat), hexN (k + 1) v = hexD (v / 16 ^ k % 16) :: hexN k v
  | 0, v => by simp [hexN]
  | k + 1, v => by
    rw [hexN, hexN_front k (v / 16), hexN, Nat.div_div_eq_div_mul, ← Nat.pow_succ']
    rfl
theorem hexval_inv : ∀ (l : List UInt8) (n m : Nat), hexval n l = some m → m / 16 ^ l.length = n ∧ hexN l.length m = l
  | [], n, m, h => by
    cases h
    exact ⟨by simp, rfl⟩
  | c :: r, n, m, h => by
    cases hd : dl c with
    | none => rw [hexval_none hd] at h; cases h
    | some d =>
      rw [hexval_cons hd] at h
      obtain ⟨_, hd16, hc⟩ := dl_dgt c d hd
      obtain ⟨h1, h2⟩ := hexval_inv r _ m h
      refine ⟨?_, ?_⟩
      · rw [List.length_cons, Nat.pow_succ, ← Nat.div_div_eq_div_mul, h1]
        omega
      · rw [List.length_cons, hexN_front, h1, h2, show (16 * n + d) % 16 = d by omega, hc]
theorem hexval_hexN : ∀ (k n v : Nat), v < 16 ^ k → hexval n (hexN k v) = some (n * 16 ^ k + v)
  | 0, n, v, h => by
    have : v = 0 := by simpa using h
    subst this
    simp [hexN, hexval]
  | k + 1, n, v, h => by
    have hk : 0 < 16 ^ k := Nat.pow_pos (by decide)
    have hdk : v / 16 ^ k < 16 := by
      rw [Nat.div_lt_iff_lt_mul hk, ← Nat.pow_succ']
      exact h
    rw [hexN_front, Nat.mod_eq_of_lt hdk, hexval_cons (dl_hexD _ hdk)]
    have hlow : ∀ (j u : Nat), hexN j u = hexN j (u % 16 ^ j) := by
      intro j
      induction j with
      | zero => intro u; rfl
      | succ j ih =>
        intro u
        rw [hexN, hexN, ih (u / 16), ih (u % 16 ^ (j + 1) / 16)]
        have e1 : u % 16 ^ (j + 1) / 16 % 16 ^ j = u / 16 % 16 ^ j := by
          rw [Nat.pow_succ', Nat.mod_mul_right_div_self]
          simp
        have e2 : u % 16 ^ (j + 1) % 16 = u % 16 := Nat.mod_mod_of_dvd _ ⟨16 ^ j, Nat.pow_succ' ..⟩
        rw [e1, e2]
    rw [hlow k v, hexval_hexN k _ _ (Nat.mod_lt _ hk)]
    congr 1
    have := Nat.div_add_mod v (16 ^ k)
    rw [Nat.pow_succ, Nat.add_mul]
    have e3 : 16 * n * 16 ^ k = n * (16 ^ k * 16) := by rw [Nat.mul_comm 16 n, Nat.mul_assoc, Nat.mul_comm 16]
    have e4 : v / 16 ^ k * 16 ^ k = 16 ^ k * (v / 16 ^ k) := Nat.mul_comm ..
    omega
theorem hexval_le : ∀ (l : List UInt8) (n m : Nat), hexval n l = some m → n ≤ m
  | [], n, m, h => by cases h; exact Nat.le_refl _
  | c :: r, n, m, h => by
    cases hd : dl c with
    | none => rw [hexval_none hd] at h; cases h
    | some d =>
      rw [hexval_cons hd] at h
      have := hexval_le r _ m h
      omega
theorem pu_hexval : ∀ (l : List UInt8) (n m : Nat), hexval n l = some m → m ≤ 4294967295 → pu n l = (m, 0)
  | [], n, m, h, _ => by cases h; rfl
  | c :: r, n, m, h, hm => by
    cases hd : dl c with
    | none => rw [hexval_none hd] at h; cases h
    | some d =>
      rw [hexval_cons hd] at h
      obtain ⟨hg, hd16, _⟩ := dl_dgt c d hd
      have hle := hexval_le r _ m h
      rw [pu, hg]
      show (if 16 ≤ d then _ else _) = _
      rw [if_neg (by omega), if_neg (by omega)]
      exact pu_hexval r _ m h hm
theorem toB_datal (l : List UInt8) : (toB l).data.toList = l := by simp [toB]
theorem data_toBl (b : ByteArray) : toB b.data.toList = b := rfl
/-! ### What is read -/
theorem pu_lt : ∀ (l : List UInt8) (n : Nat), n ≤ 4294967295 → (pu n l).1 ≤ 4294967295
  | [], n, h => h
  | c :: r, n, h => by
    unfold pu
    split
    · exact Nat.zero_le _
    · split
      · exact Nat.zero_le _
      · split
        · exact Nat.le_refl _
        · exact pu_lt r _ (by omega)
theorem puN_lt (t : ByteArray) : (puN t).1 ≤ 4294967295 := by
  unfold puN
  cases decide (t.size = 0)
  · exact pu_lt _ _ (by decide)
  · exact Nat.zero_le _
def xH (s : ByteArray) : Nat := canon .f32 (puN s).1
def okH (s : ByteArray) : Bool := decide (s.size = 8) && (match hexval 0 s.data.toList with
  | some m => decide (wordF (canon .f32 m) = m)
  | none => false)
theorem canon_lt {m : Nat} (h : m ≤ 4294967295) : canon .f32 m < 4294967296 := by
  unfold canon
  cases isNaN .f32 m with
  | false => show m < 4294967296; omega
  | true => show (2143289344 : Nat) < 4294967296; decide
theorem wordF_canon (m : Nat) : wordF (canon .f32 m) = wordF m := by
  unfold wordF
  rw [isNaN_canon]
  cases h : isNaN .f32 m
  · rw [canon_of_not h]
  · rfl
theorem wordF_le {m : Nat} (h : m ≤ 4294967295) : wordF m < 4294967296 := wordF_lt (by omega)
theorem puN_some {s : ByteArray} {m : Nat} (hs : s.size = 8) (h : hexval 0 s.data.toList = some m) : m < 4294967296 ∧ puN s = (m, 0) ∧ hexB m = s := by
  have hl : s.data.toList.length = 8 := by rw [← size_eq]; exact hs
  obtain ⟨h1, h2⟩ := hexval_inv _ _ _ h
  rw [hl] at h1 h2
  have hm : m < 4294967296 := by
    have : m / 4294967296 = 0 := h1
    omega
  refine ⟨hm, ?_, ?_⟩
  · unfold puN
    rw [decide_eq_false (by omega), cond_false]
    exact pu_hexval _ _ _ h (by omega)
  · unfold hexB
    rw [h2]
    exact data_toBl s
theorem okH_impl (s : ByteArray) : (decide ((puN s).2 = 0) && ((hexB (wordF (xH s))).toList == s.toList)) = okH s := by
  have hn := puN_lt s
  cases hok : okH s with
  | true =>
    unfold okH at hok
    rw [Bool.and_eq_true, decide_eq_true_eq] at hok
    obtain ⟨hs, hok⟩ := hok
    cases hv : hexval 0 s.data.toList with
    | none => rw [hv] at hok; cases hok
    | some m =>
      rw [hv] at hok
      have hok := of_decide_eq_true hok
      obtain ⟨hm, hp, hb⟩ := puN_some hs hv
      unfold xH
      rw [hp, hok, hb]
      simp
  | false =>
    rw [Bool.and_eq_false_iff]
    by_cases h0 : (puN s).2 = 0
    · right
      rw [toList_beq, decide_eq_false_iff_not]
      intro hb
      have hw : wordF (xH s) < 4294967296 := by unfold xH; exact wordF_lt (canon_lt hn)
      have hs : s.size = 8 := by rw [← hb]; exact hexB_size _
      have hv : hexval 0 s.data.toList = some (wordF (xH s)) := by
        conv => lhs; rw [← hb]
        have := hexval_hexN 8 0 (wordF (xH s)) hw
        rw [Nat.zero_mul, Nat.zero_add] at this
        unfold hexB
        rw [toB_datal]
        exact this
      obtain ⟨_, hp, _⟩ := puN_some hs hv
      have hx : wordF (canon .f32 (wordF (xH s))) = wordF (xH s) := by
        have e : xH s = canon .f32 (wordF (xH s)) := by
          conv => lhs; unfold xH
          rw [hp]
        rw [← e]
      unfold okH at hok
      rw [decide_eq_true hs, hv, Bool.true_and] at hok
      exact absurd hx (of_decide_eq_false hok)
    · left
      exact decide_eq_false h0
end Go.Proofs.YtkglnfkbejoheaaDoor
set_option linter.unusedSimpArgs false
set_option linter.unusedVariables false
namespace Go.Proofs.YtkglnfkbejoheaaDoor
open Go.Aw
open Go.RowKit
open Go.Lib (indexByte countByte extract_eq size_eq decDigits itoa)
theorem hex_calls (y : Nat) (w : World) (hl : LoreX w) (hy : canon .f32 y < 4294967296) :
    Calls Tryd.prog 87 #[.float .f32 y] w fun e w' => e = .returned (.string (hexB (wordF (canon .f32 y)))) ∧ Below w.heap.size w w' := by
  obtain ⟨_, _, hc⟩ := implHex [.f .f32 fun _ => canon .f32 y] _ _ _ rfl hy
  refine (calls_of hc hl rfl fun j a v h1 h2 => ?_).mono ?_
  · match j, h1, h2 with
    | 0, h1, h2 => cases h1; cases h2; exact .f rfl
  · rintro e w' ⟨v, ρ', rfl, h1, h2⟩
    cases h1
    exact ⟨rfl, h2⟩
theorem frombits_run (n : Nat) (w : World) : (callFunc 86 #[.int .u32 n]).run Tryd.prog w = .ok (.value (.float .f32 n)) w := by
  have hrun := run_callFunc_extern (P := Tryd.prog) (e := Extern.MathFloatBits.float32frombits) Tryd.func86 (by kernel_rfl) (by kernel_rfl) (by kernel_rfl) (by kernel_rfl) #[.int .u32 n] w
  rw [hrun]
  have e : Extern.MathFloatBits.float32frombits #[.int .u32 n] = pure (.float .f32 n) := rfl
  rw [e]
  simp
theorem eql_nil_nil (w : World) : (binOp .eql 90 .nilIface .nilIface).run Tryd.prog w = .ok (.bool true) w := by
  have e0 : ∀ d, (Op.equalIn (d + 1) 90 .nilIface .nilIface).run Tryd.prog w = .ok true w := fun d => by simp [Op.equalIn, run_underlying Tryd.underlying90]
  have e1 : (Op.equal 90 .nilIface .nilIface).run Tryd.prog w = .ok true w := e0 9999
  simp only [binOp]; simp [e1]
theorem eql_ifc_nil (t : TypeId) (v : Value) (w : World) : (binOp .eql 90 (.iface t v) .nilIface).run Tryd.prog w = .ok (.bool false) w := by
  have e0 : ∀ d, (Op.equalIn (d + 1) 90 (.iface t v) .nilIface).run Tryd.prog w = .ok false w := fun d => by simp [Op.equalIn, run_underlying Tryd.underlying90]
  have e1 : (Op.equal 90 (.iface t v) .nilIface).run Tryd.prog w = .ok false w := e0 9999
  simp only [binOp]; simp [e1]
theorem guard_nil (w : World) : (eqGuard .eql 90 (.tmp 16) (.const .nilIface) .nilIface .nilIface).run Tryd.prog w = .ok () w := rfl
theorem guard_ifc (t : TypeId) (v : Value) (w : World) : (eqGuard .eql 90 (.tmp 16) (.const .nilIface) (.iface t v) .nilIface).run Tryd.prog w = .ok () w := rfl
set_option maxHeartbeats 2000000 in
set_option maxRecDepth 100000 in
theorem readHex_walk (s : ByteArray) (hmax : s.size ≤ 1073741824) (w : World) (hl : LoreX w) :
    Calls Tryd.prog 55 #[.string s] w fun e w' => e = .returned (.tuple #[.float .f32 (puN s).1, .bool (okH s)]) ∧ Below w.heap.size w w' := by
  obtain ⟨_, _, tS, vS, eS⟩ := hl.errS
  obtain ⟨_, _, tR, vR, eR⟩ := hl.errR
  have c1 := parseS_walk s hmax w (evS := .iface tS vS) (evR := .iface tR vR) (by rw [Lib.cell_of_heap (show w.heap[2]? = _ from eS)]; rfl) ⟨_, _, rfl⟩ (by rw [Lib.cell_of_heap (show w.heap[3]? = _ from eR)]; rfl) ⟨_, _, rfl⟩
  have hn := puN_lt s
  have hok := okH_impl s
  unfold xH at hok
  obtain ⟨N, hN⟩ : ∃ N, (puN s).1 = N := ⟨_, rfl⟩
  rw [hN] at c1 hn hok ⊢
  obtain ⟨K, hK⟩ : ∃ K, (puN s).2 = K := ⟨_, rfl⟩
  rw [hK] at c1 hok
  clear hN hK eS eR
  have hcl := canon_lt hn
  have hw : IntKind.u32.wrap (N : Int) = (N : Int) := by rw [IntKind.wrap_u32]; omega
  have hfb := frombits_run N
  have HL := Lib.hid hl
  have HC := Lib.hid hcl
  have HOK := Lib.hid hok
  clear hl hcl hok hn
  go_enter Tryd.func55, Tryd.ntmps55
  go_wp2_with (go_at_call 85; refine c1.mono ?_; rintro e W1 ⟨ev, rfl, hev, b1⟩)
  have hl1 := lore_below HL.out b1
  rcases hev with ⟨h0, rfl⟩ | ⟨h0, te, pe, rfl⟩
  · have cH := hex_calls N W1 hl1 HC.out
    clear hl1
    go_wp2
    rw [guard_nil]
    simp only [Result.andThen]
    rw [eql_nil_nil]
    simp only [Result.andThen]
    rw [Oper.upon_value]
    go_wp2_with (first
      | (go_at_call 87; refine cH.mono ?_; rintro e W2 ⟨rfl, b2⟩))
    go_ret2
    exact ⟨by rw [← HOK.out, decide_eq_true h0, Bool.true_and]; rfl, b1.trans (b2.mono b1.size)⟩
  · clear hl1
    go_wp2
    rw [guard_ifc]
    simp only [Result.andThen]
    rw [eql_ifc_nil]
    simp only [Result.andThen]
    rw [Oper.upon_value]
    go_wp2
    go_ret2
    exact ⟨by rw [← HOK.out, decide_eq_false h0]; rfl, b1⟩
def kRH : Kr
  | [.s s] => some (.tup [.f .f32 fun _ => xH (s .u), .b fun _ => okH (s .u)], [], fun _ => (s .u).size ≤ 1073741824)
  | _ => none
theorem rh_tells : Tells Tryd.prog 55 (.r kRH) := by
  intro args r H' p hr hp
  unfold kRH at hr
  split at hr <;> cases hr
  rename_i s
  have hp : (s .u).size ≤ 1073741824 := hp
  refine ⟨allFr_tup2 .f .b, .nil, ⟨⟨_, Tryd.func55, by kernel_rfl, rfl⟩, Nat.le_refl _, fun w ρ vals hR hl hs => ?_⟩⟩
  obtain ⟨v, rfl⟩ : ∃ v, vals = #[v] := by
    obtain ⟨l⟩ := vals
    match l, hl with
    | [v], _ => exact ⟨v, rfl⟩
  obtain rfl := (hs 0 _ v rfl rfl).s_inv
  refine (readHex_walk (s .u) hp w hR.lore).mono ?_
  rintro e w' ⟨rfl, hb'⟩
  obtain ⟨k1, k2⟩ := rel_below hR hb'
  refine ⟨_, ρ, rfl, .tup rfl fun j x u h1 h2 => ?_, k1, k2⟩
  match j, h1, h2 with
  | 0, h1, h2 => cases h1; cases h2; exact .f rfl
  | 1, h1, h2 => cases h1; cases h2; exact .b
end Go.Proofs.YtkglnfkbejoheaaDoor
