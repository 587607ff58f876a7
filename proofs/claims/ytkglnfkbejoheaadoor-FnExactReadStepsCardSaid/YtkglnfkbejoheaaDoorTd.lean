/- Numbers written in hexadecimal: the library's formatBits at base 16, walked. -/
import Derived.Test.YtkglnfkbejoheaaDoorProg
import Derived.KernelRfl
import Derived.Lib.Walk
import Derived.Lib.ItoaMem
import Derived.Below
import Derived.WalkKit
import Derived.BigCall
import Derived.Deep.LoopGhost
import Derived.Deep.DeepCutAuto
import Derived.Deep.DeepFit
set_option linter.unusedSimpArgs false
set_option linter.unusedVariables false
namespace Go.Proofs.YtkglnfkbejoheaaDoor
open Go.RowKit
def hexD (d : Nat) : UInt8 := UInt8.ofNat (if d < 10 then 48 + d else 87 + d)
def hexL (u : Nat) : List UInt8 := if u < 16 then [hexD u] else hexL (u / 16) ++ [hexD (u % 16)]
theorem hexL_small {u : Nat} (h : u < 16) : hexL u = [hexD u] := by unfold hexL; rw [if_pos h]
theorem hexL_big {u : Nat} (h : ¬ u < 16) : hexL u = hexL (u / 16) ++ [hexD (u % 16)] := by rw [hexL]; rw [if_neg h]
set_option maxHeartbeats 1000000 in
set_option maxRecDepth 100000 in
theorem pow2_walk (w : World) : Calls Tryd.prog 168 #[.int .i64 16] w fun e w' => e = .returned (.bool true) ∧ w' = w := by
  go_enter Tryd.func168, Tryd.ntmps168
  go_wp2
  go_ret
  exact ⟨rfl, rfl⟩
set_option maxHeartbeats 1000000 in
set_option maxRecDepth 100000 in
theorem tz64_walk (w : World) (ht : w.cell? ⟨8, 15, none⟩ = some (.int .u8 4)) : Calls Tryd.prog 171 #[.int .u64 16] w fun e w' => e = .returned (.int .i64 4) ∧ w' = w := by
  have hk : IntKind.u64.wrap (bits BinOp.and IntKind.u64 16 (IntKind.u64.wrap (-16)) * 285870213051353865) / 288230376151711744 = 15 := by decide +kernel
  go_enter Tryd.func171, Tryd.ntmps171
  go_wp2
  go_ret
  exact ⟨rfl, rfl⟩
set_option maxHeartbeats 1000000 in
set_option maxRecDepth 100000 in
theorem tz_walk (w : World) (ht : w.cell? ⟨8, 15, none⟩ = some (.int .u8 4)) : Calls Tryd.prog 169 #[.int .u64 16] w fun e w' => e = .returned (.int .i64 4) ∧ w' = w := by
  have H := Lib.hid ht
  clear ht
  go_enter Tryd.func169, Tryd.ntmps169
  go_wp2_with (go_at_call 171; refine (tz64_walk _ H.out).mono ?_; rintro e w' ⟨rfl, rfl⟩)
  go_ret
  exact ⟨rfl, rfl⟩
theorem digs_at : ∀ k, (h : k < 16) → (⟨#[48, 49, 50, 51, 52, 53, 54, 55, 56, 57, 97, 98, 99, 100, 101, 102, 103, 104, 105, 106, 107, 108, 109, 110, 111, 112, 113, 114, 115, 116, 117, 118, 119, 120, 121, 122]⟩ : ByteArray)[k]'(Nat.lt_trans h (by decide : 16 < 36)) = hexD k := by decide +kernel
/-- The row of a number's last digits. -/
def RowHex (cur : Array Value) (o : List UInt8) : Prop := cur.size = 65 ∧ o.length ≤ 65 ∧ ∀ t c, o[t]? = some c → cur[65 - o.length + t]? = some (.int .u8 (c.toNat : Int))
theorem RowHex.nil {cur : Array Value} (h : cur.size = 65) : RowHex cur [] := ⟨h, Nat.zero_le _, fun t c ht => by simp at ht⟩
theorem RowHex.cons {cur : Array Value} {o : List UInt8} (h : RowHex cur o) (ho : o.length < 65) (c : UInt8) : RowHex (cur.setIfInBounds (64 - o.length) (.int .u8 (c.toNat : Int))) (c :: o) := by
  obtain ⟨h1, h2, h3⟩ := h
  refine ⟨by simpa using h1, by rw [List.length_cons]; omega, fun t d ht => ?_⟩
  rw [Array.getElem?_setIfInBounds]
  cases t with
  | zero =>
    simp at ht
    subst ht
    rw [if_pos (by simp), if_pos (by omega)]
  | succ t =>
    simp at ht
    rw [if_neg (by rw [List.length_cons]; omega)]
    have := h3 t d ht
    rw [List.length_cons, show 65 - (o.length + 1) + (t + 1) = 65 - o.length + t by omega]
    exact this
theorem setCell_alloc (w : World) (cur : Array Value) (T : TypeId) (k : Nat) (v : Value) : (w.alloc (.cells cur T)).setCell ⟨w.heap.size, k, none⟩ v = w.alloc (.cells (cur.setIfInBounds k v) T) := by
  unfold World.setCell World.alloc
  congr 1
  apply Array.ext_getElem?
  intro i
  rw [Array.getElem?_modify]
  by_cases h : w.heap.size = i
  · subst h
    simp
  · rw [if_neg h, Array.getElem?_push, Array.getElem?_push, if_neg (Ne.symm h), if_neg (Ne.symm h)]
theorem and15 (u : Nat) (h : u < 18446744073709551616) : bits BinOp.and IntKind.u64 (u : Int) 15 = ((u % 16 : Nat) : Int) := by
  unfold bits
  simp only [IntKind.bits]
  rw [IntKind.wrap_u64]
  have e : (BitVec.ofInt 64 (u : Int) &&& BitVec.ofInt 64 15).toNat = u % 16 := by
    rw [BitVec.toNat_and]
    simp only [BitVec.ofInt_natCast, BitVec.toNat_ofNat]
    rw [Nat.mod_eq_of_lt (by simpa using h)]
    exact Nat.and_two_pow_sub_one_eq_mod u 4
  show ((BitVec.ofInt 64 (u : Int) &&& BitVec.ofInt 64 15).toNat : Int) % 18446744073709551616 = _
  rw [e]
  omega
set_option maxHeartbeats 2000000 in
set_option maxRecDepth 100000 in
theorem bits_walk (v : Nat) (hv : v < 4294967296) (w : World) (ht : w.cell? ⟨8, 15, none⟩ = some (.int .u8 4)) :
    Calls Tryd.prog 160 #[.slice none 0 0, .int .u64 v, .int .i64 16, .bool false, .bool false] w fun e w' => e = .returned (.tuple #[.slice none 0 0, .string ⟨(hexL v).toArray⟩]) ∧ Below w.heap.size w w' := by
  have hta : (w.alloc (.cells Tryd.zeroCells205 205)).cell? ⟨8, 15, none⟩ = some (.int .u8 4) := by
    rw [World.cell?_alloc_old _ _ _ (Nat.ne_of_lt (World.block_lt_of_cell? _ _ ht))]; exact ht
  have cz := tz_walk _ hta
  have HT := Lib.hid ht
  clear ht hta
  go_enter Tryd.func160, Tryd.ntmps160
  go_wp2_with (first
    | (go_at_call 168; refine (pow2_walk _).mono ?_; rintro e w' ⟨rfl, rfl⟩)
    | (go_at_call 169; refine cz.mono ?_; (rintro e w' ⟨rfl, hw⟩; rw [hw])))
  clear cz
  go_loopg [1, 13] 7 (fun g s1 s13 wx => ∃ (u J : Nat) (o : List UInt8) (cur : Array Value), o.length + g = 7 ∧ o.length + J = 64 ∧ u < 16 ^ (g + 1) ∧ s1 = .int .u64 u ∧ s13 = .int .i64 ((J : Int) + 1) ∧ Hid (hexL v = hexL u ++ o) ∧ wx = w.alloc (.cells cur 205) ∧ Hid (RowHex cur o))
  case atStart => exact ⟨v, 64, [], _, rfl, rfl, hv, rfl, rfl, Lib.hid (by rw [List.append_nil]), rfl, Lib.hid (RowHex.nil rfl)⟩
  case round =>
    obtain ⟨u, J, o, cur, hlen, hJ, hu, rfl, rfl, HV, rfl, HR⟩ := hrel
    have hJ1 : J < 65 := by omega
    obtain ⟨c0, hc0⟩ : ∃ c0, cur[J]? = some c0 := ⟨_, Array.getElem?_eq_getElem (by rw [HR.out.1]; exact hJ1)⟩
    have hcell : (w.alloc (.cells cur 205)).cell? ⟨w.heap.size, J, none⟩ = some c0 := by rw [World.cell?_alloc_new]; exact hc0
    have hu64 : u < 18446744073709551616 := by
      refine Nat.lt_of_lt_of_le hu ?_
      exact Nat.le_trans (Nat.pow_le_pow_right (by decide) (show gk + 1 ≤ 8 by omega)) (by decide)
    clear hc0
    by_cases h16 : u < 16
    · have h16' : ¬ (16 : Int) ≤ (u : Int) := by omega
      clear hu
      have hrow := HR.out.cons (by omega) (hexD u)
      rw [show 64 - o.length = J by omega] at hrow
      have hfull : hexD u :: o = hexL v := by rw [HV.out, hexL_small h16]; rfl
      rw [hfull] at hrow
      have hlv : (hexL v).length = 65 - J := by rw [← hfull, List.length_cons]; omega
      have hdig := digs_at u h16
      have hsl : ∀ W, (Instr.sliceAt 205 (.pointer (some ⟨w.heap.size, 0, none⟩)) (some (.int .i64 J)) none none).run Tryd.prog W = .ok (.slice (some ⟨w.heap.size, J, none⟩) (hexL v).length (65 - J)) W := fun W => by
        rw [run_sliceAt_array_l W 205 ⟨w.heap.size, 0, none⟩ (by kernel_rfl) .i64 J (by omega) (by rw [show Tryd.prog.arrayLen 205 = 65 by kernel_rfl]; omega)]
        rw [show Tryd.prog.arrayLen 205 = 65 by kernel_rfl, show Tryd.prog.elem 205 = 5 by kernel_rfl, hlv]
        go_simp
        omega
      have hcv : (convert 36 9 (.slice (some ⟨w.heap.size, J, none⟩) (hexL v).length (65 - J))).run Tryd.prog (w.alloc (.cells (cur.setIfInBounds J (.int .u8 (hexD u).toNat)) 205)) = .ok (.string ⟨(hexL v).toArray⟩) (w.alloc (.cells (cur.setIfInBounds J (.int .u8 (hexD u).toNat)) 205)) := by
        refine run_convert_bytes_back (P := Tryd.prog) _ 36 9 5 ⟨w.heap.size, J, none⟩ (65 - J) (hexL v) (by kernel_rfl) (by kernel_rfl) (by kernel_rfl) (fun j hj => ?_)
        have := hrow.2.2 j _ (List.getElem?_eq_getElem hj)
        rw [hlv, show 65 - (65 - J) + j = J + j by omega] at this
        rw [Lib.add_plain, World.cell?_alloc_new]
        exact this
      have HW := Lib.hid hrow
      have HLV := Lib.hid hlv
      clear hrow hlv hfull
      go_wp2
      go_ret2
      exact ⟨rfl, (Below.refl _ w).alloc (Nat.le_refl _) _⟩
    · have h16' : (16 : Int) ≤ (u : Int) := by omega
      obtain ⟨K, hK⟩ : ∃ K, u % 16 = K := ⟨_, rfl⟩
      have hK16 : K < 16 := by omega
      have hand : bits BinOp.and IntKind.u64 (u : Int) 15 = (K : Int) := by
        rw [← hK]
        exact and15 u hu64
      have hdig := digs_at K hK16
      have HK := Lib.hid hK
      have HU := Lib.hid hu
      clear hK hu
      go_wp2
      go_roundg (gk - 1)
      case measure =>
        rcases Nat.eq_zero_or_pos gk with h | h
        · have := HU.out
          rw [h] at this
          omega
        · omega
      case rel =>
        have hg : 1 ≤ gk := by
          rcases Nat.eq_zero_or_pos gk with h | h
          · have := HU.out
            rw [h] at this
            omega
          · exact h
        refine ⟨u / 16, J - 1, hexD K :: o, _, by rw [List.length_cons]; omega, by rw [List.length_cons]; omega, ?_, ?_, ?_, ?_, rfl, ?_⟩
        · rw [show gk - 1 + 1 = gk by omega, Nat.div_lt_iff_lt_mul (by decide), ← Nat.pow_succ]
          exact HU.out
        · exact congrArg (Value.int .u64) (by omega)
        · exact congrArg (Value.int .i64) (by omega)
        · exact Lib.hid (by rw [HV.out, hexL_big h16, HK.out, List.append_assoc]; rfl)
        · have := HR.out.cons (by omega) (hexD K)
          rw [show 64 - o.length = J by omega] at this
          exact Lib.hid this
set_option maxHeartbeats 2000000 in
set_option maxRecDepth 100000 in
/-- internal/strconv.FormatInt at base 16. -/
theorem fmt16_walk (v : Nat) (hv : v < 4294967296) (w : World) (ht : w.cell? ⟨8, 15, none⟩ = some (.int .u8 4)) :
    Calls Tryd.prog 144 #[.int .i64 v, .int .i64 16] w fun e w' => e = .returned (.string ⟨(hexL v).toArray⟩) ∧ Below w.heap.size w w' := by
  have hn : ¬ (v : Int) < 0 := by omega
  have hw : IntKind.u64.wrap (v : Int) = (v : Int) := by rw [IntKind.wrap_u64]; omega
  have H := Lib.hid (bits_walk v hv w ht)
  clear ht
  go_enter Tryd.func144, Tryd.ntmps144
  go_wp2_with (go_at_call 160; refine H.out.mono ?_; rintro e w' ⟨rfl, b1⟩)
  go_ret
  exact ⟨rfl, b1⟩
set_option maxHeartbeats 2000000 in
set_option maxRecDepth 100000 in
/-- strconv.FormatInt at base 16. -/
theorem fmtS16_walk (v : Nat) (hv : v < 4294967296) (w : World) (ht : w.cell? ⟨8, 15, none⟩ = some (.int .u8 4)) :
    Calls Tryd.prog 118 #[.int .i64 v, .int .i64 16] w fun e w' => e = .returned (.string ⟨(hexL v).toArray⟩) ∧ Below w.heap.size w w' := by
  have H := Lib.hid (fmt16_walk v hv w ht)
  clear ht
  go_enter Tryd.func118, Tryd.ntmps118
  go_wp2_with (go_at_call 144; refine H.out.mono ?_; rintro e w' ⟨rfl, b1⟩)
  go_ret
  exact ⟨rfl, b1⟩
end Go.Proofs.YtkglnfkbejoheaaDoor
