/- The types of this seat's translation as a table, right of the program (printed by gen_tt.py of this folder's author out of the translation). -/
import Derived.Test.YtngdpbjgmajfmaaProg
import Derived.Test.YtngdpbjgmajfmaaAwm
import Derived.KernelRfl
namespace Go.Proofs.Ytngdpbjgmajfmaa
open Go.Aw
theorem TIok.mk {P : Program} {t : TypeId} {i : TI} {z : Value} (h1 : P.underlying t = some i.desc) (h2 : (P.info? t).map (fun i => (i.size, i.bytes, i.zero)) = some (i.size, i.bytes, some z)) (h3 : z.cells.size = i.size) (h4 : i.zero = z.cells.toList.map zeroAV) (h5 : z.cells.toList.all okZero = true) : TIok P t i := by
  obtain ⟨info, hi, he⟩ := Option.map_eq_some_iff.1 h2
  simp only [Prod.mk.injEq] at he
  exact ⟨h1, info, z, hi, he.1, he.2.1, he.2.2, h3, h4, h5⟩
def tt : TT := [
  none,
  none,
  some ⟨(.int .i64), 1, 8, [(.i .i64 fun _ => 0)]⟩,
  some ⟨(.int .i64), 1, 8, [(.i .i64 fun _ => 0)]⟩,
  some ⟨.bool, 1, 1, [(.b fun _ => false)]⟩,
  some ⟨(.int .u8), 1, 1, [(.i .u8 fun _ => 0)]⟩,
  some ⟨(.int .u8), 1, 1, [(.i .u8 fun _ => 0)]⟩,
  some ⟨(.struct #[⟨"x", 2, 0, false, "", "runtime", 0⟩, ⟨"y", 3, 1, false, "", "runtime", 8⟩, ⟨"signed", 4, 2, false, "", "runtime", 16⟩, ⟨"code", 6, 3, false, "", "runtime", 17⟩]), 4, 24, [(.i .i64 fun _ => 0), (.i .i64 fun _ => 0), (.b fun _ => false), (.i .u8 fun _ => 0)]⟩,
  none,
  none,
  none,
  none,
  some ⟨(.int .u64), 1, 8, [(.i .u64 fun _ => 0)]⟩,
  none,
  none,
  none,
  none,
  none,
  some ⟨(.struct #[⟨"typ", 17, 0, false, "", "internal/runtime/maps", 0⟩]), 1, 8, [.v (.pointer none)]⟩,
  none,
  some ⟨(.interface #[]), 1, 16, [.v .nilIface]⟩,
  some ⟨(.int .i32), 1, 4, [(.i .i32 fun _ => 0)]⟩,
  some ⟨(.slice 24), 1, 24, [.v (.slice none 0 0)]⟩,
  none,
  some ⟨(.slice 34), 1, 24, [.v (.slice none 0 0)]⟩,
  none,
  none,
  none,
  none,
  none,
  none,
  none,
  some ⟨(.struct #[⟨"Edges", 24, 0, false, "", "", 0⟩, ⟨"Heights", 24, 1, false, "", "", 24⟩]), 2, 48, [.v (.slice none 0 0), .v (.slice none 0 0)]⟩,
  some ⟨(.struct #[⟨"Edges", 24, 0, false, "", "", 0⟩, ⟨"Heights", 24, 1, false, "", "", 24⟩]), 2, 48, [.v (.slice none 0 0), .v (.slice none 0 0)]⟩,
  some ⟨(.float .f32), 1, 4, [(.f .f32 fun _ => 0)]⟩,
  some ⟨(.struct #[⟨"Rate", 34, 0, false, "", "", 0⟩, ⟨"Off", 34, 1, false, "", "", 4⟩, ⟨"Turn", 34, 2, false, "", "", 8⟩, ⟨"Time", 34, 3, false, "", "", 12⟩]), 4, 16, [(.f .f32 fun _ => 0), (.f .f32 fun _ => 0), (.f .f32 fun _ => 0), (.f .f32 fun _ => 0)]⟩,
  some ⟨(.struct #[⟨"Rate", 34, 0, false, "", "", 0⟩, ⟨"Off", 34, 1, false, "", "", 4⟩, ⟨"Turn", 34, 2, false, "", "", 8⟩, ⟨"Time", 34, 3, false, "", "", 12⟩]), 4, 16, [(.f .f32 fun _ => 0), (.f .f32 fun _ => 0), (.f .f32 fun _ => 0), (.f .f32 fun _ => 0)]⟩,
  some ⟨(.struct #[⟨"Steps", 33, 0, false, "", "", 0⟩, ⟨"Pulse", 36, 2, false, "", "", 48⟩, ⟨"Scan", 24, 6, false, "", "", 64⟩]), 7, 88, [.v (.slice none 0 0), .v (.slice none 0 0), (.f .f32 fun _ => 0), (.f .f32 fun _ => 0), (.f .f32 fun _ => 0), (.f .f32 fun _ => 0), .v (.slice none 0 0)]⟩,
  some ⟨(.struct #[⟨"Steps", 33, 0, false, "", "", 0⟩, ⟨"Pulse", 36, 2, false, "", "", 48⟩, ⟨"Scan", 24, 6, false, "", "", 64⟩]), 7, 88, [.v (.slice none 0 0), .v (.slice none 0 0), (.f .f32 fun _ => 0), (.f .f32 fun _ => 0), (.f .f32 fun _ => 0), (.f .f32 fun _ => 0), .v (.slice none 0 0)]⟩,
  none,
  none,
  some ⟨(.struct #[⟨"Edges", 24, 0, false, "", "", 0⟩, ⟨"Heights", 24, 1, false, "", "", 24⟩]), 2, 48, [.v (.slice none 0 0), .v (.slice none 0 0)]⟩,
  some ⟨(.struct #[⟨"Rate", 34, 0, false, "", "", 0⟩, ⟨"Off", 34, 1, false, "", "", 4⟩, ⟨"Turn", 34, 2, false, "", "", 8⟩, ⟨"Time", 34, 3, false, "", "", 12⟩]), 4, 16, [(.f .f32 fun _ => 0), (.f .f32 fun _ => 0), (.f .f32 fun _ => 0), (.f .f32 fun _ => 0)]⟩,
  some ⟨(.struct #[⟨"Steps", 41, 0, false, "", "", 0⟩, ⟨"Pulse", 42, 2, false, "", "", 48⟩, ⟨"Scan", 24, 6, false, "", "", 64⟩]), 7, 88, [.v (.slice none 0 0), .v (.slice none 0 0), (.f .f32 fun _ => 0), (.f .f32 fun _ => 0), (.f .f32 fun _ => 0), (.f .f32 fun _ => 0), .v (.slice none 0 0)]⟩,
  some ⟨(.struct #[⟨"Steps", 41, 0, false, "", "", 0⟩, ⟨"Pulse", 42, 2, false, "", "", 48⟩, ⟨"Scan", 24, 6, false, "", "", 64⟩]), 7, 88, [.v (.slice none 0 0), .v (.slice none 0 0), (.f .f32 fun _ => 0), (.f .f32 fun _ => 0), (.f .f32 fun _ => 0), (.f .f32 fun _ => 0), .v (.slice none 0 0)]⟩,
  none,
  none,
  none,
  none,
  none,
  none,
  none,
  none,
  none,
  none,
  none,
  none,
  none,
  none,
  some ⟨(.float .f64), 1, 8, [(.f .f64 fun _ => 0)]⟩,
  none,
  none,
  none,
  none,
  none,
  none,
  none,
  none,
  none,
  none,
  some ⟨(.pointer 41), 1, 8, [.v (.pointer none)]⟩,
  none,
  none,
  none,
  none,
  none,
  none,
  none,
  none,
  some ⟨(.pointer 44), 1, 8, [.v (.pointer none)]⟩,
  none,
  none,
  none,
  none,
  none,
  none,
  none,
  none,
  none,
  none,
  none,
  none,
  none,
  none,
  none,
  none,
  some ⟨(.pointer 42), 1, 8, [.v (.pointer none)]⟩,
  none,
  none,
  none,
  none,
  none,
  none,
  some ⟨(.int .u32), 1, 4, [(.i .u32 fun _ => 0)]⟩,
  none,
  some ⟨(.int .u64), 1, 8, [(.i .u64 fun _ => 0)]⟩,
  none,
  none,
  none,
  none,
  none,
  none,
  some ⟨(.int .u64), 1, 8, [(.i .u64 fun _ => 0)]⟩,
  none,
  none,
  none,
  some ⟨(.array 0 16), 0, 0, []⟩,
  some ⟨(.struct #[⟨"_", 116, 0, false, "", "runtime", 0⟩]), 0, 0, []⟩,
  some ⟨(.struct #[⟨"_", 116, 0, false, "", "runtime", 0⟩]), 0, 0, []⟩,
  none,
  some ⟨(.int .u8), 1, 1, [(.i .u8 fun _ => 0)]⟩,
  none,
  none,
  some ⟨(.pointer 5), 1, 8, [.v (.pointer none)]⟩,
  some ⟨(.int .i32), 1, 4, [(.i .i32 fun _ => 0)]⟩,
  some ⟨(.int .i32), 1, 4, [(.i .i32 fun _ => 0)]⟩,
  some ⟨(.struct #[⟨"Size_", 12, 0, false, "", "", 0⟩, ⟨"PtrBytes", 12, 1, false, "", "", 8⟩, ⟨"Hash", 103, 2, false, "", "", 16⟩, ⟨"TFlag", 120, 3, false, "", "", 20⟩, ⟨"Align_", 5, 4, false, "", "", 21⟩, ⟨"FieldAlign_", 5, 5, false, "", "", 22⟩, ⟨"Kind_", 121, 6, false, "", "", 23⟩, ⟨"Equal", 122, 7, false, "", "", 24⟩, ⟨"GCData", 123, 8, false, "", "", 32⟩, ⟨"Str", 124, 9, false, "", "", 40⟩, ⟨"PtrToThis", 125, 10, false, "", "", 44⟩]), 11, 48, [(.i .u64 fun _ => 0), (.i .u64 fun _ => 0), (.i .u32 fun _ => 0), (.i .u8 fun _ => 0), (.i .u8 fun _ => 0), (.i .u8 fun _ => 0), (.i .u8 fun _ => 0), .v .nilFunc, .v (.pointer none), (.i .i32 fun _ => 0), (.i .i32 fun _ => 0)]⟩,
  some ⟨(.struct #[⟨"Size_", 12, 0, false, "", "", 0⟩, ⟨"PtrBytes", 12, 1, false, "", "", 8⟩, ⟨"Hash", 103, 2, false, "", "", 16⟩, ⟨"TFlag", 120, 3, false, "", "", 20⟩, ⟨"Align_", 5, 4, false, "", "", 21⟩, ⟨"FieldAlign_", 5, 5, false, "", "", 22⟩, ⟨"Kind_", 121, 6, false, "", "", 23⟩, ⟨"Equal", 122, 7, false, "", "", 24⟩, ⟨"GCData", 123, 8, false, "", "", 32⟩, ⟨"Str", 124, 9, false, "", "", 40⟩, ⟨"PtrToThis", 125, 10, false, "", "", 44⟩]), 11, 48, [(.i .u64 fun _ => 0), (.i .u64 fun _ => 0), (.i .u32 fun _ => 0), (.i .u8 fun _ => 0), (.i .u8 fun _ => 0), (.i .u8 fun _ => 0), (.i .u8 fun _ => 0), .v .nilFunc, .v (.pointer none), (.i .i32 fun _ => 0), (.i .i32 fun _ => 0)]⟩,
  none]
theorem ttok : TTok Try.prog tt := by
  intro t i h
  match t, h with
  | 2, h => cases h; exact TIok.mk (z := (.int .i64 0)) (by kernel_rfl) (by kernel_rfl) rfl rfl (by decide +kernel)
  | 3, h => cases h; exact TIok.mk (z := (.int .i64 0)) (by kernel_rfl) (by kernel_rfl) rfl rfl (by decide +kernel)
  | 4, h => cases h; exact TIok.mk (z := (.bool false)) (by kernel_rfl) (by kernel_rfl) rfl rfl (by decide +kernel)
  | 5, h => cases h; exact TIok.mk (z := (.int .u8 0)) (by kernel_rfl) (by kernel_rfl) rfl rfl (by decide +kernel)
  | 6, h => cases h; exact TIok.mk (z := (.int .u8 0)) (by kernel_rfl) (by kernel_rfl) rfl rfl (by decide +kernel)
  | 7, h => cases h; exact TIok.mk (z := (.agg #[(.int .i64 0), (.int .i64 0), (.bool false), (.int .u8 0)])) (by kernel_rfl) (by kernel_rfl) rfl rfl (by decide +kernel)
  | 12, h => cases h; exact TIok.mk (z := (.int .u64 0)) (by kernel_rfl) (by kernel_rfl) rfl rfl (by decide +kernel)
  | 18, h => cases h; exact TIok.mk (z := (.agg #[(.pointer none)])) (by kernel_rfl) (by kernel_rfl) rfl rfl (by decide +kernel)
  | 20, h => cases h; exact TIok.mk (z := .nilIface) (by kernel_rfl) (by kernel_rfl) rfl rfl (by decide +kernel)
  | 21, h => cases h; exact TIok.mk (z := (.int .i32 0)) (by kernel_rfl) (by kernel_rfl) rfl rfl (by decide +kernel)
  | 22, h => cases h; exact TIok.mk (z := (.slice none 0 0)) (by kernel_rfl) (by kernel_rfl) rfl rfl (by decide +kernel)
  | 24, h => cases h; exact TIok.mk (z := (.slice none 0 0)) (by kernel_rfl) (by kernel_rfl) rfl rfl (by decide +kernel)
  | 32, h => cases h; exact TIok.mk (z := (.agg #[(.slice none 0 0), (.slice none 0 0)])) (by kernel_rfl) (by kernel_rfl) rfl rfl (by decide +kernel)
  | 33, h => cases h; exact TIok.mk (z := (.agg #[(.slice none 0 0), (.slice none 0 0)])) (by kernel_rfl) (by kernel_rfl) rfl rfl (by decide +kernel)
  | 34, h => cases h; exact TIok.mk (z := (.float .f32 0)) (by kernel_rfl) (by kernel_rfl) rfl rfl (by decide +kernel)
  | 35, h => cases h; exact TIok.mk (z := (.agg #[(.float .f32 0), (.float .f32 0), (.float .f32 0), (.float .f32 0)])) (by kernel_rfl) (by kernel_rfl) rfl rfl (by decide +kernel)
  | 36, h => cases h; exact TIok.mk (z := (.agg #[(.float .f32 0), (.float .f32 0), (.float .f32 0), (.float .f32 0)])) (by kernel_rfl) (by kernel_rfl) rfl rfl (by decide +kernel)
  | 37, h => cases h; exact TIok.mk (z := (.agg #[(.slice none 0 0), (.slice none 0 0), (.float .f32 0), (.float .f32 0), (.float .f32 0), (.float .f32 0), (.slice none 0 0)])) (by kernel_rfl) (by kernel_rfl) rfl rfl (by decide +kernel)
  | 38, h => cases h; exact TIok.mk (z := (.agg #[(.slice none 0 0), (.slice none 0 0), (.float .f32 0), (.float .f32 0), (.float .f32 0), (.float .f32 0), (.slice none 0 0)])) (by kernel_rfl) (by kernel_rfl) rfl rfl (by decide +kernel)
  | 41, h => cases h; exact TIok.mk (z := (.agg #[(.slice none 0 0), (.slice none 0 0)])) (by kernel_rfl) (by kernel_rfl) rfl rfl (by decide +kernel)
  | 42, h => cases h; exact TIok.mk (z := (.agg #[(.float .f32 0), (.float .f32 0), (.float .f32 0), (.float .f32 0)])) (by kernel_rfl) (by kernel_rfl) rfl rfl (by decide +kernel)
  | 43, h => cases h; exact TIok.mk (z := (.agg #[(.slice none 0 0), (.slice none 0 0), (.float .f32 0), (.float .f32 0), (.float .f32 0), (.float .f32 0), (.slice none 0 0)])) (by kernel_rfl) (by kernel_rfl) rfl rfl (by decide +kernel)
  | 44, h => cases h; exact TIok.mk (z := (.agg #[(.slice none 0 0), (.slice none 0 0), (.float .f32 0), (.float .f32 0), (.float .f32 0), (.float .f32 0), (.slice none 0 0)])) (by kernel_rfl) (by kernel_rfl) rfl rfl (by decide +kernel)
  | 59, h => cases h; exact TIok.mk (z := (.float .f64 0)) (by kernel_rfl) (by kernel_rfl) rfl rfl (by decide +kernel)
  | 70, h => cases h; exact TIok.mk (z := (.pointer none)) (by kernel_rfl) (by kernel_rfl) rfl rfl (by decide +kernel)
  | 79, h => cases h; exact TIok.mk (z := (.pointer none)) (by kernel_rfl) (by kernel_rfl) rfl rfl (by decide +kernel)
  | 96, h => cases h; exact TIok.mk (z := (.pointer none)) (by kernel_rfl) (by kernel_rfl) rfl rfl (by decide +kernel)
  | 103, h => cases h; exact TIok.mk (z := (.int .u32 0)) (by kernel_rfl) (by kernel_rfl) rfl rfl (by decide +kernel)
  | 105, h => cases h; exact TIok.mk (z := (.int .u64 0)) (by kernel_rfl) (by kernel_rfl) rfl rfl (by decide +kernel)
  | 112, h => cases h; exact TIok.mk (z := (.int .u64 0)) (by kernel_rfl) (by kernel_rfl) rfl rfl (by decide +kernel)
  | 116, h => cases h; exact TIok.mk (z := (.agg #[])) (by kernel_rfl) (by kernel_rfl) rfl rfl (by decide +kernel)
  | 117, h => cases h; exact TIok.mk (z := (.agg #[])) (by kernel_rfl) (by kernel_rfl) rfl rfl (by decide +kernel)
  | 118, h => cases h; exact TIok.mk (z := (.agg #[])) (by kernel_rfl) (by kernel_rfl) rfl rfl (by decide +kernel)
  | 120, h => cases h; exact TIok.mk (z := (.int .u8 0)) (by kernel_rfl) (by kernel_rfl) rfl rfl (by decide +kernel)
  | 123, h => cases h; exact TIok.mk (z := (.pointer none)) (by kernel_rfl) (by kernel_rfl) rfl rfl (by decide +kernel)
  | 124, h => cases h; exact TIok.mk (z := (.int .i32 0)) (by kernel_rfl) (by kernel_rfl) rfl rfl (by decide +kernel)
  | 125, h => cases h; exact TIok.mk (z := (.int .i32 0)) (by kernel_rfl) (by kernel_rfl) rfl rfl (by decide +kernel)
  | 126, h => cases h; exact TIok.mk (z := (.agg #[(.int .u64 0), (.int .u64 0), (.int .u32 0), (.int .u8 0), (.int .u8 0), (.int .u8 0), (.int .u8 0), .nilFunc, (.pointer none), (.int .i32 0), (.int .i32 0)])) (by kernel_rfl) (by kernel_rfl) rfl rfl (by decide +kernel)
  | 127, h => cases h; exact TIok.mk (z := (.agg #[(.int .u64 0), (.int .u64 0), (.int .u32 0), (.int .u8 0), (.int .u8 0), (.int .u8 0), (.int .u8 0), .nilFunc, (.pointer none), (.int .i32 0), (.int .i32 0)])) (by kernel_rfl) (by kernel_rfl) rfl rfl (by decide +kernel)
  | 0, h => cases h
  | 1, h => cases h
  | 8, h => cases h
  | 9, h => cases h
  | 10, h => cases h
  | 11, h => cases h
  | 13, h => cases h
  | 14, h => cases h
  | 15, h => cases h
  | 16, h => cases h
  | 17, h => cases h
  | 19, h => cases h
  | 23, h => cases h
  | 25, h => cases h
  | 26, h => cases h
  | 27, h => cases h
  | 28, h => cases h
  | 29, h => cases h
  | 30, h => cases h
  | 31, h => cases h
  | 39, h => cases h
  | 40, h => cases h
  | 45, h => cases h
  | 46, h => cases h
  | 47, h => cases h
  | 48, h => cases h
  | 49, h => cases h
  | 50, h => cases h
  | 51, h => cases h
  | 52, h => cases h
  | 53, h => cases h
  | 54, h => cases h
  | 55, h => cases h
  | 56, h => cases h
  | 57, h => cases h
  | 58, h => cases h
  | 60, h => cases h
  | 61, h => cases h
  | 62, h => cases h
  | 63, h => cases h
  | 64, h => cases h
  | 65, h => cases h
  | 66, h => cases h
  | 67, h => cases h
  | 68, h => cases h
  | 69, h => cases h
  | 71, h => cases h
  | 72, h => cases h
  | 73, h => cases h
  | 74, h => cases h
  | 75, h => cases h
  | 76, h => cases h
  | 77, h => cases h
  | 78, h => cases h
  | 80, h => cases h
  | 81, h => cases h
  | 82, h => cases h
  | 83, h => cases h
  | 84, h => cases h
  | 85, h => cases h
  | 86, h => cases h
  | 87, h => cases h
  | 88, h => cases h
  | 89, h => cases h
  | 90, h => cases h
  | 91, h => cases h
  | 92, h => cases h
  | 93, h => cases h
  | 94, h => cases h
  | 95, h => cases h
  | 97, h => cases h
  | 98, h => cases h
  | 99, h => cases h
  | 100, h => cases h
  | 101, h => cases h
  | 102, h => cases h
  | 104, h => cases h
  | 106, h => cases h
  | 107, h => cases h
  | 108, h => cases h
  | 109, h => cases h
  | 110, h => cases h
  | 111, h => cases h
  | 113, h => cases h
  | 114, h => cases h
  | 115, h => cases h
  | 119, h => cases h
  | 121, h => cases h
  | 122, h => cases h
  | 128, h => cases h
  | _ + 129, h => cases h
end Go.Proofs.Ytngdpbjgmajfmaa
