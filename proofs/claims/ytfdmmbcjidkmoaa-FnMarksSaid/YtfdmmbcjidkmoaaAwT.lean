/- The types of this seat's translation as a table, right of the program (printed by gen_tt.py of this folder's author out of the translation). -/
import Derived.Test.YtfdmmbcjidkmoaaProg
import Derived.Test.YtfdmmbcjidkmoaaAwm
import Derived.KernelRfl
namespace Go.Proofs.Ytfdmmbcjidkmoaa
open Go.Aw
theorem TIok.mk {P : Program} {t : TypeId} {i : TI} {z : Value} (h1 : P.underlying t = some i.desc) (h2 : (P.info? t).map (fun i => (i.size, i.bytes, i.zero)) = some (i.size, i.bytes, some z)) (h3 : z.cells.size = i.size) (h4 : i.zero = z.cells.toList.map zeroAV) (h5 : z.cells.toList.all okZero = true) : TIok P t i := by
  obtain ⟨info, hi, he⟩ := Option.map_eq_some_iff.1 h2
  simp only [Prod.mk.injEq] at he
  exact ⟨h1, info, z, hi, he.1, he.2.1, he.2.2, h3, h4, h5⟩
set_option maxRecDepth 100000 in
def tt : TT := [
  none,
  none,
  some ⟨(.int .i64), 1, 8, [(.i .i64 fun _ => 0)]⟩,
  some ⟨(.int .i64), 1, 8, [(.i .i64 fun _ => 0)]⟩,
  some ⟨.bool, 1, 1, [(.b fun _ => false)]⟩,
  some ⟨(.int .u8), 1, 1, [(.i .u8 fun _ => 0)]⟩,
  some ⟨(.int .u8), 1, 1, [(.i .u8 fun _ => 0)]⟩,
  some ⟨(.struct #[⟨"x", 2, 0, false, "", "runtime", 0⟩, ⟨"y", 3, 1, false, "", "runtime", 8⟩, ⟨"signed", 4, 2, false, "", "runtime", 16⟩, ⟨"code", 6, 3, false, "", "runtime", 17⟩]), 4, 24, [(.i .i64 fun _ => 0), (.i .i64 fun _ => 0), (.b fun _ => false), (.i .u8 fun _ => 0)]⟩,
  none,
  some ⟨.string, 1, 16, [(.s fun _ => ⟨#[]⟩)]⟩,
  none,
  none,
  some ⟨(.int .u64), 1, 8, [(.i .u64 fun _ => 0)]⟩,
  some ⟨(.struct #[⟨"msg", 9, 0, false, "", "runtime", 0⟩, ⟨"addr", 12, 1, false, "", "runtime", 16⟩]), 2, 24, [(.s fun _ => ⟨#[]⟩), (.i .u64 fun _ => 0)]⟩,
  none,
  none,
  none,
  none,
  some ⟨(.struct #[⟨"typ", 17, 0, false, "", "internal/runtime/maps", 0⟩]), 1, 8, [.v (.pointer none)]⟩,
  none,
  some ⟨(.interface #[]), 1, 16, [.v .nilIface]⟩,
  some ⟨(.int .i32), 1, 4, [(.i .i32 fun _ => 0)]⟩,
  some ⟨(.slice 5), 1, 24, [.v (.slice none 0 0)]⟩,
  none,
  none,
  some ⟨(.slice 27), 1, 24, [.v (.slice none 0 0)]⟩,
  none,
  some ⟨(.slice 28), 1, 24, [.v (.slice none 0 0)]⟩,
  some ⟨(.float .f32), 1, 4, [(.f .f32 fun _ => 0)]⟩,
  none,
  none,
  none,
  none,
  none,
  none,
  none,
  none,
  some ⟨(.float .f64), 1, 8, [(.f .f64 fun _ => 0)]⟩,
  none,
  none,
  some ⟨(.slice 2), 1, 24, [.v (.slice none 0 0)]⟩,
  none,
  none,
  none,
  none,
  none,
  none,
  none,
  none,
  none,
  none,
  none,
  none,
  none,
  none,
  none,
  none,
  none,
  none,
  none,
  none,
  none,
  none,
  none,
  none,
  none,
  none,
  none,
  none,
  none,
  some ⟨(.slice 77), 1, 24, [.v (.slice none 0 0)]⟩,
  none,
  none,
  none,
  none,
  none,
  none,
  some ⟨(.complex .f32), 1, 8, [(.c .f32 (fun _ => 0) fun _ => 0)]⟩,
  none,
  none,
  none,
  none,
  none,
  none,
  none,
  none,
  none,
  none,
  none,
  none,
  none,
  none,
  none,
  none,
  none,
  none,
  some ⟨(.slice 4), 1, 24, [.v (.slice none 0 0)]⟩,
  none,
  none,
  none,
  none,
  none,
  none,
  none,
  none,
  none,
  none,
  none,
  none,
  none,
  some ⟨(.int .u64), 1, 8, [(.i .u64 fun _ => 0)]⟩,
  some ⟨(.struct #[⟨"code", 22, 0, false, "", "loop.example/g01403/spec", 0⟩, ⟨"at", 3, 1, false, "", "loop.example/g01403/spec", 24⟩, ⟨"seed", 110, 2, false, "", "loop.example/g01403/spec", 32⟩]), 3, 40, [.v (.slice none 0 0), (.i .i64 fun _ => 0), (.i .u64 fun _ => 0)]⟩,
  some ⟨(.struct #[⟨"code", 22, 0, false, "", "loop.example/g01403/spec", 0⟩, ⟨"at", 3, 1, false, "", "loop.example/g01403/spec", 24⟩, ⟨"seed", 110, 2, false, "", "loop.example/g01403/spec", 32⟩]), 3, 40, [.v (.slice none 0 0), (.i .i64 fun _ => 0), (.i .u64 fun _ => 0)]⟩,
  none,
  none,
  none,
  none,
  none,
  none,
  none,
  none,
  none,
  none,
  none,
  none,
  some ⟨(.int .u64), 1, 8, [(.i .u64 fun _ => 0)]⟩,
  none,
  some ⟨(.int .u32), 1, 4, [(.i .u32 fun _ => 0)]⟩,
  none,
  none,
  none,
  none,
  none,
  none,
  none,
  none,
  some ⟨(.struct #[⟨"_interface", 17, 0, false, "", "runtime", 0⟩, ⟨"concrete", 17, 1, false, "", "runtime", 8⟩, ⟨"asserted", 17, 2, false, "", "runtime", 16⟩, ⟨"missingMethod", 9, 3, false, "", "runtime", 24⟩]), 4, 40, [.v (.pointer none), .v (.pointer none), .v (.pointer none), (.s fun _ => ⟨#[]⟩)]⟩,
  some ⟨(.struct #[⟨"_interface", 17, 0, false, "", "runtime", 0⟩, ⟨"concrete", 17, 1, false, "", "runtime", 8⟩, ⟨"asserted", 17, 2, false, "", "runtime", 16⟩, ⟨"missingMethod", 9, 3, false, "", "runtime", 24⟩]), 4, 40, [.v (.pointer none), .v (.pointer none), .v (.pointer none), (.s fun _ => ⟨#[]⟩)]⟩,
  some ⟨(.array 0 16), 0, 0, []⟩,
  some ⟨(.struct #[⟨"_", 138, 0, false, "", "runtime", 0⟩]), 0, 0, []⟩,
  some ⟨(.struct #[⟨"_", 138, 0, false, "", "runtime", 0⟩]), 0, 0, []⟩,
  none,
  some ⟨(.int .u8), 1, 1, [(.i .u8 fun _ => 0)]⟩,
  none,
  none,
  some ⟨(.pointer 5), 1, 8, [.v (.pointer none)]⟩,
  some ⟨(.int .i32), 1, 4, [(.i .i32 fun _ => 0)]⟩,
  some ⟨(.int .i32), 1, 4, [(.i .i32 fun _ => 0)]⟩,
  some ⟨(.struct #[⟨"Size_", 12, 0, false, "", "", 0⟩, ⟨"PtrBytes", 12, 1, false, "", "", 8⟩, ⟨"Hash", 127, 2, false, "", "", 16⟩, ⟨"TFlag", 142, 3, false, "", "", 20⟩, ⟨"Align_", 5, 4, false, "", "", 21⟩, ⟨"FieldAlign_", 5, 5, false, "", "", 22⟩, ⟨"Kind_", 143, 6, false, "", "", 23⟩, ⟨"Equal", 144, 7, false, "", "", 24⟩, ⟨"GCData", 145, 8, false, "", "", 32⟩, ⟨"Str", 146, 9, false, "", "", 40⟩, ⟨"PtrToThis", 147, 10, false, "", "", 44⟩]), 11, 48, [(.i .u64 fun _ => 0), (.i .u64 fun _ => 0), (.i .u32 fun _ => 0), (.i .u8 fun _ => 0), (.i .u8 fun _ => 0), (.i .u8 fun _ => 0), (.i .u8 fun _ => 0), .v .nilFunc, .v (.pointer none), (.i .i32 fun _ => 0), (.i .i32 fun _ => 0)]⟩,
  some ⟨(.struct #[⟨"Size_", 12, 0, false, "", "", 0⟩, ⟨"PtrBytes", 12, 1, false, "", "", 8⟩, ⟨"Hash", 127, 2, false, "", "", 16⟩, ⟨"TFlag", 142, 3, false, "", "", 20⟩, ⟨"Align_", 5, 4, false, "", "", 21⟩, ⟨"FieldAlign_", 5, 5, false, "", "", 22⟩, ⟨"Kind_", 143, 6, false, "", "", 23⟩, ⟨"Equal", 144, 7, false, "", "", 24⟩, ⟨"GCData", 145, 8, false, "", "", 32⟩, ⟨"Str", 146, 9, false, "", "", 40⟩, ⟨"PtrToThis", 147, 10, false, "", "", 44⟩]), 11, 48, [(.i .u64 fun _ => 0), (.i .u64 fun _ => 0), (.i .u32 fun _ => 0), (.i .u8 fun _ => 0), (.i .u8 fun _ => 0), (.i .u8 fun _ => 0), (.i .u8 fun _ => 0), .v .nilFunc, .v (.pointer none), (.i .i32 fun _ => 0), (.i .i32 fun _ => 0)]⟩,
  none]
set_option maxRecDepth 100000 in
theorem ttok : TTok Try.prog tt := by
  intro t i h
  match t, h with
  | 2, h => cases h; exact TIok.mk (z := (.int .i64 0)) (by kernel_rfl) (by kernel_rfl) rfl rfl (by decide +kernel)
  | 3, h => cases h; exact TIok.mk (z := (.int .i64 0)) (by kernel_rfl) (by kernel_rfl) rfl rfl (by decide +kernel)
  | 4, h => cases h; exact TIok.mk (z := (.bool false)) (by kernel_rfl) (by kernel_rfl) rfl rfl (by decide +kernel)
  | 5, h => cases h; exact TIok.mk (z := (.int .u8 0)) (by kernel_rfl) (by kernel_rfl) rfl rfl (by decide +kernel)
  | 6, h => cases h; exact TIok.mk (z := (.int .u8 0)) (by kernel_rfl) (by kernel_rfl) rfl rfl (by decide +kernel)
  | 7, h => cases h; exact TIok.mk (z := (.agg #[(.int .i64 0), (.int .i64 0), (.bool false), (.int .u8 0)])) (by kernel_rfl) (by kernel_rfl) rfl rfl (by decide +kernel)
  | 9, h => cases h; exact TIok.mk (z := (.string ⟨#[]⟩)) (by kernel_rfl) (by kernel_rfl) rfl rfl (by decide +kernel)
  | 12, h => cases h; exact TIok.mk (z := (.int .u64 0)) (by kernel_rfl) (by kernel_rfl) rfl rfl (by decide +kernel)
  | 13, h => cases h; exact TIok.mk (z := (.agg #[(.string ⟨#[]⟩), (.int .u64 0)])) (by kernel_rfl) (by kernel_rfl) rfl rfl (by decide +kernel)
  | 18, h => cases h; exact TIok.mk (z := (.agg #[(.pointer none)])) (by kernel_rfl) (by kernel_rfl) rfl rfl (by decide +kernel)
  | 20, h => cases h; exact TIok.mk (z := .nilIface) (by kernel_rfl) (by kernel_rfl) rfl rfl (by decide +kernel)
  | 21, h => cases h; exact TIok.mk (z := (.int .i32 0)) (by kernel_rfl) (by kernel_rfl) rfl rfl (by decide +kernel)
  | 22, h => cases h; exact TIok.mk (z := (.slice none 0 0)) (by kernel_rfl) (by kernel_rfl) rfl rfl (by decide +kernel)
  | 25, h => cases h; exact TIok.mk (z := (.slice none 0 0)) (by kernel_rfl) (by kernel_rfl) rfl rfl (by decide +kernel)
  | 27, h => cases h; exact TIok.mk (z := (.slice none 0 0)) (by kernel_rfl) (by kernel_rfl) rfl rfl (by decide +kernel)
  | 28, h => cases h; exact TIok.mk (z := (.float .f32 0)) (by kernel_rfl) (by kernel_rfl) rfl rfl (by decide +kernel)
  | 37, h => cases h; exact TIok.mk (z := (.float .f64 0)) (by kernel_rfl) (by kernel_rfl) rfl rfl (by decide +kernel)
  | 40, h => cases h; exact TIok.mk (z := (.slice none 0 0)) (by kernel_rfl) (by kernel_rfl) rfl rfl (by decide +kernel)
  | 70, h => cases h; exact TIok.mk (z := (.slice none 0 0)) (by kernel_rfl) (by kernel_rfl) rfl rfl (by decide +kernel)
  | 77, h => cases h; exact TIok.mk (z := (.complex .f32 0 0)) (by kernel_rfl) (by kernel_rfl) rfl rfl (by decide +kernel)
  | 96, h => cases h; exact TIok.mk (z := (.slice none 0 0)) (by kernel_rfl) (by kernel_rfl) rfl rfl (by decide +kernel)
  | 110, h => cases h; exact TIok.mk (z := (.int .u64 0)) (by kernel_rfl) (by kernel_rfl) rfl rfl (by decide +kernel)
  | 111, h => cases h; exact TIok.mk (z := (.agg #[(.slice none 0 0), (.int .i64 0), (.int .u64 0)])) (by kernel_rfl) (by kernel_rfl) rfl rfl (by decide +kernel)
  | 112, h => cases h; exact TIok.mk (z := (.agg #[(.slice none 0 0), (.int .i64 0), (.int .u64 0)])) (by kernel_rfl) (by kernel_rfl) rfl rfl (by decide +kernel)
  | 125, h => cases h; exact TIok.mk (z := (.int .u64 0)) (by kernel_rfl) (by kernel_rfl) rfl rfl (by decide +kernel)
  | 127, h => cases h; exact TIok.mk (z := (.int .u32 0)) (by kernel_rfl) (by kernel_rfl) rfl rfl (by decide +kernel)
  | 136, h => cases h; exact TIok.mk (z := (.agg #[(.pointer none), (.pointer none), (.pointer none), (.string ⟨#[]⟩)])) (by kernel_rfl) (by kernel_rfl) rfl rfl (by decide +kernel)
  | 137, h => cases h; exact TIok.mk (z := (.agg #[(.pointer none), (.pointer none), (.pointer none), (.string ⟨#[]⟩)])) (by kernel_rfl) (by kernel_rfl) rfl rfl (by decide +kernel)
  | 138, h => cases h; exact TIok.mk (z := (.agg #[])) (by kernel_rfl) (by kernel_rfl) rfl rfl (by decide +kernel)
  | 139, h => cases h; exact TIok.mk (z := (.agg #[])) (by kernel_rfl) (by kernel_rfl) rfl rfl (by decide +kernel)
  | 140, h => cases h; exact TIok.mk (z := (.agg #[])) (by kernel_rfl) (by kernel_rfl) rfl rfl (by decide +kernel)
  | 142, h => cases h; exact TIok.mk (z := (.int .u8 0)) (by kernel_rfl) (by kernel_rfl) rfl rfl (by decide +kernel)
  | 145, h => cases h; exact TIok.mk (z := (.pointer none)) (by kernel_rfl) (by kernel_rfl) rfl rfl (by decide +kernel)
  | 146, h => cases h; exact TIok.mk (z := (.int .i32 0)) (by kernel_rfl) (by kernel_rfl) rfl rfl (by decide +kernel)
  | 147, h => cases h; exact TIok.mk (z := (.int .i32 0)) (by kernel_rfl) (by kernel_rfl) rfl rfl (by decide +kernel)
  | 148, h => cases h; exact TIok.mk (z := (.agg #[(.int .u64 0), (.int .u64 0), (.int .u32 0), (.int .u8 0), (.int .u8 0), (.int .u8 0), (.int .u8 0), .nilFunc, (.pointer none), (.int .i32 0), (.int .i32 0)])) (by kernel_rfl) (by kernel_rfl) rfl rfl (by decide +kernel)
  | 149, h => cases h; exact TIok.mk (z := (.agg #[(.int .u64 0), (.int .u64 0), (.int .u32 0), (.int .u8 0), (.int .u8 0), (.int .u8 0), (.int .u8 0), .nilFunc, (.pointer none), (.int .i32 0), (.int .i32 0)])) (by kernel_rfl) (by kernel_rfl) rfl rfl (by decide +kernel)
  | 0, h => cases h
  | 1, h => cases h
  | 8, h => cases h
  | 10, h => cases h
  | 11, h => cases h
  | 14, h => cases h
  | 15, h => cases h
  | 16, h => cases h
  | 17, h => cases h
  | 19, h => cases h
  | 23, h => cases h
  | 24, h => cases h
  | 26, h => cases h
  | 29, h => cases h
  | 30, h => cases h
  | 31, h => cases h
  | 32, h => cases h
  | 33, h => cases h
  | 34, h => cases h
  | 35, h => cases h
  | 36, h => cases h
  | 38, h => cases h
  | 39, h => cases h
  | 41, h => cases h
  | 42, h => cases h
  | 43, h => cases h
  | 44, h => cases h
  | 45, h => cases h
  | 46, h => cases h
  | 47, h => cases h
  | 48, h => cases h
  | 49, h => cases h
  | 50, h => cases h
  | 51, h => cases h
  | 52, h => cases h
  | 53, h => cases h
  | 54, h => cases h
  | 55, h => cases h
  | 56, h => cases h
  | 57, h => cases h
  | 58, h => cases h
  | 59, h => cases h
  | 60, h => cases h
  | 61, h => cases h
  | 62, h => cases h
  | 63, h => cases h
  | 64, h => cases h
  | 65, h => cases h
  | 66, h => cases h
  | 67, h => cases h
  | 68, h => cases h
  | 69, h => cases h
  | 71, h => cases h
  | 72, h => cases h
  | 73, h => cases h
  | 74, h => cases h
  | 75, h => cases h
  | 76, h => cases h
  | 78, h => cases h
  | 79, h => cases h
  | 80, h => cases h
  | 81, h => cases h
  | 82, h => cases h
  | 83, h => cases h
  | 84, h => cases h
  | 85, h => cases h
  | 86, h => cases h
  | 87, h => cases h
  | 88, h => cases h
  | 89, h => cases h
  | 90, h => cases h
  | 91, h => cases h
  | 92, h => cases h
  | 93, h => cases h
  | 94, h => cases h
  | 95, h => cases h
  | 97, h => cases h
  | 98, h => cases h
  | 99, h => cases h
  | 100, h => cases h
  | 101, h => cases h
  | 102, h => cases h
  | 103, h => cases h
  | 104, h => cases h
  | 105, h => cases h
  | 106, h => cases h
  | 107, h => cases h
  | 108, h => cases h
  | 109, h => cases h
  | 113, h => cases h
  | 114, h => cases h
  | 115, h => cases h
  | 116, h => cases h
  | 117, h => cases h
  | 118, h => cases h
  | 119, h => cases h
  | 120, h => cases h
  | 121, h => cases h
  | 122, h => cases h
  | 123, h => cases h
  | 124, h => cases h
  | 126, h => cases h
  | 128, h => cases h
  | 129, h => cases h
  | 130, h => cases h
  | 131, h => cases h
  | 132, h => cases h
  | 133, h => cases h
  | 134, h => cases h
  | 135, h => cases h
  | 141, h => cases h
  | 143, h => cases h
  | 144, h => cases h
  | 150, h => cases h
  | _ + 151, h => cases h
end Go.Proofs.Ytfdmmbcjidkmoaa
