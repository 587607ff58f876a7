/- The types of this seat's translation as a table, right of the program (printed by gen_tt.py of this folder's author out of the translation). -/
import Derived.Test.YtkglnfkbejoheaaDoorProg
import Derived.Test.YtkglnfkbejoheaaDoorAwm
import Derived.KernelRfl
namespace Go.Proofs.YtkglnfkbejoheaaDoor
open Go.Aw
theorem TIok.mk {P : Program} {t : TypeId} {i : TI} {z : Value} (h1 : P.underlying t = some i.desc) (h2 : (P.info? t).map (fun i => (i.size, i.bytes, i.zero)) = some (i.size, i.bytes, some z)) (h3 : z.cells.size = i.size) (h4 : i.zero = z.cells.toList.map zeroAV) (h5 : z.cells.toList.all okZero = true) : TIok P t i := by
  obtain ⟨info, hi, he⟩ := Option.map_eq_some_iff.1 h2
  simp only [Prod.mk.injEq] at he
  exact ⟨h1, info, z, hi, he.1, he.2.1, he.2.2, h3, h4, h5⟩
set_option maxRecDepth 100000 in
def tt : TT := [
  none,
  none,
  some ⟨(.int .i64), 1, 8, [(.i .i64 fun _ => 0)]⟩,
  some ⟨(.int .i64), 1, 8, [(.i .i64 fun _ => 0)]⟩,
  some ⟨.bool, 1, 1, [(.b fun _ => false)]⟩,
  some ⟨(.int .u8), 1, 1, [(.i .u8 fun _ => 0)]⟩,
  some ⟨(.int .u8), 1, 1, [(.i .u8 fun _ => 0)]⟩,
  some ⟨(.struct #[⟨"x", 2, 0, false, "", "runtime", 0⟩, ⟨"y", 3, 1, false, "", "runtime", 8⟩, ⟨"signed", 4, 2, false, "", "runtime", 16⟩, ⟨"code", 6, 3, false, "", "runtime", 17⟩]), 4, 24, [(.i .i64 fun _ => 0), (.i .i64 fun _ => 0), (.b fun _ => false), (.i .u8 fun _ => 0)]⟩,
  none,
  some ⟨.string, 1, 16, [(.s fun _ => ⟨#[]⟩)]⟩,
  none,
  none,
  some ⟨(.int .u64), 1, 8, [(.i .u64 fun _ => 0)]⟩,
  some ⟨(.struct #[⟨"msg", 9, 0, false, "", "runtime", 0⟩, ⟨"addr", 12, 1, false, "", "runtime", 16⟩]), 2, 24, [(.s fun _ => ⟨#[]⟩), (.i .u64 fun _ => 0)]⟩,
  none,
  none,
  none,
  none,
  some ⟨(.struct #[⟨"typ", 17, 0, false, "", "internal/runtime/maps", 0⟩]), 1, 8, [.v (.pointer none)]⟩,
  none,
  some ⟨(.interface #[]), 1, 16, [.v .nilIface]⟩,
  some ⟨(.int .i32), 1, 4, [(.i .i32 fun _ => 0)]⟩,
  some ⟨(.float .f32), 1, 4, [(.f .f32 fun _ => 0)]⟩,
  some ⟨(.struct #[⟨"Rate", 22, 0, false, "", "", 0⟩, ⟨"Off", 22, 1, false, "", "", 4⟩, ⟨"Turn", 22, 2, false, "", "", 8⟩, ⟨"Time", 22, 3, false, "", "", 12⟩]), 4, 16, [(.f .f32 fun _ => 0), (.f .f32 fun _ => 0), (.f .f32 fun _ => 0), (.f .f32 fun _ => 0)]⟩,
  some ⟨(.struct #[⟨"Rate", 22, 0, false, "", "", 0⟩, ⟨"Off", 22, 1, false, "", "", 4⟩, ⟨"Turn", 22, 2, false, "", "", 8⟩, ⟨"Time", 22, 3, false, "", "", 12⟩]), 4, 16, [(.f .f32 fun _ => 0), (.f .f32 fun _ => 0), (.f .f32 fun _ => 0), (.f .f32 fun _ => 0)]⟩,
  none,
  none,
  none,
  none,
  some ⟨(.slice 22), 1, 24, [.v (.slice none 0 0)]⟩,
  some ⟨(.struct #[⟨"Edges", 29, 0, false, "", "", 0⟩, ⟨"Heights", 29, 1, false, "", "", 24⟩]), 2, 48, [.v (.slice none 0 0), .v (.slice none 0 0)]⟩,
  some ⟨(.struct #[⟨"Edges", 29, 0, false, "", "", 0⟩, ⟨"Heights", 29, 1, false, "", "", 24⟩]), 2, 48, [.v (.slice none 0 0), .v (.slice none 0 0)]⟩,
  none,
  none,
  none,
  none,
  some ⟨(.slice 5), 1, 24, [.v (.slice none 0 0)]⟩,
  none,
  some ⟨(.slice 46), 1, 24, [.v (.slice none 0 0)]⟩,
  none,
  some ⟨(.slice 3), 1, 24, [.v (.slice none 0 0)]⟩,
  none,
  none,
  some ⟨(.slice 71), 1, 24, [.v (.slice none 0 0)]⟩,
  some ⟨(.slice 74), 1, 24, [.v (.slice none 0 0)]⟩,
  some ⟨(.struct #[⟨"Name", 9, 0, false, "", "", 0⟩, ⟨"Lines", 43, 1, false, "", "", 16⟩, ⟨"List", 29, 2, false, "", "", 40⟩, ⟨"Phases", 44, 3, false, "", "", 64⟩]), 4, 88, [(.s fun _ => ⟨#[]⟩), .v (.slice none 0 0), .v (.slice none 0 0), .v (.slice none 0 0)]⟩,
  some ⟨(.struct #[⟨"Name", 9, 0, false, "", "", 0⟩, ⟨"Lines", 43, 1, false, "", "", 16⟩, ⟨"List", 29, 2, false, "", "", 40⟩, ⟨"Phases", 44, 3, false, "", "", 64⟩]), 4, 88, [(.s fun _ => ⟨#[]⟩), .v (.slice none 0 0), .v (.slice none 0 0), .v (.slice none 0 0)]⟩,
  none,
  none,
  none,
  none,
  none,
  none,
  none,
  none,
  none,
  none,
  none,
  none,
  some ⟨(.float .f64), 1, 8, [(.f .f64 fun _ => 0)]⟩,
  none,
  none,
  none,
  none,
  none,
  none,
  none,
  none,
  none,
  some ⟨(.slice 9), 1, 24, [.v (.slice none 0 0)]⟩,
  some ⟨(.struct #[⟨"Place", 22, 0, false, "", "", 0⟩, ⟨"Height", 22, 1, false, "", "", 4⟩, ⟨"Width", 22, 2, false, "", "", 8⟩, ⟨"Kind", 2, 3, false, "", "", 16⟩]), 4, 24, [(.f .f32 fun _ => 0), (.f .f32 fun _ => 0), (.f .f32 fun _ => 0), (.i .i64 fun _ => 0)]⟩,
  some ⟨(.struct #[⟨"Place", 22, 0, false, "", "", 0⟩, ⟨"Height", 22, 1, false, "", "", 4⟩, ⟨"Width", 22, 2, false, "", "", 8⟩, ⟨"Kind", 2, 3, false, "", "", 16⟩]), 4, 24, [(.f .f32 fun _ => 0), (.f .f32 fun _ => 0), (.f .f32 fun _ => 0), (.i .i64 fun _ => 0)]⟩,
  none,
  none,
  some ⟨(.complex .f32), 1, 8, [(.c .f32 (fun _ => 0) fun _ => 0)]⟩,
  none,
  none,
  none,
  none,
  none,
  none,
  none,
  none,
  none,
  none,
  none,
  none,
  some ⟨(.struct #[⟨"addr", 86, 0, false, "", "strings", 0⟩, ⟨"buf", 36, 1, false, "", "strings", 8⟩]), 2, 32, [.v (.pointer none), .v (.slice none 0 0)]⟩,
  some ⟨(.struct #[⟨"addr", 86, 0, false, "", "strings", 0⟩, ⟨"buf", 36, 1, false, "", "strings", 8⟩]), 2, 32, [.v (.pointer none), .v (.slice none 0 0)]⟩,
  some ⟨(.interface #[("Error", 93)]), 1, 16, [.v .nilIface]⟩,
  some ⟨(.interface #[("Error", 93)]), 1, 16, [.v .nilIface]⟩,
  none,
  none,
  none,
  none,
  some ⟨(.pointer 24), 1, 8, [.v (.pointer none)]⟩,
  none,
  none,
  none,
  none,
  none,
  none,
  some ⟨(.int .u64), 1, 8, [(.i .u64 fun _ => 0)]⟩,
  some ⟨(.struct #[⟨"code", 36, 0, false, "", "loop.example/g01403/spec", 0⟩, ⟨"at", 3, 1, false, "", "loop.example/g01403/spec", 24⟩, ⟨"seed", 102, 2, false, "", "loop.example/g01403/spec", 32⟩]), 3, 40, [.v (.slice none 0 0), (.i .i64 fun _ => 0), (.i .u64 fun _ => 0)]⟩,
  some ⟨(.struct #[⟨"code", 36, 0, false, "", "loop.example/g01403/spec", 0⟩, ⟨"at", 3, 1, false, "", "loop.example/g01403/spec", 24⟩, ⟨"seed", 102, 2, false, "", "loop.example/g01403/spec", 32⟩]), 3, 40, [.v (.slice none 0 0), (.i .i64 fun _ => 0), (.i .u64 fun _ => 0)]⟩,
  none,
  none,
  none,
  none,
  none,
  some ⟨(.int .u64), 1, 8, [(.i .u64 fun _ => 0)]⟩,
  some ⟨(.struct #[⟨"s", 9, 0, false, "", "loop.example/g01403/impl", 0⟩, ⟨"bad", 4, 1, false, "", "loop.example/g01403/impl", 16⟩]), 2, 24, [(.s fun _ => ⟨#[]⟩), (.b fun _ => false)]⟩,
  some ⟨(.struct #[⟨"s", 9, 0, false, "", "loop.example/g01403/impl", 0⟩, ⟨"bad", 4, 1, false, "", "loop.example/g01403/impl", 16⟩]), 2, 24, [(.s fun _ => ⟨#[]⟩), (.b fun _ => false)]⟩,
  none,
  none,
  none,
  none,
  none,
  none,
  none,
  none,
  none,
  none,
  none,
  none,
  some ⟨(.pointer 5), 1, 8, [.v (.pointer none)]⟩,
  none,
  none,
  none,
  none,
  none,
  none,
  none,
  some ⟨(.int .u32), 1, 4, [(.i .u32 fun _ => 0)]⟩,
  none,
  none,
  none,
  some ⟨(.pointer 31), 1, 8, [.v (.pointer none)]⟩,
  none,
  none,
  none,
  none,
  none,
  none,
  none,
  none,
  none,
  none,
  none,
  none,
  none,
  none,
  none,
  none,
  none,
  none,
  none,
  none,
  none,
  none,
  none,
  none,
  none,
  none,
  none,
  none,
  none,
  none,
  none,
  none,
  none,
  none,
  none,
  none,
  none,
  none,
  none,
  none,
  none,
  none,
  none,
  none,
  none,
  none,
  none,
  none,
  some ⟨(.struct #[⟨"Func", 9, 0, false, "", "", 0⟩, ⟨"Num", 9, 1, false, "", "", 16⟩, ⟨"Err", 90, 2, false, "", "", 32⟩]), 3, 48, [(.s fun _ => ⟨#[]⟩), (.s fun _ => ⟨#[]⟩), .v .nilIface]⟩,
  some ⟨(.struct #[⟨"Func", 9, 0, false, "", "", 0⟩, ⟨"Num", 9, 1, false, "", "", 16⟩, ⟨"Err", 90, 2, false, "", "", 32⟩]), 3, 48, [(.s fun _ => ⟨#[]⟩), (.s fun _ => ⟨#[]⟩), .v .nilIface]⟩,
  none,
  some ⟨(.array 24 5), 24, 24, [(.i .u8 fun _ => 0), (.i .u8 fun _ => 0), (.i .u8 fun _ => 0), (.i .u8 fun _ => 0), (.i .u8 fun _ => 0), (.i .u8 fun _ => 0), (.i .u8 fun _ => 0), (.i .u8 fun _ => 0), (.i .u8 fun _ => 0), (.i .u8 fun _ => 0), (.i .u8 fun _ => 0), (.i .u8 fun _ => 0), (.i .u8 fun _ => 0), (.i .u8 fun _ => 0), (.i .u8 fun _ => 0), (.i .u8 fun _ => 0), (.i .u8 fun _ => 0), (.i .u8 fun _ => 0), (.i .u8 fun _ => 0), (.i .u8 fun _ => 0), (.i .u8 fun _ => 0), (.i .u8 fun _ => 0), (.i .u8 fun _ => 0), (.i .u8 fun _ => 0)]⟩,
  none,
  none,
  none,
  none,
  none,
  none,
  some ⟨(.struct #[⟨"lo", 5, 0, false, "", "unicode/utf8", 0⟩, ⟨"hi", 5, 1, false, "", "unicode/utf8", 1⟩]), 2, 2, [(.i .u8 fun _ => 0), (.i .u8 fun _ => 0)]⟩,
  some ⟨(.struct #[⟨"lo", 5, 0, false, "", "unicode/utf8", 0⟩, ⟨"hi", 5, 1, false, "", "unicode/utf8", 1⟩]), 2, 2, [(.i .u8 fun _ => 0), (.i .u8 fun _ => 0)]⟩,
  some ⟨(.array 16 197), 32, 32, [(.i .u8 fun _ => 0), (.i .u8 fun _ => 0), (.i .u8 fun _ => 0), (.i .u8 fun _ => 0), (.i .u8 fun _ => 0), (.i .u8 fun _ => 0), (.i .u8 fun _ => 0), (.i .u8 fun _ => 0), (.i .u8 fun _ => 0), (.i .u8 fun _ => 0), (.i .u8 fun _ => 0), (.i .u8 fun _ => 0), (.i .u8 fun _ => 0), (.i .u8 fun _ => 0), (.i .u8 fun _ => 0), (.i .u8 fun _ => 0), (.i .u8 fun _ => 0), (.i .u8 fun _ => 0), (.i .u8 fun _ => 0), (.i .u8 fun _ => 0), (.i .u8 fun _ => 0), (.i .u8 fun _ => 0), (.i .u8 fun _ => 0), (.i .u8 fun _ => 0), (.i .u8 fun _ => 0), (.i .u8 fun _ => 0), (.i .u8 fun _ => 0), (.i .u8 fun _ => 0), (.i .u8 fun _ => 0), (.i .u8 fun _ => 0), (.i .u8 fun _ => 0), (.i .u8 fun _ => 0)]⟩,
  none,
  none,
  some ⟨(.struct #[⟨"s", 9, 0, false, "", "errors", 0⟩]), 1, 16, [(.s fun _ => ⟨#[]⟩)]⟩,
  some ⟨(.struct #[⟨"s", 9, 0, false, "", "errors", 0⟩]), 1, 16, [(.s fun _ => ⟨#[]⟩)]⟩,
  none,
  some ⟨(.array 20 102), 20, 160, [(.i .u64 fun _ => 0), (.i .u64 fun _ => 0), (.i .u64 fun _ => 0), (.i .u64 fun _ => 0), (.i .u64 fun _ => 0), (.i .u64 fun _ => 0), (.i .u64 fun _ => 0), (.i .u64 fun _ => 0), (.i .u64 fun _ => 0), (.i .u64 fun _ => 0), (.i .u64 fun _ => 0), (.i .u64 fun _ => 0), (.i .u64 fun _ => 0), (.i .u64 fun _ => 0), (.i .u64 fun _ => 0), (.i .u64 fun _ => 0), (.i .u64 fun _ => 0), (.i .u64 fun _ => 0), (.i .u64 fun _ => 0), (.i .u64 fun _ => 0)]⟩,
  none,
  none,
  none,
  none,
  some ⟨(.array 32 5), 32, 32, [(.i .u8 fun _ => 0), (.i .u8 fun _ => 0), (.i .u8 fun _ => 0), (.i .u8 fun _ => 0), (.i .u8 fun _ => 0), (.i .u8 fun _ => 0), (.i .u8 fun _ => 0), (.i .u8 fun _ => 0), (.i .u8 fun _ => 0), (.i .u8 fun _ => 0), (.i .u8 fun _ => 0), (.i .u8 fun _ => 0), (.i .u8 fun _ => 0), (.i .u8 fun _ => 0), (.i .u8 fun _ => 0), (.i .u8 fun _ => 0), (.i .u8 fun _ => 0), (.i .u8 fun _ => 0), (.i .u8 fun _ => 0), (.i .u8 fun _ => 0), (.i .u8 fun _ => 0), (.i .u8 fun _ => 0), (.i .u8 fun _ => 0), (.i .u8 fun _ => 0), (.i .u8 fun _ => 0), (.i .u8 fun _ => 0), (.i .u8 fun _ => 0), (.i .u8 fun _ => 0), (.i .u8 fun _ => 0), (.i .u8 fun _ => 0), (.i .u8 fun _ => 0), (.i .u8 fun _ => 0)]⟩,
  none,
  some ⟨(.struct #[⟨"_interface", 17, 0, false, "", "runtime", 0⟩, ⟨"concrete", 17, 1, false, "", "runtime", 8⟩, ⟨"asserted", 17, 2, false, "", "runtime", 16⟩, ⟨"missingMethod", 9, 3, false, "", "runtime", 24⟩]), 4, 40, [.v (.pointer none), .v (.pointer none), .v (.pointer none), (.s fun _ => ⟨#[]⟩)]⟩,
  some ⟨(.struct #[⟨"_interface", 17, 0, false, "", "runtime", 0⟩, ⟨"concrete", 17, 1, false, "", "runtime", 8⟩, ⟨"asserted", 17, 2, false, "", "runtime", 16⟩, ⟨"missingMethod", 9, 3, false, "", "runtime", 24⟩]), 4, 40, [.v (.pointer none), .v (.pointer none), .v (.pointer none), (.s fun _ => ⟨#[]⟩)]⟩,
  some ⟨(.array 0 16), 0, 0, []⟩,
  some ⟨(.struct #[⟨"_", 213, 0, false, "", "runtime", 0⟩]), 0, 0, []⟩,
  some ⟨(.struct #[⟨"_", 213, 0, false, "", "runtime", 0⟩]), 0, 0, []⟩,
  some ⟨(.int .u8), 1, 1, [(.i .u8 fun _ => 0)]⟩,
  none,
  none,
  some ⟨(.int .i32), 1, 4, [(.i .i32 fun _ => 0)]⟩,
  some ⟨(.int .i32), 1, 4, [(.i .i32 fun _ => 0)]⟩,
  some ⟨(.struct #[⟨"Size_", 12, 0, false, "", "", 0⟩, ⟨"PtrBytes", 12, 1, false, "", "", 8⟩, ⟨"Hash", 133, 2, false, "", "", 16⟩, ⟨"TFlag", 216, 3, false, "", "", 20⟩, ⟨"Align_", 5, 4, false, "", "", 21⟩, ⟨"FieldAlign_", 5, 5, false, "", "", 22⟩, ⟨"Kind_", 217, 6, false, "", "", 23⟩, ⟨"Equal", 218, 7, false, "", "", 24⟩, ⟨"GCData", 125, 8, false, "", "", 32⟩, ⟨"Str", 219, 9, false, "", "", 40⟩, ⟨"PtrToThis", 220, 10, false, "", "", 44⟩]), 11, 48, [(.i .u64 fun _ => 0), (.i .u64 fun _ => 0), (.i .u32 fun _ => 0), (.i .u8 fun _ => 0), (.i .u8 fun _ => 0), (.i .u8 fun _ => 0), (.i .u8 fun _ => 0), .v .nilFunc, .v (.pointer none), (.i .i32 fun _ => 0), (.i .i32 fun _ => 0)]⟩,
  some ⟨(.struct #[⟨"Size_", 12, 0, false, "", "", 0⟩, ⟨"PtrBytes", 12, 1, false, "", "", 8⟩, ⟨"Hash", 133, 2, false, "", "", 16⟩, ⟨"TFlag", 216, 3, false, "", "", 20⟩, ⟨"Align_", 5, 4, false, "", "", 21⟩, ⟨"FieldAlign_", 5, 5, false, "", "", 22⟩, ⟨"Kind_", 217, 6, false, "", "", 23⟩, ⟨"Equal", 218, 7, false, "", "", 24⟩, ⟨"GCData", 125, 8, false, "", "", 32⟩, ⟨"Str", 219, 9, false, "", "", 40⟩, ⟨"PtrToThis", 220, 10, false, "", "", 44⟩]), 11, 48, [(.i .u64 fun _ => 0), (.i .u64 fun _ => 0), (.i .u32 fun _ => 0), (.i .u8 fun _ => 0), (.i .u8 fun _ => 0), (.i .u8 fun _ => 0), (.i .u8 fun _ => 0), .v .nilFunc, .v (.pointer none), (.i .i32 fun _ => 0), (.i .i32 fun _ => 0)]⟩]
set_option maxRecDepth 100000 in
theorem ttok : TTok Tryd.prog tt := by
  intro t i h
  match t, h with
  | 2, h => cases h; exact TIok.mk (z := (.int .i64 0)) (by kernel_rfl) (by kernel_rfl) rfl rfl (by decide +kernel)
  | 3, h => cases h; exact TIok.mk (z := (.int .i64 0)) (by kernel_rfl) (by kernel_rfl) rfl rfl (by decide +kernel)
  | 4, h => cases h; exact TIok.mk (z := (.bool false)) (by kernel_rfl) (by kernel_rfl) rfl rfl (by decide +kernel)
  | 5, h => cases h; exact TIok.mk (z := (.int .u8 0)) (by kernel_rfl) (by kernel_rfl) rfl rfl (by decide +kernel)
  | 6, h => cases h; exact TIok.mk (z := (.int .u8 0)) (by kernel_rfl) (by kernel_rfl) rfl rfl (by decide +kernel)
  | 7, h => cases h; exact TIok.mk (z := (.agg #[(.int .i64 0), (.int .i64 0), (.bool false), (.int .u8 0)])) (by kernel_rfl) (by kernel_rfl) rfl rfl (by decide +kernel)
  | 9, h => cases h; exact TIok.mk (z := (.string ⟨#[]⟩)) (by kernel_rfl) (by kernel_rfl) rfl rfl (by decide +kernel)
  | 12, h => cases h; exact TIok.mk (z := (.int .u64 0)) (by kernel_rfl) (by kernel_rfl) rfl rfl (by decide +kernel)
  | 13, h => cases h; exact TIok.mk (z := (.agg #[(.string ⟨#[]⟩), (.int .u64 0)])) (by kernel_rfl) (by kernel_rfl) rfl rfl (by decide +kernel)
  | 18, h => cases h; exact TIok.mk (z := (.agg #[(.pointer none)])) (by kernel_rfl) (by kernel_rfl) rfl rfl (by decide +kernel)
  | 20, h => cases h; exact TIok.mk (z := .nilIface) (by kernel_rfl) (by kernel_rfl) rfl rfl (by decide +kernel)
  | 21, h => cases h; exact TIok.mk (z := (.int .i32 0)) (by kernel_rfl) (by kernel_rfl) rfl rfl (by decide +kernel)
  | 22, h => cases h; exact TIok.mk (z := (.float .f32 0)) (by kernel_rfl) (by kernel_rfl) rfl rfl (by decide +kernel)
  | 23, h => cases h; exact TIok.mk (z := (.agg #[(.float .f32 0), (.float .f32 0), (.float .f32 0), (.float .f32 0)])) (by kernel_rfl) (by kernel_rfl) rfl rfl (by decide +kernel)
  | 24, h => cases h; exact TIok.mk (z := (.agg #[(.float .f32 0), (.float .f32 0), (.float .f32 0), (.float .f32 0)])) (by kernel_rfl) (by kernel_rfl) rfl rfl (by decide +kernel)
  | 29, h => cases h; exact TIok.mk (z := (.slice none 0 0)) (by kernel_rfl) (by kernel_rfl) rfl rfl (by decide +kernel)
  | 30, h => cases h; exact TIok.mk (z := (.agg #[(.slice none 0 0), (.slice none 0 0)])) (by kernel_rfl) (by kernel_rfl) rfl rfl (by decide +kernel)
  | 31, h => cases h; exact TIok.mk (z := (.agg #[(.slice none 0 0), (.slice none 0 0)])) (by kernel_rfl) (by kernel_rfl) rfl rfl (by decide +kernel)
  | 36, h => cases h; exact TIok.mk (z := (.slice none 0 0)) (by kernel_rfl) (by kernel_rfl) rfl rfl (by decide +kernel)
  | 38, h => cases h; exact TIok.mk (z := (.slice none 0 0)) (by kernel_rfl) (by kernel_rfl) rfl rfl (by decide +kernel)
  | 40, h => cases h; exact TIok.mk (z := (.slice none 0 0)) (by kernel_rfl) (by kernel_rfl) rfl rfl (by decide +kernel)
  | 43, h => cases h; exact TIok.mk (z := (.slice none 0 0)) (by kernel_rfl) (by kernel_rfl) rfl rfl (by decide +kernel)
  | 44, h => cases h; exact TIok.mk (z := (.slice none 0 0)) (by kernel_rfl) (by kernel_rfl) rfl rfl (by decide +kernel)
  | 45, h => cases h; exact TIok.mk (z := (.agg #[(.string ⟨#[]⟩), (.slice none 0 0), (.slice none 0 0), (.slice none 0 0)])) (by kernel_rfl) (by kernel_rfl) rfl rfl (by decide +kernel)
  | 46, h => cases h; exact TIok.mk (z := (.agg #[(.string ⟨#[]⟩), (.slice none 0 0), (.slice none 0 0), (.slice none 0 0)])) (by kernel_rfl) (by kernel_rfl) rfl rfl (by decide +kernel)
  | 59, h => cases h; exact TIok.mk (z := (.float .f64 0)) (by kernel_rfl) (by kernel_rfl) rfl rfl (by decide +kernel)
  | 69, h => cases h; exact TIok.mk (z := (.slice none 0 0)) (by kernel_rfl) (by kernel_rfl) rfl rfl (by decide +kernel)
  | 70, h => cases h; exact TIok.mk (z := (.agg #[(.float .f32 0), (.float .f32 0), (.float .f32 0), (.int .i64 0)])) (by kernel_rfl) (by kernel_rfl) rfl rfl (by decide +kernel)
  | 71, h => cases h; exact TIok.mk (z := (.agg #[(.float .f32 0), (.float .f32 0), (.float .f32 0), (.int .i64 0)])) (by kernel_rfl) (by kernel_rfl) rfl rfl (by decide +kernel)
  | 74, h => cases h; exact TIok.mk (z := (.complex .f32 0 0)) (by kernel_rfl) (by kernel_rfl) rfl rfl (by decide +kernel)
  | 87, h => cases h; exact TIok.mk (z := (.agg #[(.pointer none), (.slice none 0 0)])) (by kernel_rfl) (by kernel_rfl) rfl rfl (by decide +kernel)
  | 88, h => cases h; exact TIok.mk (z := (.agg #[(.pointer none), (.slice none 0 0)])) (by kernel_rfl) (by kernel_rfl) rfl rfl (by decide +kernel)
  | 89, h => cases h; exact TIok.mk (z := .nilIface) (by kernel_rfl) (by kernel_rfl) rfl rfl (by decide +kernel)
  | 90, h => cases h; exact TIok.mk (z := .nilIface) (by kernel_rfl) (by kernel_rfl) rfl rfl (by decide +kernel)
  | 95, h => cases h; exact TIok.mk (z := (.pointer none)) (by kernel_rfl) (by kernel_rfl) rfl rfl (by decide +kernel)
  | 102, h => cases h; exact TIok.mk (z := (.int .u64 0)) (by kernel_rfl) (by kernel_rfl) rfl rfl (by decide +kernel)
  | 103, h => cases h; exact TIok.mk (z := (.agg #[(.slice none 0 0), (.int .i64 0), (.int .u64 0)])) (by kernel_rfl) (by kernel_rfl) rfl rfl (by decide +kernel)
  | 104, h => cases h; exact TIok.mk (z := (.agg #[(.slice none 0 0), (.int .i64 0), (.int .u64 0)])) (by kernel_rfl) (by kernel_rfl) rfl rfl (by decide +kernel)
  | 110, h => cases h; exact TIok.mk (z := (.int .u64 0)) (by kernel_rfl) (by kernel_rfl) rfl rfl (by decide +kernel)
  | 111, h => cases h; exact TIok.mk (z := (.agg #[(.string ⟨#[]⟩), (.bool false)])) (by kernel_rfl) (by kernel_rfl) rfl rfl (by decide +kernel)
  | 112, h => cases h; exact TIok.mk (z := (.agg #[(.string ⟨#[]⟩), (.bool false)])) (by kernel_rfl) (by kernel_rfl) rfl rfl (by decide +kernel)
  | 125, h => cases h; exact TIok.mk (z := (.pointer none)) (by kernel_rfl) (by kernel_rfl) rfl rfl (by decide +kernel)
  | 133, h => cases h; exact TIok.mk (z := (.int .u32 0)) (by kernel_rfl) (by kernel_rfl) rfl rfl (by decide +kernel)
  | 137, h => cases h; exact TIok.mk (z := (.pointer none)) (by kernel_rfl) (by kernel_rfl) rfl rfl (by decide +kernel)
  | 186, h => cases h; exact TIok.mk (z := (.agg #[(.string ⟨#[]⟩), (.string ⟨#[]⟩), .nilIface])) (by kernel_rfl) (by kernel_rfl) rfl rfl (by decide +kernel)
  | 187, h => cases h; exact TIok.mk (z := (.agg #[(.string ⟨#[]⟩), (.string ⟨#[]⟩), .nilIface])) (by kernel_rfl) (by kernel_rfl) rfl rfl (by decide +kernel)
  | 189, h => cases h; exact TIok.mk (z := (.agg #[(.int .u8 0), (.int .u8 0), (.int .u8 0), (.int .u8 0), (.int .u8 0), (.int .u8 0), (.int .u8 0), (.int .u8 0), (.int .u8 0), (.int .u8 0), (.int .u8 0), (.int .u8 0), (.int .u8 0), (.int .u8 0), (.int .u8 0), (.int .u8 0), (.int .u8 0), (.int .u8 0), (.int .u8 0), (.int .u8 0), (.int .u8 0), (.int .u8 0), (.int .u8 0), (.int .u8 0)])) (by kernel_rfl) (by kernel_rfl) rfl rfl (by decide +kernel)
  | 196, h => cases h; exact TIok.mk (z := (.agg #[(.int .u8 0), (.int .u8 0)])) (by kernel_rfl) (by kernel_rfl) rfl rfl (by decide +kernel)
  | 197, h => cases h; exact TIok.mk (z := (.agg #[(.int .u8 0), (.int .u8 0)])) (by kernel_rfl) (by kernel_rfl) rfl rfl (by decide +kernel)
  | 198, h => cases h; exact TIok.mk (z := (.agg #[(.int .u8 0), (.int .u8 0), (.int .u8 0), (.int .u8 0), (.int .u8 0), (.int .u8 0), (.int .u8 0), (.int .u8 0), (.int .u8 0), (.int .u8 0), (.int .u8 0), (.int .u8 0), (.int .u8 0), (.int .u8 0), (.int .u8 0), (.int .u8 0), (.int .u8 0), (.int .u8 0), (.int .u8 0), (.int .u8 0), (.int .u8 0), (.int .u8 0), (.int .u8 0), (.int .u8 0), (.int .u8 0), (.int .u8 0), (.int .u8 0), (.int .u8 0), (.int .u8 0), (.int .u8 0), (.int .u8 0), (.int .u8 0)])) (by kernel_rfl) (by kernel_rfl) rfl rfl (by decide +kernel)
  | 201, h => cases h; exact TIok.mk (z := (.agg #[(.string ⟨#[]⟩)])) (by kernel_rfl) (by kernel_rfl) rfl rfl (by decide +kernel)
  | 202, h => cases h; exact TIok.mk (z := (.agg #[(.string ⟨#[]⟩)])) (by kernel_rfl) (by kernel_rfl) rfl rfl (by decide +kernel)
  | 204, h => cases h; exact TIok.mk (z := (.agg #[(.int .u64 0), (.int .u64 0), (.int .u64 0), (.int .u64 0), (.int .u64 0), (.int .u64 0), (.int .u64 0), (.int .u64 0), (.int .u64 0), (.int .u64 0), (.int .u64 0), (.int .u64 0), (.int .u64 0), (.int .u64 0), (.int .u64 0), (.int .u64 0), (.int .u64 0), (.int .u64 0), (.int .u64 0), (.int .u64 0)])) (by kernel_rfl) (by kernel_rfl) rfl rfl (by decide +kernel)
  | 209, h => cases h; exact TIok.mk (z := (.agg #[(.int .u8 0), (.int .u8 0), (.int .u8 0), (.int .u8 0), (.int .u8 0), (.int .u8 0), (.int .u8 0), (.int .u8 0), (.int .u8 0), (.int .u8 0), (.int .u8 0), (.int .u8 0), (.int .u8 0), (.int .u8 0), (.int .u8 0), (.int .u8 0), (.int .u8 0), (.int .u8 0), (.int .u8 0), (.int .u8 0), (.int .u8 0), (.int .u8 0), (.int .u8 0), (.int .u8 0), (.int .u8 0), (.int .u8 0), (.int .u8 0), (.int .u8 0), (.int .u8 0), (.int .u8 0), (.int .u8 0), (.int .u8 0)])) (by kernel_rfl) (by kernel_rfl) rfl rfl (by decide +kernel)
  | 211, h => cases h; exact TIok.mk (z := (.agg #[(.pointer none), (.pointer none), (.pointer none), (.string ⟨#[]⟩)])) (by kernel_rfl) (by kernel_rfl) rfl rfl (by decide +kernel)
  | 212, h => cases h; exact TIok.mk (z := (.agg #[(.pointer none), (.pointer none), (.pointer none), (.string ⟨#[]⟩)])) (by kernel_rfl) (by kernel_rfl) rfl rfl (by decide +kernel)
  | 213, h => cases h; exact TIok.mk (z := (.agg #[])) (by kernel_rfl) (by kernel_rfl) rfl rfl (by decide +kernel)
  | 214, h => cases h; exact TIok.mk (z := (.agg #[])) (by kernel_rfl) (by kernel_rfl) rfl rfl (by decide +kernel)
  | 215, h => cases h; exact TIok.mk (z := (.agg #[])) (by kernel_rfl) (by kernel_rfl) rfl rfl (by decide +kernel)
  | 216, h => cases h; exact TIok.mk (z := (.int .u8 0)) (by kernel_rfl) (by kernel_rfl) rfl rfl (by decide +kernel)
  | 219, h => cases h; exact TIok.mk (z := (.int .i32 0)) (by kernel_rfl) (by kernel_rfl) rfl rfl (by decide +kernel)
  | 220, h => cases h; exact TIok.mk (z := (.int .i32 0)) (by kernel_rfl) (by kernel_rfl) rfl rfl (by decide +kernel)
  | 221, h => cases h; exact TIok.mk (z := (.agg #[(.int .u64 0), (.int .u64 0), (.int .u32 0), (.int .u8 0), (.int .u8 0), (.int .u8 0), (.int .u8 0), .nilFunc, (.pointer none), (.int .i32 0), (.int .i32 0)])) (by kernel_rfl) (by kernel_rfl) rfl rfl (by decide +kernel)
  | 222, h => cases h; exact TIok.mk (z := (.agg #[(.int .u64 0), (.int .u64 0), (.int .u32 0), (.int .u8 0), (.int .u8 0), (.int .u8 0), (.int .u8 0), .nilFunc, (.pointer none), (.int .i32 0), (.int .i32 0)])) (by kernel_rfl) (by kernel_rfl) rfl rfl (by decide +kernel)
  | 0, h => cases h
  | 1, h => cases h
  | 8, h => cases h
  | 10, h => cases h
  | 11, h => cases h
  | 14, h => cases h
  | 15, h => cases h
  | 16, h => cases h
  | 17, h => cases h
  | 19, h => cases h
  | 25, h => cases h
  | 26, h => cases h
  | 27, h => cases h
  | 28, h => cases h
  | 32, h => cases h
  | 33, h => cases h
  | 34, h => cases h
  | 35, h => cases h
  | 37, h => cases h
  | 39, h => cases h
  | 41, h => cases h
  | 42, h => cases h
  | 47, h => cases h
  | 48, h => cases h
  | 49, h => cases h
  | 50, h => cases h
  | 51, h => cases h
  | 52, h => cases h
  | 53, h => cases h
  | 54, h => cases h
  | 55, h => cases h
  | 56, h => cases h
  | 57, h => cases h
  | 58, h => cases h
  | 60, h => cases h
  | 61, h => cases h
  | 62, h => cases h
  | 63, h => cases h
  | 64, h => cases h
  | 65, h => cases h
  | 66, h => cases h
  | 67, h => cases h
  | 68, h => cases h
  | 72, h => cases h
  | 73, h => cases h
  | 75, h => cases h
  | 76, h => cases h
  | 77, h => cases h
  | 78, h => cases h
  | 79, h => cases h
  | 80, h => cases h
  | 81, h => cases h
  | 82, h => cases h
  | 83, h => cases h
  | 84, h => cases h
  | 85, h => cases h
  | 86, h => cases h
  | 91, h => cases h
  | 92, h => cases h
  | 93, h => cases h
  | 94, h => cases h
  | 96, h => cases h
  | 97, h => cases h
  | 98, h => cases h
  | 99, h => cases h
  | 100, h => cases h
  | 101, h => cases h
  | 105, h => cases h
  | 106, h => cases h
  | 107, h => cases h
  | 108, h => cases h
  | 109, h => cases h
  | 113, h => cases h
  | 114, h => cases h
  | 115, h => cases h
  | 116, h => cases h
  | 117, h => cases h
  | 118, h => cases h
  | 119, h => cases h
  | 120, h => cases h
  | 121, h => cases h
  | 122, h => cases h
  | 123, h => cases h
  | 124, h => cases h
  | 126, h => cases h
  | 127, h => cases h
  | 128, h => cases h
  | 129, h => cases h
  | 130, h => cases h
  | 131, h => cases h
  | 132, h => cases h
  | 134, h => cases h
  | 135, h => cases h
  | 136, h => cases h
  | 138, h => cases h
  | 139, h => cases h
  | 140, h => cases h
  | 141, h => cases h
  | 142, h => cases h
  | 143, h => cases h
  | 144, h => cases h
  | 145, h => cases h
  | 146, h => cases h
  | 147, h => cases h
  | 148, h => cases h
  | 149, h => cases h
  | 150, h => cases h
  | 151, h => cases h
  | 152, h => cases h
  | 153, h => cases h
  | 154, h => cases h
  | 155, h => cases h
  | 156, h => cases h
  | 157, h => cases h
  | 158, h => cases h
  | 159, h => cases h
  | 160, h => cases h
  | 161, h => cases h
  | 162, h => cases h
  | 163, h => cases h
  | 164, h => cases h
  | 165, h => cases h
  | 166, h => cases h
  | 167, h => cases h
  | 168, h => cases h
  | 169, h => cases h
  | 170, h => cases h
  | 171, h => cases h
  | 172, h => cases h
  | 173, h => cases h
  | 174, h => cases h
  | 175, h => cases h
  | 176, h => cases h
  | 177, h => cases h
  | 178, h => cases h
  | 179, h => cases h
  | 180, h => cases h
  | 181, h => cases h
  | 182, h => cases h
  | 183, h => cases h
  | 184, h => cases h
  | 185, h => cases h
  | 188, h => cases h
  | 190, h => cases h
  | 191, h => cases h
  | 192, h => cases h
  | 193, h => cases h
  | 194, h => cases h
  | 195, h => cases h
  | 199, h => cases h
  | 200, h => cases h
  | 203, h => cases h
  | 205, h => cases h
  | 206, h => cases h
  | 207, h => cases h
  | 208, h => cases h
  | 210, h => cases h
  | 217, h => cases h
  | 218, h => cases h
  | _ + 223, h => cases h
end Go.Proofs.YtkglnfkbejoheaaDoor
