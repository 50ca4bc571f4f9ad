/-
  The table of types of this seat, for the abstract executor: it is the program's. By a program of mine (gentab.py). Conditions: none.
-/
import Derived.Test.YtobpcecpfojpmaaDoorAxL
import Derived.Test.YtobpcecpfojpmaaDoorChecked
import Derived.KernelRfl
set_option linter.unusedSimpArgs false
set_option linter.unusedVariables false
namespace Go.AX.Tryd
open Go Go.AX Go.Proofs

def tab : Tab
  | 2 => ⟨.int .i64, 1, 8, .int .i64 0⟩
  | 3 => ⟨.int .i64, 1, 8, .int .i64 0⟩
  | 4 => ⟨.bool, 1, 1, .bool false⟩
  | 5 => ⟨.int .u8, 1, 1, .int .u8 0⟩
  | 6 => ⟨.int .u8, 1, 1, .int .u8 0⟩
  | 7 => ⟨.struct [(0, 2), (1, 3), (2, 4), (3, 6)], 4, 24, .agg #[.int .i64 0, .int .i64 0, .bool false, .int .u8 0]⟩
  | 8 => ⟨.struct [(0, 2), (1, 3), (2, 4), (3, 6)], 4, 24, .agg #[.int .i64 0, .int .i64 0, .bool false, .int .u8 0]⟩
  | 9 => ⟨.str, 1, 16, .string ⟨#[]⟩⟩
  | 10 => ⟨.str, 1, 16, .string ⟨#[]⟩⟩
  | 11 => ⟨.str, 1, 16, .string ⟨#[]⟩⟩
  | 12 => ⟨.int .u64, 1, 8, .int .u64 0⟩
  | 13 => ⟨.struct [(0, 9), (1, 12)], 2, 24, .agg #[.string ⟨#[]⟩, .int .u64 0]⟩
  | 14 => ⟨.struct [(0, 9), (1, 12)], 2, 24, .agg #[.string ⟨#[]⟩, .int .u64 0]⟩
  | 18 => ⟨.struct [(0, 17)], 1, 8, .agg #[.pointer none]⟩
  | 19 => ⟨.struct [(0, 17)], 1, 8, .agg #[.pointer none]⟩
  | 21 => ⟨.int .i32, 1, 4, .int .i32 0⟩
  | 22 => ⟨.slice 3, 1, 24, .slice none 0 0⟩
  | 23 => ⟨.int .i64, 1, 8, .int .i64 0⟩
  | 34 => ⟨.slice 58, 1, 24, .slice none 0 0⟩
  | 35 => ⟨.struct [(0, 3), (1, 34)], 2, 32, .agg #[.int .i64 0, .slice none 0 0]⟩
  | 36 => ⟨.struct [(0, 3), (1, 34)], 2, 32, .agg #[.int .i64 0, .slice none 0 0]⟩
  | 38 => ⟨.fn, 1, 8, .nilFunc⟩
  | 41 => ⟨.slice 38, 1, 24, .slice none 0 0⟩
  | 44 => ⟨.fn, 1, 8, .nilFunc⟩
  | 50 => ⟨.struct [(0, 3), (1, 22)], 2, 32, .agg #[.int .i64 0, .slice none 0 0]⟩
  | 51 => ⟨.struct [(0, 3), (1, 22)], 2, 32, .agg #[.int .i64 0, .slice none 0 0]⟩
  | 57 => ⟨.struct [(0, 3), (1, 3)], 2, 16, .agg #[.int .i64 0, .int .i64 0]⟩
  | 58 => ⟨.struct [(0, 3), (1, 3)], 2, 16, .agg #[.int .i64 0, .int .i64 0]⟩
  | 72 => ⟨.int .u64, 1, 8, .int .u64 0⟩
  | 90 => ⟨.int .u32, 1, 4, .int .u32 0⟩
  | 92 => ⟨.int .u64, 1, 8, .int .u64 0⟩
  | 98 => ⟨.int .i64, 1, 8, .int .i64 0⟩
  | 107 => ⟨.int .u64, 1, 8, .int .u64 0⟩
  | 116 => ⟨.struct [(0, 17), (1, 17), (2, 17), (3, 9)], 4, 40, .agg #[.pointer none, .pointer none, .pointer none, .string ⟨#[]⟩]⟩
  | 117 => ⟨.struct [(0, 17), (1, 17), (2, 17), (3, 9)], 4, 40, .agg #[.pointer none, .pointer none, .pointer none, .string ⟨#[]⟩]⟩
  | 119 => ⟨.struct [(0, 118)], 0, 0, .agg #[]⟩
  | 120 => ⟨.struct [(0, 118)], 0, 0, .agg #[]⟩
  | 122 => ⟨.int .u8, 1, 1, .int .u8 0⟩
  | 123 => ⟨.int .u8, 1, 1, .int .u8 0⟩
  | 126 => ⟨.int .i32, 1, 4, .int .i32 0⟩
  | 127 => ⟨.int .i32, 1, 4, .int .i32 0⟩
  | 128 => ⟨.struct [(0, 12), (1, 12), (2, 90), (3, 122), (4, 5), (5, 5), (6, 123), (7, 124), (8, 125), (9, 126), (10, 127)], 11, 48, .agg #[.int .u64 0, .int .u64 0, .int .u32 0, .int .u8 0, .int .u8 0, .int .u8 0, .int .u8 0, .nilFunc, .pointer none, .int .i32 0, .int .i32 0]⟩
  | 129 => ⟨.struct [(0, 12), (1, 12), (2, 90), (3, 122), (4, 5), (5, 5), (6, 123), (7, 124), (8, 125), (9, 126), (10, 127)], 11, 48, .agg #[.int .u64 0, .int .u64 0, .int .u32 0, .int .u8 0, .int .u8 0, .int .u8 0, .int .u8 0, .nilFunc, .pointer none, .int .i32 0, .int .i32 0]⟩
  | _ => TyRow.none
theorem tab2 : tab 2 = ⟨.int .i64, 1, 8, .int .i64 0⟩ := rfl
theorem tab3 : tab 3 = ⟨.int .i64, 1, 8, .int .i64 0⟩ := rfl
theorem tab4 : tab 4 = ⟨.bool, 1, 1, .bool false⟩ := rfl
theorem tab5 : tab 5 = ⟨.int .u8, 1, 1, .int .u8 0⟩ := rfl
theorem tab6 : tab 6 = ⟨.int .u8, 1, 1, .int .u8 0⟩ := rfl
theorem tab7 : tab 7 = ⟨.struct [(0, 2), (1, 3), (2, 4), (3, 6)], 4, 24, .agg #[.int .i64 0, .int .i64 0, .bool false, .int .u8 0]⟩ := rfl
theorem tab8 : tab 8 = ⟨.struct [(0, 2), (1, 3), (2, 4), (3, 6)], 4, 24, .agg #[.int .i64 0, .int .i64 0, .bool false, .int .u8 0]⟩ := rfl
theorem tab9 : tab 9 = ⟨.str, 1, 16, .string ⟨#[]⟩⟩ := rfl
theorem tab10 : tab 10 = ⟨.str, 1, 16, .string ⟨#[]⟩⟩ := rfl
theorem tab11 : tab 11 = ⟨.str, 1, 16, .string ⟨#[]⟩⟩ := rfl
theorem tab12 : tab 12 = ⟨.int .u64, 1, 8, .int .u64 0⟩ := rfl
theorem tab13 : tab 13 = ⟨.struct [(0, 9), (1, 12)], 2, 24, .agg #[.string ⟨#[]⟩, .int .u64 0]⟩ := rfl
theorem tab14 : tab 14 = ⟨.struct [(0, 9), (1, 12)], 2, 24, .agg #[.string ⟨#[]⟩, .int .u64 0]⟩ := rfl
theorem tab18 : tab 18 = ⟨.struct [(0, 17)], 1, 8, .agg #[.pointer none]⟩ := rfl
theorem tab19 : tab 19 = ⟨.struct [(0, 17)], 1, 8, .agg #[.pointer none]⟩ := rfl
theorem tab21 : tab 21 = ⟨.int .i32, 1, 4, .int .i32 0⟩ := rfl
theorem tab22 : tab 22 = ⟨.slice 3, 1, 24, .slice none 0 0⟩ := rfl
theorem tab23 : tab 23 = ⟨.int .i64, 1, 8, .int .i64 0⟩ := rfl
theorem tab34 : tab 34 = ⟨.slice 58, 1, 24, .slice none 0 0⟩ := rfl
theorem tab35 : tab 35 = ⟨.struct [(0, 3), (1, 34)], 2, 32, .agg #[.int .i64 0, .slice none 0 0]⟩ := rfl
theorem tab36 : tab 36 = ⟨.struct [(0, 3), (1, 34)], 2, 32, .agg #[.int .i64 0, .slice none 0 0]⟩ := rfl
theorem tab38 : tab 38 = ⟨.fn, 1, 8, .nilFunc⟩ := rfl
theorem tab41 : tab 41 = ⟨.slice 38, 1, 24, .slice none 0 0⟩ := rfl
theorem tab44 : tab 44 = ⟨.fn, 1, 8, .nilFunc⟩ := rfl
theorem tab50 : tab 50 = ⟨.struct [(0, 3), (1, 22)], 2, 32, .agg #[.int .i64 0, .slice none 0 0]⟩ := rfl
theorem tab51 : tab 51 = ⟨.struct [(0, 3), (1, 22)], 2, 32, .agg #[.int .i64 0, .slice none 0 0]⟩ := rfl
theorem tab57 : tab 57 = ⟨.struct [(0, 3), (1, 3)], 2, 16, .agg #[.int .i64 0, .int .i64 0]⟩ := rfl
theorem tab58 : tab 58 = ⟨.struct [(0, 3), (1, 3)], 2, 16, .agg #[.int .i64 0, .int .i64 0]⟩ := rfl
theorem tab72 : tab 72 = ⟨.int .u64, 1, 8, .int .u64 0⟩ := rfl
theorem tab90 : tab 90 = ⟨.int .u32, 1, 4, .int .u32 0⟩ := rfl
theorem tab92 : tab 92 = ⟨.int .u64, 1, 8, .int .u64 0⟩ := rfl
theorem tab98 : tab 98 = ⟨.int .i64, 1, 8, .int .i64 0⟩ := rfl
theorem tab107 : tab 107 = ⟨.int .u64, 1, 8, .int .u64 0⟩ := rfl
theorem tab116 : tab 116 = ⟨.struct [(0, 17), (1, 17), (2, 17), (3, 9)], 4, 40, .agg #[.pointer none, .pointer none, .pointer none, .string ⟨#[]⟩]⟩ := rfl
theorem tab117 : tab 117 = ⟨.struct [(0, 17), (1, 17), (2, 17), (3, 9)], 4, 40, .agg #[.pointer none, .pointer none, .pointer none, .string ⟨#[]⟩]⟩ := rfl
theorem tab119 : tab 119 = ⟨.struct [(0, 118)], 0, 0, .agg #[]⟩ := rfl
theorem tab120 : tab 120 = ⟨.struct [(0, 118)], 0, 0, .agg #[]⟩ := rfl
theorem tab122 : tab 122 = ⟨.int .u8, 1, 1, .int .u8 0⟩ := rfl
theorem tab123 : tab 123 = ⟨.int .u8, 1, 1, .int .u8 0⟩ := rfl
theorem tab126 : tab 126 = ⟨.int .i32, 1, 4, .int .i32 0⟩ := rfl
theorem tab127 : tab 127 = ⟨.int .i32, 1, 4, .int .i32 0⟩ := rfl
theorem tab128 : tab 128 = ⟨.struct [(0, 12), (1, 12), (2, 90), (3, 122), (4, 5), (5, 5), (6, 123), (7, 124), (8, 125), (9, 126), (10, 127)], 11, 48, .agg #[.int .u64 0, .int .u64 0, .int .u32 0, .int .u8 0, .int .u8 0, .int .u8 0, .int .u8 0, .nilFunc, .pointer none, .int .i32 0, .int .i32 0]⟩ := rfl
theorem tab129 : tab 129 = ⟨.struct [(0, 12), (1, 12), (2, 90), (3, 122), (4, 5), (5, 5), (6, 123), (7, 124), (8, 125), (9, 126), (10, 127)], 11, 48, .agg #[.int .u64 0, .int .u64 0, .int .u32 0, .int .u8 0, .int .u8 0, .int .u8 0, .int .u8 0, .nilFunc, .pointer none, .int .i32 0, .int .i32 0]⟩ := rfl
theorem row2 : RowOk Tryd.prog 2 ⟨.int .i64, 1, 8, .int .i64 0⟩ := ⟨Tryd.underlying2, ⟨Tryd.t2, by kernel_rfl, rfl, rfl, rfl⟩, rfl⟩
theorem row3 : RowOk Tryd.prog 3 ⟨.int .i64, 1, 8, .int .i64 0⟩ := ⟨Tryd.underlying3, ⟨Tryd.t3, by kernel_rfl, rfl, rfl, rfl⟩, rfl⟩
theorem row4 : RowOk Tryd.prog 4 ⟨.bool, 1, 1, .bool false⟩ := ⟨Tryd.underlying4, ⟨Tryd.t4, by kernel_rfl, rfl, rfl, rfl⟩, rfl⟩
theorem row5 : RowOk Tryd.prog 5 ⟨.int .u8, 1, 1, .int .u8 0⟩ := ⟨Tryd.underlying5, ⟨Tryd.t5, by kernel_rfl, rfl, rfl, rfl⟩, rfl⟩
theorem row6 : RowOk Tryd.prog 6 ⟨.int .u8, 1, 1, .int .u8 0⟩ := ⟨Tryd.underlying6, ⟨Tryd.t6, by kernel_rfl, rfl, rfl, rfl⟩, rfl⟩
theorem row7 : RowOk Tryd.prog 7 ⟨.struct [(0, 2), (1, 3), (2, 4), (3, 6)], 4, 24, .agg #[.int .i64 0, .int .i64 0, .bool false, .int .u8 0]⟩ := ⟨⟨_, Tryd.underlying7, rfl⟩, ⟨Tryd.t7, by kernel_rfl, rfl, rfl, rfl⟩⟩
theorem row8 : RowOk Tryd.prog 8 ⟨.struct [(0, 2), (1, 3), (2, 4), (3, 6)], 4, 24, .agg #[.int .i64 0, .int .i64 0, .bool false, .int .u8 0]⟩ := ⟨⟨_, Tryd.underlying8, rfl⟩, ⟨Tryd.t8, by kernel_rfl, rfl, rfl, rfl⟩⟩
theorem row9 : RowOk Tryd.prog 9 ⟨.str, 1, 16, .string ⟨#[]⟩⟩ := ⟨Tryd.underlying9, ⟨Tryd.t9, by kernel_rfl, rfl, rfl, rfl⟩, rfl⟩
theorem row10 : RowOk Tryd.prog 10 ⟨.str, 1, 16, .string ⟨#[]⟩⟩ := ⟨Tryd.underlying10, ⟨Tryd.t10, by kernel_rfl, rfl, rfl, rfl⟩, rfl⟩
theorem row11 : RowOk Tryd.prog 11 ⟨.str, 1, 16, .string ⟨#[]⟩⟩ := ⟨Tryd.underlying11, ⟨Tryd.t11, by kernel_rfl, rfl, rfl, rfl⟩, rfl⟩
theorem row12 : RowOk Tryd.prog 12 ⟨.int .u64, 1, 8, .int .u64 0⟩ := ⟨Tryd.underlying12, ⟨Tryd.t12, by kernel_rfl, rfl, rfl, rfl⟩, rfl⟩
theorem row13 : RowOk Tryd.prog 13 ⟨.struct [(0, 9), (1, 12)], 2, 24, .agg #[.string ⟨#[]⟩, .int .u64 0]⟩ := ⟨⟨_, Tryd.underlying13, rfl⟩, ⟨Tryd.t13, by kernel_rfl, rfl, rfl, rfl⟩⟩
theorem row14 : RowOk Tryd.prog 14 ⟨.struct [(0, 9), (1, 12)], 2, 24, .agg #[.string ⟨#[]⟩, .int .u64 0]⟩ := ⟨⟨_, Tryd.underlying14, rfl⟩, ⟨Tryd.t14, by kernel_rfl, rfl, rfl, rfl⟩⟩
theorem row18 : RowOk Tryd.prog 18 ⟨.struct [(0, 17)], 1, 8, .agg #[.pointer none]⟩ := ⟨⟨_, Tryd.underlying18, rfl⟩, ⟨Tryd.t18, by kernel_rfl, rfl, rfl, rfl⟩⟩
theorem row19 : RowOk Tryd.prog 19 ⟨.struct [(0, 17)], 1, 8, .agg #[.pointer none]⟩ := ⟨⟨_, Tryd.underlying19, rfl⟩, ⟨Tryd.t19, by kernel_rfl, rfl, rfl, rfl⟩⟩
theorem row21 : RowOk Tryd.prog 21 ⟨.int .i32, 1, 4, .int .i32 0⟩ := ⟨Tryd.underlying21, ⟨Tryd.t21, by kernel_rfl, rfl, rfl, rfl⟩, rfl⟩
theorem row22 : RowOk Tryd.prog 22 ⟨.slice 3, 1, 24, .slice none 0 0⟩ := ⟨Tryd.underlying22, ⟨Tryd.t22, by kernel_rfl, rfl, rfl, rfl⟩, rfl⟩
theorem row23 : RowOk Tryd.prog 23 ⟨.int .i64, 1, 8, .int .i64 0⟩ := ⟨Tryd.underlying23, ⟨Tryd.t23, by kernel_rfl, rfl, rfl, rfl⟩, rfl⟩
theorem row34 : RowOk Tryd.prog 34 ⟨.slice 58, 1, 24, .slice none 0 0⟩ := ⟨Tryd.underlying34, ⟨Tryd.t34, by kernel_rfl, rfl, rfl, rfl⟩, rfl⟩
theorem row35 : RowOk Tryd.prog 35 ⟨.struct [(0, 3), (1, 34)], 2, 32, .agg #[.int .i64 0, .slice none 0 0]⟩ := ⟨⟨_, Tryd.underlying35, rfl⟩, ⟨Tryd.t35, by kernel_rfl, rfl, rfl, rfl⟩⟩
theorem row36 : RowOk Tryd.prog 36 ⟨.struct [(0, 3), (1, 34)], 2, 32, .agg #[.int .i64 0, .slice none 0 0]⟩ := ⟨⟨_, Tryd.underlying36, rfl⟩, ⟨Tryd.t36, by kernel_rfl, rfl, rfl, rfl⟩⟩
theorem row38 : RowOk Tryd.prog 38 ⟨.fn, 1, 8, .nilFunc⟩ := ⟨⟨_, Tryd.underlying38, fun w => by simp [isAgg, run_underlying Tryd.underlying38]⟩, ⟨Tryd.t38, by kernel_rfl, rfl, rfl, rfl⟩, rfl⟩
theorem row41 : RowOk Tryd.prog 41 ⟨.slice 38, 1, 24, .slice none 0 0⟩ := ⟨Tryd.underlying41, ⟨Tryd.t41, by kernel_rfl, rfl, rfl, rfl⟩, rfl⟩
theorem row44 : RowOk Tryd.prog 44 ⟨.fn, 1, 8, .nilFunc⟩ := ⟨⟨_, Tryd.underlying44, fun w => by simp [isAgg, run_underlying Tryd.underlying44]⟩, ⟨Tryd.t44, by kernel_rfl, rfl, rfl, rfl⟩, rfl⟩
theorem row50 : RowOk Tryd.prog 50 ⟨.struct [(0, 3), (1, 22)], 2, 32, .agg #[.int .i64 0, .slice none 0 0]⟩ := ⟨⟨_, Tryd.underlying50, rfl⟩, ⟨Tryd.t50, by kernel_rfl, rfl, rfl, rfl⟩⟩
theorem row51 : RowOk Tryd.prog 51 ⟨.struct [(0, 3), (1, 22)], 2, 32, .agg #[.int .i64 0, .slice none 0 0]⟩ := ⟨⟨_, Tryd.underlying51, rfl⟩, ⟨Tryd.t51, by kernel_rfl, rfl, rfl, rfl⟩⟩
theorem row57 : RowOk Tryd.prog 57 ⟨.struct [(0, 3), (1, 3)], 2, 16, .agg #[.int .i64 0, .int .i64 0]⟩ := ⟨⟨_, Tryd.underlying57, rfl⟩, ⟨Tryd.t57, by kernel_rfl, rfl, rfl, rfl⟩⟩
theorem row58 : RowOk Tryd.prog 58 ⟨.struct [(0, 3), (1, 3)], 2, 16, .agg #[.int .i64 0, .int .i64 0]⟩ := ⟨⟨_, Tryd.underlying58, rfl⟩, ⟨Tryd.t58, by kernel_rfl, rfl, rfl, rfl⟩⟩
theorem row72 : RowOk Tryd.prog 72 ⟨.int .u64, 1, 8, .int .u64 0⟩ := ⟨Tryd.underlying72, ⟨Tryd.t72, by kernel_rfl, rfl, rfl, rfl⟩, rfl⟩
theorem row90 : RowOk Tryd.prog 90 ⟨.int .u32, 1, 4, .int .u32 0⟩ := ⟨Tryd.underlying90, ⟨Tryd.t90, by kernel_rfl, rfl, rfl, rfl⟩, rfl⟩
theorem row92 : RowOk Tryd.prog 92 ⟨.int .u64, 1, 8, .int .u64 0⟩ := ⟨Tryd.underlying92, ⟨Tryd.t92, by kernel_rfl, rfl, rfl, rfl⟩, rfl⟩
theorem row98 : RowOk Tryd.prog 98 ⟨.int .i64, 1, 8, .int .i64 0⟩ := ⟨Tryd.underlying98, ⟨Tryd.t98, by kernel_rfl, rfl, rfl, rfl⟩, rfl⟩
theorem row107 : RowOk Tryd.prog 107 ⟨.int .u64, 1, 8, .int .u64 0⟩ := ⟨Tryd.underlying107, ⟨Tryd.t107, by kernel_rfl, rfl, rfl, rfl⟩, rfl⟩
theorem row116 : RowOk Tryd.prog 116 ⟨.struct [(0, 17), (1, 17), (2, 17), (3, 9)], 4, 40, .agg #[.pointer none, .pointer none, .pointer none, .string ⟨#[]⟩]⟩ := ⟨⟨_, Tryd.underlying116, rfl⟩, ⟨Tryd.t116, by kernel_rfl, rfl, rfl, rfl⟩⟩
theorem row117 : RowOk Tryd.prog 117 ⟨.struct [(0, 17), (1, 17), (2, 17), (3, 9)], 4, 40, .agg #[.pointer none, .pointer none, .pointer none, .string ⟨#[]⟩]⟩ := ⟨⟨_, Tryd.underlying117, rfl⟩, ⟨Tryd.t117, by kernel_rfl, rfl, rfl, rfl⟩⟩
theorem row119 : RowOk Tryd.prog 119 ⟨.struct [(0, 118)], 0, 0, .agg #[]⟩ := ⟨⟨_, Tryd.underlying119, rfl⟩, ⟨Tryd.t119, by kernel_rfl, rfl, rfl, rfl⟩⟩
theorem row120 : RowOk Tryd.prog 120 ⟨.struct [(0, 118)], 0, 0, .agg #[]⟩ := ⟨⟨_, Tryd.underlying120, rfl⟩, ⟨Tryd.t120, by kernel_rfl, rfl, rfl, rfl⟩⟩
theorem row122 : RowOk Tryd.prog 122 ⟨.int .u8, 1, 1, .int .u8 0⟩ := ⟨Tryd.underlying122, ⟨Tryd.t122, by kernel_rfl, rfl, rfl, rfl⟩, rfl⟩
theorem row123 : RowOk Tryd.prog 123 ⟨.int .u8, 1, 1, .int .u8 0⟩ := ⟨Tryd.underlying123, ⟨Tryd.t123, by kernel_rfl, rfl, rfl, rfl⟩, rfl⟩
theorem row126 : RowOk Tryd.prog 126 ⟨.int .i32, 1, 4, .int .i32 0⟩ := ⟨Tryd.underlying126, ⟨Tryd.t126, by kernel_rfl, rfl, rfl, rfl⟩, rfl⟩
theorem row127 : RowOk Tryd.prog 127 ⟨.int .i32, 1, 4, .int .i32 0⟩ := ⟨Tryd.underlying127, ⟨Tryd.t127, by kernel_rfl, rfl, rfl, rfl⟩, rfl⟩
theorem row128 : RowOk Tryd.prog 128 ⟨.struct [(0, 12), (1, 12), (2, 90), (3, 122), (4, 5), (5, 5), (6, 123), (7, 124), (8, 125), (9, 126), (10, 127)], 11, 48, .agg #[.int .u64 0, .int .u64 0, .int .u32 0, .int .u8 0, .int .u8 0, .int .u8 0, .int .u8 0, .nilFunc, .pointer none, .int .i32 0, .int .i32 0]⟩ := ⟨⟨_, Tryd.underlying128, rfl⟩, ⟨Tryd.t128, by kernel_rfl, rfl, rfl, rfl⟩⟩
theorem row129 : RowOk Tryd.prog 129 ⟨.struct [(0, 12), (1, 12), (2, 90), (3, 122), (4, 5), (5, 5), (6, 123), (7, 124), (8, 125), (9, 126), (10, 127)], 11, 48, .agg #[.int .u64 0, .int .u64 0, .int .u32 0, .int .u8 0, .int .u8 0, .int .u8 0, .int .u8 0, .nilFunc, .pointer none, .int .i32 0, .int .i32 0]⟩ := ⟨⟨_, Tryd.underlying129, rfl⟩, ⟨Tryd.t129, by kernel_rfl, rfl, rfl, rfl⟩⟩
set_option maxRecDepth 100000 in
theorem tab_ok : TabOk Tryd.prog tab := by
  intro t
  unfold tab
  split
  · exact row2
  · exact row3
  · exact row4
  · exact row5
  · exact row6
  · exact row7
  · exact row8
  · exact row9
  · exact row10
  · exact row11
  · exact row12
  · exact row13
  · exact row14
  · exact row18
  · exact row19
  · exact row21
  · exact row22
  · exact row23
  · exact row34
  · exact row35
  · exact row36
  · exact row38
  · exact row41
  · exact row44
  · exact row50
  · exact row51
  · exact row57
  · exact row58
  · exact row72
  · exact row90
  · exact row92
  · exact row98
  · exact row107
  · exact row116
  · exact row117
  · exact row119
  · exact row120
  · exact row122
  · exact row123
  · exact row126
  · exact row127
  · exact row128
  · exact row129
  · exact trivial
theorem mixed : Tryd.prog.follows .mixedOrders = true := by kernel_rfl
attribute [go_sem] tab2 tab3 tab4 tab5 tab6 tab7 tab8 tab9 tab10 tab11 tab12 tab13 tab14 tab18 tab19 tab21 tab22 tab23 tab34 tab35 tab36 tab38 tab41 tab44 tab50 tab51 tab57 tab58 tab72 tab90 tab92 tab98 tab107 tab116 tab117 tab119 tab120 tab122 tab123 tab126 tab127 tab128 tab129
end Go.AX.Tryd
