/-
  The table of types of this seat, for the abstract executor: it is the program's. By a program of mine (gentab.py). Conditions: none.
-/
import Derived.Test.YtaajhfhbonmaiaaAxL
import Derived.Test.YtaajhfhbonmaiaaChecked
import Derived.KernelRfl
set_option linter.unusedSimpArgs false
set_option linter.unusedVariables false
namespace Go.AX.Try
open Go Go.AX Go.Proofs

def tab : Tab
  | 2 => ⟨.int .i64, 1, 8, .int .i64 0⟩
  | 3 => ⟨.int .i64, 1, 8, .int .i64 0⟩
  | 4 => ⟨.bool, 1, 1, .bool false⟩
  | 5 => ⟨.int .u8, 1, 1, .int .u8 0⟩
  | 6 => ⟨.int .u8, 1, 1, .int .u8 0⟩
  | 7 => ⟨.struct [(0, 2), (1, 3), (2, 4), (3, 6)], 4, 24, .agg #[.int .i64 0, .int .i64 0, .bool false, .int .u8 0]⟩
  | 8 => ⟨.struct [(0, 2), (1, 3), (2, 4), (3, 6)], 4, 24, .agg #[.int .i64 0, .int .i64 0, .bool false, .int .u8 0]⟩
  | 9 => ⟨.str, 1, 16, .string ⟨#[]⟩⟩
  | 10 => ⟨.str, 1, 16, .string ⟨#[]⟩⟩
  | 11 => ⟨.str, 1, 16, .string ⟨#[]⟩⟩
  | 12 => ⟨.int .u64, 1, 8, .int .u64 0⟩
  | 13 => ⟨.struct [(0, 9), (1, 12)], 2, 24, .agg #[.string ⟨#[]⟩, .int .u64 0]⟩
  | 14 => ⟨.struct [(0, 9), (1, 12)], 2, 24, .agg #[.string ⟨#[]⟩, .int .u64 0]⟩
  | 18 => ⟨.struct [(0, 17)], 1, 8, .agg #[.pointer none]⟩
  | 19 => ⟨.struct [(0, 17)], 1, 8, .agg #[.pointer none]⟩
  | 21 => ⟨.int .i32, 1, 4, .int .i32 0⟩
  | 22 => ⟨.slice 3, 1, 24, .slice none 0 0⟩
  | 23 => ⟨.struct [(0, 3), (1, 22)], 2, 32, .agg #[.int .i64 0, .slice none 0 0]⟩
  | 24 => ⟨.struct [(0, 3), (1, 22)], 2, 32, .agg #[.int .i64 0, .slice none 0 0]⟩
  | 25 => ⟨.slice 2, 1, 24, .slice none 0 0⟩
  | 26 => ⟨.int .i64, 1, 8, .int .i64 0⟩
  | 33 => ⟨.fn, 1, 8, .nilFunc⟩
  | 81 => ⟨.struct [(0, 24), (2, 22), (3, 22)], 4, 80, .agg #[.int .i64 0, .slice none 0 0, .slice none 0 0, .slice none 0 0]⟩
  | 82 => ⟨.struct [(0, 24), (2, 22), (3, 22)], 4, 80, .agg #[.int .i64 0, .slice none 0 0, .slice none 0 0, .slice none 0 0]⟩
  | 100 => ⟨.int .u64, 1, 8, .int .u64 0⟩
  | 119 => ⟨.int .i64, 1, 8, .int .i64 0⟩
  | 125 => ⟨.int .u32, 1, 4, .int .u32 0⟩
  | 127 => ⟨.int .u64, 1, 8, .int .u64 0⟩
  | 130 => ⟨.int .u64, 1, 8, .int .u64 0⟩
  | 142 => ⟨.struct [(0, 17), (1, 17), (2, 17), (3, 9)], 4, 40, .agg #[.pointer none, .pointer none, .pointer none, .string ⟨#[]⟩]⟩
  | 143 => ⟨.struct [(0, 17), (1, 17), (2, 17), (3, 9)], 4, 40, .agg #[.pointer none, .pointer none, .pointer none, .string ⟨#[]⟩]⟩
  | 145 => ⟨.struct [(0, 144)], 0, 0, .agg #[]⟩
  | 146 => ⟨.struct [(0, 144)], 0, 0, .agg #[]⟩
  | 147 => ⟨.int .u8, 1, 1, .int .u8 0⟩
  | 148 => ⟨.int .u8, 1, 1, .int .u8 0⟩
  | 151 => ⟨.int .i32, 1, 4, .int .i32 0⟩
  | 152 => ⟨.int .i32, 1, 4, .int .i32 0⟩
  | 153 => ⟨.struct [(0, 12), (1, 12), (2, 125), (3, 147), (4, 5), (5, 5), (6, 148), (7, 149), (8, 150), (9, 151), (10, 152)], 11, 48, .agg #[.int .u64 0, .int .u64 0, .int .u32 0, .int .u8 0, .int .u8 0, .int .u8 0, .int .u8 0, .nilFunc, .pointer none, .int .i32 0, .int .i32 0]⟩
  | 154 => ⟨.struct [(0, 12), (1, 12), (2, 125), (3, 147), (4, 5), (5, 5), (6, 148), (7, 149), (8, 150), (9, 151), (10, 152)], 11, 48, .agg #[.int .u64 0, .int .u64 0, .int .u32 0, .int .u8 0, .int .u8 0, .int .u8 0, .int .u8 0, .nilFunc, .pointer none, .int .i32 0, .int .i32 0]⟩
  | _ => TyRow.none
theorem tab2 : tab 2 = ⟨.int .i64, 1, 8, .int .i64 0⟩ := rfl
theorem tab3 : tab 3 = ⟨.int .i64, 1, 8, .int .i64 0⟩ := rfl
theorem tab4 : tab 4 = ⟨.bool, 1, 1, .bool false⟩ := rfl
theorem tab5 : tab 5 = ⟨.int .u8, 1, 1, .int .u8 0⟩ := rfl
theorem tab6 : tab 6 = ⟨.int .u8, 1, 1, .int .u8 0⟩ := rfl
theorem tab7 : tab 7 = ⟨.struct [(0, 2), (1, 3), (2, 4), (3, 6)], 4, 24, .agg #[.int .i64 0, .int .i64 0, .bool false, .int .u8 0]⟩ := rfl
theorem tab8 : tab 8 = ⟨.struct [(0, 2), (1, 3), (2, 4), (3, 6)], 4, 24, .agg #[.int .i64 0, .int .i64 0, .bool false, .int .u8 0]⟩ := rfl
theorem tab9 : tab 9 = ⟨.str, 1, 16, .string ⟨#[]⟩⟩ := rfl
theorem tab10 : tab 10 = ⟨.str, 1, 16, .string ⟨#[]⟩⟩ := rfl
theorem tab11 : tab 11 = ⟨.str, 1, 16, .string ⟨#[]⟩⟩ := rfl
theorem tab12 : tab 12 = ⟨.int .u64, 1, 8, .int .u64 0⟩ := rfl
theorem tab13 : tab 13 = ⟨.struct [(0, 9), (1, 12)], 2, 24, .agg #[.string ⟨#[]⟩, .int .u64 0]⟩ := rfl
theorem tab14 : tab 14 = ⟨.struct [(0, 9), (1, 12)], 2, 24, .agg #[.string ⟨#[]⟩, .int .u64 0]⟩ := rfl
theorem tab18 : tab 18 = ⟨.struct [(0, 17)], 1, 8, .agg #[.pointer none]⟩ := rfl
theorem tab19 : tab 19 = ⟨.struct [(0, 17)], 1, 8, .agg #[.pointer none]⟩ := rfl
theorem tab21 : tab 21 = ⟨.int .i32, 1, 4, .int .i32 0⟩ := rfl
theorem tab22 : tab 22 = ⟨.slice 3, 1, 24, .slice none 0 0⟩ := rfl
theorem tab23 : tab 23 = ⟨.struct [(0, 3), (1, 22)], 2, 32, .agg #[.int .i64 0, .slice none 0 0]⟩ := rfl
theorem tab24 : tab 24 = ⟨.struct [(0, 3), (1, 22)], 2, 32, .agg #[.int .i64 0, .slice none 0 0]⟩ := rfl
theorem tab25 : tab 25 = ⟨.slice 2, 1, 24, .slice none 0 0⟩ := rfl
theorem tab26 : tab 26 = ⟨.int .i64, 1, 8, .int .i64 0⟩ := rfl
theorem tab33 : tab 33 = ⟨.fn, 1, 8, .nilFunc⟩ := rfl
theorem tab81 : tab 81 = ⟨.struct [(0, 24), (2, 22), (3, 22)], 4, 80, .agg #[.int .i64 0, .slice none 0 0, .slice none 0 0, .slice none 0 0]⟩ := rfl
theorem tab82 : tab 82 = ⟨.struct [(0, 24), (2, 22), (3, 22)], 4, 80, .agg #[.int .i64 0, .slice none 0 0, .slice none 0 0, .slice none 0 0]⟩ := rfl
theorem tab100 : tab 100 = ⟨.int .u64, 1, 8, .int .u64 0⟩ := rfl
theorem tab119 : tab 119 = ⟨.int .i64, 1, 8, .int .i64 0⟩ := rfl
theorem tab125 : tab 125 = ⟨.int .u32, 1, 4, .int .u32 0⟩ := rfl
theorem tab127 : tab 127 = ⟨.int .u64, 1, 8, .int .u64 0⟩ := rfl
theorem tab130 : tab 130 = ⟨.int .u64, 1, 8, .int .u64 0⟩ := rfl
theorem tab142 : tab 142 = ⟨.struct [(0, 17), (1, 17), (2, 17), (3, 9)], 4, 40, .agg #[.pointer none, .pointer none, .pointer none, .string ⟨#[]⟩]⟩ := rfl
theorem tab143 : tab 143 = ⟨.struct [(0, 17), (1, 17), (2, 17), (3, 9)], 4, 40, .agg #[.pointer none, .pointer none, .pointer none, .string ⟨#[]⟩]⟩ := rfl
theorem tab145 : tab 145 = ⟨.struct [(0, 144)], 0, 0, .agg #[]⟩ := rfl
theorem tab146 : tab 146 = ⟨.struct [(0, 144)], 0, 0, .agg #[]⟩ := rfl
theorem tab147 : tab 147 = ⟨.int .u8, 1, 1, .int .u8 0⟩ := rfl
theorem tab148 : tab 148 = ⟨.int .u8, 1, 1, .int .u8 0⟩ := rfl
theorem tab151 : tab 151 = ⟨.int .i32, 1, 4, .int .i32 0⟩ := rfl
theorem tab152 : tab 152 = ⟨.int .i32, 1, 4, .int .i32 0⟩ := rfl
theorem tab153 : tab 153 = ⟨.struct [(0, 12), (1, 12), (2, 125), (3, 147), (4, 5), (5, 5), (6, 148), (7, 149), (8, 150), (9, 151), (10, 152)], 11, 48, .agg #[.int .u64 0, .int .u64 0, .int .u32 0, .int .u8 0, .int .u8 0, .int .u8 0, .int .u8 0, .nilFunc, .pointer none, .int .i32 0, .int .i32 0]⟩ := rfl
theorem tab154 : tab 154 = ⟨.struct [(0, 12), (1, 12), (2, 125), (3, 147), (4, 5), (5, 5), (6, 148), (7, 149), (8, 150), (9, 151), (10, 152)], 11, 48, .agg #[.int .u64 0, .int .u64 0, .int .u32 0, .int .u8 0, .int .u8 0, .int .u8 0, .int .u8 0, .nilFunc, .pointer none, .int .i32 0, .int .i32 0]⟩ := rfl
theorem row2 : RowOk Try.prog 2 ⟨.int .i64, 1, 8, .int .i64 0⟩ := ⟨Try.underlying2, ⟨Try.t2, by kernel_rfl, rfl, rfl, rfl⟩, rfl⟩
theorem row3 : RowOk Try.prog 3 ⟨.int .i64, 1, 8, .int .i64 0⟩ := ⟨Try.underlying3, ⟨Try.t3, by kernel_rfl, rfl, rfl, rfl⟩, rfl⟩
theorem row4 : RowOk Try.prog 4 ⟨.bool, 1, 1, .bool false⟩ := ⟨Try.underlying4, ⟨Try.t4, by kernel_rfl, rfl, rfl, rfl⟩, rfl⟩
theorem row5 : RowOk Try.prog 5 ⟨.int .u8, 1, 1, .int .u8 0⟩ := ⟨Try.underlying5, ⟨Try.t5, by kernel_rfl, rfl, rfl, rfl⟩, rfl⟩
theorem row6 : RowOk Try.prog 6 ⟨.int .u8, 1, 1, .int .u8 0⟩ := ⟨Try.underlying6, ⟨Try.t6, by kernel_rfl, rfl, rfl, rfl⟩, rfl⟩
theorem row7 : RowOk Try.prog 7 ⟨.struct [(0, 2), (1, 3), (2, 4), (3, 6)], 4, 24, .agg #[.int .i64 0, .int .i64 0, .bool false, .int .u8 0]⟩ := ⟨⟨_, Try.underlying7, rfl⟩, ⟨Try.t7, by kernel_rfl, rfl, rfl, rfl⟩⟩
theorem row8 : RowOk Try.prog 8 ⟨.struct [(0, 2), (1, 3), (2, 4), (3, 6)], 4, 24, .agg #[.int .i64 0, .int .i64 0, .bool false, .int .u8 0]⟩ := ⟨⟨_, Try.underlying8, rfl⟩, ⟨Try.t8, by kernel_rfl, rfl, rfl, rfl⟩⟩
theorem row9 : RowOk Try.prog 9 ⟨.str, 1, 16, .string ⟨#[]⟩⟩ := ⟨Try.underlying9, ⟨Try.t9, by kernel_rfl, rfl, rfl, rfl⟩, rfl⟩
theorem row10 : RowOk Try.prog 10 ⟨.str, 1, 16, .string ⟨#[]⟩⟩ := ⟨Try.underlying10, ⟨Try.t10, by kernel_rfl, rfl, rfl, rfl⟩, rfl⟩
theorem row11 : RowOk Try.prog 11 ⟨.str, 1, 16, .string ⟨#[]⟩⟩ := ⟨Try.underlying11, ⟨Try.t11, by kernel_rfl, rfl, rfl, rfl⟩, rfl⟩
theorem row12 : RowOk Try.prog 12 ⟨.int .u64, 1, 8, .int .u64 0⟩ := ⟨Try.underlying12, ⟨Try.t12, by kernel_rfl, rfl, rfl, rfl⟩, rfl⟩
theorem row13 : RowOk Try.prog 13 ⟨.struct [(0, 9), (1, 12)], 2, 24, .agg #[.string ⟨#[]⟩, .int .u64 0]⟩ := ⟨⟨_, Try.underlying13, rfl⟩, ⟨Try.t13, by kernel_rfl, rfl, rfl, rfl⟩⟩
theorem row14 : RowOk Try.prog 14 ⟨.struct [(0, 9), (1, 12)], 2, 24, .agg #[.string ⟨#[]⟩, .int .u64 0]⟩ := ⟨⟨_, Try.underlying14, rfl⟩, ⟨Try.t14, by kernel_rfl, rfl, rfl, rfl⟩⟩
theorem row18 : RowOk Try.prog 18 ⟨.struct [(0, 17)], 1, 8, .agg #[.pointer none]⟩ := ⟨⟨_, Try.underlying18, rfl⟩, ⟨Try.t18, by kernel_rfl, rfl, rfl, rfl⟩⟩
theorem row19 : RowOk Try.prog 19 ⟨.struct [(0, 17)], 1, 8, .agg #[.pointer none]⟩ := ⟨⟨_, Try.underlying19, rfl⟩, ⟨Try.t19, by kernel_rfl, rfl, rfl, rfl⟩⟩
theorem row21 : RowOk Try.prog 21 ⟨.int .i32, 1, 4, .int .i32 0⟩ := ⟨Try.underlying21, ⟨Try.t21, by kernel_rfl, rfl, rfl, rfl⟩, rfl⟩
theorem row22 : RowOk Try.prog 22 ⟨.slice 3, 1, 24, .slice none 0 0⟩ := ⟨Try.underlying22, ⟨Try.t22, by kernel_rfl, rfl, rfl, rfl⟩, rfl⟩
theorem row23 : RowOk Try.prog 23 ⟨.struct [(0, 3), (1, 22)], 2, 32, .agg #[.int .i64 0, .slice none 0 0]⟩ := ⟨⟨_, Try.underlying23, rfl⟩, ⟨Try.t23, by kernel_rfl, rfl, rfl, rfl⟩⟩
theorem row24 : RowOk Try.prog 24 ⟨.struct [(0, 3), (1, 22)], 2, 32, .agg #[.int .i64 0, .slice none 0 0]⟩ := ⟨⟨_, Try.underlying24, rfl⟩, ⟨Try.t24, by kernel_rfl, rfl, rfl, rfl⟩⟩
theorem row25 : RowOk Try.prog 25 ⟨.slice 2, 1, 24, .slice none 0 0⟩ := ⟨Try.underlying25, ⟨Try.t25, by kernel_rfl, rfl, rfl, rfl⟩, rfl⟩
theorem row26 : RowOk Try.prog 26 ⟨.int .i64, 1, 8, .int .i64 0⟩ := ⟨Try.underlying26, ⟨Try.t26, by kernel_rfl, rfl, rfl, rfl⟩, rfl⟩
theorem row33 : RowOk Try.prog 33 ⟨.fn, 1, 8, .nilFunc⟩ := ⟨⟨_, Try.underlying33, fun w => by simp [isAgg, run_underlying Try.underlying33]⟩, ⟨Try.t33, by kernel_rfl, rfl, rfl, rfl⟩, rfl⟩
theorem row81 : RowOk Try.prog 81 ⟨.struct [(0, 24), (2, 22), (3, 22)], 4, 80, .agg #[.int .i64 0, .slice none 0 0, .slice none 0 0, .slice none 0 0]⟩ := ⟨⟨_, Try.underlying81, rfl⟩, ⟨Try.t81, by kernel_rfl, rfl, rfl, rfl⟩⟩
theorem row82 : RowOk Try.prog 82 ⟨.struct [(0, 24), (2, 22), (3, 22)], 4, 80, .agg #[.int .i64 0, .slice none 0 0, .slice none 0 0, .slice none 0 0]⟩ := ⟨⟨_, Try.underlying82, rfl⟩, ⟨Try.t82, by kernel_rfl, rfl, rfl, rfl⟩⟩
theorem row100 : RowOk Try.prog 100 ⟨.int .u64, 1, 8, .int .u64 0⟩ := ⟨Try.underlying100, ⟨Try.t100, by kernel_rfl, rfl, rfl, rfl⟩, rfl⟩
theorem row119 : RowOk Try.prog 119 ⟨.int .i64, 1, 8, .int .i64 0⟩ := ⟨Try.underlying119, ⟨Try.t119, by kernel_rfl, rfl, rfl, rfl⟩, rfl⟩
theorem row125 : RowOk Try.prog 125 ⟨.int .u32, 1, 4, .int .u32 0⟩ := ⟨Try.underlying125, ⟨Try.t125, by kernel_rfl, rfl, rfl, rfl⟩, rfl⟩
theorem row127 : RowOk Try.prog 127 ⟨.int .u64, 1, 8, .int .u64 0⟩ := ⟨Try.underlying127, ⟨Try.t127, by kernel_rfl, rfl, rfl, rfl⟩, rfl⟩
theorem row130 : RowOk Try.prog 130 ⟨.int .u64, 1, 8, .int .u64 0⟩ := ⟨Try.underlying130, ⟨Try.t130, by kernel_rfl, rfl, rfl, rfl⟩, rfl⟩
theorem row142 : RowOk Try.prog 142 ⟨.struct [(0, 17), (1, 17), (2, 17), (3, 9)], 4, 40, .agg #[.pointer none, .pointer none, .pointer none, .string ⟨#[]⟩]⟩ := ⟨⟨_, Try.underlying142, rfl⟩, ⟨Try.t142, by kernel_rfl, rfl, rfl, rfl⟩⟩
theorem row143 : RowOk Try.prog 143 ⟨.struct [(0, 17), (1, 17), (2, 17), (3, 9)], 4, 40, .agg #[.pointer none, .pointer none, .pointer none, .string ⟨#[]⟩]⟩ := ⟨⟨_, Try.underlying143, rfl⟩, ⟨Try.t143, by kernel_rfl, rfl, rfl, rfl⟩⟩
theorem row145 : RowOk Try.prog 145 ⟨.struct [(0, 144)], 0, 0, .agg #[]⟩ := ⟨⟨_, Try.underlying145, rfl⟩, ⟨Try.t145, by kernel_rfl, rfl, rfl, rfl⟩⟩
theorem row146 : RowOk Try.prog 146 ⟨.struct [(0, 144)], 0, 0, .agg #[]⟩ := ⟨⟨_, Try.underlying146, rfl⟩, ⟨Try.t146, by kernel_rfl, rfl, rfl, rfl⟩⟩
theorem row147 : RowOk Try.prog 147 ⟨.int .u8, 1, 1, .int .u8 0⟩ := ⟨Try.underlying147, ⟨Try.t147, by kernel_rfl, rfl, rfl, rfl⟩, rfl⟩
theorem row148 : RowOk Try.prog 148 ⟨.int .u8, 1, 1, .int .u8 0⟩ := ⟨Try.underlying148, ⟨Try.t148, by kernel_rfl, rfl, rfl, rfl⟩, rfl⟩
theorem row151 : RowOk Try.prog 151 ⟨.int .i32, 1, 4, .int .i32 0⟩ := ⟨Try.underlying151, ⟨Try.t151, by kernel_rfl, rfl, rfl, rfl⟩, rfl⟩
theorem row152 : RowOk Try.prog 152 ⟨.int .i32, 1, 4, .int .i32 0⟩ := ⟨Try.underlying152, ⟨Try.t152, by kernel_rfl, rfl, rfl, rfl⟩, rfl⟩
theorem row153 : RowOk Try.prog 153 ⟨.struct [(0, 12), (1, 12), (2, 125), (3, 147), (4, 5), (5, 5), (6, 148), (7, 149), (8, 150), (9, 151), (10, 152)], 11, 48, .agg #[.int .u64 0, .int .u64 0, .int .u32 0, .int .u8 0, .int .u8 0, .int .u8 0, .int .u8 0, .nilFunc, .pointer none, .int .i32 0, .int .i32 0]⟩ := ⟨⟨_, Try.underlying153, rfl⟩, ⟨Try.t153, by kernel_rfl, rfl, rfl, rfl⟩⟩
theorem row154 : RowOk Try.prog 154 ⟨.struct [(0, 12), (1, 12), (2, 125), (3, 147), (4, 5), (5, 5), (6, 148), (7, 149), (8, 150), (9, 151), (10, 152)], 11, 48, .agg #[.int .u64 0, .int .u64 0, .int .u32 0, .int .u8 0, .int .u8 0, .int .u8 0, .int .u8 0, .nilFunc, .pointer none, .int .i32 0, .int .i32 0]⟩ := ⟨⟨_, Try.underlying154, rfl⟩, ⟨Try.t154, by kernel_rfl, rfl, rfl, rfl⟩⟩
set_option maxRecDepth 100000 in
theorem tab_ok : TabOk Try.prog tab := by
  intro t
  unfold tab
  split
  · exact row2
  · exact row3
  · exact row4
  · exact row5
  · exact row6
  · exact row7
  · exact row8
  · exact row9
  · exact row10
  · exact row11
  · exact row12
  · exact row13
  · exact row14
  · exact row18
  · exact row19
  · exact row21
  · exact row22
  · exact row23
  · exact row24
  · exact row25
  · exact row26
  · exact row33
  · exact row81
  · exact row82
  · exact row100
  · exact row119
  · exact row125
  · exact row127
  · exact row130
  · exact row142
  · exact row143
  · exact row145
  · exact row146
  · exact row147
  · exact row148
  · exact row151
  · exact row152
  · exact row153
  · exact row154
  · exact trivial
theorem mixed : Try.prog.follows .mixedOrders = true := by kernel_rfl
attribute [go_sem] tab2 tab3 tab4 tab5 tab6 tab7 tab8 tab9 tab10 tab11 tab12 tab13 tab14 tab18 tab19 tab21 tab22 tab23 tab24 tab25 tab26 tab33 tab81 tab82 tab100 tab119 tab125 tab127 tab130 tab142 tab143 tab145 tab146 tab147 tab148 tab151 tab152 tab153 tab154
end Go.AX.Try
