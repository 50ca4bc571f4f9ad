/-
  The table of types of this seat, for the abstract executor: it is the program's. By a program of mine (gentab.py). Conditions: none.
-/
import Derived.Test.YtkjfccdfmjnkbaaAxL
import Derived.Test.YtkjfccdfmjnkbaaChecked
import Derived.KernelRfl
set_option linter.unusedSimpArgs false
set_option linter.unusedVariables false
namespace Go.AX.Try
open Go Go.AX Go.Proofs

def tab : Tab
  | 2 => ⟨.int .i64, 1, 8, .int .i64 0⟩
  | 3 => ⟨.int .i64, 1, 8, .int .i64 0⟩
  | 4 => ⟨.bool, 1, 1, .bool false⟩
  | 5 => ⟨.int .u8, 1, 1, .int .u8 0⟩
  | 6 => ⟨.int .u8, 1, 1, .int .u8 0⟩
  | 7 => ⟨.struct [(0, 2), (1, 3), (2, 4), (3, 6)], 4, 24, .agg #[.int .i64 0, .int .i64 0, .bool false, .int .u8 0]⟩
  | 8 => ⟨.struct [(0, 2), (1, 3), (2, 4), (3, 6)], 4, 24, .agg #[.int .i64 0, .int .i64 0, .bool false, .int .u8 0]⟩
  | 9 => ⟨.str, 1, 16, .string ⟨#[]⟩⟩
  | 10 => ⟨.str, 1, 16, .string ⟨#[]⟩⟩
  | 11 => ⟨.str, 1, 16, .string ⟨#[]⟩⟩
  | 12 => ⟨.int .u64, 1, 8, .int .u64 0⟩
  | 13 => ⟨.struct [(0, 9), (1, 12)], 2, 24, .agg #[.string ⟨#[]⟩, .int .u64 0]⟩
  | 14 => ⟨.struct [(0, 9), (1, 12)], 2, 24, .agg #[.string ⟨#[]⟩, .int .u64 0]⟩
  | 18 => ⟨.struct [(0, 17)], 1, 8, .agg #[.pointer none]⟩
  | 19 => ⟨.struct [(0, 17)], 1, 8, .agg #[.pointer none]⟩
  | 21 => ⟨.int .i32, 1, 4, .int .i32 0⟩
  | 22 => ⟨.slice 3, 1, 24, .slice none 0 0⟩
  | 23 => ⟨.struct [(0, 3), (1, 22)], 2, 32, .agg #[.int .i64 0, .slice none 0 0]⟩
  | 24 => ⟨.struct [(0, 3), (1, 22)], 2, 32, .agg #[.int .i64 0, .slice none 0 0]⟩
  | 25 => ⟨.int .i64, 1, 8, .int .i64 0⟩
  | 31 => ⟨.fn, 1, 8, .nilFunc⟩
  | 41 => ⟨.fn, 1, 8, .nilFunc⟩
  | 51 => ⟨.slice 2, 1, 24, .slice none 0 0⟩
  | 59 => ⟨.fn, 1, 8, .nilFunc⟩
  | 77 => ⟨.fn, 1, 8, .nilFunc⟩
  | 83 => ⟨.struct [(0, 24), (2, 22), (3, 22)], 4, 80, .agg #[.int .i64 0, .slice none 0 0, .slice none 0 0, .slice none 0 0]⟩
  | 84 => ⟨.struct [(0, 24), (2, 22), (3, 22)], 4, 80, .agg #[.int .i64 0, .slice none 0 0, .slice none 0 0, .slice none 0 0]⟩
  | 92 => ⟨.int .u64, 1, 8, .int .u64 0⟩
  | 102 => ⟨.int .u32, 1, 4, .int .u32 0⟩
  | 104 => ⟨.int .u64, 1, 8, .int .u64 0⟩
  | 108 => ⟨.int .i64, 1, 8, .int .i64 0⟩
  | 113 => ⟨.int .u64, 1, 8, .int .u64 0⟩
  | 124 => ⟨.struct [(0, 17), (1, 17), (2, 17), (3, 9)], 4, 40, .agg #[.pointer none, .pointer none, .pointer none, .string ⟨#[]⟩]⟩
  | 125 => ⟨.struct [(0, 17), (1, 17), (2, 17), (3, 9)], 4, 40, .agg #[.pointer none, .pointer none, .pointer none, .string ⟨#[]⟩]⟩
  | 127 => ⟨.struct [(0, 126)], 0, 0, .agg #[]⟩
  | 128 => ⟨.struct [(0, 126)], 0, 0, .agg #[]⟩
  | 129 => ⟨.int .u8, 1, 1, .int .u8 0⟩
  | 130 => ⟨.int .u8, 1, 1, .int .u8 0⟩
  | 133 => ⟨.int .i32, 1, 4, .int .i32 0⟩
  | 134 => ⟨.int .i32, 1, 4, .int .i32 0⟩
  | 135 => ⟨.struct [(0, 12), (1, 12), (2, 102), (3, 129), (4, 5), (5, 5), (6, 130), (7, 131), (8, 132), (9, 133), (10, 134)], 11, 48, .agg #[.int .u64 0, .int .u64 0, .int .u32 0, .int .u8 0, .int .u8 0, .int .u8 0, .int .u8 0, .nilFunc, .pointer none, .int .i32 0, .int .i32 0]⟩
  | 136 => ⟨.struct [(0, 12), (1, 12), (2, 102), (3, 129), (4, 5), (5, 5), (6, 130), (7, 131), (8, 132), (9, 133), (10, 134)], 11, 48, .agg #[.int .u64 0, .int .u64 0, .int .u32 0, .int .u8 0, .int .u8 0, .int .u8 0, .int .u8 0, .nilFunc, .pointer none, .int .i32 0, .int .i32 0]⟩
  | _ => TyRow.none
theorem tab2 : tab 2 = ⟨.int .i64, 1, 8, .int .i64 0⟩ := rfl
theorem tab3 : tab 3 = ⟨.int .i64, 1, 8, .int .i64 0⟩ := rfl
theorem tab4 : tab 4 = ⟨.bool, 1, 1, .bool false⟩ := rfl
theorem tab5 : tab 5 = ⟨.int .u8, 1, 1, .int .u8 0⟩ := rfl
theorem tab6 : tab 6 = ⟨.int .u8, 1, 1, .int .u8 0⟩ := rfl
theorem tab7 : tab 7 = ⟨.struct [(0, 2), (1, 3), (2, 4), (3, 6)], 4, 24, .agg #[.int .i64 0, .int .i64 0, .bool false, .int .u8 0]⟩ := rfl
theorem tab8 : tab 8 = ⟨.struct [(0, 2), (1, 3), (2, 4), (3, 6)], 4, 24, .agg #[.int .i64 0, .int .i64 0, .bool false, .int .u8 0]⟩ := rfl
theorem tab9 : tab 9 = ⟨.str, 1, 16, .string ⟨#[]⟩⟩ := rfl
theorem tab10 : tab 10 = ⟨.str, 1, 16, .string ⟨#[]⟩⟩ := rfl
theorem tab11 : tab 11 = ⟨.str, 1, 16, .string ⟨#[]⟩⟩ := rfl
theorem tab12 : tab 12 = ⟨.int .u64, 1, 8, .int .u64 0⟩ := rfl
theorem tab13 : tab 13 = ⟨.struct [(0, 9), (1, 12)], 2, 24, .agg #[.string ⟨#[]⟩, .int .u64 0]⟩ := rfl
theorem tab14 : tab 14 = ⟨.struct [(0, 9), (1, 12)], 2, 24, .agg #[.string ⟨#[]⟩, .int .u64 0]⟩ := rfl
theorem tab18 : tab 18 = ⟨.struct [(0, 17)], 1, 8, .agg #[.pointer none]⟩ := rfl
theorem tab19 : tab 19 = ⟨.struct [(0, 17)], 1, 8, .agg #[.pointer none]⟩ := rfl
theorem tab21 : tab 21 = ⟨.int .i32, 1, 4, .int .i32 0⟩ := rfl
theorem tab22 : tab 22 = ⟨.slice 3, 1, 24, .slice none 0 0⟩ := rfl
theorem tab23 : tab 23 = ⟨.struct [(0, 3), (1, 22)], 2, 32, .agg #[.int .i64 0, .slice none 0 0]⟩ := rfl
theorem tab24 : tab 24 = ⟨.struct [(0, 3), (1, 22)], 2, 32, .agg #[.int .i64 0, .slice none 0 0]⟩ := rfl
theorem tab25 : tab 25 = ⟨.int .i64, 1, 8, .int .i64 0⟩ := rfl
theorem tab31 : tab 31 = ⟨.fn, 1, 8, .nilFunc⟩ := rfl
theorem tab41 : tab 41 = ⟨.fn, 1, 8, .nilFunc⟩ := rfl
theorem tab51 : tab 51 = ⟨.slice 2, 1, 24, .slice none 0 0⟩ := rfl
theorem tab59 : tab 59 = ⟨.fn, 1, 8, .nilFunc⟩ := rfl
theorem tab77 : tab 77 = ⟨.fn, 1, 8, .nilFunc⟩ := rfl
theorem tab83 : tab 83 = ⟨.struct [(0, 24), (2, 22), (3, 22)], 4, 80, .agg #[.int .i64 0, .slice none 0 0, .slice none 0 0, .slice none 0 0]⟩ := rfl
theorem tab84 : tab 84 = ⟨.struct [(0, 24), (2, 22), (3, 22)], 4, 80, .agg #[.int .i64 0, .slice none 0 0, .slice none 0 0, .slice none 0 0]⟩ := rfl
theorem tab92 : tab 92 = ⟨.int .u64, 1, 8, .int .u64 0⟩ := rfl
theorem tab102 : tab 102 = ⟨.int .u32, 1, 4, .int .u32 0⟩ := rfl
theorem tab104 : tab 104 = ⟨.int .u64, 1, 8, .int .u64 0⟩ := rfl
theorem tab108 : tab 108 = ⟨.int .i64, 1, 8, .int .i64 0⟩ := rfl
theorem tab113 : tab 113 = ⟨.int .u64, 1, 8, .int .u64 0⟩ := rfl
theorem tab124 : tab 124 = ⟨.struct [(0, 17), (1, 17), (2, 17), (3, 9)], 4, 40, .agg #[.pointer none, .pointer none, .pointer none, .string ⟨#[]⟩]⟩ := rfl
theorem tab125 : tab 125 = ⟨.struct [(0, 17), (1, 17), (2, 17), (3, 9)], 4, 40, .agg #[.pointer none, .pointer none, .pointer none, .string ⟨#[]⟩]⟩ := rfl
theorem tab127 : tab 127 = ⟨.struct [(0, 126)], 0, 0, .agg #[]⟩ := rfl
theorem tab128 : tab 128 = ⟨.struct [(0, 126)], 0, 0, .agg #[]⟩ := rfl
theorem tab129 : tab 129 = ⟨.int .u8, 1, 1, .int .u8 0⟩ := rfl
theorem tab130 : tab 130 = ⟨.int .u8, 1, 1, .int .u8 0⟩ := rfl
theorem tab133 : tab 133 = ⟨.int .i32, 1, 4, .int .i32 0⟩ := rfl
theorem tab134 : tab 134 = ⟨.int .i32, 1, 4, .int .i32 0⟩ := rfl
theorem tab135 : tab 135 = ⟨.struct [(0, 12), (1, 12), (2, 102), (3, 129), (4, 5), (5, 5), (6, 130), (7, 131), (8, 132), (9, 133), (10, 134)], 11, 48, .agg #[.int .u64 0, .int .u64 0, .int .u32 0, .int .u8 0, .int .u8 0, .int .u8 0, .int .u8 0, .nilFunc, .pointer none, .int .i32 0, .int .i32 0]⟩ := rfl
theorem tab136 : tab 136 = ⟨.struct [(0, 12), (1, 12), (2, 102), (3, 129), (4, 5), (5, 5), (6, 130), (7, 131), (8, 132), (9, 133), (10, 134)], 11, 48, .agg #[.int .u64 0, .int .u64 0, .int .u32 0, .int .u8 0, .int .u8 0, .int .u8 0, .int .u8 0, .nilFunc, .pointer none, .int .i32 0, .int .i32 0]⟩ := rfl
theorem row2 : RowOk Try.prog 2 ⟨.int .i64, 1, 8, .int .i64 0⟩ := ⟨Try.underlying2, ⟨Try.t2, by kernel_rfl, rfl, rfl, rfl⟩, rfl⟩
theorem row3 : RowOk Try.prog 3 ⟨.int .i64, 1, 8, .int .i64 0⟩ := ⟨Try.underlying3, ⟨Try.t3, by kernel_rfl, rfl, rfl, rfl⟩, rfl⟩
theorem row4 : RowOk Try.prog 4 ⟨.bool, 1, 1, .bool false⟩ := ⟨Try.underlying4, ⟨Try.t4, by kernel_rfl, rfl, rfl, rfl⟩, rfl⟩
theorem row5 : RowOk Try.prog 5 ⟨.int .u8, 1, 1, .int .u8 0⟩ := ⟨Try.underlying5, ⟨Try.t5, by kernel_rfl, rfl, rfl, rfl⟩, rfl⟩
theorem row6 : RowOk Try.prog 6 ⟨.int .u8, 1, 1, .int .u8 0⟩ := ⟨Try.underlying6, ⟨Try.t6, by kernel_rfl, rfl, rfl, rfl⟩, rfl⟩
theorem row7 : RowOk Try.prog 7 ⟨.struct [(0, 2), (1, 3), (2, 4), (3, 6)], 4, 24, .agg #[.int .i64 0, .int .i64 0, .bool false, .int .u8 0]⟩ := ⟨⟨_, Try.underlying7, rfl⟩, ⟨Try.t7, by kernel_rfl, rfl, rfl, rfl⟩⟩
theorem row8 : RowOk Try.prog 8 ⟨.struct [(0, 2), (1, 3), (2, 4), (3, 6)], 4, 24, .agg #[.int .i64 0, .int .i64 0, .bool false, .int .u8 0]⟩ := ⟨⟨_, Try.underlying8, rfl⟩, ⟨Try.t8, by kernel_rfl, rfl, rfl, rfl⟩⟩
theorem row9 : RowOk Try.prog 9 ⟨.str, 1, 16, .string ⟨#[]⟩⟩ := ⟨Try.underlying9, ⟨Try.t9, by kernel_rfl, rfl, rfl, rfl⟩, rfl⟩
theorem row10 : RowOk Try.prog 10 ⟨.str, 1, 16, .string ⟨#[]⟩⟩ := ⟨Try.underlying10, ⟨Try.t10, by kernel_rfl, rfl, rfl, rfl⟩, rfl⟩
theorem row11 : RowOk Try.prog 11 ⟨.str, 1, 16, .string ⟨#[]⟩⟩ := ⟨Try.underlying11, ⟨Try.t11, by kernel_rfl, rfl, rfl, rfl⟩, rfl⟩
theorem row12 : RowOk Try.prog 12 ⟨.int .u64, 1, 8, .int .u64 0⟩ := ⟨Try.underlying12, ⟨Try.t12, by kernel_rfl, rfl, rfl, rfl⟩, rfl⟩
theorem row13 : RowOk Try.prog 13 ⟨.struct [(0, 9), (1, 12)], 2, 24, .agg #[.string ⟨#[]⟩, .int .u64 0]⟩ := ⟨⟨_, Try.underlying13, rfl⟩, ⟨Try.t13, by kernel_rfl, rfl, rfl, rfl⟩⟩
theorem row14 : RowOk Try.prog 14 ⟨.struct [(0, 9), (1, 12)], 2, 24, .agg #[.string ⟨#[]⟩, .int .u64 0]⟩ := ⟨⟨_, Try.underlying14, rfl⟩, ⟨Try.t14, by kernel_rfl, rfl, rfl, rfl⟩⟩
theorem row18 : RowOk Try.prog 18 ⟨.struct [(0, 17)], 1, 8, .agg #[.pointer none]⟩ := ⟨⟨_, Try.underlying18, rfl⟩, ⟨Try.t18, by kernel_rfl, rfl, rfl, rfl⟩⟩
theorem row19 : RowOk Try.prog 19 ⟨.struct [(0, 17)], 1, 8, .agg #[.pointer none]⟩ := ⟨⟨_, Try.underlying19, rfl⟩, ⟨Try.t19, by kernel_rfl, rfl, rfl, rfl⟩⟩
theorem row21 : RowOk Try.prog 21 ⟨.int .i32, 1, 4, .int .i32 0⟩ := ⟨Try.underlying21, ⟨Try.t21, by kernel_rfl, rfl, rfl, rfl⟩, rfl⟩
theorem row22 : RowOk Try.prog 22 ⟨.slice 3, 1, 24, .slice none 0 0⟩ := ⟨Try.underlying22, ⟨Try.t22, by kernel_rfl, rfl, rfl, rfl⟩, rfl⟩
theorem row23 : RowOk Try.prog 23 ⟨.struct [(0, 3), (1, 22)], 2, 32, .agg #[.int .i64 0, .slice none 0 0]⟩ := ⟨⟨_, Try.underlying23, rfl⟩, ⟨Try.t23, by kernel_rfl, rfl, rfl, rfl⟩⟩
theorem row24 : RowOk Try.prog 24 ⟨.struct [(0, 3), (1, 22)], 2, 32, .agg #[.int .i64 0, .slice none 0 0]⟩ := ⟨⟨_, Try.underlying24, rfl⟩, ⟨Try.t24, by kernel_rfl, rfl, rfl, rfl⟩⟩
theorem row25 : RowOk Try.prog 25 ⟨.int .i64, 1, 8, .int .i64 0⟩ := ⟨Try.underlying25, ⟨Try.t25, by kernel_rfl, rfl, rfl, rfl⟩, rfl⟩
theorem row31 : RowOk Try.prog 31 ⟨.fn, 1, 8, .nilFunc⟩ := ⟨⟨_, Try.underlying31, fun w => by simp [isAgg, run_underlying Try.underlying31]⟩, ⟨Try.t31, by kernel_rfl, rfl, rfl, rfl⟩, rfl⟩
theorem row41 : RowOk Try.prog 41 ⟨.fn, 1, 8, .nilFunc⟩ := ⟨⟨_, Try.underlying41, fun w => by simp [isAgg, run_underlying Try.underlying41]⟩, ⟨Try.t41, by kernel_rfl, rfl, rfl, rfl⟩, rfl⟩
theorem row51 : RowOk Try.prog 51 ⟨.slice 2, 1, 24, .slice none 0 0⟩ := ⟨Try.underlying51, ⟨Try.t51, by kernel_rfl, rfl, rfl, rfl⟩, rfl⟩
theorem row59 : RowOk Try.prog 59 ⟨.fn, 1, 8, .nilFunc⟩ := ⟨⟨_, Try.underlying59, fun w => by simp [isAgg, run_underlying Try.underlying59]⟩, ⟨Try.t59, by kernel_rfl, rfl, rfl, rfl⟩, rfl⟩
theorem row77 : RowOk Try.prog 77 ⟨.fn, 1, 8, .nilFunc⟩ := ⟨⟨_, Try.underlying77, fun w => by simp [isAgg, run_underlying Try.underlying77]⟩, ⟨Try.t77, by kernel_rfl, rfl, rfl, rfl⟩, rfl⟩
theorem row83 : RowOk Try.prog 83 ⟨.struct [(0, 24), (2, 22), (3, 22)], 4, 80, .agg #[.int .i64 0, .slice none 0 0, .slice none 0 0, .slice none 0 0]⟩ := ⟨⟨_, Try.underlying83, rfl⟩, ⟨Try.t83, by kernel_rfl, rfl, rfl, rfl⟩⟩
theorem row84 : RowOk Try.prog 84 ⟨.struct [(0, 24), (2, 22), (3, 22)], 4, 80, .agg #[.int .i64 0, .slice none 0 0, .slice none 0 0, .slice none 0 0]⟩ := ⟨⟨_, Try.underlying84, rfl⟩, ⟨Try.t84, by kernel_rfl, rfl, rfl, rfl⟩⟩
theorem row92 : RowOk Try.prog 92 ⟨.int .u64, 1, 8, .int .u64 0⟩ := ⟨Try.underlying92, ⟨Try.t92, by kernel_rfl, rfl, rfl, rfl⟩, rfl⟩
theorem row102 : RowOk Try.prog 102 ⟨.int .u32, 1, 4, .int .u32 0⟩ := ⟨Try.underlying102, ⟨Try.t102, by kernel_rfl, rfl, rfl, rfl⟩, rfl⟩
theorem row104 : RowOk Try.prog 104 ⟨.int .u64, 1, 8, .int .u64 0⟩ := ⟨Try.underlying104, ⟨Try.t104, by kernel_rfl, rfl, rfl, rfl⟩, rfl⟩
theorem row108 : RowOk Try.prog 108 ⟨.int .i64, 1, 8, .int .i64 0⟩ := ⟨Try.underlying108, ⟨Try.t108, by kernel_rfl, rfl, rfl, rfl⟩, rfl⟩
theorem row113 : RowOk Try.prog 113 ⟨.int .u64, 1, 8, .int .u64 0⟩ := ⟨Try.underlying113, ⟨Try.t113, by kernel_rfl, rfl, rfl, rfl⟩, rfl⟩
theorem row124 : RowOk Try.prog 124 ⟨.struct [(0, 17), (1, 17), (2, 17), (3, 9)], 4, 40, .agg #[.pointer none, .pointer none, .pointer none, .string ⟨#[]⟩]⟩ := ⟨⟨_, Try.underlying124, rfl⟩, ⟨Try.t124, by kernel_rfl, rfl, rfl, rfl⟩⟩
theorem row125 : RowOk Try.prog 125 ⟨.struct [(0, 17), (1, 17), (2, 17), (3, 9)], 4, 40, .agg #[.pointer none, .pointer none, .pointer none, .string ⟨#[]⟩]⟩ := ⟨⟨_, Try.underlying125, rfl⟩, ⟨Try.t125, by kernel_rfl, rfl, rfl, rfl⟩⟩
theorem row127 : RowOk Try.prog 127 ⟨.struct [(0, 126)], 0, 0, .agg #[]⟩ := ⟨⟨_, Try.underlying127, rfl⟩, ⟨Try.t127, by kernel_rfl, rfl, rfl, rfl⟩⟩
theorem row128 : RowOk Try.prog 128 ⟨.struct [(0, 126)], 0, 0, .agg #[]⟩ := ⟨⟨_, Try.underlying128, rfl⟩, ⟨Try.t128, by kernel_rfl, rfl, rfl, rfl⟩⟩
theorem row129 : RowOk Try.prog 129 ⟨.int .u8, 1, 1, .int .u8 0⟩ := ⟨Try.underlying129, ⟨Try.t129, by kernel_rfl, rfl, rfl, rfl⟩, rfl⟩
theorem row130 : RowOk Try.prog 130 ⟨.int .u8, 1, 1, .int .u8 0⟩ := ⟨Try.underlying130, ⟨Try.t130, by kernel_rfl, rfl, rfl, rfl⟩, rfl⟩
theorem row133 : RowOk Try.prog 133 ⟨.int .i32, 1, 4, .int .i32 0⟩ := ⟨Try.underlying133, ⟨Try.t133, by kernel_rfl, rfl, rfl, rfl⟩, rfl⟩
theorem row134 : RowOk Try.prog 134 ⟨.int .i32, 1, 4, .int .i32 0⟩ := ⟨Try.underlying134, ⟨Try.t134, by kernel_rfl, rfl, rfl, rfl⟩, rfl⟩
theorem row135 : RowOk Try.prog 135 ⟨.struct [(0, 12), (1, 12), (2, 102), (3, 129), (4, 5), (5, 5), (6, 130), (7, 131), (8, 132), (9, 133), (10, 134)], 11, 48, .agg #[.int .u64 0, .int .u64 0, .int .u32 0, .int .u8 0, .int .u8 0, .int .u8 0, .int .u8 0, .nilFunc, .pointer none, .int .i32 0, .int .i32 0]⟩ := ⟨⟨_, Try.underlying135, rfl⟩, ⟨Try.t135, by kernel_rfl, rfl, rfl, rfl⟩⟩
theorem row136 : RowOk Try.prog 136 ⟨.struct [(0, 12), (1, 12), (2, 102), (3, 129), (4, 5), (5, 5), (6, 130), (7, 131), (8, 132), (9, 133), (10, 134)], 11, 48, .agg #[.int .u64 0, .int .u64 0, .int .u32 0, .int .u8 0, .int .u8 0, .int .u8 0, .int .u8 0, .nilFunc, .pointer none, .int .i32 0, .int .i32 0]⟩ := ⟨⟨_, Try.underlying136, rfl⟩, ⟨Try.t136, by kernel_rfl, rfl, rfl, rfl⟩⟩
set_option maxRecDepth 100000 in
theorem tab_ok : TabOk Try.prog tab := by
  intro t
  unfold tab
  split
  · exact row2
  · exact row3
  · exact row4
  · exact row5
  · exact row6
  · exact row7
  · exact row8
  · exact row9
  · exact row10
  · exact row11
  · exact row12
  · exact row13
  · exact row14
  · exact row18
  · exact row19
  · exact row21
  · exact row22
  · exact row23
  · exact row24
  · exact row25
  · exact row31
  · exact row41
  · exact row51
  · exact row59
  · exact row77
  · exact row83
  · exact row84
  · exact row92
  · exact row102
  · exact row104
  · exact row108
  · exact row113
  · exact row124
  · exact row125
  · exact row127
  · exact row128
  · exact row129
  · exact row130
  · exact row133
  · exact row134
  · exact row135
  · exact row136
  · exact trivial
theorem mixed : Try.prog.follows .mixedOrders = true := by kernel_rfl
attribute [go_sem] tab2 tab3 tab4 tab5 tab6 tab7 tab8 tab9 tab10 tab11 tab12 tab13 tab14 tab18 tab19 tab21 tab22 tab23 tab24 tab25 tab31 tab41 tab51 tab59 tab77 tab83 tab84 tab92 tab102 tab104 tab108 tab113 tab124 tab125 tab127 tab128 tab129 tab130 tab133 tab134 tab135 tab136
end Go.AX.Try
