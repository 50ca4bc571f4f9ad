/-
  The table of types of this seat, for the abstract executor: it is the program's. By a program of mine (gentab.py). Conditions: none.
-/
import Derived.Test.YthmmjfjlnadojaaAxL
import Derived.Test.YthmmjfjlnadojaaChecked
import Derived.KernelRfl
set_option linter.unusedSimpArgs false
set_option linter.unusedVariables false
namespace Go.AX.Try
open Go Go.AX Go.Proofs

def tab : Tab
  | 2 => ⟨.int .i64, 1, 8, .int .i64 0⟩
  | 3 => ⟨.int .i64, 1, 8, .int .i64 0⟩
  | 4 => ⟨.bool, 1, 1, .bool false⟩
  | 5 => ⟨.int .u8, 1, 1, .int .u8 0⟩
  | 6 => ⟨.int .u8, 1, 1, .int .u8 0⟩
  | 7 => ⟨.struct [(0, 2), (1, 3), (2, 4), (3, 6)], 4, 24, .agg #[.int .i64 0, .int .i64 0, .bool false, .int .u8 0]⟩
  | 8 => ⟨.struct [(0, 2), (1, 3), (2, 4), (3, 6)], 4, 24, .agg #[.int .i64 0, .int .i64 0, .bool false, .int .u8 0]⟩
  | 9 => ⟨.str, 1, 16, .string ⟨#[]⟩⟩
  | 10 => ⟨.str, 1, 16, .string ⟨#[]⟩⟩
  | 11 => ⟨.str, 1, 16, .string ⟨#[]⟩⟩
  | 12 => ⟨.int .u64, 1, 8, .int .u64 0⟩
  | 13 => ⟨.struct [(0, 9), (1, 12)], 2, 24, .agg #[.string ⟨#[]⟩, .int .u64 0]⟩
  | 14 => ⟨.struct [(0, 9), (1, 12)], 2, 24, .agg #[.string ⟨#[]⟩, .int .u64 0]⟩
  | 18 => ⟨.struct [(0, 17)], 1, 8, .agg #[.pointer none]⟩
  | 19 => ⟨.struct [(0, 17)], 1, 8, .agg #[.pointer none]⟩
  | 21 => ⟨.int .i32, 1, 4, .int .i32 0⟩
  | 22 => ⟨.int .i64, 1, 8, .int .i64 0⟩
  | 25 => ⟨.struct [(0, 22), (1, 3)], 2, 16, .agg #[.int .i64 0, .int .i64 0]⟩
  | 26 => ⟨.struct [(0, 22), (1, 3)], 2, 16, .agg #[.int .i64 0, .int .i64 0]⟩
  | 30 => ⟨.slice 3, 1, 24, .slice none 0 0⟩
  | 34 => ⟨.slice 32, 1, 24, .slice none 0 0⟩
  | 36 => ⟨.slice 121, 1, 24, .slice none 0 0⟩
  | 37 => ⟨.struct [(0, 4), (1, 36)], 2, 32, .agg #[.bool false, .slice none 0 0]⟩
  | 38 => ⟨.struct [(0, 4), (1, 36)], 2, 32, .agg #[.bool false, .slice none 0 0]⟩
  | 39 => ⟨.struct [(0, 38), (2, 38)], 4, 64, .agg #[.bool false, .slice none 0 0, .bool false, .slice none 0 0]⟩
  | 40 => ⟨.struct [(0, 38), (2, 38)], 4, 64, .agg #[.bool false, .slice none 0 0, .bool false, .slice none 0 0]⟩
  | 55 => ⟨.slice 60, 1, 24, .slice none 0 0⟩
  | 56 => ⟨.struct [(0, 3), (1, 55)], 2, 32, .agg #[.int .i64 0, .slice none 0 0]⟩
  | 57 => ⟨.struct [(0, 3), (1, 55)], 2, 32, .agg #[.int .i64 0, .slice none 0 0]⟩
  | 59 => ⟨.struct [(0, 3), (1, 3)], 2, 16, .agg #[.int .i64 0, .int .i64 0]⟩
  | 60 => ⟨.struct [(0, 3), (1, 3)], 2, 16, .agg #[.int .i64 0, .int .i64 0]⟩
  | 65 => ⟨.slice 30, 1, 24, .slice none 0 0⟩
  | 66 => ⟨.struct [(0, 3), (1, 3), (2, 65)], 3, 40, .agg #[.int .i64 0, .int .i64 0, .slice none 0 0]⟩
  | 67 => ⟨.struct [(0, 3), (1, 3), (2, 65)], 3, 40, .agg #[.int .i64 0, .int .i64 0, .slice none 0 0]⟩
  | 85 => ⟨.slice 5, 1, 24, .slice none 0 0⟩
  | 96 => ⟨.int .u64, 1, 8, .int .u64 0⟩
  | 99 => ⟨.struct [(0, 57), (2, 3), (3, 3), (4, 98)], 5, 56, .agg #[.int .i64 0, .slice none 0 0, .int .i64 0, .int .i64 0, .map none]⟩
  | 100 => ⟨.struct [(0, 57), (2, 3), (3, 3), (4, 98)], 5, 56, .agg #[.int .i64 0, .slice none 0 0, .int .i64 0, .int .i64 0, .map none]⟩
  | 121 => ⟨.int .u32, 1, 4, .int .u32 0⟩
  | 123 => ⟨.int .u64, 1, 8, .int .u64 0⟩
  | 141 => ⟨.struct [(0, 17), (1, 17), (2, 17), (3, 9)], 4, 40, .agg #[.pointer none, .pointer none, .pointer none, .string ⟨#[]⟩]⟩
  | 142 => ⟨.struct [(0, 17), (1, 17), (2, 17), (3, 9)], 4, 40, .agg #[.pointer none, .pointer none, .pointer none, .string ⟨#[]⟩]⟩
  | 144 => ⟨.struct [(0, 143)], 0, 0, .agg #[]⟩
  | 145 => ⟨.struct [(0, 143)], 0, 0, .agg #[]⟩
  | 147 => ⟨.int .u8, 1, 1, .int .u8 0⟩
  | 148 => ⟨.int .u8, 1, 1, .int .u8 0⟩
  | 151 => ⟨.int .i32, 1, 4, .int .i32 0⟩
  | 152 => ⟨.int .i32, 1, 4, .int .i32 0⟩
  | 153 => ⟨.struct [(0, 12), (1, 12), (2, 121), (3, 147), (4, 5), (5, 5), (6, 148), (7, 149), (8, 150), (9, 151), (10, 152)], 11, 48, .agg #[.int .u64 0, .int .u64 0, .int .u32 0, .int .u8 0, .int .u8 0, .int .u8 0, .int .u8 0, .nilFunc, .pointer none, .int .i32 0, .int .i32 0]⟩
  | 154 => ⟨.struct [(0, 12), (1, 12), (2, 121), (3, 147), (4, 5), (5, 5), (6, 148), (7, 149), (8, 150), (9, 151), (10, 152)], 11, 48, .agg #[.int .u64 0, .int .u64 0, .int .u32 0, .int .u8 0, .int .u8 0, .int .u8 0, .int .u8 0, .nilFunc, .pointer none, .int .i32 0, .int .i32 0]⟩
  | _ => TyRow.none
theorem tab2 : tab 2 = ⟨.int .i64, 1, 8, .int .i64 0⟩ := rfl
theorem tab3 : tab 3 = ⟨.int .i64, 1, 8, .int .i64 0⟩ := rfl
theorem tab4 : tab 4 = ⟨.bool, 1, 1, .bool false⟩ := rfl
theorem tab5 : tab 5 = ⟨.int .u8, 1, 1, .int .u8 0⟩ := rfl
theorem tab6 : tab 6 = ⟨.int .u8, 1, 1, .int .u8 0⟩ := rfl
theorem tab7 : tab 7 = ⟨.struct [(0, 2), (1, 3), (2, 4), (3, 6)], 4, 24, .agg #[.int .i64 0, .int .i64 0, .bool false, .int .u8 0]⟩ := rfl
theorem tab8 : tab 8 = ⟨.struct [(0, 2), (1, 3), (2, 4), (3, 6)], 4, 24, .agg #[.int .i64 0, .int .i64 0, .bool false, .int .u8 0]⟩ := rfl
theorem tab9 : tab 9 = ⟨.str, 1, 16, .string ⟨#[]⟩⟩ := rfl
theorem tab10 : tab 10 = ⟨.str, 1, 16, .string ⟨#[]⟩⟩ := rfl
theorem tab11 : tab 11 = ⟨.str, 1, 16, .string ⟨#[]⟩⟩ := rfl
theorem tab12 : tab 12 = ⟨.int .u64, 1, 8, .int .u64 0⟩ := rfl
theorem tab13 : tab 13 = ⟨.struct [(0, 9), (1, 12)], 2, 24, .agg #[.string ⟨#[]⟩, .int .u64 0]⟩ := rfl
theorem tab14 : tab 14 = ⟨.struct [(0, 9), (1, 12)], 2, 24, .agg #[.string ⟨#[]⟩, .int .u64 0]⟩ := rfl
theorem tab18 : tab 18 = ⟨.struct [(0, 17)], 1, 8, .agg #[.pointer none]⟩ := rfl
theorem tab19 : tab 19 = ⟨.struct [(0, 17)], 1, 8, .agg #[.pointer none]⟩ := rfl
theorem tab21 : tab 21 = ⟨.int .i32, 1, 4, .int .i32 0⟩ := rfl
theorem tab22 : tab 22 = ⟨.int .i64, 1, 8, .int .i64 0⟩ := rfl
theorem tab25 : tab 25 = ⟨.struct [(0, 22), (1, 3)], 2, 16, .agg #[.int .i64 0, .int .i64 0]⟩ := rfl
theorem tab26 : tab 26 = ⟨.struct [(0, 22), (1, 3)], 2, 16, .agg #[.int .i64 0, .int .i64 0]⟩ := rfl
theorem tab30 : tab 30 = ⟨.slice 3, 1, 24, .slice none 0 0⟩ := rfl
theorem tab34 : tab 34 = ⟨.slice 32, 1, 24, .slice none 0 0⟩ := rfl
theorem tab36 : tab 36 = ⟨.slice 121, 1, 24, .slice none 0 0⟩ := rfl
theorem tab37 : tab 37 = ⟨.struct [(0, 4), (1, 36)], 2, 32, .agg #[.bool false, .slice none 0 0]⟩ := rfl
theorem tab38 : tab 38 = ⟨.struct [(0, 4), (1, 36)], 2, 32, .agg #[.bool false, .slice none 0 0]⟩ := rfl
theorem tab39 : tab 39 = ⟨.struct [(0, 38), (2, 38)], 4, 64, .agg #[.bool false, .slice none 0 0, .bool false, .slice none 0 0]⟩ := rfl
theorem tab40 : tab 40 = ⟨.struct [(0, 38), (2, 38)], 4, 64, .agg #[.bool false, .slice none 0 0, .bool false, .slice none 0 0]⟩ := rfl
theorem tab55 : tab 55 = ⟨.slice 60, 1, 24, .slice none 0 0⟩ := rfl
theorem tab56 : tab 56 = ⟨.struct [(0, 3), (1, 55)], 2, 32, .agg #[.int .i64 0, .slice none 0 0]⟩ := rfl
theorem tab57 : tab 57 = ⟨.struct [(0, 3), (1, 55)], 2, 32, .agg #[.int .i64 0, .slice none 0 0]⟩ := rfl
theorem tab59 : tab 59 = ⟨.struct [(0, 3), (1, 3)], 2, 16, .agg #[.int .i64 0, .int .i64 0]⟩ := rfl
theorem tab60 : tab 60 = ⟨.struct [(0, 3), (1, 3)], 2, 16, .agg #[.int .i64 0, .int .i64 0]⟩ := rfl
theorem tab65 : tab 65 = ⟨.slice 30, 1, 24, .slice none 0 0⟩ := rfl
theorem tab66 : tab 66 = ⟨.struct [(0, 3), (1, 3), (2, 65)], 3, 40, .agg #[.int .i64 0, .int .i64 0, .slice none 0 0]⟩ := rfl
theorem tab67 : tab 67 = ⟨.struct [(0, 3), (1, 3), (2, 65)], 3, 40, .agg #[.int .i64 0, .int .i64 0, .slice none 0 0]⟩ := rfl
theorem tab85 : tab 85 = ⟨.slice 5, 1, 24, .slice none 0 0⟩ := rfl
theorem tab96 : tab 96 = ⟨.int .u64, 1, 8, .int .u64 0⟩ := rfl
theorem tab99 : tab 99 = ⟨.struct [(0, 57), (2, 3), (3, 3), (4, 98)], 5, 56, .agg #[.int .i64 0, .slice none 0 0, .int .i64 0, .int .i64 0, .map none]⟩ := rfl
theorem tab100 : tab 100 = ⟨.struct [(0, 57), (2, 3), (3, 3), (4, 98)], 5, 56, .agg #[.int .i64 0, .slice none 0 0, .int .i64 0, .int .i64 0, .map none]⟩ := rfl
theorem tab121 : tab 121 = ⟨.int .u32, 1, 4, .int .u32 0⟩ := rfl
theorem tab123 : tab 123 = ⟨.int .u64, 1, 8, .int .u64 0⟩ := rfl
theorem tab141 : tab 141 = ⟨.struct [(0, 17), (1, 17), (2, 17), (3, 9)], 4, 40, .agg #[.pointer none, .pointer none, .pointer none, .string ⟨#[]⟩]⟩ := rfl
theorem tab142 : tab 142 = ⟨.struct [(0, 17), (1, 17), (2, 17), (3, 9)], 4, 40, .agg #[.pointer none, .pointer none, .pointer none, .string ⟨#[]⟩]⟩ := rfl
theorem tab144 : tab 144 = ⟨.struct [(0, 143)], 0, 0, .agg #[]⟩ := rfl
theorem tab145 : tab 145 = ⟨.struct [(0, 143)], 0, 0, .agg #[]⟩ := rfl
theorem tab147 : tab 147 = ⟨.int .u8, 1, 1, .int .u8 0⟩ := rfl
theorem tab148 : tab 148 = ⟨.int .u8, 1, 1, .int .u8 0⟩ := rfl
theorem tab151 : tab 151 = ⟨.int .i32, 1, 4, .int .i32 0⟩ := rfl
theorem tab152 : tab 152 = ⟨.int .i32, 1, 4, .int .i32 0⟩ := rfl
theorem tab153 : tab 153 = ⟨.struct [(0, 12), (1, 12), (2, 121), (3, 147), (4, 5), (5, 5), (6, 148), (7, 149), (8, 150), (9, 151), (10, 152)], 11, 48, .agg #[.int .u64 0, .int .u64 0, .int .u32 0, .int .u8 0, .int .u8 0, .int .u8 0, .int .u8 0, .nilFunc, .pointer none, .int .i32 0, .int .i32 0]⟩ := rfl
theorem tab154 : tab 154 = ⟨.struct [(0, 12), (1, 12), (2, 121), (3, 147), (4, 5), (5, 5), (6, 148), (7, 149), (8, 150), (9, 151), (10, 152)], 11, 48, .agg #[.int .u64 0, .int .u64 0, .int .u32 0, .int .u8 0, .int .u8 0, .int .u8 0, .int .u8 0, .nilFunc, .pointer none, .int .i32 0, .int .i32 0]⟩ := rfl
theorem row2 : RowOk Try.prog 2 ⟨.int .i64, 1, 8, .int .i64 0⟩ := ⟨Try.underlying2, ⟨Try.t2, by kernel_rfl, rfl, rfl, rfl⟩, rfl⟩
theorem row3 : RowOk Try.prog 3 ⟨.int .i64, 1, 8, .int .i64 0⟩ := ⟨Try.underlying3, ⟨Try.t3, by kernel_rfl, rfl, rfl, rfl⟩, rfl⟩
theorem row4 : RowOk Try.prog 4 ⟨.bool, 1, 1, .bool false⟩ := ⟨Try.underlying4, ⟨Try.t4, by kernel_rfl, rfl, rfl, rfl⟩, rfl⟩
theorem row5 : RowOk Try.prog 5 ⟨.int .u8, 1, 1, .int .u8 0⟩ := ⟨Try.underlying5, ⟨Try.t5, by kernel_rfl, rfl, rfl, rfl⟩, rfl⟩
theorem row6 : RowOk Try.prog 6 ⟨.int .u8, 1, 1, .int .u8 0⟩ := ⟨Try.underlying6, ⟨Try.t6, by kernel_rfl, rfl, rfl, rfl⟩, rfl⟩
theorem row7 : RowOk Try.prog 7 ⟨.struct [(0, 2), (1, 3), (2, 4), (3, 6)], 4, 24, .agg #[.int .i64 0, .int .i64 0, .bool false, .int .u8 0]⟩ := ⟨⟨_, Try.underlying7, rfl⟩, ⟨Try.t7, by kernel_rfl, rfl, rfl, rfl⟩⟩
theorem row8 : RowOk Try.prog 8 ⟨.struct [(0, 2), (1, 3), (2, 4), (3, 6)], 4, 24, .agg #[.int .i64 0, .int .i64 0, .bool false, .int .u8 0]⟩ := ⟨⟨_, Try.underlying8, rfl⟩, ⟨Try.t8, by kernel_rfl, rfl, rfl, rfl⟩⟩
theorem row9 : RowOk Try.prog 9 ⟨.str, 1, 16, .string ⟨#[]⟩⟩ := ⟨Try.underlying9, ⟨Try.t9, by kernel_rfl, rfl, rfl, rfl⟩, rfl⟩
theorem row10 : RowOk Try.prog 10 ⟨.str, 1, 16, .string ⟨#[]⟩⟩ := ⟨Try.underlying10, ⟨Try.t10, by kernel_rfl, rfl, rfl, rfl⟩, rfl⟩
theorem row11 : RowOk Try.prog 11 ⟨.str, 1, 16, .string ⟨#[]⟩⟩ := ⟨Try.underlying11, ⟨Try.t11, by kernel_rfl, rfl, rfl, rfl⟩, rfl⟩
theorem row12 : RowOk Try.prog 12 ⟨.int .u64, 1, 8, .int .u64 0⟩ := ⟨Try.underlying12, ⟨Try.t12, by kernel_rfl, rfl, rfl, rfl⟩, rfl⟩
theorem row13 : RowOk Try.prog 13 ⟨.struct [(0, 9), (1, 12)], 2, 24, .agg #[.string ⟨#[]⟩, .int .u64 0]⟩ := ⟨⟨_, Try.underlying13, rfl⟩, ⟨Try.t13, by kernel_rfl, rfl, rfl, rfl⟩⟩
theorem row14 : RowOk Try.prog 14 ⟨.struct [(0, 9), (1, 12)], 2, 24, .agg #[.string ⟨#[]⟩, .int .u64 0]⟩ := ⟨⟨_, Try.underlying14, rfl⟩, ⟨Try.t14, by kernel_rfl, rfl, rfl, rfl⟩⟩
theorem row18 : RowOk Try.prog 18 ⟨.struct [(0, 17)], 1, 8, .agg #[.pointer none]⟩ := ⟨⟨_, Try.underlying18, rfl⟩, ⟨Try.t18, by kernel_rfl, rfl, rfl, rfl⟩⟩
theorem row19 : RowOk Try.prog 19 ⟨.struct [(0, 17)], 1, 8, .agg #[.pointer none]⟩ := ⟨⟨_, Try.underlying19, rfl⟩, ⟨Try.t19, by kernel_rfl, rfl, rfl, rfl⟩⟩
theorem row21 : RowOk Try.prog 21 ⟨.int .i32, 1, 4, .int .i32 0⟩ := ⟨Try.underlying21, ⟨Try.t21, by kernel_rfl, rfl, rfl, rfl⟩, rfl⟩
theorem row22 : RowOk Try.prog 22 ⟨.int .i64, 1, 8, .int .i64 0⟩ := ⟨Try.underlying22, ⟨Try.t22, by kernel_rfl, rfl, rfl, rfl⟩, rfl⟩
theorem row25 : RowOk Try.prog 25 ⟨.struct [(0, 22), (1, 3)], 2, 16, .agg #[.int .i64 0, .int .i64 0]⟩ := ⟨⟨_, Try.underlying25, rfl⟩, ⟨Try.t25, by kernel_rfl, rfl, rfl, rfl⟩⟩
theorem row26 : RowOk Try.prog 26 ⟨.struct [(0, 22), (1, 3)], 2, 16, .agg #[.int .i64 0, .int .i64 0]⟩ := ⟨⟨_, Try.underlying26, rfl⟩, ⟨Try.t26, by kernel_rfl, rfl, rfl, rfl⟩⟩
theorem row30 : RowOk Try.prog 30 ⟨.slice 3, 1, 24, .slice none 0 0⟩ := ⟨Try.underlying30, ⟨Try.t30, by kernel_rfl, rfl, rfl, rfl⟩, rfl⟩
theorem row34 : RowOk Try.prog 34 ⟨.slice 32, 1, 24, .slice none 0 0⟩ := ⟨Try.underlying34, ⟨Try.t34, by kernel_rfl, rfl, rfl, rfl⟩, rfl⟩
theorem row36 : RowOk Try.prog 36 ⟨.slice 121, 1, 24, .slice none 0 0⟩ := ⟨Try.underlying36, ⟨Try.t36, by kernel_rfl, rfl, rfl, rfl⟩, rfl⟩
theorem row37 : RowOk Try.prog 37 ⟨.struct [(0, 4), (1, 36)], 2, 32, .agg #[.bool false, .slice none 0 0]⟩ := ⟨⟨_, Try.underlying37, rfl⟩, ⟨Try.t37, by kernel_rfl, rfl, rfl, rfl⟩⟩
theorem row38 : RowOk Try.prog 38 ⟨.struct [(0, 4), (1, 36)], 2, 32, .agg #[.bool false, .slice none 0 0]⟩ := ⟨⟨_, Try.underlying38, rfl⟩, ⟨Try.t38, by kernel_rfl, rfl, rfl, rfl⟩⟩
theorem row39 : RowOk Try.prog 39 ⟨.struct [(0, 38), (2, 38)], 4, 64, .agg #[.bool false, .slice none 0 0, .bool false, .slice none 0 0]⟩ := ⟨⟨_, Try.underlying39, rfl⟩, ⟨Try.t39, by kernel_rfl, rfl, rfl, rfl⟩⟩
theorem row40 : RowOk Try.prog 40 ⟨.struct [(0, 38), (2, 38)], 4, 64, .agg #[.bool false, .slice none 0 0, .bool false, .slice none 0 0]⟩ := ⟨⟨_, Try.underlying40, rfl⟩, ⟨Try.t40, by kernel_rfl, rfl, rfl, rfl⟩⟩
theorem row55 : RowOk Try.prog 55 ⟨.slice 60, 1, 24, .slice none 0 0⟩ := ⟨Try.underlying55, ⟨Try.t55, by kernel_rfl, rfl, rfl, rfl⟩, rfl⟩
theorem row56 : RowOk Try.prog 56 ⟨.struct [(0, 3), (1, 55)], 2, 32, .agg #[.int .i64 0, .slice none 0 0]⟩ := ⟨⟨_, Try.underlying56, rfl⟩, ⟨Try.t56, by kernel_rfl, rfl, rfl, rfl⟩⟩
theorem row57 : RowOk Try.prog 57 ⟨.struct [(0, 3), (1, 55)], 2, 32, .agg #[.int .i64 0, .slice none 0 0]⟩ := ⟨⟨_, Try.underlying57, rfl⟩, ⟨Try.t57, by kernel_rfl, rfl, rfl, rfl⟩⟩
theorem row59 : RowOk Try.prog 59 ⟨.struct [(0, 3), (1, 3)], 2, 16, .agg #[.int .i64 0, .int .i64 0]⟩ := ⟨⟨_, Try.underlying59, rfl⟩, ⟨Try.t59, by kernel_rfl, rfl, rfl, rfl⟩⟩
theorem row60 : RowOk Try.prog 60 ⟨.struct [(0, 3), (1, 3)], 2, 16, .agg #[.int .i64 0, .int .i64 0]⟩ := ⟨⟨_, Try.underlying60, rfl⟩, ⟨Try.t60, by kernel_rfl, rfl, rfl, rfl⟩⟩
theorem row65 : RowOk Try.prog 65 ⟨.slice 30, 1, 24, .slice none 0 0⟩ := ⟨Try.underlying65, ⟨Try.t65, by kernel_rfl, rfl, rfl, rfl⟩, rfl⟩
theorem row66 : RowOk Try.prog 66 ⟨.struct [(0, 3), (1, 3), (2, 65)], 3, 40, .agg #[.int .i64 0, .int .i64 0, .slice none 0 0]⟩ := ⟨⟨_, Try.underlying66, rfl⟩, ⟨Try.t66, by kernel_rfl, rfl, rfl, rfl⟩⟩
theorem row67 : RowOk Try.prog 67 ⟨.struct [(0, 3), (1, 3), (2, 65)], 3, 40, .agg #[.int .i64 0, .int .i64 0, .slice none 0 0]⟩ := ⟨⟨_, Try.underlying67, rfl⟩, ⟨Try.t67, by kernel_rfl, rfl, rfl, rfl⟩⟩
theorem row85 : RowOk Try.prog 85 ⟨.slice 5, 1, 24, .slice none 0 0⟩ := ⟨Try.underlying85, ⟨Try.t85, by kernel_rfl, rfl, rfl, rfl⟩, rfl⟩
theorem row96 : RowOk Try.prog 96 ⟨.int .u64, 1, 8, .int .u64 0⟩ := ⟨Try.underlying96, ⟨Try.t96, by kernel_rfl, rfl, rfl, rfl⟩, rfl⟩
theorem row99 : RowOk Try.prog 99 ⟨.struct [(0, 57), (2, 3), (3, 3), (4, 98)], 5, 56, .agg #[.int .i64 0, .slice none 0 0, .int .i64 0, .int .i64 0, .map none]⟩ := ⟨⟨_, Try.underlying99, rfl⟩, ⟨Try.t99, by kernel_rfl, rfl, rfl, rfl⟩⟩
theorem row100 : RowOk Try.prog 100 ⟨.struct [(0, 57), (2, 3), (3, 3), (4, 98)], 5, 56, .agg #[.int .i64 0, .slice none 0 0, .int .i64 0, .int .i64 0, .map none]⟩ := ⟨⟨_, Try.underlying100, rfl⟩, ⟨Try.t100, by kernel_rfl, rfl, rfl, rfl⟩⟩
theorem row121 : RowOk Try.prog 121 ⟨.int .u32, 1, 4, .int .u32 0⟩ := ⟨Try.underlying121, ⟨Try.t121, by kernel_rfl, rfl, rfl, rfl⟩, rfl⟩
theorem row123 : RowOk Try.prog 123 ⟨.int .u64, 1, 8, .int .u64 0⟩ := ⟨Try.underlying123, ⟨Try.t123, by kernel_rfl, rfl, rfl, rfl⟩, rfl⟩
theorem row141 : RowOk Try.prog 141 ⟨.struct [(0, 17), (1, 17), (2, 17), (3, 9)], 4, 40, .agg #[.pointer none, .pointer none, .pointer none, .string ⟨#[]⟩]⟩ := ⟨⟨_, Try.underlying141, rfl⟩, ⟨Try.t141, by kernel_rfl, rfl, rfl, rfl⟩⟩
theorem row142 : RowOk Try.prog 142 ⟨.struct [(0, 17), (1, 17), (2, 17), (3, 9)], 4, 40, .agg #[.pointer none, .pointer none, .pointer none, .string ⟨#[]⟩]⟩ := ⟨⟨_, Try.underlying142, rfl⟩, ⟨Try.t142, by kernel_rfl, rfl, rfl, rfl⟩⟩
theorem row144 : RowOk Try.prog 144 ⟨.struct [(0, 143)], 0, 0, .agg #[]⟩ := ⟨⟨_, Try.underlying144, rfl⟩, ⟨Try.t144, by kernel_rfl, rfl, rfl, rfl⟩⟩
theorem row145 : RowOk Try.prog 145 ⟨.struct [(0, 143)], 0, 0, .agg #[]⟩ := ⟨⟨_, Try.underlying145, rfl⟩, ⟨Try.t145, by kernel_rfl, rfl, rfl, rfl⟩⟩
theorem row147 : RowOk Try.prog 147 ⟨.int .u8, 1, 1, .int .u8 0⟩ := ⟨Try.underlying147, ⟨Try.t147, by kernel_rfl, rfl, rfl, rfl⟩, rfl⟩
theorem row148 : RowOk Try.prog 148 ⟨.int .u8, 1, 1, .int .u8 0⟩ := ⟨Try.underlying148, ⟨Try.t148, by kernel_rfl, rfl, rfl, rfl⟩, rfl⟩
theorem row151 : RowOk Try.prog 151 ⟨.int .i32, 1, 4, .int .i32 0⟩ := ⟨Try.underlying151, ⟨Try.t151, by kernel_rfl, rfl, rfl, rfl⟩, rfl⟩
theorem row152 : RowOk Try.prog 152 ⟨.int .i32, 1, 4, .int .i32 0⟩ := ⟨Try.underlying152, ⟨Try.t152, by kernel_rfl, rfl, rfl, rfl⟩, rfl⟩
theorem row153 : RowOk Try.prog 153 ⟨.struct [(0, 12), (1, 12), (2, 121), (3, 147), (4, 5), (5, 5), (6, 148), (7, 149), (8, 150), (9, 151), (10, 152)], 11, 48, .agg #[.int .u64 0, .int .u64 0, .int .u32 0, .int .u8 0, .int .u8 0, .int .u8 0, .int .u8 0, .nilFunc, .pointer none, .int .i32 0, .int .i32 0]⟩ := ⟨⟨_, Try.underlying153, rfl⟩, ⟨Try.t153, by kernel_rfl, rfl, rfl, rfl⟩⟩
theorem row154 : RowOk Try.prog 154 ⟨.struct [(0, 12), (1, 12), (2, 121), (3, 147), (4, 5), (5, 5), (6, 148), (7, 149), (8, 150), (9, 151), (10, 152)], 11, 48, .agg #[.int .u64 0, .int .u64 0, .int .u32 0, .int .u8 0, .int .u8 0, .int .u8 0, .int .u8 0, .nilFunc, .pointer none, .int .i32 0, .int .i32 0]⟩ := ⟨⟨_, Try.underlying154, rfl⟩, ⟨Try.t154, by kernel_rfl, rfl, rfl, rfl⟩⟩
set_option maxRecDepth 100000 in
theorem tab_ok : TabOk Try.prog tab := by
  intro t
  unfold tab
  split
  · exact row2
  · exact row3
  · exact row4
  · exact row5
  · exact row6
  · exact row7
  · exact row8
  · exact row9
  · exact row10
  · exact row11
  · exact row12
  · exact row13
  · exact row14
  · exact row18
  · exact row19
  · exact row21
  · exact row22
  · exact row25
  · exact row26
  · exact row30
  · exact row34
  · exact row36
  · exact row37
  · exact row38
  · exact row39
  · exact row40
  · exact row55
  · exact row56
  · exact row57
  · exact row59
  · exact row60
  · exact row65
  · exact row66
  · exact row67
  · exact row85
  · exact row96
  · exact row99
  · exact row100
  · exact row121
  · exact row123
  · exact row141
  · exact row142
  · exact row144
  · exact row145
  · exact row147
  · exact row148
  · exact row151
  · exact row152
  · exact row153
  · exact row154
  · exact trivial
theorem mixed : Try.prog.follows .mixedOrders = true := by kernel_rfl
attribute [go_sem] tab2 tab3 tab4 tab5 tab6 tab7 tab8 tab9 tab10 tab11 tab12 tab13 tab14 tab18 tab19 tab21 tab22 tab25 tab26 tab30 tab34 tab36 tab37 tab38 tab39 tab40 tab55 tab56 tab57 tab59 tab60 tab65 tab66 tab67 tab85 tab96 tab99 tab100 tab121 tab123 tab141 tab142 tab144 tab145 tab147 tab148 tab151 tab152 tab153 tab154
end Go.AX.Try
