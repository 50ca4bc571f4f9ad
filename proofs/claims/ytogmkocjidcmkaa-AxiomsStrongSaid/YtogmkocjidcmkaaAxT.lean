/-
  The table of types of this seat, for the abstract executor: it is the program's. By a program of mine (gentab.py). Conditions: none.
-/
import Derived.Test.YtogmkocjidcmkaaAxL
import Derived.Test.YtogmkocjidcmkaaChecked
import Derived.KernelRfl
set_option linter.unusedSimpArgs false
set_option linter.unusedVariables false
namespace Go.AX.Try
open Go Go.AX Go.Proofs

def tab : Tab
  | 2 => ⟨.int .i64, 1, 8, .int .i64 0⟩
  | 3 => ⟨.int .i64, 1, 8, .int .i64 0⟩
  | 4 => ⟨.bool, 1, 1, .bool false⟩
  | 5 => ⟨.int .u8, 1, 1, .int .u8 0⟩
  | 6 => ⟨.int .u8, 1, 1, .int .u8 0⟩
  | 7 => ⟨.struct [(0, 2), (1, 3), (2, 4), (3, 6)], 4, 24, .agg #[.int .i64 0, .int .i64 0, .bool false, .int .u8 0]⟩
  | 8 => ⟨.struct [(0, 2), (1, 3), (2, 4), (3, 6)], 4, 24, .agg #[.int .i64 0, .int .i64 0, .bool false, .int .u8 0]⟩
  | 9 => ⟨.str, 1, 16, .string ⟨#[]⟩⟩
  | 10 => ⟨.str, 1, 16, .string ⟨#[]⟩⟩
  | 11 => ⟨.str, 1, 16, .string ⟨#[]⟩⟩
  | 12 => ⟨.int .u64, 1, 8, .int .u64 0⟩
  | 13 => ⟨.struct [(0, 9), (1, 12)], 2, 24, .agg #[.string ⟨#[]⟩, .int .u64 0]⟩
  | 14 => ⟨.struct [(0, 9), (1, 12)], 2, 24, .agg #[.string ⟨#[]⟩, .int .u64 0]⟩
  | 18 => ⟨.struct [(0, 17)], 1, 8, .agg #[.pointer none]⟩
  | 19 => ⟨.struct [(0, 17)], 1, 8, .agg #[.pointer none]⟩
  | 21 => ⟨.int .i32, 1, 4, .int .i32 0⟩
  | 22 => ⟨.slice 29, 1, 24, .slice none 0 0⟩
  | 23 => ⟨.struct [(0, 3), (1, 22)], 2, 32, .agg #[.int .i64 0, .slice none 0 0]⟩
  | 24 => ⟨.struct [(0, 3), (1, 22)], 2, 32, .agg #[.int .i64 0, .slice none 0 0]⟩
  | 25 => ⟨.int .i64, 1, 8, .int .i64 0⟩
  | 28 => ⟨.struct [(0, 3), (1, 3)], 2, 16, .agg #[.int .i64 0, .int .i64 0]⟩
  | 29 => ⟨.struct [(0, 3), (1, 3)], 2, 16, .agg #[.int .i64 0, .int .i64 0]⟩
  | 32 => ⟨.slice 36, 1, 24, .slice none 0 0⟩
  | 33 => ⟨.struct [(0, 3), (1, 3), (2, 32)], 3, 40, .agg #[.int .i64 0, .int .i64 0, .slice none 0 0]⟩
  | 34 => ⟨.struct [(0, 3), (1, 3), (2, 32)], 3, 40, .agg #[.int .i64 0, .int .i64 0, .slice none 0 0]⟩
  | 36 => ⟨.slice 3, 1, 24, .slice none 0 0⟩
  | 44 => ⟨.struct [(0, 3), (1, 36)], 2, 32, .agg #[.int .i64 0, .slice none 0 0]⟩
  | 45 => ⟨.struct [(0, 3), (1, 36)], 2, 32, .agg #[.int .i64 0, .slice none 0 0]⟩
  | 77 => ⟨.struct [(0, 24), (2, 3), (3, 3), (4, 76)], 5, 56, .agg #[.int .i64 0, .slice none 0 0, .int .i64 0, .int .i64 0, .map none]⟩
  | 78 => ⟨.struct [(0, 24), (2, 3), (3, 3), (4, 76)], 5, 56, .agg #[.int .i64 0, .slice none 0 0, .int .i64 0, .int .i64 0, .map none]⟩
  | 84 => ⟨.struct [(0, 45), (2, 36), (3, 36)], 4, 80, .agg #[.int .i64 0, .slice none 0 0, .slice none 0 0, .slice none 0 0]⟩
  | 85 => ⟨.struct [(0, 45), (2, 36), (3, 36)], 4, 80, .agg #[.int .i64 0, .slice none 0 0, .slice none 0 0, .slice none 0 0]⟩
  | 98 => ⟨.int .u64, 1, 8, .int .u64 0⟩
  | 99 => ⟨.slice 36, 1, 24, .slice none 0 0⟩
  | 108 => ⟨.int .u32, 1, 4, .int .u32 0⟩
  | 110 => ⟨.int .u64, 1, 8, .int .u64 0⟩
  | 117 => ⟨.struct [(0, 17), (1, 17), (2, 17), (3, 9)], 4, 40, .agg #[.pointer none, .pointer none, .pointer none, .string ⟨#[]⟩]⟩
  | 118 => ⟨.struct [(0, 17), (1, 17), (2, 17), (3, 9)], 4, 40, .agg #[.pointer none, .pointer none, .pointer none, .string ⟨#[]⟩]⟩
  | 120 => ⟨.struct [(0, 119)], 0, 0, .agg #[]⟩
  | 121 => ⟨.struct [(0, 119)], 0, 0, .agg #[]⟩
  | 122 => ⟨.int .u8, 1, 1, .int .u8 0⟩
  | 123 => ⟨.int .u8, 1, 1, .int .u8 0⟩
  | 126 => ⟨.int .i32, 1, 4, .int .i32 0⟩
  | 127 => ⟨.int .i32, 1, 4, .int .i32 0⟩
  | 128 => ⟨.struct [(0, 12), (1, 12), (2, 108), (3, 122), (4, 5), (5, 5), (6, 123), (7, 124), (8, 125), (9, 126), (10, 127)], 11, 48, .agg #[.int .u64 0, .int .u64 0, .int .u32 0, .int .u8 0, .int .u8 0, .int .u8 0, .int .u8 0, .nilFunc, .pointer none, .int .i32 0, .int .i32 0]⟩
  | 129 => ⟨.struct [(0, 12), (1, 12), (2, 108), (3, 122), (4, 5), (5, 5), (6, 123), (7, 124), (8, 125), (9, 126), (10, 127)], 11, 48, .agg #[.int .u64 0, .int .u64 0, .int .u32 0, .int .u8 0, .int .u8 0, .int .u8 0, .int .u8 0, .nilFunc, .pointer none, .int .i32 0, .int .i32 0]⟩
  | _ => TyRow.none
theorem tab2 : tab 2 = ⟨.int .i64, 1, 8, .int .i64 0⟩ := rfl
theorem tab3 : tab 3 = ⟨.int .i64, 1, 8, .int .i64 0⟩ := rfl
theorem tab4 : tab 4 = ⟨.bool, 1, 1, .bool false⟩ := rfl
theorem tab5 : tab 5 = ⟨.int .u8, 1, 1, .int .u8 0⟩ := rfl
theorem tab6 : tab 6 = ⟨.int .u8, 1, 1, .int .u8 0⟩ := rfl
theorem tab7 : tab 7 = ⟨.struct [(0, 2), (1, 3), (2, 4), (3, 6)], 4, 24, .agg #[.int .i64 0, .int .i64 0, .bool false, .int .u8 0]⟩ := rfl
theorem tab8 : tab 8 = ⟨.struct [(0, 2), (1, 3), (2, 4), (3, 6)], 4, 24, .agg #[.int .i64 0, .int .i64 0, .bool false, .int .u8 0]⟩ := rfl
theorem tab9 : tab 9 = ⟨.str, 1, 16, .string ⟨#[]⟩⟩ := rfl
theorem tab10 : tab 10 = ⟨.str, 1, 16, .string ⟨#[]⟩⟩ := rfl
theorem tab11 : tab 11 = ⟨.str, 1, 16, .string ⟨#[]⟩⟩ := rfl
theorem tab12 : tab 12 = ⟨.int .u64, 1, 8, .int .u64 0⟩ := rfl
theorem tab13 : tab 13 = ⟨.struct [(0, 9), (1, 12)], 2, 24, .agg #[.string ⟨#[]⟩, .int .u64 0]⟩ := rfl
theorem tab14 : tab 14 = ⟨.struct [(0, 9), (1, 12)], 2, 24, .agg #[.string ⟨#[]⟩, .int .u64 0]⟩ := rfl
theorem tab18 : tab 18 = ⟨.struct [(0, 17)], 1, 8, .agg #[.pointer none]⟩ := rfl
theorem tab19 : tab 19 = ⟨.struct [(0, 17)], 1, 8, .agg #[.pointer none]⟩ := rfl
theorem tab21 : tab 21 = ⟨.int .i32, 1, 4, .int .i32 0⟩ := rfl
theorem tab22 : tab 22 = ⟨.slice 29, 1, 24, .slice none 0 0⟩ := rfl
theorem tab23 : tab 23 = ⟨.struct [(0, 3), (1, 22)], 2, 32, .agg #[.int .i64 0, .slice none 0 0]⟩ := rfl
theorem tab24 : tab 24 = ⟨.struct [(0, 3), (1, 22)], 2, 32, .agg #[.int .i64 0, .slice none 0 0]⟩ := rfl
theorem tab25 : tab 25 = ⟨.int .i64, 1, 8, .int .i64 0⟩ := rfl
theorem tab28 : tab 28 = ⟨.struct [(0, 3), (1, 3)], 2, 16, .agg #[.int .i64 0, .int .i64 0]⟩ := rfl
theorem tab29 : tab 29 = ⟨.struct [(0, 3), (1, 3)], 2, 16, .agg #[.int .i64 0, .int .i64 0]⟩ := rfl
theorem tab32 : tab 32 = ⟨.slice 36, 1, 24, .slice none 0 0⟩ := rfl
theorem tab33 : tab 33 = ⟨.struct [(0, 3), (1, 3), (2, 32)], 3, 40, .agg #[.int .i64 0, .int .i64 0, .slice none 0 0]⟩ := rfl
theorem tab34 : tab 34 = ⟨.struct [(0, 3), (1, 3), (2, 32)], 3, 40, .agg #[.int .i64 0, .int .i64 0, .slice none 0 0]⟩ := rfl
theorem tab36 : tab 36 = ⟨.slice 3, 1, 24, .slice none 0 0⟩ := rfl
theorem tab44 : tab 44 = ⟨.struct [(0, 3), (1, 36)], 2, 32, .agg #[.int .i64 0, .slice none 0 0]⟩ := rfl
theorem tab45 : tab 45 = ⟨.struct [(0, 3), (1, 36)], 2, 32, .agg #[.int .i64 0, .slice none 0 0]⟩ := rfl
theorem tab77 : tab 77 = ⟨.struct [(0, 24), (2, 3), (3, 3), (4, 76)], 5, 56, .agg #[.int .i64 0, .slice none 0 0, .int .i64 0, .int .i64 0, .map none]⟩ := rfl
theorem tab78 : tab 78 = ⟨.struct [(0, 24), (2, 3), (3, 3), (4, 76)], 5, 56, .agg #[.int .i64 0, .slice none 0 0, .int .i64 0, .int .i64 0, .map none]⟩ := rfl
theorem tab84 : tab 84 = ⟨.struct [(0, 45), (2, 36), (3, 36)], 4, 80, .agg #[.int .i64 0, .slice none 0 0, .slice none 0 0, .slice none 0 0]⟩ := rfl
theorem tab85 : tab 85 = ⟨.struct [(0, 45), (2, 36), (3, 36)], 4, 80, .agg #[.int .i64 0, .slice none 0 0, .slice none 0 0, .slice none 0 0]⟩ := rfl
theorem tab98 : tab 98 = ⟨.int .u64, 1, 8, .int .u64 0⟩ := rfl
theorem tab99 : tab 99 = ⟨.slice 36, 1, 24, .slice none 0 0⟩ := rfl
theorem tab108 : tab 108 = ⟨.int .u32, 1, 4, .int .u32 0⟩ := rfl
theorem tab110 : tab 110 = ⟨.int .u64, 1, 8, .int .u64 0⟩ := rfl
theorem tab117 : tab 117 = ⟨.struct [(0, 17), (1, 17), (2, 17), (3, 9)], 4, 40, .agg #[.pointer none, .pointer none, .pointer none, .string ⟨#[]⟩]⟩ := rfl
theorem tab118 : tab 118 = ⟨.struct [(0, 17), (1, 17), (2, 17), (3, 9)], 4, 40, .agg #[.pointer none, .pointer none, .pointer none, .string ⟨#[]⟩]⟩ := rfl
theorem tab120 : tab 120 = ⟨.struct [(0, 119)], 0, 0, .agg #[]⟩ := rfl
theorem tab121 : tab 121 = ⟨.struct [(0, 119)], 0, 0, .agg #[]⟩ := rfl
theorem tab122 : tab 122 = ⟨.int .u8, 1, 1, .int .u8 0⟩ := rfl
theorem tab123 : tab 123 = ⟨.int .u8, 1, 1, .int .u8 0⟩ := rfl
theorem tab126 : tab 126 = ⟨.int .i32, 1, 4, .int .i32 0⟩ := rfl
theorem tab127 : tab 127 = ⟨.int .i32, 1, 4, .int .i32 0⟩ := rfl
theorem tab128 : tab 128 = ⟨.struct [(0, 12), (1, 12), (2, 108), (3, 122), (4, 5), (5, 5), (6, 123), (7, 124), (8, 125), (9, 126), (10, 127)], 11, 48, .agg #[.int .u64 0, .int .u64 0, .int .u32 0, .int .u8 0, .int .u8 0, .int .u8 0, .int .u8 0, .nilFunc, .pointer none, .int .i32 0, .int .i32 0]⟩ := rfl
theorem tab129 : tab 129 = ⟨.struct [(0, 12), (1, 12), (2, 108), (3, 122), (4, 5), (5, 5), (6, 123), (7, 124), (8, 125), (9, 126), (10, 127)], 11, 48, .agg #[.int .u64 0, .int .u64 0, .int .u32 0, .int .u8 0, .int .u8 0, .int .u8 0, .int .u8 0, .nilFunc, .pointer none, .int .i32 0, .int .i32 0]⟩ := rfl
theorem row2 : RowOk Try.prog 2 ⟨.int .i64, 1, 8, .int .i64 0⟩ := ⟨Try.underlying2, ⟨Try.t2, by kernel_rfl, rfl, rfl, rfl⟩, rfl⟩
theorem row3 : RowOk Try.prog 3 ⟨.int .i64, 1, 8, .int .i64 0⟩ := ⟨Try.underlying3, ⟨Try.t3, by kernel_rfl, rfl, rfl, rfl⟩, rfl⟩
theorem row4 : RowOk Try.prog 4 ⟨.bool, 1, 1, .bool false⟩ := ⟨Try.underlying4, ⟨Try.t4, by kernel_rfl, rfl, rfl, rfl⟩, rfl⟩
theorem row5 : RowOk Try.prog 5 ⟨.int .u8, 1, 1, .int .u8 0⟩ := ⟨Try.underlying5, ⟨Try.t5, by kernel_rfl, rfl, rfl, rfl⟩, rfl⟩
theorem row6 : RowOk Try.prog 6 ⟨.int .u8, 1, 1, .int .u8 0⟩ := ⟨Try.underlying6, ⟨Try.t6, by kernel_rfl, rfl, rfl, rfl⟩, rfl⟩
theorem row7 : RowOk Try.prog 7 ⟨.struct [(0, 2), (1, 3), (2, 4), (3, 6)], 4, 24, .agg #[.int .i64 0, .int .i64 0, .bool false, .int .u8 0]⟩ := ⟨⟨_, Try.underlying7, rfl⟩, ⟨Try.t7, by kernel_rfl, rfl, rfl, rfl⟩⟩
theorem row8 : RowOk Try.prog 8 ⟨.struct [(0, 2), (1, 3), (2, 4), (3, 6)], 4, 24, .agg #[.int .i64 0, .int .i64 0, .bool false, .int .u8 0]⟩ := ⟨⟨_, Try.underlying8, rfl⟩, ⟨Try.t8, by kernel_rfl, rfl, rfl, rfl⟩⟩
theorem row9 : RowOk Try.prog 9 ⟨.str, 1, 16, .string ⟨#[]⟩⟩ := ⟨Try.underlying9, ⟨Try.t9, by kernel_rfl, rfl, rfl, rfl⟩, rfl⟩
theorem row10 : RowOk Try.prog 10 ⟨.str, 1, 16, .string ⟨#[]⟩⟩ := ⟨Try.underlying10, ⟨Try.t10, by kernel_rfl, rfl, rfl, rfl⟩, rfl⟩
theorem row11 : RowOk Try.prog 11 ⟨.str, 1, 16, .string ⟨#[]⟩⟩ := ⟨Try.underlying11, ⟨Try.t11, by kernel_rfl, rfl, rfl, rfl⟩, rfl⟩
theorem row12 : RowOk Try.prog 12 ⟨.int .u64, 1, 8, .int .u64 0⟩ := ⟨Try.underlying12, ⟨Try.t12, by kernel_rfl, rfl, rfl, rfl⟩, rfl⟩
theorem row13 : RowOk Try.prog 13 ⟨.struct [(0, 9), (1, 12)], 2, 24, .agg #[.string ⟨#[]⟩, .int .u64 0]⟩ := ⟨⟨_, Try.underlying13, rfl⟩, ⟨Try.t13, by kernel_rfl, rfl, rfl, rfl⟩⟩
theorem row14 : RowOk Try.prog 14 ⟨.struct [(0, 9), (1, 12)], 2, 24, .agg #[.string ⟨#[]⟩, .int .u64 0]⟩ := ⟨⟨_, Try.underlying14, rfl⟩, ⟨Try.t14, by kernel_rfl, rfl, rfl, rfl⟩⟩
theorem row18 : RowOk Try.prog 18 ⟨.struct [(0, 17)], 1, 8, .agg #[.pointer none]⟩ := ⟨⟨_, Try.underlying18, rfl⟩, ⟨Try.t18, by kernel_rfl, rfl, rfl, rfl⟩⟩
theorem row19 : RowOk Try.prog 19 ⟨.struct [(0, 17)], 1, 8, .agg #[.pointer none]⟩ := ⟨⟨_, Try.underlying19, rfl⟩, ⟨Try.t19, by kernel_rfl, rfl, rfl, rfl⟩⟩
theorem row21 : RowOk Try.prog 21 ⟨.int .i32, 1, 4, .int .i32 0⟩ := ⟨Try.underlying21, ⟨Try.t21, by kernel_rfl, rfl, rfl, rfl⟩, rfl⟩
theorem row22 : RowOk Try.prog 22 ⟨.slice 29, 1, 24, .slice none 0 0⟩ := ⟨Try.underlying22, ⟨Try.t22, by kernel_rfl, rfl, rfl, rfl⟩, rfl⟩
theorem row23 : RowOk Try.prog 23 ⟨.struct [(0, 3), (1, 22)], 2, 32, .agg #[.int .i64 0, .slice none 0 0]⟩ := ⟨⟨_, Try.underlying23, rfl⟩, ⟨Try.t23, by kernel_rfl, rfl, rfl, rfl⟩⟩
theorem row24 : RowOk Try.prog 24 ⟨.struct [(0, 3), (1, 22)], 2, 32, .agg #[.int .i64 0, .slice none 0 0]⟩ := ⟨⟨_, Try.underlying24, rfl⟩, ⟨Try.t24, by kernel_rfl, rfl, rfl, rfl⟩⟩
theorem row25 : RowOk Try.prog 25 ⟨.int .i64, 1, 8, .int .i64 0⟩ := ⟨Try.underlying25, ⟨Try.t25, by kernel_rfl, rfl, rfl, rfl⟩, rfl⟩
theorem row28 : RowOk Try.prog 28 ⟨.struct [(0, 3), (1, 3)], 2, 16, .agg #[.int .i64 0, .int .i64 0]⟩ := ⟨⟨_, Try.underlying28, rfl⟩, ⟨Try.t28, by kernel_rfl, rfl, rfl, rfl⟩⟩
theorem row29 : RowOk Try.prog 29 ⟨.struct [(0, 3), (1, 3)], 2, 16, .agg #[.int .i64 0, .int .i64 0]⟩ := ⟨⟨_, Try.underlying29, rfl⟩, ⟨Try.t29, by kernel_rfl, rfl, rfl, rfl⟩⟩
theorem row32 : RowOk Try.prog 32 ⟨.slice 36, 1, 24, .slice none 0 0⟩ := ⟨Try.underlying32, ⟨Try.t32, by kernel_rfl, rfl, rfl, rfl⟩, rfl⟩
theorem row33 : RowOk Try.prog 33 ⟨.struct [(0, 3), (1, 3), (2, 32)], 3, 40, .agg #[.int .i64 0, .int .i64 0, .slice none 0 0]⟩ := ⟨⟨_, Try.underlying33, rfl⟩, ⟨Try.t33, by kernel_rfl, rfl, rfl, rfl⟩⟩
theorem row34 : RowOk Try.prog 34 ⟨.struct [(0, 3), (1, 3), (2, 32)], 3, 40, .agg #[.int .i64 0, .int .i64 0, .slice none 0 0]⟩ := ⟨⟨_, Try.underlying34, rfl⟩, ⟨Try.t34, by kernel_rfl, rfl, rfl, rfl⟩⟩
theorem row36 : RowOk Try.prog 36 ⟨.slice 3, 1, 24, .slice none 0 0⟩ := ⟨Try.underlying36, ⟨Try.t36, by kernel_rfl, rfl, rfl, rfl⟩, rfl⟩
theorem row44 : RowOk Try.prog 44 ⟨.struct [(0, 3), (1, 36)], 2, 32, .agg #[.int .i64 0, .slice none 0 0]⟩ := ⟨⟨_, Try.underlying44, rfl⟩, ⟨Try.t44, by kernel_rfl, rfl, rfl, rfl⟩⟩
theorem row45 : RowOk Try.prog 45 ⟨.struct [(0, 3), (1, 36)], 2, 32, .agg #[.int .i64 0, .slice none 0 0]⟩ := ⟨⟨_, Try.underlying45, rfl⟩, ⟨Try.t45, by kernel_rfl, rfl, rfl, rfl⟩⟩
theorem row77 : RowOk Try.prog 77 ⟨.struct [(0, 24), (2, 3), (3, 3), (4, 76)], 5, 56, .agg #[.int .i64 0, .slice none 0 0, .int .i64 0, .int .i64 0, .map none]⟩ := ⟨⟨_, Try.underlying77, rfl⟩, ⟨Try.t77, by kernel_rfl, rfl, rfl, rfl⟩⟩
theorem row78 : RowOk Try.prog 78 ⟨.struct [(0, 24), (2, 3), (3, 3), (4, 76)], 5, 56, .agg #[.int .i64 0, .slice none 0 0, .int .i64 0, .int .i64 0, .map none]⟩ := ⟨⟨_, Try.underlying78, rfl⟩, ⟨Try.t78, by kernel_rfl, rfl, rfl, rfl⟩⟩
theorem row84 : RowOk Try.prog 84 ⟨.struct [(0, 45), (2, 36), (3, 36)], 4, 80, .agg #[.int .i64 0, .slice none 0 0, .slice none 0 0, .slice none 0 0]⟩ := ⟨⟨_, Try.underlying84, rfl⟩, ⟨Try.t84, by kernel_rfl, rfl, rfl, rfl⟩⟩
theorem row85 : RowOk Try.prog 85 ⟨.struct [(0, 45), (2, 36), (3, 36)], 4, 80, .agg #[.int .i64 0, .slice none 0 0, .slice none 0 0, .slice none 0 0]⟩ := ⟨⟨_, Try.underlying85, rfl⟩, ⟨Try.t85, by kernel_rfl, rfl, rfl, rfl⟩⟩
theorem row98 : RowOk Try.prog 98 ⟨.int .u64, 1, 8, .int .u64 0⟩ := ⟨Try.underlying98, ⟨Try.t98, by kernel_rfl, rfl, rfl, rfl⟩, rfl⟩
theorem row99 : RowOk Try.prog 99 ⟨.slice 36, 1, 24, .slice none 0 0⟩ := ⟨Try.underlying99, ⟨Try.t99, by kernel_rfl, rfl, rfl, rfl⟩, rfl⟩
theorem row108 : RowOk Try.prog 108 ⟨.int .u32, 1, 4, .int .u32 0⟩ := ⟨Try.underlying108, ⟨Try.t108, by kernel_rfl, rfl, rfl, rfl⟩, rfl⟩
theorem row110 : RowOk Try.prog 110 ⟨.int .u64, 1, 8, .int .u64 0⟩ := ⟨Try.underlying110, ⟨Try.t110, by kernel_rfl, rfl, rfl, rfl⟩, rfl⟩
theorem row117 : RowOk Try.prog 117 ⟨.struct [(0, 17), (1, 17), (2, 17), (3, 9)], 4, 40, .agg #[.pointer none, .pointer none, .pointer none, .string ⟨#[]⟩]⟩ := ⟨⟨_, Try.underlying117, rfl⟩, ⟨Try.t117, by kernel_rfl, rfl, rfl, rfl⟩⟩
theorem row118 : RowOk Try.prog 118 ⟨.struct [(0, 17), (1, 17), (2, 17), (3, 9)], 4, 40, .agg #[.pointer none, .pointer none, .pointer none, .string ⟨#[]⟩]⟩ := ⟨⟨_, Try.underlying118, rfl⟩, ⟨Try.t118, by kernel_rfl, rfl, rfl, rfl⟩⟩
theorem row120 : RowOk Try.prog 120 ⟨.struct [(0, 119)], 0, 0, .agg #[]⟩ := ⟨⟨_, Try.underlying120, rfl⟩, ⟨Try.t120, by kernel_rfl, rfl, rfl, rfl⟩⟩
theorem row121 : RowOk Try.prog 121 ⟨.struct [(0, 119)], 0, 0, .agg #[]⟩ := ⟨⟨_, Try.underlying121, rfl⟩, ⟨Try.t121, by kernel_rfl, rfl, rfl, rfl⟩⟩
theorem row122 : RowOk Try.prog 122 ⟨.int .u8, 1, 1, .int .u8 0⟩ := ⟨Try.underlying122, ⟨Try.t122, by kernel_rfl, rfl, rfl, rfl⟩, rfl⟩
theorem row123 : RowOk Try.prog 123 ⟨.int .u8, 1, 1, .int .u8 0⟩ := ⟨Try.underlying123, ⟨Try.t123, by kernel_rfl, rfl, rfl, rfl⟩, rfl⟩
theorem row126 : RowOk Try.prog 126 ⟨.int .i32, 1, 4, .int .i32 0⟩ := ⟨Try.underlying126, ⟨Try.t126, by kernel_rfl, rfl, rfl, rfl⟩, rfl⟩
theorem row127 : RowOk Try.prog 127 ⟨.int .i32, 1, 4, .int .i32 0⟩ := ⟨Try.underlying127, ⟨Try.t127, by kernel_rfl, rfl, rfl, rfl⟩, rfl⟩
theorem row128 : RowOk Try.prog 128 ⟨.struct [(0, 12), (1, 12), (2, 108), (3, 122), (4, 5), (5, 5), (6, 123), (7, 124), (8, 125), (9, 126), (10, 127)], 11, 48, .agg #[.int .u64 0, .int .u64 0, .int .u32 0, .int .u8 0, .int .u8 0, .int .u8 0, .int .u8 0, .nilFunc, .pointer none, .int .i32 0, .int .i32 0]⟩ := ⟨⟨_, Try.underlying128, rfl⟩, ⟨Try.t128, by kernel_rfl, rfl, rfl, rfl⟩⟩
theorem row129 : RowOk Try.prog 129 ⟨.struct [(0, 12), (1, 12), (2, 108), (3, 122), (4, 5), (5, 5), (6, 123), (7, 124), (8, 125), (9, 126), (10, 127)], 11, 48, .agg #[.int .u64 0, .int .u64 0, .int .u32 0, .int .u8 0, .int .u8 0, .int .u8 0, .int .u8 0, .nilFunc, .pointer none, .int .i32 0, .int .i32 0]⟩ := ⟨⟨_, Try.underlying129, rfl⟩, ⟨Try.t129, by kernel_rfl, rfl, rfl, rfl⟩⟩
set_option maxRecDepth 100000 in
theorem tab_ok : TabOk Try.prog tab := by
  intro t
  unfold tab
  split
  · exact row2
  · exact row3
  · exact row4
  · exact row5
  · exact row6
  · exact row7
  · exact row8
  · exact row9
  · exact row10
  · exact row11
  · exact row12
  · exact row13
  · exact row14
  · exact row18
  · exact row19
  · exact row21
  · exact row22
  · exact row23
  · exact row24
  · exact row25
  · exact row28
  · exact row29
  · exact row32
  · exact row33
  · exact row34
  · exact row36
  · exact row44
  · exact row45
  · exact row77
  · exact row78
  · exact row84
  · exact row85
  · exact row98
  · exact row99
  · exact row108
  · exact row110
  · exact row117
  · exact row118
  · exact row120
  · exact row121
  · exact row122
  · exact row123
  · exact row126
  · exact row127
  · exact row128
  · exact row129
  · exact trivial
theorem mixed : Try.prog.follows .mixedOrders = true := by kernel_rfl
attribute [go_sem] tab2 tab3 tab4 tab5 tab6 tab7 tab8 tab9 tab10 tab11 tab12 tab13 tab14 tab18 tab19 tab21 tab22 tab23 tab24 tab25 tab28 tab29 tab32 tab33 tab34 tab36 tab44 tab45 tab77 tab78 tab84 tab85 tab98 tab99 tab108 tab110 tab117 tab118 tab120 tab121 tab122 tab123 tab126 tab127 tab128 tab129
end Go.AX.Try
