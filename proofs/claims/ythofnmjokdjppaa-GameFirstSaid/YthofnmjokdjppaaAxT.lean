/-
  The table of types of this seat, for the abstract executor: it is the program's. By a program of mine (gentab.py). Conditions: none.
-/
import Derived.Test.YthofnmjokdjppaaAxL
import Derived.Test.YthofnmjokdjppaaChecked
import Derived.KernelRfl
set_option linter.unusedSimpArgs false
set_option linter.unusedVariables false
namespace Go.AX.Try
open Go Go.AX Go.Proofs

def tab : Tab
  | 2 => ⟨.int .i64, 1, 8, .int .i64 0⟩
  | 3 => ⟨.int .i64, 1, 8, .int .i64 0⟩
  | 4 => ⟨.bool, 1, 1, .bool false⟩
  | 5 => ⟨.int .u8, 1, 1, .int .u8 0⟩
  | 6 => ⟨.int .u8, 1, 1, .int .u8 0⟩
  | 7 => ⟨.struct [(0, 2), (1, 3), (2, 4), (3, 6)], 4, 24, .agg #[.int .i64 0, .int .i64 0, .bool false, .int .u8 0]⟩
  | 8 => ⟨.struct [(0, 2), (1, 3), (2, 4), (3, 6)], 4, 24, .agg #[.int .i64 0, .int .i64 0, .bool false, .int .u8 0]⟩
  | 9 => ⟨.str, 1, 16, .string ⟨#[]⟩⟩
  | 10 => ⟨.str, 1, 16, .string ⟨#[]⟩⟩
  | 11 => ⟨.str, 1, 16, .string ⟨#[]⟩⟩
  | 12 => ⟨.int .u64, 1, 8, .int .u64 0⟩
  | 13 => ⟨.struct [(0, 9), (1, 12)], 2, 24, .agg #[.string ⟨#[]⟩, .int .u64 0]⟩
  | 14 => ⟨.struct [(0, 9), (1, 12)], 2, 24, .agg #[.string ⟨#[]⟩, .int .u64 0]⟩
  | 18 => ⟨.struct [(0, 17)], 1, 8, .agg #[.pointer none]⟩
  | 19 => ⟨.struct [(0, 17)], 1, 8, .agg #[.pointer none]⟩
  | 21 => ⟨.int .i32, 1, 4, .int .i32 0⟩
  | 22 => ⟨.slice 3, 1, 24, .slice none 0 0⟩
  | 23 => ⟨.struct [(0, 3), (1, 22)], 2, 32, .agg #[.int .i64 0, .slice none 0 0]⟩
  | 24 => ⟨.struct [(0, 3), (1, 22)], 2, 32, .agg #[.int .i64 0, .slice none 0 0]⟩
  | 25 => ⟨.int .i64, 1, 8, .int .i64 0⟩
  | 46 => ⟨.slice 52, 1, 24, .slice none 0 0⟩
  | 47 => ⟨.struct [(0, 3), (1, 46)], 2, 32, .agg #[.int .i64 0, .slice none 0 0]⟩
  | 48 => ⟨.struct [(0, 3), (1, 46)], 2, 32, .agg #[.int .i64 0, .slice none 0 0]⟩
  | 51 => ⟨.struct [(0, 3), (1, 3)], 2, 16, .agg #[.int .i64 0, .int .i64 0]⟩
  | 52 => ⟨.struct [(0, 3), (1, 3)], 2, 16, .agg #[.int .i64 0, .int .i64 0]⟩
  | 66 => ⟨.fn, 1, 8, .nilFunc⟩
  | 69 => ⟨.fn, 1, 8, .nilFunc⟩
  | 77 => ⟨.fn, 1, 8, .map none⟩
  | 78 => ⟨.struct [(0, 48), (2, 3), (3, 3), (4, 77)], 5, 56, .agg #[.int .i64 0, .slice none 0 0, .int .i64 0, .int .i64 0, .map none]⟩
  | 79 => ⟨.struct [(0, 48), (2, 3), (3, 3), (4, 77)], 5, 56, .agg #[.int .i64 0, .slice none 0 0, .int .i64 0, .int .i64 0, .map none]⟩
  | 83 => ⟨.int .u64, 1, 8, .int .u64 0⟩
  | 84 => ⟨.fn, 1, 8, .nilFunc⟩
  | 93 => ⟨.int .u32, 1, 4, .int .u32 0⟩
  | 95 => ⟨.int .u64, 1, 8, .int .u64 0⟩
  | 97 => ⟨.int .i64, 1, 8, .int .i64 0⟩
  | 103 => ⟨.int .u64, 1, 8, .int .u64 0⟩
  | 113 => ⟨.struct [(0, 17), (1, 17), (2, 17), (3, 9)], 4, 40, .agg #[.pointer none, .pointer none, .pointer none, .string ⟨#[]⟩]⟩
  | 114 => ⟨.struct [(0, 17), (1, 17), (2, 17), (3, 9)], 4, 40, .agg #[.pointer none, .pointer none, .pointer none, .string ⟨#[]⟩]⟩
  | 116 => ⟨.struct [(0, 115)], 0, 0, .agg #[]⟩
  | 117 => ⟨.struct [(0, 115)], 0, 0, .agg #[]⟩
  | 119 => ⟨.int .u8, 1, 1, .int .u8 0⟩
  | 120 => ⟨.int .u8, 1, 1, .int .u8 0⟩
  | 123 => ⟨.int .i32, 1, 4, .int .i32 0⟩
  | 124 => ⟨.int .i32, 1, 4, .int .i32 0⟩
  | 125 => ⟨.struct [(0, 12), (1, 12), (2, 93), (3, 119), (4, 5), (5, 5), (6, 120), (7, 121), (8, 122), (9, 123), (10, 124)], 11, 48, .agg #[.int .u64 0, .int .u64 0, .int .u32 0, .int .u8 0, .int .u8 0, .int .u8 0, .int .u8 0, .nilFunc, .pointer none, .int .i32 0, .int .i32 0]⟩
  | 126 => ⟨.struct [(0, 12), (1, 12), (2, 93), (3, 119), (4, 5), (5, 5), (6, 120), (7, 121), (8, 122), (9, 123), (10, 124)], 11, 48, .agg #[.int .u64 0, .int .u64 0, .int .u32 0, .int .u8 0, .int .u8 0, .int .u8 0, .int .u8 0, .nilFunc, .pointer none, .int .i32 0, .int .i32 0]⟩
  | _ => TyRow.none
theorem tab2 : tab 2 = ⟨.int .i64, 1, 8, .int .i64 0⟩ := rfl
theorem tab3 : tab 3 = ⟨.int .i64, 1, 8, .int .i64 0⟩ := rfl
theorem tab4 : tab 4 = ⟨.bool, 1, 1, .bool false⟩ := rfl
theorem tab5 : tab 5 = ⟨.int .u8, 1, 1, .int .u8 0⟩ := rfl
theorem tab6 : tab 6 = ⟨.int .u8, 1, 1, .int .u8 0⟩ := rfl
theorem tab7 : tab 7 = ⟨.struct [(0, 2), (1, 3), (2, 4), (3, 6)], 4, 24, .agg #[.int .i64 0, .int .i64 0, .bool false, .int .u8 0]⟩ := rfl
theorem tab8 : tab 8 = ⟨.struct [(0, 2), (1, 3), (2, 4), (3, 6)], 4, 24, .agg #[.int .i64 0, .int .i64 0, .bool false, .int .u8 0]⟩ := rfl
theorem tab9 : tab 9 = ⟨.str, 1, 16, .string ⟨#[]⟩⟩ := rfl
theorem tab10 : tab 10 = ⟨.str, 1, 16, .string ⟨#[]⟩⟩ := rfl
theorem tab11 : tab 11 = ⟨.str, 1, 16, .string ⟨#[]⟩⟩ := rfl
theorem tab12 : tab 12 = ⟨.int .u64, 1, 8, .int .u64 0⟩ := rfl
theorem tab13 : tab 13 = ⟨.struct [(0, 9), (1, 12)], 2, 24, .agg #[.string ⟨#[]⟩, .int .u64 0]⟩ := rfl
theorem tab14 : tab 14 = ⟨.struct [(0, 9), (1, 12)], 2, 24, .agg #[.string ⟨#[]⟩, .int .u64 0]⟩ := rfl
theorem tab18 : tab 18 = ⟨.struct [(0, 17)], 1, 8, .agg #[.pointer none]⟩ := rfl
theorem tab19 : tab 19 = ⟨.struct [(0, 17)], 1, 8, .agg #[.pointer none]⟩ := rfl
theorem tab21 : tab 21 = ⟨.int .i32, 1, 4, .int .i32 0⟩ := rfl
theorem tab22 : tab 22 = ⟨.slice 3, 1, 24, .slice none 0 0⟩ := rfl
theorem tab23 : tab 23 = ⟨.struct [(0, 3), (1, 22)], 2, 32, .agg #[.int .i64 0, .slice none 0 0]⟩ := rfl
theorem tab24 : tab 24 = ⟨.struct [(0, 3), (1, 22)], 2, 32, .agg #[.int .i64 0, .slice none 0 0]⟩ := rfl
theorem tab25 : tab 25 = ⟨.int .i64, 1, 8, .int .i64 0⟩ := rfl
theorem tab46 : tab 46 = ⟨.slice 52, 1, 24, .slice none 0 0⟩ := rfl
theorem tab47 : tab 47 = ⟨.struct [(0, 3), (1, 46)], 2, 32, .agg #[.int .i64 0, .slice none 0 0]⟩ := rfl
theorem tab48 : tab 48 = ⟨.struct [(0, 3), (1, 46)], 2, 32, .agg #[.int .i64 0, .slice none 0 0]⟩ := rfl
theorem tab51 : tab 51 = ⟨.struct [(0, 3), (1, 3)], 2, 16, .agg #[.int .i64 0, .int .i64 0]⟩ := rfl
theorem tab52 : tab 52 = ⟨.struct [(0, 3), (1, 3)], 2, 16, .agg #[.int .i64 0, .int .i64 0]⟩ := rfl
theorem tab66 : tab 66 = ⟨.fn, 1, 8, .nilFunc⟩ := rfl
theorem tab69 : tab 69 = ⟨.fn, 1, 8, .nilFunc⟩ := rfl
theorem tab77 : tab 77 = ⟨.fn, 1, 8, .map none⟩ := rfl
theorem tab78 : tab 78 = ⟨.struct [(0, 48), (2, 3), (3, 3), (4, 77)], 5, 56, .agg #[.int .i64 0, .slice none 0 0, .int .i64 0, .int .i64 0, .map none]⟩ := rfl
theorem tab79 : tab 79 = ⟨.struct [(0, 48), (2, 3), (3, 3), (4, 77)], 5, 56, .agg #[.int .i64 0, .slice none 0 0, .int .i64 0, .int .i64 0, .map none]⟩ := rfl
theorem tab83 : tab 83 = ⟨.int .u64, 1, 8, .int .u64 0⟩ := rfl
theorem tab84 : tab 84 = ⟨.fn, 1, 8, .nilFunc⟩ := rfl
theorem tab93 : tab 93 = ⟨.int .u32, 1, 4, .int .u32 0⟩ := rfl
theorem tab95 : tab 95 = ⟨.int .u64, 1, 8, .int .u64 0⟩ := rfl
theorem tab97 : tab 97 = ⟨.int .i64, 1, 8, .int .i64 0⟩ := rfl
theorem tab103 : tab 103 = ⟨.int .u64, 1, 8, .int .u64 0⟩ := rfl
theorem tab113 : tab 113 = ⟨.struct [(0, 17), (1, 17), (2, 17), (3, 9)], 4, 40, .agg #[.pointer none, .pointer none, .pointer none, .string ⟨#[]⟩]⟩ := rfl
theorem tab114 : tab 114 = ⟨.struct [(0, 17), (1, 17), (2, 17), (3, 9)], 4, 40, .agg #[.pointer none, .pointer none, .pointer none, .string ⟨#[]⟩]⟩ := rfl
theorem tab116 : tab 116 = ⟨.struct [(0, 115)], 0, 0, .agg #[]⟩ := rfl
theorem tab117 : tab 117 = ⟨.struct [(0, 115)], 0, 0, .agg #[]⟩ := rfl
theorem tab119 : tab 119 = ⟨.int .u8, 1, 1, .int .u8 0⟩ := rfl
theorem tab120 : tab 120 = ⟨.int .u8, 1, 1, .int .u8 0⟩ := rfl
theorem tab123 : tab 123 = ⟨.int .i32, 1, 4, .int .i32 0⟩ := rfl
theorem tab124 : tab 124 = ⟨.int .i32, 1, 4, .int .i32 0⟩ := rfl
theorem tab125 : tab 125 = ⟨.struct [(0, 12), (1, 12), (2, 93), (3, 119), (4, 5), (5, 5), (6, 120), (7, 121), (8, 122), (9, 123), (10, 124)], 11, 48, .agg #[.int .u64 0, .int .u64 0, .int .u32 0, .int .u8 0, .int .u8 0, .int .u8 0, .int .u8 0, .nilFunc, .pointer none, .int .i32 0, .int .i32 0]⟩ := rfl
theorem tab126 : tab 126 = ⟨.struct [(0, 12), (1, 12), (2, 93), (3, 119), (4, 5), (5, 5), (6, 120), (7, 121), (8, 122), (9, 123), (10, 124)], 11, 48, .agg #[.int .u64 0, .int .u64 0, .int .u32 0, .int .u8 0, .int .u8 0, .int .u8 0, .int .u8 0, .nilFunc, .pointer none, .int .i32 0, .int .i32 0]⟩ := rfl
theorem row2 : RowOk Try.prog 2 ⟨.int .i64, 1, 8, .int .i64 0⟩ := ⟨Try.underlying2, ⟨Try.t2, by kernel_rfl, rfl, rfl, rfl⟩, rfl⟩
theorem row3 : RowOk Try.prog 3 ⟨.int .i64, 1, 8, .int .i64 0⟩ := ⟨Try.underlying3, ⟨Try.t3, by kernel_rfl, rfl, rfl, rfl⟩, rfl⟩
theorem row4 : RowOk Try.prog 4 ⟨.bool, 1, 1, .bool false⟩ := ⟨Try.underlying4, ⟨Try.t4, by kernel_rfl, rfl, rfl, rfl⟩, rfl⟩
theorem row5 : RowOk Try.prog 5 ⟨.int .u8, 1, 1, .int .u8 0⟩ := ⟨Try.underlying5, ⟨Try.t5, by kernel_rfl, rfl, rfl, rfl⟩, rfl⟩
theorem row6 : RowOk Try.prog 6 ⟨.int .u8, 1, 1, .int .u8 0⟩ := ⟨Try.underlying6, ⟨Try.t6, by kernel_rfl, rfl, rfl, rfl⟩, rfl⟩
theorem row7 : RowOk Try.prog 7 ⟨.struct [(0, 2), (1, 3), (2, 4), (3, 6)], 4, 24, .agg #[.int .i64 0, .int .i64 0, .bool false, .int .u8 0]⟩ := ⟨⟨_, Try.underlying7, rfl⟩, ⟨Try.t7, by kernel_rfl, rfl, rfl, rfl⟩⟩
theorem row8 : RowOk Try.prog 8 ⟨.struct [(0, 2), (1, 3), (2, 4), (3, 6)], 4, 24, .agg #[.int .i64 0, .int .i64 0, .bool false, .int .u8 0]⟩ := ⟨⟨_, Try.underlying8, rfl⟩, ⟨Try.t8, by kernel_rfl, rfl, rfl, rfl⟩⟩
theorem row9 : RowOk Try.prog 9 ⟨.str, 1, 16, .string ⟨#[]⟩⟩ := ⟨Try.underlying9, ⟨Try.t9, by kernel_rfl, rfl, rfl, rfl⟩, rfl⟩
theorem row10 : RowOk Try.prog 10 ⟨.str, 1, 16, .string ⟨#[]⟩⟩ := ⟨Try.underlying10, ⟨Try.t10, by kernel_rfl, rfl, rfl, rfl⟩, rfl⟩
theorem row11 : RowOk Try.prog 11 ⟨.str, 1, 16, .string ⟨#[]⟩⟩ := ⟨Try.underlying11, ⟨Try.t11, by kernel_rfl, rfl, rfl, rfl⟩, rfl⟩
theorem row12 : RowOk Try.prog 12 ⟨.int .u64, 1, 8, .int .u64 0⟩ := ⟨Try.underlying12, ⟨Try.t12, by kernel_rfl, rfl, rfl, rfl⟩, rfl⟩
theorem row13 : RowOk Try.prog 13 ⟨.struct [(0, 9), (1, 12)], 2, 24, .agg #[.string ⟨#[]⟩, .int .u64 0]⟩ := ⟨⟨_, Try.underlying13, rfl⟩, ⟨Try.t13, by kernel_rfl, rfl, rfl, rfl⟩⟩
theorem row14 : RowOk Try.prog 14 ⟨.struct [(0, 9), (1, 12)], 2, 24, .agg #[.string ⟨#[]⟩, .int .u64 0]⟩ := ⟨⟨_, Try.underlying14, rfl⟩, ⟨Try.t14, by kernel_rfl, rfl, rfl, rfl⟩⟩
theorem row18 : RowOk Try.prog 18 ⟨.struct [(0, 17)], 1, 8, .agg #[.pointer none]⟩ := ⟨⟨_, Try.underlying18, rfl⟩, ⟨Try.t18, by kernel_rfl, rfl, rfl, rfl⟩⟩
theorem row19 : RowOk Try.prog 19 ⟨.struct [(0, 17)], 1, 8, .agg #[.pointer none]⟩ := ⟨⟨_, Try.underlying19, rfl⟩, ⟨Try.t19, by kernel_rfl, rfl, rfl, rfl⟩⟩
theorem row21 : RowOk Try.prog 21 ⟨.int .i32, 1, 4, .int .i32 0⟩ := ⟨Try.underlying21, ⟨Try.t21, by kernel_rfl, rfl, rfl, rfl⟩, rfl⟩
theorem row22 : RowOk Try.prog 22 ⟨.slice 3, 1, 24, .slice none 0 0⟩ := ⟨Try.underlying22, ⟨Try.t22, by kernel_rfl, rfl, rfl, rfl⟩, rfl⟩
theorem row23 : RowOk Try.prog 23 ⟨.struct [(0, 3), (1, 22)], 2, 32, .agg #[.int .i64 0, .slice none 0 0]⟩ := ⟨⟨_, Try.underlying23, rfl⟩, ⟨Try.t23, by kernel_rfl, rfl, rfl, rfl⟩⟩
theorem row24 : RowOk Try.prog 24 ⟨.struct [(0, 3), (1, 22)], 2, 32, .agg #[.int .i64 0, .slice none 0 0]⟩ := ⟨⟨_, Try.underlying24, rfl⟩, ⟨Try.t24, by kernel_rfl, rfl, rfl, rfl⟩⟩
theorem row25 : RowOk Try.prog 25 ⟨.int .i64, 1, 8, .int .i64 0⟩ := ⟨Try.underlying25, ⟨Try.t25, by kernel_rfl, rfl, rfl, rfl⟩, rfl⟩
theorem row46 : RowOk Try.prog 46 ⟨.slice 52, 1, 24, .slice none 0 0⟩ := ⟨Try.underlying46, ⟨Try.t46, by kernel_rfl, rfl, rfl, rfl⟩, rfl⟩
theorem row47 : RowOk Try.prog 47 ⟨.struct [(0, 3), (1, 46)], 2, 32, .agg #[.int .i64 0, .slice none 0 0]⟩ := ⟨⟨_, Try.underlying47, rfl⟩, ⟨Try.t47, by kernel_rfl, rfl, rfl, rfl⟩⟩
theorem row48 : RowOk Try.prog 48 ⟨.struct [(0, 3), (1, 46)], 2, 32, .agg #[.int .i64 0, .slice none 0 0]⟩ := ⟨⟨_, Try.underlying48, rfl⟩, ⟨Try.t48, by kernel_rfl, rfl, rfl, rfl⟩⟩
theorem row51 : RowOk Try.prog 51 ⟨.struct [(0, 3), (1, 3)], 2, 16, .agg #[.int .i64 0, .int .i64 0]⟩ := ⟨⟨_, Try.underlying51, rfl⟩, ⟨Try.t51, by kernel_rfl, rfl, rfl, rfl⟩⟩
theorem row52 : RowOk Try.prog 52 ⟨.struct [(0, 3), (1, 3)], 2, 16, .agg #[.int .i64 0, .int .i64 0]⟩ := ⟨⟨_, Try.underlying52, rfl⟩, ⟨Try.t52, by kernel_rfl, rfl, rfl, rfl⟩⟩
theorem row66 : RowOk Try.prog 66 ⟨.fn, 1, 8, .nilFunc⟩ := ⟨⟨_, Try.underlying66, fun w => by simp [isAgg, run_underlying Try.underlying66]⟩, ⟨Try.t66, by kernel_rfl, rfl, rfl, rfl⟩, rfl⟩
theorem row69 : RowOk Try.prog 69 ⟨.fn, 1, 8, .nilFunc⟩ := ⟨⟨_, Try.underlying69, fun w => by simp [isAgg, run_underlying Try.underlying69]⟩, ⟨Try.t69, by kernel_rfl, rfl, rfl, rfl⟩, rfl⟩
theorem row77 : RowOk Try.prog 77 ⟨.fn, 1, 8, .map none⟩ := ⟨⟨_, Try.underlying77, fun w => by simp [isAgg, run_underlying Try.underlying77]⟩, ⟨Try.t77, by kernel_rfl, rfl, rfl, rfl⟩, rfl⟩
theorem row78 : RowOk Try.prog 78 ⟨.struct [(0, 48), (2, 3), (3, 3), (4, 77)], 5, 56, .agg #[.int .i64 0, .slice none 0 0, .int .i64 0, .int .i64 0, .map none]⟩ := ⟨⟨_, Try.underlying78, rfl⟩, ⟨Try.t78, by kernel_rfl, rfl, rfl, rfl⟩⟩
theorem row79 : RowOk Try.prog 79 ⟨.struct [(0, 48), (2, 3), (3, 3), (4, 77)], 5, 56, .agg #[.int .i64 0, .slice none 0 0, .int .i64 0, .int .i64 0, .map none]⟩ := ⟨⟨_, Try.underlying79, rfl⟩, ⟨Try.t79, by kernel_rfl, rfl, rfl, rfl⟩⟩
theorem row83 : RowOk Try.prog 83 ⟨.int .u64, 1, 8, .int .u64 0⟩ := ⟨Try.underlying83, ⟨Try.t83, by kernel_rfl, rfl, rfl, rfl⟩, rfl⟩
theorem row84 : RowOk Try.prog 84 ⟨.fn, 1, 8, .nilFunc⟩ := ⟨⟨_, Try.underlying84, fun w => by simp [isAgg, run_underlying Try.underlying84]⟩, ⟨Try.t84, by kernel_rfl, rfl, rfl, rfl⟩, rfl⟩
theorem row93 : RowOk Try.prog 93 ⟨.int .u32, 1, 4, .int .u32 0⟩ := ⟨Try.underlying93, ⟨Try.t93, by kernel_rfl, rfl, rfl, rfl⟩, rfl⟩
theorem row95 : RowOk Try.prog 95 ⟨.int .u64, 1, 8, .int .u64 0⟩ := ⟨Try.underlying95, ⟨Try.t95, by kernel_rfl, rfl, rfl, rfl⟩, rfl⟩
theorem row97 : RowOk Try.prog 97 ⟨.int .i64, 1, 8, .int .i64 0⟩ := ⟨Try.underlying97, ⟨Try.t97, by kernel_rfl, rfl, rfl, rfl⟩, rfl⟩
theorem row103 : RowOk Try.prog 103 ⟨.int .u64, 1, 8, .int .u64 0⟩ := ⟨Try.underlying103, ⟨Try.t103, by kernel_rfl, rfl, rfl, rfl⟩, rfl⟩
theorem row113 : RowOk Try.prog 113 ⟨.struct [(0, 17), (1, 17), (2, 17), (3, 9)], 4, 40, .agg #[.pointer none, .pointer none, .pointer none, .string ⟨#[]⟩]⟩ := ⟨⟨_, Try.underlying113, rfl⟩, ⟨Try.t113, by kernel_rfl, rfl, rfl, rfl⟩⟩
theorem row114 : RowOk Try.prog 114 ⟨.struct [(0, 17), (1, 17), (2, 17), (3, 9)], 4, 40, .agg #[.pointer none, .pointer none, .pointer none, .string ⟨#[]⟩]⟩ := ⟨⟨_, Try.underlying114, rfl⟩, ⟨Try.t114, by kernel_rfl, rfl, rfl, rfl⟩⟩
theorem row116 : RowOk Try.prog 116 ⟨.struct [(0, 115)], 0, 0, .agg #[]⟩ := ⟨⟨_, Try.underlying116, rfl⟩, ⟨Try.t116, by kernel_rfl, rfl, rfl, rfl⟩⟩
theorem row117 : RowOk Try.prog 117 ⟨.struct [(0, 115)], 0, 0, .agg #[]⟩ := ⟨⟨_, Try.underlying117, rfl⟩, ⟨Try.t117, by kernel_rfl, rfl, rfl, rfl⟩⟩
theorem row119 : RowOk Try.prog 119 ⟨.int .u8, 1, 1, .int .u8 0⟩ := ⟨Try.underlying119, ⟨Try.t119, by kernel_rfl, rfl, rfl, rfl⟩, rfl⟩
theorem row120 : RowOk Try.prog 120 ⟨.int .u8, 1, 1, .int .u8 0⟩ := ⟨Try.underlying120, ⟨Try.t120, by kernel_rfl, rfl, rfl, rfl⟩, rfl⟩
theorem row123 : RowOk Try.prog 123 ⟨.int .i32, 1, 4, .int .i32 0⟩ := ⟨Try.underlying123, ⟨Try.t123, by kernel_rfl, rfl, rfl, rfl⟩, rfl⟩
theorem row124 : RowOk Try.prog 124 ⟨.int .i32, 1, 4, .int .i32 0⟩ := ⟨Try.underlying124, ⟨Try.t124, by kernel_rfl, rfl, rfl, rfl⟩, rfl⟩
theorem row125 : RowOk Try.prog 125 ⟨.struct [(0, 12), (1, 12), (2, 93), (3, 119), (4, 5), (5, 5), (6, 120), (7, 121), (8, 122), (9, 123), (10, 124)], 11, 48, .agg #[.int .u64 0, .int .u64 0, .int .u32 0, .int .u8 0, .int .u8 0, .int .u8 0, .int .u8 0, .nilFunc, .pointer none, .int .i32 0, .int .i32 0]⟩ := ⟨⟨_, Try.underlying125, rfl⟩, ⟨Try.t125, by kernel_rfl, rfl, rfl, rfl⟩⟩
theorem row126 : RowOk Try.prog 126 ⟨.struct [(0, 12), (1, 12), (2, 93), (3, 119), (4, 5), (5, 5), (6, 120), (7, 121), (8, 122), (9, 123), (10, 124)], 11, 48, .agg #[.int .u64 0, .int .u64 0, .int .u32 0, .int .u8 0, .int .u8 0, .int .u8 0, .int .u8 0, .nilFunc, .pointer none, .int .i32 0, .int .i32 0]⟩ := ⟨⟨_, Try.underlying126, rfl⟩, ⟨Try.t126, by kernel_rfl, rfl, rfl, rfl⟩⟩
set_option maxRecDepth 100000 in
theorem tab_ok : TabOk Try.prog tab := by
  intro t
  unfold tab
  split
  · exact row2
  · exact row3
  · exact row4
  · exact row5
  · exact row6
  · exact row7
  · exact row8
  · exact row9
  · exact row10
  · exact row11
  · exact row12
  · exact row13
  · exact row14
  · exact row18
  · exact row19
  · exact row21
  · exact row22
  · exact row23
  · exact row24
  · exact row25
  · exact row46
  · exact row47
  · exact row48
  · exact row51
  · exact row52
  · exact row66
  · exact row69
  · exact row77
  · exact row78
  · exact row79
  · exact row83
  · exact row84
  · exact row93
  · exact row95
  · exact row97
  · exact row103
  · exact row113
  · exact row114
  · exact row116
  · exact row117
  · exact row119
  · exact row120
  · exact row123
  · exact row124
  · exact row125
  · exact row126
  · exact trivial
theorem mixed : Try.prog.follows .mixedOrders = true := by kernel_rfl
attribute [go_sem] tab2 tab3 tab4 tab5 tab6 tab7 tab8 tab9 tab10 tab11 tab12 tab13 tab14 tab18 tab19 tab21 tab22 tab23 tab24 tab25 tab46 tab47 tab48 tab51 tab52 tab66 tab69 tab77 tab78 tab79 tab83 tab84 tab93 tab95 tab97 tab103 tab113 tab114 tab116 tab117 tab119 tab120 tab123 tab124 tab125 tab126
end Go.AX.Try
