/-
  The table of types of this seat, for the abstract executor: it is the program's. By a program of mine (gentab.py). Conditions: none.
-/
import Derived.Test.YtdfclknhgpkghaaAxL
import Derived.Test.YtdfclknhgpkghaaChecked
import Derived.KernelRfl
set_option linter.unusedSimpArgs false
set_option linter.unusedVariables false
namespace Go.AX.Try
open Go Go.AX Go.Proofs

def tab : Tab
  | 2 => ⟨.int .i64, 1, 8, .int .i64 0⟩
  | 3 => ⟨.int .i64, 1, 8, .int .i64 0⟩
  | 4 => ⟨.bool, 1, 1, .bool false⟩
  | 5 => ⟨.int .u8, 1, 1, .int .u8 0⟩
  | 6 => ⟨.int .u8, 1, 1, .int .u8 0⟩
  | 7 => ⟨.struct [(0, 2), (1, 3), (2, 4), (3, 6)], 4, 24, .agg #[.int .i64 0, .int .i64 0, .bool false, .int .u8 0]⟩
  | 8 => ⟨.struct [(0, 2), (1, 3), (2, 4), (3, 6)], 4, 24, .agg #[.int .i64 0, .int .i64 0, .bool false, .int .u8 0]⟩
  | 9 => ⟨.str, 1, 16, .string ⟨#[]⟩⟩
  | 10 => ⟨.str, 1, 16, .string ⟨#[]⟩⟩
  | 11 => ⟨.str, 1, 16, .string ⟨#[]⟩⟩
  | 12 => ⟨.int .u64, 1, 8, .int .u64 0⟩
  | 13 => ⟨.struct [(0, 9), (1, 12)], 2, 24, .agg #[.string ⟨#[]⟩, .int .u64 0]⟩
  | 14 => ⟨.struct [(0, 9), (1, 12)], 2, 24, .agg #[.string ⟨#[]⟩, .int .u64 0]⟩
  | 18 => ⟨.struct [(0, 17)], 1, 8, .agg #[.pointer none]⟩
  | 19 => ⟨.struct [(0, 17)], 1, 8, .agg #[.pointer none]⟩
  | 21 => ⟨.int .i32, 1, 4, .int .i32 0⟩
  | 22 => ⟨.slice 27, 1, 24, .slice none 0 0⟩
  | 23 => ⟨.int .i64, 1, 8, .int .i64 0⟩
  | 26 => ⟨.struct [(0, 3), (1, 3)], 2, 16, .agg #[.int .i64 0, .int .i64 0]⟩
  | 27 => ⟨.struct [(0, 3), (1, 3)], 2, 16, .agg #[.int .i64 0, .int .i64 0]⟩
  | 28 => ⟨.slice 3, 1, 24, .slice none 0 0⟩
  | 33 => ⟨.fn, 1, 8, .nilFunc⟩
  | 37 => ⟨.struct [(0, 3), (1, 28)], 2, 32, .agg #[.int .i64 0, .slice none 0 0]⟩
  | 38 => ⟨.struct [(0, 3), (1, 28)], 2, 32, .agg #[.int .i64 0, .slice none 0 0]⟩
  | 44 => ⟨.slice 2, 1, 24, .slice none 0 0⟩
  | 59 => ⟨.slice 100, 1, 24, .slice none 0 0⟩
  | 60 => ⟨.struct [(0, 3), (1, 59)], 2, 32, .agg #[.int .i64 0, .slice none 0 0]⟩
  | 61 => ⟨.struct [(0, 3), (1, 59)], 2, 32, .agg #[.int .i64 0, .slice none 0 0]⟩
  | 89 => ⟨.struct [(0, 38), (2, 28), (3, 28)], 4, 80, .agg #[.int .i64 0, .slice none 0 0, .slice none 0 0, .slice none 0 0]⟩
  | 90 => ⟨.struct [(0, 38), (2, 28), (3, 28)], 4, 80, .agg #[.int .i64 0, .slice none 0 0, .slice none 0 0, .slice none 0 0]⟩
  | 99 => ⟨.struct [(0, 3), (1, 3)], 2, 16, .agg #[.int .i64 0, .int .i64 0]⟩
  | 100 => ⟨.struct [(0, 3), (1, 3)], 2, 16, .agg #[.int .i64 0, .int .i64 0]⟩
  | 108 => ⟨.int .u64, 1, 8, .int .u64 0⟩
  | 119 => ⟨.int .u32, 1, 4, .int .u32 0⟩
  | 121 => ⟨.int .u64, 1, 8, .int .u64 0⟩
  | 126 => ⟨.int .i64, 1, 8, .int .i64 0⟩
  | 131 => ⟨.int .u64, 1, 8, .int .u64 0⟩
  | 141 => ⟨.struct [(0, 17), (1, 17), (2, 17), (3, 9)], 4, 40, .agg #[.pointer none, .pointer none, .pointer none, .string ⟨#[]⟩]⟩
  | 142 => ⟨.struct [(0, 17), (1, 17), (2, 17), (3, 9)], 4, 40, .agg #[.pointer none, .pointer none, .pointer none, .string ⟨#[]⟩]⟩
  | 144 => ⟨.struct [(0, 143)], 0, 0, .agg #[]⟩
  | 145 => ⟨.struct [(0, 143)], 0, 0, .agg #[]⟩
  | 147 => ⟨.int .u8, 1, 1, .int .u8 0⟩
  | 148 => ⟨.int .u8, 1, 1, .int .u8 0⟩
  | 151 => ⟨.int .i32, 1, 4, .int .i32 0⟩
  | 152 => ⟨.int .i32, 1, 4, .int .i32 0⟩
  | 153 => ⟨.struct [(0, 12), (1, 12), (2, 119), (3, 147), (4, 5), (5, 5), (6, 148), (7, 149), (8, 150), (9, 151), (10, 152)], 11, 48, .agg #[.int .u64 0, .int .u64 0, .int .u32 0, .int .u8 0, .int .u8 0, .int .u8 0, .int .u8 0, .nilFunc, .pointer none, .int .i32 0, .int .i32 0]⟩
  | 154 => ⟨.struct [(0, 12), (1, 12), (2, 119), (3, 147), (4, 5), (5, 5), (6, 148), (7, 149), (8, 150), (9, 151), (10, 152)], 11, 48, .agg #[.int .u64 0, .int .u64 0, .int .u32 0, .int .u8 0, .int .u8 0, .int .u8 0, .int .u8 0, .nilFunc, .pointer none, .int .i32 0, .int .i32 0]⟩
  | _ => TyRow.none
theorem tab2 : tab 2 = ⟨.int .i64, 1, 8, .int .i64 0⟩ := rfl
theorem tab3 : tab 3 = ⟨.int .i64, 1, 8, .int .i64 0⟩ := rfl
theorem tab4 : tab 4 = ⟨.bool, 1, 1, .bool false⟩ := rfl
theorem tab5 : tab 5 = ⟨.int .u8, 1, 1, .int .u8 0⟩ := rfl
theorem tab6 : tab 6 = ⟨.int .u8, 1, 1, .int .u8 0⟩ := rfl
theorem tab7 : tab 7 = ⟨.struct [(0, 2), (1, 3), (2, 4), (3, 6)], 4, 24, .agg #[.int .i64 0, .int .i64 0, .bool false, .int .u8 0]⟩ := rfl
theorem tab8 : tab 8 = ⟨.struct [(0, 2), (1, 3), (2, 4), (3, 6)], 4, 24, .agg #[.int .i64 0, .int .i64 0, .bool false, .int .u8 0]⟩ := rfl
theorem tab9 : tab 9 = ⟨.str, 1, 16, .string ⟨#[]⟩⟩ := rfl
theorem tab10 : tab 10 = ⟨.str, 1, 16, .string ⟨#[]⟩⟩ := rfl
theorem tab11 : tab 11 = ⟨.str, 1, 16, .string ⟨#[]⟩⟩ := rfl
theorem tab12 : tab 12 = ⟨.int .u64, 1, 8, .int .u64 0⟩ := rfl
theorem tab13 : tab 13 = ⟨.struct [(0, 9), (1, 12)], 2, 24, .agg #[.string ⟨#[]⟩, .int .u64 0]⟩ := rfl
theorem tab14 : tab 14 = ⟨.struct [(0, 9), (1, 12)], 2, 24, .agg #[.string ⟨#[]⟩, .int .u64 0]⟩ := rfl
theorem tab18 : tab 18 = ⟨.struct [(0, 17)], 1, 8, .agg #[.pointer none]⟩ := rfl
theorem tab19 : tab 19 = ⟨.struct [(0, 17)], 1, 8, .agg #[.pointer none]⟩ := rfl
theorem tab21 : tab 21 = ⟨.int .i32, 1, 4, .int .i32 0⟩ := rfl
theorem tab22 : tab 22 = ⟨.slice 27, 1, 24, .slice none 0 0⟩ := rfl
theorem tab23 : tab 23 = ⟨.int .i64, 1, 8, .int .i64 0⟩ := rfl
theorem tab26 : tab 26 = ⟨.struct [(0, 3), (1, 3)], 2, 16, .agg #[.int .i64 0, .int .i64 0]⟩ := rfl
theorem tab27 : tab 27 = ⟨.struct [(0, 3), (1, 3)], 2, 16, .agg #[.int .i64 0, .int .i64 0]⟩ := rfl
theorem tab28 : tab 28 = ⟨.slice 3, 1, 24, .slice none 0 0⟩ := rfl
theorem tab33 : tab 33 = ⟨.fn, 1, 8, .nilFunc⟩ := rfl
theorem tab37 : tab 37 = ⟨.struct [(0, 3), (1, 28)], 2, 32, .agg #[.int .i64 0, .slice none 0 0]⟩ := rfl
theorem tab38 : tab 38 = ⟨.struct [(0, 3), (1, 28)], 2, 32, .agg #[.int .i64 0, .slice none 0 0]⟩ := rfl
theorem tab44 : tab 44 = ⟨.slice 2, 1, 24, .slice none 0 0⟩ := rfl
theorem tab59 : tab 59 = ⟨.slice 100, 1, 24, .slice none 0 0⟩ := rfl
theorem tab60 : tab 60 = ⟨.struct [(0, 3), (1, 59)], 2, 32, .agg #[.int .i64 0, .slice none 0 0]⟩ := rfl
theorem tab61 : tab 61 = ⟨.struct [(0, 3), (1, 59)], 2, 32, .agg #[.int .i64 0, .slice none 0 0]⟩ := rfl
theorem tab89 : tab 89 = ⟨.struct [(0, 38), (2, 28), (3, 28)], 4, 80, .agg #[.int .i64 0, .slice none 0 0, .slice none 0 0, .slice none 0 0]⟩ := rfl
theorem tab90 : tab 90 = ⟨.struct [(0, 38), (2, 28), (3, 28)], 4, 80, .agg #[.int .i64 0, .slice none 0 0, .slice none 0 0, .slice none 0 0]⟩ := rfl
theorem tab99 : tab 99 = ⟨.struct [(0, 3), (1, 3)], 2, 16, .agg #[.int .i64 0, .int .i64 0]⟩ := rfl
theorem tab100 : tab 100 = ⟨.struct [(0, 3), (1, 3)], 2, 16, .agg #[.int .i64 0, .int .i64 0]⟩ := rfl
theorem tab108 : tab 108 = ⟨.int .u64, 1, 8, .int .u64 0⟩ := rfl
theorem tab119 : tab 119 = ⟨.int .u32, 1, 4, .int .u32 0⟩ := rfl
theorem tab121 : tab 121 = ⟨.int .u64, 1, 8, .int .u64 0⟩ := rfl
theorem tab126 : tab 126 = ⟨.int .i64, 1, 8, .int .i64 0⟩ := rfl
theorem tab131 : tab 131 = ⟨.int .u64, 1, 8, .int .u64 0⟩ := rfl
theorem tab141 : tab 141 = ⟨.struct [(0, 17), (1, 17), (2, 17), (3, 9)], 4, 40, .agg #[.pointer none, .pointer none, .pointer none, .string ⟨#[]⟩]⟩ := rfl
theorem tab142 : tab 142 = ⟨.struct [(0, 17), (1, 17), (2, 17), (3, 9)], 4, 40, .agg #[.pointer none, .pointer none, .pointer none, .string ⟨#[]⟩]⟩ := rfl
theorem tab144 : tab 144 = ⟨.struct [(0, 143)], 0, 0, .agg #[]⟩ := rfl
theorem tab145 : tab 145 = ⟨.struct [(0, 143)], 0, 0, .agg #[]⟩ := rfl
theorem tab147 : tab 147 = ⟨.int .u8, 1, 1, .int .u8 0⟩ := rfl
theorem tab148 : tab 148 = ⟨.int .u8, 1, 1, .int .u8 0⟩ := rfl
theorem tab151 : tab 151 = ⟨.int .i32, 1, 4, .int .i32 0⟩ := rfl
theorem tab152 : tab 152 = ⟨.int .i32, 1, 4, .int .i32 0⟩ := rfl
theorem tab153 : tab 153 = ⟨.struct [(0, 12), (1, 12), (2, 119), (3, 147), (4, 5), (5, 5), (6, 148), (7, 149), (8, 150), (9, 151), (10, 152)], 11, 48, .agg #[.int .u64 0, .int .u64 0, .int .u32 0, .int .u8 0, .int .u8 0, .int .u8 0, .int .u8 0, .nilFunc, .pointer none, .int .i32 0, .int .i32 0]⟩ := rfl
theorem tab154 : tab 154 = ⟨.struct [(0, 12), (1, 12), (2, 119), (3, 147), (4, 5), (5, 5), (6, 148), (7, 149), (8, 150), (9, 151), (10, 152)], 11, 48, .agg #[.int .u64 0, .int .u64 0, .int .u32 0, .int .u8 0, .int .u8 0, .int .u8 0, .int .u8 0, .nilFunc, .pointer none, .int .i32 0, .int .i32 0]⟩ := rfl
theorem row2 : RowOk Try.prog 2 ⟨.int .i64, 1, 8, .int .i64 0⟩ := ⟨Try.underlying2, ⟨Try.t2, by kernel_rfl, rfl, rfl, rfl⟩, rfl⟩
theorem row3 : RowOk Try.prog 3 ⟨.int .i64, 1, 8, .int .i64 0⟩ := ⟨Try.underlying3, ⟨Try.t3, by kernel_rfl, rfl, rfl, rfl⟩, rfl⟩
theorem row4 : RowOk Try.prog 4 ⟨.bool, 1, 1, .bool false⟩ := ⟨Try.underlying4, ⟨Try.t4, by kernel_rfl, rfl, rfl, rfl⟩, rfl⟩
theorem row5 : RowOk Try.prog 5 ⟨.int .u8, 1, 1, .int .u8 0⟩ := ⟨Try.underlying5, ⟨Try.t5, by kernel_rfl, rfl, rfl, rfl⟩, rfl⟩
theorem row6 : RowOk Try.prog 6 ⟨.int .u8, 1, 1, .int .u8 0⟩ := ⟨Try.underlying6, ⟨Try.t6, by kernel_rfl, rfl, rfl, rfl⟩, rfl⟩
theorem row7 : RowOk Try.prog 7 ⟨.struct [(0, 2), (1, 3), (2, 4), (3, 6)], 4, 24, .agg #[.int .i64 0, .int .i64 0, .bool false, .int .u8 0]⟩ := ⟨⟨_, Try.underlying7, rfl⟩, ⟨Try.t7, by kernel_rfl, rfl, rfl, rfl⟩⟩
theorem row8 : RowOk Try.prog 8 ⟨.struct [(0, 2), (1, 3), (2, 4), (3, 6)], 4, 24, .agg #[.int .i64 0, .int .i64 0, .bool false, .int .u8 0]⟩ := ⟨⟨_, Try.underlying8, rfl⟩, ⟨Try.t8, by kernel_rfl, rfl, rfl, rfl⟩⟩
theorem row9 : RowOk Try.prog 9 ⟨.str, 1, 16, .string ⟨#[]⟩⟩ := ⟨Try.underlying9, ⟨Try.t9, by kernel_rfl, rfl, rfl, rfl⟩, rfl⟩
theorem row10 : RowOk Try.prog 10 ⟨.str, 1, 16, .string ⟨#[]⟩⟩ := ⟨Try.underlying10, ⟨Try.t10, by kernel_rfl, rfl, rfl, rfl⟩, rfl⟩
theorem row11 : RowOk Try.prog 11 ⟨.str, 1, 16, .string ⟨#[]⟩⟩ := ⟨Try.underlying11, ⟨Try.t11, by kernel_rfl, rfl, rfl, rfl⟩, rfl⟩
theorem row12 : RowOk Try.prog 12 ⟨.int .u64, 1, 8, .int .u64 0⟩ := ⟨Try.underlying12, ⟨Try.t12, by kernel_rfl, rfl, rfl, rfl⟩, rfl⟩
theorem row13 : RowOk Try.prog 13 ⟨.struct [(0, 9), (1, 12)], 2, 24, .agg #[.string ⟨#[]⟩, .int .u64 0]⟩ := ⟨⟨_, Try.underlying13, rfl⟩, ⟨Try.t13, by kernel_rfl, rfl, rfl, rfl⟩⟩
theorem row14 : RowOk Try.prog 14 ⟨.struct [(0, 9), (1, 12)], 2, 24, .agg #[.string ⟨#[]⟩, .int .u64 0]⟩ := ⟨⟨_, Try.underlying14, rfl⟩, ⟨Try.t14, by kernel_rfl, rfl, rfl, rfl⟩⟩
theorem row18 : RowOk Try.prog 18 ⟨.struct [(0, 17)], 1, 8, .agg #[.pointer none]⟩ := ⟨⟨_, Try.underlying18, rfl⟩, ⟨Try.t18, by kernel_rfl, rfl, rfl, rfl⟩⟩
theorem row19 : RowOk Try.prog 19 ⟨.struct [(0, 17)], 1, 8, .agg #[.pointer none]⟩ := ⟨⟨_, Try.underlying19, rfl⟩, ⟨Try.t19, by kernel_rfl, rfl, rfl, rfl⟩⟩
theorem row21 : RowOk Try.prog 21 ⟨.int .i32, 1, 4, .int .i32 0⟩ := ⟨Try.underlying21, ⟨Try.t21, by kernel_rfl, rfl, rfl, rfl⟩, rfl⟩
theorem row22 : RowOk Try.prog 22 ⟨.slice 27, 1, 24, .slice none 0 0⟩ := ⟨Try.underlying22, ⟨Try.t22, by kernel_rfl, rfl, rfl, rfl⟩, rfl⟩
theorem row23 : RowOk Try.prog 23 ⟨.int .i64, 1, 8, .int .i64 0⟩ := ⟨Try.underlying23, ⟨Try.t23, by kernel_rfl, rfl, rfl, rfl⟩, rfl⟩
theorem row26 : RowOk Try.prog 26 ⟨.struct [(0, 3), (1, 3)], 2, 16, .agg #[.int .i64 0, .int .i64 0]⟩ := ⟨⟨_, Try.underlying26, rfl⟩, ⟨Try.t26, by kernel_rfl, rfl, rfl, rfl⟩⟩
theorem row27 : RowOk Try.prog 27 ⟨.struct [(0, 3), (1, 3)], 2, 16, .agg #[.int .i64 0, .int .i64 0]⟩ := ⟨⟨_, Try.underlying27, rfl⟩, ⟨Try.t27, by kernel_rfl, rfl, rfl, rfl⟩⟩
theorem row28 : RowOk Try.prog 28 ⟨.slice 3, 1, 24, .slice none 0 0⟩ := ⟨Try.underlying28, ⟨Try.t28, by kernel_rfl, rfl, rfl, rfl⟩, rfl⟩
theorem row33 : RowOk Try.prog 33 ⟨.fn, 1, 8, .nilFunc⟩ := ⟨⟨_, Try.underlying33, fun w => by simp [isAgg, run_underlying Try.underlying33]⟩, ⟨Try.t33, by kernel_rfl, rfl, rfl, rfl⟩, rfl⟩
theorem row37 : RowOk Try.prog 37 ⟨.struct [(0, 3), (1, 28)], 2, 32, .agg #[.int .i64 0, .slice none 0 0]⟩ := ⟨⟨_, Try.underlying37, rfl⟩, ⟨Try.t37, by kernel_rfl, rfl, rfl, rfl⟩⟩
theorem row38 : RowOk Try.prog 38 ⟨.struct [(0, 3), (1, 28)], 2, 32, .agg #[.int .i64 0, .slice none 0 0]⟩ := ⟨⟨_, Try.underlying38, rfl⟩, ⟨Try.t38, by kernel_rfl, rfl, rfl, rfl⟩⟩
theorem row44 : RowOk Try.prog 44 ⟨.slice 2, 1, 24, .slice none 0 0⟩ := ⟨Try.underlying44, ⟨Try.t44, by kernel_rfl, rfl, rfl, rfl⟩, rfl⟩
theorem row59 : RowOk Try.prog 59 ⟨.slice 100, 1, 24, .slice none 0 0⟩ := ⟨Try.underlying59, ⟨Try.t59, by kernel_rfl, rfl, rfl, rfl⟩, rfl⟩
theorem row60 : RowOk Try.prog 60 ⟨.struct [(0, 3), (1, 59)], 2, 32, .agg #[.int .i64 0, .slice none 0 0]⟩ := ⟨⟨_, Try.underlying60, rfl⟩, ⟨Try.t60, by kernel_rfl, rfl, rfl, rfl⟩⟩
theorem row61 : RowOk Try.prog 61 ⟨.struct [(0, 3), (1, 59)], 2, 32, .agg #[.int .i64 0, .slice none 0 0]⟩ := ⟨⟨_, Try.underlying61, rfl⟩, ⟨Try.t61, by kernel_rfl, rfl, rfl, rfl⟩⟩
theorem row89 : RowOk Try.prog 89 ⟨.struct [(0, 38), (2, 28), (3, 28)], 4, 80, .agg #[.int .i64 0, .slice none 0 0, .slice none 0 0, .slice none 0 0]⟩ := ⟨⟨_, Try.underlying89, rfl⟩, ⟨Try.t89, by kernel_rfl, rfl, rfl, rfl⟩⟩
theorem row90 : RowOk Try.prog 90 ⟨.struct [(0, 38), (2, 28), (3, 28)], 4, 80, .agg #[.int .i64 0, .slice none 0 0, .slice none 0 0, .slice none 0 0]⟩ := ⟨⟨_, Try.underlying90, rfl⟩, ⟨Try.t90, by kernel_rfl, rfl, rfl, rfl⟩⟩
theorem row99 : RowOk Try.prog 99 ⟨.struct [(0, 3), (1, 3)], 2, 16, .agg #[.int .i64 0, .int .i64 0]⟩ := ⟨⟨_, Try.underlying99, rfl⟩, ⟨Try.t99, by kernel_rfl, rfl, rfl, rfl⟩⟩
theorem row100 : RowOk Try.prog 100 ⟨.struct [(0, 3), (1, 3)], 2, 16, .agg #[.int .i64 0, .int .i64 0]⟩ := ⟨⟨_, Try.underlying100, rfl⟩, ⟨Try.t100, by kernel_rfl, rfl, rfl, rfl⟩⟩
theorem row108 : RowOk Try.prog 108 ⟨.int .u64, 1, 8, .int .u64 0⟩ := ⟨Try.underlying108, ⟨Try.t108, by kernel_rfl, rfl, rfl, rfl⟩, rfl⟩
theorem row119 : RowOk Try.prog 119 ⟨.int .u32, 1, 4, .int .u32 0⟩ := ⟨Try.underlying119, ⟨Try.t119, by kernel_rfl, rfl, rfl, rfl⟩, rfl⟩
theorem row121 : RowOk Try.prog 121 ⟨.int .u64, 1, 8, .int .u64 0⟩ := ⟨Try.underlying121, ⟨Try.t121, by kernel_rfl, rfl, rfl, rfl⟩, rfl⟩
theorem row126 : RowOk Try.prog 126 ⟨.int .i64, 1, 8, .int .i64 0⟩ := ⟨Try.underlying126, ⟨Try.t126, by kernel_rfl, rfl, rfl, rfl⟩, rfl⟩
theorem row131 : RowOk Try.prog 131 ⟨.int .u64, 1, 8, .int .u64 0⟩ := ⟨Try.underlying131, ⟨Try.t131, by kernel_rfl, rfl, rfl, rfl⟩, rfl⟩
theorem row141 : RowOk Try.prog 141 ⟨.struct [(0, 17), (1, 17), (2, 17), (3, 9)], 4, 40, .agg #[.pointer none, .pointer none, .pointer none, .string ⟨#[]⟩]⟩ := ⟨⟨_, Try.underlying141, rfl⟩, ⟨Try.t141, by kernel_rfl, rfl, rfl, rfl⟩⟩
theorem row142 : RowOk Try.prog 142 ⟨.struct [(0, 17), (1, 17), (2, 17), (3, 9)], 4, 40, .agg #[.pointer none, .pointer none, .pointer none, .string ⟨#[]⟩]⟩ := ⟨⟨_, Try.underlying142, rfl⟩, ⟨Try.t142, by kernel_rfl, rfl, rfl, rfl⟩⟩
theorem row144 : RowOk Try.prog 144 ⟨.struct [(0, 143)], 0, 0, .agg #[]⟩ := ⟨⟨_, Try.underlying144, rfl⟩, ⟨Try.t144, by kernel_rfl, rfl, rfl, rfl⟩⟩
theorem row145 : RowOk Try.prog 145 ⟨.struct [(0, 143)], 0, 0, .agg #[]⟩ := ⟨⟨_, Try.underlying145, rfl⟩, ⟨Try.t145, by kernel_rfl, rfl, rfl, rfl⟩⟩
theorem row147 : RowOk Try.prog 147 ⟨.int .u8, 1, 1, .int .u8 0⟩ := ⟨Try.underlying147, ⟨Try.t147, by kernel_rfl, rfl, rfl, rfl⟩, rfl⟩
theorem row148 : RowOk Try.prog 148 ⟨.int .u8, 1, 1, .int .u8 0⟩ := ⟨Try.underlying148, ⟨Try.t148, by kernel_rfl, rfl, rfl, rfl⟩, rfl⟩
theorem row151 : RowOk Try.prog 151 ⟨.int .i32, 1, 4, .int .i32 0⟩ := ⟨Try.underlying151, ⟨Try.t151, by kernel_rfl, rfl, rfl, rfl⟩, rfl⟩
theorem row152 : RowOk Try.prog 152 ⟨.int .i32, 1, 4, .int .i32 0⟩ := ⟨Try.underlying152, ⟨Try.t152, by kernel_rfl, rfl, rfl, rfl⟩, rfl⟩
theorem row153 : RowOk Try.prog 153 ⟨.struct [(0, 12), (1, 12), (2, 119), (3, 147), (4, 5), (5, 5), (6, 148), (7, 149), (8, 150), (9, 151), (10, 152)], 11, 48, .agg #[.int .u64 0, .int .u64 0, .int .u32 0, .int .u8 0, .int .u8 0, .int .u8 0, .int .u8 0, .nilFunc, .pointer none, .int .i32 0, .int .i32 0]⟩ := ⟨⟨_, Try.underlying153, rfl⟩, ⟨Try.t153, by kernel_rfl, rfl, rfl, rfl⟩⟩
theorem row154 : RowOk Try.prog 154 ⟨.struct [(0, 12), (1, 12), (2, 119), (3, 147), (4, 5), (5, 5), (6, 148), (7, 149), (8, 150), (9, 151), (10, 152)], 11, 48, .agg #[.int .u64 0, .int .u64 0, .int .u32 0, .int .u8 0, .int .u8 0, .int .u8 0, .int .u8 0, .nilFunc, .pointer none, .int .i32 0, .int .i32 0]⟩ := ⟨⟨_, Try.underlying154, rfl⟩, ⟨Try.t154, by kernel_rfl, rfl, rfl, rfl⟩⟩
set_option maxRecDepth 100000 in
theorem tab_ok : TabOk Try.prog tab := by
  intro t
  unfold tab
  split
  · exact row2
  · exact row3
  · exact row4
  · exact row5
  · exact row6
  · exact row7
  · exact row8
  · exact row9
  · exact row10
  · exact row11
  · exact row12
  · exact row13
  · exact row14
  · exact row18
  · exact row19
  · exact row21
  · exact row22
  · exact row23
  · exact row26
  · exact row27
  · exact row28
  · exact row33
  · exact row37
  · exact row38
  · exact row44
  · exact row59
  · exact row60
  · exact row61
  · exact row89
  · exact row90
  · exact row99
  · exact row100
  · exact row108
  · exact row119
  · exact row121
  · exact row126
  · exact row131
  · exact row141
  · exact row142
  · exact row144
  · exact row145
  · exact row147
  · exact row148
  · exact row151
  · exact row152
  · exact row153
  · exact row154
  · exact trivial
theorem mixed : Try.prog.follows .mixedOrders = true := by kernel_rfl
attribute [go_sem] tab2 tab3 tab4 tab5 tab6 tab7 tab8 tab9 tab10 tab11 tab12 tab13 tab14 tab18 tab19 tab21 tab22 tab23 tab26 tab27 tab28 tab33 tab37 tab38 tab44 tab59 tab60 tab61 tab89 tab90 tab99 tab100 tab108 tab119 tab121 tab126 tab131 tab141 tab142 tab144 tab145 tab147 tab148 tab151 tab152 tab153 tab154
end Go.AX.Try
