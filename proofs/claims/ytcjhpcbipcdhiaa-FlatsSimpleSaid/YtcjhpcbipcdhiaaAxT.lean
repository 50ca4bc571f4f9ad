/-
  The table of types of this seat, for the abstract executor: it is the program's. By a program of mine (gentab.py). Conditions: none.
-/
import Derived.Test.YtcjhpcbipcdhiaaAxL
import Derived.Test.YtcjhpcbipcdhiaaChecked
import Derived.KernelRfl
set_option linter.unusedSimpArgs false
set_option linter.unusedVariables false
namespace Go.AX.Try
open Go Go.AX Go.Proofs

def tab : Tab
  | 2 => ⟨.int .i64, 1, 8, .int .i64 0⟩
  | 3 => ⟨.int .i64, 1, 8, .int .i64 0⟩
  | 4 => ⟨.bool, 1, 1, .bool false⟩
  | 5 => ⟨.int .u8, 1, 1, .int .u8 0⟩
  | 6 => ⟨.int .u8, 1, 1, .int .u8 0⟩
  | 7 => ⟨.struct [(0, 2), (1, 3), (2, 4), (3, 6)], 4, 24, .agg #[.int .i64 0, .int .i64 0, .bool false, .int .u8 0]⟩
  | 8 => ⟨.struct [(0, 2), (1, 3), (2, 4), (3, 6)], 4, 24, .agg #[.int .i64 0, .int .i64 0, .bool false, .int .u8 0]⟩
  | 9 => ⟨.str, 1, 16, .string ⟨#[]⟩⟩
  | 10 => ⟨.str, 1, 16, .string ⟨#[]⟩⟩
  | 11 => ⟨.str, 1, 16, .string ⟨#[]⟩⟩
  | 12 => ⟨.int .u64, 1, 8, .int .u64 0⟩
  | 13 => ⟨.struct [(0, 9), (1, 12)], 2, 24, .agg #[.string ⟨#[]⟩, .int .u64 0]⟩
  | 14 => ⟨.struct [(0, 9), (1, 12)], 2, 24, .agg #[.string ⟨#[]⟩, .int .u64 0]⟩
  | 18 => ⟨.struct [(0, 17)], 1, 8, .agg #[.pointer none]⟩
  | 19 => ⟨.struct [(0, 17)], 1, 8, .agg #[.pointer none]⟩
  | 21 => ⟨.int .i32, 1, 4, .int .i32 0⟩
  | 22 => ⟨.slice 3, 1, 24, .slice none 0 0⟩
  | 23 => ⟨.int .i64, 1, 8, .int .i64 0⟩
  | 33 => ⟨.fn, 1, 8, .nilFunc⟩
  | 36 => ⟨.struct [(0, 3), (1, 22)], 2, 32, .agg #[.int .i64 0, .slice none 0 0]⟩
  | 37 => ⟨.struct [(0, 3), (1, 22)], 2, 32, .agg #[.int .i64 0, .slice none 0 0]⟩
  | 52 => ⟨.struct [(0, 3), (1, 3)], 2, 16, .agg #[.int .i64 0, .int .i64 0]⟩
  | 53 => ⟨.struct [(0, 3), (1, 3)], 2, 16, .agg #[.int .i64 0, .int .i64 0]⟩
  | 54 => ⟨.slice 53, 1, 24, .slice none 0 0⟩
  | 73 => ⟨.slice 2, 1, 24, .slice none 0 0⟩
  | 93 => ⟨.int .u64, 1, 8, .int .u64 0⟩
  | 109 => ⟨.struct [(0, 37), (2, 22), (3, 22)], 4, 80, .agg #[.int .i64 0, .slice none 0 0, .slice none 0 0, .slice none 0 0]⟩
  | 110 => ⟨.struct [(0, 37), (2, 22), (3, 22)], 4, 80, .agg #[.int .i64 0, .slice none 0 0, .slice none 0 0, .slice none 0 0]⟩
  | 121 => ⟨.int .u32, 1, 4, .int .u32 0⟩
  | 123 => ⟨.int .u64, 1, 8, .int .u64 0⟩
  | 130 => ⟨.int .i64, 1, 8, .int .i64 0⟩
  | 138 => ⟨.int .u64, 1, 8, .int .u64 0⟩
  | 148 => ⟨.struct [(0, 17), (1, 17), (2, 17), (3, 9)], 4, 40, .agg #[.pointer none, .pointer none, .pointer none, .string ⟨#[]⟩]⟩
  | 149 => ⟨.struct [(0, 17), (1, 17), (2, 17), (3, 9)], 4, 40, .agg #[.pointer none, .pointer none, .pointer none, .string ⟨#[]⟩]⟩
  | 151 => ⟨.struct [(0, 150)], 0, 0, .agg #[]⟩
  | 152 => ⟨.struct [(0, 150)], 0, 0, .agg #[]⟩
  | 153 => ⟨.int .u8, 1, 1, .int .u8 0⟩
  | 154 => ⟨.int .u8, 1, 1, .int .u8 0⟩
  | 157 => ⟨.int .i32, 1, 4, .int .i32 0⟩
  | 158 => ⟨.int .i32, 1, 4, .int .i32 0⟩
  | 159 => ⟨.struct [(0, 12), (1, 12), (2, 121), (3, 153), (4, 5), (5, 5), (6, 154), (7, 155), (8, 156), (9, 157), (10, 158)], 11, 48, .agg #[.int .u64 0, .int .u64 0, .int .u32 0, .int .u8 0, .int .u8 0, .int .u8 0, .int .u8 0, .nilFunc, .pointer none, .int .i32 0, .int .i32 0]⟩
  | 160 => ⟨.struct [(0, 12), (1, 12), (2, 121), (3, 153), (4, 5), (5, 5), (6, 154), (7, 155), (8, 156), (9, 157), (10, 158)], 11, 48, .agg #[.int .u64 0, .int .u64 0, .int .u32 0, .int .u8 0, .int .u8 0, .int .u8 0, .int .u8 0, .nilFunc, .pointer none, .int .i32 0, .int .i32 0]⟩
  | _ => TyRow.none
theorem tab2 : tab 2 = ⟨.int .i64, 1, 8, .int .i64 0⟩ := rfl
theorem tab3 : tab 3 = ⟨.int .i64, 1, 8, .int .i64 0⟩ := rfl
theorem tab4 : tab 4 = ⟨.bool, 1, 1, .bool false⟩ := rfl
theorem tab5 : tab 5 = ⟨.int .u8, 1, 1, .int .u8 0⟩ := rfl
theorem tab6 : tab 6 = ⟨.int .u8, 1, 1, .int .u8 0⟩ := rfl
theorem tab7 : tab 7 = ⟨.struct [(0, 2), (1, 3), (2, 4), (3, 6)], 4, 24, .agg #[.int .i64 0, .int .i64 0, .bool false, .int .u8 0]⟩ := rfl
theorem tab8 : tab 8 = ⟨.struct [(0, 2), (1, 3), (2, 4), (3, 6)], 4, 24, .agg #[.int .i64 0, .int .i64 0, .bool false, .int .u8 0]⟩ := rfl
theorem tab9 : tab 9 = ⟨.str, 1, 16, .string ⟨#[]⟩⟩ := rfl
theorem tab10 : tab 10 = ⟨.str, 1, 16, .string ⟨#[]⟩⟩ := rfl
theorem tab11 : tab 11 = ⟨.str, 1, 16, .string ⟨#[]⟩⟩ := rfl
theorem tab12 : tab 12 = ⟨.int .u64, 1, 8, .int .u64 0⟩ := rfl
theorem tab13 : tab 13 = ⟨.struct [(0, 9), (1, 12)], 2, 24, .agg #[.string ⟨#[]⟩, .int .u64 0]⟩ := rfl
theorem tab14 : tab 14 = ⟨.struct [(0, 9), (1, 12)], 2, 24, .agg #[.string ⟨#[]⟩, .int .u64 0]⟩ := rfl
theorem tab18 : tab 18 = ⟨.struct [(0, 17)], 1, 8, .agg #[.pointer none]⟩ := rfl
theorem tab19 : tab 19 = ⟨.struct [(0, 17)], 1, 8, .agg #[.pointer none]⟩ := rfl
theorem tab21 : tab 21 = ⟨.int .i32, 1, 4, .int .i32 0⟩ := rfl
theorem tab22 : tab 22 = ⟨.slice 3, 1, 24, .slice none 0 0⟩ := rfl
theorem tab23 : tab 23 = ⟨.int .i64, 1, 8, .int .i64 0⟩ := rfl
theorem tab33 : tab 33 = ⟨.fn, 1, 8, .nilFunc⟩ := rfl
theorem tab36 : tab 36 = ⟨.struct [(0, 3), (1, 22)], 2, 32, .agg #[.int .i64 0, .slice none 0 0]⟩ := rfl
theorem tab37 : tab 37 = ⟨.struct [(0, 3), (1, 22)], 2, 32, .agg #[.int .i64 0, .slice none 0 0]⟩ := rfl
theorem tab52 : tab 52 = ⟨.struct [(0, 3), (1, 3)], 2, 16, .agg #[.int .i64 0, .int .i64 0]⟩ := rfl
theorem tab53 : tab 53 = ⟨.struct [(0, 3), (1, 3)], 2, 16, .agg #[.int .i64 0, .int .i64 0]⟩ := rfl
theorem tab54 : tab 54 = ⟨.slice 53, 1, 24, .slice none 0 0⟩ := rfl
theorem tab73 : tab 73 = ⟨.slice 2, 1, 24, .slice none 0 0⟩ := rfl
theorem tab93 : tab 93 = ⟨.int .u64, 1, 8, .int .u64 0⟩ := rfl
theorem tab109 : tab 109 = ⟨.struct [(0, 37), (2, 22), (3, 22)], 4, 80, .agg #[.int .i64 0, .slice none 0 0, .slice none 0 0, .slice none 0 0]⟩ := rfl
theorem tab110 : tab 110 = ⟨.struct [(0, 37), (2, 22), (3, 22)], 4, 80, .agg #[.int .i64 0, .slice none 0 0, .slice none 0 0, .slice none 0 0]⟩ := rfl
theorem tab121 : tab 121 = ⟨.int .u32, 1, 4, .int .u32 0⟩ := rfl
theorem tab123 : tab 123 = ⟨.int .u64, 1, 8, .int .u64 0⟩ := rfl
theorem tab130 : tab 130 = ⟨.int .i64, 1, 8, .int .i64 0⟩ := rfl
theorem tab138 : tab 138 = ⟨.int .u64, 1, 8, .int .u64 0⟩ := rfl
theorem tab148 : tab 148 = ⟨.struct [(0, 17), (1, 17), (2, 17), (3, 9)], 4, 40, .agg #[.pointer none, .pointer none, .pointer none, .string ⟨#[]⟩]⟩ := rfl
theorem tab149 : tab 149 = ⟨.struct [(0, 17), (1, 17), (2, 17), (3, 9)], 4, 40, .agg #[.pointer none, .pointer none, .pointer none, .string ⟨#[]⟩]⟩ := rfl
theorem tab151 : tab 151 = ⟨.struct [(0, 150)], 0, 0, .agg #[]⟩ := rfl
theorem tab152 : tab 152 = ⟨.struct [(0, 150)], 0, 0, .agg #[]⟩ := rfl
theorem tab153 : tab 153 = ⟨.int .u8, 1, 1, .int .u8 0⟩ := rfl
theorem tab154 : tab 154 = ⟨.int .u8, 1, 1, .int .u8 0⟩ := rfl
theorem tab157 : tab 157 = ⟨.int .i32, 1, 4, .int .i32 0⟩ := rfl
theorem tab158 : tab 158 = ⟨.int .i32, 1, 4, .int .i32 0⟩ := rfl
theorem tab159 : tab 159 = ⟨.struct [(0, 12), (1, 12), (2, 121), (3, 153), (4, 5), (5, 5), (6, 154), (7, 155), (8, 156), (9, 157), (10, 158)], 11, 48, .agg #[.int .u64 0, .int .u64 0, .int .u32 0, .int .u8 0, .int .u8 0, .int .u8 0, .int .u8 0, .nilFunc, .pointer none, .int .i32 0, .int .i32 0]⟩ := rfl
theorem tab160 : tab 160 = ⟨.struct [(0, 12), (1, 12), (2, 121), (3, 153), (4, 5), (5, 5), (6, 154), (7, 155), (8, 156), (9, 157), (10, 158)], 11, 48, .agg #[.int .u64 0, .int .u64 0, .int .u32 0, .int .u8 0, .int .u8 0, .int .u8 0, .int .u8 0, .nilFunc, .pointer none, .int .i32 0, .int .i32 0]⟩ := rfl
theorem row2 : RowOk Try.prog 2 ⟨.int .i64, 1, 8, .int .i64 0⟩ := ⟨Try.underlying2, ⟨Try.t2, by kernel_rfl, rfl, rfl, rfl⟩, rfl⟩
theorem row3 : RowOk Try.prog 3 ⟨.int .i64, 1, 8, .int .i64 0⟩ := ⟨Try.underlying3, ⟨Try.t3, by kernel_rfl, rfl, rfl, rfl⟩, rfl⟩
theorem row4 : RowOk Try.prog 4 ⟨.bool, 1, 1, .bool false⟩ := ⟨Try.underlying4, ⟨Try.t4, by kernel_rfl, rfl, rfl, rfl⟩, rfl⟩
theorem row5 : RowOk Try.prog 5 ⟨.int .u8, 1, 1, .int .u8 0⟩ := ⟨Try.underlying5, ⟨Try.t5, by kernel_rfl, rfl, rfl, rfl⟩, rfl⟩
theorem row6 : RowOk Try.prog 6 ⟨.int .u8, 1, 1, .int .u8 0⟩ := ⟨Try.underlying6, ⟨Try.t6, by kernel_rfl, rfl, rfl, rfl⟩, rfl⟩
theorem row7 : RowOk Try.prog 7 ⟨.struct [(0, 2), (1, 3), (2, 4), (3, 6)], 4, 24, .agg #[.int .i64 0, .int .i64 0, .bool false, .int .u8 0]⟩ := ⟨⟨_, Try.underlying7, rfl⟩, ⟨Try.t7, by kernel_rfl, rfl, rfl, rfl⟩⟩
theorem row8 : RowOk Try.prog 8 ⟨.struct [(0, 2), (1, 3), (2, 4), (3, 6)], 4, 24, .agg #[.int .i64 0, .int .i64 0, .bool false, .int .u8 0]⟩ := ⟨⟨_, Try.underlying8, rfl⟩, ⟨Try.t8, by kernel_rfl, rfl, rfl, rfl⟩⟩
theorem row9 : RowOk Try.prog 9 ⟨.str, 1, 16, .string ⟨#[]⟩⟩ := ⟨Try.underlying9, ⟨Try.t9, by kernel_rfl, rfl, rfl, rfl⟩, rfl⟩
theorem row10 : RowOk Try.prog 10 ⟨.str, 1, 16, .string ⟨#[]⟩⟩ := ⟨Try.underlying10, ⟨Try.t10, by kernel_rfl, rfl, rfl, rfl⟩, rfl⟩
theorem row11 : RowOk Try.prog 11 ⟨.str, 1, 16, .string ⟨#[]⟩⟩ := ⟨Try.underlying11, ⟨Try.t11, by kernel_rfl, rfl, rfl, rfl⟩, rfl⟩
theorem row12 : RowOk Try.prog 12 ⟨.int .u64, 1, 8, .int .u64 0⟩ := ⟨Try.underlying12, ⟨Try.t12, by kernel_rfl, rfl, rfl, rfl⟩, rfl⟩
theorem row13 : RowOk Try.prog 13 ⟨.struct [(0, 9), (1, 12)], 2, 24, .agg #[.string ⟨#[]⟩, .int .u64 0]⟩ := ⟨⟨_, Try.underlying13, rfl⟩, ⟨Try.t13, by kernel_rfl, rfl, rfl, rfl⟩⟩
theorem row14 : RowOk Try.prog 14 ⟨.struct [(0, 9), (1, 12)], 2, 24, .agg #[.string ⟨#[]⟩, .int .u64 0]⟩ := ⟨⟨_, Try.underlying14, rfl⟩, ⟨Try.t14, by kernel_rfl, rfl, rfl, rfl⟩⟩
theorem row18 : RowOk Try.prog 18 ⟨.struct [(0, 17)], 1, 8, .agg #[.pointer none]⟩ := ⟨⟨_, Try.underlying18, rfl⟩, ⟨Try.t18, by kernel_rfl, rfl, rfl, rfl⟩⟩
theorem row19 : RowOk Try.prog 19 ⟨.struct [(0, 17)], 1, 8, .agg #[.pointer none]⟩ := ⟨⟨_, Try.underlying19, rfl⟩, ⟨Try.t19, by kernel_rfl, rfl, rfl, rfl⟩⟩
theorem row21 : RowOk Try.prog 21 ⟨.int .i32, 1, 4, .int .i32 0⟩ := ⟨Try.underlying21, ⟨Try.t21, by kernel_rfl, rfl, rfl, rfl⟩, rfl⟩
theorem row22 : RowOk Try.prog 22 ⟨.slice 3, 1, 24, .slice none 0 0⟩ := ⟨Try.underlying22, ⟨Try.t22, by kernel_rfl, rfl, rfl, rfl⟩, rfl⟩
theorem row23 : RowOk Try.prog 23 ⟨.int .i64, 1, 8, .int .i64 0⟩ := ⟨Try.underlying23, ⟨Try.t23, by kernel_rfl, rfl, rfl, rfl⟩, rfl⟩
theorem row33 : RowOk Try.prog 33 ⟨.fn, 1, 8, .nilFunc⟩ := ⟨⟨_, Try.underlying33, fun w => by simp [isAgg, run_underlying Try.underlying33]⟩, ⟨Try.t33, by kernel_rfl, rfl, rfl, rfl⟩, rfl⟩
theorem row36 : RowOk Try.prog 36 ⟨.struct [(0, 3), (1, 22)], 2, 32, .agg #[.int .i64 0, .slice none 0 0]⟩ := ⟨⟨_, Try.underlying36, rfl⟩, ⟨Try.t36, by kernel_rfl, rfl, rfl, rfl⟩⟩
theorem row37 : RowOk Try.prog 37 ⟨.struct [(0, 3), (1, 22)], 2, 32, .agg #[.int .i64 0, .slice none 0 0]⟩ := ⟨⟨_, Try.underlying37, rfl⟩, ⟨Try.t37, by kernel_rfl, rfl, rfl, rfl⟩⟩
theorem row52 : RowOk Try.prog 52 ⟨.struct [(0, 3), (1, 3)], 2, 16, .agg #[.int .i64 0, .int .i64 0]⟩ := ⟨⟨_, Try.underlying52, rfl⟩, ⟨Try.t52, by kernel_rfl, rfl, rfl, rfl⟩⟩
theorem row53 : RowOk Try.prog 53 ⟨.struct [(0, 3), (1, 3)], 2, 16, .agg #[.int .i64 0, .int .i64 0]⟩ := ⟨⟨_, Try.underlying53, rfl⟩, ⟨Try.t53, by kernel_rfl, rfl, rfl, rfl⟩⟩
theorem row54 : RowOk Try.prog 54 ⟨.slice 53, 1, 24, .slice none 0 0⟩ := ⟨Try.underlying54, ⟨Try.t54, by kernel_rfl, rfl, rfl, rfl⟩, rfl⟩
theorem row73 : RowOk Try.prog 73 ⟨.slice 2, 1, 24, .slice none 0 0⟩ := ⟨Try.underlying73, ⟨Try.t73, by kernel_rfl, rfl, rfl, rfl⟩, rfl⟩
theorem row93 : RowOk Try.prog 93 ⟨.int .u64, 1, 8, .int .u64 0⟩ := ⟨Try.underlying93, ⟨Try.t93, by kernel_rfl, rfl, rfl, rfl⟩, rfl⟩
theorem row109 : RowOk Try.prog 109 ⟨.struct [(0, 37), (2, 22), (3, 22)], 4, 80, .agg #[.int .i64 0, .slice none 0 0, .slice none 0 0, .slice none 0 0]⟩ := ⟨⟨_, Try.underlying109, rfl⟩, ⟨Try.t109, by kernel_rfl, rfl, rfl, rfl⟩⟩
theorem row110 : RowOk Try.prog 110 ⟨.struct [(0, 37), (2, 22), (3, 22)], 4, 80, .agg #[.int .i64 0, .slice none 0 0, .slice none 0 0, .slice none 0 0]⟩ := ⟨⟨_, Try.underlying110, rfl⟩, ⟨Try.t110, by kernel_rfl, rfl, rfl, rfl⟩⟩
theorem row121 : RowOk Try.prog 121 ⟨.int .u32, 1, 4, .int .u32 0⟩ := ⟨Try.underlying121, ⟨Try.t121, by kernel_rfl, rfl, rfl, rfl⟩, rfl⟩
theorem row123 : RowOk Try.prog 123 ⟨.int .u64, 1, 8, .int .u64 0⟩ := ⟨Try.underlying123, ⟨Try.t123, by kernel_rfl, rfl, rfl, rfl⟩, rfl⟩
theorem row130 : RowOk Try.prog 130 ⟨.int .i64, 1, 8, .int .i64 0⟩ := ⟨Try.underlying130, ⟨Try.t130, by kernel_rfl, rfl, rfl, rfl⟩, rfl⟩
theorem row138 : RowOk Try.prog 138 ⟨.int .u64, 1, 8, .int .u64 0⟩ := ⟨Try.underlying138, ⟨Try.t138, by kernel_rfl, rfl, rfl, rfl⟩, rfl⟩
theorem row148 : RowOk Try.prog 148 ⟨.struct [(0, 17), (1, 17), (2, 17), (3, 9)], 4, 40, .agg #[.pointer none, .pointer none, .pointer none, .string ⟨#[]⟩]⟩ := ⟨⟨_, Try.underlying148, rfl⟩, ⟨Try.t148, by kernel_rfl, rfl, rfl, rfl⟩⟩
theorem row149 : RowOk Try.prog 149 ⟨.struct [(0, 17), (1, 17), (2, 17), (3, 9)], 4, 40, .agg #[.pointer none, .pointer none, .pointer none, .string ⟨#[]⟩]⟩ := ⟨⟨_, Try.underlying149, rfl⟩, ⟨Try.t149, by kernel_rfl, rfl, rfl, rfl⟩⟩
theorem row151 : RowOk Try.prog 151 ⟨.struct [(0, 150)], 0, 0, .agg #[]⟩ := ⟨⟨_, Try.underlying151, rfl⟩, ⟨Try.t151, by kernel_rfl, rfl, rfl, rfl⟩⟩
theorem row152 : RowOk Try.prog 152 ⟨.struct [(0, 150)], 0, 0, .agg #[]⟩ := ⟨⟨_, Try.underlying152, rfl⟩, ⟨Try.t152, by kernel_rfl, rfl, rfl, rfl⟩⟩
theorem row153 : RowOk Try.prog 153 ⟨.int .u8, 1, 1, .int .u8 0⟩ := ⟨Try.underlying153, ⟨Try.t153, by kernel_rfl, rfl, rfl, rfl⟩, rfl⟩
theorem row154 : RowOk Try.prog 154 ⟨.int .u8, 1, 1, .int .u8 0⟩ := ⟨Try.underlying154, ⟨Try.t154, by kernel_rfl, rfl, rfl, rfl⟩, rfl⟩
theorem row157 : RowOk Try.prog 157 ⟨.int .i32, 1, 4, .int .i32 0⟩ := ⟨Try.underlying157, ⟨Try.t157, by kernel_rfl, rfl, rfl, rfl⟩, rfl⟩
theorem row158 : RowOk Try.prog 158 ⟨.int .i32, 1, 4, .int .i32 0⟩ := ⟨Try.underlying158, ⟨Try.t158, by kernel_rfl, rfl, rfl, rfl⟩, rfl⟩
theorem row159 : RowOk Try.prog 159 ⟨.struct [(0, 12), (1, 12), (2, 121), (3, 153), (4, 5), (5, 5), (6, 154), (7, 155), (8, 156), (9, 157), (10, 158)], 11, 48, .agg #[.int .u64 0, .int .u64 0, .int .u32 0, .int .u8 0, .int .u8 0, .int .u8 0, .int .u8 0, .nilFunc, .pointer none, .int .i32 0, .int .i32 0]⟩ := ⟨⟨_, Try.underlying159, rfl⟩, ⟨Try.t159, by kernel_rfl, rfl, rfl, rfl⟩⟩
theorem row160 : RowOk Try.prog 160 ⟨.struct [(0, 12), (1, 12), (2, 121), (3, 153), (4, 5), (5, 5), (6, 154), (7, 155), (8, 156), (9, 157), (10, 158)], 11, 48, .agg #[.int .u64 0, .int .u64 0, .int .u32 0, .int .u8 0, .int .u8 0, .int .u8 0, .int .u8 0, .nilFunc, .pointer none, .int .i32 0, .int .i32 0]⟩ := ⟨⟨_, Try.underlying160, rfl⟩, ⟨Try.t160, by kernel_rfl, rfl, rfl, rfl⟩⟩
set_option maxRecDepth 100000 in
theorem tab_ok : TabOk Try.prog tab := by
  intro t
  unfold tab
  split
  · exact row2
  · exact row3
  · exact row4
  · exact row5
  · exact row6
  · exact row7
  · exact row8
  · exact row9
  · exact row10
  · exact row11
  · exact row12
  · exact row13
  · exact row14
  · exact row18
  · exact row19
  · exact row21
  · exact row22
  · exact row23
  · exact row33
  · exact row36
  · exact row37
  · exact row52
  · exact row53
  · exact row54
  · exact row73
  · exact row93
  · exact row109
  · exact row110
  · exact row121
  · exact row123
  · exact row130
  · exact row138
  · exact row148
  · exact row149
  · exact row151
  · exact row152
  · exact row153
  · exact row154
  · exact row157
  · exact row158
  · exact row159
  · exact row160
  · exact trivial
theorem mixed : Try.prog.follows .mixedOrders = true := by kernel_rfl
attribute [go_sem] tab2 tab3 tab4 tab5 tab6 tab7 tab8 tab9 tab10 tab11 tab12 tab13 tab14 tab18 tab19 tab21 tab22 tab23 tab33 tab36 tab37 tab52 tab53 tab54 tab73 tab93 tab109 tab110 tab121 tab123 tab130 tab138 tab148 tab149 tab151 tab152 tab153 tab154 tab157 tab158 tab159 tab160
end Go.AX.Try
