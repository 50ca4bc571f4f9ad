/-
  The table of types of this seat, for the abstract executor: it is the program's. By a program of mine (gentab.py). Conditions: none.
-/
import Derived.Test.YtabhcjpjoknihaaAxL
import Derived.Test.YtabhcjpjoknihaaChecked
import Derived.KernelRfl
set_option linter.unusedSimpArgs false
set_option linter.unusedVariables false
namespace Go.AX.Try
open Go Go.AX Go.Proofs

def tab : Tab
  | 2 => ⟨.int .i64, 1, 8, .int .i64 0⟩
  | 3 => ⟨.int .i64, 1, 8, .int .i64 0⟩
  | 4 => ⟨.bool, 1, 1, .bool false⟩
  | 5 => ⟨.int .u8, 1, 1, .int .u8 0⟩
  | 9 => ⟨.str, 1, 16, .string ⟨#[]⟩⟩
  | 22 => ⟨.slice 29, 1, 24, .slice none 0 0⟩
  | 23 => ⟨.struct [(0, 3), (1, 22)], 2, 32, .agg #[.int .i64 0, .slice none 0 0]⟩
  | 24 => ⟨.struct [(0, 3), (1, 22)], 2, 32, .agg #[.int .i64 0, .slice none 0 0]⟩
  | 25 => ⟨.int .i64, 1, 8, .int .i64 0⟩
  | 28 => ⟨.struct [(0, 3), (1, 3)], 2, 16, .agg #[.int .i64 0, .int .i64 0]⟩
  | 29 => ⟨.struct [(0, 3), (1, 3)], 2, 16, .agg #[.int .i64 0, .int .i64 0]⟩
  | 30 => ⟨.slice 35, 1, 24, .slice none 0 0⟩
  | 35 => ⟨.slice 3, 1, 24, .slice none 0 0⟩
  | 37 => ⟨.fn, 1, 8, .nilFunc⟩
  | 40 => ⟨.struct [(0, 3), (1, 3), (2, 30)], 3, 40, .agg #[.int .i64 0, .int .i64 0, .slice none 0 0]⟩
  | 41 => ⟨.struct [(0, 3), (1, 3), (2, 30)], 3, 40, .agg #[.int .i64 0, .int .i64 0, .slice none 0 0]⟩
  | 43 => ⟨.fn, 1, 8, .nilFunc⟩
  | 45 => ⟨.struct [(0, 3), (1, 35)], 2, 32, .agg #[.int .i64 0, .slice none 0 0]⟩
  | 46 => ⟨.struct [(0, 3), (1, 35)], 2, 32, .agg #[.int .i64 0, .slice none 0 0]⟩
  | 49 => ⟨.slice 2, 1, 24, .slice none 0 0⟩
  | 53 => ⟨.fn, 1, 8, .nilFunc⟩
  | 60 => ⟨.slice 49, 1, 24, .slice none 0 0⟩
  | 65 => ⟨.fn, 1, 8, .nilFunc⟩
  | 71 => ⟨.slice 76, 1, 24, .slice none 0 0⟩
  | 73 => ⟨.fn, 1, 8, .nilFunc⟩
  | 75 => ⟨.struct [(0, 3), (1, 3)], 2, 16, .agg #[.int .i64 0, .int .i64 0]⟩
  | 76 => ⟨.struct [(0, 3), (1, 3)], 2, 16, .agg #[.int .i64 0, .int .i64 0]⟩
  | 78 => ⟨.slice 73, 1, 24, .slice none 0 0⟩
  | 94 => ⟨.slice 4, 1, 24, .slice none 0 0⟩
  | 103 => ⟨.fn, 1, 8, .nilFunc⟩
  | 112 => ⟨.fn, 1, 8, .nilFunc⟩
  | 115 => ⟨.struct [(0, 46), (2, 35), (3, 35)], 4, 80, .agg #[.int .i64 0, .slice none 0 0, .slice none 0 0, .slice none 0 0]⟩
  | 116 => ⟨.struct [(0, 46), (2, 35), (3, 35)], 4, 80, .agg #[.int .i64 0, .slice none 0 0, .slice none 0 0, .slice none 0 0]⟩
  | 121 => ⟨.slice 195, 1, 24, .slice none 0 0⟩
  | 122 => ⟨.struct [(0, 4), (1, 121)], 2, 32, .agg #[.bool false, .slice none 0 0]⟩
  | 123 => ⟨.struct [(0, 4), (1, 121)], 2, 32, .agg #[.bool false, .slice none 0 0]⟩
  | 127 => ⟨.fn, 1, 8, .map none⟩
  | 142 => ⟨.fn, 1, 8, .map none⟩
  | 144 => ⟨.fn, 1, 8, .nilFunc⟩
  | 147 => ⟨.fn, 1, 8, .nilFunc⟩
  | 149 => ⟨.struct [(0, 46), (2, 35), (3, 41), (6, 35), (7, 35)], 8, 144, .agg #[.int .i64 0, .slice none 0 0, .slice none 0 0, .int .i64 0, .int .i64 0, .slice none 0 0, .slice none 0 0, .slice none 0 0]⟩
  | 150 => ⟨.struct [(0, 46), (2, 35), (3, 41), (6, 35), (7, 35)], 8, 144, .agg #[.int .i64 0, .slice none 0 0, .slice none 0 0, .int .i64 0, .int .i64 0, .slice none 0 0, .slice none 0 0, .slice none 0 0]⟩
  | 162 => ⟨.slice 35, 1, 24, .slice none 0 0⟩
  | 166 => ⟨.int .u64, 1, 8, .int .u64 0⟩
  | 168 => ⟨.fn, 1, 8, .nilFunc⟩
  | 176 => ⟨.fn, 1, 8, .nilFunc⟩
  | 181 => ⟨.fn, 1, 8, .nilFunc⟩
  | 189 => ⟨.slice 46, 1, 24, .slice none 0 0⟩
  | 195 => ⟨.int .u32, 1, 4, .int .u32 0⟩
  | 197 => ⟨.int .u64, 1, 8, .int .u64 0⟩
  | 205 => ⟨.int .i64, 1, 8, .int .i64 0⟩
  | 212 => ⟨.slice 30, 1, 24, .slice none 0 0⟩
  | 224 => ⟨.int .u64, 1, 8, .int .u64 0⟩
  | _ => TyRow.none
theorem tab2 : tab 2 = ⟨.int .i64, 1, 8, .int .i64 0⟩ := rfl
theorem tab3 : tab 3 = ⟨.int .i64, 1, 8, .int .i64 0⟩ := rfl
theorem tab4 : tab 4 = ⟨.bool, 1, 1, .bool false⟩ := rfl
theorem tab5 : tab 5 = ⟨.int .u8, 1, 1, .int .u8 0⟩ := rfl
theorem tab9 : tab 9 = ⟨.str, 1, 16, .string ⟨#[]⟩⟩ := rfl
theorem tab22 : tab 22 = ⟨.slice 29, 1, 24, .slice none 0 0⟩ := rfl
theorem tab23 : tab 23 = ⟨.struct [(0, 3), (1, 22)], 2, 32, .agg #[.int .i64 0, .slice none 0 0]⟩ := rfl
theorem tab24 : tab 24 = ⟨.struct [(0, 3), (1, 22)], 2, 32, .agg #[.int .i64 0, .slice none 0 0]⟩ := rfl
theorem tab25 : tab 25 = ⟨.int .i64, 1, 8, .int .i64 0⟩ := rfl
theorem tab28 : tab 28 = ⟨.struct [(0, 3), (1, 3)], 2, 16, .agg #[.int .i64 0, .int .i64 0]⟩ := rfl
theorem tab29 : tab 29 = ⟨.struct [(0, 3), (1, 3)], 2, 16, .agg #[.int .i64 0, .int .i64 0]⟩ := rfl
theorem tab30 : tab 30 = ⟨.slice 35, 1, 24, .slice none 0 0⟩ := rfl
theorem tab35 : tab 35 = ⟨.slice 3, 1, 24, .slice none 0 0⟩ := rfl
theorem tab37 : tab 37 = ⟨.fn, 1, 8, .nilFunc⟩ := rfl
theorem tab40 : tab 40 = ⟨.struct [(0, 3), (1, 3), (2, 30)], 3, 40, .agg #[.int .i64 0, .int .i64 0, .slice none 0 0]⟩ := rfl
theorem tab41 : tab 41 = ⟨.struct [(0, 3), (1, 3), (2, 30)], 3, 40, .agg #[.int .i64 0, .int .i64 0, .slice none 0 0]⟩ := rfl
theorem tab43 : tab 43 = ⟨.fn, 1, 8, .nilFunc⟩ := rfl
theorem tab45 : tab 45 = ⟨.struct [(0, 3), (1, 35)], 2, 32, .agg #[.int .i64 0, .slice none 0 0]⟩ := rfl
theorem tab46 : tab 46 = ⟨.struct [(0, 3), (1, 35)], 2, 32, .agg #[.int .i64 0, .slice none 0 0]⟩ := rfl
theorem tab49 : tab 49 = ⟨.slice 2, 1, 24, .slice none 0 0⟩ := rfl
theorem tab53 : tab 53 = ⟨.fn, 1, 8, .nilFunc⟩ := rfl
theorem tab60 : tab 60 = ⟨.slice 49, 1, 24, .slice none 0 0⟩ := rfl
theorem tab65 : tab 65 = ⟨.fn, 1, 8, .nilFunc⟩ := rfl
theorem tab71 : tab 71 = ⟨.slice 76, 1, 24, .slice none 0 0⟩ := rfl
theorem tab73 : tab 73 = ⟨.fn, 1, 8, .nilFunc⟩ := rfl
theorem tab75 : tab 75 = ⟨.struct [(0, 3), (1, 3)], 2, 16, .agg #[.int .i64 0, .int .i64 0]⟩ := rfl
theorem tab76 : tab 76 = ⟨.struct [(0, 3), (1, 3)], 2, 16, .agg #[.int .i64 0, .int .i64 0]⟩ := rfl
theorem tab78 : tab 78 = ⟨.slice 73, 1, 24, .slice none 0 0⟩ := rfl
theorem tab94 : tab 94 = ⟨.slice 4, 1, 24, .slice none 0 0⟩ := rfl
theorem tab103 : tab 103 = ⟨.fn, 1, 8, .nilFunc⟩ := rfl
theorem tab112 : tab 112 = ⟨.fn, 1, 8, .nilFunc⟩ := rfl
theorem tab115 : tab 115 = ⟨.struct [(0, 46), (2, 35), (3, 35)], 4, 80, .agg #[.int .i64 0, .slice none 0 0, .slice none 0 0, .slice none 0 0]⟩ := rfl
theorem tab116 : tab 116 = ⟨.struct [(0, 46), (2, 35), (3, 35)], 4, 80, .agg #[.int .i64 0, .slice none 0 0, .slice none 0 0, .slice none 0 0]⟩ := rfl
theorem tab121 : tab 121 = ⟨.slice 195, 1, 24, .slice none 0 0⟩ := rfl
theorem tab122 : tab 122 = ⟨.struct [(0, 4), (1, 121)], 2, 32, .agg #[.bool false, .slice none 0 0]⟩ := rfl
theorem tab123 : tab 123 = ⟨.struct [(0, 4), (1, 121)], 2, 32, .agg #[.bool false, .slice none 0 0]⟩ := rfl
theorem tab127 : tab 127 = ⟨.fn, 1, 8, .map none⟩ := rfl
theorem tab142 : tab 142 = ⟨.fn, 1, 8, .map none⟩ := rfl
theorem tab144 : tab 144 = ⟨.fn, 1, 8, .nilFunc⟩ := rfl
theorem tab147 : tab 147 = ⟨.fn, 1, 8, .nilFunc⟩ := rfl
theorem tab149 : tab 149 = ⟨.struct [(0, 46), (2, 35), (3, 41), (6, 35), (7, 35)], 8, 144, .agg #[.int .i64 0, .slice none 0 0, .slice none 0 0, .int .i64 0, .int .i64 0, .slice none 0 0, .slice none 0 0, .slice none 0 0]⟩ := rfl
theorem tab150 : tab 150 = ⟨.struct [(0, 46), (2, 35), (3, 41), (6, 35), (7, 35)], 8, 144, .agg #[.int .i64 0, .slice none 0 0, .slice none 0 0, .int .i64 0, .int .i64 0, .slice none 0 0, .slice none 0 0, .slice none 0 0]⟩ := rfl
theorem tab162 : tab 162 = ⟨.slice 35, 1, 24, .slice none 0 0⟩ := rfl
theorem tab166 : tab 166 = ⟨.int .u64, 1, 8, .int .u64 0⟩ := rfl
theorem tab168 : tab 168 = ⟨.fn, 1, 8, .nilFunc⟩ := rfl
theorem tab176 : tab 176 = ⟨.fn, 1, 8, .nilFunc⟩ := rfl
theorem tab181 : tab 181 = ⟨.fn, 1, 8, .nilFunc⟩ := rfl
theorem tab189 : tab 189 = ⟨.slice 46, 1, 24, .slice none 0 0⟩ := rfl
theorem tab195 : tab 195 = ⟨.int .u32, 1, 4, .int .u32 0⟩ := rfl
theorem tab197 : tab 197 = ⟨.int .u64, 1, 8, .int .u64 0⟩ := rfl
theorem tab205 : tab 205 = ⟨.int .i64, 1, 8, .int .i64 0⟩ := rfl
theorem tab212 : tab 212 = ⟨.slice 30, 1, 24, .slice none 0 0⟩ := rfl
theorem tab224 : tab 224 = ⟨.int .u64, 1, 8, .int .u64 0⟩ := rfl
theorem row2 : RowOk Try.prog 2 ⟨.int .i64, 1, 8, .int .i64 0⟩ := ⟨Try.underlying2, ⟨Try.t2, by kernel_rfl, rfl, rfl, rfl⟩, rfl⟩
theorem row3 : RowOk Try.prog 3 ⟨.int .i64, 1, 8, .int .i64 0⟩ := ⟨Try.underlying3, ⟨Try.t3, by kernel_rfl, rfl, rfl, rfl⟩, rfl⟩
theorem row4 : RowOk Try.prog 4 ⟨.bool, 1, 1, .bool false⟩ := ⟨Try.underlying4, ⟨Try.t4, by kernel_rfl, rfl, rfl, rfl⟩, rfl⟩
theorem row5 : RowOk Try.prog 5 ⟨.int .u8, 1, 1, .int .u8 0⟩ := ⟨Try.underlying5, ⟨Try.t5, by kernel_rfl, rfl, rfl, rfl⟩, rfl⟩
theorem row9 : RowOk Try.prog 9 ⟨.str, 1, 16, .string ⟨#[]⟩⟩ := ⟨Try.underlying9, ⟨Try.t9, by kernel_rfl, rfl, rfl, rfl⟩, rfl⟩
theorem row22 : RowOk Try.prog 22 ⟨.slice 29, 1, 24, .slice none 0 0⟩ := ⟨Try.underlying22, ⟨Try.t22, by kernel_rfl, rfl, rfl, rfl⟩, rfl⟩
theorem row23 : RowOk Try.prog 23 ⟨.struct [(0, 3), (1, 22)], 2, 32, .agg #[.int .i64 0, .slice none 0 0]⟩ := ⟨⟨_, Try.underlying23, rfl⟩, ⟨Try.t23, by kernel_rfl, rfl, rfl, rfl⟩⟩
theorem row24 : RowOk Try.prog 24 ⟨.struct [(0, 3), (1, 22)], 2, 32, .agg #[.int .i64 0, .slice none 0 0]⟩ := ⟨⟨_, Try.underlying24, rfl⟩, ⟨Try.t24, by kernel_rfl, rfl, rfl, rfl⟩⟩
theorem row25 : RowOk Try.prog 25 ⟨.int .i64, 1, 8, .int .i64 0⟩ := ⟨Try.underlying25, ⟨Try.t25, by kernel_rfl, rfl, rfl, rfl⟩, rfl⟩
theorem row28 : RowOk Try.prog 28 ⟨.struct [(0, 3), (1, 3)], 2, 16, .agg #[.int .i64 0, .int .i64 0]⟩ := ⟨⟨_, Try.underlying28, rfl⟩, ⟨Try.t28, by kernel_rfl, rfl, rfl, rfl⟩⟩
theorem row29 : RowOk Try.prog 29 ⟨.struct [(0, 3), (1, 3)], 2, 16, .agg #[.int .i64 0, .int .i64 0]⟩ := ⟨⟨_, Try.underlying29, rfl⟩, ⟨Try.t29, by kernel_rfl, rfl, rfl, rfl⟩⟩
theorem row30 : RowOk Try.prog 30 ⟨.slice 35, 1, 24, .slice none 0 0⟩ := ⟨Try.underlying30, ⟨Try.t30, by kernel_rfl, rfl, rfl, rfl⟩, rfl⟩
theorem row35 : RowOk Try.prog 35 ⟨.slice 3, 1, 24, .slice none 0 0⟩ := ⟨Try.underlying35, ⟨Try.t35, by kernel_rfl, rfl, rfl, rfl⟩, rfl⟩
theorem row37 : RowOk Try.prog 37 ⟨.fn, 1, 8, .nilFunc⟩ := ⟨⟨_, Try.underlying37, fun w => by simp [isAgg, run_underlying Try.underlying37]⟩, ⟨Try.t37, by kernel_rfl, rfl, rfl, rfl⟩, rfl⟩
theorem row40 : RowOk Try.prog 40 ⟨.struct [(0, 3), (1, 3), (2, 30)], 3, 40, .agg #[.int .i64 0, .int .i64 0, .slice none 0 0]⟩ := ⟨⟨_, Try.underlying40, rfl⟩, ⟨Try.t40, by kernel_rfl, rfl, rfl, rfl⟩⟩
theorem row41 : RowOk Try.prog 41 ⟨.struct [(0, 3), (1, 3), (2, 30)], 3, 40, .agg #[.int .i64 0, .int .i64 0, .slice none 0 0]⟩ := ⟨⟨_, Try.underlying41, rfl⟩, ⟨Try.t41, by kernel_rfl, rfl, rfl, rfl⟩⟩
theorem row43 : RowOk Try.prog 43 ⟨.fn, 1, 8, .nilFunc⟩ := ⟨⟨_, Try.underlying43, fun w => by simp [isAgg, run_underlying Try.underlying43]⟩, ⟨Try.t43, by kernel_rfl, rfl, rfl, rfl⟩, rfl⟩
theorem row45 : RowOk Try.prog 45 ⟨.struct [(0, 3), (1, 35)], 2, 32, .agg #[.int .i64 0, .slice none 0 0]⟩ := ⟨⟨_, Try.underlying45, rfl⟩, ⟨Try.t45, by kernel_rfl, rfl, rfl, rfl⟩⟩
theorem row46 : RowOk Try.prog 46 ⟨.struct [(0, 3), (1, 35)], 2, 32, .agg #[.int .i64 0, .slice none 0 0]⟩ := ⟨⟨_, Try.underlying46, rfl⟩, ⟨Try.t46, by kernel_rfl, rfl, rfl, rfl⟩⟩
theorem row49 : RowOk Try.prog 49 ⟨.slice 2, 1, 24, .slice none 0 0⟩ := ⟨Try.underlying49, ⟨Try.t49, by kernel_rfl, rfl, rfl, rfl⟩, rfl⟩
theorem row53 : RowOk Try.prog 53 ⟨.fn, 1, 8, .nilFunc⟩ := ⟨⟨_, Try.underlying53, fun w => by simp [isAgg, run_underlying Try.underlying53]⟩, ⟨Try.t53, by kernel_rfl, rfl, rfl, rfl⟩, rfl⟩
theorem row60 : RowOk Try.prog 60 ⟨.slice 49, 1, 24, .slice none 0 0⟩ := ⟨Try.underlying60, ⟨Try.t60, by kernel_rfl, rfl, rfl, rfl⟩, rfl⟩
theorem row65 : RowOk Try.prog 65 ⟨.fn, 1, 8, .nilFunc⟩ := ⟨⟨_, Try.underlying65, fun w => by simp [isAgg, run_underlying Try.underlying65]⟩, ⟨Try.t65, by kernel_rfl, rfl, rfl, rfl⟩, rfl⟩
theorem row71 : RowOk Try.prog 71 ⟨.slice 76, 1, 24, .slice none 0 0⟩ := ⟨Try.underlying71, ⟨Try.t71, by kernel_rfl, rfl, rfl, rfl⟩, rfl⟩
theorem row73 : RowOk Try.prog 73 ⟨.fn, 1, 8, .nilFunc⟩ := ⟨⟨_, Try.underlying73, fun w => by simp [isAgg, run_underlying Try.underlying73]⟩, ⟨Try.t73, by kernel_rfl, rfl, rfl, rfl⟩, rfl⟩
theorem row75 : RowOk Try.prog 75 ⟨.struct [(0, 3), (1, 3)], 2, 16, .agg #[.int .i64 0, .int .i64 0]⟩ := ⟨⟨_, Try.underlying75, rfl⟩, ⟨Try.t75, by kernel_rfl, rfl, rfl, rfl⟩⟩
theorem row76 : RowOk Try.prog 76 ⟨.struct [(0, 3), (1, 3)], 2, 16, .agg #[.int .i64 0, .int .i64 0]⟩ := ⟨⟨_, Try.underlying76, rfl⟩, ⟨Try.t76, by kernel_rfl, rfl, rfl, rfl⟩⟩
theorem row78 : RowOk Try.prog 78 ⟨.slice 73, 1, 24, .slice none 0 0⟩ := ⟨Try.underlying78, ⟨Try.t78, by kernel_rfl, rfl, rfl, rfl⟩, rfl⟩
theorem row94 : RowOk Try.prog 94 ⟨.slice 4, 1, 24, .slice none 0 0⟩ := ⟨Try.underlying94, ⟨Try.t94, by kernel_rfl, rfl, rfl, rfl⟩, rfl⟩
theorem row103 : RowOk Try.prog 103 ⟨.fn, 1, 8, .nilFunc⟩ := ⟨⟨_, Try.underlying103, fun w => by simp [isAgg, run_underlying Try.underlying103]⟩, ⟨Try.t103, by kernel_rfl, rfl, rfl, rfl⟩, rfl⟩
theorem row112 : RowOk Try.prog 112 ⟨.fn, 1, 8, .nilFunc⟩ := ⟨⟨_, Try.underlying112, fun w => by simp [isAgg, run_underlying Try.underlying112]⟩, ⟨Try.t112, by kernel_rfl, rfl, rfl, rfl⟩, rfl⟩
theorem row115 : RowOk Try.prog 115 ⟨.struct [(0, 46), (2, 35), (3, 35)], 4, 80, .agg #[.int .i64 0, .slice none 0 0, .slice none 0 0, .slice none 0 0]⟩ := ⟨⟨_, Try.underlying115, rfl⟩, ⟨Try.t115, by kernel_rfl, rfl, rfl, rfl⟩⟩
theorem row116 : RowOk Try.prog 116 ⟨.struct [(0, 46), (2, 35), (3, 35)], 4, 80, .agg #[.int .i64 0, .slice none 0 0, .slice none 0 0, .slice none 0 0]⟩ := ⟨⟨_, Try.underlying116, rfl⟩, ⟨Try.t116, by kernel_rfl, rfl, rfl, rfl⟩⟩
theorem row121 : RowOk Try.prog 121 ⟨.slice 195, 1, 24, .slice none 0 0⟩ := ⟨Try.underlying121, ⟨Try.t121, by kernel_rfl, rfl, rfl, rfl⟩, rfl⟩
theorem row122 : RowOk Try.prog 122 ⟨.struct [(0, 4), (1, 121)], 2, 32, .agg #[.bool false, .slice none 0 0]⟩ := ⟨⟨_, Try.underlying122, rfl⟩, ⟨Try.t122, by kernel_rfl, rfl, rfl, rfl⟩⟩
theorem row123 : RowOk Try.prog 123 ⟨.struct [(0, 4), (1, 121)], 2, 32, .agg #[.bool false, .slice none 0 0]⟩ := ⟨⟨_, Try.underlying123, rfl⟩, ⟨Try.t123, by kernel_rfl, rfl, rfl, rfl⟩⟩
theorem row127 : RowOk Try.prog 127 ⟨.fn, 1, 8, .map none⟩ := ⟨⟨_, Try.underlying127, fun w => by simp [isAgg, run_underlying Try.underlying127]⟩, ⟨Try.t127, by kernel_rfl, rfl, rfl, rfl⟩, rfl⟩
theorem row142 : RowOk Try.prog 142 ⟨.fn, 1, 8, .map none⟩ := ⟨⟨_, Try.underlying142, fun w => by simp [isAgg, run_underlying Try.underlying142]⟩, ⟨Try.t142, by kernel_rfl, rfl, rfl, rfl⟩, rfl⟩
theorem row144 : RowOk Try.prog 144 ⟨.fn, 1, 8, .nilFunc⟩ := ⟨⟨_, Try.underlying144, fun w => by simp [isAgg, run_underlying Try.underlying144]⟩, ⟨Try.t144, by kernel_rfl, rfl, rfl, rfl⟩, rfl⟩
theorem row147 : RowOk Try.prog 147 ⟨.fn, 1, 8, .nilFunc⟩ := ⟨⟨_, Try.underlying147, fun w => by simp [isAgg, run_underlying Try.underlying147]⟩, ⟨Try.t147, by kernel_rfl, rfl, rfl, rfl⟩, rfl⟩
theorem row149 : RowOk Try.prog 149 ⟨.struct [(0, 46), (2, 35), (3, 41), (6, 35), (7, 35)], 8, 144, .agg #[.int .i64 0, .slice none 0 0, .slice none 0 0, .int .i64 0, .int .i64 0, .slice none 0 0, .slice none 0 0, .slice none 0 0]⟩ := ⟨⟨_, Try.underlying149, rfl⟩, ⟨Try.t149, by kernel_rfl, rfl, rfl, rfl⟩⟩
theorem row150 : RowOk Try.prog 150 ⟨.struct [(0, 46), (2, 35), (3, 41), (6, 35), (7, 35)], 8, 144, .agg #[.int .i64 0, .slice none 0 0, .slice none 0 0, .int .i64 0, .int .i64 0, .slice none 0 0, .slice none 0 0, .slice none 0 0]⟩ := ⟨⟨_, Try.underlying150, rfl⟩, ⟨Try.t150, by kernel_rfl, rfl, rfl, rfl⟩⟩
theorem row162 : RowOk Try.prog 162 ⟨.slice 35, 1, 24, .slice none 0 0⟩ := ⟨Try.underlying162, ⟨Try.t162, by kernel_rfl, rfl, rfl, rfl⟩, rfl⟩
theorem row166 : RowOk Try.prog 166 ⟨.int .u64, 1, 8, .int .u64 0⟩ := ⟨Try.underlying166, ⟨Try.t166, by kernel_rfl, rfl, rfl, rfl⟩, rfl⟩
theorem row168 : RowOk Try.prog 168 ⟨.fn, 1, 8, .nilFunc⟩ := ⟨⟨_, Try.underlying168, fun w => by simp [isAgg, run_underlying Try.underlying168]⟩, ⟨Try.t168, by kernel_rfl, rfl, rfl, rfl⟩, rfl⟩
theorem row176 : RowOk Try.prog 176 ⟨.fn, 1, 8, .nilFunc⟩ := ⟨⟨_, Try.underlying176, fun w => by simp [isAgg, run_underlying Try.underlying176]⟩, ⟨Try.t176, by kernel_rfl, rfl, rfl, rfl⟩, rfl⟩
theorem row181 : RowOk Try.prog 181 ⟨.fn, 1, 8, .nilFunc⟩ := ⟨⟨_, Try.underlying181, fun w => by simp [isAgg, run_underlying Try.underlying181]⟩, ⟨Try.t181, by kernel_rfl, rfl, rfl, rfl⟩, rfl⟩
theorem row189 : RowOk Try.prog 189 ⟨.slice 46, 1, 24, .slice none 0 0⟩ := ⟨Try.underlying189, ⟨Try.t189, by kernel_rfl, rfl, rfl, rfl⟩, rfl⟩
theorem row195 : RowOk Try.prog 195 ⟨.int .u32, 1, 4, .int .u32 0⟩ := ⟨Try.underlying195, ⟨Try.t195, by kernel_rfl, rfl, rfl, rfl⟩, rfl⟩
theorem row197 : RowOk Try.prog 197 ⟨.int .u64, 1, 8, .int .u64 0⟩ := ⟨Try.underlying197, ⟨Try.t197, by kernel_rfl, rfl, rfl, rfl⟩, rfl⟩
theorem row205 : RowOk Try.prog 205 ⟨.int .i64, 1, 8, .int .i64 0⟩ := ⟨Try.underlying205, ⟨Try.t205, by kernel_rfl, rfl, rfl, rfl⟩, rfl⟩
theorem row212 : RowOk Try.prog 212 ⟨.slice 30, 1, 24, .slice none 0 0⟩ := ⟨Try.underlying212, ⟨Try.t212, by kernel_rfl, rfl, rfl, rfl⟩, rfl⟩
theorem row224 : RowOk Try.prog 224 ⟨.int .u64, 1, 8, .int .u64 0⟩ := ⟨Try.underlying224, ⟨Try.t224, by kernel_rfl, rfl, rfl, rfl⟩, rfl⟩
set_option maxRecDepth 100000 in
set_option maxHeartbeats 4000000 in
theorem tab_ok : TabOk Try.prog tab := by
  intro t
  unfold tab
  split
  · exact row2
  · exact row3
  · exact row4
  · exact row5
  · exact row9
  · exact row22
  · exact row23
  · exact row24
  · exact row25
  · exact row28
  · exact row29
  · exact row30
  · exact row35
  · exact row37
  · exact row40
  · exact row41
  · exact row43
  · exact row45
  · exact row46
  · exact row49
  · exact row53
  · exact row60
  · exact row65
  · exact row71
  · exact row73
  · exact row75
  · exact row76
  · exact row78
  · exact row94
  · exact row103
  · exact row112
  · exact row115
  · exact row116
  · exact row121
  · exact row122
  · exact row123
  · exact row127
  · exact row142
  · exact row144
  · exact row147
  · exact row149
  · exact row150
  · exact row162
  · exact row166
  · exact row168
  · exact row176
  · exact row181
  · exact row189
  · exact row195
  · exact row197
  · exact row205
  · exact row212
  · exact row224
  · exact trivial
theorem mixed : Try.prog.follows .mixedOrders = true := by kernel_rfl
attribute [go_sem] tab2 tab3 tab4 tab5 tab9 tab22 tab23 tab24 tab25 tab28 tab29 tab30 tab35 tab37 tab40 tab41 tab43 tab45 tab46 tab49 tab53 tab60 tab65 tab71 tab73 tab75 tab76 tab78 tab94 tab103 tab112 tab115 tab116 tab121 tab122 tab123 tab127 tab142 tab144 tab147 tab149 tab150 tab162 tab166 tab168 tab176 tab181 tab189 tab195 tab197 tab205 tab212 tab224
end Go.AX.Try
