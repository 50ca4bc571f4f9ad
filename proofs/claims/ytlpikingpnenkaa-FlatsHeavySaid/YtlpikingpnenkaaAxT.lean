/-
  The table of types of this seat, for the abstract executor: it is the program's. By a program of mine (gentab.py). Conditions: none.
-/
import Derived.Test.YtlpikingpnenkaaAxL
import Derived.Test.YtlpikingpnenkaaChecked
import Derived.KernelRfl
set_option linter.unusedSimpArgs false
set_option linter.unusedVariables false
namespace Go.AX.Try
open Go Go.AX Go.Proofs

def tab : Tab
  | 2 => ⟨.int .i64, 1, 8, .int .i64 0⟩
  | 3 => ⟨.int .i64, 1, 8, .int .i64 0⟩
  | 4 => ⟨.bool, 1, 1, .bool false⟩
  | 5 => ⟨.int .u8, 1, 1, .int .u8 0⟩
  | 6 => ⟨.int .u8, 1, 1, .int .u8 0⟩
  | 7 => ⟨.struct [(0, 2), (1, 3), (2, 4), (3, 6)], 4, 24, .agg #[.int .i64 0, .int .i64 0, .bool false, .int .u8 0]⟩
  | 8 => ⟨.struct [(0, 2), (1, 3), (2, 4), (3, 6)], 4, 24, .agg #[.int .i64 0, .int .i64 0, .bool false, .int .u8 0]⟩
  | 9 => ⟨.str, 1, 16, .string ⟨#[]⟩⟩
  | 10 => ⟨.str, 1, 16, .string ⟨#[]⟩⟩
  | 11 => ⟨.str, 1, 16, .string ⟨#[]⟩⟩
  | 12 => ⟨.int .u64, 1, 8, .int .u64 0⟩
  | 13 => ⟨.struct [(0, 9), (1, 12)], 2, 24, .agg #[.string ⟨#[]⟩, .int .u64 0]⟩
  | 14 => ⟨.struct [(0, 9), (1, 12)], 2, 24, .agg #[.string ⟨#[]⟩, .int .u64 0]⟩
  | 18 => ⟨.struct [(0, 17)], 1, 8, .agg #[.pointer none]⟩
  | 19 => ⟨.struct [(0, 17)], 1, 8, .agg #[.pointer none]⟩
  | 21 => ⟨.int .i32, 1, 4, .int .i32 0⟩
  | 22 => ⟨.slice 3, 1, 24, .slice none 0 0⟩
  | 23 => ⟨.int .i64, 1, 8, .int .i64 0⟩
  | 25 => ⟨.fn, 1, 8, .nilFunc⟩
  | 27 => ⟨.slice 25, 1, 24, .slice none 0 0⟩
  | 29 => ⟨.slice 186, 1, 24, .slice none 0 0⟩
  | 30 => ⟨.struct [(0, 4), (1, 29)], 2, 32, .agg #[.bool false, .slice none 0 0]⟩
  | 31 => ⟨.struct [(0, 4), (1, 29)], 2, 32, .agg #[.bool false, .slice none 0 0]⟩
  | 32 => ⟨.struct [(0, 31), (2, 31)], 4, 64, .agg #[.bool false, .slice none 0 0, .bool false, .slice none 0 0]⟩
  | 33 => ⟨.struct [(0, 31), (2, 31)], 4, 64, .agg #[.bool false, .slice none 0 0, .bool false, .slice none 0 0]⟩
  | 40 => ⟨.slice 46, 1, 24, .slice none 0 0⟩
  | 41 => ⟨.struct [(0, 3), (1, 40)], 2, 32, .agg #[.int .i64 0, .slice none 0 0]⟩
  | 42 => ⟨.struct [(0, 3), (1, 40)], 2, 32, .agg #[.int .i64 0, .slice none 0 0]⟩
  | 45 => ⟨.struct [(0, 3), (1, 3)], 2, 16, .agg #[.int .i64 0, .int .i64 0]⟩
  | 46 => ⟨.struct [(0, 3), (1, 3)], 2, 16, .agg #[.int .i64 0, .int .i64 0]⟩
  | 47 => ⟨.slice 22, 1, 24, .slice none 0 0⟩
  | 52 => ⟨.fn, 1, 8, .nilFunc⟩
  | 55 => ⟨.struct [(0, 3), (1, 22)], 2, 32, .agg #[.int .i64 0, .slice none 0 0]⟩
  | 56 => ⟨.struct [(0, 3), (1, 22)], 2, 32, .agg #[.int .i64 0, .slice none 0 0]⟩
  | 60 => ⟨.slice 2, 1, 24, .slice none 0 0⟩
  | 64 => ⟨.struct [(0, 3), (1, 3), (2, 47)], 3, 40, .agg #[.int .i64 0, .int .i64 0, .slice none 0 0]⟩
  | 65 => ⟨.struct [(0, 3), (1, 3), (2, 47)], 3, 40, .agg #[.int .i64 0, .int .i64 0, .slice none 0 0]⟩
  | 78 => ⟨.slice 83, 1, 24, .slice none 0 0⟩
  | 80 => ⟨.fn, 1, 8, .nilFunc⟩
  | 82 => ⟨.struct [(0, 3), (1, 3)], 2, 16, .agg #[.int .i64 0, .int .i64 0]⟩
  | 83 => ⟨.struct [(0, 3), (1, 3)], 2, 16, .agg #[.int .i64 0, .int .i64 0]⟩
  | 91 => ⟨.slice 80, 1, 24, .slice none 0 0⟩
  | 97 => ⟨.slice 4, 1, 24, .slice none 0 0⟩
  | 111 => ⟨.fn, 1, 8, .nilFunc⟩
  | 113 => ⟨.struct [(0, 56), (2, 22), (3, 22)], 4, 80, .agg #[.int .i64 0, .slice none 0 0, .slice none 0 0, .slice none 0 0]⟩
  | 114 => ⟨.struct [(0, 56), (2, 22), (3, 22)], 4, 80, .agg #[.int .i64 0, .slice none 0 0, .slice none 0 0, .slice none 0 0]⟩
  | 120 => ⟨.fn, 1, 8, .nilFunc⟩
  | 142 => ⟨.struct [(0, 56), (2, 22), (3, 65), (6, 22), (7, 22)], 8, 144, .agg #[.int .i64 0, .slice none 0 0, .slice none 0 0, .int .i64 0, .int .i64 0, .slice none 0 0, .slice none 0 0, .slice none 0 0]⟩
  | 143 => ⟨.struct [(0, 56), (2, 22), (3, 65), (6, 22), (7, 22)], 8, 144, .agg #[.int .i64 0, .slice none 0 0, .slice none 0 0, .int .i64 0, .int .i64 0, .slice none 0 0, .slice none 0 0, .slice none 0 0]⟩
  | 158 => ⟨.slice 22, 1, 24, .slice none 0 0⟩
  | 162 => ⟨.int .u64, 1, 8, .int .u64 0⟩
  | 164 => ⟨.fn, 1, 8, .nilFunc⟩
  | 176 => ⟨.slice 56, 1, 24, .slice none 0 0⟩
  | 185 => ⟨.int .u64, 1, 8, .int .u64 0⟩
  | 186 => ⟨.int .u32, 1, 4, .int .u32 0⟩
  | 198 => ⟨.int .i64, 1, 8, .int .i64 0⟩
  | 204 => ⟨.slice 47, 1, 24, .slice none 0 0⟩
  | 224 => ⟨.int .u64, 1, 8, .int .u64 0⟩
  | 238 => ⟨.struct [(0, 17), (1, 17), (2, 17), (3, 9)], 4, 40, .agg #[.pointer none, .pointer none, .pointer none, .string ⟨#[]⟩]⟩
  | 239 => ⟨.struct [(0, 17), (1, 17), (2, 17), (3, 9)], 4, 40, .agg #[.pointer none, .pointer none, .pointer none, .string ⟨#[]⟩]⟩
  | 241 => ⟨.struct [(0, 240)], 0, 0, .agg #[]⟩
  | 242 => ⟨.struct [(0, 240)], 0, 0, .agg #[]⟩
  | 243 => ⟨.int .u8, 1, 1, .int .u8 0⟩
  | 244 => ⟨.int .u8, 1, 1, .int .u8 0⟩
  | 247 => ⟨.int .i32, 1, 4, .int .i32 0⟩
  | 248 => ⟨.int .i32, 1, 4, .int .i32 0⟩
  | _ => TyRow.none
theorem tab2 : tab 2 = ⟨.int .i64, 1, 8, .int .i64 0⟩ := rfl
theorem tab3 : tab 3 = ⟨.int .i64, 1, 8, .int .i64 0⟩ := rfl
theorem tab4 : tab 4 = ⟨.bool, 1, 1, .bool false⟩ := rfl
theorem tab5 : tab 5 = ⟨.int .u8, 1, 1, .int .u8 0⟩ := rfl
theorem tab6 : tab 6 = ⟨.int .u8, 1, 1, .int .u8 0⟩ := rfl
theorem tab7 : tab 7 = ⟨.struct [(0, 2), (1, 3), (2, 4), (3, 6)], 4, 24, .agg #[.int .i64 0, .int .i64 0, .bool false, .int .u8 0]⟩ := rfl
theorem tab8 : tab 8 = ⟨.struct [(0, 2), (1, 3), (2, 4), (3, 6)], 4, 24, .agg #[.int .i64 0, .int .i64 0, .bool false, .int .u8 0]⟩ := rfl
theorem tab9 : tab 9 = ⟨.str, 1, 16, .string ⟨#[]⟩⟩ := rfl
theorem tab10 : tab 10 = ⟨.str, 1, 16, .string ⟨#[]⟩⟩ := rfl
theorem tab11 : tab 11 = ⟨.str, 1, 16, .string ⟨#[]⟩⟩ := rfl
theorem tab12 : tab 12 = ⟨.int .u64, 1, 8, .int .u64 0⟩ := rfl
theorem tab13 : tab 13 = ⟨.struct [(0, 9), (1, 12)], 2, 24, .agg #[.string ⟨#[]⟩, .int .u64 0]⟩ := rfl
theorem tab14 : tab 14 = ⟨.struct [(0, 9), (1, 12)], 2, 24, .agg #[.string ⟨#[]⟩, .int .u64 0]⟩ := rfl
theorem tab18 : tab 18 = ⟨.struct [(0, 17)], 1, 8, .agg #[.pointer none]⟩ := rfl
theorem tab19 : tab 19 = ⟨.struct [(0, 17)], 1, 8, .agg #[.pointer none]⟩ := rfl
theorem tab21 : tab 21 = ⟨.int .i32, 1, 4, .int .i32 0⟩ := rfl
theorem tab22 : tab 22 = ⟨.slice 3, 1, 24, .slice none 0 0⟩ := rfl
theorem tab23 : tab 23 = ⟨.int .i64, 1, 8, .int .i64 0⟩ := rfl
theorem tab25 : tab 25 = ⟨.fn, 1, 8, .nilFunc⟩ := rfl
theorem tab27 : tab 27 = ⟨.slice 25, 1, 24, .slice none 0 0⟩ := rfl
theorem tab29 : tab 29 = ⟨.slice 186, 1, 24, .slice none 0 0⟩ := rfl
theorem tab30 : tab 30 = ⟨.struct [(0, 4), (1, 29)], 2, 32, .agg #[.bool false, .slice none 0 0]⟩ := rfl
theorem tab31 : tab 31 = ⟨.struct [(0, 4), (1, 29)], 2, 32, .agg #[.bool false, .slice none 0 0]⟩ := rfl
theorem tab32 : tab 32 = ⟨.struct [(0, 31), (2, 31)], 4, 64, .agg #[.bool false, .slice none 0 0, .bool false, .slice none 0 0]⟩ := rfl
theorem tab33 : tab 33 = ⟨.struct [(0, 31), (2, 31)], 4, 64, .agg #[.bool false, .slice none 0 0, .bool false, .slice none 0 0]⟩ := rfl
theorem tab40 : tab 40 = ⟨.slice 46, 1, 24, .slice none 0 0⟩ := rfl
theorem tab41 : tab 41 = ⟨.struct [(0, 3), (1, 40)], 2, 32, .agg #[.int .i64 0, .slice none 0 0]⟩ := rfl
theorem tab42 : tab 42 = ⟨.struct [(0, 3), (1, 40)], 2, 32, .agg #[.int .i64 0, .slice none 0 0]⟩ := rfl
theorem tab45 : tab 45 = ⟨.struct [(0, 3), (1, 3)], 2, 16, .agg #[.int .i64 0, .int .i64 0]⟩ := rfl
theorem tab46 : tab 46 = ⟨.struct [(0, 3), (1, 3)], 2, 16, .agg #[.int .i64 0, .int .i64 0]⟩ := rfl
theorem tab47 : tab 47 = ⟨.slice 22, 1, 24, .slice none 0 0⟩ := rfl
theorem tab52 : tab 52 = ⟨.fn, 1, 8, .nilFunc⟩ := rfl
theorem tab55 : tab 55 = ⟨.struct [(0, 3), (1, 22)], 2, 32, .agg #[.int .i64 0, .slice none 0 0]⟩ := rfl
theorem tab56 : tab 56 = ⟨.struct [(0, 3), (1, 22)], 2, 32, .agg #[.int .i64 0, .slice none 0 0]⟩ := rfl
theorem tab60 : tab 60 = ⟨.slice 2, 1, 24, .slice none 0 0⟩ := rfl
theorem tab64 : tab 64 = ⟨.struct [(0, 3), (1, 3), (2, 47)], 3, 40, .agg #[.int .i64 0, .int .i64 0, .slice none 0 0]⟩ := rfl
theorem tab65 : tab 65 = ⟨.struct [(0, 3), (1, 3), (2, 47)], 3, 40, .agg #[.int .i64 0, .int .i64 0, .slice none 0 0]⟩ := rfl
theorem tab78 : tab 78 = ⟨.slice 83, 1, 24, .slice none 0 0⟩ := rfl
theorem tab80 : tab 80 = ⟨.fn, 1, 8, .nilFunc⟩ := rfl
theorem tab82 : tab 82 = ⟨.struct [(0, 3), (1, 3)], 2, 16, .agg #[.int .i64 0, .int .i64 0]⟩ := rfl
theorem tab83 : tab 83 = ⟨.struct [(0, 3), (1, 3)], 2, 16, .agg #[.int .i64 0, .int .i64 0]⟩ := rfl
theorem tab91 : tab 91 = ⟨.slice 80, 1, 24, .slice none 0 0⟩ := rfl
theorem tab97 : tab 97 = ⟨.slice 4, 1, 24, .slice none 0 0⟩ := rfl
theorem tab111 : tab 111 = ⟨.fn, 1, 8, .nilFunc⟩ := rfl
theorem tab113 : tab 113 = ⟨.struct [(0, 56), (2, 22), (3, 22)], 4, 80, .agg #[.int .i64 0, .slice none 0 0, .slice none 0 0, .slice none 0 0]⟩ := rfl
theorem tab114 : tab 114 = ⟨.struct [(0, 56), (2, 22), (3, 22)], 4, 80, .agg #[.int .i64 0, .slice none 0 0, .slice none 0 0, .slice none 0 0]⟩ := rfl
theorem tab120 : tab 120 = ⟨.fn, 1, 8, .nilFunc⟩ := rfl
theorem tab142 : tab 142 = ⟨.struct [(0, 56), (2, 22), (3, 65), (6, 22), (7, 22)], 8, 144, .agg #[.int .i64 0, .slice none 0 0, .slice none 0 0, .int .i64 0, .int .i64 0, .slice none 0 0, .slice none 0 0, .slice none 0 0]⟩ := rfl
theorem tab143 : tab 143 = ⟨.struct [(0, 56), (2, 22), (3, 65), (6, 22), (7, 22)], 8, 144, .agg #[.int .i64 0, .slice none 0 0, .slice none 0 0, .int .i64 0, .int .i64 0, .slice none 0 0, .slice none 0 0, .slice none 0 0]⟩ := rfl
theorem tab158 : tab 158 = ⟨.slice 22, 1, 24, .slice none 0 0⟩ := rfl
theorem tab162 : tab 162 = ⟨.int .u64, 1, 8, .int .u64 0⟩ := rfl
theorem tab164 : tab 164 = ⟨.fn, 1, 8, .nilFunc⟩ := rfl
theorem tab176 : tab 176 = ⟨.slice 56, 1, 24, .slice none 0 0⟩ := rfl
theorem tab185 : tab 185 = ⟨.int .u64, 1, 8, .int .u64 0⟩ := rfl
theorem tab186 : tab 186 = ⟨.int .u32, 1, 4, .int .u32 0⟩ := rfl
theorem tab198 : tab 198 = ⟨.int .i64, 1, 8, .int .i64 0⟩ := rfl
theorem tab204 : tab 204 = ⟨.slice 47, 1, 24, .slice none 0 0⟩ := rfl
theorem tab224 : tab 224 = ⟨.int .u64, 1, 8, .int .u64 0⟩ := rfl
theorem tab238 : tab 238 = ⟨.struct [(0, 17), (1, 17), (2, 17), (3, 9)], 4, 40, .agg #[.pointer none, .pointer none, .pointer none, .string ⟨#[]⟩]⟩ := rfl
theorem tab239 : tab 239 = ⟨.struct [(0, 17), (1, 17), (2, 17), (3, 9)], 4, 40, .agg #[.pointer none, .pointer none, .pointer none, .string ⟨#[]⟩]⟩ := rfl
theorem tab241 : tab 241 = ⟨.struct [(0, 240)], 0, 0, .agg #[]⟩ := rfl
theorem tab242 : tab 242 = ⟨.struct [(0, 240)], 0, 0, .agg #[]⟩ := rfl
theorem tab243 : tab 243 = ⟨.int .u8, 1, 1, .int .u8 0⟩ := rfl
theorem tab244 : tab 244 = ⟨.int .u8, 1, 1, .int .u8 0⟩ := rfl
theorem tab247 : tab 247 = ⟨.int .i32, 1, 4, .int .i32 0⟩ := rfl
theorem tab248 : tab 248 = ⟨.int .i32, 1, 4, .int .i32 0⟩ := rfl
theorem row2 : RowOk Try.prog 2 ⟨.int .i64, 1, 8, .int .i64 0⟩ := ⟨Try.underlying2, ⟨Try.t2, by kernel_rfl, rfl, rfl, rfl⟩, rfl⟩
theorem row3 : RowOk Try.prog 3 ⟨.int .i64, 1, 8, .int .i64 0⟩ := ⟨Try.underlying3, ⟨Try.t3, by kernel_rfl, rfl, rfl, rfl⟩, rfl⟩
theorem row4 : RowOk Try.prog 4 ⟨.bool, 1, 1, .bool false⟩ := ⟨Try.underlying4, ⟨Try.t4, by kernel_rfl, rfl, rfl, rfl⟩, rfl⟩
theorem row5 : RowOk Try.prog 5 ⟨.int .u8, 1, 1, .int .u8 0⟩ := ⟨Try.underlying5, ⟨Try.t5, by kernel_rfl, rfl, rfl, rfl⟩, rfl⟩
theorem row6 : RowOk Try.prog 6 ⟨.int .u8, 1, 1, .int .u8 0⟩ := ⟨Try.underlying6, ⟨Try.t6, by kernel_rfl, rfl, rfl, rfl⟩, rfl⟩
theorem row7 : RowOk Try.prog 7 ⟨.struct [(0, 2), (1, 3), (2, 4), (3, 6)], 4, 24, .agg #[.int .i64 0, .int .i64 0, .bool false, .int .u8 0]⟩ := ⟨⟨_, Try.underlying7, rfl⟩, ⟨Try.t7, by kernel_rfl, rfl, rfl, rfl⟩⟩
theorem row8 : RowOk Try.prog 8 ⟨.struct [(0, 2), (1, 3), (2, 4), (3, 6)], 4, 24, .agg #[.int .i64 0, .int .i64 0, .bool false, .int .u8 0]⟩ := ⟨⟨_, Try.underlying8, rfl⟩, ⟨Try.t8, by kernel_rfl, rfl, rfl, rfl⟩⟩
theorem row9 : RowOk Try.prog 9 ⟨.str, 1, 16, .string ⟨#[]⟩⟩ := ⟨Try.underlying9, ⟨Try.t9, by kernel_rfl, rfl, rfl, rfl⟩, rfl⟩
theorem row10 : RowOk Try.prog 10 ⟨.str, 1, 16, .string ⟨#[]⟩⟩ := ⟨Try.underlying10, ⟨Try.t10, by kernel_rfl, rfl, rfl, rfl⟩, rfl⟩
theorem row11 : RowOk Try.prog 11 ⟨.str, 1, 16, .string ⟨#[]⟩⟩ := ⟨Try.underlying11, ⟨Try.t11, by kernel_rfl, rfl, rfl, rfl⟩, rfl⟩
theorem row12 : RowOk Try.prog 12 ⟨.int .u64, 1, 8, .int .u64 0⟩ := ⟨Try.underlying12, ⟨Try.t12, by kernel_rfl, rfl, rfl, rfl⟩, rfl⟩
theorem row13 : RowOk Try.prog 13 ⟨.struct [(0, 9), (1, 12)], 2, 24, .agg #[.string ⟨#[]⟩, .int .u64 0]⟩ := ⟨⟨_, Try.underlying13, rfl⟩, ⟨Try.t13, by kernel_rfl, rfl, rfl, rfl⟩⟩
theorem row14 : RowOk Try.prog 14 ⟨.struct [(0, 9), (1, 12)], 2, 24, .agg #[.string ⟨#[]⟩, .int .u64 0]⟩ := ⟨⟨_, Try.underlying14, rfl⟩, ⟨Try.t14, by kernel_rfl, rfl, rfl, rfl⟩⟩
theorem row18 : RowOk Try.prog 18 ⟨.struct [(0, 17)], 1, 8, .agg #[.pointer none]⟩ := ⟨⟨_, Try.underlying18, rfl⟩, ⟨Try.t18, by kernel_rfl, rfl, rfl, rfl⟩⟩
theorem row19 : RowOk Try.prog 19 ⟨.struct [(0, 17)], 1, 8, .agg #[.pointer none]⟩ := ⟨⟨_, Try.underlying19, rfl⟩, ⟨Try.t19, by kernel_rfl, rfl, rfl, rfl⟩⟩
theorem row21 : RowOk Try.prog 21 ⟨.int .i32, 1, 4, .int .i32 0⟩ := ⟨Try.underlying21, ⟨Try.t21, by kernel_rfl, rfl, rfl, rfl⟩, rfl⟩
theorem row22 : RowOk Try.prog 22 ⟨.slice 3, 1, 24, .slice none 0 0⟩ := ⟨Try.underlying22, ⟨Try.t22, by kernel_rfl, rfl, rfl, rfl⟩, rfl⟩
theorem row23 : RowOk Try.prog 23 ⟨.int .i64, 1, 8, .int .i64 0⟩ := ⟨Try.underlying23, ⟨Try.t23, by kernel_rfl, rfl, rfl, rfl⟩, rfl⟩
theorem row25 : RowOk Try.prog 25 ⟨.fn, 1, 8, .nilFunc⟩ := ⟨⟨_, Try.underlying25, fun w => by simp [isAgg, run_underlying Try.underlying25]⟩, ⟨Try.t25, by kernel_rfl, rfl, rfl, rfl⟩, rfl⟩
theorem row27 : RowOk Try.prog 27 ⟨.slice 25, 1, 24, .slice none 0 0⟩ := ⟨Try.underlying27, ⟨Try.t27, by kernel_rfl, rfl, rfl, rfl⟩, rfl⟩
theorem row29 : RowOk Try.prog 29 ⟨.slice 186, 1, 24, .slice none 0 0⟩ := ⟨Try.underlying29, ⟨Try.t29, by kernel_rfl, rfl, rfl, rfl⟩, rfl⟩
theorem row30 : RowOk Try.prog 30 ⟨.struct [(0, 4), (1, 29)], 2, 32, .agg #[.bool false, .slice none 0 0]⟩ := ⟨⟨_, Try.underlying30, rfl⟩, ⟨Try.t30, by kernel_rfl, rfl, rfl, rfl⟩⟩
theorem row31 : RowOk Try.prog 31 ⟨.struct [(0, 4), (1, 29)], 2, 32, .agg #[.bool false, .slice none 0 0]⟩ := ⟨⟨_, Try.underlying31, rfl⟩, ⟨Try.t31, by kernel_rfl, rfl, rfl, rfl⟩⟩
theorem row32 : RowOk Try.prog 32 ⟨.struct [(0, 31), (2, 31)], 4, 64, .agg #[.bool false, .slice none 0 0, .bool false, .slice none 0 0]⟩ := ⟨⟨_, Try.underlying32, rfl⟩, ⟨Try.t32, by kernel_rfl, rfl, rfl, rfl⟩⟩
theorem row33 : RowOk Try.prog 33 ⟨.struct [(0, 31), (2, 31)], 4, 64, .agg #[.bool false, .slice none 0 0, .bool false, .slice none 0 0]⟩ := ⟨⟨_, Try.underlying33, rfl⟩, ⟨Try.t33, by kernel_rfl, rfl, rfl, rfl⟩⟩
theorem row40 : RowOk Try.prog 40 ⟨.slice 46, 1, 24, .slice none 0 0⟩ := ⟨Try.underlying40, ⟨Try.t40, by kernel_rfl, rfl, rfl, rfl⟩, rfl⟩
theorem row41 : RowOk Try.prog 41 ⟨.struct [(0, 3), (1, 40)], 2, 32, .agg #[.int .i64 0, .slice none 0 0]⟩ := ⟨⟨_, Try.underlying41, rfl⟩, ⟨Try.t41, by kernel_rfl, rfl, rfl, rfl⟩⟩
theorem row42 : RowOk Try.prog 42 ⟨.struct [(0, 3), (1, 40)], 2, 32, .agg #[.int .i64 0, .slice none 0 0]⟩ := ⟨⟨_, Try.underlying42, rfl⟩, ⟨Try.t42, by kernel_rfl, rfl, rfl, rfl⟩⟩
theorem row45 : RowOk Try.prog 45 ⟨.struct [(0, 3), (1, 3)], 2, 16, .agg #[.int .i64 0, .int .i64 0]⟩ := ⟨⟨_, Try.underlying45, rfl⟩, ⟨Try.t45, by kernel_rfl, rfl, rfl, rfl⟩⟩
theorem row46 : RowOk Try.prog 46 ⟨.struct [(0, 3), (1, 3)], 2, 16, .agg #[.int .i64 0, .int .i64 0]⟩ := ⟨⟨_, Try.underlying46, rfl⟩, ⟨Try.t46, by kernel_rfl, rfl, rfl, rfl⟩⟩
theorem row47 : RowOk Try.prog 47 ⟨.slice 22, 1, 24, .slice none 0 0⟩ := ⟨Try.underlying47, ⟨Try.t47, by kernel_rfl, rfl, rfl, rfl⟩, rfl⟩
theorem row52 : RowOk Try.prog 52 ⟨.fn, 1, 8, .nilFunc⟩ := ⟨⟨_, Try.underlying52, fun w => by simp [isAgg, run_underlying Try.underlying52]⟩, ⟨Try.t52, by kernel_rfl, rfl, rfl, rfl⟩, rfl⟩
theorem row55 : RowOk Try.prog 55 ⟨.struct [(0, 3), (1, 22)], 2, 32, .agg #[.int .i64 0, .slice none 0 0]⟩ := ⟨⟨_, Try.underlying55, rfl⟩, ⟨Try.t55, by kernel_rfl, rfl, rfl, rfl⟩⟩
theorem row56 : RowOk Try.prog 56 ⟨.struct [(0, 3), (1, 22)], 2, 32, .agg #[.int .i64 0, .slice none 0 0]⟩ := ⟨⟨_, Try.underlying56, rfl⟩, ⟨Try.t56, by kernel_rfl, rfl, rfl, rfl⟩⟩
theorem row60 : RowOk Try.prog 60 ⟨.slice 2, 1, 24, .slice none 0 0⟩ := ⟨Try.underlying60, ⟨Try.t60, by kernel_rfl, rfl, rfl, rfl⟩, rfl⟩
theorem row64 : RowOk Try.prog 64 ⟨.struct [(0, 3), (1, 3), (2, 47)], 3, 40, .agg #[.int .i64 0, .int .i64 0, .slice none 0 0]⟩ := ⟨⟨_, Try.underlying64, rfl⟩, ⟨Try.t64, by kernel_rfl, rfl, rfl, rfl⟩⟩
theorem row65 : RowOk Try.prog 65 ⟨.struct [(0, 3), (1, 3), (2, 47)], 3, 40, .agg #[.int .i64 0, .int .i64 0, .slice none 0 0]⟩ := ⟨⟨_, Try.underlying65, rfl⟩, ⟨Try.t65, by kernel_rfl, rfl, rfl, rfl⟩⟩
theorem row78 : RowOk Try.prog 78 ⟨.slice 83, 1, 24, .slice none 0 0⟩ := ⟨Try.underlying78, ⟨Try.t78, by kernel_rfl, rfl, rfl, rfl⟩, rfl⟩
theorem row80 : RowOk Try.prog 80 ⟨.fn, 1, 8, .nilFunc⟩ := ⟨⟨_, Try.underlying80, fun w => by simp [isAgg, run_underlying Try.underlying80]⟩, ⟨Try.t80, by kernel_rfl, rfl, rfl, rfl⟩, rfl⟩
theorem row82 : RowOk Try.prog 82 ⟨.struct [(0, 3), (1, 3)], 2, 16, .agg #[.int .i64 0, .int .i64 0]⟩ := ⟨⟨_, Try.underlying82, rfl⟩, ⟨Try.t82, by kernel_rfl, rfl, rfl, rfl⟩⟩
theorem row83 : RowOk Try.prog 83 ⟨.struct [(0, 3), (1, 3)], 2, 16, .agg #[.int .i64 0, .int .i64 0]⟩ := ⟨⟨_, Try.underlying83, rfl⟩, ⟨Try.t83, by kernel_rfl, rfl, rfl, rfl⟩⟩
theorem row91 : RowOk Try.prog 91 ⟨.slice 80, 1, 24, .slice none 0 0⟩ := ⟨Try.underlying91, ⟨Try.t91, by kernel_rfl, rfl, rfl, rfl⟩, rfl⟩
theorem row97 : RowOk Try.prog 97 ⟨.slice 4, 1, 24, .slice none 0 0⟩ := ⟨Try.underlying97, ⟨Try.t97, by kernel_rfl, rfl, rfl, rfl⟩, rfl⟩
theorem row111 : RowOk Try.prog 111 ⟨.fn, 1, 8, .nilFunc⟩ := ⟨⟨_, Try.underlying111, fun w => by simp [isAgg, run_underlying Try.underlying111]⟩, ⟨Try.t111, by kernel_rfl, rfl, rfl, rfl⟩, rfl⟩
theorem row113 : RowOk Try.prog 113 ⟨.struct [(0, 56), (2, 22), (3, 22)], 4, 80, .agg #[.int .i64 0, .slice none 0 0, .slice none 0 0, .slice none 0 0]⟩ := ⟨⟨_, Try.underlying113, rfl⟩, ⟨Try.t113, by kernel_rfl, rfl, rfl, rfl⟩⟩
theorem row114 : RowOk Try.prog 114 ⟨.struct [(0, 56), (2, 22), (3, 22)], 4, 80, .agg #[.int .i64 0, .slice none 0 0, .slice none 0 0, .slice none 0 0]⟩ := ⟨⟨_, Try.underlying114, rfl⟩, ⟨Try.t114, by kernel_rfl, rfl, rfl, rfl⟩⟩
theorem row120 : RowOk Try.prog 120 ⟨.fn, 1, 8, .nilFunc⟩ := ⟨⟨_, Try.underlying120, fun w => by simp [isAgg, run_underlying Try.underlying120]⟩, ⟨Try.t120, by kernel_rfl, rfl, rfl, rfl⟩, rfl⟩
theorem row142 : RowOk Try.prog 142 ⟨.struct [(0, 56), (2, 22), (3, 65), (6, 22), (7, 22)], 8, 144, .agg #[.int .i64 0, .slice none 0 0, .slice none 0 0, .int .i64 0, .int .i64 0, .slice none 0 0, .slice none 0 0, .slice none 0 0]⟩ := ⟨⟨_, Try.underlying142, rfl⟩, ⟨Try.t142, by kernel_rfl, rfl, rfl, rfl⟩⟩
theorem row143 : RowOk Try.prog 143 ⟨.struct [(0, 56), (2, 22), (3, 65), (6, 22), (7, 22)], 8, 144, .agg #[.int .i64 0, .slice none 0 0, .slice none 0 0, .int .i64 0, .int .i64 0, .slice none 0 0, .slice none 0 0, .slice none 0 0]⟩ := ⟨⟨_, Try.underlying143, rfl⟩, ⟨Try.t143, by kernel_rfl, rfl, rfl, rfl⟩⟩
theorem row158 : RowOk Try.prog 158 ⟨.slice 22, 1, 24, .slice none 0 0⟩ := ⟨Try.underlying158, ⟨Try.t158, by kernel_rfl, rfl, rfl, rfl⟩, rfl⟩
theorem row162 : RowOk Try.prog 162 ⟨.int .u64, 1, 8, .int .u64 0⟩ := ⟨Try.underlying162, ⟨Try.t162, by kernel_rfl, rfl, rfl, rfl⟩, rfl⟩
theorem row164 : RowOk Try.prog 164 ⟨.fn, 1, 8, .nilFunc⟩ := ⟨⟨_, Try.underlying164, fun w => by simp [isAgg, run_underlying Try.underlying164]⟩, ⟨Try.t164, by kernel_rfl, rfl, rfl, rfl⟩, rfl⟩
theorem row176 : RowOk Try.prog 176 ⟨.slice 56, 1, 24, .slice none 0 0⟩ := ⟨Try.underlying176, ⟨Try.t176, by kernel_rfl, rfl, rfl, rfl⟩, rfl⟩
theorem row185 : RowOk Try.prog 185 ⟨.int .u64, 1, 8, .int .u64 0⟩ := ⟨Try.underlying185, ⟨Try.t185, by kernel_rfl, rfl, rfl, rfl⟩, rfl⟩
theorem row186 : RowOk Try.prog 186 ⟨.int .u32, 1, 4, .int .u32 0⟩ := ⟨Try.underlying186, ⟨Try.t186, by kernel_rfl, rfl, rfl, rfl⟩, rfl⟩
theorem row198 : RowOk Try.prog 198 ⟨.int .i64, 1, 8, .int .i64 0⟩ := ⟨Try.underlying198, ⟨Try.t198, by kernel_rfl, rfl, rfl, rfl⟩, rfl⟩
theorem row204 : RowOk Try.prog 204 ⟨.slice 47, 1, 24, .slice none 0 0⟩ := ⟨Try.underlying204, ⟨Try.t204, by kernel_rfl, rfl, rfl, rfl⟩, rfl⟩
theorem row224 : RowOk Try.prog 224 ⟨.int .u64, 1, 8, .int .u64 0⟩ := ⟨Try.underlying224, ⟨Try.t224, by kernel_rfl, rfl, rfl, rfl⟩, rfl⟩
theorem row238 : RowOk Try.prog 238 ⟨.struct [(0, 17), (1, 17), (2, 17), (3, 9)], 4, 40, .agg #[.pointer none, .pointer none, .pointer none, .string ⟨#[]⟩]⟩ := ⟨⟨_, Try.underlying238, rfl⟩, ⟨Try.t238, by kernel_rfl, rfl, rfl, rfl⟩⟩
theorem row239 : RowOk Try.prog 239 ⟨.struct [(0, 17), (1, 17), (2, 17), (3, 9)], 4, 40, .agg #[.pointer none, .pointer none, .pointer none, .string ⟨#[]⟩]⟩ := ⟨⟨_, Try.underlying239, rfl⟩, ⟨Try.t239, by kernel_rfl, rfl, rfl, rfl⟩⟩
theorem row241 : RowOk Try.prog 241 ⟨.struct [(0, 240)], 0, 0, .agg #[]⟩ := ⟨⟨_, Try.underlying241, rfl⟩, ⟨Try.t241, by kernel_rfl, rfl, rfl, rfl⟩⟩
theorem row242 : RowOk Try.prog 242 ⟨.struct [(0, 240)], 0, 0, .agg #[]⟩ := ⟨⟨_, Try.underlying242, rfl⟩, ⟨Try.t242, by kernel_rfl, rfl, rfl, rfl⟩⟩
theorem row243 : RowOk Try.prog 243 ⟨.int .u8, 1, 1, .int .u8 0⟩ := ⟨Try.underlying243, ⟨Try.t243, by kernel_rfl, rfl, rfl, rfl⟩, rfl⟩
theorem row244 : RowOk Try.prog 244 ⟨.int .u8, 1, 1, .int .u8 0⟩ := ⟨Try.underlying244, ⟨Try.t244, by kernel_rfl, rfl, rfl, rfl⟩, rfl⟩
theorem row247 : RowOk Try.prog 247 ⟨.int .i32, 1, 4, .int .i32 0⟩ := ⟨Try.underlying247, ⟨Try.t247, by kernel_rfl, rfl, rfl, rfl⟩, rfl⟩
theorem row248 : RowOk Try.prog 248 ⟨.int .i32, 1, 4, .int .i32 0⟩ := ⟨Try.underlying248, ⟨Try.t248, by kernel_rfl, rfl, rfl, rfl⟩, rfl⟩
set_option maxRecDepth 100000 in
set_option maxHeartbeats 4000000 in
theorem tab_ok : TabOk Try.prog tab := by
  intro t
  unfold tab
  split
  · exact row2
  · exact row3
  · exact row4
  · exact row5
  · exact row6
  · exact row7
  · exact row8
  · exact row9
  · exact row10
  · exact row11
  · exact row12
  · exact row13
  · exact row14
  · exact row18
  · exact row19
  · exact row21
  · exact row22
  · exact row23
  · exact row25
  · exact row27
  · exact row29
  · exact row30
  · exact row31
  · exact row32
  · exact row33
  · exact row40
  · exact row41
  · exact row42
  · exact row45
  · exact row46
  · exact row47
  · exact row52
  · exact row55
  · exact row56
  · exact row60
  · exact row64
  · exact row65
  · exact row78
  · exact row80
  · exact row82
  · exact row83
  · exact row91
  · exact row97
  · exact row111
  · exact row113
  · exact row114
  · exact row120
  · exact row142
  · exact row143
  · exact row158
  · exact row162
  · exact row164
  · exact row176
  · exact row185
  · exact row186
  · exact row198
  · exact row204
  · exact row224
  · exact row238
  · exact row239
  · exact row241
  · exact row242
  · exact row243
  · exact row244
  · exact row247
  · exact row248
  · exact trivial
theorem mixed : Try.prog.follows .mixedOrders = true := by kernel_rfl
attribute [go_sem] tab2 tab3 tab4 tab5 tab6 tab7 tab8 tab9 tab10 tab11 tab12 tab13 tab14 tab18 tab19 tab21 tab22 tab23 tab25 tab27 tab29 tab30 tab31 tab32 tab33 tab40 tab41 tab42 tab45 tab46 tab47 tab52 tab55 tab56 tab60 tab64 tab65 tab78 tab80 tab82 tab83 tab91 tab97 tab111 tab113 tab114 tab120 tab142 tab143 tab158 tab162 tab164 tab176 tab185 tab186 tab198 tab204 tab224 tab238 tab239 tab241 tab242 tab243 tab244 tab247 tab248
end Go.AX.Try
