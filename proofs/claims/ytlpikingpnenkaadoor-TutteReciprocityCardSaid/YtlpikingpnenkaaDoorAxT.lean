/-
  The table of types of this seat, for the abstract executor: it is the program's. By a program of mine (gentab.py). Conditions: none.
-/
import Derived.Test.YtlpikingpnenkaaDoorAxL
import Derived.Test.YtlpikingpnenkaaDoorChecked
import Derived.KernelRfl
set_option linter.unusedSimpArgs false
set_option linter.unusedVariables false
namespace Go.AX.Tryd
open Go Go.AX Go.Proofs

def tab : Tab
  | 2 => ⟨.int .i64, 1, 8, .int .i64 0⟩
  | 3 => ⟨.int .i64, 1, 8, .int .i64 0⟩
  | 4 => ⟨.bool, 1, 1, .bool false⟩
  | 5 => ⟨.int .u8, 1, 1, .int .u8 0⟩
  | 6 => ⟨.int .u8, 1, 1, .int .u8 0⟩
  | 7 => ⟨.struct [(0, 2), (1, 3), (2, 4), (3, 6)], 4, 24, .agg #[.int .i64 0, .int .i64 0, .bool false, .int .u8 0]⟩
  | 8 => ⟨.struct [(0, 2), (1, 3), (2, 4), (3, 6)], 4, 24, .agg #[.int .i64 0, .int .i64 0, .bool false, .int .u8 0]⟩
  | 9 => ⟨.str, 1, 16, .string ⟨#[]⟩⟩
  | 10 => ⟨.str, 1, 16, .string ⟨#[]⟩⟩
  | 11 => ⟨.str, 1, 16, .string ⟨#[]⟩⟩
  | 12 => ⟨.int .u64, 1, 8, .int .u64 0⟩
  | 13 => ⟨.struct [(0, 9), (1, 12)], 2, 24, .agg #[.string ⟨#[]⟩, .int .u64 0]⟩
  | 14 => ⟨.struct [(0, 9), (1, 12)], 2, 24, .agg #[.string ⟨#[]⟩, .int .u64 0]⟩
  | 18 => ⟨.struct [(0, 17)], 1, 8, .agg #[.pointer none]⟩
  | 19 => ⟨.struct [(0, 17)], 1, 8, .agg #[.pointer none]⟩
  | 21 => ⟨.int .i32, 1, 4, .int .i32 0⟩
  | 22 => ⟨.slice 32, 1, 24, .slice none 0 0⟩
  | 23 => ⟨.struct [(0, 3), (1, 22)], 2, 32, .agg #[.int .i64 0, .slice none 0 0]⟩
  | 24 => ⟨.struct [(0, 3), (1, 22)], 2, 32, .agg #[.int .i64 0, .slice none 0 0]⟩
  | 25 => ⟨.slice 2, 1, 24, .slice none 0 0⟩
  | 26 => ⟨.int .i64, 1, 8, .int .i64 0⟩
  | 31 => ⟨.struct [(0, 3), (1, 3)], 2, 16, .agg #[.int .i64 0, .int .i64 0]⟩
  | 32 => ⟨.struct [(0, 3), (1, 3)], 2, 16, .agg #[.int .i64 0, .int .i64 0]⟩
  | 41 => ⟨.slice 3, 1, 24, .slice none 0 0⟩
  | 49 => ⟨.slice 64, 1, 24, .slice none 0 0⟩
  | 50 => ⟨.struct [(0, 4), (1, 49)], 2, 32, .agg #[.bool false, .slice none 0 0]⟩
  | 51 => ⟨.struct [(0, 4), (1, 49)], 2, 32, .agg #[.bool false, .slice none 0 0]⟩
  | 58 => ⟨.int .u64, 1, 8, .int .u64 0⟩
  | 63 => ⟨.slice 5, 1, 24, .slice none 0 0⟩
  | 64 => ⟨.int .u32, 1, 4, .int .u32 0⟩
  | 70 => ⟨.int .u64, 1, 8, .int .u64 0⟩
  | 82 => ⟨.struct [(0, 17), (1, 17), (2, 17), (3, 9)], 4, 40, .agg #[.pointer none, .pointer none, .pointer none, .string ⟨#[]⟩]⟩
  | 83 => ⟨.struct [(0, 17), (1, 17), (2, 17), (3, 9)], 4, 40, .agg #[.pointer none, .pointer none, .pointer none, .string ⟨#[]⟩]⟩
  | 85 => ⟨.struct [(0, 84)], 0, 0, .agg #[]⟩
  | 86 => ⟨.struct [(0, 84)], 0, 0, .agg #[]⟩
  | 88 => ⟨.int .u8, 1, 1, .int .u8 0⟩
  | 89 => ⟨.int .u8, 1, 1, .int .u8 0⟩
  | 92 => ⟨.int .i32, 1, 4, .int .i32 0⟩
  | 93 => ⟨.int .i32, 1, 4, .int .i32 0⟩
  | _ => TyRow.none
theorem tab2 : tab 2 = ⟨.int .i64, 1, 8, .int .i64 0⟩ := rfl
theorem tab3 : tab 3 = ⟨.int .i64, 1, 8, .int .i64 0⟩ := rfl
theorem tab4 : tab 4 = ⟨.bool, 1, 1, .bool false⟩ := rfl
theorem tab5 : tab 5 = ⟨.int .u8, 1, 1, .int .u8 0⟩ := rfl
theorem tab6 : tab 6 = ⟨.int .u8, 1, 1, .int .u8 0⟩ := rfl
theorem tab7 : tab 7 = ⟨.struct [(0, 2), (1, 3), (2, 4), (3, 6)], 4, 24, .agg #[.int .i64 0, .int .i64 0, .bool false, .int .u8 0]⟩ := rfl
theorem tab8 : tab 8 = ⟨.struct [(0, 2), (1, 3), (2, 4), (3, 6)], 4, 24, .agg #[.int .i64 0, .int .i64 0, .bool false, .int .u8 0]⟩ := rfl
theorem tab9 : tab 9 = ⟨.str, 1, 16, .string ⟨#[]⟩⟩ := rfl
theorem tab10 : tab 10 = ⟨.str, 1, 16, .string ⟨#[]⟩⟩ := rfl
theorem tab11 : tab 11 = ⟨.str, 1, 16, .string ⟨#[]⟩⟩ := rfl
theorem tab12 : tab 12 = ⟨.int .u64, 1, 8, .int .u64 0⟩ := rfl
theorem tab13 : tab 13 = ⟨.struct [(0, 9), (1, 12)], 2, 24, .agg #[.string ⟨#[]⟩, .int .u64 0]⟩ := rfl
theorem tab14 : tab 14 = ⟨.struct [(0, 9), (1, 12)], 2, 24, .agg #[.string ⟨#[]⟩, .int .u64 0]⟩ := rfl
theorem tab18 : tab 18 = ⟨.struct [(0, 17)], 1, 8, .agg #[.pointer none]⟩ := rfl
theorem tab19 : tab 19 = ⟨.struct [(0, 17)], 1, 8, .agg #[.pointer none]⟩ := rfl
theorem tab21 : tab 21 = ⟨.int .i32, 1, 4, .int .i32 0⟩ := rfl
theorem tab22 : tab 22 = ⟨.slice 32, 1, 24, .slice none 0 0⟩ := rfl
theorem tab23 : tab 23 = ⟨.struct [(0, 3), (1, 22)], 2, 32, .agg #[.int .i64 0, .slice none 0 0]⟩ := rfl
theorem tab24 : tab 24 = ⟨.struct [(0, 3), (1, 22)], 2, 32, .agg #[.int .i64 0, .slice none 0 0]⟩ := rfl
theorem tab25 : tab 25 = ⟨.slice 2, 1, 24, .slice none 0 0⟩ := rfl
theorem tab26 : tab 26 = ⟨.int .i64, 1, 8, .int .i64 0⟩ := rfl
theorem tab31 : tab 31 = ⟨.struct [(0, 3), (1, 3)], 2, 16, .agg #[.int .i64 0, .int .i64 0]⟩ := rfl
theorem tab32 : tab 32 = ⟨.struct [(0, 3), (1, 3)], 2, 16, .agg #[.int .i64 0, .int .i64 0]⟩ := rfl
theorem tab41 : tab 41 = ⟨.slice 3, 1, 24, .slice none 0 0⟩ := rfl
theorem tab49 : tab 49 = ⟨.slice 64, 1, 24, .slice none 0 0⟩ := rfl
theorem tab50 : tab 50 = ⟨.struct [(0, 4), (1, 49)], 2, 32, .agg #[.bool false, .slice none 0 0]⟩ := rfl
theorem tab51 : tab 51 = ⟨.struct [(0, 4), (1, 49)], 2, 32, .agg #[.bool false, .slice none 0 0]⟩ := rfl
theorem tab58 : tab 58 = ⟨.int .u64, 1, 8, .int .u64 0⟩ := rfl
theorem tab63 : tab 63 = ⟨.slice 5, 1, 24, .slice none 0 0⟩ := rfl
theorem tab64 : tab 64 = ⟨.int .u32, 1, 4, .int .u32 0⟩ := rfl
theorem tab70 : tab 70 = ⟨.int .u64, 1, 8, .int .u64 0⟩ := rfl
theorem tab82 : tab 82 = ⟨.struct [(0, 17), (1, 17), (2, 17), (3, 9)], 4, 40, .agg #[.pointer none, .pointer none, .pointer none, .string ⟨#[]⟩]⟩ := rfl
theorem tab83 : tab 83 = ⟨.struct [(0, 17), (1, 17), (2, 17), (3, 9)], 4, 40, .agg #[.pointer none, .pointer none, .pointer none, .string ⟨#[]⟩]⟩ := rfl
theorem tab85 : tab 85 = ⟨.struct [(0, 84)], 0, 0, .agg #[]⟩ := rfl
theorem tab86 : tab 86 = ⟨.struct [(0, 84)], 0, 0, .agg #[]⟩ := rfl
theorem tab88 : tab 88 = ⟨.int .u8, 1, 1, .int .u8 0⟩ := rfl
theorem tab89 : tab 89 = ⟨.int .u8, 1, 1, .int .u8 0⟩ := rfl
theorem tab92 : tab 92 = ⟨.int .i32, 1, 4, .int .i32 0⟩ := rfl
theorem tab93 : tab 93 = ⟨.int .i32, 1, 4, .int .i32 0⟩ := rfl
theorem row2 : RowOk Tryd.prog 2 ⟨.int .i64, 1, 8, .int .i64 0⟩ := ⟨Tryd.underlying2, ⟨Tryd.t2, by kernel_rfl, rfl, rfl, rfl⟩, rfl⟩
theorem row3 : RowOk Tryd.prog 3 ⟨.int .i64, 1, 8, .int .i64 0⟩ := ⟨Tryd.underlying3, ⟨Tryd.t3, by kernel_rfl, rfl, rfl, rfl⟩, rfl⟩
theorem row4 : RowOk Tryd.prog 4 ⟨.bool, 1, 1, .bool false⟩ := ⟨Tryd.underlying4, ⟨Tryd.t4, by kernel_rfl, rfl, rfl, rfl⟩, rfl⟩
theorem row5 : RowOk Tryd.prog 5 ⟨.int .u8, 1, 1, .int .u8 0⟩ := ⟨Tryd.underlying5, ⟨Tryd.t5, by kernel_rfl, rfl, rfl, rfl⟩, rfl⟩
theorem row6 : RowOk Tryd.prog 6 ⟨.int .u8, 1, 1, .int .u8 0⟩ := ⟨Tryd.underlying6, ⟨Tryd.t6, by kernel_rfl, rfl, rfl, rfl⟩, rfl⟩
theorem row7 : RowOk Tryd.prog 7 ⟨.struct [(0, 2), (1, 3), (2, 4), (3, 6)], 4, 24, .agg #[.int .i64 0, .int .i64 0, .bool false, .int .u8 0]⟩ := ⟨⟨_, Tryd.underlying7, rfl⟩, ⟨Tryd.t7, by kernel_rfl, rfl, rfl, rfl⟩⟩
theorem row8 : RowOk Tryd.prog 8 ⟨.struct [(0, 2), (1, 3), (2, 4), (3, 6)], 4, 24, .agg #[.int .i64 0, .int .i64 0, .bool false, .int .u8 0]⟩ := ⟨⟨_, Tryd.underlying8, rfl⟩, ⟨Tryd.t8, by kernel_rfl, rfl, rfl, rfl⟩⟩
theorem row9 : RowOk Tryd.prog 9 ⟨.str, 1, 16, .string ⟨#[]⟩⟩ := ⟨Tryd.underlying9, ⟨Tryd.t9, by kernel_rfl, rfl, rfl, rfl⟩, rfl⟩
theorem row10 : RowOk Tryd.prog 10 ⟨.str, 1, 16, .string ⟨#[]⟩⟩ := ⟨Tryd.underlying10, ⟨Tryd.t10, by kernel_rfl, rfl, rfl, rfl⟩, rfl⟩
theorem row11 : RowOk Tryd.prog 11 ⟨.str, 1, 16, .string ⟨#[]⟩⟩ := ⟨Tryd.underlying11, ⟨Tryd.t11, by kernel_rfl, rfl, rfl, rfl⟩, rfl⟩
theorem row12 : RowOk Tryd.prog 12 ⟨.int .u64, 1, 8, .int .u64 0⟩ := ⟨Tryd.underlying12, ⟨Tryd.t12, by kernel_rfl, rfl, rfl, rfl⟩, rfl⟩
theorem row13 : RowOk Tryd.prog 13 ⟨.struct [(0, 9), (1, 12)], 2, 24, .agg #[.string ⟨#[]⟩, .int .u64 0]⟩ := ⟨⟨_, Tryd.underlying13, rfl⟩, ⟨Tryd.t13, by kernel_rfl, rfl, rfl, rfl⟩⟩
theorem row14 : RowOk Tryd.prog 14 ⟨.struct [(0, 9), (1, 12)], 2, 24, .agg #[.string ⟨#[]⟩, .int .u64 0]⟩ := ⟨⟨_, Tryd.underlying14, rfl⟩, ⟨Tryd.t14, by kernel_rfl, rfl, rfl, rfl⟩⟩
theorem row18 : RowOk Tryd.prog 18 ⟨.struct [(0, 17)], 1, 8, .agg #[.pointer none]⟩ := ⟨⟨_, Tryd.underlying18, rfl⟩, ⟨Tryd.t18, by kernel_rfl, rfl, rfl, rfl⟩⟩
theorem row19 : RowOk Tryd.prog 19 ⟨.struct [(0, 17)], 1, 8, .agg #[.pointer none]⟩ := ⟨⟨_, Tryd.underlying19, rfl⟩, ⟨Tryd.t19, by kernel_rfl, rfl, rfl, rfl⟩⟩
theorem row21 : RowOk Tryd.prog 21 ⟨.int .i32, 1, 4, .int .i32 0⟩ := ⟨Tryd.underlying21, ⟨Tryd.t21, by kernel_rfl, rfl, rfl, rfl⟩, rfl⟩
theorem row22 : RowOk Tryd.prog 22 ⟨.slice 32, 1, 24, .slice none 0 0⟩ := ⟨Tryd.underlying22, ⟨Tryd.t22, by kernel_rfl, rfl, rfl, rfl⟩, rfl⟩
theorem row23 : RowOk Tryd.prog 23 ⟨.struct [(0, 3), (1, 22)], 2, 32, .agg #[.int .i64 0, .slice none 0 0]⟩ := ⟨⟨_, Tryd.underlying23, rfl⟩, ⟨Tryd.t23, by kernel_rfl, rfl, rfl, rfl⟩⟩
theorem row24 : RowOk Tryd.prog 24 ⟨.struct [(0, 3), (1, 22)], 2, 32, .agg #[.int .i64 0, .slice none 0 0]⟩ := ⟨⟨_, Tryd.underlying24, rfl⟩, ⟨Tryd.t24, by kernel_rfl, rfl, rfl, rfl⟩⟩
theorem row25 : RowOk Tryd.prog 25 ⟨.slice 2, 1, 24, .slice none 0 0⟩ := ⟨Tryd.underlying25, ⟨Tryd.t25, by kernel_rfl, rfl, rfl, rfl⟩, rfl⟩
theorem row26 : RowOk Tryd.prog 26 ⟨.int .i64, 1, 8, .int .i64 0⟩ := ⟨Tryd.underlying26, ⟨Tryd.t26, by kernel_rfl, rfl, rfl, rfl⟩, rfl⟩
theorem row31 : RowOk Tryd.prog 31 ⟨.struct [(0, 3), (1, 3)], 2, 16, .agg #[.int .i64 0, .int .i64 0]⟩ := ⟨⟨_, Tryd.underlying31, rfl⟩, ⟨Tryd.t31, by kernel_rfl, rfl, rfl, rfl⟩⟩
theorem row32 : RowOk Tryd.prog 32 ⟨.struct [(0, 3), (1, 3)], 2, 16, .agg #[.int .i64 0, .int .i64 0]⟩ := ⟨⟨_, Tryd.underlying32, rfl⟩, ⟨Tryd.t32, by kernel_rfl, rfl, rfl, rfl⟩⟩
theorem row41 : RowOk Tryd.prog 41 ⟨.slice 3, 1, 24, .slice none 0 0⟩ := ⟨Tryd.underlying41, ⟨Tryd.t41, by kernel_rfl, rfl, rfl, rfl⟩, rfl⟩
theorem row49 : RowOk Tryd.prog 49 ⟨.slice 64, 1, 24, .slice none 0 0⟩ := ⟨Tryd.underlying49, ⟨Tryd.t49, by kernel_rfl, rfl, rfl, rfl⟩, rfl⟩
theorem row50 : RowOk Tryd.prog 50 ⟨.struct [(0, 4), (1, 49)], 2, 32, .agg #[.bool false, .slice none 0 0]⟩ := ⟨⟨_, Tryd.underlying50, rfl⟩, ⟨Tryd.t50, by kernel_rfl, rfl, rfl, rfl⟩⟩
theorem row51 : RowOk Tryd.prog 51 ⟨.struct [(0, 4), (1, 49)], 2, 32, .agg #[.bool false, .slice none 0 0]⟩ := ⟨⟨_, Tryd.underlying51, rfl⟩, ⟨Tryd.t51, by kernel_rfl, rfl, rfl, rfl⟩⟩
theorem row58 : RowOk Tryd.prog 58 ⟨.int .u64, 1, 8, .int .u64 0⟩ := ⟨Tryd.underlying58, ⟨Tryd.t58, by kernel_rfl, rfl, rfl, rfl⟩, rfl⟩
theorem row63 : RowOk Tryd.prog 63 ⟨.slice 5, 1, 24, .slice none 0 0⟩ := ⟨Tryd.underlying63, ⟨Tryd.t63, by kernel_rfl, rfl, rfl, rfl⟩, rfl⟩
theorem row64 : RowOk Tryd.prog 64 ⟨.int .u32, 1, 4, .int .u32 0⟩ := ⟨Tryd.underlying64, ⟨Tryd.t64, by kernel_rfl, rfl, rfl, rfl⟩, rfl⟩
theorem row70 : RowOk Tryd.prog 70 ⟨.int .u64, 1, 8, .int .u64 0⟩ := ⟨Tryd.underlying70, ⟨Tryd.t70, by kernel_rfl, rfl, rfl, rfl⟩, rfl⟩
theorem row82 : RowOk Tryd.prog 82 ⟨.struct [(0, 17), (1, 17), (2, 17), (3, 9)], 4, 40, .agg #[.pointer none, .pointer none, .pointer none, .string ⟨#[]⟩]⟩ := ⟨⟨_, Tryd.underlying82, rfl⟩, ⟨Tryd.t82, by kernel_rfl, rfl, rfl, rfl⟩⟩
theorem row83 : RowOk Tryd.prog 83 ⟨.struct [(0, 17), (1, 17), (2, 17), (3, 9)], 4, 40, .agg #[.pointer none, .pointer none, .pointer none, .string ⟨#[]⟩]⟩ := ⟨⟨_, Tryd.underlying83, rfl⟩, ⟨Tryd.t83, by kernel_rfl, rfl, rfl, rfl⟩⟩
theorem row85 : RowOk Tryd.prog 85 ⟨.struct [(0, 84)], 0, 0, .agg #[]⟩ := ⟨⟨_, Tryd.underlying85, rfl⟩, ⟨Tryd.t85, by kernel_rfl, rfl, rfl, rfl⟩⟩
theorem row86 : RowOk Tryd.prog 86 ⟨.struct [(0, 84)], 0, 0, .agg #[]⟩ := ⟨⟨_, Tryd.underlying86, rfl⟩, ⟨Tryd.t86, by kernel_rfl, rfl, rfl, rfl⟩⟩
theorem row88 : RowOk Tryd.prog 88 ⟨.int .u8, 1, 1, .int .u8 0⟩ := ⟨Tryd.underlying88, ⟨Tryd.t88, by kernel_rfl, rfl, rfl, rfl⟩, rfl⟩
theorem row89 : RowOk Tryd.prog 89 ⟨.int .u8, 1, 1, .int .u8 0⟩ := ⟨Tryd.underlying89, ⟨Tryd.t89, by kernel_rfl, rfl, rfl, rfl⟩, rfl⟩
theorem row92 : RowOk Tryd.prog 92 ⟨.int .i32, 1, 4, .int .i32 0⟩ := ⟨Tryd.underlying92, ⟨Tryd.t92, by kernel_rfl, rfl, rfl, rfl⟩, rfl⟩
theorem row93 : RowOk Tryd.prog 93 ⟨.int .i32, 1, 4, .int .i32 0⟩ := ⟨Tryd.underlying93, ⟨Tryd.t93, by kernel_rfl, rfl, rfl, rfl⟩, rfl⟩
set_option maxRecDepth 100000 in
set_option maxHeartbeats 4000000 in
theorem tab_ok : TabOk Tryd.prog tab := by
  intro t
  unfold tab
  split
  · exact row2
  · exact row3
  · exact row4
  · exact row5
  · exact row6
  · exact row7
  · exact row8
  · exact row9
  · exact row10
  · exact row11
  · exact row12
  · exact row13
  · exact row14
  · exact row18
  · exact row19
  · exact row21
  · exact row22
  · exact row23
  · exact row24
  · exact row25
  · exact row26
  · exact row31
  · exact row32
  · exact row41
  · exact row49
  · exact row50
  · exact row51
  · exact row58
  · exact row63
  · exact row64
  · exact row70
  · exact row82
  · exact row83
  · exact row85
  · exact row86
  · exact row88
  · exact row89
  · exact row92
  · exact row93
  · exact trivial
theorem mixed : Tryd.prog.follows .mixedOrders = true := by kernel_rfl
attribute [go_sem] tab2 tab3 tab4 tab5 tab6 tab7 tab8 tab9 tab10 tab11 tab12 tab13 tab14 tab18 tab19 tab21 tab22 tab23 tab24 tab25 tab26 tab31 tab32 tab41 tab49 tab50 tab51 tab58 tab63 tab64 tab70 tab82 tab83 tab85 tab86 tab88 tab89 tab92 tab93
end Go.AX.Tryd
