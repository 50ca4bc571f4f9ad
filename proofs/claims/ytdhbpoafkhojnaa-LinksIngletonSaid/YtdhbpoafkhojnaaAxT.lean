/-
  The table of types of this seat, for the abstract executor: it is the program's. By a program of mine (gentab.py). Conditions: none.
-/
import Derived.Test.YtdhbpoafkhojnaaAxL
import Derived.Test.YtdhbpoafkhojnaaChecked
import Derived.KernelRfl
set_option linter.unusedSimpArgs false
set_option linter.unusedVariables false
namespace Go.AX.Try
open Go Go.AX Go.Proofs

def tab : Tab
  | 1 => ⟨.fn, 1, 8, .nilFunc⟩
  | 2 => ⟨.int .i64, 1, 8, .int .i64 0⟩
  | 3 => ⟨.int .i64, 1, 8, .int .i64 0⟩
  | 4 => ⟨.bool, 1, 1, .bool false⟩
  | 5 => ⟨.int .u8, 1, 1, .int .u8 0⟩
  | 6 => ⟨.int .u8, 1, 1, .int .u8 0⟩
  | 7 => ⟨.struct [(0, 2), (1, 3), (2, 4), (3, 6)], 4, 24, .agg #[.int .i64 0, .int .i64 0, .bool false, .int .u8 0]⟩
  | 8 => ⟨.struct [(0, 2), (1, 3), (2, 4), (3, 6)], 4, 24, .agg #[.int .i64 0, .int .i64 0, .bool false, .int .u8 0]⟩
  | 9 => ⟨.str, 1, 16, .string ⟨#[]⟩⟩
  | 10 => ⟨.str, 1, 16, .string ⟨#[]⟩⟩
  | 11 => ⟨.str, 1, 16, .string ⟨#[]⟩⟩
  | 12 => ⟨.int .u64, 1, 8, .int .u64 0⟩
  | 13 => ⟨.struct [(0, 9), (1, 12)], 2, 24, .agg #[.string ⟨#[]⟩, .int .u64 0]⟩
  | 14 => ⟨.struct [(0, 9), (1, 12)], 2, 24, .agg #[.string ⟨#[]⟩, .int .u64 0]⟩
  | 18 => ⟨.struct [(0, 17)], 1, 8, .agg #[.pointer none]⟩
  | 19 => ⟨.struct [(0, 17)], 1, 8, .agg #[.pointer none]⟩
  | 21 => ⟨.int .i32, 1, 4, .int .i32 0⟩
  | 22 => ⟨.slice 3, 1, 24, .slice none 0 0⟩
  | 23 => ⟨.struct [(0, 3), (1, 22)], 2, 32, .agg #[.int .i64 0, .slice none 0 0]⟩
  | 24 => ⟨.struct [(0, 3), (1, 22)], 2, 32, .agg #[.int .i64 0, .slice none 0 0]⟩
  | 25 => ⟨.int .i64, 1, 8, .int .i64 0⟩
  | 27 => ⟨.fn, 1, 8, .nilFunc⟩
  | 28 => ⟨.slice 22, 1, 24, .slice none 0 0⟩
  | 29 => ⟨.fn, 1, 8, .nilFunc⟩
  | 31 => ⟨.fn, 1, 8, .nilFunc⟩
  | 32 => ⟨.fn, 1, 8, .nilFunc⟩
  | 33 => ⟨.fn, 1, 8, .nilFunc⟩
  | 34 => ⟨.fn, 1, 8, .nilFunc⟩
  | 35 => ⟨.fn, 1, 8, .nilFunc⟩
  | 36 => ⟨.fn, 1, 8, .nilFunc⟩
  | 37 => ⟨.slice 46, 1, 24, .slice none 0 0⟩
  | 38 => ⟨.struct [(0, 3), (1, 37)], 2, 32, .agg #[.int .i64 0, .slice none 0 0]⟩
  | 39 => ⟨.struct [(0, 3), (1, 37)], 2, 32, .agg #[.int .i64 0, .slice none 0 0]⟩
  | 40 => ⟨.fn, 1, 8, .nilFunc⟩
  | 41 => ⟨.fn, 1, 8, .nilFunc⟩
  | 42 => ⟨.fn, 1, 8, .nilFunc⟩
  | 43 => ⟨.struct [(0, 3), (1, 3), (2, 28)], 3, 40, .agg #[.int .i64 0, .int .i64 0, .slice none 0 0]⟩
  | 44 => ⟨.struct [(0, 3), (1, 3), (2, 28)], 3, 40, .agg #[.int .i64 0, .int .i64 0, .slice none 0 0]⟩
  | 45 => ⟨.struct [(0, 3), (1, 3)], 2, 16, .agg #[.int .i64 0, .int .i64 0]⟩
  | 46 => ⟨.struct [(0, 3), (1, 3)], 2, 16, .agg #[.int .i64 0, .int .i64 0]⟩
  | 47 => ⟨.fn, 1, 8, .nilFunc⟩
  | 48 => ⟨.fn, 1, 8, .nilFunc⟩
  | 49 => ⟨.fn, 1, 8, .nilFunc⟩
  | 50 => ⟨.fn, 1, 8, .nilFunc⟩
  | 52 => ⟨.fn, 1, 8, .nilFunc⟩
  | 53 => ⟨.fn, 1, 8, .nilFunc⟩
  | 54 => ⟨.fn, 1, 8, .nilFunc⟩
  | 55 => ⟨.fn, 1, 8, .nilFunc⟩
  | 56 => ⟨.fn, 1, 8, .nilFunc⟩
  | 57 => ⟨.fn, 1, 8, .nilFunc⟩
  | 58 => ⟨.fn, 1, 8, .nilFunc⟩
  | 59 => ⟨.fn, 1, 8, .nilFunc⟩
  | 60 => ⟨.fn, 1, 8, .nilFunc⟩
  | 61 => ⟨.fn, 1, 8, .nilFunc⟩
  | 62 => ⟨.fn, 1, 8, .nilFunc⟩
  | 63 => ⟨.fn, 1, 8, .nilFunc⟩
  | 65 => ⟨.fn, 1, 8, .nilFunc⟩
  | 66 => ⟨.fn, 1, 8, .nilFunc⟩
  | 67 => ⟨.fn, 1, 8, .nilFunc⟩
  | 68 => ⟨.fn, 1, 8, .nilFunc⟩
  | 69 => ⟨.fn, 1, 8, .nilFunc⟩
  | 71 => ⟨.fn, 1, 8, .nilFunc⟩
  | 72 => ⟨.fn, 1, 8, .nilFunc⟩
  | 73 => ⟨.fn, 1, 8, .nilFunc⟩
  | 74 => ⟨.fn, 1, 8, .nilFunc⟩
  | 75 => ⟨.fn, 1, 8, .nilFunc⟩
  | 76 => ⟨.slice 74, 1, 24, .slice none 0 0⟩
  | 77 => ⟨.fn, 1, 8, .nilFunc⟩
  | 78 => ⟨.fn, 1, 8, .nilFunc⟩
  | 79 => ⟨.slice 82, 1, 24, .slice none 0 0⟩
  | 81 => ⟨.fn, 1, 8, .nilFunc⟩
  | 82 => ⟨.slice 2, 1, 24, .slice none 0 0⟩
  | 83 => ⟨.fn, 1, 8, .nilFunc⟩
  | 84 => ⟨.fn, 1, 8, .nilFunc⟩
  | 86 => ⟨.fn, 1, 8, .nilFunc⟩
  | 87 => ⟨.fn, 1, 8, .nilFunc⟩
  | 88 => ⟨.fn, 1, 8, .nilFunc⟩
  | 89 => ⟨.fn, 1, 8, .nilFunc⟩
  | 90 => ⟨.fn, 1, 8, .nilFunc⟩
  | 91 => ⟨.fn, 1, 8, .nilFunc⟩
  | 92 => ⟨.fn, 1, 8, .nilFunc⟩
  | 93 => ⟨.fn, 1, 8, .nilFunc⟩
  | 94 => ⟨.fn, 1, 8, .nilFunc⟩
  | 95 => ⟨.fn, 1, 8, .nilFunc⟩
  | 96 => ⟨.fn, 1, 8, .nilFunc⟩
  | 97 => ⟨.fn, 1, 8, .nilFunc⟩
  | 98 => ⟨.fn, 1, 8, .nilFunc⟩
  | 99 => ⟨.fn, 1, 8, .nilFunc⟩
  | 100 => ⟨.fn, 1, 8, .nilFunc⟩
  | 101 => ⟨.fn, 1, 8, .nilFunc⟩
  | 102 => ⟨.fn, 1, 8, .nilFunc⟩
  | 104 => ⟨.fn, 1, 8, .nilFunc⟩
  | 105 => ⟨.fn, 1, 8, .nilFunc⟩
  | 106 => ⟨.fn, 1, 8, .nilFunc⟩
  | 107 => ⟨.fn, 1, 8, .nilFunc⟩
  | 108 => ⟨.fn, 1, 8, .nilFunc⟩
  | 109 => ⟨.fn, 1, 8, .nilFunc⟩
  | 110 => ⟨.fn, 1, 8, .nilFunc⟩
  | 111 => ⟨.fn, 1, 8, .nilFunc⟩
  | 112 => ⟨.fn, 1, 8, .nilFunc⟩
  | 113 => ⟨.fn, 1, 8, .nilFunc⟩
  | 114 => ⟨.fn, 1, 8, .nilFunc⟩
  | 115 => ⟨.fn, 1, 8, .nilFunc⟩
  | 116 => ⟨.fn, 1, 8, .nilFunc⟩
  | 117 => ⟨.fn, 1, 8, .nilFunc⟩
  | 119 => ⟨.fn, 1, 8, .nilFunc⟩
  | 120 => ⟨.fn, 1, 8, .nilFunc⟩
  | 121 => ⟨.fn, 1, 8, .nilFunc⟩
  | 122 => ⟨.int .u64, 1, 8, .int .u64 0⟩
  | 123 => ⟨.fn, 1, 8, .nilFunc⟩
  | 124 => ⟨.slice 22, 1, 24, .slice none 0 0⟩
  | 125 => ⟨.fn, 1, 8, .nilFunc⟩
  | 127 => ⟨.fn, 1, 8, .nilFunc⟩
  | 128 => ⟨.fn, 1, 8, .nilFunc⟩
  | 129 => ⟨.fn, 1, 8, .nilFunc⟩
  | 130 => ⟨.fn, 1, 8, .nilFunc⟩
  | 131 => ⟨.fn, 1, 8, .nilFunc⟩
  | 132 => ⟨.fn, 1, 8, .nilFunc⟩
  | 133 => ⟨.fn, 1, 8, .nilFunc⟩
  | 134 => ⟨.int .u32, 1, 4, .int .u32 0⟩
  | 135 => ⟨.fn, 1, 8, .nilFunc⟩
  | 136 => ⟨.int .u64, 1, 8, .int .u64 0⟩
  | 137 => ⟨.fn, 1, 8, .nilFunc⟩
  | 138 => ⟨.fn, 1, 8, .nilFunc⟩
  | 139 => ⟨.fn, 1, 8, .nilFunc⟩
  | 140 => ⟨.int .i64, 1, 8, .int .i64 0⟩
  | 142 => ⟨.fn, 1, 8, .nilFunc⟩
  | 143 => ⟨.fn, 1, 8, .nilFunc⟩
  | 144 => ⟨.fn, 1, 8, .nilFunc⟩
  | 145 => ⟨.int .u64, 1, 8, .int .u64 0⟩
  | 146 => ⟨.fn, 1, 8, .nilFunc⟩
  | 147 => ⟨.fn, 1, 8, .nilFunc⟩
  | 148 => ⟨.fn, 1, 8, .nilFunc⟩
  | 150 => ⟨.fn, 1, 8, .nilFunc⟩
  | 153 => ⟨.fn, 1, 8, .nilFunc⟩
  | 154 => ⟨.fn, 1, 8, .nilFunc⟩
  | 155 => ⟨.struct [(0, 17), (1, 17), (2, 17), (3, 9)], 4, 40, .agg #[.pointer none, .pointer none, .pointer none, .string ⟨#[]⟩]⟩
  | 156 => ⟨.struct [(0, 17), (1, 17), (2, 17), (3, 9)], 4, 40, .agg #[.pointer none, .pointer none, .pointer none, .string ⟨#[]⟩]⟩
  | 158 => ⟨.struct [(0, 157)], 0, 0, .agg #[]⟩
  | 159 => ⟨.struct [(0, 157)], 0, 0, .agg #[]⟩
  | 160 => ⟨.fn, 1, 8, .nilFunc⟩
  | 161 => ⟨.int .u8, 1, 1, .int .u8 0⟩
  | 162 => ⟨.int .u8, 1, 1, .int .u8 0⟩
  | 163 => ⟨.fn, 1, 8, .nilFunc⟩
  | 165 => ⟨.int .i32, 1, 4, .int .i32 0⟩
  | 166 => ⟨.int .i32, 1, 4, .int .i32 0⟩
  | 167 => ⟨.struct [(0, 12), (1, 12), (2, 134), (3, 161), (4, 5), (5, 5), (6, 162), (7, 163), (8, 164), (9, 165), (10, 166)], 11, 48, .agg #[.int .u64 0, .int .u64 0, .int .u32 0, .int .u8 0, .int .u8 0, .int .u8 0, .int .u8 0, .nilFunc, .pointer none, .int .i32 0, .int .i32 0]⟩
  | 168 => ⟨.struct [(0, 12), (1, 12), (2, 134), (3, 161), (4, 5), (5, 5), (6, 162), (7, 163), (8, 164), (9, 165), (10, 166)], 11, 48, .agg #[.int .u64 0, .int .u64 0, .int .u32 0, .int .u8 0, .int .u8 0, .int .u8 0, .int .u8 0, .nilFunc, .pointer none, .int .i32 0, .int .i32 0]⟩
  | _ => TyRow.none
theorem tab1 : tab 1 = ⟨.fn, 1, 8, .nilFunc⟩ := rfl
theorem tab2 : tab 2 = ⟨.int .i64, 1, 8, .int .i64 0⟩ := rfl
theorem tab3 : tab 3 = ⟨.int .i64, 1, 8, .int .i64 0⟩ := rfl
theorem tab4 : tab 4 = ⟨.bool, 1, 1, .bool false⟩ := rfl
theorem tab5 : tab 5 = ⟨.int .u8, 1, 1, .int .u8 0⟩ := rfl
theorem tab6 : tab 6 = ⟨.int .u8, 1, 1, .int .u8 0⟩ := rfl
theorem tab7 : tab 7 = ⟨.struct [(0, 2), (1, 3), (2, 4), (3, 6)], 4, 24, .agg #[.int .i64 0, .int .i64 0, .bool false, .int .u8 0]⟩ := rfl
theorem tab8 : tab 8 = ⟨.struct [(0, 2), (1, 3), (2, 4), (3, 6)], 4, 24, .agg #[.int .i64 0, .int .i64 0, .bool false, .int .u8 0]⟩ := rfl
theorem tab9 : tab 9 = ⟨.str, 1, 16, .string ⟨#[]⟩⟩ := rfl
theorem tab10 : tab 10 = ⟨.str, 1, 16, .string ⟨#[]⟩⟩ := rfl
theorem tab11 : tab 11 = ⟨.str, 1, 16, .string ⟨#[]⟩⟩ := rfl
theorem tab12 : tab 12 = ⟨.int .u64, 1, 8, .int .u64 0⟩ := rfl
theorem tab13 : tab 13 = ⟨.struct [(0, 9), (1, 12)], 2, 24, .agg #[.string ⟨#[]⟩, .int .u64 0]⟩ := rfl
theorem tab14 : tab 14 = ⟨.struct [(0, 9), (1, 12)], 2, 24, .agg #[.string ⟨#[]⟩, .int .u64 0]⟩ := rfl
theorem tab18 : tab 18 = ⟨.struct [(0, 17)], 1, 8, .agg #[.pointer none]⟩ := rfl
theorem tab19 : tab 19 = ⟨.struct [(0, 17)], 1, 8, .agg #[.pointer none]⟩ := rfl
theorem tab21 : tab 21 = ⟨.int .i32, 1, 4, .int .i32 0⟩ := rfl
theorem tab22 : tab 22 = ⟨.slice 3, 1, 24, .slice none 0 0⟩ := rfl
theorem tab23 : tab 23 = ⟨.struct [(0, 3), (1, 22)], 2, 32, .agg #[.int .i64 0, .slice none 0 0]⟩ := rfl
theorem tab24 : tab 24 = ⟨.struct [(0, 3), (1, 22)], 2, 32, .agg #[.int .i64 0, .slice none 0 0]⟩ := rfl
theorem tab25 : tab 25 = ⟨.int .i64, 1, 8, .int .i64 0⟩ := rfl
theorem tab27 : tab 27 = ⟨.fn, 1, 8, .nilFunc⟩ := rfl
theorem tab28 : tab 28 = ⟨.slice 22, 1, 24, .slice none 0 0⟩ := rfl
theorem tab29 : tab 29 = ⟨.fn, 1, 8, .nilFunc⟩ := rfl
theorem tab31 : tab 31 = ⟨.fn, 1, 8, .nilFunc⟩ := rfl
theorem tab32 : tab 32 = ⟨.fn, 1, 8, .nilFunc⟩ := rfl
theorem tab33 : tab 33 = ⟨.fn, 1, 8, .nilFunc⟩ := rfl
theorem tab34 : tab 34 = ⟨.fn, 1, 8, .nilFunc⟩ := rfl
theorem tab35 : tab 35 = ⟨.fn, 1, 8, .nilFunc⟩ := rfl
theorem tab36 : tab 36 = ⟨.fn, 1, 8, .nilFunc⟩ := rfl
theorem tab37 : tab 37 = ⟨.slice 46, 1, 24, .slice none 0 0⟩ := rfl
theorem tab38 : tab 38 = ⟨.struct [(0, 3), (1, 37)], 2, 32, .agg #[.int .i64 0, .slice none 0 0]⟩ := rfl
theorem tab39 : tab 39 = ⟨.struct [(0, 3), (1, 37)], 2, 32, .agg #[.int .i64 0, .slice none 0 0]⟩ := rfl
theorem tab40 : tab 40 = ⟨.fn, 1, 8, .nilFunc⟩ := rfl
theorem tab41 : tab 41 = ⟨.fn, 1, 8, .nilFunc⟩ := rfl
theorem tab42 : tab 42 = ⟨.fn, 1, 8, .nilFunc⟩ := rfl
theorem tab43 : tab 43 = ⟨.struct [(0, 3), (1, 3), (2, 28)], 3, 40, .agg #[.int .i64 0, .int .i64 0, .slice none 0 0]⟩ := rfl
theorem tab44 : tab 44 = ⟨.struct [(0, 3), (1, 3), (2, 28)], 3, 40, .agg #[.int .i64 0, .int .i64 0, .slice none 0 0]⟩ := rfl
theorem tab45 : tab 45 = ⟨.struct [(0, 3), (1, 3)], 2, 16, .agg #[.int .i64 0, .int .i64 0]⟩ := rfl
theorem tab46 : tab 46 = ⟨.struct [(0, 3), (1, 3)], 2, 16, .agg #[.int .i64 0, .int .i64 0]⟩ := rfl
theorem tab47 : tab 47 = ⟨.fn, 1, 8, .nilFunc⟩ := rfl
theorem tab48 : tab 48 = ⟨.fn, 1, 8, .nilFunc⟩ := rfl
theorem tab49 : tab 49 = ⟨.fn, 1, 8, .nilFunc⟩ := rfl
theorem tab50 : tab 50 = ⟨.fn, 1, 8, .nilFunc⟩ := rfl
theorem tab52 : tab 52 = ⟨.fn, 1, 8, .nilFunc⟩ := rfl
theorem tab53 : tab 53 = ⟨.fn, 1, 8, .nilFunc⟩ := rfl
theorem tab54 : tab 54 = ⟨.fn, 1, 8, .nilFunc⟩ := rfl
theorem tab55 : tab 55 = ⟨.fn, 1, 8, .nilFunc⟩ := rfl
theorem tab56 : tab 56 = ⟨.fn, 1, 8, .nilFunc⟩ := rfl
theorem tab57 : tab 57 = ⟨.fn, 1, 8, .nilFunc⟩ := rfl
theorem tab58 : tab 58 = ⟨.fn, 1, 8, .nilFunc⟩ := rfl
theorem tab59 : tab 59 = ⟨.fn, 1, 8, .nilFunc⟩ := rfl
theorem tab60 : tab 60 = ⟨.fn, 1, 8, .nilFunc⟩ := rfl
theorem tab61 : tab 61 = ⟨.fn, 1, 8, .nilFunc⟩ := rfl
theorem tab62 : tab 62 = ⟨.fn, 1, 8, .nilFunc⟩ := rfl
theorem tab63 : tab 63 = ⟨.fn, 1, 8, .nilFunc⟩ := rfl
theorem tab65 : tab 65 = ⟨.fn, 1, 8, .nilFunc⟩ := rfl
theorem tab66 : tab 66 = ⟨.fn, 1, 8, .nilFunc⟩ := rfl
theorem tab67 : tab 67 = ⟨.fn, 1, 8, .nilFunc⟩ := rfl
theorem tab68 : tab 68 = ⟨.fn, 1, 8, .nilFunc⟩ := rfl
theorem tab69 : tab 69 = ⟨.fn, 1, 8, .nilFunc⟩ := rfl
theorem tab71 : tab 71 = ⟨.fn, 1, 8, .nilFunc⟩ := rfl
theorem tab72 : tab 72 = ⟨.fn, 1, 8, .nilFunc⟩ := rfl
theorem tab73 : tab 73 = ⟨.fn, 1, 8, .nilFunc⟩ := rfl
theorem tab74 : tab 74 = ⟨.fn, 1, 8, .nilFunc⟩ := rfl
theorem tab75 : tab 75 = ⟨.fn, 1, 8, .nilFunc⟩ := rfl
theorem tab76 : tab 76 = ⟨.slice 74, 1, 24, .slice none 0 0⟩ := rfl
theorem tab77 : tab 77 = ⟨.fn, 1, 8, .nilFunc⟩ := rfl
theorem tab78 : tab 78 = ⟨.fn, 1, 8, .nilFunc⟩ := rfl
theorem tab79 : tab 79 = ⟨.slice 82, 1, 24, .slice none 0 0⟩ := rfl
theorem tab81 : tab 81 = ⟨.fn, 1, 8, .nilFunc⟩ := rfl
theorem tab82 : tab 82 = ⟨.slice 2, 1, 24, .slice none 0 0⟩ := rfl
theorem tab83 : tab 83 = ⟨.fn, 1, 8, .nilFunc⟩ := rfl
theorem tab84 : tab 84 = ⟨.fn, 1, 8, .nilFunc⟩ := rfl
theorem tab86 : tab 86 = ⟨.fn, 1, 8, .nilFunc⟩ := rfl
theorem tab87 : tab 87 = ⟨.fn, 1, 8, .nilFunc⟩ := rfl
theorem tab88 : tab 88 = ⟨.fn, 1, 8, .nilFunc⟩ := rfl
theorem tab89 : tab 89 = ⟨.fn, 1, 8, .nilFunc⟩ := rfl
theorem tab90 : tab 90 = ⟨.fn, 1, 8, .nilFunc⟩ := rfl
theorem tab91 : tab 91 = ⟨.fn, 1, 8, .nilFunc⟩ := rfl
theorem tab92 : tab 92 = ⟨.fn, 1, 8, .nilFunc⟩ := rfl
theorem tab93 : tab 93 = ⟨.fn, 1, 8, .nilFunc⟩ := rfl
theorem tab94 : tab 94 = ⟨.fn, 1, 8, .nilFunc⟩ := rfl
theorem tab95 : tab 95 = ⟨.fn, 1, 8, .nilFunc⟩ := rfl
theorem tab96 : tab 96 = ⟨.fn, 1, 8, .nilFunc⟩ := rfl
theorem tab97 : tab 97 = ⟨.fn, 1, 8, .nilFunc⟩ := rfl
theorem tab98 : tab 98 = ⟨.fn, 1, 8, .nilFunc⟩ := rfl
theorem tab99 : tab 99 = ⟨.fn, 1, 8, .nilFunc⟩ := rfl
theorem tab100 : tab 100 = ⟨.fn, 1, 8, .nilFunc⟩ := rfl
theorem tab101 : tab 101 = ⟨.fn, 1, 8, .nilFunc⟩ := rfl
theorem tab102 : tab 102 = ⟨.fn, 1, 8, .nilFunc⟩ := rfl
theorem tab104 : tab 104 = ⟨.fn, 1, 8, .nilFunc⟩ := rfl
theorem tab105 : tab 105 = ⟨.fn, 1, 8, .nilFunc⟩ := rfl
theorem tab106 : tab 106 = ⟨.fn, 1, 8, .nilFunc⟩ := rfl
theorem tab107 : tab 107 = ⟨.fn, 1, 8, .nilFunc⟩ := rfl
theorem tab108 : tab 108 = ⟨.fn, 1, 8, .nilFunc⟩ := rfl
theorem tab109 : tab 109 = ⟨.fn, 1, 8, .nilFunc⟩ := rfl
theorem tab110 : tab 110 = ⟨.fn, 1, 8, .nilFunc⟩ := rfl
theorem tab111 : tab 111 = ⟨.fn, 1, 8, .nilFunc⟩ := rfl
theorem tab112 : tab 112 = ⟨.fn, 1, 8, .nilFunc⟩ := rfl
theorem tab113 : tab 113 = ⟨.fn, 1, 8, .nilFunc⟩ := rfl
theorem tab114 : tab 114 = ⟨.fn, 1, 8, .nilFunc⟩ := rfl
theorem tab115 : tab 115 = ⟨.fn, 1, 8, .nilFunc⟩ := rfl
theorem tab116 : tab 116 = ⟨.fn, 1, 8, .nilFunc⟩ := rfl
theorem tab117 : tab 117 = ⟨.fn, 1, 8, .nilFunc⟩ := rfl
theorem tab119 : tab 119 = ⟨.fn, 1, 8, .nilFunc⟩ := rfl
theorem tab120 : tab 120 = ⟨.fn, 1, 8, .nilFunc⟩ := rfl
theorem tab121 : tab 121 = ⟨.fn, 1, 8, .nilFunc⟩ := rfl
theorem tab122 : tab 122 = ⟨.int .u64, 1, 8, .int .u64 0⟩ := rfl
theorem tab123 : tab 123 = ⟨.fn, 1, 8, .nilFunc⟩ := rfl
theorem tab124 : tab 124 = ⟨.slice 22, 1, 24, .slice none 0 0⟩ := rfl
theorem tab125 : tab 125 = ⟨.fn, 1, 8, .nilFunc⟩ := rfl
theorem tab127 : tab 127 = ⟨.fn, 1, 8, .nilFunc⟩ := rfl
theorem tab128 : tab 128 = ⟨.fn, 1, 8, .nilFunc⟩ := rfl
theorem tab129 : tab 129 = ⟨.fn, 1, 8, .nilFunc⟩ := rfl
theorem tab130 : tab 130 = ⟨.fn, 1, 8, .nilFunc⟩ := rfl
theorem tab131 : tab 131 = ⟨.fn, 1, 8, .nilFunc⟩ := rfl
theorem tab132 : tab 132 = ⟨.fn, 1, 8, .nilFunc⟩ := rfl
theorem tab133 : tab 133 = ⟨.fn, 1, 8, .nilFunc⟩ := rfl
theorem tab134 : tab 134 = ⟨.int .u32, 1, 4, .int .u32 0⟩ := rfl
theorem tab135 : tab 135 = ⟨.fn, 1, 8, .nilFunc⟩ := rfl
theorem tab136 : tab 136 = ⟨.int .u64, 1, 8, .int .u64 0⟩ := rfl
theorem tab137 : tab 137 = ⟨.fn, 1, 8, .nilFunc⟩ := rfl
theorem tab138 : tab 138 = ⟨.fn, 1, 8, .nilFunc⟩ := rfl
theorem tab139 : tab 139 = ⟨.fn, 1, 8, .nilFunc⟩ := rfl
theorem tab140 : tab 140 = ⟨.int .i64, 1, 8, .int .i64 0⟩ := rfl
theorem tab142 : tab 142 = ⟨.fn, 1, 8, .nilFunc⟩ := rfl
theorem tab143 : tab 143 = ⟨.fn, 1, 8, .nilFunc⟩ := rfl
theorem tab144 : tab 144 = ⟨.fn, 1, 8, .nilFunc⟩ := rfl
theorem tab145 : tab 145 = ⟨.int .u64, 1, 8, .int .u64 0⟩ := rfl
theorem tab146 : tab 146 = ⟨.fn, 1, 8, .nilFunc⟩ := rfl
theorem tab147 : tab 147 = ⟨.fn, 1, 8, .nilFunc⟩ := rfl
theorem tab148 : tab 148 = ⟨.fn, 1, 8, .nilFunc⟩ := rfl
theorem tab150 : tab 150 = ⟨.fn, 1, 8, .nilFunc⟩ := rfl
theorem tab153 : tab 153 = ⟨.fn, 1, 8, .nilFunc⟩ := rfl
theorem tab154 : tab 154 = ⟨.fn, 1, 8, .nilFunc⟩ := rfl
theorem tab155 : tab 155 = ⟨.struct [(0, 17), (1, 17), (2, 17), (3, 9)], 4, 40, .agg #[.pointer none, .pointer none, .pointer none, .string ⟨#[]⟩]⟩ := rfl
theorem tab156 : tab 156 = ⟨.struct [(0, 17), (1, 17), (2, 17), (3, 9)], 4, 40, .agg #[.pointer none, .pointer none, .pointer none, .string ⟨#[]⟩]⟩ := rfl
theorem tab158 : tab 158 = ⟨.struct [(0, 157)], 0, 0, .agg #[]⟩ := rfl
theorem tab159 : tab 159 = ⟨.struct [(0, 157)], 0, 0, .agg #[]⟩ := rfl
theorem tab160 : tab 160 = ⟨.fn, 1, 8, .nilFunc⟩ := rfl
theorem tab161 : tab 161 = ⟨.int .u8, 1, 1, .int .u8 0⟩ := rfl
theorem tab162 : tab 162 = ⟨.int .u8, 1, 1, .int .u8 0⟩ := rfl
theorem tab163 : tab 163 = ⟨.fn, 1, 8, .nilFunc⟩ := rfl
theorem tab165 : tab 165 = ⟨.int .i32, 1, 4, .int .i32 0⟩ := rfl
theorem tab166 : tab 166 = ⟨.int .i32, 1, 4, .int .i32 0⟩ := rfl
theorem tab167 : tab 167 = ⟨.struct [(0, 12), (1, 12), (2, 134), (3, 161), (4, 5), (5, 5), (6, 162), (7, 163), (8, 164), (9, 165), (10, 166)], 11, 48, .agg #[.int .u64 0, .int .u64 0, .int .u32 0, .int .u8 0, .int .u8 0, .int .u8 0, .int .u8 0, .nilFunc, .pointer none, .int .i32 0, .int .i32 0]⟩ := rfl
theorem tab168 : tab 168 = ⟨.struct [(0, 12), (1, 12), (2, 134), (3, 161), (4, 5), (5, 5), (6, 162), (7, 163), (8, 164), (9, 165), (10, 166)], 11, 48, .agg #[.int .u64 0, .int .u64 0, .int .u32 0, .int .u8 0, .int .u8 0, .int .u8 0, .int .u8 0, .nilFunc, .pointer none, .int .i32 0, .int .i32 0]⟩ := rfl
theorem row1 : RowOk Try.prog 1 ⟨.fn, 1, 8, .nilFunc⟩ := ⟨⟨_, Try.underlying1, fun w => by simp [isAgg, run_underlying Try.underlying1]⟩, ⟨Try.t1, by kernel_rfl, rfl, rfl, rfl⟩, rfl⟩
theorem row2 : RowOk Try.prog 2 ⟨.int .i64, 1, 8, .int .i64 0⟩ := ⟨Try.underlying2, ⟨Try.t2, by kernel_rfl, rfl, rfl, rfl⟩, rfl⟩
theorem row3 : RowOk Try.prog 3 ⟨.int .i64, 1, 8, .int .i64 0⟩ := ⟨Try.underlying3, ⟨Try.t3, by kernel_rfl, rfl, rfl, rfl⟩, rfl⟩
theorem row4 : RowOk Try.prog 4 ⟨.bool, 1, 1, .bool false⟩ := ⟨Try.underlying4, ⟨Try.t4, by kernel_rfl, rfl, rfl, rfl⟩, rfl⟩
theorem row5 : RowOk Try.prog 5 ⟨.int .u8, 1, 1, .int .u8 0⟩ := ⟨Try.underlying5, ⟨Try.t5, by kernel_rfl, rfl, rfl, rfl⟩, rfl⟩
theorem row6 : RowOk Try.prog 6 ⟨.int .u8, 1, 1, .int .u8 0⟩ := ⟨Try.underlying6, ⟨Try.t6, by kernel_rfl, rfl, rfl, rfl⟩, rfl⟩
theorem row7 : RowOk Try.prog 7 ⟨.struct [(0, 2), (1, 3), (2, 4), (3, 6)], 4, 24, .agg #[.int .i64 0, .int .i64 0, .bool false, .int .u8 0]⟩ := ⟨⟨_, Try.underlying7, rfl⟩, ⟨Try.t7, by kernel_rfl, rfl, rfl, rfl⟩⟩
theorem row8 : RowOk Try.prog 8 ⟨.struct [(0, 2), (1, 3), (2, 4), (3, 6)], 4, 24, .agg #[.int .i64 0, .int .i64 0, .bool false, .int .u8 0]⟩ := ⟨⟨_, Try.underlying8, rfl⟩, ⟨Try.t8, by kernel_rfl, rfl, rfl, rfl⟩⟩
theorem row9 : RowOk Try.prog 9 ⟨.str, 1, 16, .string ⟨#[]⟩⟩ := ⟨Try.underlying9, ⟨Try.t9, by kernel_rfl, rfl, rfl, rfl⟩, rfl⟩
theorem row10 : RowOk Try.prog 10 ⟨.str, 1, 16, .string ⟨#[]⟩⟩ := ⟨Try.underlying10, ⟨Try.t10, by kernel_rfl, rfl, rfl, rfl⟩, rfl⟩
theorem row11 : RowOk Try.prog 11 ⟨.str, 1, 16, .string ⟨#[]⟩⟩ := ⟨Try.underlying11, ⟨Try.t11, by kernel_rfl, rfl, rfl, rfl⟩, rfl⟩
theorem row12 : RowOk Try.prog 12 ⟨.int .u64, 1, 8, .int .u64 0⟩ := ⟨Try.underlying12, ⟨Try.t12, by kernel_rfl, rfl, rfl, rfl⟩, rfl⟩
theorem row13 : RowOk Try.prog 13 ⟨.struct [(0, 9), (1, 12)], 2, 24, .agg #[.string ⟨#[]⟩, .int .u64 0]⟩ := ⟨⟨_, Try.underlying13, rfl⟩, ⟨Try.t13, by kernel_rfl, rfl, rfl, rfl⟩⟩
theorem row14 : RowOk Try.prog 14 ⟨.struct [(0, 9), (1, 12)], 2, 24, .agg #[.string ⟨#[]⟩, .int .u64 0]⟩ := ⟨⟨_, Try.underlying14, rfl⟩, ⟨Try.t14, by kernel_rfl, rfl, rfl, rfl⟩⟩
theorem row18 : RowOk Try.prog 18 ⟨.struct [(0, 17)], 1, 8, .agg #[.pointer none]⟩ := ⟨⟨_, Try.underlying18, rfl⟩, ⟨Try.t18, by kernel_rfl, rfl, rfl, rfl⟩⟩
theorem row19 : RowOk Try.prog 19 ⟨.struct [(0, 17)], 1, 8, .agg #[.pointer none]⟩ := ⟨⟨_, Try.underlying19, rfl⟩, ⟨Try.t19, by kernel_rfl, rfl, rfl, rfl⟩⟩
theorem row21 : RowOk Try.prog 21 ⟨.int .i32, 1, 4, .int .i32 0⟩ := ⟨Try.underlying21, ⟨Try.t21, by kernel_rfl, rfl, rfl, rfl⟩, rfl⟩
theorem row22 : RowOk Try.prog 22 ⟨.slice 3, 1, 24, .slice none 0 0⟩ := ⟨Try.underlying22, ⟨Try.t22, by kernel_rfl, rfl, rfl, rfl⟩, rfl⟩
theorem row23 : RowOk Try.prog 23 ⟨.struct [(0, 3), (1, 22)], 2, 32, .agg #[.int .i64 0, .slice none 0 0]⟩ := ⟨⟨_, Try.underlying23, rfl⟩, ⟨Try.t23, by kernel_rfl, rfl, rfl, rfl⟩⟩
theorem row24 : RowOk Try.prog 24 ⟨.struct [(0, 3), (1, 22)], 2, 32, .agg #[.int .i64 0, .slice none 0 0]⟩ := ⟨⟨_, Try.underlying24, rfl⟩, ⟨Try.t24, by kernel_rfl, rfl, rfl, rfl⟩⟩
theorem row25 : RowOk Try.prog 25 ⟨.int .i64, 1, 8, .int .i64 0⟩ := ⟨Try.underlying25, ⟨Try.t25, by kernel_rfl, rfl, rfl, rfl⟩, rfl⟩
theorem row27 : RowOk Try.prog 27 ⟨.fn, 1, 8, .nilFunc⟩ := ⟨⟨_, Try.underlying27, fun w => by simp [isAgg, run_underlying Try.underlying27]⟩, ⟨Try.t27, by kernel_rfl, rfl, rfl, rfl⟩, rfl⟩
theorem row28 : RowOk Try.prog 28 ⟨.slice 22, 1, 24, .slice none 0 0⟩ := ⟨Try.underlying28, ⟨Try.t28, by kernel_rfl, rfl, rfl, rfl⟩, rfl⟩
theorem row29 : RowOk Try.prog 29 ⟨.fn, 1, 8, .nilFunc⟩ := ⟨⟨_, Try.underlying29, fun w => by simp [isAgg, run_underlying Try.underlying29]⟩, ⟨Try.t29, by kernel_rfl, rfl, rfl, rfl⟩, rfl⟩
theorem row31 : RowOk Try.prog 31 ⟨.fn, 1, 8, .nilFunc⟩ := ⟨⟨_, Try.underlying31, fun w => by simp [isAgg, run_underlying Try.underlying31]⟩, ⟨Try.t31, by kernel_rfl, rfl, rfl, rfl⟩, rfl⟩
theorem row32 : RowOk Try.prog 32 ⟨.fn, 1, 8, .nilFunc⟩ := ⟨⟨_, Try.underlying32, fun w => by simp [isAgg, run_underlying Try.underlying32]⟩, ⟨Try.t32, by kernel_rfl, rfl, rfl, rfl⟩, rfl⟩
theorem row33 : RowOk Try.prog 33 ⟨.fn, 1, 8, .nilFunc⟩ := ⟨⟨_, Try.underlying33, fun w => by simp [isAgg, run_underlying Try.underlying33]⟩, ⟨Try.t33, by kernel_rfl, rfl, rfl, rfl⟩, rfl⟩
theorem row34 : RowOk Try.prog 34 ⟨.fn, 1, 8, .nilFunc⟩ := ⟨⟨_, Try.underlying34, fun w => by simp [isAgg, run_underlying Try.underlying34]⟩, ⟨Try.t34, by kernel_rfl, rfl, rfl, rfl⟩, rfl⟩
theorem row35 : RowOk Try.prog 35 ⟨.fn, 1, 8, .nilFunc⟩ := ⟨⟨_, Try.underlying35, fun w => by simp [isAgg, run_underlying Try.underlying35]⟩, ⟨Try.t35, by kernel_rfl, rfl, rfl, rfl⟩, rfl⟩
theorem row36 : RowOk Try.prog 36 ⟨.fn, 1, 8, .nilFunc⟩ := ⟨⟨_, Try.underlying36, fun w => by simp [isAgg, run_underlying Try.underlying36]⟩, ⟨Try.t36, by kernel_rfl, rfl, rfl, rfl⟩, rfl⟩
theorem row37 : RowOk Try.prog 37 ⟨.slice 46, 1, 24, .slice none 0 0⟩ := ⟨Try.underlying37, ⟨Try.t37, by kernel_rfl, rfl, rfl, rfl⟩, rfl⟩
theorem row38 : RowOk Try.prog 38 ⟨.struct [(0, 3), (1, 37)], 2, 32, .agg #[.int .i64 0, .slice none 0 0]⟩ := ⟨⟨_, Try.underlying38, rfl⟩, ⟨Try.t38, by kernel_rfl, rfl, rfl, rfl⟩⟩
theorem row39 : RowOk Try.prog 39 ⟨.struct [(0, 3), (1, 37)], 2, 32, .agg #[.int .i64 0, .slice none 0 0]⟩ := ⟨⟨_, Try.underlying39, rfl⟩, ⟨Try.t39, by kernel_rfl, rfl, rfl, rfl⟩⟩
theorem row40 : RowOk Try.prog 40 ⟨.fn, 1, 8, .nilFunc⟩ := ⟨⟨_, Try.underlying40, fun w => by simp [isAgg, run_underlying Try.underlying40]⟩, ⟨Try.t40, by kernel_rfl, rfl, rfl, rfl⟩, rfl⟩
theorem row41 : RowOk Try.prog 41 ⟨.fn, 1, 8, .nilFunc⟩ := ⟨⟨_, Try.underlying41, fun w => by simp [isAgg, run_underlying Try.underlying41]⟩, ⟨Try.t41, by kernel_rfl, rfl, rfl, rfl⟩, rfl⟩
theorem row42 : RowOk Try.prog 42 ⟨.fn, 1, 8, .nilFunc⟩ := ⟨⟨_, Try.underlying42, fun w => by simp [isAgg, run_underlying Try.underlying42]⟩, ⟨Try.t42, by kernel_rfl, rfl, rfl, rfl⟩, rfl⟩
theorem row43 : RowOk Try.prog 43 ⟨.struct [(0, 3), (1, 3), (2, 28)], 3, 40, .agg #[.int .i64 0, .int .i64 0, .slice none 0 0]⟩ := ⟨⟨_, Try.underlying43, rfl⟩, ⟨Try.t43, by kernel_rfl, rfl, rfl, rfl⟩⟩
theorem row44 : RowOk Try.prog 44 ⟨.struct [(0, 3), (1, 3), (2, 28)], 3, 40, .agg #[.int .i64 0, .int .i64 0, .slice none 0 0]⟩ := ⟨⟨_, Try.underlying44, rfl⟩, ⟨Try.t44, by kernel_rfl, rfl, rfl, rfl⟩⟩
theorem row45 : RowOk Try.prog 45 ⟨.struct [(0, 3), (1, 3)], 2, 16, .agg #[.int .i64 0, .int .i64 0]⟩ := ⟨⟨_, Try.underlying45, rfl⟩, ⟨Try.t45, by kernel_rfl, rfl, rfl, rfl⟩⟩
theorem row46 : RowOk Try.prog 46 ⟨.struct [(0, 3), (1, 3)], 2, 16, .agg #[.int .i64 0, .int .i64 0]⟩ := ⟨⟨_, Try.underlying46, rfl⟩, ⟨Try.t46, by kernel_rfl, rfl, rfl, rfl⟩⟩
theorem row47 : RowOk Try.prog 47 ⟨.fn, 1, 8, .nilFunc⟩ := ⟨⟨_, Try.underlying47, fun w => by simp [isAgg, run_underlying Try.underlying47]⟩, ⟨Try.t47, by kernel_rfl, rfl, rfl, rfl⟩, rfl⟩
theorem row48 : RowOk Try.prog 48 ⟨.fn, 1, 8, .nilFunc⟩ := ⟨⟨_, Try.underlying48, fun w => by simp [isAgg, run_underlying Try.underlying48]⟩, ⟨Try.t48, by kernel_rfl, rfl, rfl, rfl⟩, rfl⟩
theorem row49 : RowOk Try.prog 49 ⟨.fn, 1, 8, .nilFunc⟩ := ⟨⟨_, Try.underlying49, fun w => by simp [isAgg, run_underlying Try.underlying49]⟩, ⟨Try.t49, by kernel_rfl, rfl, rfl, rfl⟩, rfl⟩
theorem row50 : RowOk Try.prog 50 ⟨.fn, 1, 8, .nilFunc⟩ := ⟨⟨_, Try.underlying50, fun w => by simp [isAgg, run_underlying Try.underlying50]⟩, ⟨Try.t50, by kernel_rfl, rfl, rfl, rfl⟩, rfl⟩
theorem row52 : RowOk Try.prog 52 ⟨.fn, 1, 8, .nilFunc⟩ := ⟨⟨_, Try.underlying52, fun w => by simp [isAgg, run_underlying Try.underlying52]⟩, ⟨Try.t52, by kernel_rfl, rfl, rfl, rfl⟩, rfl⟩
theorem row53 : RowOk Try.prog 53 ⟨.fn, 1, 8, .nilFunc⟩ := ⟨⟨_, Try.underlying53, fun w => by simp [isAgg, run_underlying Try.underlying53]⟩, ⟨Try.t53, by kernel_rfl, rfl, rfl, rfl⟩, rfl⟩
theorem row54 : RowOk Try.prog 54 ⟨.fn, 1, 8, .nilFunc⟩ := ⟨⟨_, Try.underlying54, fun w => by simp [isAgg, run_underlying Try.underlying54]⟩, ⟨Try.t54, by kernel_rfl, rfl, rfl, rfl⟩, rfl⟩
theorem row55 : RowOk Try.prog 55 ⟨.fn, 1, 8, .nilFunc⟩ := ⟨⟨_, Try.underlying55, fun w => by simp [isAgg, run_underlying Try.underlying55]⟩, ⟨Try.t55, by kernel_rfl, rfl, rfl, rfl⟩, rfl⟩
theorem row56 : RowOk Try.prog 56 ⟨.fn, 1, 8, .nilFunc⟩ := ⟨⟨_, Try.underlying56, fun w => by simp [isAgg, run_underlying Try.underlying56]⟩, ⟨Try.t56, by kernel_rfl, rfl, rfl, rfl⟩, rfl⟩
theorem row57 : RowOk Try.prog 57 ⟨.fn, 1, 8, .nilFunc⟩ := ⟨⟨_, Try.underlying57, fun w => by simp [isAgg, run_underlying Try.underlying57]⟩, ⟨Try.t57, by kernel_rfl, rfl, rfl, rfl⟩, rfl⟩
theorem row58 : RowOk Try.prog 58 ⟨.fn, 1, 8, .nilFunc⟩ := ⟨⟨_, Try.underlying58, fun w => by simp [isAgg, run_underlying Try.underlying58]⟩, ⟨Try.t58, by kernel_rfl, rfl, rfl, rfl⟩, rfl⟩
theorem row59 : RowOk Try.prog 59 ⟨.fn, 1, 8, .nilFunc⟩ := ⟨⟨_, Try.underlying59, fun w => by simp [isAgg, run_underlying Try.underlying59]⟩, ⟨Try.t59, by kernel_rfl, rfl, rfl, rfl⟩, rfl⟩
theorem row60 : RowOk Try.prog 60 ⟨.fn, 1, 8, .nilFunc⟩ := ⟨⟨_, Try.underlying60, fun w => by simp [isAgg, run_underlying Try.underlying60]⟩, ⟨Try.t60, by kernel_rfl, rfl, rfl, rfl⟩, rfl⟩
theorem row61 : RowOk Try.prog 61 ⟨.fn, 1, 8, .nilFunc⟩ := ⟨⟨_, Try.underlying61, fun w => by simp [isAgg, run_underlying Try.underlying61]⟩, ⟨Try.t61, by kernel_rfl, rfl, rfl, rfl⟩, rfl⟩
theorem row62 : RowOk Try.prog 62 ⟨.fn, 1, 8, .nilFunc⟩ := ⟨⟨_, Try.underlying62, fun w => by simp [isAgg, run_underlying Try.underlying62]⟩, ⟨Try.t62, by kernel_rfl, rfl, rfl, rfl⟩, rfl⟩
theorem row63 : RowOk Try.prog 63 ⟨.fn, 1, 8, .nilFunc⟩ := ⟨⟨_, Try.underlying63, fun w => by simp [isAgg, run_underlying Try.underlying63]⟩, ⟨Try.t63, by kernel_rfl, rfl, rfl, rfl⟩, rfl⟩
theorem row65 : RowOk Try.prog 65 ⟨.fn, 1, 8, .nilFunc⟩ := ⟨⟨_, Try.underlying65, fun w => by simp [isAgg, run_underlying Try.underlying65]⟩, ⟨Try.t65, by kernel_rfl, rfl, rfl, rfl⟩, rfl⟩
theorem row66 : RowOk Try.prog 66 ⟨.fn, 1, 8, .nilFunc⟩ := ⟨⟨_, Try.underlying66, fun w => by simp [isAgg, run_underlying Try.underlying66]⟩, ⟨Try.t66, by kernel_rfl, rfl, rfl, rfl⟩, rfl⟩
theorem row67 : RowOk Try.prog 67 ⟨.fn, 1, 8, .nilFunc⟩ := ⟨⟨_, Try.underlying67, fun w => by simp [isAgg, run_underlying Try.underlying67]⟩, ⟨Try.t67, by kernel_rfl, rfl, rfl, rfl⟩, rfl⟩
theorem row68 : RowOk Try.prog 68 ⟨.fn, 1, 8, .nilFunc⟩ := ⟨⟨_, Try.underlying68, fun w => by simp [isAgg, run_underlying Try.underlying68]⟩, ⟨Try.t68, by kernel_rfl, rfl, rfl, rfl⟩, rfl⟩
theorem row69 : RowOk Try.prog 69 ⟨.fn, 1, 8, .nilFunc⟩ := ⟨⟨_, Try.underlying69, fun w => by simp [isAgg, run_underlying Try.underlying69]⟩, ⟨Try.t69, by kernel_rfl, rfl, rfl, rfl⟩, rfl⟩
theorem row71 : RowOk Try.prog 71 ⟨.fn, 1, 8, .nilFunc⟩ := ⟨⟨_, Try.underlying71, fun w => by simp [isAgg, run_underlying Try.underlying71]⟩, ⟨Try.t71, by kernel_rfl, rfl, rfl, rfl⟩, rfl⟩
theorem row72 : RowOk Try.prog 72 ⟨.fn, 1, 8, .nilFunc⟩ := ⟨⟨_, Try.underlying72, fun w => by simp [isAgg, run_underlying Try.underlying72]⟩, ⟨Try.t72, by kernel_rfl, rfl, rfl, rfl⟩, rfl⟩
theorem row73 : RowOk Try.prog 73 ⟨.fn, 1, 8, .nilFunc⟩ := ⟨⟨_, Try.underlying73, fun w => by simp [isAgg, run_underlying Try.underlying73]⟩, ⟨Try.t73, by kernel_rfl, rfl, rfl, rfl⟩, rfl⟩
theorem row74 : RowOk Try.prog 74 ⟨.fn, 1, 8, .nilFunc⟩ := ⟨⟨_, Try.underlying74, fun w => by simp [isAgg, run_underlying Try.underlying74]⟩, ⟨Try.t74, by kernel_rfl, rfl, rfl, rfl⟩, rfl⟩
theorem row75 : RowOk Try.prog 75 ⟨.fn, 1, 8, .nilFunc⟩ := ⟨⟨_, Try.underlying75, fun w => by simp [isAgg, run_underlying Try.underlying75]⟩, ⟨Try.t75, by kernel_rfl, rfl, rfl, rfl⟩, rfl⟩
theorem row76 : RowOk Try.prog 76 ⟨.slice 74, 1, 24, .slice none 0 0⟩ := ⟨Try.underlying76, ⟨Try.t76, by kernel_rfl, rfl, rfl, rfl⟩, rfl⟩
theorem row77 : RowOk Try.prog 77 ⟨.fn, 1, 8, .nilFunc⟩ := ⟨⟨_, Try.underlying77, fun w => by simp [isAgg, run_underlying Try.underlying77]⟩, ⟨Try.t77, by kernel_rfl, rfl, rfl, rfl⟩, rfl⟩
theorem row78 : RowOk Try.prog 78 ⟨.fn, 1, 8, .nilFunc⟩ := ⟨⟨_, Try.underlying78, fun w => by simp [isAgg, run_underlying Try.underlying78]⟩, ⟨Try.t78, by kernel_rfl, rfl, rfl, rfl⟩, rfl⟩
theorem row79 : RowOk Try.prog 79 ⟨.slice 82, 1, 24, .slice none 0 0⟩ := ⟨Try.underlying79, ⟨Try.t79, by kernel_rfl, rfl, rfl, rfl⟩, rfl⟩
theorem row81 : RowOk Try.prog 81 ⟨.fn, 1, 8, .nilFunc⟩ := ⟨⟨_, Try.underlying81, fun w => by simp [isAgg, run_underlying Try.underlying81]⟩, ⟨Try.t81, by kernel_rfl, rfl, rfl, rfl⟩, rfl⟩
theorem row82 : RowOk Try.prog 82 ⟨.slice 2, 1, 24, .slice none 0 0⟩ := ⟨Try.underlying82, ⟨Try.t82, by kernel_rfl, rfl, rfl, rfl⟩, rfl⟩
theorem row83 : RowOk Try.prog 83 ⟨.fn, 1, 8, .nilFunc⟩ := ⟨⟨_, Try.underlying83, fun w => by simp [isAgg, run_underlying Try.underlying83]⟩, ⟨Try.t83, by kernel_rfl, rfl, rfl, rfl⟩, rfl⟩
theorem row84 : RowOk Try.prog 84 ⟨.fn, 1, 8, .nilFunc⟩ := ⟨⟨_, Try.underlying84, fun w => by simp [isAgg, run_underlying Try.underlying84]⟩, ⟨Try.t84, by kernel_rfl, rfl, rfl, rfl⟩, rfl⟩
theorem row86 : RowOk Try.prog 86 ⟨.fn, 1, 8, .nilFunc⟩ := ⟨⟨_, Try.underlying86, fun w => by simp [isAgg, run_underlying Try.underlying86]⟩, ⟨Try.t86, by kernel_rfl, rfl, rfl, rfl⟩, rfl⟩
theorem row87 : RowOk Try.prog 87 ⟨.fn, 1, 8, .nilFunc⟩ := ⟨⟨_, Try.underlying87, fun w => by simp [isAgg, run_underlying Try.underlying87]⟩, ⟨Try.t87, by kernel_rfl, rfl, rfl, rfl⟩, rfl⟩
theorem row88 : RowOk Try.prog 88 ⟨.fn, 1, 8, .nilFunc⟩ := ⟨⟨_, Try.underlying88, fun w => by simp [isAgg, run_underlying Try.underlying88]⟩, ⟨Try.t88, by kernel_rfl, rfl, rfl, rfl⟩, rfl⟩
theorem row89 : RowOk Try.prog 89 ⟨.fn, 1, 8, .nilFunc⟩ := ⟨⟨_, Try.underlying89, fun w => by simp [isAgg, run_underlying Try.underlying89]⟩, ⟨Try.t89, by kernel_rfl, rfl, rfl, rfl⟩, rfl⟩
theorem row90 : RowOk Try.prog 90 ⟨.fn, 1, 8, .nilFunc⟩ := ⟨⟨_, Try.underlying90, fun w => by simp [isAgg, run_underlying Try.underlying90]⟩, ⟨Try.t90, by kernel_rfl, rfl, rfl, rfl⟩, rfl⟩
theorem row91 : RowOk Try.prog 91 ⟨.fn, 1, 8, .nilFunc⟩ := ⟨⟨_, Try.underlying91, fun w => by simp [isAgg, run_underlying Try.underlying91]⟩, ⟨Try.t91, by kernel_rfl, rfl, rfl, rfl⟩, rfl⟩
theorem row92 : RowOk Try.prog 92 ⟨.fn, 1, 8, .nilFunc⟩ := ⟨⟨_, Try.underlying92, fun w => by simp [isAgg, run_underlying Try.underlying92]⟩, ⟨Try.t92, by kernel_rfl, rfl, rfl, rfl⟩, rfl⟩
theorem row93 : RowOk Try.prog 93 ⟨.fn, 1, 8, .nilFunc⟩ := ⟨⟨_, Try.underlying93, fun w => by simp [isAgg, run_underlying Try.underlying93]⟩, ⟨Try.t93, by kernel_rfl, rfl, rfl, rfl⟩, rfl⟩
theorem row94 : RowOk Try.prog 94 ⟨.fn, 1, 8, .nilFunc⟩ := ⟨⟨_, Try.underlying94, fun w => by simp [isAgg, run_underlying Try.underlying94]⟩, ⟨Try.t94, by kernel_rfl, rfl, rfl, rfl⟩, rfl⟩
theorem row95 : RowOk Try.prog 95 ⟨.fn, 1, 8, .nilFunc⟩ := ⟨⟨_, Try.underlying95, fun w => by simp [isAgg, run_underlying Try.underlying95]⟩, ⟨Try.t95, by kernel_rfl, rfl, rfl, rfl⟩, rfl⟩
theorem row96 : RowOk Try.prog 96 ⟨.fn, 1, 8, .nilFunc⟩ := ⟨⟨_, Try.underlying96, fun w => by simp [isAgg, run_underlying Try.underlying96]⟩, ⟨Try.t96, by kernel_rfl, rfl, rfl, rfl⟩, rfl⟩
theorem row97 : RowOk Try.prog 97 ⟨.fn, 1, 8, .nilFunc⟩ := ⟨⟨_, Try.underlying97, fun w => by simp [isAgg, run_underlying Try.underlying97]⟩, ⟨Try.t97, by kernel_rfl, rfl, rfl, rfl⟩, rfl⟩
theorem row98 : RowOk Try.prog 98 ⟨.fn, 1, 8, .nilFunc⟩ := ⟨⟨_, Try.underlying98, fun w => by simp [isAgg, run_underlying Try.underlying98]⟩, ⟨Try.t98, by kernel_rfl, rfl, rfl, rfl⟩, rfl⟩
theorem row99 : RowOk Try.prog 99 ⟨.fn, 1, 8, .nilFunc⟩ := ⟨⟨_, Try.underlying99, fun w => by simp [isAgg, run_underlying Try.underlying99]⟩, ⟨Try.t99, by kernel_rfl, rfl, rfl, rfl⟩, rfl⟩
theorem row100 : RowOk Try.prog 100 ⟨.fn, 1, 8, .nilFunc⟩ := ⟨⟨_, Try.underlying100, fun w => by simp [isAgg, run_underlying Try.underlying100]⟩, ⟨Try.t100, by kernel_rfl, rfl, rfl, rfl⟩, rfl⟩
theorem row101 : RowOk Try.prog 101 ⟨.fn, 1, 8, .nilFunc⟩ := ⟨⟨_, Try.underlying101, fun w => by simp [isAgg, run_underlying Try.underlying101]⟩, ⟨Try.t101, by kernel_rfl, rfl, rfl, rfl⟩, rfl⟩
theorem row102 : RowOk Try.prog 102 ⟨.fn, 1, 8, .nilFunc⟩ := ⟨⟨_, Try.underlying102, fun w => by simp [isAgg, run_underlying Try.underlying102]⟩, ⟨Try.t102, by kernel_rfl, rfl, rfl, rfl⟩, rfl⟩
theorem row104 : RowOk Try.prog 104 ⟨.fn, 1, 8, .nilFunc⟩ := ⟨⟨_, Try.underlying104, fun w => by simp [isAgg, run_underlying Try.underlying104]⟩, ⟨Try.t104, by kernel_rfl, rfl, rfl, rfl⟩, rfl⟩
theorem row105 : RowOk Try.prog 105 ⟨.fn, 1, 8, .nilFunc⟩ := ⟨⟨_, Try.underlying105, fun w => by simp [isAgg, run_underlying Try.underlying105]⟩, ⟨Try.t105, by kernel_rfl, rfl, rfl, rfl⟩, rfl⟩
theorem row106 : RowOk Try.prog 106 ⟨.fn, 1, 8, .nilFunc⟩ := ⟨⟨_, Try.underlying106, fun w => by simp [isAgg, run_underlying Try.underlying106]⟩, ⟨Try.t106, by kernel_rfl, rfl, rfl, rfl⟩, rfl⟩
theorem row107 : RowOk Try.prog 107 ⟨.fn, 1, 8, .nilFunc⟩ := ⟨⟨_, Try.underlying107, fun w => by simp [isAgg, run_underlying Try.underlying107]⟩, ⟨Try.t107, by kernel_rfl, rfl, rfl, rfl⟩, rfl⟩
theorem row108 : RowOk Try.prog 108 ⟨.fn, 1, 8, .nilFunc⟩ := ⟨⟨_, Try.underlying108, fun w => by simp [isAgg, run_underlying Try.underlying108]⟩, ⟨Try.t108, by kernel_rfl, rfl, rfl, rfl⟩, rfl⟩
theorem row109 : RowOk Try.prog 109 ⟨.fn, 1, 8, .nilFunc⟩ := ⟨⟨_, Try.underlying109, fun w => by simp [isAgg, run_underlying Try.underlying109]⟩, ⟨Try.t109, by kernel_rfl, rfl, rfl, rfl⟩, rfl⟩
theorem row110 : RowOk Try.prog 110 ⟨.fn, 1, 8, .nilFunc⟩ := ⟨⟨_, Try.underlying110, fun w => by simp [isAgg, run_underlying Try.underlying110]⟩, ⟨Try.t110, by kernel_rfl, rfl, rfl, rfl⟩, rfl⟩
theorem row111 : RowOk Try.prog 111 ⟨.fn, 1, 8, .nilFunc⟩ := ⟨⟨_, Try.underlying111, fun w => by simp [isAgg, run_underlying Try.underlying111]⟩, ⟨Try.t111, by kernel_rfl, rfl, rfl, rfl⟩, rfl⟩
theorem row112 : RowOk Try.prog 112 ⟨.fn, 1, 8, .nilFunc⟩ := ⟨⟨_, Try.underlying112, fun w => by simp [isAgg, run_underlying Try.underlying112]⟩, ⟨Try.t112, by kernel_rfl, rfl, rfl, rfl⟩, rfl⟩
theorem row113 : RowOk Try.prog 113 ⟨.fn, 1, 8, .nilFunc⟩ := ⟨⟨_, Try.underlying113, fun w => by simp [isAgg, run_underlying Try.underlying113]⟩, ⟨Try.t113, by kernel_rfl, rfl, rfl, rfl⟩, rfl⟩
theorem row114 : RowOk Try.prog 114 ⟨.fn, 1, 8, .nilFunc⟩ := ⟨⟨_, Try.underlying114, fun w => by simp [isAgg, run_underlying Try.underlying114]⟩, ⟨Try.t114, by kernel_rfl, rfl, rfl, rfl⟩, rfl⟩
theorem row115 : RowOk Try.prog 115 ⟨.fn, 1, 8, .nilFunc⟩ := ⟨⟨_, Try.underlying115, fun w => by simp [isAgg, run_underlying Try.underlying115]⟩, ⟨Try.t115, by kernel_rfl, rfl, rfl, rfl⟩, rfl⟩
theorem row116 : RowOk Try.prog 116 ⟨.fn, 1, 8, .nilFunc⟩ := ⟨⟨_, Try.underlying116, fun w => by simp [isAgg, run_underlying Try.underlying116]⟩, ⟨Try.t116, by kernel_rfl, rfl, rfl, rfl⟩, rfl⟩
theorem row117 : RowOk Try.prog 117 ⟨.fn, 1, 8, .nilFunc⟩ := ⟨⟨_, Try.underlying117, fun w => by simp [isAgg, run_underlying Try.underlying117]⟩, ⟨Try.t117, by kernel_rfl, rfl, rfl, rfl⟩, rfl⟩
theorem row119 : RowOk Try.prog 119 ⟨.fn, 1, 8, .nilFunc⟩ := ⟨⟨_, Try.underlying119, fun w => by simp [isAgg, run_underlying Try.underlying119]⟩, ⟨Try.t119, by kernel_rfl, rfl, rfl, rfl⟩, rfl⟩
theorem row120 : RowOk Try.prog 120 ⟨.fn, 1, 8, .nilFunc⟩ := ⟨⟨_, Try.underlying120, fun w => by simp [isAgg, run_underlying Try.underlying120]⟩, ⟨Try.t120, by kernel_rfl, rfl, rfl, rfl⟩, rfl⟩
theorem row121 : RowOk Try.prog 121 ⟨.fn, 1, 8, .nilFunc⟩ := ⟨⟨_, Try.underlying121, fun w => by simp [isAgg, run_underlying Try.underlying121]⟩, ⟨Try.t121, by kernel_rfl, rfl, rfl, rfl⟩, rfl⟩
theorem row122 : RowOk Try.prog 122 ⟨.int .u64, 1, 8, .int .u64 0⟩ := ⟨Try.underlying122, ⟨Try.t122, by kernel_rfl, rfl, rfl, rfl⟩, rfl⟩
theorem row123 : RowOk Try.prog 123 ⟨.fn, 1, 8, .nilFunc⟩ := ⟨⟨_, Try.underlying123, fun w => by simp [isAgg, run_underlying Try.underlying123]⟩, ⟨Try.t123, by kernel_rfl, rfl, rfl, rfl⟩, rfl⟩
theorem row124 : RowOk Try.prog 124 ⟨.slice 22, 1, 24, .slice none 0 0⟩ := ⟨Try.underlying124, ⟨Try.t124, by kernel_rfl, rfl, rfl, rfl⟩, rfl⟩
theorem row125 : RowOk Try.prog 125 ⟨.fn, 1, 8, .nilFunc⟩ := ⟨⟨_, Try.underlying125, fun w => by simp [isAgg, run_underlying Try.underlying125]⟩, ⟨Try.t125, by kernel_rfl, rfl, rfl, rfl⟩, rfl⟩
theorem row127 : RowOk Try.prog 127 ⟨.fn, 1, 8, .nilFunc⟩ := ⟨⟨_, Try.underlying127, fun w => by simp [isAgg, run_underlying Try.underlying127]⟩, ⟨Try.t127, by kernel_rfl, rfl, rfl, rfl⟩, rfl⟩
theorem row128 : RowOk Try.prog 128 ⟨.fn, 1, 8, .nilFunc⟩ := ⟨⟨_, Try.underlying128, fun w => by simp [isAgg, run_underlying Try.underlying128]⟩, ⟨Try.t128, by kernel_rfl, rfl, rfl, rfl⟩, rfl⟩
theorem row129 : RowOk Try.prog 129 ⟨.fn, 1, 8, .nilFunc⟩ := ⟨⟨_, Try.underlying129, fun w => by simp [isAgg, run_underlying Try.underlying129]⟩, ⟨Try.t129, by kernel_rfl, rfl, rfl, rfl⟩, rfl⟩
theorem row130 : RowOk Try.prog 130 ⟨.fn, 1, 8, .nilFunc⟩ := ⟨⟨_, Try.underlying130, fun w => by simp [isAgg, run_underlying Try.underlying130]⟩, ⟨Try.t130, by kernel_rfl, rfl, rfl, rfl⟩, rfl⟩
theorem row131 : RowOk Try.prog 131 ⟨.fn, 1, 8, .nilFunc⟩ := ⟨⟨_, Try.underlying131, fun w => by simp [isAgg, run_underlying Try.underlying131]⟩, ⟨Try.t131, by kernel_rfl, rfl, rfl, rfl⟩, rfl⟩
theorem row132 : RowOk Try.prog 132 ⟨.fn, 1, 8, .nilFunc⟩ := ⟨⟨_, Try.underlying132, fun w => by simp [isAgg, run_underlying Try.underlying132]⟩, ⟨Try.t132, by kernel_rfl, rfl, rfl, rfl⟩, rfl⟩
theorem row133 : RowOk Try.prog 133 ⟨.fn, 1, 8, .nilFunc⟩ := ⟨⟨_, Try.underlying133, fun w => by simp [isAgg, run_underlying Try.underlying133]⟩, ⟨Try.t133, by kernel_rfl, rfl, rfl, rfl⟩, rfl⟩
theorem row134 : RowOk Try.prog 134 ⟨.int .u32, 1, 4, .int .u32 0⟩ := ⟨Try.underlying134, ⟨Try.t134, by kernel_rfl, rfl, rfl, rfl⟩, rfl⟩
theorem row135 : RowOk Try.prog 135 ⟨.fn, 1, 8, .nilFunc⟩ := ⟨⟨_, Try.underlying135, fun w => by simp [isAgg, run_underlying Try.underlying135]⟩, ⟨Try.t135, by kernel_rfl, rfl, rfl, rfl⟩, rfl⟩
theorem row136 : RowOk Try.prog 136 ⟨.int .u64, 1, 8, .int .u64 0⟩ := ⟨Try.underlying136, ⟨Try.t136, by kernel_rfl, rfl, rfl, rfl⟩, rfl⟩
theorem row137 : RowOk Try.prog 137 ⟨.fn, 1, 8, .nilFunc⟩ := ⟨⟨_, Try.underlying137, fun w => by simp [isAgg, run_underlying Try.underlying137]⟩, ⟨Try.t137, by kernel_rfl, rfl, rfl, rfl⟩, rfl⟩
theorem row138 : RowOk Try.prog 138 ⟨.fn, 1, 8, .nilFunc⟩ := ⟨⟨_, Try.underlying138, fun w => by simp [isAgg, run_underlying Try.underlying138]⟩, ⟨Try.t138, by kernel_rfl, rfl, rfl, rfl⟩, rfl⟩
theorem row139 : RowOk Try.prog 139 ⟨.fn, 1, 8, .nilFunc⟩ := ⟨⟨_, Try.underlying139, fun w => by simp [isAgg, run_underlying Try.underlying139]⟩, ⟨Try.t139, by kernel_rfl, rfl, rfl, rfl⟩, rfl⟩
theorem row140 : RowOk Try.prog 140 ⟨.int .i64, 1, 8, .int .i64 0⟩ := ⟨Try.underlying140, ⟨Try.t140, by kernel_rfl, rfl, rfl, rfl⟩, rfl⟩
theorem row142 : RowOk Try.prog 142 ⟨.fn, 1, 8, .nilFunc⟩ := ⟨⟨_, Try.underlying142, fun w => by simp [isAgg, run_underlying Try.underlying142]⟩, ⟨Try.t142, by kernel_rfl, rfl, rfl, rfl⟩, rfl⟩
theorem row143 : RowOk Try.prog 143 ⟨.fn, 1, 8, .nilFunc⟩ := ⟨⟨_, Try.underlying143, fun w => by simp [isAgg, run_underlying Try.underlying143]⟩, ⟨Try.t143, by kernel_rfl, rfl, rfl, rfl⟩, rfl⟩
theorem row144 : RowOk Try.prog 144 ⟨.fn, 1, 8, .nilFunc⟩ := ⟨⟨_, Try.underlying144, fun w => by simp [isAgg, run_underlying Try.underlying144]⟩, ⟨Try.t144, by kernel_rfl, rfl, rfl, rfl⟩, rfl⟩
theorem row145 : RowOk Try.prog 145 ⟨.int .u64, 1, 8, .int .u64 0⟩ := ⟨Try.underlying145, ⟨Try.t145, by kernel_rfl, rfl, rfl, rfl⟩, rfl⟩
theorem row146 : RowOk Try.prog 146 ⟨.fn, 1, 8, .nilFunc⟩ := ⟨⟨_, Try.underlying146, fun w => by simp [isAgg, run_underlying Try.underlying146]⟩, ⟨Try.t146, by kernel_rfl, rfl, rfl, rfl⟩, rfl⟩
theorem row147 : RowOk Try.prog 147 ⟨.fn, 1, 8, .nilFunc⟩ := ⟨⟨_, Try.underlying147, fun w => by simp [isAgg, run_underlying Try.underlying147]⟩, ⟨Try.t147, by kernel_rfl, rfl, rfl, rfl⟩, rfl⟩
theorem row148 : RowOk Try.prog 148 ⟨.fn, 1, 8, .nilFunc⟩ := ⟨⟨_, Try.underlying148, fun w => by simp [isAgg, run_underlying Try.underlying148]⟩, ⟨Try.t148, by kernel_rfl, rfl, rfl, rfl⟩, rfl⟩
theorem row150 : RowOk Try.prog 150 ⟨.fn, 1, 8, .nilFunc⟩ := ⟨⟨_, Try.underlying150, fun w => by simp [isAgg, run_underlying Try.underlying150]⟩, ⟨Try.t150, by kernel_rfl, rfl, rfl, rfl⟩, rfl⟩
theorem row153 : RowOk Try.prog 153 ⟨.fn, 1, 8, .nilFunc⟩ := ⟨⟨_, Try.underlying153, fun w => by simp [isAgg, run_underlying Try.underlying153]⟩, ⟨Try.t153, by kernel_rfl, rfl, rfl, rfl⟩, rfl⟩
theorem row154 : RowOk Try.prog 154 ⟨.fn, 1, 8, .nilFunc⟩ := ⟨⟨_, Try.underlying154, fun w => by simp [isAgg, run_underlying Try.underlying154]⟩, ⟨Try.t154, by kernel_rfl, rfl, rfl, rfl⟩, rfl⟩
theorem row155 : RowOk Try.prog 155 ⟨.struct [(0, 17), (1, 17), (2, 17), (3, 9)], 4, 40, .agg #[.pointer none, .pointer none, .pointer none, .string ⟨#[]⟩]⟩ := ⟨⟨_, Try.underlying155, rfl⟩, ⟨Try.t155, by kernel_rfl, rfl, rfl, rfl⟩⟩
theorem row156 : RowOk Try.prog 156 ⟨.struct [(0, 17), (1, 17), (2, 17), (3, 9)], 4, 40, .agg #[.pointer none, .pointer none, .pointer none, .string ⟨#[]⟩]⟩ := ⟨⟨_, Try.underlying156, rfl⟩, ⟨Try.t156, by kernel_rfl, rfl, rfl, rfl⟩⟩
theorem row158 : RowOk Try.prog 158 ⟨.struct [(0, 157)], 0, 0, .agg #[]⟩ := ⟨⟨_, Try.underlying158, rfl⟩, ⟨Try.t158, by kernel_rfl, rfl, rfl, rfl⟩⟩
theorem row159 : RowOk Try.prog 159 ⟨.struct [(0, 157)], 0, 0, .agg #[]⟩ := ⟨⟨_, Try.underlying159, rfl⟩, ⟨Try.t159, by kernel_rfl, rfl, rfl, rfl⟩⟩
theorem row160 : RowOk Try.prog 160 ⟨.fn, 1, 8, .nilFunc⟩ := ⟨⟨_, Try.underlying160, fun w => by simp [isAgg, run_underlying Try.underlying160]⟩, ⟨Try.t160, by kernel_rfl, rfl, rfl, rfl⟩, rfl⟩
theorem row161 : RowOk Try.prog 161 ⟨.int .u8, 1, 1, .int .u8 0⟩ := ⟨Try.underlying161, ⟨Try.t161, by kernel_rfl, rfl, rfl, rfl⟩, rfl⟩
theorem row162 : RowOk Try.prog 162 ⟨.int .u8, 1, 1, .int .u8 0⟩ := ⟨Try.underlying162, ⟨Try.t162, by kernel_rfl, rfl, rfl, rfl⟩, rfl⟩
theorem row163 : RowOk Try.prog 163 ⟨.fn, 1, 8, .nilFunc⟩ := ⟨⟨_, Try.underlying163, fun w => by simp [isAgg, run_underlying Try.underlying163]⟩, ⟨Try.t163, by kernel_rfl, rfl, rfl, rfl⟩, rfl⟩
theorem row165 : RowOk Try.prog 165 ⟨.int .i32, 1, 4, .int .i32 0⟩ := ⟨Try.underlying165, ⟨Try.t165, by kernel_rfl, rfl, rfl, rfl⟩, rfl⟩
theorem row166 : RowOk Try.prog 166 ⟨.int .i32, 1, 4, .int .i32 0⟩ := ⟨Try.underlying166, ⟨Try.t166, by kernel_rfl, rfl, rfl, rfl⟩, rfl⟩
theorem row167 : RowOk Try.prog 167 ⟨.struct [(0, 12), (1, 12), (2, 134), (3, 161), (4, 5), (5, 5), (6, 162), (7, 163), (8, 164), (9, 165), (10, 166)], 11, 48, .agg #[.int .u64 0, .int .u64 0, .int .u32 0, .int .u8 0, .int .u8 0, .int .u8 0, .int .u8 0, .nilFunc, .pointer none, .int .i32 0, .int .i32 0]⟩ := ⟨⟨_, Try.underlying167, rfl⟩, ⟨Try.t167, by kernel_rfl, rfl, rfl, rfl⟩⟩
theorem row168 : RowOk Try.prog 168 ⟨.struct [(0, 12), (1, 12), (2, 134), (3, 161), (4, 5), (5, 5), (6, 162), (7, 163), (8, 164), (9, 165), (10, 166)], 11, 48, .agg #[.int .u64 0, .int .u64 0, .int .u32 0, .int .u8 0, .int .u8 0, .int .u8 0, .int .u8 0, .nilFunc, .pointer none, .int .i32 0, .int .i32 0]⟩ := ⟨⟨_, Try.underlying168, rfl⟩, ⟨Try.t168, by kernel_rfl, rfl, rfl, rfl⟩⟩
set_option maxRecDepth 100000 in
theorem tab_ok : TabOk Try.prog tab := by
  intro t
  unfold tab
  split
  · exact row1
  · exact row2
  · exact row3
  · exact row4
  · exact row5
  · exact row6
  · exact row7
  · exact row8
  · exact row9
  · exact row10
  · exact row11
  · exact row12
  · exact row13
  · exact row14
  · exact row18
  · exact row19
  · exact row21
  · exact row22
  · exact row23
  · exact row24
  · exact row25
  · exact row27
  · exact row28
  · exact row29
  · exact row31
  · exact row32
  · exact row33
  · exact row34
  · exact row35
  · exact row36
  · exact row37
  · exact row38
  · exact row39
  · exact row40
  · exact row41
  · exact row42
  · exact row43
  · exact row44
  · exact row45
  · exact row46
  · exact row47
  · exact row48
  · exact row49
  · exact row50
  · exact row52
  · exact row53
  · exact row54
  · exact row55
  · exact row56
  · exact row57
  · exact row58
  · exact row59
  · exact row60
  · exact row61
  · exact row62
  · exact row63
  · exact row65
  · exact row66
  · exact row67
  · exact row68
  · exact row69
  · exact row71
  · exact row72
  · exact row73
  · exact row74
  · exact row75
  · exact row76
  · exact row77
  · exact row78
  · exact row79
  · exact row81
  · exact row82
  · exact row83
  · exact row84
  · exact row86
  · exact row87
  · exact row88
  · exact row89
  · exact row90
  · exact row91
  · exact row92
  · exact row93
  · exact row94
  · exact row95
  · exact row96
  · exact row97
  · exact row98
  · exact row99
  · exact row100
  · exact row101
  · exact row102
  · exact row104
  · exact row105
  · exact row106
  · exact row107
  · exact row108
  · exact row109
  · exact row110
  · exact row111
  · exact row112
  · exact row113
  · exact row114
  · exact row115
  · exact row116
  · exact row117
  · exact row119
  · exact row120
  · exact row121
  · exact row122
  · exact row123
  · exact row124
  · exact row125
  · exact row127
  · exact row128
  · exact row129
  · exact row130
  · exact row131
  · exact row132
  · exact row133
  · exact row134
  · exact row135
  · exact row136
  · exact row137
  · exact row138
  · exact row139
  · exact row140
  · exact row142
  · exact row143
  · exact row144
  · exact row145
  · exact row146
  · exact row147
  · exact row148
  · exact row150
  · exact row153
  · exact row154
  · exact row155
  · exact row156
  · exact row158
  · exact row159
  · exact row160
  · exact row161
  · exact row162
  · exact row163
  · exact row165
  · exact row166
  · exact row167
  · exact row168
  · exact trivial
theorem mixed : Try.prog.follows .mixedOrders = true := by kernel_rfl
attribute [go_sem] tab1 tab2 tab3 tab4 tab5 tab6 tab7 tab8 tab9 tab10 tab11 tab12 tab13 tab14 tab18 tab19 tab21 tab22 tab23 tab24 tab25 tab27 tab28 tab29 tab31 tab32 tab33 tab34 tab35 tab36 tab37 tab38 tab39 tab40 tab41 tab42 tab43 tab44 tab45 tab46 tab47 tab48 tab49 tab50 tab52 tab53 tab54 tab55 tab56 tab57 tab58 tab59 tab60 tab61 tab62 tab63 tab65 tab66 tab67 tab68 tab69 tab71 tab72 tab73 tab74 tab75 tab76 tab77 tab78 tab79 tab81 tab82 tab83 tab84 tab86 tab87 tab88 tab89 tab90 tab91 tab92 tab93 tab94 tab95 tab96 tab97 tab98 tab99 tab100 tab101 tab102 tab104 tab105 tab106 tab107 tab108 tab109 tab110 tab111 tab112 tab113 tab114 tab115 tab116 tab117 tab119 tab120 tab121 tab122 tab123 tab124 tab125 tab127 tab128 tab129 tab130 tab131 tab132 tab133 tab134 tab135 tab136 tab137 tab138 tab139 tab140 tab142 tab143 tab144 tab145 tab146 tab147 tab148 tab150 tab153 tab154 tab155 tab156 tab158 tab159 tab160 tab161 tab162 tab163 tab165 tab166 tab167 tab168
end Go.AX.Try
