/-
  Functions of the program as plain functions: bits_OnesCount. By a program of mine (shal.py). Conditions: none.
-/
import Derived.Test.YtdhbpoafkhojnaaAxN
set_option linter.unusedVariables false
set_option linter.unusedSimpArgs false
namespace Go.SH
open Go Go.AX

def oc1 (x : Int) : Int := iand (x / 2 ^ 1) 6148914691236517205 + iand x 6148914691236517205
def oc2 (x : Int) : Int := iand (x / 2 ^ 2) 3689348814741910323 + iand x 3689348814741910323
def oc3 (x : Int) : Int := iand (x / 2 ^ 4 + x) 1085102592571150095
def oc4 (x : Int) : Int := x + x / 2 ^ 8
def oc5 (x : Int) : Int := x + x / 2 ^ 16
def oc6 (x : Int) : Int := x + x / 2 ^ 32
/-- How many bits stand. -/
def oc (x : Int) : Int := iand (oc6 (oc5 (oc4 (oc3 (oc2 (oc1 x)))))) 127
theorem oc1_bd {x : Int} (h : 0 ≤ x) : 0 ≤ oc1 x ∧ oc1 x ≤ 12297829382473034410 := by
  unfold oc1
  have h1 := iand_bd (a := x / 2 ^ 1) (b := 6148914691236517205) (by omega) (by omega)
  have h2 := iand_bd (a := x) (b := 6148914691236517205) (by omega) (by omega)
  omega
theorem oc2_bd {x : Int} (h : 0 ≤ x) : 0 ≤ oc2 x ∧ oc2 x ≤ 7378697629483820646 := by
  unfold oc2
  have h1 := iand_bd (a := x / 2 ^ 2) (b := 3689348814741910323) (by omega) (by omega)
  have h2 := iand_bd (a := x) (b := 3689348814741910323) (by omega) (by omega)
  omega
theorem oc3_bd {x : Int} (h : 0 ≤ x) : 0 ≤ oc3 x ∧ oc3 x ≤ 1085102592571150095 := by
  unfold oc3
  have h1 := iand_bd (a := x / 2 ^ 4 + x) (b := 1085102592571150095) (by omega) (by omega)
  omega
theorem oc4_bd {x : Int} (h : 0 ≤ x) (h' : x ≤ 1085102592571150095) : 0 ≤ oc4 x ∧ oc4 x ≤ 2170205185142300190 := by unfold oc4; omega
theorem oc5_bd {x : Int} (h : 0 ≤ x) (h' : x ≤ 2170205185142300190) : 0 ≤ oc5 x ∧ oc5 x ≤ 4340410370284600380 := by unfold oc5; omega
theorem oc6_bd {x : Int} (h : 0 ≤ x) (h' : x ≤ 4340410370284600380) : 0 ≤ oc6 x ∧ oc6 x ≤ 8680820740569200760 := by unfold oc6; omega
theorem oc_bd {x : Int} (h : 0 ≤ x) : 0 ≤ oc x ∧ oc x ≤ 127 := by
  have h1 := oc1_bd h
  have h2 := oc2_bd h1.1
  have h3 := oc3_bd h2.1
  have h4 := oc4_bd h3.1 h3.2
  have h5 := oc5_bd h4.1 h4.2
  have h6 := oc6_bd h5.1 h5.2
  have := iand_bd (a := oc6 (oc5 (oc4 (oc3 (oc2 (oc1 x)))))) (b := 127) h6.1 (by omega)
  exact ⟨this.1, this.2.2⟩
/-- bits.OnesCount. -/
def bits_OnesCount (x : Int) : Option Int := some (oc x)

end Go.SH
