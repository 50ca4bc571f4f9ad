/-
  Plain functions of the program, computed. By a program of mine (ev.py). Conditions: none.
-/
import Derived.Test.YtabhcjpjoknihaaEV
import Derived.Test.YtabhcjpjoknihaaSp
set_option linter.unusedVariables false
set_option linter.unusedSimpArgs false
namespace Go.SH
open Go Go.AX

def kinds_CheckGraph_E (g_0 : Int) (g_1 : List (Int × Int)) : Option (Int) :=
  if ((g_0 < 1 ∨ 7 < g_0) ∨ 8 < (g_1.length : Int)) then
  some 1
 else
  (loopE (ρ := Unit ⊕ Int) (fun (v : Int) =>
  if v < (g_1.length : Int) then
  chk ((0 ≤ v ∧ v < g_1.length)) <|
  if ((((g_1.getD v.toNat (0, 0)).1 < 0 ∨ (g_1.getD v.toNat (0, 0)).2 < 0) ∨ g_0 ≤ (g_1.getD v.toNat (0, 0)).1) ∨ g_0 ≤ (g_1.getD v.toNat (0, 0)).2) then
  some (.inr (.inr 1))
 else
  some (.inl (v + 1))
 else
  some (.inr (.inl ()))) 0).bindE fun z => match z with
  | .inl _ => (some 0)
  | .inr rr => some rr

theorem E_kinds_CheckGraph (g_0 : Int) (g_1 : List (Int × Int)) : Le (kinds_CheckGraph_E g_0 g_1) (kinds_CheckGraph g_0 g_1) := by
  unfold kinds_CheckGraph_E kinds_CheckGraph
  repeat' (first
    | assumption
    | with_reducible exact le_rfl _
    | exact le_rfl _
    | apply le_bind
    | apply le_chk
    | apply le_ite
    | apply le_join
    | apply le_loop
    | dsimp only
    | (intro (x : _ × _); obtain ⟨_, _⟩ := x)
    | (intro (x : _ ⊕ _); cases x)
    | intro _
    | split)

def kinds_forest_1_E (v : Int) (c0 : List Int) : Option (Int) :=
  (loopE (ρ := Int) (fun (v1 : Int) =>
  chk ((0 ≤ v1 ∧ v1 < c0.length)) <|
  if c0.getD v1.toNat 0 ≠ v1 then
  chk ((0 ≤ v1 ∧ v1 < c0.length)) <|
  some (.inl (c0.getD v1.toNat 0))
 else
  some (.inr v1)) v).bindE fun (v2 : Int) =>
  some v2

theorem E_kinds_forest_1 (v : Int) (c0 : List Int) : Le (kinds_forest_1_E v c0) (kinds_forest_1 v c0) := by
  unfold kinds_forest_1_E kinds_forest_1
  repeat' (first
    | assumption
    | with_reducible exact le_rfl _
    | exact le_rfl _
    | apply le_bind
    | apply le_chk
    | apply le_ite
    | apply le_join
    | apply le_loop
    | dsimp only
    | (intro (x : _ × _); obtain ⟨_, _⟩ := x)
    | (intro (x : _ ⊕ _); cases x)
    | intro _
    | split)

def kinds_forest_E (g_0 : Int) (g_1 : List (Int × Int)) (s : Int) : Option (Bool) :=
  chk ((0 ≤ g_0 ∧ g_0 ≤ 1099511627776)) <|
  (loopE (ρ := List Int) (fun ((root, v) : List Int × Int) =>
  if v < ((List.replicate g_0.toNat 0).length : Int) then
  chk ((0 ≤ v ∧ v < root.length)) <|
  some (.inl (root.set v.toNat v, v + 1))
 else
  some (.inr root)) (List.replicate g_0.toNat 0, 0)).bindE fun (root1 : List Int) =>
  (loopE (ρ := Unit ⊕ Bool) (fun ((root2, v1) : List Int × Int) =>
  if v1 < (g_1.length : Int) then
  chk ((0 ≤ v1 ∧ v1 < g_1.length)) <|
  chk (0 ≤ v1) <|
  if iand (s / 2 ^ v1.toNat) 1 = 0 then
  some (.inl (root2, v1 + 1))
 else
  (kinds_forest_1_E ((g_1.getD v1.toNat (0, 0)).1) root2).bindE fun y =>
  (kinds_forest_1_E ((g_1.getD v1.toNat (0, 0)).2) root2).bindE fun y1 =>
  if y = y1 then
  some (.inr (.inr false))
 else
  chk ((0 ≤ y ∧ y < root2.length)) <|
  some (.inl (root2.set y.toNat y1, v1 + 1))
 else
  some (.inr (.inl ()))) (root1, 0)).bindE fun z => match z with
  | .inl _ => (some true)
  | .inr rr => some rr

theorem E_kinds_forest (g_0 : Int) (g_1 : List (Int × Int)) (s : Int) : Le (kinds_forest_E g_0 g_1 s) (kinds_forest g_0 g_1 s) := by
  unfold kinds_forest_E kinds_forest
  repeat' (first
    | assumption
    | with_reducible exact le_rfl _
    | exact E_kinds_forest_1 ..
    | apply le_bind
    | apply le_chk
    | apply le_ite
    | apply le_join
    | apply le_loop
    | dsimp only
    | (intro (x : _ × _); obtain ⟨_, _⟩ := x)
    | (intro (x : _ ⊕ _); cases x)
    | intro _
    | split)

def kinds_Graphic_1_E (s : Int) (c0_0 : Int) (c0_1 : List (Int × Int)) : Option (Bool) :=
  (kinds_forest_E c0_0 c0_1 s).bindE fun y =>
  some y

theorem E_kinds_Graphic_1 (s : Int) (c0_0 : Int) (c0_1 : List (Int × Int)) : Le (kinds_Graphic_1_E s c0_0 c0_1) (kinds_Graphic_1 s c0_0 c0_1) := by
  unfold kinds_Graphic_1_E kinds_Graphic_1
  repeat' (first
    | assumption
    | with_reducible exact le_rfl _
    | exact E_kinds_forest ..
    | apply le_bind
    | apply le_chk
    | apply le_ite
    | apply le_join
    | apply le_loop
    | dsimp only
    | (intro (x : _ × _); obtain ⟨_, _⟩ := x)
    | (intro (x : _ ⊕ _); cases x)
    | intro _
    | split)

def kinds_size_E (s : Int) : Option (Int) :=
  chk ((0 ≤ (s : Int) ∧ (s : Int) ≤ 18446744073709551615)) <|
  (bits_OnesCount s).bindE fun y =>
  some y

theorem E_kinds_size (s : Int) : Le (kinds_size_E s) (kinds_size s) := by
  unfold kinds_size_E kinds_size
  repeat' (first
    | assumption
    | with_reducible exact le_rfl _
    | exact le_rfl _
    | apply le_bind
    | apply le_chk
    | apply le_ite
    | apply le_join
    | apply le_loop
    | dsimp only
    | (intro (x : _ × _); obtain ⟨_, _⟩ := x)
    | (intro (x : _ ⊕ _); cases x)
    | intro _
    | split)

def kinds_greatest_E (n : Int) (independent : Int → Option (Bool)) : Option (Int × List Int) :=
  chk ((0 ≤ n ∧ n ≤ 62)) <|
  (loopE (ρ := List Int) (fun ((m, most, v) : List Int × Int × Int) =>
  if v < (2 ^ n.toNat : Int) then
  (kinds_size_E v).bindE fun y =>
  if ¬ (y < most) then
  (independent v).bindE fun y1 =>
  if ¬ (y1 = true) then
  some (.inl (m, most, v + 1))
 else
  (kinds_size_E v).bindE fun y2 =>
  if most < y2 then
  (kinds_size_E v).bindE fun y3 =>
  chk (([v].length ≤ 8796093022208)) <|
  some (.inl ([v], y3, v + 1))
 else
  chk (((m ++ [v]).length ≤ 8796093022208)) <|
  some (.inl (m ++ [v], most, v + 1))
 else
  some (.inl (m, most, v + 1))
 else
  some (.inr m)) ([], (-1), 0)).bindE fun (m1 : List Int) =>
  some (n, m1)

theorem E_kinds_greatest (n : Int) (independent : Int → Option (Bool)) (independent' : Int → Option (Bool)) (h_independent : ∀ a0, Le (independent a0) (independent' a0)) : Le (kinds_greatest_E n independent) (kinds_greatest n independent') := by
  unfold kinds_greatest_E kinds_greatest
  repeat' (first
    | assumption
    | with_reducible exact le_rfl _
    | exact E_kinds_size ..
    | apply h_independent
    | apply le_bind
    | apply le_chk
    | apply le_ite
    | apply le_join
    | apply le_loop
    | dsimp only
    | (intro (x : _ × _); obtain ⟨_, _⟩ := x)
    | (intro (x : _ ⊕ _); cases x)
    | intro _
    | split)

def kinds_Graphic_E (g_0 : Int) (g_1 : List (Int × Int)) : Option (Int × List Int × Int) :=
  (kinds_CheckGraph_E g_0 g_1).bindE fun y =>
  if y ≠ 0 then
  some (0, [], y)
 else
  (kinds_greatest_E (g_1.length : Int) (fun x0 => kinds_Graphic_1_E x0 g_0 g_1)).bindE fun y1 =>
  some (y1.1, y1.2, 0)

theorem E_kinds_Graphic (g_0 : Int) (g_1 : List (Int × Int)) : Le (kinds_Graphic_E g_0 g_1) (kinds_Graphic g_0 g_1) := by
  unfold kinds_Graphic_E kinds_Graphic
  repeat' (first
    | assumption
    | with_reducible exact le_rfl _
    | exact E_kinds_CheckGraph ..
    | exact E_kinds_Graphic_1 ..
    | apply E_kinds_greatest
    | apply le_bind
    | apply le_chk
    | apply le_ite
    | apply le_join
    | apply le_loop
    | dsimp only
    | (intro (x : _ × _); obtain ⟨_, _⟩ := x)
    | (intro (x : _ ⊕ _); cases x)
    | intro _
    | split)

end Go.SH
