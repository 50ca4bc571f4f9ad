/-
 Lists of rows of the call's own: rows taken in, exchanged, written no more. Conditions: none.
-/
import Derived.Test.YtlpikingpnenkaaAxGc
set_option linter.unusedSimpArgs false
set_option linter.unusedVariables false
namespace Go.AX
open Go Go.RowKit
/-- Each row at its own place. -/
def idO (i : Nat) : Option Nat := some i
def lenO (X : List (List Int)) (i : Nat) : Nat := (X.getD i []).length
theorem rowV_id (rid i l : Nat) : rowV rid (idO i) l = .row rid i l := rfl
theorem lenO_at (X : List (List Int)) (i : Nat) : lenO X i = (X.getD i []).length := rfl
theorem lenO_set (X : List (List Int)) (i j : Nat) (v : Int) : lenO (X.set i ((X.getD i []).set j v)) = lenO X := by
 funext m
 unfold lenO
 rw [List.getD_eq_getElem?_getD, List.getD_eq_getElem?_getD, List.getElem?_set]
 split
 ·rename_i e
  subst e
  split
  ·rename_i h; rw [List.getElem?_eq_getElem h]; simp [List.getD_eq_getElem?_getD, h]
  ·rename_i h; rw [List.getD_eq_getElem?_getD, List.getElem?_eq_none (by omega)]
 ·rfl
theorem lenO_app (X : List (List Int)) (r : List Int) : (fun m => if m = X.length then r.length else lenO X m) = lenO (X ++ [r]) := by
 funext m
 unfold lenO
 simp only [List.getD_eq_getElem?_getD]
 split
 ·rename_i e; subst e; simp
 ·rename_i e
  rcases Nat.lt_or_ge m X.length with c | c
  ·rw [List.getElem?_append_left c]
  ·rw [List.getElem?_eq_none (show X.length ≤ m by omega), List.getElem?_eq_none (by simp; omega)]
theorem set_getD_len (X : List (List Int)) (i j : Nat) (v : Int) (m : Nat) : ((X.set i ((X.getD i []).set j v)).getD m []).length = (X.getD m []).length := by
 have := congrFun (lenO_set X i j v) m
 exact this
attribute [go_sem] rowV_id lenO_at lenO_set set_getD_len
section
variable {P : Program} {w0 : World} {F : Fz} {φ : Phi}
/-- The same, said otherwise. -/
def GS (w0 : World) (st st' : St) : Prop := ∀ F φ a w, Rel F φ w0 st a w → ∃ F' φ', FLn w0 F F' ∧ Rel F' φ' w0 st' a w
theorem AWP_gs {c : Code} {Q : Exit → St → Prop} {st st' : St} (hg : GS w0 st st') (h : AWP P w0 c Q st') : AWP P w0 c Q st := fun F φ a w hr => by
 obtain ⟨F', φ', hle, hr'⟩ := hg F φ a w hr
 exact wp_mono (h F' φ' a w hr') fun e a' w' hq => hq.le hle
theorem AWPL_gs {all : Array Oper} {Q : Exit → St → Prop} {l : List Oper} {st st' : St} (hg : GS w0 st st') (h : AWPL P w0 all Q l st') : AWPL P w0 all Q l st := fun F φ a w hr => by
 obtain ⟨F', φ', hle, hr'⟩ := hg F φ a w hr
 exact wpList_monoQ (fun e a' w' hq => hq.le hle) (h F' φ' a w hr')
theorem AWP_gs' {c : Code} {Q : Exit → St → Prop} {st st1 : St} (hg : GS w0 st st1) (h : ∀ st', st1 = st' → AWP P w0 c Q st') : AWP P w0 c Q st := AWP_gs hg (h _ rfl)
theorem AWPL_gs' {all : Array Oper} {Q : Exit → St → Prop} {l : List Oper} {st st1 : St} (hg : GS w0 st st1) (h : ∀ st', st1 = st' → AWPL P w0 all Q l st') : AWPL P w0 all Q l st := AWPL_gs hg (h _ rfl)
/-- Where rows have been added at the end. -/
def PExt (φ φ' : Phi) : Prop := ∀ id, φ' id = φ id ∨ ∃ gs et e, φ id = .rows gs et ∧ φ' id = .rows (gs ++ e) et
theorem ext_at {φ φ' : Phi} (h : PExt φ φ') {id g c s : Nat} {t : TypeId} (e : φ id = .at g c s t) : φ' id = .at g c s t := by
 rcases h id with q | ⟨gs, et, x, q, _⟩
 ·rw [q, e]
 ·rw [q] at e; cases e
theorem ext_rows {φ φ' : Phi} (h : PExt φ φ') {id : Nat} {gs : List (Option (Nat × Nat))} {et : TypeId} (e : φ id = .rows gs et) : ∃ x, φ' id = .rows (gs ++ x) et := by
 rcases h id with q | ⟨gs', et', x, q, q2⟩
 ·exact ⟨[], by rw [q, e, List.append_nil]⟩
 ·rw [q] at e; injection e with e1 e2; subst e1 e2; exact ⟨x, q2⟩
theorem RepV.ext {F F' : Fz} (hF : FLe F F') {φ : Phi} {x : AVal} {v : Value} (h : RepV F φ x v) : ∀ {φ' : Phi}, PExt φ φ' → RepV F' φ' x v := by
 have get : ∀ {gs x : List (Option (Nat × Nat))} {i : Nat} {o : Option (Nat × Nat)}, gs[i]? = some o → (gs ++ x)[i]? = some o := fun {gs x i o} h => by
  rw [List.getElem?_append_left (List.getElem?_eq_some_iff.1 h).1]; exact h
 induction h with
 | junk v => exact fun _ => .junk _
 | int k n h1 h2 => exact fun _ => .int k n h1 h2
 | bool b => exact fun _ => .bool b
 | str s l h h' => exact fun _ => .str s l h h'
 | nil => exact fun _ => .nil
 | agg l vs hl h1 _ ih => exact fun hφ => .agg l vs hl h1 fun i x v a b => ih i x v a b hφ
 | tup l vs hl _ ih => exact fun hφ => .tup l vs hl fun i x v a b => ih i x v a b hφ
 | imm sz es A n c u h1 h2 h3 h4 h5 h6 h7 _ => exact fun _ => (RepV.imm (φ := φ0) sz es A n c u h1 h2 h3 h4 h5 h6 h7).le hF (PLe0 _)
 | immp es ad u h1 h2 _ => exact fun _ => (RepV.immp (φ := φ0) es ad u h1 h2).le hF (PLe0 _)
 | own id n g cap sz et h1 h2 h3 => exact fun hφ => .own id n g cap sz et (ext_at hφ h1) h2 h3
 | ownNil id h1 =>
  intro φ' hφ
  rcases hφ id with q | ⟨gs, et, x, q, _⟩
  ·exact .ownNil id (by rw [q, h1])
  ·rw [q] at h1; cases h1
 | ptr id i j g cap sz et h1 => exact fun hφ => .ptr id i j g cap sz et (ext_at hφ h1)
 | func f caps vs hl _ ih => exact fun hφ => .func f caps vs hl fun i x v a b => ih i x v a b hφ
 | opt b x v _ h2 ih => exact fun hφ => .opt b x v (fun hb => ih hb hφ) h2
 | ints k xs v _ ih => exact fun hφ => .ints k xs v (ih hφ)
 | intp k n v _ ih => exact fun hφ => .intp k n v (ih hφ)
 | fn sz n f v _ ih => exact fun hφ => .fn sz n f v (ih hφ)
 | ownN id n g cap sz et h1 h2 h3 => exact fun hφ => .ownN id n g cap sz et (ext_at hφ h1) h2 h3
 | abs g cap sz et i j => exact fun _ => .abs g cap sz et i j
 | mp id g h1 =>
  intro φ' hφ
  rcases hφ id with q | ⟨gs, et, x, q, _⟩
  ·exact .mp id g (by rw [q, h1])
  ·rw [q] at h1; cases h1
 | row id i n g c gs et h1 h2 h3 h4 =>
  intro φ' hφ
  obtain ⟨x, hx⟩ := ext_rows hφ h1
  exact .row id i n g c _ et hx (get h2) h3 h4
 | rowNil id i gs et h1 h2 =>
  intro φ' hφ
  obtain ⟨x, hx⟩ := ext_rows hφ h1
  exact .rowNil id i _ et hx (get h2)
 | rowp id i j g c gs et h1 h2 =>
  intro φ' hφ
  obtain ⟨x, hx⟩ := ext_rows hφ h1
  exact .rowp id i j g c _ et hx (get h2)
/-- No place's name speaks of it. -/
def noPin (H : List (Option Blk)) (r : Nat) : Bool := H.all fun b => match b with | some (.pin i _) => decide (i ≠ r) | _ => true
theorem noPin_ne {H : List (Option Blk)} {r j i : Nat} {l : Loc} (h : noPin H r = true) (hj : H[j]? = some (some (.pin i l))) : i ≠ r := by
 have := List.all_eq_true.1 h _ (List.mem_of_getElem? hj)
 simpa using this
/-- A row of the call's own becomes one of a list of rows. -/
theorem gs_adopt (d rid : Nat) {j n : Nat} {et : TypeId} {k : IntKind} {X : List (List Int)} {xs : List Int} {st : St} (hs : look st.s d = .own j n) (hn : n = xs.length) (hj : st.h[j]? = some (some (.ints et k xs))) (hr : st.h[rid]? = some (some (.rows et k X))) (hp : noPin st.h rid = true) :
  GS w0 st ⟨st.n, putL st.s d (.row rid X.length xs.length), (st.h.set j none).set rid (some (.rows et k (X ++ [xs])))⟩ := by
 intro F φ a w h
 have hne : j ≠ rid := fun e => by subst e; rw [hj] at hr; cases hr
 have hrl := Blk.ext_lt hr
 have hjl := Blk.ext_lt hj
 obtain ⟨gs, q, q1, q2, q4, q3⟩ := (h.heap.blk rid _ hr).rowsX
 -- what lies at the row's place
 obtain ⟨e, he1, he2⟩ : ∃ e : Option (Nat × Nat), (e = none → φ j = .nils ∧ xs = []) ∧ (∀ p, e = some p → (φ j).occ p.1 ∧ φ j = .at p.1 p.2 1 et ∧ w0.heap.size ≤ p.1 ∧ F p.1 = none ∧ xs.length ≤ p.2 ∧ p.2 ≤ maxLen ∧ ∃ cur, w.heap[p.1]? = some (.cells cur et (0, 0)) ∧ cur.size = p.2 ∧ ∀ (m : Nat) (v : Int), xs[m]? = some v → cur[m]? = some (.int k v) ∧ lo k ≤ v ∧ v ≤ hi k) := by
  rcases (h.heap.blk j _ hj).nxC rfl with ⟨z1, z2⟩ | ⟨g, cap, cur, z1, z2, z3, z4, z5, z6, z7, z8⟩
  ·exact ⟨none, fun _ => ⟨z1, List.map_eq_nil_iff.1 z2⟩, fun p hp => by cases hp⟩
  ·refine ⟨some (g, cap), fun hp => (by cases hp), fun p hp => ?_⟩
   injection hp with hp
   subst hp
   refine ⟨by rw [z1]; rfl, z1, z2, z3, by simpa [Blk.es, intEs] using z5, z6, cur, z4, by simpa [Blk.sz] using z7, fun m v hv => ?_⟩
   obtain ⟨u, u1, u2, _⟩ := (z8 m [.int k v] (by simp [Blk.es, intEs, hv])).2 0 _ rfl
   obtain ⟨rfl, b1⟩ := int_inv u2
   simp only [Blk.sz, Nat.mul_one, Nat.add_zero] at u1
   exact ⟨u1, b1.1, b1.2⟩
 obtain ⟨φ', hφ'⟩ : ∃ φ' : Phi, φ' = fun i => if i = rid then .rows (gs ++ [e]) et else φ i := ⟨_, rfl⟩
 have hrid : φ' rid = .rows (gs ++ [e]) et := by rw [hφ']; exact if_pos rfl
 have hoth : ∀ i, i ≠ rid → φ' i = φ i := fun i hi => by rw [hφ']; exact if_neg hi
 have hE : PExt φ φ' := fun i => by
  rcases Classical.em (i = rid) with rfl | c
  ·exact .inr ⟨gs, et, [e], q, hrid⟩
  ·exact .inl (hoth i c)
 have hcls : ∀ i b, ((st.h.set j none).set rid (some (.rows et k (X ++ [xs]))))[i]? = some (some b) → (i = rid ∧ b = .rows et k (X ++ [xs])) ∨ (i ≠ rid ∧ i ≠ j ∧ st.h[i]? = some (some b)) := fun i b hib => by
  rcases Classical.em (i = rid) with rfl | c
  ·rw [List.getElem?_set_self (by simpa using hrl)] at hib
   simp only [Option.some.injEq] at hib
   exact .inl ⟨rfl, hib.symm⟩
  ·rw [List.getElem?_set_ne (Ne.symm c)] at hib
   rcases Classical.em (i = j) with rfl | c2
   ·rw [List.getElem?_set_self hjl] at hib; simp at hib
   ·rw [List.getElem?_set_ne (Ne.symm c2)] at hib; exact .inr ⟨c, c2, hib⟩
 have hocc : ∀ x, (φ' rid).occ x → (φ rid).occ x ∨ (φ j).occ x := fun x hx => by
  rw [hrid] at hx
  obtain ⟨i, c, hi⟩ := hx
  rw [List.getElem?_append] at hi
  split at hi
  ·exact .inl (by rw [q]; exact ⟨i, c, hi⟩)
  ·rename_i hge
   match hm : i - gs.length, hi with
   | 0, hi =>
    simp only [List.getElem?_cons_zero, Option.some.injEq] at hi
    exact .inr (he2 _ hi).1
   | m + 1, hi => simp at hi
 refine ⟨F, φ', FLn.refl F, ⟨⟨h.heap.agree, fun i hi => ?_, fun i b hib => ?_, fun i i2 bi bi2 x hi hi2 h1 h2 => ?_, h.heap.good, fun i i2 l hi => ?_⟩, h.size, fun i => ?_, h.defers, h.below⟩⟩
 ·have hi' : st.h.length ≤ i := by simpa using hi
  rw [hoth i (by omega)]
  exact h.heap.unused i hi'
 ·rcases hcls i b hib with ⟨rfl, rfl⟩ | ⟨c1, c2, hb⟩
  ·refine .inr (.inr ⟨gs ++ [e], hrid, by simp [q1], fun i1 i2 x c c' g1 g2 => ?_, fun m ys g1 g2 => ?_, fun m p ys g1 g2 => ?_⟩)
   ·rw [List.getElem?_append] at g1 g2
    have last : ∀ {m : Nat} {o : Option (Nat × Nat)}, ¬ m < gs.length → [e][m - gs.length]? = some o → m = gs.length ∧ e = o := fun {m o} hm ho => by
     match hq : m - gs.length, ho with
     | 0, ho => simp at ho; exact ⟨by omega, ho⟩
     | z + 1, ho => simp at ho
    split at g1 <;> split at g2
    ·exact q2 i1 i2 x c c' g1 g2
    ·rename_i l1 l2
     obtain ⟨_, e1⟩ := last l2 g2
     exact absurd (h.heap.sep i j _ _ x hr hj (by rw [q]; exact ⟨i1, c, g1⟩) (he2 _ e1).1) (Ne.symm hne)
    ·rename_i l1 l2
     obtain ⟨_, e1⟩ := last l1 g1
     exact absurd (h.heap.sep i j _ _ x hr hj (by rw [q]; exact ⟨i2, c', g2⟩) (he2 _ e1).1) (Ne.symm hne)
    ·rename_i l1 l2
     rw [(last l1 g1).1, (last l2 g2).1]
   ·rw [List.getElem?_append] at g1 g2
    rw [q1] at g1
    split at g1
    ·rename_i l1; rw [if_pos l1] at g2; exact q4 m ys g1 g2
    ·rename_i l1
     rw [if_neg l1] at g2
     match hq : m - X.length, g1, g2 with
     | 0, g1, g2 =>
      simp only [List.getElem?_cons_zero, Option.some.injEq] at g1 g2
      subst g2
      exact (he1 g1).2
     | z + 1, g1, g2 => simp at g1
   ·rw [List.getElem?_append] at g1 g2
    rw [q1] at g1
    split at g1
    ·rename_i l1; rw [if_pos l1] at g2; exact q3 m p ys g1 g2
    ·rename_i l1
     rw [if_neg l1] at g2
     match hq : m - X.length, g1, g2 with
     | 0, g1, g2 =>
      simp only [List.getElem?_cons_zero, Option.some.injEq] at g1 g2
      subst g2
      obtain ⟨_, _, z1, z2, z3, z4, z5⟩ := he2 p g1
      exact ⟨z1, z2, z3, z4, z5⟩
     | z + 1, g1, g2 => simp at g1
  ·rcases h.heap.blk i b hb with ⟨z1, z2⟩ | ⟨g, cap, cur, z1, z2, z3, z4, z5, z6, z7, z8⟩ | hX
   ·exact .inl ⟨by rw [hoth i c1, z1], z2⟩
   ·refine .inr (.inl ⟨g, cap, cur, by rw [hoth i c1, z1], z2, z3, z4, z5, z6, z7, fun m e' he => ⟨(z8 m e' he).1, fun m2 x hx => ?_⟩⟩)
    obtain ⟨u, u1, u2, u3⟩ := (z8 m e' he).2 m2 x hx
    exact ⟨u, u1, u2.ext (FLe.refl F) hE, u3⟩
   ·exact .inr (.inr (hX.le (hoth i c1) (fun x hx => ⟨(hX.occ hx).1, (hX.occ hx).2.1⟩) fun x _ => rfl))
 ·rcases hcls i bi hi with ⟨rfl, rfl⟩ | ⟨c1, c2, hb⟩ <;> rcases hcls i2 bi2 hi2 with ⟨d1, d2⟩ | ⟨d1, d2, hb2⟩
  ·exact d1.symm
  ·rw [hoth i2 d1] at h2
   rcases hocc x h1 with z | z
   ·exact h.heap.sep _ _ _ _ x hr hb2 z h2
   ·exact absurd (h.heap.sep _ _ _ _ x hj hb2 z h2).symm d2
  ·subst d1
   rw [hoth i c1] at h1
   rcases hocc x h2 with z | z
   ·exact h.heap.sep _ _ _ _ x hb hr h1 z
   ·exact absurd (h.heap.sep _ _ _ _ x hb hj h1 z) c2
  ·rw [hoth i c1] at h1; rw [hoth i2 d1] at h2
   exact h.heap.sep _ _ _ _ x hb hb2 h1 h2
 ·rcases hcls i _ hi with ⟨_, d2⟩ | ⟨c1, c2, hb⟩
  ·cases d2
  ·obtain ⟨p1, p2⟩ := h.heap.pins i i2 l hb
   exact ⟨by rw [hoth i2 (noPin_ne hp hb)]; exact p1, p2⟩
 ·show RepV F φ' (look (putL st.s d _) i) _
  rw [look_putL]
  have hi := h.slots i
  split
  ·rename_i ed
   subst ed
   rw [hs] at hi
   rw [← hn]
   generalize a.tmps.getD d undef = v at hi
   have hlast : (gs ++ [e])[X.length]? = some e := by rw [← q1, List.getElem?_append_right (Nat.le_refl _), Nat.sub_self]; rfl
   cases hi with
   | own _ _ g cap sz et' y1 y2 y3 =>
    cases e with
    | none => rw [(he1 rfl).1] at y1; cases y1
    | some p =>
     obtain ⟨_, z0, _, _, z3, z4, _⟩ := he2 p rfl
     rw [z0] at y1
     injection y1 with a1 a2 a3 a4
     subst a1 a2
     exact .row _ _ _ p.1 p.2 _ et hrid hlast y2 y3
   | ownNil _ y1 =>
    cases e with
    | none => exact .rowNil _ _ _ et hrid hlast
    | some p => rw [(he2 p rfl).2.1] at y1; cases y1
  ·exact hi.ext (FLe.refl F) hE
/-- An empty list of rows. -/
theorem gs_rows0 (et : TypeId) (k : IntKind) {st : St} : GS w0 st ⟨st.n, st.s, st.h ++ [some (.rows et k [])]⟩ := by
 intro F φ a w h
 obtain ⟨h1, h2⟩ := h.heap.adoptL (.rows et k []) (.rows [] et) (.inr (.inr ⟨[], by simp [upd], rfl, fun i j x c c' h => by simp at h, fun i xs h => by simp at h, fun i p xs h => by simp at h⟩)) (fun i bi g _ _ ⟨m, c, hm⟩ => by simp at hm) rfl
 exact ⟨F, _, FLn.refl F, h1, h.size, fun i => (h.slots i).le (FLe.refl F) h2, h.defers, h.below⟩
/-! ### rows change places -/
end
end Go.AX
