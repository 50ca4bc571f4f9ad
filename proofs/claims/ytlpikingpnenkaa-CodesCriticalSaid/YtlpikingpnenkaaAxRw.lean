/-
 Lists of rows of the call's own: rows taken in, exchanged, written no more. Conditions: none.
-/
import Derived.Test.YtlpikingpnenkaaAxGc
set_option linter.unusedSimpArgs false
set_option linter.unusedVariables false
namespace Go.AX
open Go Go.RowKit
/-- Each row at its own place. -/
def idO (i : Nat) : Option Nat := some i
def lenO (X : List (List Int)) (i : Nat) : Nat := (X.getD i []).length
theorem rowV_id (rid i l : Nat) : rowV rid (idO i) l = .row rid i l := rfl
theorem lenO_at (X : List (List Int)) (i : Nat) : lenO X i = (X.getD i []).length := rfl
theorem lenO_set (X : List (List Int)) (i j : Nat) (v : Int) : lenO (X.set i ((X.getD i []).set j v)) = lenO X := by
 funext m
 unfold lenO
 rw [List.getD_eq_getElem?_getD, List.getD_eq_getElem?_getD, List.getElem?_set]
 split
 ·rename_i e
  subst e
  split
  ·rename_i h; rw [List.getElem?_eq_getElem h]; simp [List.getD_eq_getElem?_getD, h]
  ·rename_i h; rw [List.getD_eq_getElem?_getD, List.getElem?_eq_none (by omega)]
 ·rfl
theorem idO_app (n : Nat) : (fun m => if m = n then some n else idO m) = idO := by
 funext m
 split
 ·rename_i e; subst e; rfl
 ·rfl
theorem lenO_app (X : List (List Int)) (r : List Int) : (fun m => if m = X.length then r.length else lenO X m) = lenO (X ++ [r]) := by
 funext m
 unfold lenO
 simp only [List.getD_eq_getElem?_getD]
 split
 ·rename_i e; subst e; simp
 ·rename_i e
  rcases Nat.lt_or_ge m X.length with c | c
  ·rw [List.getElem?_append_left c]
  ·rw [List.getElem?_eq_none (show X.length ≤ m by omega), List.getElem?_eq_none (by simp; omega)]
theorem set_getD_len (X : List (List Int)) (i j : Nat) (v : Int) (m : Nat) : ((X.set i ((X.getD i []).set j v)).getD m []).length = (X.getD m []).length := by
 have := congrFun (lenO_set X i j v) m
 exact this
attribute [go_sem] rowV_id lenO_at lenO_set set_getD_len
section
variable {P : Program} {w0 : World} {F : Fz} {φ : Phi}
/-- The same, said otherwise. -/
def GS (w0 : World) (st st' : St) : Prop := ∀ F φ a w, Rel F φ w0 st a w → ∃ F' φ', FLn w0 F F' ∧ Rel F' φ' w0 st' a w
theorem AWP_gs {c : Code} {Q : Exit → St → Prop} {st st' : St} (hg : GS w0 st st') (h : AWP P w0 c Q st') : AWP P w0 c Q st := fun F φ a w hr => by
 obtain ⟨F', φ', hle, hr'⟩ := hg F φ a w hr
 exact wp_mono (h F' φ' a w hr') fun e a' w' hq => hq.le hle
theorem AWPL_gs {all : Array Oper} {Q : Exit → St → Prop} {l : List Oper} {st st' : St} (hg : GS w0 st st') (h : AWPL P w0 all Q l st') : AWPL P w0 all Q l st := fun F φ a w hr => by
 obtain ⟨F', φ', hle, hr'⟩ := hg F φ a w hr
 exact wpList_monoQ (fun e a' w' hq => hq.le hle) (h F' φ' a w hr')
theorem AWP_gs' {c : Code} {Q : Exit → St → Prop} {st st1 : St} (hg : GS w0 st st1) (h : ∀ st', st1 = st' → AWP P w0 c Q st') : AWP P w0 c Q st := AWP_gs hg (h _ rfl)
theorem AWPL_gs' {all : Array Oper} {Q : Exit → St → Prop} {l : List Oper} {st st1 : St} (hg : GS w0 st st1) (h : ∀ st', st1 = st' → AWPL P w0 all Q l st') : AWPL P w0 all Q l st := AWPL_gs hg (h _ rfl)
/-- Where rows have been added at the end. -/
def PExt (φ φ' : Phi) : Prop := ∀ id, φ' id = φ id ∨ ∃ gs et e, φ id = .rows gs et ∧ φ' id = .rows (gs ++ e) et
theorem ext_at {φ φ' : Phi} (h : PExt φ φ') {id g c s : Nat} {t : TypeId} (e : φ id = .at g c s t) : φ' id = .at g c s t := by
 rcases h id with q | ⟨gs, et, x, q, _⟩
 ·rw [q, e]
 ·rw [q] at e; cases e
theorem ext_rows {φ φ' : Phi} (h : PExt φ φ') {id : Nat} {gs : List (Option (Nat × Nat))} {et : TypeId} (e : φ id = .rows gs et) : ∃ x, φ' id = .rows (gs ++ x) et := by
 rcases h id with q | ⟨gs', et', x, q, q2⟩
 ·exact ⟨[], by rw [q, e, List.append_nil]⟩
 ·rw [q] at e; injection e with e1 e2; subst e1 e2; exact ⟨x, q2⟩
theorem RepV.ext {F F' : Fz} (hF : FLe F F') {φ : Phi} {x : AVal} {v : Value} (h : RepV F φ x v) : ∀ {φ' : Phi}, PExt φ φ' → RepV F' φ' x v := by
 have get : ∀ {gs x : List (Option (Nat × Nat))} {i : Nat} {o : Option (Nat × Nat)}, gs[i]? = some o → (gs ++ x)[i]? = some o := fun {gs x i o} h => by
  rw [List.getElem?_append_left (List.getElem?_eq_some_iff.1 h).1]; exact h
 induction h with
 | junk v => exact fun _ => .junk _
 | int k n h1 h2 => exact fun _ => .int k n h1 h2
 | bool b => exact fun _ => .bool b
 | str s l h h' => exact fun _ => .str s l h h'
 | nil => exact fun _ => .nil
 | agg l vs hl h1 _ ih => exact fun hφ => .agg l vs hl h1 fun i x v a b => ih i x v a b hφ
 | tup l vs hl _ ih => exact fun hφ => .tup l vs hl fun i x v a b => ih i x v a b hφ
 | imm sz es A n c u h1 h2 h3 h4 h5 h6 h7 _ => exact fun _ => (RepV.imm (φ := φ0) sz es A n c u h1 h2 h3 h4 h5 h6 h7).le hF (PLe0 _)
 | immp es ad u h1 h2 _ => exact fun _ => (RepV.immp (φ := φ0) es ad u h1 h2).le hF (PLe0 _)
 | own id n g cap sz et h1 h2 h3 => exact fun hφ => .own id n g cap sz et (ext_at hφ h1) h2 h3
 | ownNil id h1 =>
  intro φ' hφ
  rcases hφ id with q | ⟨gs, et, x, q, _⟩
  ·exact .ownNil id (by rw [q, h1])
  ·rw [q] at h1; cases h1
 | ptr id i j g cap sz et h1 => exact fun hφ => .ptr id i j g cap sz et (ext_at hφ h1)
 | func f caps vs hl _ ih => exact fun hφ => .func f caps vs hl fun i x v a b => ih i x v a b hφ
 | opt b x v _ h2 ih => exact fun hφ => .opt b x v (fun hb => ih hb hφ) h2
 | ints k xs v _ ih => exact fun hφ => .ints k xs v (ih hφ)
 | intp k n v _ ih => exact fun hφ => .intp k n v (ih hφ)
 | fn sz n f v _ ih => exact fun hφ => .fn sz n f v (ih hφ)
 | ownN id n g cap sz et h1 h2 h3 => exact fun hφ => .ownN id n g cap sz et (ext_at hφ h1) h2 h3
 | abs g cap sz et i j => exact fun _ => .abs g cap sz et i j
 | mp id g h1 =>
  intro φ' hφ
  rcases hφ id with q | ⟨gs, et, x, q, _⟩
  ·exact .mp id g (by rw [q, h1])
  ·rw [q] at h1; cases h1
 | row id i n g c gs et h1 h2 h3 h4 =>
  intro φ' hφ
  obtain ⟨x, hx⟩ := ext_rows hφ h1
  exact .row id i n g c _ et hx (get h2) h3 h4
 | rowNil id i gs et h1 h2 =>
  intro φ' hφ
  obtain ⟨x, hx⟩ := ext_rows hφ h1
  exact .rowNil id i _ et hx (get h2)
 | rowp id i j g c gs et h1 h2 =>
  intro φ' hφ
  obtain ⟨x, hx⟩ := ext_rows hφ h1
  exact .rowp id i j g c _ et hx (get h2)
/-- No place's name speaks of it. -/
def noPin (H : List (Option Blk)) (r : Nat) : Bool := H.all fun b => match b with | some (.pin i _) => decide (i ≠ r) | _ => true
theorem noPin_ne {H : List (Option Blk)} {r j i : Nat} {l : Loc} (h : noPin H r = true) (hj : H[j]? = some (some (.pin i l))) : i ≠ r := by
 have := List.all_eq_true.1 h _ (List.mem_of_getElem? hj)
 simpa using this
/-- A row of the call's own becomes one of a list of rows. -/
theorem gs_adopt (d rid : Nat) {j n : Nat} {et : TypeId} {k : IntKind} {X : List (List Int)} {xs : List Int} {st : St} (hs : look st.s d = .own j n) (hn : n = xs.length) (hj : st.h[j]? = some (some (.ints et k xs))) (hr : st.h[rid]? = some (some (.rows et k X))) (hp : noPin st.h rid = true) :
  GS w0 st ⟨st.n, putL st.s d (.row rid X.length xs.length), (st.h.set j none).set rid (some (.rows et k (X ++ [xs])))⟩ := by
 intro F φ a w h
 have hne : j ≠ rid := fun e => by subst e; rw [hj] at hr; cases hr
 have hrl := Blk.ext_lt hr
 have hjl := Blk.ext_lt hj
 obtain ⟨gs, q, q1, q2, q4, q3⟩ := (h.heap.blk rid _ hr).rowsX
 -- what lies at the row's place
 obtain ⟨e, he1, he2⟩ : ∃ e : Option (Nat × Nat), (e = none → φ j = .nils ∧ xs = []) ∧ (∀ p, e = some p → (φ j).occ p.1 ∧ φ j = .at p.1 p.2 1 et ∧ w0.heap.size ≤ p.1 ∧ F p.1 = none ∧ xs.length ≤ p.2 ∧ p.2 ≤ maxLen ∧ ∃ cur, w.heap[p.1]? = some (.cells cur et (0, 0)) ∧ cur.size = p.2 ∧ ∀ (m : Nat) (v : Int), xs[m]? = some v → cur[m]? = some (.int k v) ∧ lo k ≤ v ∧ v ≤ hi k) := by
  rcases (h.heap.blk j _ hj).nxC rfl with ⟨z1, z2⟩ | ⟨g, cap, cur, z1, z2, z3, z4, z5, z6, z7, z8⟩
  ·exact ⟨none, fun _ => ⟨z1, List.map_eq_nil_iff.1 z2⟩, fun p hp => by cases hp⟩
  ·refine ⟨some (g, cap), fun hp => (by cases hp), fun p hp => ?_⟩
   injection hp with hp
   subst hp
   refine ⟨by rw [z1]; rfl, z1, z2, z3, by simpa [Blk.es, intEs] using z5, z6, cur, z4, by simpa [Blk.sz] using z7, fun m v hv => ?_⟩
   obtain ⟨u, u1, u2, _⟩ := (z8 m [.int k v] (by simp [Blk.es, intEs, hv])).2 0 _ rfl
   obtain ⟨rfl, b1⟩ := int_inv u2
   simp only [Blk.sz, Nat.mul_one, Nat.add_zero] at u1
   exact ⟨u1, b1.1, b1.2⟩
 obtain ⟨φ', hφ'⟩ : ∃ φ' : Phi, φ' = fun i => if i = rid then .rows (gs ++ [e]) et else φ i := ⟨_, rfl⟩
 have hrid : φ' rid = .rows (gs ++ [e]) et := by rw [hφ']; exact if_pos rfl
 have hoth : ∀ i, i ≠ rid → φ' i = φ i := fun i hi => by rw [hφ']; exact if_neg hi
 have hE : PExt φ φ' := fun i => by
  rcases Classical.em (i = rid) with rfl | c
  ·exact .inr ⟨gs, et, [e], q, hrid⟩
  ·exact .inl (hoth i c)
 have hcls : ∀ i b, ((st.h.set j none).set rid (some (.rows et k (X ++ [xs]))))[i]? = some (some b) → (i = rid ∧ b = .rows et k (X ++ [xs])) ∨ (i ≠ rid ∧ i ≠ j ∧ st.h[i]? = some (some b)) := fun i b hib => by
  rcases Classical.em (i = rid) with rfl | c
  ·rw [List.getElem?_set_self (by simpa using hrl)] at hib
   simp only [Option.some.injEq] at hib
   exact .inl ⟨rfl, hib.symm⟩
  ·rw [List.getElem?_set_ne (Ne.symm c)] at hib
   rcases Classical.em (i = j) with rfl | c2
   ·rw [List.getElem?_set_self hjl] at hib; simp at hib
   ·rw [List.getElem?_set_ne (Ne.symm c2)] at hib; exact .inr ⟨c, c2, hib⟩
 have hocc : ∀ x, (φ' rid).occ x → (φ rid).occ x ∨ (φ j).occ x := fun x hx => by
  rw [hrid] at hx
  obtain ⟨i, c, hi⟩ := hx
  rw [List.getElem?_append] at hi
  split at hi
  ·exact .inl (by rw [q]; exact ⟨i, c, hi⟩)
  ·rename_i hge
   match hm : i - gs.length, hi with
   | 0, hi =>
    simp only [List.getElem?_cons_zero, Option.some.injEq] at hi
    exact .inr (he2 _ hi).1
   | m + 1, hi => simp at hi
 refine ⟨F, φ', FLn.refl F, ⟨⟨h.heap.agree, fun i hi => ?_, fun i b hib => ?_, fun i i2 bi bi2 x hi hi2 h1 h2 => ?_, h.heap.good, fun i i2 l hi => ?_⟩, h.size, fun i => ?_, h.defers, h.below⟩⟩
 ·have hi' : st.h.length ≤ i := by simpa using hi
  rw [hoth i (by omega)]
  exact h.heap.unused i hi'
 ·rcases hcls i b hib with ⟨rfl, rfl⟩ | ⟨c1, c2, hb⟩
  ·refine .inr (.inr ⟨gs ++ [e], hrid, by simp [q1], fun i1 i2 x c c' g1 g2 => ?_, fun m ys g1 g2 => ?_, fun m p ys g1 g2 => ?_⟩)
   ·rw [List.getElem?_append] at g1 g2
    have last : ∀ {m : Nat} {o : Option (Nat × Nat)}, ¬ m < gs.length → [e][m - gs.length]? = some o → m = gs.length ∧ e = o := fun {m o} hm ho => by
     match hq : m - gs.length, ho with
     | 0, ho => simp at ho; exact ⟨by omega, ho⟩
     | z + 1, ho => simp at ho
    split at g1 <;> split at g2
    ·exact q2 i1 i2 x c c' g1 g2
    ·rename_i l1 l2
     obtain ⟨_, e1⟩ := last l2 g2
     exact absurd (h.heap.sep i j _ _ x hr hj (by rw [q]; exact ⟨i1, c, g1⟩) (he2 _ e1).1) (Ne.symm hne)
    ·rename_i l1 l2
     obtain ⟨_, e1⟩ := last l1 g1
     exact absurd (h.heap.sep i j _ _ x hr hj (by rw [q]; exact ⟨i2, c', g2⟩) (he2 _ e1).1) (Ne.symm hne)
    ·rename_i l1 l2
     rw [(last l1 g1).1, (last l2 g2).1]
   ·rw [List.getElem?_append] at g1 g2
    rw [q1] at g1
    split at g1
    ·rename_i l1; rw [if_pos l1] at g2; exact q4 m ys g1 g2
    ·rename_i l1
     rw [if_neg l1] at g2
     match hq : m - X.length, g1, g2 with
     | 0, g1, g2 =>
      simp only [List.getElem?_cons_zero, Option.some.injEq] at g1 g2
      subst g2
      exact (he1 g1).2
     | z + 1, g1, g2 => simp at g1
   ·rw [List.getElem?_append] at g1 g2
    rw [q1] at g1
    split at g1
    ·rename_i l1; rw [if_pos l1] at g2; exact q3 m p ys g1 g2
    ·rename_i l1
     rw [if_neg l1] at g2
     match hq : m - X.length, g1, g2 with
     | 0, g1, g2 =>
      simp only [List.getElem?_cons_zero, Option.some.injEq] at g1 g2
      subst g2
      obtain ⟨_, _, z1, z2, z3, z4, z5⟩ := he2 p g1
      exact ⟨z1, z2, z3, z4, z5⟩
     | z + 1, g1, g2 => simp at g1
  ·rcases h.heap.blk i b hb with ⟨z1, z2⟩ | ⟨g, cap, cur, z1, z2, z3, z4, z5, z6, z7, z8⟩ | hX
   ·exact .inl ⟨by rw [hoth i c1, z1], z2⟩
   ·refine .inr (.inl ⟨g, cap, cur, by rw [hoth i c1, z1], z2, z3, z4, z5, z6, z7, fun m e' he => ⟨(z8 m e' he).1, fun m2 x hx => ?_⟩⟩)
    obtain ⟨u, u1, u2, u3⟩ := (z8 m e' he).2 m2 x hx
    exact ⟨u, u1, u2.ext (FLe.refl F) hE, u3⟩
   ·exact .inr (.inr (hX.le (hoth i c1) (fun x hx => ⟨(hX.occ hx).1, (hX.occ hx).2.1⟩) fun x _ => rfl))
 ·rcases hcls i bi hi with ⟨rfl, rfl⟩ | ⟨c1, c2, hb⟩ <;> rcases hcls i2 bi2 hi2 with ⟨d1, d2⟩ | ⟨d1, d2, hb2⟩
  ·exact d1.symm
  ·rw [hoth i2 d1] at h2
   rcases hocc x h1 with z | z
   ·exact h.heap.sep _ _ _ _ x hr hb2 z h2
   ·exact absurd (h.heap.sep _ _ _ _ x hj hb2 z h2).symm d2
  ·subst d1
   rw [hoth i c1] at h1
   rcases hocc x h2 with z | z
   ·exact h.heap.sep _ _ _ _ x hb hr h1 z
   ·exact absurd (h.heap.sep _ _ _ _ x hb hj h1 z) c2
  ·rw [hoth i c1] at h1; rw [hoth i2 d1] at h2
   exact h.heap.sep _ _ _ _ x hb hb2 h1 h2
 ·rcases hcls i _ hi with ⟨_, d2⟩ | ⟨c1, c2, hb⟩
  ·cases d2
  ·obtain ⟨p1, p2⟩ := h.heap.pins i i2 l hb
   exact ⟨by rw [hoth i2 (noPin_ne hp hb)]; exact p1, p2⟩
 ·show RepV F φ' (look (putL st.s d _) i) _
  rw [look_putL]
  have hi := h.slots i
  split
  ·rename_i ed
   subst ed
   rw [hs] at hi
   rw [← hn]
   generalize a.tmps.getD d undef = v at hi
   have hlast : (gs ++ [e])[X.length]? = some e := by rw [← q1, List.getElem?_append_right (Nat.le_refl _), Nat.sub_self]; rfl
   cases hi with
   | own _ _ g cap sz et' y1 y2 y3 =>
    cases e with
    | none => rw [(he1 rfl).1] at y1; cases y1
    | some p =>
     obtain ⟨_, z0, _, _, z3, z4, _⟩ := he2 p rfl
     rw [z0] at y1
     injection y1 with a1 a2 a3 a4
     subst a1 a2
     exact .row _ _ _ p.1 p.2 _ et hrid hlast y2 y3
   | ownNil _ y1 =>
    cases e with
    | none => exact .rowNil _ _ _ et hrid hlast
    | some p => rw [(he2 p rfl).2.1] at y1; cases y1
  ·exact hi.ext (FLe.refl F) hE
/-- An empty list of rows. -/
theorem gs_rows0 (et : TypeId) (k : IntKind) {st : St} : GS w0 st ⟨st.n, st.s, st.h ++ [some (.rows et k [])]⟩ := by
 intro F φ a w h
 obtain ⟨h1, h2⟩ := h.heap.adoptL (.rows et k []) (.rows [] et) (.inr (.inr ⟨[], by simp [upd], rfl, fun i j x c c' h => by simp at h, fun i xs h => by simp at h, fun i p xs h => by simp at h⟩)) (fun i bi g _ _ ⟨m, c, hm⟩ => by simp at hm) rfl
 exact ⟨F, _, FLn.refl F, h1, h.size, fun i => (h.slots i).le (FLe.refl F) h2, h.defers, h.below⟩
theorem matArg {H : List (Option Blk)} {o rid n : Nat} {et et' : TypeId} {k : IntKind} {X : List (List Int)} (h1 : getB H o = some (.outs et rid X.length idO (lenO X))) (h2 : getB H rid = some (.rows et' k X)) (hn : n = X.length) : ArgOk H (.own o n) (.fn 1 X.length (fun i => [.ints k (X.getD i [])])) := by
 subst hn
 refine .ownO o X.length et rid X.length idO (lenO X) (fun i => .ints k (X.getD i [])) h1 (Nat.le_refl _) fun i hi => ?_
 exact .rowI rid i _ et' k X _ h2 hi (Nat.le_refl _) (by rw [lenO_at]; exact List.take_length)
/-! ### rows change places -/
def noR0 (r : Nat) : AVal → Bool
 | .row id _ _ => decide (id ≠ r)
 | .rowp id _ _ => decide (id ≠ r)
 | .agg _ | .tup _ | .func _ _ | .opt _ _ => false
 | _ => true
def noR1 (r : Nat) : AVal → Bool
 | .agg l => l.all (noR0 r)
 | .func _ l => l.all (noR0 r)
 | x => noR0 r x
def noR2 (r : Nat) : AVal → Bool
 | .tup l => l.all (noR1 r)
 | .opt _ x => noR1 r x
 | x => noR1 r x
theorem noR0_rep {r : Nat} {φ' : Phi} {gs : List (Option (Nat × Nat))} {et : TypeId} (hr : φ r = .rows gs et) (ho : ∀ i, i ≠ r → φ' i = φ i) {x : AVal} {v : Value} (hx : noR0 r x = true) (h : RepV F φ x v) : RepV F φ' x v := by
 have at' : ∀ {id g c s : Nat} {t : TypeId}, φ id = .at g c s t → φ' id = .at g c s t := fun {id g c s t} e => by
  rw [ho id (by rintro rfl; rw [hr] at e; cases e), e]
 cases h with
 | junk v => exact .junk _
 | int k n h1 h2 => exact .int k n h1 h2
 | bool b => exact .bool b
 | str s l h h' => exact .str s l h h'
 | nil => exact .nil
 | agg l vs hl h1 h2 => cases hx
 | tup l vs hl h1 => cases hx
 | imm sz es A n c u h1 h2 h3 h4 h5 h6 h7 => exact RepV.le (FLe.refl F) (RepV.imm (φ := φ0) sz es A n c u h1 h2 h3 h4 h5 h6 h7) (PLe0 _)
 | immp es ad u h1 h2 => exact RepV.le (FLe.refl F) (RepV.immp (φ := φ0) es ad u h1 h2) (PLe0 _)
 | own id n g cap sz et h1 h2 h3 => exact .own id n g cap sz et (at' h1) h2 h3
 | ownNil id h1 => exact .ownNil id (by rw [ho id (by rintro rfl; rw [hr] at h1; cases h1), h1])
 | ptr id i j g cap sz et h1 => exact .ptr id i j g cap sz et (at' h1)
 | func f caps vs hl h1 => cases hx
 | opt b x v h1 h2 => cases hx
 | ints k xs v h1 => cases h1 with | imm _ _ A n c u h1 h2 h3 h4 h5 h6 h7 => exact .ints k xs _ (RepV.le (FLe.refl F) (RepV.imm (φ := φ0) _ _ A n c u h1 h2 h3 h4 h5 h6 h7) (PLe0 _))
 | intp k n v h1 => cases h1 with | immp _ ad u h1 h2 => exact .intp k n _ (RepV.le (FLe.refl F) (RepV.immp (φ := φ0) _ ad u h1 h2) (PLe0 _))
 | fn sz n f v h1 => cases h1 with | imm _ _ A n c u h1 h2 h3 h4 h5 h6 h7 => exact .fn sz _ f _ (RepV.le (FLe.refl F) (RepV.imm (φ := φ0) _ _ A _ c u h1 h2 h3 h4 h5 h6 h7) (PLe0 _))
 | ownN id n g cap sz et h1 h2 h3 => exact .ownN id n g cap sz et (at' h1) h2 h3
 | abs g cap sz et i j => exact .abs g cap sz et i j
 | mp id g h1 => exact .mp id g (by rw [ho id (by rintro rfl; rw [hr] at h1; cases h1), h1])
 | row id i n g c gs et h1 h2 h3 h4 => exact .row id i n g c gs et (by rw [ho id (of_decide_eq_true hx), h1]) h2 h3 h4
 | rowNil id i gs et h1 h2 => exact .rowNil id i gs et (by rw [ho id (of_decide_eq_true hx), h1]) h2
 | rowp id i j g c gs et h1 h2 => exact .rowp id i j g c gs et (by rw [ho id (of_decide_eq_true hx), h1]) h2
theorem noR1_rep {r : Nat} {φ' : Phi} {gs : List (Option (Nat × Nat))} {et : TypeId} (hr : φ r = .rows gs et) (ho : ∀ i, i ≠ r → φ' i = φ i) {x : AVal} {v : Value} (hx : noR1 r x = true) (h : RepV F φ x v) : RepV F φ' x v := by
 cases x
 case agg l =>
  cases h with | agg _ vs hl h1 h2 => exact .agg _ vs hl h1 fun i x v a b => noR0_rep hr ho (List.all_eq_true.1 hx x (List.mem_of_getElem? a)) (h2 i x v a b)
 case func f l =>
  cases h with | func _ _ vs hl h2 => exact .func _ _ vs hl fun i x v a b => noR0_rep hr ho (List.all_eq_true.1 hx x (List.mem_of_getElem? a)) (h2 i x v a b)
 all_goals exact noR0_rep hr ho hx h
theorem noR2_rep {r : Nat} {φ' : Phi} {gs : List (Option (Nat × Nat))} {et : TypeId} (hr : φ r = .rows gs et) (ho : ∀ i, i ≠ r → φ' i = φ i) {x : AVal} {v : Value} (hx : noR2 r x = true) (h : RepV F φ x v) : RepV F φ' x v := by
 cases x
 case tup l =>
  cases h with | tup _ vs hl h2 => exact .tup _ vs hl fun i x v a b => noR1_rep hr ho (List.all_eq_true.1 hx x (List.mem_of_getElem? a)) (h2 i x v a b)
 case opt b x =>
  cases h with | opt _ _ _ h1 h2 => exact .opt _ _ _ (fun hb => noR1_rep hr ho hx (h1 hb)) h2
 all_goals exact noR1_rep hr ho hx h
def noRB (r : Nat) : Blk → Bool
 | .gen _ _ es => es.all fun e => e.all (noR0 r)
 | .outs _ rid _ _ _ => decide (rid ≠ r)
 | _ => true
theorem noRB_es {r : Nat} {b : Blk} (hb : noRB r b = true) {i j : Nat} {e : List AVal} {x : AVal} (he : b.es[i]? = some e) (hx : e[j]? = some x) : noR0 r x = true := by
 cases b with
 | ints et k xs =>
  simp only [Blk.es, intEs, List.getElem?_map, Option.map_eq_some_iff] at he
  obtain ⟨n, _, rfl⟩ := he
  match j, hx with
  | 0, hx => simp at hx; subst hx; rfl
 | pin _ _ => simp [Blk.es] at he
 | xo _ =>
  match i, he with
  | 0, he => simp [Blk.es] at he; subst he; simp at hx
 | rows _ _ _ =>
  match i, he with
  | 0, he => simp [Blk.es] at he; subst he; simp at hx
 | outs et rid n f len =>
  simp only [Blk.es, fnEs, List.getElem?_map, Option.map_eq_some_iff] at he
  obtain ⟨m, _, rfl⟩ := he
  match j, hx with
  | 0, hx =>
   simp only [outE, List.getElem?_cons_zero, Option.some.injEq] at hx
   subst hx
   split
   ·exact hb
   ·rfl
 | gen et sz es => exact List.all_eq_true.1 (List.all_eq_true.1 hb e (List.mem_of_getElem? he)) x (List.mem_of_getElem? hx)
def noRH (r o : Nat) : Nat → List (Option Blk) → Bool
 | _, [] => true
 | i, some b :: l => (decide (i = o) || noRB r b) && noRH r o (i + 1) l
 | i, none :: l => noRH r o (i + 1) l
theorem noRH_at {r o : Nat} : ∀ {H : List (Option Blk)} {k : Nat}, noRH r o k H = true → ∀ {i : Nat} {b : Blk}, H[i]? = some (some b) → k + i ≠ o → noRB r b = true
 | [], _, _, i, b, hi, _ => by simp at hi
 | some c :: l, k, h, 0, b, hi, hne => by
  simp at hi
  subst hi
  simp only [noRH, Bool.and_eq_true, Bool.or_eq_true, decide_eq_true_eq] at h
  rcases h.1 with q | q
  ·exact absurd q (by simpa using hne)
  ·exact q
 | some c :: l, k, h, i + 1, b, hi, hne => by
  simp only [noRH, Bool.and_eq_true] at h
  exact noRH_at h.2 (by simpa using hi) (by omega)
 | none :: l, k, h, 0, b, hi, hne => by simp at hi
 | none :: l, k, h, i + 1, b, hi, hne => by
  simp only [noRH] at h
  exact noRH_at h (by simpa using hi) (by omega)
/-- Rows change places: named anew by where they stand. -/
theorem gs_perm (o rid : Nat) (σ : Nat → Nat) {et et' : TypeId} {k : IntKind} {X X' : List (List Int)} {n : Nat} {f : Nat → Option Nat} {len : Nat → Nat} {st : St} (h1 : st.h[o]? = some (some (.outs et rid n f len))) (h2 : st.h[rid]? = some (some (.rows et' k X))) (hnX : n = X.length)
  (hσ : ∀ m, m < X.length → σ m < X.length ∧ f m = some (σ m) ∧ len m = (X.getD (σ m) []).length ∧ X'.getD m [] = X.getD (σ m) []) (hinj : ∀ m m', m < X.length → m' < X.length → σ m = σ m' → m = m') (hl : X'.length = X.length)
  (hs : (st.s.all fun q => noR2 rid q.2) = true) (hb : noRH rid o 0 st.h = true) (hp : noPin st.h rid = true) :
  GS w0 st ⟨st.n, st.s, (st.h.set o (some (.outs et rid X'.length idO (lenO X')))).set rid (some (.rows et' k X'))⟩ := by
 intro F φ a w h
 subst hnX
 have hol := Blk.ext_lt h1
 have hrl := Blk.ext_lt h2
 have hne : o ≠ rid := fun e => by subst e; rw [h1] at h2; cases h2
 obtain ⟨gs, q, q1, q2, q4, q3⟩ := (h.heap.blk rid _ h2).rowsX
 obtain ⟨gs', hgs'⟩ : ∃ gs' : List (Option (Nat × Nat)), gs' = (List.range X.length).map fun m => gs.getD (σ m) none := ⟨_, rfl⟩
 have hgl : gs'.length = X.length := by rw [hgs']; simp
 have hget : ∀ m, m < X.length → gs'[m]? = gs[σ m]? := fun m hm => by
  rw [hgs', List.getElem?_map, List.getElem?_range hm, Option.map_some, List.getD_eq_getElem?_getD, List.getElem?_eq_getElem (show σ m < gs.length by rw [q1]; exact (hσ m hm).1)]; rfl
 have hX' : ∀ m, m < X.length → X'[m]? = X[σ m]? := fun m hm => by
  have e := (hσ m hm).2.2.2
  have hm' := (hσ m hm).1
  rw [List.getD_eq_getElem?_getD, List.getD_eq_getElem?_getD, List.getElem?_eq_getElem (by omega), List.getElem?_eq_getElem hm'] at e
  rw [List.getElem?_eq_getElem (by omega), List.getElem?_eq_getElem hm']
  exact congrArg some e
 obtain ⟨φ', hφ'⟩ : ∃ φ' : Phi, φ' = fun i => if i = rid then .rows gs' et' else φ i := ⟨_, rfl⟩
 have hrid : φ' rid = .rows gs' et' := by rw [hφ']; exact if_pos rfl
 have hoth : ∀ i, i ≠ rid → φ' i = φ i := fun i hi => by rw [hφ']; exact if_neg hi
 have hcls : ∀ i b, ((st.h.set o (some (.outs et rid X'.length idO (lenO X')))).set rid (some (.rows et' k X')))[i]? = some (some b) → (i = rid ∧ b = .rows et' k X') ∨ (i = o ∧ b = .outs et rid X'.length idO (lenO X')) ∨ (i ≠ rid ∧ i ≠ o ∧ st.h[i]? = some (some b)) := fun i b hib => by
  rcases Classical.em (i = rid) with rfl | c
  ·rw [List.getElem?_set_self (by simpa using hrl)] at hib
   simp only [Option.some.injEq] at hib
   exact .inl ⟨rfl, hib.symm⟩
  ·rw [List.getElem?_set_ne (Ne.symm c)] at hib
   rcases Classical.em (i = o) with rfl | c2
   ·rw [List.getElem?_set_self hol] at hib; simp only [Option.some.injEq] at hib; exact .inr (.inl ⟨rfl, hib.symm⟩)
   ·rw [List.getElem?_set_ne (Ne.symm c2)] at hib; exact .inr (.inr ⟨c, c2, hib⟩)
 have hocc : ∀ x, (φ' rid).occ x → (φ rid).occ x := fun x hx => by
  rw [hrid] at hx
  obtain ⟨i, c, hi⟩ := hx
  have hil : i < X.length := by rw [← hgl]; exact (List.getElem?_eq_some_iff.1 hi).1
  rw [hget i hil] at hi
  rw [q]; exact ⟨σ i, c, hi⟩
 have oldB : ∀ i b, ((st.h.set o (some (.outs et rid X'.length idO (lenO X')))).set rid (some (.rows et' k X')))[i]? = some (some b) → ∃ b', st.h[i]? = some (some b') := fun i b hib => by
  rcases hcls i b hib with ⟨rfl, _⟩ | ⟨rfl, _⟩ | ⟨_, _, q⟩
  ·exact ⟨_, h2⟩
  ·exact ⟨_, h1⟩
  ·exact ⟨_, q⟩
 have occ2 : ∀ i x, (φ' i).occ x → (φ i).occ x := fun i x hx => by
  rcases Classical.em (i = rid) with rfl | c
  ·exact hocc x hx
  ·rw [hoth i c] at hx; exact hx
 refine ⟨F, φ', FLn.refl F, ⟨⟨h.heap.agree, fun i hi => ?_, fun i b hib => ?_, fun i i2 bi bi2 x hi hi2 x1 x2 => ?_, h.heap.good, fun i i2 l hi => ?_⟩, h.size, fun i => ?_, h.defers, h.below⟩⟩
 ·have hi' : st.h.length ≤ i := by simpa using hi
  rw [hoth i (by omega)]
  exact h.heap.unused i hi'
 ·rcases hcls i b hib with ⟨rfl, rfl⟩ | ⟨rfl, rfl⟩ | ⟨c1, c2, hbi⟩
  ·refine .inr (.inr ⟨gs', hrid, by rw [hgl, hl], fun i1 i2 x c c' g1 g2 => ?_, fun m ys g1 g2 => ?_, fun m p ys g1 g2 => ?_⟩)
   ·have l1 : i1 < X.length := by rw [← hgl]; exact (List.getElem?_eq_some_iff.1 g1).1
    have l2 : i2 < X.length := by rw [← hgl]; exact (List.getElem?_eq_some_iff.1 g2).1
    rw [hget i1 l1] at g1; rw [hget i2 l2] at g2
    exact hinj i1 i2 l1 l2 (q2 _ _ x c c' g1 g2)
   ·have l1 : m < X.length := by rw [← hgl]; exact (List.getElem?_eq_some_iff.1 g1).1
    rw [hget m l1] at g1; rw [hX' m l1] at g2
    exact q4 _ ys g1 g2
   ·have l1 : m < X.length := by rw [← hgl]; exact (List.getElem?_eq_some_iff.1 g1).1
    rw [hget m l1] at g1; rw [hX' m l1] at g2
    exact q3 _ p ys g1 g2
  ·rcases (h.heap.blk i _ h1).nxC rfl with ⟨z1, z2⟩ | ⟨g, cap, cur, z1, z2, z3, z4, z5, z6, z7, z8⟩
   ·refine .inl ⟨by rw [hoth i hne, z1], ?_⟩
    have : X.length = 0 := by have := congrArg List.length z2; simpa [Blk.es, fnEs] using this
    simp [Blk.es, fnEs, hl, this]
   ·refine .inr (.inl ⟨g, cap, cur, by rw [hoth i hne]; exact z1, z2, z3, z4, by simpa [Blk.es, fnEs, hl] using z5, z6, z7, fun m e' he => ?_⟩)
    simp only [Blk.es, fnEs, List.getElem?_map, Option.map_eq_some_iff] at he
    obtain ⟨m', hm', rfl⟩ := he
    obtain ⟨hm1, hm2⟩ := List.getElem?_eq_some_iff.1 hm'
    simp only [List.length_range, List.getElem_range] at hm1 hm2
    subst hm2
    refine ⟨rfl, fun m2 x hx => ?_⟩
    match m2, hx with
    | 0, hx =>
     simp only [outE, idO, List.getElem?_cons_zero, Option.some.injEq] at hx
     subst hx
     rw [hl] at hm1
     obtain ⟨s1, s2, s3, s4⟩ := hσ m hm1
     obtain ⟨u, u1, u2, u3⟩ := (z8 m (outE rid f len m) (by simp [Blk.es, fnEs, hm1])).2 0 (.row rid (σ m) (len m)) (by simp [outE, s2])
     refine ⟨u, u1, ?_, u3⟩
     rw [lenO_at, s4, ← s3]
     generalize len m = l at u2 ⊢
     cases u2 with
     | row _ _ _ g c gs2 et2 y1 y2 y3 y4 =>
      rw [q] at y1
      injection y1 with y1 y5
      subst y1
      exact .row _ _ _ g c _ _ hrid (by rw [hget m hm1]; exact y2) y3 y4
     | rowNil _ _ gs2 et2 y1 y2 =>
      rw [q] at y1
      injection y1 with y1 y5
      subst y1
      exact .rowNil _ _ _ _ hrid (by rw [hget m hm1]; exact y2)
  ·rcases h.heap.blk i b hbi with ⟨z1, z2⟩ | ⟨g, cap, cur, z1, z2, z3, z4, z5, z6, z7, z8⟩ | hX
   ·exact .inl ⟨by rw [hoth i c1, z1], z2⟩
   ·refine .inr (.inl ⟨g, cap, cur, by rw [hoth i c1, z1], z2, z3, z4, z5, z6, z7, fun m e' he => ⟨(z8 m e' he).1, fun m2 x hx => ?_⟩⟩)
    obtain ⟨u, u1, u2, u3⟩ := (z8 m e' he).2 m2 x hx
    exact ⟨u, u1, noR0_rep q hoth (noRB_es (noRH_at hb hbi (by omega)) he hx) u2, u3⟩
   ·exact .inr (.inr (hX.le (hoth i c1) (fun x hx => ⟨(hX.occ hx).1, (hX.occ hx).2.1⟩) fun x _ => rfl))
 ·obtain ⟨b1, hb1⟩ := oldB i bi hi
  obtain ⟨b2, hb2⟩ := oldB i2 bi2 hi2
  exact h.heap.sep i i2 b1 b2 x hb1 hb2 (occ2 i x x1) (occ2 i2 x x2)
 ·rcases hcls i _ hi with ⟨_, d2⟩ | ⟨_, d2⟩ | ⟨c1, c2, hbi⟩
  ·cases d2
  ·cases d2
  ·obtain ⟨p1, p2⟩ := h.heap.pins i i2 l hbi
   exact ⟨by rw [hoth i2 (noPin_ne hp hbi)]; exact p1, p2⟩
 ·have hx : noR2 rid (look st.s i) = true := by
   have : ∀ (l : List (Nat × AVal)), (l.all fun q => noR2 rid q.2) = true → noR2 rid (look l i) = true := fun l => by
    induction l with
    | nil => intro _; rfl
    | cons c l ih =>
     intro hc
     rw [List.all_cons, Bool.and_eq_true] at hc
     obtain ⟨j, x⟩ := c
     simp only [look]
     split
     ·exact hc.1
     ·exact ih hc.2
   exact this st.s hs
  exact noR2_rep q hoth hx (h.slots i)
/-- Two rows exchanged, as it is written. -/
theorem gs_swap (o rid a b : Nat) {et et' : TypeId} {k : IntKind} {X : List (List Int)} {n : Nat} {st : St} (h1 : st.h[o]? = some (some (.outs et rid n (fun m => if m = b then some a else if m = a then some b else idO m) (fun m => if m = b then (X.getD a []).length else if m = a then (X.getD b []).length else lenO X m)))) (h2 : st.h[rid]? = some (some (.rows et' k X))) (hnX : n = X.length) (ha : a < X.length) (hb' : b < X.length)
  (hs : (st.s.all fun q => noR2 rid q.2) = true) (hb : noRH rid o 0 st.h = true) (hp : noPin st.h rid = true) :
  GS w0 st ⟨st.n, st.s, (st.h.set o (some (.outs et rid ((X.set a (X.getD b [])).set b (X.getD a [])).length idO (lenO ((X.set a (X.getD b [])).set b (X.getD a [])))))).set rid (some (.rows et' k ((X.set a (X.getD b [])).set b (X.getD a []))))⟩ := by
 refine gs_perm o rid (fun m => if m = b then a else if m = a then b else m) h1 h2 hnX (fun m hm => ?_) (fun m m' hm hm' e => ?_) (by simp) hs hb hp
 ·refine ⟨by split <;> (try split) <;> omega, ?_, ?_, ?_⟩
  ·by_cases e1 : m = b
   ·subst e1; simp
   ·by_cases e2 : m = a
    ·subst e2; simp [e1]
    ·simp [e1, e2, idO]
  ·by_cases e1 : m = b
   ·subst e1; simp
   ·by_cases e2 : m = a
    ·subst e2; simp [e1]
    ·simp [e1, e2, lenO]
  ·rw [List.getD_eq_getElem?_getD, List.getElem?_set, List.length_set, List.getElem?_set]
   by_cases e1 : b = m
   ·subst e1; simp [hb']
   ·by_cases e2 : a = m
    ·subst e2; rw [if_neg e1, if_pos rfl, if_pos ha, if_neg (Ne.symm e1), if_pos rfl]; rfl
    ·rw [if_neg e1, if_neg e2, if_neg (Ne.symm e1), if_neg (Ne.symm e2), List.getD_eq_getElem?_getD]
 ·split at e <;> split at e <;> (try split at e) <;> (try split at e) <;> omega
end
end Go.AX
