/-
 Functions that change blocks of their caller's with references among them (closures that change what they have with them): what is said of them, how it is shown, how they are called. The call of a function that changes blocks of its caller's; naming a place; freezing a cell that refers to places; a row cut short.  Conditions: none.
-/
import Derived.Test.YtlpikingpnenkaaAxIn
import Derived.Test.YtlpikingpnenkaaAxOp
import Derived.Test.YtlpikingpnenkaaAxCy
set_option linter.unusedSimpArgs false
set_option linter.unusedVariables false
namespace Go.AX
open Go Go.RowKit
/-- Handed blocks of the caller's own (B), the first K of which stay where they lie, and 'args' (by these places), it answers r; the blocks then are B'. -/
def InG (P : Program) (f : FuncId) (B : List Blk) (K : Nat) (args : List Loc → List AVal) (r : AVal) (B' : List Blk) : Prop :=
 K ≤ B.length ∧ K ≤ B'.length ∧ ∀ (w0 w : World) (F : Fz) (φ : Phi) (vs : Array Value), Below w0.heap.size w0 w → RelH F φ w0.heap.size (B.map some) w → (args ((List.range K).map φ)).length = vs.size →
  (∀ (i : Nat) (x : AVal) (v : Value), (args ((List.range K).map φ))[i]? = some x → vs[i]? = some v → RepV F φ x v) →
  Calls P f vs w fun e w' => ∃ v F' φ', e = .returned v ∧ FLe F F' ∧ RelH F' φ' w0.heap.size (B'.map some) w' ∧ RepV F' φ' r v ∧ (∀ i, i < K → φ' i = φ i) ∧ Below w0.heap.size w0 w'
section
variable {P : Program} {T : Tab} {F : Fz} {φ : Phi} {w0 : World} {w : World}
theorem InG_intro (hT : TabOk P T) {f : FuncId} {fn : Func} {c : Code} {n : Nat} {l : List ResultVar} {B B' : List Blk} {K : Nat} {args : List Loc → List AVal} {r : AVal} (hf : P.funcs[f]? = some fn) (hb : fn.body = some c) (hn : fn.ntmps = n) (hl : fn.results = l.toArray)
  (hle : ∀ ls, (args ls).length ≤ n) (hK : K ≤ B.length) (hK' : K ≤ B'.length) (hnp : B.all Blk.np = true) (hnp' : B'.all Blk.np = true) (hr0 : ren (List.range B'.length) r = r) (hB' : ∀ b, b ∈ B' → renB (List.range B'.length) b = b) (hN : B.length + K ≤ bigId) (hN' : B'.length + K ≤ bigId)
  (h : ∀ w0 (ls : List Loc), ls.length = K → AWP P w0 c (Ends T l r (B' ++ pinL 0 ls)) ⟨n, enumA 0 (args ls), (B ++ pinL 0 ls).map some⟩) : InG P f B K args r B' := by
 refine ⟨hK, hK', ?_⟩
 intro w0 w F φ vs hbel hrelh hlen hargs
 have lsl : ((List.range K).map φ).length = K := by simp
 have get : ∀ (Q : List Blk) (j : Nat) (b : Blk), ((Q ++ pinL 0 ((List.range K).map φ)).map some)[j]? = some (some b) → (j < Q.length ∧ (Q.map some)[j]? = some (some b)) ∨ (Q.length ≤ j ∧ j < Q.length + K ∧ b = .pin (j - Q.length) (φ (j - Q.length))) := by
  intro Q j b hj
  rw [List.getElem?_map, List.getElem?_append] at hj
  split at hj
  ·rename_i c
   exact .inl ⟨c, by rw [List.getElem?_map]; exact hj⟩
  ·rename_i c
   rw [pinL_get, List.getElem?_map] at hj
   have hlt : j - Q.length < K := by
    rcases Nat.lt_or_ge (j - Q.length) K with q | q
    ·exact q
    ·rw [List.getElem?_eq_none (by simpa using q)] at hj; simp at hj
   rw [List.getElem?_range hlt] at hj
   simp only [Option.map_some, Option.some.injEq, Nat.zero_add] at hj
   exact .inr ⟨by omega, by omega, hj.symm⟩
 have noPin : ∀ (Q : List Blk), Q.all Blk.np = true → ∀ (j i : Nat) (l : Loc), (Q.map some)[j]? = some (some (.pin i l)) → False := fun Q hQ j i l hj => by
  rw [List.getElem?_map] at hj
  cases hq : Q[j]? with
  | none => rw [hq] at hj; cases hj
  | some b =>
   rw [hq] at hj
   simp only [Option.map_some, Option.some.injEq] at hj
   have := List.all_eq_true.1 hQ b (List.mem_of_getElem? hq)
   rw [hj] at this; cases this
 have hne : ∀ i, i < B.length → φ i ≠ .unused := fun i hi e => by
  have hx : (B.map some)[i]? = some (some B[i]) := by rw [List.getElem?_map, List.getElem?_eq_getElem hi]; rfl
  rcases hrelh.blk i _ hx with ⟨q, _⟩ | ⟨g, cap, cur, q, _⟩ | hX
  ·rw [e] at q; cases q
  ·rw [e] at q; cases q
  ·exact hX.unused' e
 have hlt : ∀ i, φ i ≠ .unused → i < B.length := fun i hu => by
  rcases Nat.lt_or_ge i B.length with q | q
  ·exact q
  ·exact absurd (hrelh.unused i (by simpa using q)) hu
 have hple : PLe φ (fun j => if j < B.length then φ j else if j < B.length + K then .nils else .unused) := fun i hu => if_pos (hlt i hu)
 have hrel2 : RelH F (fun j => if j < B.length then φ j else if j < B.length + K then .nils else .unused) w0.heap.size ((B ++ pinL 0 ((List.range K).map φ)).map some) w := by
  refine ⟨hrelh.agree, fun id hid => ?_, fun id b hib => ?_, fun i j bi bj g hi hj h1 h2 => ?_, hrelh.good, fun j i l hj => ?_⟩
  ·simp only [List.length_map, List.length_append, pinL_len, List.length_range] at hid
   simp only [if_neg (show ¬ id < B.length by omega), if_neg (show ¬ id < B.length + K by omega)]
  ·rcases get B id b hib with ⟨q1, q2⟩ | ⟨q1, q2, rfl⟩
   ·exact (hrelh.blk id b q2).le (FLe.refl F) hple (fun _ _ hg _ => hg) fun _ _ => rfl
   ·exact .inl ⟨by simp only [if_neg (show ¬ id < B.length by omega), if_pos q2], rfl⟩
  ·rcases get B i bi hi with ⟨q1, q2⟩ | ⟨q1, q2, rfl⟩
   ·rcases get B j bj hj with ⟨p1, p2⟩ | ⟨p1, p2, rfl⟩
    ·simp only [if_pos q1] at h1
     simp only [if_pos p1] at h2
     exact hrelh.sep i j _ _ _ q2 p2 h1 h2
    ·simp only [if_neg (show ¬ j < B.length by omega), if_pos p2] at h2; exact False.elim h2
   ·simp only [if_neg (show ¬ i < B.length by omega), if_pos q2] at h1; exact False.elim h1
  ·rcases get B j _ hj with ⟨q1, q2⟩ | ⟨q1, q2, q3⟩
   ·exact (noPin B hnp j i l q2).elim
   ·injection q3 with e1 e2
    subst e1 e2
    exact ⟨if_pos (by omega), hne _ (by omega)⟩
 refine calls_of_wp hf hb ?_
 have hle' := hle ((List.range K).map φ)
 refine wp_mono (h w0 _ lsl F _ _ w ⟨hrel2, ?_, fun i => ?_, rfl, hbel⟩) ?_
 ·simp; omega
 ·show RepV F _ (look (enumA 0 (args ((List.range K).map φ))) i) _
  rw [look_enumA, if_pos (Nat.zero_le _), Nat.sub_zero]
  cases hi : (args ((List.range K).map φ))[i]? with
  | none => exact .junk _
  | some x =>
   have hil : i < vs.size := by
    rw [← hlen]
    rcases Nat.lt_or_ge i (args ((List.range K).map φ)).length with q | q
    ·exact q
    ·rw [List.getElem?_eq_none q] at hi; cases hi
   have hv : vs[i]? = some vs[i] := Array.getElem?_eq_getElem hil
   have : (vs ++ Array.replicate (fn.ntmps - vs.size) undef).getD i undef = vs[i] := by
    rw [Array.getD_eq_getD_getElem?, Array.getElem?_append_left hil, hv]; rfl
   rw [this]
   exact (hargs i x _ hi hv).le (FLe.refl F) hple
 ·intro e a' w' hq
  obtain ⟨st', F', φ', ⟨he, hc, ρ, hr, hw⟩, hF, hrel⟩ := hq
  obtain ⟨v, v1, v2⟩ := res_ok hT hrel hl hc
  have hbig : φ' bigId = .unused := hrel.heap.unused _ hw.big
  rw [hr] at v2
  have hrel' : Rel F' φ' w0 { st' with s := [] } a' w' := ⟨hrel.heap, hrel.size, fun i => .junk _, hrel.defers, hrel.below⟩
  have h2 := (hrel'.wk hw).heap
  have v3 := ren_rep hbig v2
  generalize phiR φ' ρ = φ2 at h2 v3
  have hpin : ∀ i, i < K → φ2 i = φ i := fun i hi => by
   refine (h2.pins (B'.length + i) i (φ i) ?_).1
   rw [List.getElem?_map, List.getElem?_append_right (by omega), pinL_get, List.getElem?_map, show B'.length + i - B'.length = i by omega, List.getElem?_range hi]
   simp
  have h3 : RelH F' (phiR φ2 (List.range B'.length)) w0.heap.size (B'.map some) w' := by
   refine h2.ren ?_ List.nodup_range (by simp) fun i b hib => ?_
   ·simp only [List.length_map, List.length_append, pinL_len, List.length_range]; exact hN'
   ·have hi : i < B'.length := by
     rcases Nat.lt_or_ge i B'.length with q | q
     ·exact q
     ·rw [List.getElem?_eq_none (by simpa using q)] at hib; cases hib
    refine ⟨i, List.getElem?_range hi, ?_⟩
    rw [List.getElem?_map] at hib ⊢
    rw [List.getElem?_append_left (by omega)]
    have hb2 : renB (List.range B'.length) b = b := by
     cases hq : B'[i]? with
     | none => rw [hq] at hib; cases hib
     | some p =>
      rw [hq] at hib; simp only [Option.map_some, Option.some.injEq] at hib
      exact hB' b (by rw [← hib]; exact List.mem_of_getElem? hq)
    rw [hb2]; exact hib
  have hbig2 : φ2 bigId = .unused := h2.unused _ (by simp only [List.length_map, List.length_append, pinL_len, List.length_range]; exact hN')
  have v4 : RepV F' (phiR φ2 (List.range B'.length)) r v := ren_rep hbig2 (by rw [hr0]; exact v3)
  have hR : ∃ v2 F' φ', Ending.returned v = .returned v2 ∧ FLe F F' ∧ RelH F' φ' w0.heap.size (B'.map some) w' ∧ RepV F' φ' r v2 ∧ (∀ i, i < K → φ' i = φ i) ∧ Below w0.heap.size w0 w' :=
   ⟨v, F', _, rfl, hF.1, h3, v4, fun i hi => by simp only [phiR, List.getElem?_range (show i < B'.length by omega)]; exact hpin i hi, hrel.below⟩
  rcases he with rfl | rfl
  ·exact ⟨hrel.defers, v, v1, hR⟩
  ·exact ⟨hrel.defers, v, v1, hR⟩
/-! ### the call -/
def AtG (H : List (Option Blk)) (J : List Nat) : List Nat → List Blk → Prop
 | [], [] => True
 | j :: js, b :: B => H[j]? = some (some (renB J b)) ∧ AtG H J js B
 | _, _ => False
theorem AtG.len {H : List (Option Blk)} {J : List Nat} : ∀ {js : List Nat} {B : List Blk}, AtG H J js B → js.length = B.length
 | [], [], _ => rfl
 | j :: js, b :: B, h => by simp [AtG.len h.2]
 | [], _ :: _, h => h.elim
 | _ :: _, [], h => h.elim
theorem AtG.get {H : List (Option Blk)} {J : List Nat} : ∀ {js : List Nat} {B : List Blk}, AtG H J js B → ∀ (k j : Nat), js[k]? = some j → ∃ b, B[k]? = some b ∧ H[j]? = some (some (renB J b))
 | [], [], _, k, j, h => by simp at h
 | j0 :: js, b :: B, h, 0, j, hj => by simp at hj; subst hj; exact ⟨b, rfl, h.1⟩
 | j0 :: js, b :: B, h, k + 1, j, hj => AtG.get h.2 k j (by simpa using hj)
 | [], _ :: _, h, _, _, _ => h.elim
 | _ :: _, [], h, _, _, _ => h.elim
def PinG (H : List (Option Blk)) : List Nat → List Loc → Prop
 | _, [] => True
 | j :: js, l :: ls => (∃ p : Nat, H[p]? = some (some (Blk.pin j l))) ∧ PinG H js ls
 | [], _ :: _ => False
theorem PinG.get {H : List (Option Blk)} : ∀ {js : List Nat} {ls : List Loc}, PinG H js ls → ∀ (k : Nat) (l : Loc), ls[k]? = some l → ∃ j p : Nat, js[k]? = some j ∧ H[p]? = some (some (Blk.pin j l))
 | _, [], _, k, l, h => by simp at h
 | j :: js, l0 :: ls, h, 0, l, hl => by simp at hl; subst hl; obtain ⟨p, hp⟩ := h.1; exact ⟨j, p, rfl, hp⟩
 | j :: js, l0 :: ls, h, k + 1, l, hl => PinG.get (js := js) h.2 k l (by simpa using hl)
 | [], _ :: _, h, _, _, _ => h.elim
/-- What the callee sees of what is handed in: block j is its k-th one. -/
inductive ArgsG (H : List (Option Blk)) (js : List Nat) : List AVal → List AVal → Prop
 | nil : ArgsG H js [] []
 | own (k : Nat) {j n : Nat} {l m : List AVal} : js[k]? = some j → ArgsG H js l m → ArgsG H js (.own j n :: l) (.own k n :: m)
 | ptr (k : Nat) {j a b : Nat} {l m : List AVal} : js[k]? = some j → ArgsG H js l m → ArgsG H js (.ptr j a b :: l) (.ptr k a b :: m)
 | abs (k p : Nat) {j a b : Nat} {o : Loc} {l m : List AVal} : js[k]? = some j → H[p]? = some (some (Blk.pin j o)) → ArgsG H js l m → ArgsG H js (.abs o a b :: l) (.ptr k a b :: m)
 | cons {x y : AVal} {l m : List AVal} : ArgOk (killL H js) x y → ArgsG H js l m → ArgsG H js (x :: l) (y :: m)
abbrev ArgG1 (H : List (Option Blk)) (js : List Nat) (x y : AVal) : Prop :=
 (∃ k j n : Nat, js[k]? = some j ∧ x = .own j n ∧ y = .own k n) ∨ (∃ k j a b : Nat, js[k]? = some j ∧ x = .ptr j a b ∧ y = .ptr k a b) ∨ (∃ (k p j a b : Nat) (o : Loc), js[k]? = some j ∧ H[p]? = some (some (Blk.pin j o)) ∧ x = .abs o a b ∧ y = .ptr k a b) ∨ ArgOk (killL H js) x y
theorem ArgsG.get {H : List (Option Blk)} {js : List Nat} : ∀ {l m : List AVal}, ArgsG H js l m → l.length = m.length ∧ ∀ (i : Nat) (x y : AVal), l[i]? = some x → m[i]? = some y → ArgG1 H js x y
 | _, _, .nil => ⟨rfl, fun i x y h => by simp at h⟩
 | _, _, .own k hk t => by
  obtain ⟨h1, h2⟩ := t.get
  refine ⟨by simp [h1], fun i u v hu hv => ?_⟩
  match i, hu, hv with
  | 0, hu, hv => simp at hu hv; subst hu hv; exact .inl ⟨_, _, _, hk, rfl, rfl⟩
  | i + 1, hu, hv => exact h2 i u v (by simpa using hu) (by simpa using hv)
 | _, _, .ptr k hk t => by
  obtain ⟨h1, h2⟩ := t.get
  refine ⟨by simp [h1], fun i u v hu hv => ?_⟩
  match i, hu, hv with
  | 0, hu, hv => simp at hu hv; subst hu hv; exact .inr (.inl ⟨_, _, _, _, hk, rfl, rfl⟩)
  | i + 1, hu, hv => exact h2 i u v (by simpa using hu) (by simpa using hv)
 | _, _, .abs k p hk hp t => by
  obtain ⟨h1, h2⟩ := t.get
  refine ⟨by simp [h1], fun i u v hu hv => ?_⟩
  match i, hu, hv with
  | 0, hu, hv => simp at hu hv; subst hu hv; exact .inr (.inr (.inl ⟨_, _, _, _, _, _, hk, hp, rfl, rfl⟩))
  | i + 1, hu, hv => exact h2 i u v (by simpa using hu) (by simpa using hv)
 | _, _, .cons h t => by
  obtain ⟨h1, h2⟩ := t.get
  refine ⟨by simp [h1], fun i u v hu hv => ?_⟩
  match i, hu, hv with
  | 0, hu, hv => simp at hu hv; subst hu hv; exact .inr (.inr (.inr h))
  | i + 1, hu, hv => exact h2 i u v (by simpa using hu) (by simpa using hv)
/-- The callee's names, as the caller's. -/
def sgm (n : Nat) (js : List Nat) (K m : Nat) : List Nat := js.take K ++ (List.range (m - K)).map (fun i => n + i)
theorem sgm_len {n K m : Nat} {js : List Nat} (h1 : K ≤ js.length) (h2 : K ≤ m) : (sgm n js K m).length = m := by
 simp [sgm, Nat.min_eq_left h1]; omega
theorem sgm_lo {n K m i : Nat} {js : List Nat} (h1 : K ≤ js.length) (hi : i < K) : (sgm n js K m)[i]? = js[i]? := by
 unfold sgm
 rw [List.getElem?_append_left (by simp; omega), List.getElem?_take, if_pos hi]
theorem sgm_hi {n K m i : Nat} {js : List Nat} (h1 : K ≤ js.length) (hi : K ≤ i) (hm : i < m) : (sgm n js K m)[i]? = some (n + (i - K)) := by
 unfold sgm
 have e : (js.take K).length = K := by simp; omega
 rw [List.getElem?_append_right (by omega), e, List.getElem?_map, List.getElem?_range (by omega)]
 rfl
def setB : List (Option Blk) → List Nat → List Blk → List (Option Blk)
 | H, j :: js, b :: B => setB (H.set j (some b)) js B
 | H, _, _ => H
theorem setB_len : ∀ (js : List Nat) (B : List Blk) (H : List (Option Blk)), (setB H js B).length = H.length
 | j :: js, b :: B, H => by rw [setB, setB_len js B]; simp
 | [], _, _ => by simp [setB]
 | _ :: _, [], _ => by simp [setB]
theorem setB_not : ∀ (js : List Nat) (B : List Blk) (H : List (Option Blk)) {j : Nat}, j ∉ js → (setB H js B)[j]? = H[j]?
 | i :: js, b :: B, H, j, h => by
  simp only [List.mem_cons, not_or] at h
  rw [setB, setB_not js B _ h.2, List.getElem?_set_ne (Ne.symm h.1)]
 | [], _, _, _, _ => by simp [setB]
 | _ :: _, [], _, _, _ => by simp [setB]
theorem setB_at : ∀ (js : List Nat) (B : List Blk) (H : List (Option Blk)), js.Nodup → (∀ j, j ∈ js → j < H.length) → ∀ (k j : Nat) (b : Blk), js[k]? = some j → B[k]? = some b → (setB H js B)[j]? = some (some b)
 | i :: js, q :: B, H, hn, hl, 0, j, b, h1, h2 => by
  simp at h1 h2
  subst h1 h2
  rw [setB, setB_not js B _ (List.nodup_cons.1 hn).1, List.getElem?_set_self (hl i (List.mem_cons_self ..))]
 | i :: js, q :: B, H, hn, hl, k + 1, j, b, h1, h2 => by
  rw [setB]
  exact setB_at js B _ (List.nodup_cons.1 hn).2 (fun j hj => by simpa using hl j (List.mem_cons_of_mem _ hj)) k j b (by simpa using h1) (by simpa using h2)
 | [], _, _, _, _, k, j, b, h1, _ => by simp at h1
 | _ :: _, [], _, _, _, k, j, b, _, h2 => by simp at h2
/-- The caller's blocks behind the call. -/
def plG (H : List (Option Blk)) (js : List Nat) (K : Nat) (B' : List Blk) : List (Option Blk) :=
 setB (killL H js) (js.take K) ((B'.take K).map (renB (sgm H.length js K B'.length))) ++ (B'.drop K).map fun b => some (renB (sgm H.length js K B'.length) b)
theorem nI0_move {F F' : Fz} {φ' φ2 : Phi} {σ : List Nat} (hσ : ∀ i, φ' i ≠ .unused → ∃ s, σ[i]? = some s ∧ φ2 s = φ' i) {x : AVal} {u : Value} (hx : nI0 x = true) (h : RepV F' φ' x u) : RepV F φ2 (ren0 σ x) u := by
 cases x <;> simp only [nI0, Bool.false_eq_true] at hx
 case own id n =>
  simp only [ren0, renI]
  cases h with
  | own _ _ g cap sz et q1 q2 q3 =>
   obtain ⟨s, s1, s2⟩ := hσ id (by rw [q1]; simp)
   rw [s1]; exact .own _ _ g cap sz et (by simp only [Option.getD_some]; rw [s2, q1]) q2 q3
  | ownNil _ q =>
   obtain ⟨s, s1, s2⟩ := hσ id (by rw [q]; simp)
   rw [s1]; exact .ownNil _ (by simp only [Option.getD_some]; rw [s2, q])
 case ownN id n =>
  simp only [ren0, renI]
  cases h with
  | ownN _ _ g cap sz et q1 q2 q3 =>
   obtain ⟨s, s1, s2⟩ := hσ id (by rw [q1]; simp)
   rw [s1]; exact .ownN _ _ g cap sz et (by simp only [Option.getD_some]; rw [s2, q1]) q2 q3
 case ptr id i j =>
  simp only [ren0, renI]
  cases h with
  | ptr _ _ _ g cap sz et q1 =>
   obtain ⟨s, s1, s2⟩ := hσ id (by rw [q1]; simp)
   rw [s1]; exact .ptr _ _ _ g cap sz et (by simp only [Option.getD_some]; rw [s2, q1])
 case mp id =>
  simp only [ren0, renI]
  cases h with
  | mp _ g q1 =>
   obtain ⟨s, s1, s2⟩ := hσ id (by rw [q1]; simp)
   rw [s1]; exact .mp _ g (by simp only [Option.getD_some]; rw [s2, q1])
 case row id i n =>
  simp only [ren0, renI]
  cases h with
  | row _ _ _ g c gs et q1 q2 q3 q4 =>
   obtain ⟨s, s1, s2⟩ := hσ id (by rw [q1]; simp)
   rw [s1]; exact .row _ _ _ g c gs et (by simp only [Option.getD_some]; rw [s2, q1]) q2 q3 q4
  | rowNil _ _ gs et q1 q2 =>
   obtain ⟨s, s1, s2⟩ := hσ id (by rw [q1]; simp)
   rw [s1]; exact .rowNil _ _ gs et (by simp only [Option.getD_some]; rw [s2, q1]) q2
 case rowp id i j =>
  simp only [ren0, renI]
  cases h with
  | rowp _ _ _ g c gs et q1 q2 =>
   obtain ⟨s, s1, s2⟩ := hσ id (by rw [q1]; simp)
   rw [s1]; exact .rowp _ _ _ g c gs et (by simp only [Option.getD_some]; rw [s2, q1]) q2
 all_goals (cases h; constructor <;> assumption)
theorem nIB_leaf {b : Blk} (hb : nIB b = true) {i j : Nat} {e : List AVal} {x : AVal} (he : b.es[i]? = some e) (hx : e[j]? = some x) : nI0 x = true := by
 cases b with
 | ints et k xs =>
  simp only [Blk.es, intEs, List.getElem?_map, Option.map_eq_some_iff] at he
  obtain ⟨n, _, rfl⟩ := he
  match j, hx with
  | 0, hx => simp at hx; subst hx; rfl
 | pin _ _ => simp [nIB] at hb
 | xo _ =>
  match i, he with
  | 0, he => simp [Blk.es] at he; subst he; simp at hx
 | rows _ _ _ =>
  match i, he with
  | 0, he => simp [Blk.es] at he; subst he; simp at hx
 | outs et rid n f len =>
  simp only [Blk.es, fnEs, List.getElem?_map, Option.map_eq_some_iff] at he
  obtain ⟨m, _, rfl⟩ := he
  match j, hx with
  | 0, hx =>
   simp only [outE, List.getElem?_cons_zero, Option.some.injEq] at hx
   subst hx
   split <;> rfl
 | gen et sz es =>
  have h1 := List.all_eq_true.1 hb e (List.mem_of_getElem? he)
  exact all_get h1 hx
theorem BlkOk.move {F F' : Fz} {φ' φ2 : Phi} {σ : List Nat} {base k s : Nat} {w : World} {b : Blk} (h : BlkOk F' φ' base w k b) (hF : ∀ g, F' g = none → F g = none) (hσ : ∀ i, φ' i ≠ .unused → ∃ s, σ[i]? = some s ∧ φ2 s = φ' i) (hs : φ2 s = φ' k) (hb : nIB b = true) : BlkOk F φ2 base w s (renB σ b) := by
 obtain ⟨r1, r2, r3⟩ := renB_es σ b
 rcases h with ⟨p1, p2⟩ | ⟨g, cap, cur, p1, p2, p3, p4, p5, p6, p7, p8⟩ | hX
 rotate_left 2
 ·refine .inr (.inr ?_)
  have hx : BlkX F φ2 base w s b := hX.le hs (fun x hx => ⟨(hX.occ hx).1, hF x (hX.occ hx).2.1⟩) fun x _ => rfl
  cases b <;> first | exact hx | exact False.elim hX
 ·exact .inl ⟨by rw [hs]; exact p1, by rw [r1, p2]; rfl⟩
 ·refine .inr (.inl ⟨g, cap, cur, by rw [hs, r2, r3]; exact p1, p2, hF g p3, by rw [r3]; exact p4, by rw [r1]; simpa using p5, p6, by rw [r2]; exact p7, fun i e he => ?_⟩)
  rw [r1, List.getElem?_map] at he
  cases hq : b.es[i]? with
  | none => rw [hq] at he; cases he
  | some e' =>
   rw [hq] at he; simp at he; subst he
   refine ⟨by rw [r2]; simpa using (p8 i e' hq).1, fun j x hx => ?_⟩
   rw [List.getElem?_map] at hx
   cases hq2 : e'[j]? with
   | none => rw [hq2] at hx; cases hx
   | some y =>
    rw [hq2] at hx; simp at hx; subst hx
    obtain ⟨u, u1, u2, u3⟩ := (p8 i e' hq).2 j y hq2
    exact ⟨u, by rw [r2]; exact u1, nI0_move hσ (nIB_leaf hb hq hq2) u2, u3⟩
end
end Go.AX
set_option linter.unusedSimpArgs false
set_option linter.unusedVariables false
namespace Go.AX
open Go Go.RowKit
section
variable {P : Program} {T : Tab} {w0 : World}
/-- Numbers and truth values, or some of them. -/
def flatT : AVal → Bool
 | .tup l => l.all flatA
 | x => flatA x
theorem flatT_rep {F F' : Fz} {φ φ' : Phi} {x : AVal} {v : Value} (hx : flatT x = true) (h : RepV F φ x v) : RepV F' φ' x v := by
 cases x
 case tup l =>
  cases h with
  | tup _ vs h1 h2 => exact .tup _ _ h1 fun i x v a b => flat_rep (List.all_eq_true.1 hx x (List.mem_of_getElem? a)) (h2 i x v a b)
 all_goals exact flat_rep hx h
theorem plG_len {H : List (Option Blk)} {js : List Nat} {K : Nat} {B' : List Blk} : (plG H js K B').length = H.length + (B'.length - K) := by
 simp [plG, setB_len, killL_len]
theorem plG_cls {H : List (Option Blk)} {js : List Nat} {K : Nat} {B' : List Blk} (hnd : js.Nodup) (hK : K ≤ js.length) (hK' : K ≤ B'.length) (hlt : ∀ j, j ∈ js → j < H.length) {id : Nat} {b : Blk} (h : (plG H js K B')[id]? = some (some b)) :
  (id ∉ js ∧ id < H.length ∧ H[id]? = some (some b)) ∨ (∃ (i : Nat) (b' : Blk), B'[i]? = some b' ∧ b = renB (sgm H.length js K B'.length) b' ∧ (sgm H.length js K B'.length)[i]? = some id) := by
 generalize hσ : sgm H.length js K B'.length = σ
 unfold plG at h
 rw [hσ] at h
 have hl : (setB (killL H js) (js.take K) ((B'.take K).map (renB σ))).length = H.length := by rw [setB_len, killL_len]
 rw [List.getElem?_append, hl] at h
 split at h
 ·rename_i hid
  rcases Classical.em (id ∈ js.take K) with c | c
  ·obtain ⟨k, hk⟩ := List.getElem?_of_mem c
   have hk2 : k < K ∧ js[k]? = some id := by
    rw [List.getElem?_take] at hk
    split at hk
    ·rename_i q; exact ⟨q, hk⟩
    ·cases hk
   have hkB : k < B'.length := by omega
   have hq : ((B'.take K).map (renB σ))[k]? = some (renB σ B'[k]) := by
    rw [List.getElem?_map, List.getElem?_take, if_pos hk2.1, List.getElem?_eq_getElem hkB]; rfl
   rw [setB_at (js.take K) _ _ (hnd.sublist (List.take_sublist ..)) (fun j hj => by rw [killL_len]; exact hlt j (List.mem_of_mem_take hj)) k id _ hk hq] at h
   simp only [Option.some.injEq] at h
   exact .inr ⟨k, B'[k], List.getElem?_eq_getElem hkB, h.symm, by rw [← hσ, sgm_lo hK hk2.1]; exact hk2.2⟩
  ·rw [setB_not _ _ _ c] at h
   have hn := killL_none js _ h
   rw [killL_not js _ hn] at h
   exact .inl ⟨hn, hid, h⟩
 ·rename_i hid
  rw [List.getElem?_map, List.getElem?_drop] at h
  cases hq : B'[K + (id - H.length)]? with
  | none => rw [hq] at h; cases h
  | some b' =>
   rw [hq] at h
   simp only [Option.map_some, Option.some.injEq] at h
   have hlt' := (List.getElem?_eq_some_iff.1 hq).1
   refine .inr ⟨K + (id - H.length), b', hq, h.symm, ?_⟩
   rw [← hσ, sgm_hi hK (by omega) hlt']
   congr 1; omega
theorem AWPL_gK (K' : List Nat) (js : List Nat) (ls : List Loc) (H2 : List (Option Blk)) {st : St} {all : Array Oper} {Q : Exit → St → Prop} {rest : List Oper} {o : Oper} {fo : Operand} {args : Array Operand} {tys : Array TypeId} {d f : Nat} {caps : List AVal} {B B' : List Blk} {K : Nat} {ag : List Loc → List AVal} {r : AVal}
  (hP : InG P f B K ag r B') (hop : o.op = .call ⟨.value fo, args, tys⟩) (hdst : o.dst = some d) (hpc : pcOf all st.s o.guard = (true, true)) (hf : opd st.s fo = .func f caps) (hcall : ∀ args w, (callFunc f args).run P w = .ok (.enter f args) w)
  (hnd : js.Nodup) (hb : AtG st.h js js B) (hpin : PinG st.h js ls) (hls : ls.length = K) (hargs : ArgsG st.h js ((args.toList.map fun x => sv (opd st.s x)) ++ caps) (ag ls)) (hsc : (args.toList.all fun x => sc true (opd st.s x)) = true) (hd : d < st.n) (hr : flatT r = true) (hB' : B'.all nIB = true) (hlen : st.h.length ≤ bigId) (hH2 : plG st.h js K B' = H2)
  (h : ∀ st', (⟨st.n, keepL K' (putL st.s d r), H2⟩ : St) = st' → AWPL P w0 all Q rest st') : AWPL P w0 all Q (o :: rest) st := by
 intro F φ a w hrel
 have hwant : Region.wanted o (yielded all a.tmps) = true := by rw [pc_wanted hrel (by rw [hpc]), hpc]
 refine wpList_step fun K2 hK => ?_
 rw [if_pos hwant]
 have hfr := opd_rep hrel fo
 rw [hf] at hfr
 obtain ⟨cv, hcv, hcl, hcr⟩ : ∃ cv : Array Value, a.eval fo = .func (.func f) #[] cv ∧ caps.length = cv.size ∧ ∀ (i : Nat) (x : AVal) (v : Value), caps[i]? = some x → cv[i]? = some v → RepV F φ x v := by
  generalize a.eval fo = u at hfr
  cases hfr with | func _ _ vs h1 h2 => exact ⟨vs, rfl, h1, h2⟩
 have hrun : (execOp a.eval o).run P w = .ok (.enter f (args.map a.eval ++ cv)) w := by
  simp only [execOp, hop, resolve, hcv, Deferred.ofValue, Sem.run_bind, Sem.run_pure, Result.andThen_ok, invoke, Array.empty_append, hcall]
 unfold Oper.wp
 rw [hrun]
 obtain ⟨g1, g2⟩ := hargs.get
 obtain ⟨hKB, hKB', hP⟩ := hP
 have hjl := hb.len
 have hkill := hrel.heap.killL js
 have hle : FLe F (addOwn F φ (killL st.h js) w) := fun b o h => by simp [addOwn, h]
 have jsAt : ∀ k, k < B.length → ∃ j, js[k]? = some j := fun k hk => ⟨_, List.getElem?_eq_getElem (by omega)⟩
 have hjlt : ∀ j, j ∈ js → j < st.h.length := fun j hj => by
  obtain ⟨k, hk⟩ := List.getElem?_of_mem hj
  obtain ⟨p, _, hb1⟩ := hb.get k j hk
  exact Blk.ext_lt hb1
 have hren : RelH F (phiR φ js) w0.heap.size (B.map some) w := hrel.heap.ren hlen hnd (by simp [hjl]) fun i b hib => by
  rw [List.getElem?_map] at hib
  cases hq : B[i]? with
  | none => rw [hq] at hib; cases hib
  | some b0 =>
   rw [hq] at hib
   simp only [Option.map_some, Option.some.injEq] at hib
   subst hib
   obtain ⟨j, hj⟩ := jsAt i (List.getElem?_eq_some_iff.1 hq).1
   obtain ⟨b1, hb1, hH⟩ := hb.get i j hj
   rw [hq] at hb1; cases hb1
   exact ⟨j, hj, hH⟩
 have hphi : ∀ k j, js[k]? = some j → phiR φ js k = φ j := fun k j hj => by simp only [phiR, hj]
 have hcell : RelH (addOwn F φ (killL st.h js) w) (phiR φ js) w0.heap.size (B.map some) w := by
  refine ⟨(addOwn_agree hkill).1, hren.unused, fun k b hk => ?_, hren.sep, (addOwn_agree hkill).2, hren.pins⟩
  refine (hren.blk k b hk).leO hle (PLe.refl _) (fun g ho _ hg _ => ?_) fun _ _ => rfl
  unfold addOwn
  rw [hg]
  simp only
  refine if_neg ?_
  rintro ⟨id', b', q1, q2⟩
  have hnm := killL_none js _ q1
  rw [killL_not js _ hnm] at q1
  have hkB : k < B.length := by
   have := (List.getElem?_eq_some_iff.1 hk).1
   simpa using this
  obtain ⟨j, hj⟩ := jsAt k hkB
  obtain ⟨b1, _, hbj⟩ := hb.get k j hj
  rw [hphi k j hj] at ho
  have := hrel.heap.sep id' j _ _ _ q1 hbj q2 ho
  rw [this] at hnm
  exact hnm (List.mem_of_getElem? hj)
 have hKl : ∀ k l, ls[k]? = some l → phiR φ js k = l := fun k l hl => by
  obtain ⟨j, p, hj, hp⟩ := hpin.get k l hl
  rw [hphi k j hj]
  exact (hrel.heap.pins p j l hp).1
 have hlsE : (List.range K).map (phiR φ js) = ls := by
  apply List.ext_getElem?
  intro k
  rw [List.getElem?_map]
  rcases Nat.lt_or_ge k K with c | c
  ·rw [List.getElem?_range c]
   have hk : ls[k]? = some ls[k] := List.getElem?_eq_getElem (by omega)
   rw [hk]
   exact congrArg some (hKl k _ hk)
  ·rw [List.getElem?_eq_none (by simpa using c), List.getElem?_eq_none (by omega)]; rfl
 have hc := hP w0 w (addOwn F φ (killL st.h js) w) (phiR φ js) (args.map a.eval ++ cv) hrel.below hcell (by rw [hlsE, ← g1]; simp [hcl]) (fun i y v hy hv => by
  rw [hlsE] at hy
  have hi : i < ((args.toList.map fun x => sv (opd st.s x)) ++ caps).length := by
   rw [g1]
   rcases Nat.lt_or_ge i (ag ls).length with c | c
   ·exact c
   ·rw [List.getElem?_eq_none c] at hy; cases hy
  have hx := List.getElem?_eq_getElem hi
  have hxv : RepV F φ (((args.toList.map fun x => sv (opd st.s x)) ++ caps)[i]) v := by
   rw [List.getElem?_append] at hx
   rw [Array.getElem?_append] at hv
   simp only [List.length_map, Array.length_toList] at hx
   simp only [Array.size_map] at hv
   split at hx
   ·rename_i hlt
    rw [if_pos hlt] at hv
    rw [List.getElem?_map, Array.getElem?_toList] at hx
    rw [Array.getElem?_map] at hv
    cases hq : args[i]? with
    | none => rw [hq] at hv; cases hv
    | some q =>
     rw [hq] at hx hv
     simp only [Option.map_some, Option.some.injEq] at hx hv
     rw [← hx, ← hv]
     exact ev_rep hrel (List.all_eq_true.1 hsc q (Array.mem_toList_iff.2 (Array.mem_of_getElem? hq)))
   ·rename_i hge
    rw [if_neg hge] at hv
    exact hcr _ _ v hx hv
  rcases g2 i _ y hx hy with ⟨k, j, n, hk, e1, rfl⟩ | ⟨k, j, m1, m2, hk, e1, rfl⟩ | ⟨k, p, j, m1, m2, o1, hk, hp, e1, rfl⟩ | hok
  ·rw [e1] at hxv
   cases hxv with
   | own _ _ g cap sz et' q1 q2 q3 => exact .own _ _ g cap sz et' (by rw [hphi k j hk]; exact q1) q2 q3
   | ownNil _ q => exact .ownNil _ (by rw [hphi k j hk]; exact q)
  ·rw [e1] at hxv
   cases hxv with
   | ptr _ _ _ g cap sz et' q1 => exact .ptr _ _ _ g cap sz et' (by rw [hphi k j hk]; exact q1)
  ·rw [e1] at hxv
   have hpj := (hrel.heap.pins p j o1 hp).1
   cases hxv with
   | abs g cap sz et' _ _ => exact .ptr _ _ _ g cap sz et' (by rw [hphi k j hk]; exact hpj)
  ·exact (argOk_rep (st := ⟨st.n, st.s, killL st.h js⟩) hkill hok hxv).le (FLe.refl _) (PLe0 _))
 refine hc.mono fun e w' ⟨v, F', φ', he, hF, hH', hv, hpin', hbw⟩ => ?_
 subst he
 refine hK _ _ ?_
 have hFF : FLe F F' := FLe.trans hle hF
 have hFn : ∀ g, F' g = none → F g = none := fun g hg => by
  cases hq : F g with
  | none => rfl
  | some o => have := hFF g o hq; rw [hg] at this; cases this
 have kept : ∀ {id : Nat} {b : Blk} {g : Nat}, id ∉ js → st.h[id]? = some (some b) → (φ id).occ g → w'.heap[g]? = w.heap[g]? ∧ F' g ≠ none := by
  intro id b g hn hb1 hg
  have h0 : (killL st.h js)[id]? = some (some b) := by rw [killL_not js _ hn]; exact hb1
  have h1 := addOwn_occ hkill h0 hg
  have hlt := hkill.occ_lt h0 hg
  have h2 : addOwn F φ (killL st.h js) w g = some w.heap[g] := by rw [h1]; exact Array.getElem?_eq_getElem hlt
  exact ⟨by rw [hH'.agree g _ (hF g _ h2), Array.getElem?_eq_getElem hlt], by rw [hF g _ h2]; simp⟩
 obtain ⟨φ2, hφ2⟩ : ∃ φ2 : Phi, φ2 = fun id => if id < st.h.length then φ id else φ' (K + (id - st.h.length)) := ⟨_, rfl⟩
 have hPL : PLe φ φ2 := fun id hu => by
  rw [hφ2]
  refine if_pos ?_
  rcases Nat.lt_or_ge id st.h.length with c | c
  ·exact c
  ·exact absurd (hrel.heap.unused id c) hu
 have hKj : K ≤ js.length := by omega
 have hφσ : ∀ i id, i < B'.length → (sgm st.h.length js K B'.length)[i]? = some id → φ2 id = φ' i := fun i id hi hid => by
  rcases Nat.lt_or_ge i K with c | c
  ·rw [sgm_lo hKj c] at hid
   have hlt := hjlt id (List.mem_of_getElem? hid)
   rw [hφ2]
   simp only [if_pos hlt]
   rw [hpin' i c, hphi i id hid]
  ·rw [sgm_hi hKj c hi] at hid
   injection hid with hid
   rw [hφ2]
   simp only
   rw [if_neg (by omega)]
   congr 1; omega
 have hσ : ∀ i, φ' i ≠ .unused → ∃ s, (sgm st.h.length js K B'.length)[i]? = some s ∧ φ2 s = φ' i := fun i hu => by
  have hi : i < B'.length := by
   rcases Nat.lt_or_ge i B'.length with c | c
   ·exact c
   ·exact absurd (hH'.unused i (by simpa using c)) hu
  have hl : i < (sgm st.h.length js K B'.length).length := by rw [sgm_len hKj hKB']; exact hi
  exact ⟨_, List.getElem?_eq_getElem hl, hφσ i _ hi (List.getElem?_eq_getElem hl)⟩
 have hB'at : ∀ i b', B'[i]? = some b' → (B'.map some)[i]? = some (some b') := fun i b' hq => by rw [List.getElem?_map, hq]; rfl
 have hnew : RelH F φ2 w0.heap.size (plG st.h js K B') w' := by
  refine ⟨fun b o hbo => hH'.agree b o (hFF b o hbo), fun id hid => ?_, fun id b hib => ?_, fun i j bi bj g hi hj h1 h2 => ?_, hrel.heap.good, fun j i l hj => ?_⟩
  ·rw [plG_len] at hid
   rw [hφ2]
   simp only
   rw [if_neg (by omega)]
   exact hH'.unused _ (by simp; omega)
  ·rcases plG_cls hnd hKj hKB' hjlt hib with ⟨q1, q2, q3⟩ | ⟨i, b', q1, rfl, q3⟩
   ·exact (hrel.heap.blk id b q3).le (FLe.refl F) hPL (fun _ _ hg _ => hg) fun x hx => (kept q1 q3 hx).1
   ·exact (hH'.blk i b' (hB'at i b' q1)).move hFn hσ (hφσ i id (List.getElem?_eq_some_iff.1 q1).1 q3) (List.all_eq_true.1 hB' b' (List.mem_of_getElem? q1))
  ·have old : ∀ {id : Nat}, id < st.h.length → φ2 id = φ id := fun {id} hid => by rw [hφ2]; exact if_pos hid
   rcases plG_cls hnd hKj hKB' hjlt hi with ⟨p1, p2, p3⟩ | ⟨i', bi', p1, rfl, p3⟩ <;> rcases plG_cls hnd hKj hKB' hjlt hj with ⟨q1, q2, q3⟩ | ⟨j', bj', q1, rfl, q3⟩
   ·rw [old p2] at h1; rw [old q2] at h2
    exact hrel.heap.sep i j _ _ _ p3 q3 h1 h2
   ·exfalso
    rw [old p2] at h1
    rw [hφσ j' j (List.getElem?_eq_some_iff.1 q1).1 q3] at h2
    have a1 := (kept p1 p3 h1).2
    exact a1 ((hH'.blk j' bj' (hB'at j' bj' q1)).occ h2).2.1
   ·exfalso
    rw [old q2] at h2
    rw [hφσ i' i (List.getElem?_eq_some_iff.1 p1).1 p3] at h1
    have a1 := (kept q1 q3 h2).2
    exact a1 ((hH'.blk i' bi' (hB'at i' bi' p1)).occ h1).2.1
   ·rw [hφσ i' i (List.getElem?_eq_some_iff.1 p1).1 p3] at h1
    rw [hφσ j' j (List.getElem?_eq_some_iff.1 q1).1 q3] at h2
    have := hH'.sep i' j' _ _ _ (hB'at i' bi' p1) (hB'at j' bj' q1) h1 h2
    subst this
    rw [p3] at q3
    injection q3
  ·rcases plG_cls hnd hKj hKB' hjlt hj with ⟨p1, p2, p3⟩ | ⟨i', b', p1, p2, p3⟩
   ·obtain ⟨a1, a2⟩ := hrel.heap.pins j i l p3
    exact ⟨by rw [hPL i (by rw [a1]; exact a2)]; exact a1, a2⟩
   ·have := List.all_eq_true.1 hB' b' (List.mem_of_getElem? p1)
    cases b' <;> simp [renB, nIB] at p2 this
 rw [hdst]
 subst hH2
 have hres : Rel F φ2 w0 ⟨st.n, st.s, plG st.h js K B'⟩ a w' := ⟨hnew, hrel.size, fun i => (hrel.slots i).le (FLe.refl F) hPL, hrel.defers, hbw⟩
 exact h _ rfl F φ2 _ w' ((hres.put hd (flatT_rep hr hv)).keep K')
/-- A block's place gets a name. -/
theorem AWP_pin (id : Nat) {b : Blk} {c : Code} {Q : Exit → St → Prop} {st : St} (hb : st.h[id]? = some (some b)) (h : ∀ l st', (⟨st.n, st.s, st.h ++ [some (.pin id l)]⟩ : St) = st' → AWP P w0 c Q st') : AWP P w0 c Q st := by
 intro F φ a w hr
 have hidl := Blk.ext_lt hb
 have hne : φ id ≠ .unused := fun e => by
  rcases hr.heap.blk id b hb with ⟨q, _⟩ | ⟨g, cap, cur, q, _⟩ | hX
  ·rw [e] at q; cases q
  ·rw [e] at q; cases q
  ·exact hX.unused' e
 obtain ⟨φ2, hφ2⟩ : ∃ φ2 : Phi, φ2 = fun i => if i = st.h.length then .nils else φ i := ⟨_, rfl⟩
 have hPL : PLe φ φ2 := fun i hu => by
  rw [hφ2]
  refine if_neg fun e => hu ?_
  rw [e]; exact hr.heap.unused _ (Nat.le_refl _)
 have hold : ∀ i b', (st.h ++ [some (Blk.pin id (φ id))])[i]? = some (some b') → (i < st.h.length ∧ st.h[i]? = some (some b')) ∨ (i = st.h.length ∧ b' = .pin id (φ id)) := fun i b' hi => by
  rw [List.getElem?_append] at hi
  split at hi
  ·rename_i q; exact .inl ⟨q, hi⟩
  ·rename_i q
   have : i - st.h.length = 0 := by
    rcases Nat.eq_zero_or_pos (i - st.h.length) with z | z
    ·exact z
    ·rw [List.getElem?_eq_none (by simp; omega)] at hi; cases hi
   rw [this] at hi
   simp at hi
   exact .inr ⟨by omega, hi.symm⟩
 have hφo : ∀ i, i < st.h.length → φ2 i = φ i := fun i hi => by rw [hφ2]; exact if_neg (by omega)
 have hrel : Rel F φ2 w0 ⟨st.n, st.s, st.h ++ [some (.pin id (φ id))]⟩ a w := by
  refine ⟨⟨hr.heap.agree, fun i hi => ?_, fun i b' hi => ?_, fun i j bi bj g hi hj h1 h2 => ?_, hr.heap.good, fun j i l hj => ?_⟩, hr.size, fun i => (hr.slots i).le (FLe.refl F) hPL, hr.defers, hr.below⟩
  ·simp only [List.length_append, List.length_cons, List.length_nil] at hi
   rw [hφ2]
   simp only
   rw [if_neg (by omega)]
   exact hr.heap.unused _ (by omega)
  ·rcases hold i b' hi with ⟨q1, q2⟩ | ⟨q1, rfl⟩
   ·exact (hr.heap.blk i b' q2).le (FLe.refl F) hPL (fun _ _ hg _ => hg) fun _ _ => rfl
   ·exact .inl ⟨by rw [hφ2]; exact if_pos q1, rfl⟩
  ·rcases hold i bi hi with ⟨q1, q2⟩ | ⟨q1, rfl⟩
   ·rcases hold j bj hj with ⟨r1, r2⟩ | ⟨r1, rfl⟩
    ·rw [hφo i q1] at h1; rw [hφo j r1] at h2
     exact hr.heap.sep i j _ _ _ q2 r2 h1 h2
    ·rw [hφ2] at h2; simp only [if_pos r1] at h2; exact False.elim h2
   ·rw [hφ2] at h1; simp only [if_pos q1] at h1; exact False.elim h1
  ·rcases hold j _ hj with ⟨q1, q2⟩ | ⟨q1, q2⟩
   ·obtain ⟨a1, a2⟩ := hr.heap.pins j i l q2
    exact ⟨by rw [hPL i (by rw [a1]; exact a2)]; exact a1, a2⟩
   ·injection q2 with e1 e2
    subst e1 e2
    exact ⟨hφo _ hidl, hne⟩
 exact h (φ id) _ rfl F φ2 a w hrel
/-- The same value, places by their names. -/
inductive AbsR (H : List (Option Blk)) : AVal → AVal → Prop
 | same (x : AVal) : AbsR H x x
 | abs (p i j k : Nat) (l : Loc) : H[p]? = some (some (.pin i l)) → AbsR H (.ptr i j k) (.abs l j k)
 | func (f : Nat) (l m : List AVal) : l.length = m.length → (∀ (i : Nat) (x y : AVal), l[i]? = some x → m[i]? = some y → AbsR H x y) → AbsR H (.func f l) (.func f m)
inductive AbsRs (H : List (Option Blk)) : List AVal → List AVal → Prop
 | nil : AbsRs H [] []
 | cons {x y : AVal} {l m : List AVal} : AbsR H x y → AbsRs H l m → AbsRs H (x :: l) (y :: m)
theorem AbsRs.get {H : List (Option Blk)} : ∀ {l m : List AVal}, AbsRs H l m → l.length = m.length ∧ ∀ (i : Nat) (x y : AVal), l[i]? = some x → m[i]? = some y → AbsR H x y
 | _, _, .nil => ⟨rfl, fun i x y h => by simp at h⟩
 | _, _, .cons (x := x) (y := y) h t => by
  obtain ⟨h1, h2⟩ := t.get
  refine ⟨by simp [h1], fun i u v hu hv => ?_⟩
  match i, hu, hv with
  | 0, hu, hv => simp at hu hv; subst hu hv; exact h
  | i + 1, hu, hv => exact h2 i u v (by simpa using hu) (by simpa using hv)
theorem AbsR.funcs {H : List (Option Blk)} {f : Nat} {l m : List AVal} (h : AbsRs H l m) : AbsR H (.func f l) (.func f m) := .func f l m h.get.1 h.get.2
theorem AbsR.rep {F : Fz} {φ : Phi} {w : World} {base : Nat} {H : List (Option Blk)} (h : RelH F φ base H w) {x y : AVal} (ha : AbsR H x y) : ∀ {v : Value}, RepV F φ x v → RepV F φ y v := by
 induction ha with
 | same x => exact fun hr => hr
 | abs p i j k l hp =>
  intro v hr
  have := (h.pins p i l hp).1
  cases hr with
  | ptr _ _ _ g cap sz et q1 =>
   rw [q1] at this
   rw [← this]
   exact .abs g cap sz et j k
 | func f l m hl _ ih =>
  intro v hr
  cases hr with | func _ _ vs hs h2 => ?_
  refine .func _ _ _ (by omega) fun i y v hy hv => ?_
  have hi : i < l.length := by
   rw [hl]
   rcases Nat.lt_or_ge i m.length with c | c
   ·exact c
   ·rw [List.getElem?_eq_none c] at hy; cases hy
  have hx := List.getElem?_eq_getElem hi
  exact ih i _ y hx hy (h2 i _ v hx hv)
theorem Rel.absR {F : Fz} {φ : Phi} {st : St} {a : Act} {w : World} (hr : Rel F φ w0 st a w) (i : Nat) (y : AVal) (ha : AbsR st.h (look st.s i) y) : Rel F φ w0 ⟨st.n, putL st.s i y, st.h⟩ a w := by
 refine ⟨hr.heap, hr.size, fun j => ?_, hr.defers, hr.below⟩
 have hs := hr.slots j
 simp only [look_putL]
 split
 ·rename_i e; subst e; exact ha.rep hr.heap hs
 ·exact hs
theorem AWPL_abs (i : Nat) (y : AVal) {all : Array Oper} {Q : Exit → St → Prop} {rest : List Oper} {st : St} (ha : AbsR st.h (look st.s i) y)
  (h : ∀ st', (⟨st.n, putL st.s i y, st.h⟩ : St) = st' → AWPL P w0 all Q rest st') : AWPL P w0 all Q rest st :=
 fun F φ a w hr => h _ rfl F φ a w (hr.absR i y ha)
/-- What a cell holds, as frozen: places by their names. -/
inductive FrzP (H : List (Option Blk)) (id : Nat) : AVal → AVal → Prop
 | ok {x y : AVal} {b : Blk} : getB H id = some b → ArgOk (onlyH H id b) x y → FrzP H id x y
 | abs (p i j k : Nat) (l : Loc) : H[p]? = some (some (.pin i l)) → FrzP H id (.ptr i j k) (.abs l j k)
 | ptrM (i : Nat) (et : TypeId) (sz : Nat) (es : List (List AVal)) (e f : List AVal) : getB H id = some (.gen et sz es) → es[i]? = some e → f.length = e.length →
   (∀ (j : Nat) (x y : AVal), e[j]? = some x → f[j]? = some y → FrzP H id x y) → FrzP H id (.ptr id i 0) (.immp f)
 | func (f : Nat) (l m : List AVal) : l.length = m.length → (∀ (i : Nat) (x y : AVal), l[i]? = some x → m[i]? = some y → FrzP H id x y) → FrzP H id (.func f l) (.func f m)
 | junk (x : AVal) : FrzP H id x .junk
inductive FrzPs (H : List (Option Blk)) (id : Nat) : List AVal → List AVal → Prop
 | nil : FrzPs H id [] []
 | cons {x y : AVal} {l m : List AVal} : FrzP H id x y → FrzPs H id l m → FrzPs H id (x :: l) (y :: m)
theorem FrzPs.get {H : List (Option Blk)} {id : Nat} : ∀ {l m : List AVal}, FrzPs H id l m → l.length = m.length ∧ ∀ (i : Nat) (x y : AVal), l[i]? = some x → m[i]? = some y → FrzP H id x y
 | _, _, .nil => ⟨rfl, fun i x y h => by simp at h⟩
 | _, _, .cons (x := x) (y := y) h t => by
  obtain ⟨h1, h2⟩ := t.get
  refine ⟨by simp [h1], fun i u v hu hv => ?_⟩
  match i, hu, hv with
  | 0, hu, hv => simp at hu hv; subst hu hv; exact h
  | i + 1, hu, hv => exact h2 i u v (by simpa using hu) (by simpa using hv)
theorem FrzPs.app {H : List (Option Blk)} {id : Nat} : ∀ {l m l' m' : List AVal}, FrzPs H id l m → FrzPs H id l' m' → FrzPs H id (l ++ l') (m ++ m')
 | _, _, _, _, .nil, h => h
 | _, _, _, _, .cons a t, h => .cons a (t.app h)
/-- A closure's own cell, k deep. -/
theorem FrzP.cyc {H : List (Option Blk)} {id f : Nat} {et : TypeId} {src caps : List AVal} (hb : getB H id = some (.gen et 1 [[.func f (src ++ [.ptr id 0 0])]])) (hc : FrzPs H id src caps) : ∀ k, FrzP H id (.ptr id 0 0) (cycA f caps k)
 | 0 => .junk _
 | k + 1 => .ptrM 0 et 1 _ [.func f (src ++ [.ptr id 0 0])] [.func f (caps ++ [cycA f caps k])] hb rfl rfl
   (FrzPs.get (.cons (.func f _ _ (FrzPs.get (.app hc (.cons (FrzP.cyc hb hc k) .nil))).1 (FrzPs.get (.app hc (.cons (FrzP.cyc hb hc k) .nil))).2) .nil)).2
theorem FrzP.rep {F : Fz} {φ : Phi} {w : World} {base : Nat} {H : List (Option Blk)} (h : RelH F φ base H w) {id : Nat} {b : Blk} (hb : H[id]? = some (some b)) {x y : AVal} (ha : FrzP H id x y) {w0 : World} (hbase : base = w0.heap.size) : ∀ {v : Value}, RepV F φ x v → RepV (addOwn F φ (onlyH H id b) w) φ0 y v := by
 subst hbase
 have ho := h.only hb
 have hgb : getB H id = some b := by unfold getB; rw [hb]
 have hidl := Blk.ext_lt hb
 induction ha with
 | ok hq ha =>
  intro v hr
  rw [hgb] at hq; cases hq
  exact argOk_rep (st := ⟨0, [], onlyH H id b⟩) ho ha hr
 | abs p i j k l hp =>
  intro v hr
  have := (h.pins p i l hp).1
  cases hr with
  | ptr _ _ _ g cap sz et q1 =>
   rw [q1] at this
   rw [← this]
   exact .abs g cap sz et j k
 | junk x => exact fun _ => .junk _
 | ptrM i et sz es e f hq he hl _ ih =>
  intro v hr
  rw [hgb] at hq
  injection hq with hq
  cases hr with | ptr _ _ _ g cap sz' et' q1 => ?_
  rcases (h.blk id b hb).atC q1 with ⟨p, _⟩ | ⟨g', cap', cur, p, p1, p2, p3, p4, p5, p6, p7⟩
  ·rw [q1] at p; cases p
  rw [q1] at p
  injection p with e1 e2 e3 e4
  subst e1 e2 e3 e4
  have hon : (onlyH H id b)[id]? = some (some b) := by unfold onlyH; rw [List.getElem?_set_self (by simpa using hidl)]
  have hcell : ∀ m, cellF (addOwn F φ (onlyH H id b) w) ⟨g, m, none⟩ = cur[m]? := by
   intro m
   unfold cellF
   rw [addOwn_own ho hon q1, p3]
   rfl
  have he' : b.es[i]? = some e := by rw [hq]; exact he
  have cell : ∀ (j : Nat) (y : AVal), f[j]? = some y → ∃ u, cur[i * b.sz + j]? = some u ∧ RepV (addOwn F φ (onlyH H id b) w) φ0 y u ∧ u.oneCell' = true := by
   intro j y hy
   have hj : j < f.length := by
    rcases Nat.lt_or_ge j f.length with c | c
    ·exact c
    ·rw [List.getElem?_eq_none c] at hy; cases hy
   have hx := List.getElem?_eq_getElem (show j < e.length by omega)
   obtain ⟨u, u1, u2, u3⟩ := (p7 i e he').2 j _ hx
   exact ⟨u, u1, ih j _ y hx hy u2, u3⟩
  refine .immp _ _ (fun j => (cur[i * b.sz + j]?).getD undef) (fun j y hy => ?_) (fun j y hy => ?_)
  ·obtain ⟨u, u1, u2, u3⟩ := cell j y hy
   rw [Addr.add_lit, hcell, Nat.add_zero, u1]; exact ⟨rfl, u3⟩
  ·obtain ⟨u, u1, u2, u3⟩ := cell j y hy
   rw [u1]; exact u2
 | func f l m hl _ ih =>
  intro v hr
  cases hr with | func _ _ vs hs h2 => ?_
  refine .func _ _ _ (by omega) fun i y v hy hv => ?_
  have hi : i < l.length := by
   rw [hl]
   rcases Nat.lt_or_ge i m.length with c | c
   ·exact c
   ·rw [List.getElem?_eq_none c] at hy; cases hy
  have hx := List.getElem?_eq_getElem hi
  exact ih i _ y hx hy (h2 i _ v hx hv)
theorem AWP_freezeP (i id : Nat) {b : Blk} {y : AVal} {c : Code} {Q : Exit → St → Prop} {st : St} (hb : st.h[id]? = some (some b)) (ha : FrzP st.h id (look st.s i) y)
  (h : ∀ st', (⟨st.n, putL st.s i y, st.h.set id none⟩ : St) = st' → AWP P w0 c Q st') : AWP P w0 c Q st := by
 intro F φ a w hr
 have hle : FLe F (addOwn F φ (onlyH st.h id b) w) := fun b o h => by simp [addOwn, h]
 have hrel : Rel (addOwn F φ (onlyH st.h id b) w) φ w0 ⟨st.n, putL st.s i y, st.h.set id none⟩ a w := by
  refine ⟨hr.heap.freeze hb, hr.size, fun j => ?_, hr.defers, hr.below⟩
  have hs := hr.slots j
  simp only [look_putL]
  split
  ·rename_i e
   subst e
   exact (ha.rep hr.heap hb rfl hs).le (FLe.refl _) (PLe0 φ)
  ·exact hs.le hle (PLe.refl _)
 exact wp_mono (h _ rfl _ φ a w hrel) fun e a' w' hq => hq.le (addOwn_fln (hr.heap.only hb))
end
end Go.AX
