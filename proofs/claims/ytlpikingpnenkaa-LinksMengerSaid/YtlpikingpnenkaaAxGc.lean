/-
 Functions that change blocks of their caller's with references among them (closures that change what they have with them): what is said of them, how it is shown, how they are called. The call of a function that changes blocks of its caller's; naming a place; freezing a cell that refers to places; a row cut short.  Conditions: none.
-/
import Derived.Test.YtlpikingpnenkaaAxIn
import Derived.Test.YtlpikingpnenkaaAxOp
import Derived.Test.YtlpikingpnenkaaAxN
set_option linter.unusedSimpArgs false
set_option linter.unusedVariables false
namespace Go.AX
open Go Go.RowKit
/-- Handed blocks of the caller's own (B), the first K of which stay where they lie, and 'args' (by these places), it answers r; the blocks then are B'. -/
def InG (P : Program) (f : FuncId) (B : List Blk) (K : Nat) (args : List Loc → List AVal) (r : AVal) (B' : List Blk) : Prop :=
 K ≤ B.length ∧ K ≤ B'.length ∧ ∀ (w0 w : World) (F : Fz) (φ : Phi) (vs : Array Value), Below w0.heap.size w0 w → RelH F φ w0.heap.size (B.map some) w → (args ((List.range K).map φ)).length = vs.size →
  (∀ (i : Nat) (x : AVal) (v : Value), (args ((List.range K).map φ))[i]? = some x → vs[i]? = some v → RepV F φ x v) →
  Calls P f vs w fun e w' => ∃ v F' φ', e = .returned v ∧ FLn w0 F F' ∧ RelH F' φ' w0.heap.size (B'.map some) w' ∧ RepV F' φ' r v ∧ (∀ i, i < K → φ' i = φ i) ∧ Below w0.heap.size w0 w'
section
variable {P : Program} {T : Tab} {F : Fz} {φ : Phi} {w0 : World} {w : World}
theorem InG_intro (hT : TabOk P T) {f : FuncId} {fn : Func} {c : Code} {n : Nat} {l : List ResultVar} {B B' : List Blk} {K : Nat} {args : List Loc → List AVal} {r : AVal} (hf : P.funcs[f]? = some fn) (hb : fn.body = some c) (hn : fn.ntmps = n) (hl : fn.results = l.toArray)
  (hle : ∀ ls, (args ls).length ≤ n) (hK : K ≤ B.length) (hK' : K ≤ B'.length) (hnp : B.all Blk.np = true) (hnp' : B'.all Blk.np = true) (hr0 : ren (List.range B'.length) r = r) (hB' : ∀ b, b ∈ B' → renB (List.range B'.length) b = b) (hN : B.length + K ≤ bigId) (hN' : B'.length + K ≤ bigId)
  (h : ∀ w0 (ls : List Loc), ls.length = K → AWP P w0 c (Ends T l r (B' ++ pinL 0 ls)) ⟨n, enumA 0 (args ls), (B ++ pinL 0 ls).map some⟩) : InG P f B K args r B' := by
 refine ⟨hK, hK', ?_⟩
 intro w0 w F φ vs hbel hrelh hlen hargs
 have lsl : ((List.range K).map φ).length = K := by simp
 have get : ∀ (Q : List Blk) (j : Nat) (b : Blk), ((Q ++ pinL 0 ((List.range K).map φ)).map some)[j]? = some (some b) → (j < Q.length ∧ (Q.map some)[j]? = some (some b)) ∨ (Q.length ≤ j ∧ j < Q.length + K ∧ b = .pin (j - Q.length) (φ (j - Q.length))) := by
  intro Q j b hj
  rw [List.getElem?_map, List.getElem?_append] at hj
  split at hj
  ·rename_i c
   exact .inl ⟨c, by rw [List.getElem?_map]; exact hj⟩
  ·rename_i c
   rw [pinL_get, List.getElem?_map] at hj
   have hlt : j - Q.length < K := by
    rcases Nat.lt_or_ge (j - Q.length) K with q | q
    ·exact q
    ·rw [List.getElem?_eq_none (by simpa using q)] at hj; simp at hj
   rw [List.getElem?_range hlt] at hj
   simp only [Option.map_some, Option.some.injEq, Nat.zero_add] at hj
   exact .inr ⟨by omega, by omega, hj.symm⟩
 have noPin : ∀ (Q : List Blk), Q.all Blk.np = true → ∀ (j i : Nat) (l : Loc), (Q.map some)[j]? = some (some (.pin i l)) → False := fun Q hQ j i l hj => by
  rw [List.getElem?_map] at hj
  cases hq : Q[j]? with
  | none => rw [hq] at hj; cases hj
  | some b =>
   rw [hq] at hj
   simp only [Option.map_some, Option.some.injEq] at hj
   have := List.all_eq_true.1 hQ b (List.mem_of_getElem? hq)
   rw [hj] at this; cases this
 have hne : ∀ i, i < B.length → φ i ≠ .unused := fun i hi e => by
  have hx : (B.map some)[i]? = some (some B[i]) := by rw [List.getElem?_map, List.getElem?_eq_getElem hi]; rfl
  rcases hrelh.blk i _ hx with ⟨q, _⟩ | ⟨g, cap, cur, q, _⟩ | hX
  ·rw [e] at q; cases q
  ·rw [e] at q; cases q
  ·exact hX.unused' e
 have hlt : ∀ i, φ i ≠ .unused → i < B.length := fun i hu => by
  rcases Nat.lt_or_ge i B.length with q | q
  ·exact q
  ·exact absurd (hrelh.unused i (by simpa using q)) hu
 have hple : PLe φ (fun j => if j < B.length then φ j else if j < B.length + K then .nils else .unused) := fun i hu => if_pos (hlt i hu)
 have hrel2 : RelH F (fun j => if j < B.length then φ j else if j < B.length + K then .nils else .unused) w0.heap.size ((B ++ pinL 0 ((List.range K).map φ)).map some) w := by
  refine ⟨hrelh.agree, fun id hid => ?_, fun id b hib => ?_, fun i j bi bj g hi hj h1 h2 => ?_, hrelh.good, fun j i l hj => ?_⟩
  ·simp only [List.length_map, List.length_append, pinL_len, List.length_range] at hid
   simp only [if_neg (show ¬ id < B.length by omega), if_neg (show ¬ id < B.length + K by omega)]
  ·rcases get B id b hib with ⟨q1, q2⟩ | ⟨q1, q2, rfl⟩
   ·exact (hrelh.blk id b q2).le (FLe.refl F) hple (fun _ _ hg _ => hg) fun _ _ => rfl
   ·exact .inl ⟨by simp only [if_neg (show ¬ id < B.length by omega), if_pos q2], rfl⟩
  ·rcases get B i bi hi with ⟨q1, q2⟩ | ⟨q1, q2, rfl⟩
   ·rcases get B j bj hj with ⟨p1, p2⟩ | ⟨p1, p2, rfl⟩
    ·simp only [if_pos q1] at h1
     simp only [if_pos p1] at h2
     exact hrelh.sep i j _ _ _ q2 p2 h1 h2
    ·simp only [if_neg (show ¬ j < B.length by omega), if_pos p2] at h2; exact False.elim h2
   ·simp only [if_neg (show ¬ i < B.length by omega), if_pos q2] at h1; exact False.elim h1
  ·rcases get B j _ hj with ⟨q1, q2⟩ | ⟨q1, q2, q3⟩
   ·exact (noPin B hnp j i l q2).elim
   ·injection q3 with e1 e2
    subst e1 e2
    exact ⟨if_pos (by omega), hne _ (by omega)⟩
 refine calls_of_wp hf hb ?_
 have hle' := hle ((List.range K).map φ)
 refine wp_mono (h w0 _ lsl F _ _ w ⟨hrel2, ?_, fun i => ?_, rfl, hbel⟩) ?_
 ·simp; omega
 ·show RepV F _ (look (enumA 0 (args ((List.range K).map φ))) i) _
  rw [look_enumA, if_pos (Nat.zero_le _), Nat.sub_zero]
  cases hi : (args ((List.range K).map φ))[i]? with
  | none => exact .junk _
  | some x =>
   have hil : i < vs.size := by
    rw [← hlen]
    rcases Nat.lt_or_ge i (args ((List.range K).map φ)).length with q | q
    ·exact q
    ·rw [List.getElem?_eq_none q] at hi; cases hi
   have hv : vs[i]? = some vs[i] := Array.getElem?_eq_getElem hil
   have : (vs ++ Array.replicate (fn.ntmps - vs.size) undef).getD i undef = vs[i] := by
    rw [Array.getD_eq_getD_getElem?, Array.getElem?_append_left hil, hv]; rfl
   rw [this]
   exact (hargs i x _ hi hv).le (FLe.refl F) hple
 ·intro e a' w' hq
  obtain ⟨st', F', φ', ⟨he, hc, ρ, hr, hw⟩, hF, hrel⟩ := hq
  obtain ⟨v, v1, v2⟩ := res_ok hT hrel hl hc
  have hbig : φ' bigId = .unused := hrel.heap.unused _ hw.big
  rw [hr] at v2
  have hrel' : Rel F' φ' w0 { st' with s := [] } a' w' := ⟨hrel.heap, hrel.size, fun i => .junk _, hrel.defers, hrel.below⟩
  have h2 := (hrel'.wk hw).heap
  have v3 := ren_rep hbig v2
  generalize phiR φ' ρ = φ2 at h2 v3
  have hpin : ∀ i, i < K → φ2 i = φ i := fun i hi => by
   refine (h2.pins (B'.length + i) i (φ i) ?_).1
   rw [List.getElem?_map, List.getElem?_append_right (by omega), pinL_get, List.getElem?_map, show B'.length + i - B'.length = i by omega, List.getElem?_range hi]
   simp
  have h3 : RelH F' (phiR φ2 (List.range B'.length)) w0.heap.size (B'.map some) w' := by
   refine h2.ren ?_ List.nodup_range (by simp) fun i b hib => ?_
   ·simp only [List.length_map, List.length_append, pinL_len, List.length_range]; exact hN'
   ·have hi : i < B'.length := by
     rcases Nat.lt_or_ge i B'.length with q | q
     ·exact q
     ·rw [List.getElem?_eq_none (by simpa using q)] at hib; cases hib
    refine ⟨i, List.getElem?_range hi, ?_⟩
    rw [List.getElem?_map] at hib ⊢
    rw [List.getElem?_append_left (by omega)]
    have hb2 : renB (List.range B'.length) b = b := by
     cases hq : B'[i]? with
     | none => rw [hq] at hib; cases hib
     | some p =>
      rw [hq] at hib; simp only [Option.map_some, Option.some.injEq] at hib
      exact hB' b (by rw [← hib]; exact List.mem_of_getElem? hq)
    rw [hb2]; exact hib
  have hbig2 : φ2 bigId = .unused := h2.unused _ (by simp only [List.length_map, List.length_append, pinL_len, List.length_range]; exact hN')
  have v4 : RepV F' (phiR φ2 (List.range B'.length)) r v := ren_rep hbig2 (by rw [hr0]; exact v3)
  have hR : ∃ v2 F' φ', Ending.returned v = .returned v2 ∧ FLn w0 F F' ∧ RelH F' φ' w0.heap.size (B'.map some) w' ∧ RepV F' φ' r v2 ∧ (∀ i, i < K → φ' i = φ i) ∧ Below w0.heap.size w0 w' :=
   ⟨v, F', _, rfl, hF, h3, v4, fun i hi => by simp only [phiR, List.getElem?_range (show i < B'.length by omega)]; exact hpin i hi, hrel.below⟩
  rcases he with rfl | rfl
  ·exact ⟨hrel.defers, v, v1, hR⟩
  ·exact ⟨hrel.defers, v, v1, hR⟩
/-! ### the call -/
def AtG (H : List (Option Blk)) (J : List Nat) : List Nat → List Blk → Prop
 | [], [] => True
 | j :: js, b :: B => H[j]? = some (some (renB J b)) ∧ AtG H J js B
 | _, _ => False
theorem AtG.len {H : List (Option Blk)} {J : List Nat} : ∀ {js : List Nat} {B : List Blk}, AtG H J js B → js.length = B.length
 | [], [], _ => rfl
 | j :: js, b :: B, h => by simp [AtG.len h.2]
 | [], _ :: _, h => h.elim
 | _ :: _, [], h => h.elim
theorem AtG.get {H : List (Option Blk)} {J : List Nat} : ∀ {js : List Nat} {B : List Blk}, AtG H J js B → ∀ (k j : Nat), js[k]? = some j → ∃ b, B[k]? = some b ∧ H[j]? = some (some (renB J b))
 | [], [], _, k, j, h => by simp at h
 | j0 :: js, b :: B, h, 0, j, hj => by simp at hj; subst hj; exact ⟨b, rfl, h.1⟩
 | j0 :: js, b :: B, h, k + 1, j, hj => AtG.get h.2 k j (by simpa using hj)
 | [], _ :: _, h, _, _, _ => h.elim
 | _ :: _, [], h, _, _, _ => h.elim
def PinG (H : List (Option Blk)) : List Nat → List Loc → Prop
 | _, [] => True
 | j :: js, l :: ls => (∃ p : Nat, H[p]? = some (some (Blk.pin j l))) ∧ PinG H js ls
 | [], _ :: _ => False
theorem PinG.get {H : List (Option Blk)} : ∀ {js : List Nat} {ls : List Loc}, PinG H js ls → ∀ (k : Nat) (l : Loc), ls[k]? = some l → ∃ j p : Nat, js[k]? = some j ∧ H[p]? = some (some (Blk.pin j l))
 | _, [], _, k, l, h => by simp at h
 | j :: js, l0 :: ls, h, 0, l, hl => by simp at hl; subst hl; obtain ⟨p, hp⟩ := h.1; exact ⟨j, p, rfl, hp⟩
 | j :: js, l0 :: ls, h, k + 1, l, hl => PinG.get (js := js) h.2 k l (by simpa using hl)
 | [], _ :: _, h, _, _, _ => h.elim
/-- What the callee sees of what is handed in: block j is its k-th one. -/
inductive ArgsG (H : List (Option Blk)) (js : List Nat) : List AVal → List AVal → Prop
 | nil : ArgsG H js [] []
 | own (k : Nat) {j n : Nat} {l m : List AVal} : js[k]? = some j → ArgsG H js l m → ArgsG H js (.own j n :: l) (.own k n :: m)
 | ptr (k : Nat) {j a b : Nat} {l m : List AVal} : js[k]? = some j → ArgsG H js l m → ArgsG H js (.ptr j a b :: l) (.ptr k a b :: m)
 | abs (k p : Nat) {j a b : Nat} {o : Loc} {l m : List AVal} : js[k]? = some j → H[p]? = some (some (Blk.pin j o)) → ArgsG H js l m → ArgsG H js (.abs o a b :: l) (.ptr k a b :: m)
 | cons {x y : AVal} {l m : List AVal} : ArgOk (killL H js) x y → ArgsG H js l m → ArgsG H js (x :: l) (y :: m)
abbrev ArgG1 (H : List (Option Blk)) (js : List Nat) (x y : AVal) : Prop :=
 (∃ k j n : Nat, js[k]? = some j ∧ x = .own j n ∧ y = .own k n) ∨ (∃ k j a b : Nat, js[k]? = some j ∧ x = .ptr j a b ∧ y = .ptr k a b) ∨ (∃ (k p j a b : Nat) (o : Loc), js[k]? = some j ∧ H[p]? = some (some (Blk.pin j o)) ∧ x = .abs o a b ∧ y = .ptr k a b) ∨ ArgOk (killL H js) x y
theorem ArgsG.get {H : List (Option Blk)} {js : List Nat} : ∀ {l m : List AVal}, ArgsG H js l m → l.length = m.length ∧ ∀ (i : Nat) (x y : AVal), l[i]? = some x → m[i]? = some y → ArgG1 H js x y
 | _, _, .nil => ⟨rfl, fun i x y h => by simp at h⟩
 | _, _, .own k hk t => by
  obtain ⟨h1, h2⟩ := t.get
  refine ⟨by simp [h1], fun i u v hu hv => ?_⟩
  match i, hu, hv with
  | 0, hu, hv => simp at hu hv; subst hu hv; exact .inl ⟨_, _, _, hk, rfl, rfl⟩
  | i + 1, hu, hv => exact h2 i u v (by simpa using hu) (by simpa using hv)
 | _, _, .ptr k hk t => by
  obtain ⟨h1, h2⟩ := t.get
  refine ⟨by simp [h1], fun i u v hu hv => ?_⟩
  match i, hu, hv with
  | 0, hu, hv => simp at hu hv; subst hu hv; exact .inr (.inl ⟨_, _, _, _, hk, rfl, rfl⟩)
  | i + 1, hu, hv => exact h2 i u v (by simpa using hu) (by simpa using hv)
 | _, _, .abs k p hk hp t => by
  obtain ⟨h1, h2⟩ := t.get
  refine ⟨by simp [h1], fun i u v hu hv => ?_⟩
  match i, hu, hv with
  | 0, hu, hv => simp at hu hv; subst hu hv; exact .inr (.inr (.inl ⟨_, _, _, _, _, _, hk, hp, rfl, rfl⟩))
  | i + 1, hu, hv => exact h2 i u v (by simpa using hu) (by simpa using hv)
 | _, _, .cons h t => by
  obtain ⟨h1, h2⟩ := t.get
  refine ⟨by simp [h1], fun i u v hu hv => ?_⟩
  match i, hu, hv with
  | 0, hu, hv => simp at hu hv; subst hu hv; exact .inr (.inr (.inr h))
  | i + 1, hu, hv => exact h2 i u v (by simpa using hu) (by simpa using hv)
/-- The callee's names, as the caller's. -/
def sgm (n : Nat) (js : List Nat) (K m : Nat) : List Nat := js.take K ++ (List.range (m - K)).map (fun i => n + i)
theorem sgm_len {n K m : Nat} {js : List Nat} (h1 : K ≤ js.length) (h2 : K ≤ m) : (sgm n js K m).length = m := by
 simp [sgm, Nat.min_eq_left h1]; omega
theorem sgm_lo {n K m i : Nat} {js : List Nat} (h1 : K ≤ js.length) (hi : i < K) : (sgm n js K m)[i]? = js[i]? := by
 unfold sgm
 rw [List.getElem?_append_left (by simp; omega), List.getElem?_take, if_pos hi]
theorem sgm_hi {n K m i : Nat} {js : List Nat} (h1 : K ≤ js.length) (hi : K ≤ i) (hm : i < m) : (sgm n js K m)[i]? = some (n + (i - K)) := by
 unfold sgm
 have e : (js.take K).length = K := by simp; omega
 rw [List.getElem?_append_right (by omega), e, List.getElem?_map, List.getElem?_range (by omega)]
 rfl
def setB : List (Option Blk) → List Nat → List Blk → List (Option Blk)
 | H, j :: js, b :: B => setB (H.set j (some b)) js B
 | H, _, _ => H
theorem setB_len : ∀ (js : List Nat) (B : List Blk) (H : List (Option Blk)), (setB H js B).length = H.length
 | j :: js, b :: B, H => by rw [setB, setB_len js B]; simp
 | [], _, _ => by simp [setB]
 | _ :: _, [], _ => by simp [setB]
theorem setB_not : ∀ (js : List Nat) (B : List Blk) (H : List (Option Blk)) {j : Nat}, j ∉ js → (setB H js B)[j]? = H[j]?
 | i :: js, b :: B, H, j, h => by
  simp only [List.mem_cons, not_or] at h
  rw [setB, setB_not js B _ h.2, List.getElem?_set_ne (Ne.symm h.1)]
 | [], _, _, _, _ => by simp [setB]
 | _ :: _, [], _, _, _ => by simp [setB]
theorem setB_at : ∀ (js : List Nat) (B : List Blk) (H : List (Option Blk)), js.Nodup → (∀ j, j ∈ js → j < H.length) → ∀ (k j : Nat) (b : Blk), js[k]? = some j → B[k]? = some b → (setB H js B)[j]? = some (some b)
 | i :: js, q :: B, H, hn, hl, 0, j, b, h1, h2 => by
  simp at h1 h2
  subst h1 h2
  rw [setB, setB_not js B _ (List.nodup_cons.1 hn).1, List.getElem?_set_self (hl i (List.mem_cons_self ..))]
 | i :: js, q :: B, H, hn, hl, k + 1, j, b, h1, h2 => by
  rw [setB]
  exact setB_at js B _ (List.nodup_cons.1 hn).2 (fun j hj => by simpa using hl j (List.mem_cons_of_mem _ hj)) k j b (by simpa using h1) (by simpa using h2)
 | [], _, _, _, _, k, j, b, h1, _ => by simp at h1
 | _ :: _, [], _, _, _, k, j, b, _, h2 => by simp at h2
/-- The caller's blocks behind the call. -/
def plG (H : List (Option Blk)) (js : List Nat) (K : Nat) (B' : List Blk) : List (Option Blk) :=
 setB (killL H js) (js.take K) ((B'.take K).map (renB (sgm H.length js K B'.length))) ++ (B'.drop K).map fun b => some (renB (sgm H.length js K B'.length) b)
theorem nI0_move {F F' : Fz} {φ' φ2 : Phi} {σ : List Nat} (hσ : ∀ i, φ' i ≠ .unused → ∃ s, σ[i]? = some s ∧ φ2 s = φ' i) {x : AVal} {u : Value} (hx : nI0 x = true) (h : RepV F' φ' x u) : RepV F φ2 (ren0 σ x) u := by
 cases x <;> simp only [nI0, Bool.false_eq_true] at hx
 case own id n =>
  simp only [ren0, renI]
  cases h with
  | own _ _ g cap sz et q1 q2 q3 =>
   obtain ⟨s, s1, s2⟩ := hσ id (by rw [q1]; simp)
   rw [s1]; exact .own _ _ g cap sz et (by simp only [Option.getD_some]; rw [s2, q1]) q2 q3
  | ownNil _ q =>
   obtain ⟨s, s1, s2⟩ := hσ id (by rw [q]; simp)
   rw [s1]; exact .ownNil _ (by simp only [Option.getD_some]; rw [s2, q])
 case ownN id n =>
  simp only [ren0, renI]
  cases h with
  | ownN _ _ g cap sz et q1 q2 q3 =>
   obtain ⟨s, s1, s2⟩ := hσ id (by rw [q1]; simp)
   rw [s1]; exact .ownN _ _ g cap sz et (by simp only [Option.getD_some]; rw [s2, q1]) q2 q3
 case ptr id i j =>
  simp only [ren0, renI]
  cases h with
  | ptr _ _ _ g cap sz et q1 =>
   obtain ⟨s, s1, s2⟩ := hσ id (by rw [q1]; simp)
   rw [s1]; exact .ptr _ _ _ g cap sz et (by simp only [Option.getD_some]; rw [s2, q1])
 case mp id =>
  simp only [ren0, renI]
  cases h with
  | mp _ g q1 =>
   obtain ⟨s, s1, s2⟩ := hσ id (by rw [q1]; simp)
   rw [s1]; exact .mp _ g (by simp only [Option.getD_some]; rw [s2, q1])
 case row id i n =>
  simp only [ren0, renI]
  cases h with
  | row _ _ _ g c gs et q1 q2 q3 q4 =>
   obtain ⟨s, s1, s2⟩ := hσ id (by rw [q1]; simp)
   rw [s1]; exact .row _ _ _ g c gs et (by simp only [Option.getD_some]; rw [s2, q1]) q2 q3 q4
  | rowNil _ _ gs et q1 q2 =>
   obtain ⟨s, s1, s2⟩ := hσ id (by rw [q1]; simp)
   rw [s1]; exact .rowNil _ _ gs et (by simp only [Option.getD_some]; rw [s2, q1]) q2
 case rowp id i j =>
  simp only [ren0, renI]
  cases h with
  | rowp _ _ _ g c gs et q1 q2 =>
   obtain ⟨s, s1, s2⟩ := hσ id (by rw [q1]; simp)
   rw [s1]; exact .rowp _ _ _ g c gs et (by simp only [Option.getD_some]; rw [s2, q1]) q2
 all_goals (cases h; constructor <;> assumption)
theorem nIB_leaf {b : Blk} (hb : nIB b = true) {i j : Nat} {e : List AVal} {x : AVal} (he : b.es[i]? = some e) (hx : e[j]? = some x) : nI0 x = true := by
 cases b with
 | ints et k xs =>
  simp only [Blk.es, intEs, List.getElem?_map, Option.map_eq_some_iff] at he
  obtain ⟨n, _, rfl⟩ := he
  match j, hx with
  | 0, hx => simp at hx; subst hx; rfl
 | pin _ _ => simp [nIB] at hb
 | xo _ =>
  match i, he with
  | 0, he => simp [Blk.es] at he; subst he; simp at hx
 | rows _ _ _ =>
  match i, he with
  | 0, he => simp [Blk.es] at he; subst he; simp at hx
 | outs et rid n f len =>
  simp only [Blk.es, fnEs, List.getElem?_map, Option.map_eq_some_iff] at he
  obtain ⟨m, _, rfl⟩ := he
  match j, hx with
  | 0, hx =>
   simp only [outE, List.getElem?_cons_zero, Option.some.injEq] at hx
   subst hx
   split <;> rfl
 | gen et sz es =>
  have h1 := List.all_eq_true.1 hb e (List.mem_of_getElem? he)
  exact all_get h1 hx
theorem BlkOk.move {F F' : Fz} {φ' φ2 : Phi} {σ : List Nat} {base k s : Nat} {w : World} {b : Blk} (h : BlkOk F' φ' base w k b) (hF : ∀ g, F' g = none → F g = none) (hσ : ∀ i, φ' i ≠ .unused → ∃ s, σ[i]? = some s ∧ φ2 s = φ' i) (hs : φ2 s = φ' k) (hb : nIB b = true) : BlkOk F φ2 base w s (renB σ b) := by
 obtain ⟨r1, r2, r3⟩ := renB_es σ b
 rcases h with ⟨p1, p2⟩ | ⟨g, cap, cur, p1, p2, p3, p4, p5, p6, p7, p8⟩ | hX
 rotate_left 2
 ·refine .inr (.inr ?_)
  have hx : BlkX F φ2 base w s b := hX.le hs (fun x hx => ⟨(hX.occ hx).1, hF x (hX.occ hx).2.1⟩) fun x _ => rfl
  cases b <;> first | exact hx | exact False.elim hX
 ·exact .inl ⟨by rw [hs]; exact p1, by rw [r1, p2]; rfl⟩
 ·refine .inr (.inl ⟨g, cap, cur, by rw [hs, r2, r3]; exact p1, p2, hF g p3, by rw [r3]; exact p4, by rw [r1]; simpa using p5, p6, by rw [r2]; exact p7, fun i e he => ?_⟩)
  rw [r1, List.getElem?_map] at he
  cases hq : b.es[i]? with
  | none => rw [hq] at he; cases he
  | some e' =>
   rw [hq] at he; simp at he; subst he
   refine ⟨by rw [r2]; simpa using (p8 i e' hq).1, fun j x hx => ?_⟩
   rw [List.getElem?_map] at hx
   cases hq2 : e'[j]? with
   | none => rw [hq2] at hx; cases hx
   | some y =>
    rw [hq2] at hx; simp at hx; subst hx
    obtain ⟨u, u1, u2, u3⟩ := (p8 i e' hq).2 j y hq2
    exact ⟨u, by rw [r2]; exact u1, nI0_move hσ (nIB_leaf hb hq hq2) u2, u3⟩
end
end Go.AX
set_option linter.unusedSimpArgs false
set_option linter.unusedVariables false
namespace Go.AX
open Go Go.RowKit
section
variable {P : Program} {T : Tab} {w0 : World}
/-- Numbers and truth values, or some of them. -/
def flatT : AVal → Bool
 | .tup l => l.all flatA
 | x => flatA x
theorem flatT_rep {F F' : Fz} {φ φ' : Phi} {x : AVal} {v : Value} (hx : flatT x = true) (h : RepV F φ x v) : RepV F' φ' x v := by
 cases x
 case tup l =>
  cases h with
  | tup _ vs h1 h2 => exact .tup _ _ h1 fun i x v a b => flat_rep (List.all_eq_true.1 hx x (List.mem_of_getElem? a)) (h2 i x v a b)
 all_goals exact flat_rep hx h
theorem plG_len {H : List (Option Blk)} {js : List Nat} {K : Nat} {B' : List Blk} : (plG H js K B').length = H.length + (B'.length - K) := by
 simp [plG, setB_len, killL_len]
theorem plG_cls {H : List (Option Blk)} {js : List Nat} {K : Nat} {B' : List Blk} (hnd : js.Nodup) (hK : K ≤ js.length) (hK' : K ≤ B'.length) (hlt : ∀ j, j ∈ js → j < H.length) {id : Nat} {b : Blk} (h : (plG H js K B')[id]? = some (some b)) :
  (id ∉ js ∧ id < H.length ∧ H[id]? = some (some b)) ∨ (∃ (i : Nat) (b' : Blk), B'[i]? = some b' ∧ b = renB (sgm H.length js K B'.length) b' ∧ (sgm H.length js K B'.length)[i]? = some id) := by
 generalize hσ : sgm H.length js K B'.length = σ
 unfold plG at h
 rw [hσ] at h
 have hl : (setB (killL H js) (js.take K) ((B'.take K).map (renB σ))).length = H.length := by rw [setB_len, killL_len]
 rw [List.getElem?_append, hl] at h
 split at h
 ·rename_i hid
  rcases Classical.em (id ∈ js.take K) with c | c
  ·obtain ⟨k, hk⟩ := List.getElem?_of_mem c
   have hk2 : k < K ∧ js[k]? = some id := by
    rw [List.getElem?_take] at hk
    split at hk
    ·rename_i q; exact ⟨q, hk⟩
    ·cases hk
   have hkB : k < B'.length := by omega
   have hq : ((B'.take K).map (renB σ))[k]? = some (renB σ B'[k]) := by
    rw [List.getElem?_map, List.getElem?_take, if_pos hk2.1, List.getElem?_eq_getElem hkB]; rfl
   rw [setB_at (js.take K) _ _ (hnd.sublist (List.take_sublist ..)) (fun j hj => by rw [killL_len]; exact hlt j (List.mem_of_mem_take hj)) k id _ hk hq] at h
   simp only [Option.some.injEq] at h
   exact .inr ⟨k, B'[k], List.getElem?_eq_getElem hkB, h.symm, by rw [← hσ, sgm_lo hK hk2.1]; exact hk2.2⟩
  ·rw [setB_not _ _ _ c] at h
   have hn := killL_none js _ h
   rw [killL_not js _ hn] at h
   exact .inl ⟨hn, hid, h⟩
 ·rename_i hid
  rw [List.getElem?_map, List.getElem?_drop] at h
  cases hq : B'[K + (id - H.length)]? with
  | none => rw [hq] at h; cases h
  | some b' =>
   rw [hq] at h
   simp only [Option.map_some, Option.some.injEq] at h
   have hlt' := (List.getElem?_eq_some_iff.1 hq).1
   refine .inr ⟨K + (id - H.length), b', hq, h.symm, ?_⟩
   rw [← hσ, sgm_hi hK (by omega) hlt']
   congr 1; omega
/-- A block's place gets a name. -/
theorem AWP_pin (id : Nat) {b : Blk} {c : Code} {Q : Exit → St → Prop} {st : St} (hb : st.h[id]? = some (some b)) (h : ∀ l st', (⟨st.n, st.s, st.h ++ [some (.pin id l)]⟩ : St) = st' → AWP P w0 c Q st') : AWP P w0 c Q st := by
 intro F φ a w hr
 have hidl := Blk.ext_lt hb
 have hne : φ id ≠ .unused := fun e => by
  rcases hr.heap.blk id b hb with ⟨q, _⟩ | ⟨g, cap, cur, q, _⟩ | hX
  ·rw [e] at q; cases q
  ·rw [e] at q; cases q
  ·exact hX.unused' e
 obtain ⟨φ2, hφ2⟩ : ∃ φ2 : Phi, φ2 = fun i => if i = st.h.length then .nils else φ i := ⟨_, rfl⟩
 have hPL : PLe φ φ2 := fun i hu => by
  rw [hφ2]
  refine if_neg fun e => hu ?_
  rw [e]; exact hr.heap.unused _ (Nat.le_refl _)
 have hold : ∀ i b', (st.h ++ [some (Blk.pin id (φ id))])[i]? = some (some b') → (i < st.h.length ∧ st.h[i]? = some (some b')) ∨ (i = st.h.length ∧ b' = .pin id (φ id)) := fun i b' hi => by
  rw [List.getElem?_append] at hi
  split at hi
  ·rename_i q; exact .inl ⟨q, hi⟩
  ·rename_i q
   have : i - st.h.length = 0 := by
    rcases Nat.eq_zero_or_pos (i - st.h.length) with z | z
    ·exact z
    ·rw [List.getElem?_eq_none (by simp; omega)] at hi; cases hi
   rw [this] at hi
   simp at hi
   exact .inr ⟨by omega, hi.symm⟩
 have hφo : ∀ i, i < st.h.length → φ2 i = φ i := fun i hi => by rw [hφ2]; exact if_neg (by omega)
 have hrel : Rel F φ2 w0 ⟨st.n, st.s, st.h ++ [some (.pin id (φ id))]⟩ a w := by
  refine ⟨⟨hr.heap.agree, fun i hi => ?_, fun i b' hi => ?_, fun i j bi bj g hi hj h1 h2 => ?_, hr.heap.good, fun j i l hj => ?_⟩, hr.size, fun i => (hr.slots i).le (FLe.refl F) hPL, hr.defers, hr.below⟩
  ·simp only [List.length_append, List.length_cons, List.length_nil] at hi
   rw [hφ2]
   simp only
   rw [if_neg (by omega)]
   exact hr.heap.unused _ (by omega)
  ·rcases hold i b' hi with ⟨q1, q2⟩ | ⟨q1, rfl⟩
   ·exact (hr.heap.blk i b' q2).le (FLe.refl F) hPL (fun _ _ hg _ => hg) fun _ _ => rfl
   ·exact .inl ⟨by rw [hφ2]; exact if_pos q1, rfl⟩
  ·rcases hold i bi hi with ⟨q1, q2⟩ | ⟨q1, rfl⟩
   ·rcases hold j bj hj with ⟨r1, r2⟩ | ⟨r1, rfl⟩
    ·rw [hφo i q1] at h1; rw [hφo j r1] at h2
     exact hr.heap.sep i j _ _ _ q2 r2 h1 h2
    ·rw [hφ2] at h2; simp only [if_pos r1] at h2; exact False.elim h2
   ·rw [hφ2] at h1; simp only [if_pos q1] at h1; exact False.elim h1
  ·rcases hold j _ hj with ⟨q1, q2⟩ | ⟨q1, q2⟩
   ·obtain ⟨a1, a2⟩ := hr.heap.pins j i l q2
    exact ⟨by rw [hPL i (by rw [a1]; exact a2)]; exact a1, a2⟩
   ·injection q2 with e1 e2
    subst e1 e2
    exact ⟨hφo _ hidl, hne⟩
 exact h (φ id) _ rfl F φ2 a w hrel
end
end Go.AX
