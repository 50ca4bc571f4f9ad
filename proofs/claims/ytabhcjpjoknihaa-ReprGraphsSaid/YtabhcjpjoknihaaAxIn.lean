/-
  Functions that change rows of their caller's in place: what is said of them, how it is shown, how they are called. Conditions: none.
-/
import Derived.Test.YtabhcjpjoknihaaAxU
set_option linter.unusedSimpArgs false
set_option linter.unusedVariables false
namespace Go.AX
open Go Go.RowKit

abbrev RowsI := List (TypeId × List Int)
def rowB (p : TypeId × List Int) : Blk := .ints p.1 .i64 p.2
def blksI (R : RowsI) : List Blk := R.map rowB
def pinL : Nat → List Loc → List Blk
  | _, [] => []
  | i, l :: r => .pin i l :: pinL (i + 1) r
theorem pinL_get : ∀ (ls : List Loc) (k j : Nat), (pinL k ls)[j]? = (ls[j]?).map fun l => Blk.pin (k + j) l
  | [], k, j => by simp [pinL]
  | l :: r, k, 0 => by simp [pinL]
  | l :: r, k, j + 1 => by
    simp only [pinL, List.getElem?_cons_succ]
    rw [pinL_get r (k + 1) j, show k + 1 + j = k + (j + 1) by omega]
theorem pinL_len : ∀ (ls : List Loc) (k : Nat), (pinL k ls).length = ls.length
  | [], k => rfl
  | l :: r, k => by simp [pinL, pinL_len r]

/-- Handed rows of the caller's own (R) and 'args', it answers r; the rows then are R'; they lie where they lay, and what else was there stays. -/
def InP (P : Program) (f : FuncId) (R : RowsI) (args : List AVal) (r : AVal) (R' : RowsI) : Prop :=
  R'.map (·.1) = R.map (·.1) ∧ ∀ (w0 w : World) (F : Fz) (φ : Phi) (vs : Array Value), Below w0.heap.size w0 w → RelH F φ w0.heap.size ((blksI R).map some) w → args.length = vs.size → (∀ (i : Nat) (x : AVal) (v : Value), args[i]? = some x → vs[i]? = some v → RepV F φ x v) →
    Calls P f vs w fun e w' => ∃ v F' φ', e = .returned v ∧ FLe F F' ∧ RelH F' φ' w0.heap.size ((blksI R').map some) w' ∧ RepV F' φ' r v ∧ (∀ i, i < R.length → φ' i = φ i) ∧ Below w0.heap.size w0 w'

section
variable {P : Program} {T : Tab} {F : Fz} {φ : Phi} {w0 w : World}

theorem In_intro (hT : TabOk P T) {f : FuncId} {fn : Func} {c : Code} {n : Nat} {l : List ResultVar} {R R' : RowsI} {args : List AVal} {r : AVal} (hf : P.funcs[f]? = some fn) (hb : fn.body = some c) (hn : fn.ntmps = n) (hl : fn.results = l.toArray)
    (hle : args.length ≤ n) (hets : R'.map (·.1) = R.map (·.1)) (hr0 : ∀ ρ, ren ρ r = r) (hN : R.length + R.length ≤ bigId)
    (h : ∀ w0 (ls : List Loc), ls.length = R.length → AWP P w0 c (Ends T l r (blksI R' ++ pinL 0 ls)) ⟨n, enumA 0 args, (blksI R ++ pinL 0 ls).map some⟩) : InP P f R args r R' := by
  refine ⟨hets, ?_⟩
  intro w0 w F φ vs hbel hrelh hlen hargs
  have hRl : R'.length = R.length := by have := congrArg List.length hets; simpa using this
  have hbl : (blksI R).length = R.length := by simp [blksI]
  have hbl' : (blksI R').length = R.length := by simp [blksI, hRl]
  have lsl : ((List.range R.length).map φ).length = R.length := by simp
  have get : ∀ (Q : RowsI) (hQ : (blksI Q).length = R.length) (j : Nat) (b : Blk), ((blksI Q ++ pinL 0 ((List.range R.length).map φ)).map some)[j]? = some (some b) → (j < R.length ∧ ((blksI Q).map some)[j]? = some (some b)) ∨ (R.length ≤ j ∧ j < R.length + R.length ∧ b = .pin (j - R.length) (φ (j - R.length))) := by
    intro Q hQ j b hj
    rw [List.getElem?_map, List.getElem?_append] at hj
    split at hj
    · rename_i c
      exact .inl ⟨by omega, by rw [List.getElem?_map]; exact hj⟩
    · rename_i c
      rw [pinL_get, List.getElem?_map] at hj
      have hlt : j - R.length < R.length := by
        rcases Nat.lt_or_ge (j - R.length) R.length with q | q
        · exact q
        · rw [hQ, List.getElem?_eq_none (by simpa using q)] at hj; simp at hj
      rw [hQ, List.getElem?_range hlt] at hj
      simp only [Option.map_some, Option.some.injEq, Nat.zero_add] at hj
      exact .inr ⟨by omega, by omega, hj.symm⟩
  have hne : ∀ i, i < R.length → φ i ≠ .unused := fun i hi e => by
    have hi' : i < (blksI R).length := by omega
    have hx : ((blksI R).map some)[i]? = some (some (blksI R)[i]) := by rw [List.getElem?_map, List.getElem?_eq_getElem hi']; rfl
    rcases hrelh.blk i _ hx with ⟨q, _⟩ | ⟨g, cap, cur, q, _⟩ | hX
    · rw [e] at q; cases q
    · rw [e] at q; cases q
    · exact hX.unused' e
  have hlt : ∀ i, φ i ≠ .unused → i < R.length := fun i hu => by
    rcases Nat.lt_or_ge i R.length with q | q
    · exact q
    · exact absurd (hrelh.unused i (by simpa [hbl] using q)) hu
  have hple : PLe φ (fun j => if j < R.length then φ j else if j < R.length + R.length then .nils else .unused) := fun i hu => if_pos (hlt i hu)
  have hrel2 : RelH F (fun j => if j < R.length then φ j else if j < R.length + R.length then .nils else .unused) w0.heap.size ((blksI R ++ pinL 0 ((List.range R.length).map φ)).map some) w := by
    refine ⟨hrelh.agree, fun id hid => ?_, fun id b hib => ?_, fun i j bi bj g hi hj h1 h2 => ?_, hrelh.good, fun j i l hj => ?_⟩
    · simp only [List.length_map, List.length_append, hbl, pinL_len, List.length_range] at hid
      simp only [if_neg (show ¬ id < R.length by omega), if_neg (show ¬ id < R.length + R.length by omega)]
    · rcases get R hbl id b hib with ⟨q1, q2⟩ | ⟨q1, q2, rfl⟩
      · exact (hrelh.blk id b q2).le (FLe.refl F) hple (fun _ _ hg _ => hg) fun _ _ => rfl
      · exact .inl ⟨by simp only [if_neg (show ¬ id < R.length by omega), if_pos q2], rfl⟩
    · rcases get R hbl i bi hi with ⟨q1, q2⟩ | ⟨q1, q2, rfl⟩
      · rcases get R hbl j bj hj with ⟨p1, p2⟩ | ⟨p1, p2, rfl⟩
        · simp only [if_pos q1] at h1
          simp only [if_pos p1] at h2
          exact hrelh.sep i j _ _ _ q2 p2 h1 h2
        · simp only [if_neg (show ¬ j < R.length by omega), if_pos p2] at h2; exact False.elim h2
      · simp only [if_neg (show ¬ i < R.length by omega), if_pos q2] at h1; exact False.elim h1
    · rcases get R hbl j _ hj with ⟨q1, q2⟩ | ⟨q1, q2, q3⟩
      · rw [List.getElem?_map, blksI, List.getElem?_map] at q2
        cases hq : R[j]? with
        | none => rw [hq] at q2; cases q2
        | some p => rw [hq] at q2; simp [rowB] at q2
      · injection q3 with e1 e2
        subst e1 e2
        exact ⟨if_pos (by omega), hne _ (by omega)⟩
  refine calls_of_wp hf hb ?_
  refine wp_mono (h w0 _ lsl F _ _ w ⟨hrel2, ?_, fun i => ?_, rfl, hbel⟩) ?_
  · simp; omega
  · show RepV F _ (look (enumA 0 args) i) _
    rw [look_enumA, if_pos (Nat.zero_le _), Nat.sub_zero]
    cases hi : args[i]? with
    | none => exact .junk _
    | some x =>
      have hil : i < vs.size := by
        rw [← hlen]
        rcases Nat.lt_or_ge i args.length with q | q
        · exact q
        · rw [List.getElem?_eq_none q] at hi; cases hi
      have hv : vs[i]? = some vs[i] := Array.getElem?_eq_getElem hil
      have : (vs ++ Array.replicate (fn.ntmps - vs.size) undef).getD i undef = vs[i] := by
        rw [Array.getD_eq_getD_getElem?, Array.getElem?_append_left hil, hv]; rfl
      rw [this]
      exact (hargs i x _ hi hv).le (FLe.refl F) hple
  · intro e a' w' hq
    obtain ⟨st', F', φ', ⟨he, hc, ρ, hr, hw⟩, hF, hrel⟩ := hq
    obtain ⟨v, v1, v2⟩ := res_ok hT hrel hl hc
    have hbig : φ' bigId = .unused := hrel.heap.unused _ hw.big
    rw [hr] at v2
    have hrel' : Rel F' φ' w0 { st' with s := [] } a' w' := ⟨hrel.heap, hrel.size, fun i => .junk _, hrel.defers, hrel.below⟩
    have h2 := (hrel'.wk hw).heap
    have v3 := ren_rep hbig v2
    generalize phiR φ' ρ = φ2 at h2 v3
    have hpin : ∀ i, i < R.length → φ2 i = φ i := fun i hi => by
      refine (h2.pins (R.length + i) i (φ i) ?_).1
      rw [List.getElem?_map, List.getElem?_append_right (by omega), pinL_get, List.getElem?_map, hbl', show R.length + i - R.length = i by omega, List.getElem?_range hi]
      simp
    have h3 : RelH F' (phiR φ2 (List.range R.length)) w0.heap.size ((blksI R').map some) w' := by
      refine h2.ren ?_ List.nodup_range (by simp [hbl']) fun i b hib => ?_
      · simp only [List.length_map, List.length_append, hbl', pinL_len, List.length_range]; exact hN
      · have hi : i < R.length := by
          rcases Nat.lt_or_ge i R.length with q | q
          · exact q
          · rw [List.getElem?_eq_none (by simp [hbl']; omega)] at hib; cases hib
        refine ⟨i, List.getElem?_range hi, ?_⟩
        rw [List.getElem?_map] at hib ⊢
        rw [List.getElem?_append_left (by omega)]
        have hb2 : renB (List.range R.length) b = b := by
          rw [blksI, List.getElem?_map] at hib
          cases hq : R'[i]? with
          | none => rw [hq] at hib; cases hib
          | some p => rw [hq] at hib; simp only [Option.map_some, Option.some.injEq] at hib; rw [← hib]; rfl
        rw [hb2]; exact hib
    have hbig2 : φ2 bigId = .unused := h2.unused _ (by simp only [List.length_map, List.length_append, hbl', pinL_len, List.length_range]; exact hN)
    have v4 : RepV F' (phiR φ2 (List.range R.length)) r v := ren_rep hbig2 (by rw [hr0]; exact v3)
    have hR : ∃ v2 F' φ', Ending.returned v = .returned v2 ∧ FLe F F' ∧ RelH F' φ' w0.heap.size ((blksI R').map some) w' ∧ RepV F' φ' r v2 ∧ (∀ i, i < R.length → φ' i = φ i) ∧ Below w0.heap.size w0 w' :=
      ⟨v, F', _, rfl, hF, h3, v4, fun i hi => by simp only [phiR, List.getElem?_range hi]; exact hpin i hi, hrel.below⟩
    rcases he with rfl | rfl
    · exact ⟨hrel.defers, v, v1, hR⟩
    · exact ⟨hrel.defers, v, v1, hR⟩

/-! ### the call -/
def AtI (H : List (Option Blk)) : List Nat → RowsI → Prop
  | [], [] => True
  | j :: js, p :: R => H[j]? = some (some (rowB p)) ∧ AtI H js R
  | _, _ => False
theorem AtI.len {H : List (Option Blk)} : ∀ {js : List Nat} {R : RowsI}, AtI H js R → js.length = R.length
  | [], [], _ => rfl
  | j :: js, p :: R, h => by simp [AtI.len h.2]
  | [], _ :: _, h => h.elim
  | _ :: _, [], h => h.elim
theorem AtI.get {H : List (Option Blk)} : ∀ {js : List Nat} {R : RowsI}, AtI H js R → ∀ (k j : Nat), js[k]? = some j → ∃ p, R[k]? = some p ∧ H[j]? = some (some (rowB p))
  | [], [], _, k, j, h => by simp at h
  | j0 :: js, p :: R, h, 0, j, hj => by simp at hj; subst hj; exact ⟨p, rfl, h.1⟩
  | j0 :: js, p :: R, h, k + 1, j, hj => AtI.get h.2 k j (by simpa using hj)
  | [], _ :: _, h, _, _, _ => h.elim
  | _ :: _, [], h, _, _, _ => h.elim
def setI : List (Option Blk) → List Nat → RowsI → List (Option Blk)
  | H, j :: js, p :: R => setI (H.set j (some (rowB p))) js R
  | H, _, _ => H
theorem setI_len : ∀ (js : List Nat) (R : RowsI) (H : List (Option Blk)), (setI H js R).length = H.length
  | j :: js, p :: R, H => by rw [setI, setI_len js R]; simp
  | [], _, _ => by simp [setI]
  | _ :: _, [], _ => by simp [setI]
theorem setI_not : ∀ (js : List Nat) (R : RowsI) (H : List (Option Blk)) {j : Nat}, j ∉ js → (setI H js R)[j]? = H[j]?
  | i :: js, p :: R, H, j, h => by
    simp only [List.mem_cons, not_or] at h
    rw [setI, setI_not js R _ h.2, List.getElem?_set_ne (Ne.symm h.1)]
  | [], _, _, _, _ => by simp [setI]
  | _ :: _, [], _, _, _ => by simp [setI]
theorem setI_at : ∀ (js : List Nat) (R : RowsI) (H : List (Option Blk)), js.Nodup → (∀ j, j ∈ js → j < H.length) → ∀ (k j : Nat) (p : TypeId × List Int), js[k]? = some j → R[k]? = some p → (setI H js R)[j]? = some (some (rowB p))
  | i :: js, q :: R, H, hn, hl, 0, j, p, h1, h2 => by
    simp at h1 h2
    subst h1 h2
    rw [setI, setI_not js R _ (List.nodup_cons.1 hn).1, List.getElem?_set_self (hl i (List.mem_cons_self ..))]
  | i :: js, q :: R, H, hn, hl, k + 1, j, p, h1, h2 => by
    rw [setI]
    exact setI_at js R _ (List.nodup_cons.1 hn).2 (fun j hj => by simpa using hl j (List.mem_cons_of_mem _ hj)) k j p (by simpa using h1) (by simpa using h2)
  | [], _, _, _, _, k, j, p, h1, _ => by simp at h1
  | _ :: _, [], _, _, _, k, j, p, _, h2 => by simp at h2
def killL : List (Option Blk) → List Nat → List (Option Blk)
  | H, [] => H
  | H, j :: js => killL (H.set j none) js
theorem killL_not : ∀ (js : List Nat) (H : List (Option Blk)) {j : Nat}, j ∉ js → (killL H js)[j]? = H[j]?
  | i :: js, H, j, h => by
    simp only [List.mem_cons, not_or] at h
    rw [killL, killL_not js _ h.2, List.getElem?_set_ne (Ne.symm h.1)]
  | [], _, _, _ => rfl
theorem killL_len : ∀ (js : List Nat) (H : List (Option Blk)), (killL H js).length = H.length
  | i :: js, H => by rw [killL, killL_len js]; simp
  | [], _ => rfl
theorem killL_none : ∀ (js : List Nat) (H : List (Option Blk)) {j : Nat} {b : Blk}, (killL H js)[j]? = some (some b) → j ∉ js
  | i :: js, H, j, b, h => by
    rw [killL] at h
    have h1 := killL_none js _ h
    rw [killL_not js _ h1] at h
    intro hm
    rcases List.mem_cons.1 hm with rfl | hm
    · rcases Nat.lt_or_ge j H.length with q | q
      · rw [List.getElem?_set_self q] at h; simp at h
      · rw [List.getElem?_eq_none (by simpa using q)] at h; cases h
    · exact h1 hm
  | [], _, _, _, _ => by simp
theorem RelH.killL {base : Nat} : ∀ (js : List Nat) {H : List (Option Blk)}, RelH F φ base H w → RelH F φ base (AX.killL H js) w
  | [], _, h => h
  | j :: js, _, h => RelH.killL js (h.kill j)

/-- What the callee sees of what is handed in: block j is its k-th one. -/
inductive ArgsI (H : List (Option Blk)) (js : List Nat) : List AVal → List AVal → Prop
  | nil : ArgsI H js [] []
  | own (k : Nat) {j n : Nat} {l m : List AVal} : js[k]? = some j → ArgsI H js l m → ArgsI H js (.own j n :: l) (.own k n :: m)
  | ptr (k : Nat) {j a b : Nat} {l m : List AVal} : js[k]? = some j → ArgsI H js l m → ArgsI H js (.ptr j a b :: l) (.ptr k a b :: m)
  | cons {x y : AVal} {l m : List AVal} : ArgOk H x y → ArgsI H js l m → ArgsI H js (x :: l) (y :: m)
theorem ArgsI.get {H : List (Option Blk)} {js : List Nat} : ∀ {l m : List AVal}, ArgsI H js l m → l.length = m.length ∧ ∀ (i : Nat) (x y : AVal), l[i]? = some x → m[i]? = some y → (∃ k j n, js[k]? = some j ∧ x = .own j n ∧ y = .own k n) ∨ (∃ k j a b, js[k]? = some j ∧ x = .ptr j a b ∧ y = .ptr k a b) ∨ ArgOk H x y
  | _, _, .nil => ⟨rfl, fun i x y h => by simp at h⟩
  | _, _, .own k hk t => by
    obtain ⟨h1, h2⟩ := t.get
    refine ⟨by simp [h1], fun i u v hu hv => ?_⟩
    match i, hu, hv with
    | 0, hu, hv => simp at hu hv; subst hu hv; exact .inl ⟨_, _, _, hk, rfl, rfl⟩
    | i + 1, hu, hv => exact h2 i u v (by simpa using hu) (by simpa using hv)
  | _, _, .ptr k hk t => by
    obtain ⟨h1, h2⟩ := t.get
    refine ⟨by simp [h1], fun i u v hu hv => ?_⟩
    match i, hu, hv with
    | 0, hu, hv => simp at hu hv; subst hu hv; exact .inr (.inl ⟨_, _, _, _, hk, rfl, rfl⟩)
    | i + 1, hu, hv => exact h2 i u v (by simpa using hu) (by simpa using hv)
  | _, _, .cons h t => by
    obtain ⟨h1, h2⟩ := t.get
    refine ⟨by simp [h1], fun i u v hu hv => ?_⟩
    match i, hu, hv with
    | 0, hu, hv => simp at hu hv; subst hu hv; exact .inr (.inr h)
    | i + 1, hu, hv => exact h2 i u v (by simpa using hu) (by simpa using hv)
def flatA : AVal → Bool
  | .int _ _ | .bool _ => true
  | _ => false
theorem flat_rep {F F' : Fz} {φ φ' : Phi} {x : AVal} {v : Value} (hx : flatA x = true) (h : RepV F φ x v) : RepV F' φ' x v := by
  cases x <;> simp only [flatA, Bool.false_eq_true] at hx
  case int => cases h; constructor <;> assumption
  case bool => cases h; constructor

theorem AWPL_inK (K : List Nat) (js : List Nat) {st : St} {all : Array Oper} {Q : Exit → St → Prop} {rest : List Oper} {o : Oper} {fo : Operand} {args : Array Operand} {tys : Array TypeId} {d f : Nat} {R R' : RowsI} {ys : List AVal} {r : AVal}
    (hP : InP P f R ys r R') (hop : o.op = .call ⟨.value fo, args, tys⟩) (hdst : o.dst = some d) (hpc : pcOf all st.s o.guard = (true, true)) (hf : opd st.s fo = .func f []) (hcall : ∀ args w, (callFunc f args).run P w = .ok (.enter f args) w)
    (hnd : js.Nodup) (hb : AtI st.h js R) (hargs : ArgsI (killL st.h js) js (args.toList.map fun x => sv (opd st.s x)) ys) (hsc : (args.toList.all fun x => sc true (opd st.s x)) = true) (hd : d < st.n) (hr : flatA r = true)
    (h : ∀ st', (⟨st.n, keepL K (putL st.s d r), setI st.h js R'⟩ : St) = st' → AWPL P w0 all Q rest st') : AWPL P w0 all Q (o :: rest) st := by
  intro F φ a w hrel
  have hwant : Region.wanted o (yielded all a.tmps) = true := by rw [pc_wanted hrel (by rw [hpc]), hpc]
  refine wpList_step fun K' hK => ?_
  rw [if_pos hwant]
  have hfr := opd_rep hrel fo
  rw [hf] at hfr
  have hcv : a.eval fo = .func (.func f) #[] #[] := by
    generalize a.eval fo = u at hfr
    cases hfr with | func _ _ vs h1 h2 =>
      have : vs = #[] := by
        apply Array.eq_empty_of_size_eq_zero; simpa using h1.symm
      rw [this]
  have hrun : (execOp a.eval o).run P w = .ok (.enter f (args.map a.eval)) w := by
    simp only [execOp, hop, resolve, hcv, Deferred.ofValue, Sem.run_bind, Sem.run_pure, Result.andThen_ok, invoke, Array.empty_append, hcall, Array.append_empty]
  unfold Oper.wp
  rw [hrun]
  obtain ⟨g1, g2⟩ := hargs.get
  obtain ⟨hets, hP⟩ := hP
  have hRl : R'.length = R.length := by have := congrArg List.length hets; simpa using this
  have hjl := hb.len
  have hkill := hrel.heap.killL js
  have hinj : ∀ {k k' j : Nat}, js[k]? = some j → js[k']? = some j → k = k' := fun {k k' j} h1 h2 => by
    have hk := (List.getElem?_eq_some_iff.1 h1)
    have hk' := (List.getElem?_eq_some_iff.1 h2)
    obtain ⟨l1, e1⟩ := hk
    obtain ⟨l2, e2⟩ := hk'
    have hp := List.pairwise_iff_getElem.1 hnd
    rcases Nat.lt_trichotomy k k' with q | q | q
    · exact absurd (e1.trans e2.symm) (hp k k' l1 l2 q)
    · exact q
    · exact absurd (e2.trans e1.symm) (hp k' k l2 l1 q)
  have rowAt : ∀ (Q : RowsI) (k : Nat) (b : Blk), ((blksI Q).map some)[k]? = some (some b) → ∃ p, Q[k]? = some p ∧ b = rowB p := fun Q k b hk => by
    rw [List.getElem?_map, blksI, List.getElem?_map] at hk
    cases hq : Q[k]? with
    | none => rw [hq] at hk; cases hk
    | some p => rw [hq] at hk; simp only [Option.map_some, Option.some.injEq] at hk; exact ⟨p, rfl, hk.symm⟩
  have jsAt : ∀ k, k < R.length → ∃ j, js[k]? = some j := fun k hk => ⟨_, List.getElem?_eq_getElem (by omega)⟩
  -- the callee's own view
  have hcell : RelH (addOwn F φ (killL st.h js) w) (fun k => match js[k]? with | some j => φ j | none => .unused) w0.heap.size ((blksI R).map some) w := by
    refine ⟨(addOwn_agree hkill).1, fun i hi => ?_, fun k b hk => ?_, fun i j bi bj g hi hj h1 h2 => ?_, (addOwn_agree hkill).2, fun j i l hj => ?_⟩
    · simp only [List.length_map, blksI] at hi
      simp only [List.getElem?_eq_none (show js.length ≤ i by omega)]
    · obtain ⟨p, hp, rfl⟩ := rowAt R k b hk
      obtain ⟨j, hj⟩ := jsAt k (List.getElem?_eq_some_iff.1 hp).1
      obtain ⟨p', hp', hbj⟩ := hb.get k j hj
      rw [hp] at hp'; cases hp'
      rcases (hrel.heap.blk j _ hbj).nxC rfl with ⟨p1, p2⟩ | ⟨g, cap, cur, p1, p2, p3, p4, p5, p6, p7, p8⟩
      · exact .inl ⟨by simp only [hj]; exact p1, p2⟩
      · refine .inr (.inl ⟨g, cap, cur, by simp only [hj]; exact p1, p2, ?_, p4, p5, p6, p7, fun i e he => ⟨(p8 i e he).1, fun m x hx => ?_⟩⟩)
        · unfold addOwn
          rw [p3]
          simp only
          refine if_neg ?_
          rintro ⟨id', b', q1, q2⟩
          have hnm := killL_none js _ q1
          rw [killL_not js _ hnm] at q1
          have := hrel.heap.sep id' j _ _ _ q1 hbj q2 (by rw [p1]; rfl)
          rw [this] at hnm
          exact hnm (List.mem_of_getElem? hj)
        · obtain ⟨u, u1, u2, u3⟩ := (p8 i e he).2 m x hx
          refine ⟨u, u1, ?_, u3⟩
          simp only [rowB, Blk.es, intEs, List.getElem?_map, Option.map_eq_some_iff] at he
          obtain ⟨n, _, rfl⟩ := he
          match m, hx with
          | 0, hx =>
            simp at hx; subst hx
            cases u2; constructor <;> assumption
    · obtain ⟨p, hp, rfl⟩ := rowAt R i bi hi
      obtain ⟨p', hp', rfl⟩ := rowAt R j bj hj
      obtain ⟨j1, hj1⟩ := jsAt i (List.getElem?_eq_some_iff.1 hp).1
      obtain ⟨j2, hj2⟩ := jsAt j (List.getElem?_eq_some_iff.1 hp').1
      simp only [hj1] at h1
      simp only [hj2] at h2
      obtain ⟨_, _, b1⟩ := hb.get i j1 hj1
      obtain ⟨_, _, b2⟩ := hb.get j j2 hj2
      have := hrel.heap.sep j1 j2 _ _ _ b1 b2 h1 h2
      subst this
      exact hinj hj1 hj2
    · obtain ⟨p, _, hp⟩ := rowAt R j _ hj
      cases hp
  have hpl : PLe φ0 (fun k => match js[k]? with | some j => φ j | none => .unused) := fun i hi => absurd rfl hi
  have hc := hP w0 w (addOwn F φ (killL st.h js) w) _ (args.map a.eval) hrel.below hcell (by rw [← g1]; simp) (fun i y v hy hv => by
    have hi : i < (args.toList.map fun x => sv (opd st.s x)).length := by
      rw [g1]
      rcases Nat.lt_or_ge i ys.length with c | c
      · exact c
      · rw [List.getElem?_eq_none c] at hy; cases hy
    have hx := List.getElem?_eq_getElem hi
    have hxv : RepV F φ ((args.toList.map fun x => sv (opd st.s x))[i]) v := by
      rw [List.getElem?_map, Array.getElem?_toList] at hx
      rw [Array.getElem?_map] at hv
      cases hq : args[i]? with
      | none => rw [hq] at hv; cases hv
      | some q =>
        rw [hq] at hx hv
        simp only [Option.map_some, Option.some.injEq] at hx hv
        rw [← hx, ← hv]
        exact ev_rep hrel (List.all_eq_true.1 hsc q (Array.mem_toList_iff.2 (Array.mem_of_getElem? hq)))
    rcases g2 i _ y hx hy with ⟨k, j, n, hk, e1, rfl⟩ | ⟨k, j, m1, m2, hk, e1, rfl⟩ | hok
    · rw [e1] at hxv
      cases hxv with
      | own _ _ g cap sz et' q1 q2 q3 => exact .own _ _ g cap sz et' (by simp only [hk]; exact q1) q2 q3
      | ownNil _ q => exact .ownNil _ (by simp only [hk]; exact q)
    · rw [e1] at hxv
      cases hxv with
      | ptr _ _ _ g cap sz et' q1 => exact .ptr _ _ _ g cap sz et' (by simp only [hk]; exact q1)
    · exact (argOk_rep (st := ⟨st.n, st.s, killL st.h js⟩) hkill hok hxv).le (FLe.refl _) hpl)
  refine hc.mono fun e w' ⟨v, F', φ', he, hF, hH', hv, hpin, hbw⟩ => ?_
  subst he
  refine hK _ _ ?_
  have hFF : FLe F F' := FLe.trans (fun b o h => by simp [addOwn, h]) hF
  have hFn : ∀ g, F' g = none → F g = none := fun g hg => by
    cases hq : F g with
    | none => rfl
    | some o => have := hFF g o hq; rw [hg] at this; cases this
  have hjlt : ∀ j, j ∈ js → j < st.h.length := fun j hj => by
    obtain ⟨k, hk⟩ := List.getElem?_of_mem hj
    obtain ⟨p, _, hb1⟩ := hb.get k j hk
    exact Blk.ext_lt hb1
  have kept : ∀ {id : Nat} {b : Blk} {g : Nat}, id ∉ js → st.h[id]? = some (some b) → (φ id).occ g → w'.heap[g]? = w.heap[g]? := by
    intro id b g hn hb1 hg
    have h0 : (killL st.h js)[id]? = some (some b) := by rw [killL_not js _ hn]; exact hb1
    have h1 := addOwn_occ hkill h0 hg
    have hlt := hkill.occ_lt h0 hg
    have h2 : addOwn F φ (killL st.h js) w g = some w.heap[g] := by rw [h1]; exact Array.getElem?_eq_getElem hlt
    rw [hH'.agree g _ (hF g _ h2), Array.getElem?_eq_getElem hlt]
  have oldAt : ∀ {id : Nat} {b : Blk}, (setI st.h js R')[id]? = some (some b) → ∃ b', st.h[id]? = some (some b') := fun {id b} hib => by
    rcases Classical.em (id ∈ js) with c | c
    · obtain ⟨k, hk⟩ := List.getElem?_of_mem c
      obtain ⟨p, _, hb1⟩ := hb.get k id hk
      exact ⟨_, hb1⟩
    · rw [setI_not js R' _ c] at hib; exact ⟨b, hib⟩
  have hnew : RelH F φ w0.heap.size (setI st.h js R') w' := by
    refine ⟨fun b o hbo => hH'.agree b o (hFF b o hbo), fun id hid => hrel.heap.unused id (by rw [setI_len] at hid; exact hid), fun id b hib => ?_, fun i j bi bj g hi hj h1 h2 => ?_, hrel.heap.good, fun j i l hj => ?_⟩
    · rcases Classical.em (id ∈ js) with c | c
      · obtain ⟨k, hk⟩ := List.getElem?_of_mem c
        have hkl : k < R'.length := by have := (List.getElem?_eq_some_iff.1 hk).1; omega
        have hp := List.getElem?_eq_getElem hkl
        rw [setI_at js R' _ hnd hjlt k id _ hk hp] at hib
        simp only [Option.some.injEq] at hib
        subst hib
        have hk' : ((blksI R').map some)[k]? = some (some (rowB R'[k])) := by rw [List.getElem?_map, blksI, List.getElem?_map, hp]; rfl
        have hφ : φ' k = φ id := by rw [hpin k (by omega)]; simp only [hk]
        rcases (hH'.blk k _ hk').nxC rfl with ⟨p1, p2⟩ | ⟨g, cap, cur, p1, p2, p3, p4, p5, p6, p7, p8⟩
        · exact .inl ⟨by rw [← hφ]; exact p1, p2⟩
        · refine .inr (.inl ⟨g, cap, cur, by rw [← hφ]; exact p1, p2, hFn g p3, p4, p5, p6, p7, fun i e he => ⟨(p8 i e he).1, fun m x hx => ?_⟩⟩)
          obtain ⟨u, u1, u2, u3⟩ := (p8 i e he).2 m x hx
          refine ⟨u, u1, ?_, u3⟩
          simp only [rowB, Blk.es, intEs, List.getElem?_map, Option.map_eq_some_iff] at he
          obtain ⟨n, _, rfl⟩ := he
          match m, hx with
          | 0, hx =>
            simp at hx; subst hx
            cases u2; constructor <;> assumption
      · rw [setI_not js R' _ c] at hib
        exact (hrel.heap.blk id b hib).le (FLe.refl F) (PLe.refl φ) (fun _ _ hg _ => hg) fun x hx => kept c hib hx
    · obtain ⟨b1, hb1⟩ := oldAt hi
      obtain ⟨b2, hb2⟩ := oldAt hj
      exact hrel.heap.sep i j _ _ _ hb1 hb2 h1 h2
    · rcases Classical.em (j ∈ js) with c | c
      · obtain ⟨k, hk⟩ := List.getElem?_of_mem c
        have hkl : k < R'.length := by have := (List.getElem?_eq_some_iff.1 hk).1; omega
        rw [setI_at js R' _ hnd hjlt k j _ hk (List.getElem?_eq_getElem hkl)] at hj
        simp [rowB] at hj
      · rw [setI_not js R' _ c] at hj; exact hrel.heap.pins j i l hj
  rw [hdst]
  have hres : Rel F φ w0 ⟨st.n, st.s, setI st.h js R'⟩ a w' := ⟨hnew, hrel.size, hrel.slots, hrel.defers, hbw⟩
  exact h _ rfl F φ _ w' ((hres.put hd (flat_rep hr hv)).keep K)
end
end Go.AX
