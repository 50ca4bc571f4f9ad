/-
  Calls by what is said of the callee ('Pure': lists in, new lists out), and how this is shown of a function; states that say less. Conditions: the table of types is the program's.
-/
import Derived.Test.YtcjhpcbipcdhiaaAxI
set_option linter.unusedSimpArgs false
set_option linter.unusedVariables false
namespace Go.AX
open Go Go.RowKit

/-! ### other names for blocks -/
def bigId : Nat := 1000000000
def badA : AVal := .own bigId 0
def renI (ρ : List Nat) (id : Nat) : Nat := (ρ[id]?).getD bigId
def ren0 (ρ : List Nat) : AVal → AVal
  | .own id n => .own (renI ρ id) n
  | .ptr id i j => .ptr (renI ρ id) i j
  | .agg _ | .tup _ | .func _ _ | .opt _ _ => badA
  | x => x
def ren1 (ρ : List Nat) : AVal → AVal
  | .agg l => .agg (l.map (ren0 ρ))
  | .func f l => .func f (l.map (ren0 ρ))
  | x => ren0 ρ x
def ren (ρ : List Nat) : AVal → AVal
  | .tup l => .tup (l.map (ren1 ρ))
  | x => ren1 ρ x
def renB (ρ : List Nat) : Blk → Blk
  | .ints et k xs => .ints et k xs
  | .gen et sz es => .gen et sz (es.map fun e => e.map (ren0 ρ))
def phiR (φ : Phi) (ρ : List Nat) : Phi := fun id => match ρ[id]? with | some k => φ k | none => .unused

section
variable {P : Program} {T : Tab} {F : Fz} {φ : Phi} {w0 : World} {st : St} {a : Act} {w : World}

theorem bad_own {n : Nat} {v : Value} (hb : φ bigId = .unused) (h : RepV F φ (.own bigId n) v) : False := by
  cases h with
  | own _ _ g cap sz et q => rw [hb] at q; cases q
  | ownNil _ q => rw [hb] at q; cases q
theorem bad_ptr {i j : Nat} {v : Value} (hb : φ bigId = .unused) (h : RepV F φ (.ptr bigId i j) v) : False := by
  cases h with | ptr _ _ _ g cap sz et q => rw [hb] at q; cases q

theorem ren0_rep {ρ : List Nat} (hb : φ bigId = .unused) {x : AVal} {v : Value} (h : RepV F φ (ren0 ρ x) v) : RepV F (phiR φ ρ) x v := by
  cases x
  case own id n =>
    simp only [ren0, renI] at h
    cases hr : ρ[id]? with
    | none => rw [hr] at h; exact (bad_own hb h).elim
    | some k =>
      rw [hr] at h
      simp only [Option.getD_some] at h
      cases h with
      | own _ _ g cap sz et q1 q2 q3 => exact .own _ _ g cap sz et (by simp [phiR, hr, q1]) q2 q3
      | ownNil _ q => exact .ownNil _ (by simp [phiR, hr, q])
  case ptr id i j =>
    simp only [ren0, renI] at h
    cases hr : ρ[id]? with
    | none => rw [hr] at h; exact (bad_ptr hb h).elim
    | some k =>
      rw [hr] at h
      simp only [Option.getD_some] at h
      cases h with
      | ptr _ _ _ g cap sz et q1 => exact .ptr _ _ _ g cap sz et (by simp [phiR, hr, q1])
  case agg => exact (bad_own hb h).elim
  case tup => exact (bad_own hb h).elim
  case func => exact (bad_own hb h).elim
  case opt => exact (bad_own hb h).elim
  case ints => cases h with | ints _ _ _ h => cases h with | imm _ _ A n c u h1 h2 h3 h4 h5 h6 h7 => exact .ints _ _ _ (.imm _ _ A n c u h1 h2 h3 h4 h5 h6 h7)
  case intp => cases h with | intp _ _ _ h => cases h with | immp _ ad u h1 h2 => exact .intp _ _ _ (.immp _ ad u h1 h2)
  case fn => cases h with | fn _ _ _ _ h => cases h with | imm _ _ A n c u h1 h2 h3 h4 h5 h6 h7 => exact .fn _ _ _ _ (.imm _ _ A n c u h1 h2 h3 h4 h5 h6 h7)
  case imm => cases h with | imm _ _ A n c u h1 h2 h3 h4 h5 h6 h7 => exact .imm _ _ A n c u h1 h2 h3 h4 h5 h6 h7
  case immp => cases h with | immp _ ad u h1 h2 => exact .immp _ ad u h1 h2
  all_goals (cases h; constructor <;> assumption)

theorem map_get {f : AVal → AVal} {l : List AVal} {i : Nat} {x : AVal} (h : l[i]? = some x) : (l.map f)[i]? = some (f x) := by rw [List.getElem?_map, h]; rfl

theorem ren1_rep {ρ : List Nat} (hb : φ bigId = .unused) {x : AVal} {v : Value} (h : RepV F φ (ren1 ρ x) v) : RepV F (phiR φ ρ) x v := by
  cases x
  case agg l =>
    cases h with | agg _ vs hl h1 h2 => exact .agg l vs (by simpa using hl) h1 fun i x v hx hv => ren0_rep hb (h2 i _ v (map_get hx) hv)
  case func f l =>
    cases h with | func _ _ vs hl h2 => exact .func f l vs (by simpa using hl) fun i x v hx hv => ren0_rep hb (h2 i _ v (map_get hx) hv)
  all_goals exact ren0_rep hb h
theorem ren_rep {ρ : List Nat} (hb : φ bigId = .unused) {x : AVal} {v : Value} (h : RepV F φ (ren ρ x) v) : RepV F (phiR φ ρ) x v := by
  cases x
  case tup l =>
    cases h with | tup _ vs hl h2 => exact .tup l vs (by simpa using hl) fun i x v hx hv => ren1_rep hb (h2 i _ v (map_get hx) hv)
  all_goals exact ren1_rep hb h

theorem renB_es (ρ : List Nat) (b : Blk) : (renB ρ b).es = b.es.map (fun e => e.map (ren0 ρ)) ∧ (renB ρ b).sz = b.sz ∧ (renB ρ b).et = b.et := by
  cases b <;> simp [renB, Blk.es, Blk.sz, Blk.et, intEs, ren0]

/-- Fewer blocks, under other names. -/
theorem RelH.ren {base : Nat} {H H' : List (Option Blk)} (h : RelH F φ base H w) {ρ : List Nat} (hb : H.length ≤ bigId) (hnd : ρ.Nodup) (hl : ρ.length = H'.length)
    (hH : ∀ (i : Nat) (b : Blk), H'[i]? = some (some b) → ∃ k : Nat, ρ[i]? = some k ∧ H[k]? = some (some (renB ρ b))) : RelH F (phiR φ ρ) base H' w := by
  have hbig : φ bigId = .unused := h.unused _ hb
  refine ⟨h.agree, fun id hid => ?_, fun id b hb' => ?_, fun i j bi bj g c s t c' s' t' hi hj h1 h2 => ?_⟩
  · unfold phiR; rw [List.getElem?_eq_none (by omega)]
  · obtain ⟨k, hk, hHk⟩ := hH id b hb'
    obtain ⟨r1, r2, r3⟩ := renB_es ρ b
    rcases h.blk k _ hHk with ⟨q1, q2⟩ | ⟨g, cap, cur, q1, q2, q3, q4, q5, q6, q7, q8⟩
    · exact .inl ⟨by simp [phiR, hk, q1], by rw [r1] at q2; simpa using q2⟩
    · rw [r2] at q1 q7 q8
      rw [r3] at q1 q4
      rw [r1] at q5 q8
      refine .inr ⟨g, cap, cur, by simp [phiR, hk, q1], q2, q3, q4, by simpa using q5, q6, q7, fun i e he => ?_⟩
      have he' : (b.es.map (fun e => e.map (ren0 ρ)))[i]? = some (e.map (ren0 ρ)) := by rw [List.getElem?_map, he]; rfl
      refine ⟨by simpa using (q8 i _ he').1, fun j x hx => ?_⟩
      obtain ⟨u, u1, u2, u3⟩ := (q8 i _ he').2 j _ (map_get hx)
      exact ⟨u, u1, ren0_rep hbig u2, u3⟩
  · obtain ⟨ki, hki, hHi⟩ := hH i bi hi
    obtain ⟨kj, hkj, hHj⟩ := hH j bj hj
    simp only [phiR, hki] at h1
    simp only [phiR, hkj] at h2
    have hkk := h.inj ki kj _ _ g c s t c' s' t' hHi hHj h1 h2
    subst hkk
    have hi' : i < ρ.length := (List.getElem?_eq_some_iff.1 hki).1
    have hj' : j < ρ.length := (List.getElem?_eq_some_iff.1 hkj).1
    have e : ρ[i] = ρ[j] := by
      have a1 := (List.getElem?_eq_some_iff.1 hki).2
      have a2 := (List.getElem?_eq_some_iff.1 hkj).2
      rw [a1, a2]
    have hp := List.pairwise_iff_getElem.1 hnd
    rcases Nat.lt_trichotomy i j with q | q | q
    · exact absurd e (hp i j hi' hj' q)
    · exact q
    · exact absurd e.symm (hp j i hj' hi' q)

/-- A state that says less of the same. -/
def WkS (ρ : List Nat) (s : List (Nat × AVal)) : List (Nat × AVal) → Prop
  | [] => True
  | (i, x) :: r => (look s i = ren ρ x ∨ x = .junk) ∧ WkS ρ s r
def WkH (ρ : List Nat) (H : List (Option Blk)) : Nat → List (Option Blk) → Prop
  | _, [] => True
  | i, none :: r => WkH ρ H (i + 1) r
  | i, some b :: r => H[renI ρ i]? = some (some (renB ρ b)) ∧ WkH ρ H (i + 1) r
structure Wk (ρ : List Nat) (st st' : St) : Prop where
  n : st'.n = st.n
  big : st.h.length ≤ bigId
  nodup : ρ.Nodup
  len : ρ.length = st'.h.length
  s : WkS ρ st.s st'.s
  h : WkH ρ st.h 0 st'.h

theorem WkS.look {ρ : List Nat} {s : List (Nat × AVal)} : ∀ {s' : List (Nat × AVal)}, WkS ρ s s' → ∀ i, look s i = ren ρ (look s' i) ∨ AX.look s' i = .junk
  | [], _, _ => .inr rfl
  | (k, x) :: r, h, i => by
    simp only [WkS] at h
    simp only [AX.look]
    by_cases hk : k = i
    · subst hk; simp only [if_true]; exact h.1
    · simp only [if_neg hk]; exact WkS.look h.2 i
theorem WkH.get {ρ : List Nat} {H : List (Option Blk)} : ∀ {H' : List (Option Blk)} {k : Nat}, WkH ρ H k H' → ∀ (i : Nat) (b : Blk), H'[i]? = some (some b) → H[renI ρ (k + i)]? = some (some (renB ρ b))
  | [], _, _, i, b, hb => by simp at hb
  | none :: r, k, h, i, b, hb => by
    match i, hb with
    | 0, hb => simp at hb
    | i + 1, hb => have := WkH.get (k := k + 1) h i b (by simpa using hb); rwa [show k + 1 + i = k + (i + 1) by omega] at this
  | some b0 :: r, k, h, i, b, hb => by
    match i, hb with
    | 0, hb => simp at hb; subst hb; exact h.1
    | i + 1, hb => have := WkH.get (k := k + 1) h.2 i b (by simpa using hb); rwa [show k + 1 + i = k + (i + 1) by omega] at this

theorem Rel.wk {ρ : List Nat} {st st' : St} (h : Rel F φ w0 st a w) (hw : Wk ρ st st') : Rel F (phiR φ ρ) w0 st' a w := by
  have hbig : φ bigId = .unused := h.heap.unused _ hw.big
  refine ⟨h.heap.ren hw.big hw.nodup hw.len fun i b hb => ?_, by rw [hw.n]; exact h.size, fun i => ?_, h.defers, h.below⟩
  · have := hw.h.get i b hb
    rw [Nat.zero_add] at this
    have hi : i < ρ.length := by
      rw [hw.len]
      rcases Nat.lt_or_ge i st'.h.length with q | q
      · exact q
      · rw [List.getElem?_eq_none q] at hb; cases hb
    refine ⟨ρ[i], List.getElem?_eq_getElem hi, ?_⟩
    simpa [renI, List.getElem?_eq_getElem hi] using this
  · rcases hw.s.look i with q | q
    · have := h.slots i
      rw [q] at this
      exact ren_rep hbig this
    · rw [q]; exact .junk _

theorem AWP_wk {c : Code} {Q : Exit → St → Prop} {st st' : St} (ρ : List Nat) (hw : Wk ρ st st') (h : AWP P w0 c Q st') : AWP P w0 c Q st := fun F _ a w hr => h F _ a w (hr.wk hw)
theorem AWPL_wk {all : Array Oper} {l : List Oper} {Q : Exit → St → Prop} {st st' : St} (ρ : List Nat) (hw : Wk ρ st st') (h : AWPL P w0 all Q l st') : AWPL P w0 all Q l st := fun F _ a w hr => h F _ a w (hr.wk hw)

/-! ### what is said of a function -/
def Agree (F : Fz) (w : World) : Prop := ∀ b o, F b = some o → w.heap[b]? = some o

/-- LISTS IN, NEW LISTS OUT: handed 'args' (lists that nobody writes) the function answers 'r', over the new blocks H; nothing that was there has turned. -/
def Pure (P : Program) (f : FuncId) (args : List AVal) (r : AVal) (H : List Blk) : Prop :=
  ∀ (w : World) (F : Fz) (vs : Array Value), Agree F w → args.length = vs.size → (∀ (i : Nat) (x : AVal) (v : Value), args[i]? = some x → vs[i]? = some v → RepV F φ0 x v) →
    Calls P f vs w fun e w' => ∃ v F' φ', e = .returned v ∧ FLe F F' ∧ RelH F' φ' w.heap.size (H.map some) w' ∧ RepV F' φ' r v ∧ Below w.heap.size w w'

def resV (T : Tab) (st : St) : ResultVar → Bool × AVal
  | .tmp t => (true, look st.s t)
  | .cell c t => (known (T t) && (loadA (T t) st.h (look st.s c)).1, (loadA (T t) st.h (look st.s c)).2)
def resA (T : Tab) (st : St) (l : List ResultVar) : Bool × AVal :=
  match l with
  | [x] => resV T st x
  | l => (l.all fun x => (resV T st x).1, .tup (l.map fun x => (resV T st x).2))

theorem resV_ok (hT : TabOk P T) (h : Rel F φ w0 st a w) {x : ResultVar} (hc : (resV T st x).1 = true) :
    ∃ v, (match x with | .tmp t => (pure (a.tmps.getD t undef) : Sem Value) | .cell c t => do loadVar t (← asAddr (a.tmps.getD c undef))).run P w = .ok v w ∧ RepV F φ (resV T st x).2 v := by
  cases x with
  | tmp t => exact ⟨_, rfl, h.slots t⟩
  | cell c t =>
    simp only [resV, Bool.and_eq_true] at hc
    have hs := h.slots c
    obtain ⟨v, h1, h2⟩ := load_ok hT h.heap hc.1 hs hc.2
    have h1 := h1 w (Below.refl _ _)
    refine ⟨v, ?_, h2⟩
    have hp : ∃ ad, a.tmps.getD c undef = .pointer (some ad) := by
      have h3 := hc.2
      generalize look st.s c = x at hs h3
      generalize a.tmps.getD c undef = u at hs
      cases hs <;> simp only [loadA, Bool.false_eq_true] at h3
      · exact ⟨_, rfl⟩
      · exact ⟨_, rfl⟩
      · rename_i h4; cases h4; exact ⟨_, rfl⟩
    obtain ⟨ad, hp⟩ := hp
    rw [hp] at h1
    simp only [hp]
    simpa [asAddr, Instr.loadAt, Instr.sureAddr] using h1

theorem res_ok (hT : TabOk P T) (h : Rel F φ w0 st a w) {fn : Func} {l : List ResultVar} (hl : fn.results = l.toArray) (hc : (resA T st l).1 = true) : ∃ v, (results fn a.tmps).run P w = .ok v w ∧ RepV F φ (resA T st l).2 v := by
  have key : ∀ (l : List ResultVar), (∀ x ∈ l, (resV T st x).1 = true) → ∃ vs : List Value, (l.mapM (m := Sem) fun
      | .tmp t => pure (a.tmps.getD t undef)
      | .cell c t => do loadVar t (← asAddr (a.tmps.getD c undef))).run P w = .ok vs w ∧ vs.length = l.length ∧ ∀ (i : Nat) (x : ResultVar) (v : Value), l[i]? = some x → vs[i]? = some v → RepV F φ (resV T st x).2 v := by
    intro l
    induction l with
    | nil => intro _; exact ⟨[], by simp, rfl, fun i x v hx => by simp at hx⟩
    | cons x r ih =>
      intro hall
      obtain ⟨v, v1, v2⟩ := resV_ok hT h (hall x (by simp))
      obtain ⟨vs, s1, s2, s3⟩ := ih fun y hy => hall y (by simp [hy])
      refine ⟨v :: vs, ?_, by simp [s2], fun i y u hy hu => ?_⟩
      · rw [List.mapM_cons]
        simp only [Sem.run_bind, v1, Result.andThen_ok, s1, Sem.run_pure]
      · match i, hy, hu with
        | 0, hy, hu => simp at hy hu; subst hy hu; exact v2
        | i + 1, hy, hu => exact s3 i y u (by simpa using hy) (by simpa using hu)
  have hall : ∀ x ∈ l, (resV T st x).1 = true := by
    unfold resA at hc
    split at hc
    · intro x hx; simp at hx; subst hx; exact hc
    · simpa using hc
  obtain ⟨vs, s1, s2, s3⟩ := key l hall
  have hrun : (results fn a.tmps).run P w = .ok (if h : vs.length = 1 then vs[0] else .tuple vs.toArray) w := by
    unfold results
    rw [hl]
    simp only [List.mapM_toArray, Sem.run_bind, Sem.run_map, Sem.run_pure]
    generalize hq : Sem.run P (List.mapM _ l) w = q
    have : q = .ok vs w := hq.symm.trans s1
    subst this
    simp only [Result.andThen_ok, List.size_toArray, List.getElem_toArray]
  refine ⟨_, hrun, ?_⟩
  unfold resA
  split
  · rename_i x
    rw [dif_pos (by simpa using s2)]
    exact s3 0 x _ rfl (List.getElem?_eq_getElem (by rw [s2]; simp))
  · rename_i hne
    rw [dif_neg (by rw [s2]; intro h1; match l, h1, hne with | [x], _, hne => exact hne x rfl)]
    refine .tup _ _ (by simp [s2]) fun i x v hx hv => ?_
    rw [List.getElem?_map] at hx
    cases hq : l[i]? with
    | none => rw [hq] at hx; cases hx
    | some q =>
      rw [hq] at hx
      simp at hx; subst hx
      exact s3 i q v hq (by simpa using hv)


/-! ### what is shown of a function -/
def enumA : Nat → List AVal → List (Nat × AVal)
  | _, [] => []
  | i, x :: r => (i, x) :: enumA (i + 1) r
theorem look_enumA : ∀ (l : List AVal) (k i : Nat), look (enumA k l) i = if k ≤ i then (l[i - k]?).getD .junk else .junk
  | [], k, i => by simp [enumA, look]
  | x :: r, k, i => by
    simp only [enumA, look]
    rw [look_enumA r (k + 1) i]
    by_cases h : k = i
    · subst h; simp
    · by_cases h2 : k ≤ i
      · rw [if_neg h, if_pos (by omega), if_pos h2, show i - k = (i - (k + 1)) + 1 by omega, List.getElem?_cons_succ]
      · rw [if_neg h, if_neg (by omega), if_neg h2]

/-- Where the function ends: it answers r over the new blocks H. -/
def Ends (T : Tab) (l : List ResultVar) (r : AVal) (H : List Blk) (e : Exit) (st : St) : Prop :=
  (e = .ret ∨ e = .normal) ∧ (resA T st l).1 = true ∧ ∃ ρ, (resA T st l).2 = ren ρ r ∧ Wk ρ { st with s := [] } ⟨st.n, [], H.map some⟩

theorem Pure_intro (hT : TabOk P T) {f : FuncId} {fn : Func} {c : Code} {n : Nat} {l : List ResultVar} {args : List AVal} {r : AVal} {H : List Blk} (hf : P.funcs[f]? = some fn) (hb : fn.body = some c) (hn : fn.ntmps = n) (hl : fn.results = l.toArray)
    (hle : args.length ≤ n) (h : ∀ w0, AWP P w0 c (Ends T l r H) ⟨n, enumA 0 args, []⟩) : Pure P f args r H := by
  intro w F vs hag hlen hargs
  refine calls_of_wp hf hb ?_
  refine wp_mono (h w F φ0 _ w ⟨⟨hag, fun _ _ => rfl, fun id b hb => by simp at hb, fun i j bi bj g c s t c' s' t' hi => by simp at hi⟩, ?_, fun i => ?_, rfl, Below.refl _ _⟩) ?_
  · simp; omega
  · show RepV F φ0 (look (enumA 0 args) i) _
    rw [look_enumA, if_pos (Nat.zero_le _), Nat.sub_zero]
    cases hi : args[i]? with
    | none => exact .junk _
    | some x =>
      have hil : i < vs.size := by
        rw [← hlen]
        rcases Nat.lt_or_ge i args.length with q | q
        · exact q
        · rw [List.getElem?_eq_none q] at hi; cases hi
      have hv : vs[i]? = some vs[i] := Array.getElem?_eq_getElem hil
      have : (vs ++ Array.replicate (fn.ntmps - vs.size) undef).getD i undef = vs[i] := by
        rw [Array.getD_eq_getD_getElem?, Array.getElem?_append_left hil, hv]; rfl
      rw [this]
      exact hargs i x _ hi hv
  · intro e a' w' hq
    obtain ⟨st', F', φ', ⟨he, hc, ρ, hr, hw⟩, hF, hrel⟩ := hq
    obtain ⟨v, v1, v2⟩ := res_ok hT hrel hl hc
    have hbig : φ' bigId = .unused := hrel.heap.unused _ hw.big
    rw [hr] at v2
    have hrel' : Rel F' φ' w { st' with s := [] } a' w' := ⟨hrel.heap, hrel.size, fun i => .junk _, hrel.defers, hrel.below⟩
    have hfin : ∃ v F' φ', Ending.returned v = .returned v ∧ FLe F F' ∧ RelH F' φ' w.heap.size (H.map some) w' ∧ RepV F' φ' r v ∧ Below w.heap.size w w' := ⟨v, F', _, rfl, hF, (hrel'.wk hw).heap, ren_rep hbig v2, hrel.below⟩
    have hR : ∃ v2 F' φ', Ending.returned v = .returned v2 ∧ FLe F F' ∧ RelH F' φ' w.heap.size (H.map some) w' ∧ RepV F' φ' r v2 ∧ Below w.heap.size w w' := ⟨v, F', _, rfl, hF, (hrel'.wk hw).heap, ren_rep hbig v2, hrel.below⟩
    rcases he with rfl | rfl
    · exact ⟨hrel.defers, v, v1, hR⟩
    · exact ⟨hrel.defers, v, v1, hR⟩

end
end Go.AX
