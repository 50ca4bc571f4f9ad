/-
  A call, by what is said of the callee. Conditions: the table of types is the program's; the answer holds nothing of what was handed in.
-/
import Derived.Test.YtcjhpcbipcdhiaaAxJ
set_option linter.unusedSimpArgs false
set_option linter.unusedVariables false
namespace Go.AX
open Go Go.RowKit

/-- What is handed in holds no block of the call's own. -/
def atomB : AVal → Bool
  | .int _ _ | .bool _ | .str _ | .nil | .imm _ _ | .immp _ | .ints _ _ | .intp _ _ | .fn _ _ _ => true
  | _ => false

inductive ArgOk (H : List (Option Blk)) : AVal → AVal → Prop
  | atom (x : AVal) : atomB x = true → ArgOk H x x
  | nilI (k : IntKind) : ArgOk H .nil (.ints k [])
  | nilM (sz : Nat) : ArgOk H .nil (.imm sz [])
  | junk (x : AVal) : ArgOk H x .junk
  | fnOf (x : AVal) (sz n : Nat) (f : Nat → List AVal) : ArgOk H x (.imm sz (fnEs n f)) → ArgOk H x (.fn sz n f)
  | ownI (id n : Nat) (et : TypeId) (k : IntKind) (xs ys : List Int) : getB H id = some (.ints et k xs) → n ≤ xs.length → xs.take n = ys → ArgOk H (.own id n) (.ints k ys)
  | ownM (id n : Nat) (et : TypeId) (sz : Nat) (es fs : List (List AVal)) : getB H id = some (.gen et sz es) → n ≤ es.length → fs.length = n →
      (∀ (i : Nat) (e f : List AVal), es[i]? = some e → fs[i]? = some f → e.length = f.length) → (∀ (i : Nat) (e f : List AVal) (j : Nat) (x y : AVal), es[i]? = some e → fs[i]? = some f → e[j]? = some x → f[j]? = some y → ArgOk H x y) → ArgOk H (.own id n) (.imm sz fs)
  | ptrI (id i : Nat) (et : TypeId) (k : IntKind) (xs : List Int) (n : Int) : getB H id = some (.ints et k xs) → xs[i]? = some n → ArgOk H (.ptr id i 0) (.intp k n)
  | ptrM (id i : Nat) (et : TypeId) (sz : Nat) (es : List (List AVal)) (e f : List AVal) : getB H id = some (.gen et sz es) → es[i]? = some e → f.length = e.length →
      (∀ (j : Nat) (x y : AVal), e[j]? = some x → f[j]? = some y → ArgOk H x y) → ArgOk H (.ptr id i 0) (.immp f)
  | agg (l m : List AVal) : l.length = m.length → (∀ (i : Nat) (x y : AVal), l[i]? = some x → m[i]? = some y → ArgOk H x y) → ArgOk H (.agg l) (.agg m)
  | func (f : Nat) (l m : List AVal) : l.length = m.length → (∀ (i : Nat) (x y : AVal), l[i]? = some x → m[i]? = some y → ArgOk H x y) → ArgOk H (.func f l) (.func f m)

inductive ArgsOk (H : List (Option Blk)) : List AVal → List AVal → Prop
  | nil : ArgsOk H [] []
  | cons {x y : AVal} {l m : List AVal} : ArgOk H x y → ArgsOk H l m → ArgsOk H (x :: l) (y :: m)

theorem ArgsOk.get {H : List (Option Blk)} : ∀ {l m : List AVal}, ArgsOk H l m → l.length = m.length ∧ ∀ (i : Nat) (x y : AVal), l[i]? = some x → m[i]? = some y → ArgOk H x y
  | _, _, .nil => ⟨rfl, fun i x y h => by simp at h⟩
  | _, _, .cons (x := x) (y := y) h t => by
    obtain ⟨h1, h2⟩ := t.get
    refine ⟨by simp [h1], fun i u v hu hv => ?_⟩
    match i, hu, hv with
    | 0, hu, hv => simp at hu hv; subst hu hv; exact h
    | i + 1, hu, hv => exact h2 i u v (by simpa using hu) (by simpa using hv)

section
variable {P : Program} {T : Tab} {F : Fz} {φ : Phi} {w0 : World} {st : St} {a : Act} {w : World}

open Classical in
/-- The call's own blocks, frozen for a callee. -/
noncomputable def addOwn (F : Fz) (φ : Phi) (H : List (Option Blk)) (w : World) : Fz := fun g =>
  match F g with
  | some o => some o
  | none => if (∃ id b c s t, H[id]? = some (some b) ∧ φ id = .at g c s t) then w.heap[g]? else none

theorem addOwn_le : FLe F (addOwn F φ st.h w) := fun b o h => by simp [addOwn, h]
theorem addOwn_agree {base : Nat} {H : List (Option Blk)} (h : RelH F φ base H w) : Agree (addOwn F φ H w) w := by
  intro b o hb
  unfold addOwn at hb
  split at hb
  · rename_i o' ho; injection hb with hb; subst hb; exact h.agree _ _ ho
  · split at hb
    · exact hb
    · cases hb
theorem addOwn_own {base : Nat} {H : List (Option Blk)} (h : RelH F φ base H w) {id : Nat} {b : Blk} (hb : H[id]? = some (some b)) {g c s : Nat} {t : TypeId} (hφ : φ id = .at g c s t) : addOwn F φ H w g = w.heap[g]? := by
  unfold addOwn
  have : F g = none := by
    rcases h.blk id b hb with ⟨q, _⟩ | ⟨g', cap', cur, q, _, q2, _⟩
    · rw [hφ] at q; cases q
    · rw [hφ] at q; injection q with e1; subst e1; exact q2
  rw [this]
  simp only
  rw [if_pos ⟨id, b, c, s, t, hb, hφ⟩]

theorem argOk_rep (h : RelH F φ w0.heap.size st.h w) {x y : AVal} (ha : ArgOk st.h x y) : ∀ {v : Value}, RepV F φ x v → RepV (addOwn F φ st.h w) φ0 y v := by
  have hle : FLe F (addOwn F φ st.h w) := addOwn_le
  have atom : ∀ {x : AVal} {v : Value}, atomB x = true → RepV F φ x v → RepV (addOwn F φ st.h w) φ0 x v := by
    intro x v hx hr
    cases x <;> simp only [atomB, Bool.false_eq_true] at hx
    case ints => cases hr with | ints _ _ _ hr => cases hr with | imm _ _ A n c u h1 h2 h3 h4 h5 h6 h7 =>
      exact .ints _ _ _ (RepV.le hle (RepV.imm (φ := φ0) _ _ A n c u h1 h2 h3 h4 h5 h6 h7) (PLe.refl _))
    case fn => cases hr with | fn _ _ _ _ hr => cases hr with | imm _ _ A n c u h1 h2 h3 h4 h5 h6 h7 =>
      exact .fn _ _ _ _ (RepV.le hle (RepV.imm (φ := φ0) _ _ A n c u h1 h2 h3 h4 h5 h6 h7) (PLe.refl _))
    case intp => cases hr with | intp _ _ _ hr => cases hr with | immp _ ad u h1 h2 => exact .intp _ _ _ (RepV.le hle (RepV.immp (φ := φ0) _ ad u h1 h2) (PLe.refl _))
    case imm => cases hr with | imm _ _ A n c u h1 h2 h3 h4 h5 h6 h7 => exact RepV.le hle (RepV.imm (φ := φ0) _ _ A n c u h1 h2 h3 h4 h5 h6 h7) (PLe.refl _)
    case immp => cases hr with | immp _ ad u h1 h2 => exact RepV.le hle (RepV.immp (φ := φ0) _ ad u h1 h2) (PLe.refl _)
    all_goals (cases hr; constructor <;> assumption)
  have cellOwn : ∀ {id : Nat} {b : Blk} {g c s : Nat} {t : TypeId} {cur : Array Value} {fr : Nat × Nat}, st.h[id]? = some (some b) → φ id = .at g c s t → w.heap[g]? = some (.cells cur b.et fr) → ∀ m, cellF (addOwn F φ st.h w) ⟨g, m, none⟩ = cur[m]? := by
    intro id b g c s t cur fr hb hφ hw m
    unfold cellF
    rw [addOwn_own h hb hφ, hw]
    rfl
  -- a block's rows, as a list that nobody writes
  have rows : ∀ {id n : Nat} {b : Blk} {fs : List (List AVal)} {v : Value}, getB st.h id = some b → n ≤ b.es.length → fs.length = n → (∀ (i : Nat) (e f : List AVal), b.es[i]? = some e → fs[i]? = some f → e.length = f.length) →
      (∀ (i : Nat) (e f : List AVal) (j : Nat) (x y : AVal), b.es[i]? = some e → fs[i]? = some f → e[j]? = some x → f[j]? = some y → ∀ {v : Value}, RepV F φ x v → RepV (addOwn F φ st.h w) φ0 y v) → RepV F φ (.own id n) v → RepV (addOwn F φ st.h w) φ0 (.imm b.sz fs) v := by
    intro id n b fs v hb hn hl hlen hrow hr
    have hbH := getB_some hb
    cases hr with
    | ownNil _ q =>
      have hfs : fs = [] := List.eq_nil_of_length_eq_zero hl
      subst hfs
      exact .imm _ _ none 0 0 (fun _ _ => undef) rfl (Nat.le_refl _) (Nat.zero_le _) (fun i e he => by simp at he) (fun h => absurd h (by omega)) (fun ad i e j x _ he => by simp at he) (fun i e j x he => by simp at he)
    | own _ _ g cap sz et q1 q2 q3 =>
      rcases h.blk id b hbH with ⟨p, _⟩ | ⟨g', cap', cur, p, p1, p2, p3, p4, p5, p6, p7⟩
      · rw [q1] at p; cases p
      rw [q1] at p
      injection p with e1 e2 e3 e4
      subst e1 e2 e3 e4
      have hcell := cellOwn hbH q1 p3
      have both : ∀ (i : Nat) (f : List AVal), fs[i]? = some f → ∃ e, b.es[i]? = some e ∧ e.length = f.length := by
        intro i f hf
        have hi : i < fs.length := by
          rcases Nat.lt_or_ge i fs.length with c | c
          · exact c
          · rw [List.getElem?_eq_none c] at hf; cases hf
        have he := List.getElem?_eq_getElem (show i < b.es.length by omega)
        exact ⟨_, he, hlen i _ f he hf⟩
      have cell : ∀ (i : Nat) (f : List AVal) (j : Nat) (y : AVal), fs[i]? = some f → f[j]? = some y → ∃ u, cur[i * b.sz + j]? = some u ∧ RepV (addOwn F φ st.h w) φ0 y u ∧ u.oneCell' = true := by
        intro i f j y hf hy
        obtain ⟨e, he, hel⟩ := both i f hf
        have hj : j < f.length := by
          rcases Nat.lt_or_ge j f.length with c | c
          · exact c
          · rw [List.getElem?_eq_none c] at hy; cases hy
        have hx := List.getElem?_eq_getElem (show j < e.length by omega)
        obtain ⟨u, u1, u2, u3⟩ := (p7 i e he).2 j _ hx
        exact ⟨u, u1, hrow i e f j _ y he hf hx hy u2, u3⟩
      refine .imm _ _ (some ⟨g, 0, none⟩) n cap (fun i j => (cur[i * b.sz + j]?).getD undef) hl.symm q2 p5 (fun i f hf => ?_) (fun _ hn => nomatch hn) (fun ad i f j y hA hf hy => ?_) (fun i f j y hf hy => ?_)
      · obtain ⟨e, he, hel⟩ := both i f hf
        rw [← hel]; exact (p7 i e he).1
      · injection hA with hA; subst hA
        obtain ⟨u, u1, u2, u3⟩ := cell i f j y hf hy
        rw [Addr.add_lit, Nat.zero_add, hcell, u1]
        exact ⟨rfl, u3⟩
      · obtain ⟨u, u1, u2, u3⟩ := cell i f j y hf hy
        rw [u1]; exact u2
  have intRow : ∀ {k : IntKind} {xs : List Int} {i : Nat} {e : List AVal}, (intEs k xs)[i]? = some e → ∃ n, xs[i]? = some n ∧ e = [.int k n] := by
    intro k xs i e he
    simp only [intEs, List.getElem?_map, Option.map_eq_some_iff] at he
    obtain ⟨n, hn, rfl⟩ := he
    exact ⟨n, hn, rfl⟩
  induction ha with
  | atom x hx => exact fun hr => atom hx hr
  | nilI k =>
    intro v hr; cases hr
    exact .ints _ _ _ (.imm _ _ none 0 0 (fun _ _ => undef) rfl (Nat.le_refl _) (Nat.zero_le _) (fun i e he => by simp [intEs] at he) (fun h => absurd h (by omega)) (fun ad i e j x _ he => by simp [intEs] at he) (fun i e j x he => by simp [intEs] at he))
  | nilM sz =>
    intro v hr; cases hr
    exact .imm _ _ none 0 0 (fun _ _ => undef) rfl (Nat.le_refl _) (Nat.zero_le _) (fun i e he => by simp at he) (fun h => absurd h (by omega)) (fun ad i e j x _ he => by simp at he) (fun i e j x he => by simp at he)
  | junk x => exact fun _ => .junk _
  | fnOf x sz n f _ ih => exact fun hr => .fn _ _ _ _ (ih hr)
  | ownI id n et k xs ys hb hn hys =>
    intro v hr
    subst hys
    refine .ints _ _ _ (rows (b := .ints et k xs) (fs := intEs k (xs.take n)) hb (by simpa [Blk.es, intEs] using hn) (by simp [intEs]; omega) (fun i e f he hf => ?_) (fun i e f j x y he hf hx hy => ?_) hr)
    · obtain ⟨_, _, rfl⟩ := intRow he; obtain ⟨_, _, rfl⟩ := intRow hf; rfl
    · intro v hv
      obtain ⟨p, hp, rfl⟩ := intRow he
      obtain ⟨q, hq, rfl⟩ := intRow hf
      rw [List.getElem?_take] at hq
      split at hq
      · rw [hp] at hq; injection hq with hq; subst hq
        rw [hx] at hy; injection hy with hy; subst hy
        match j, hx with
        | 0, hx => simp at hx; subst hx; exact atom rfl hv
      · cases hq
  | ownM id n et sz es fs hb hn hl hlen _ ih => exact fun hr => rows (b := .gen et sz es) hb hn hl hlen (fun i e f j x y he hf hx hy {v} hv => ih i e f j x y he hf hx hy hv) hr
  | ptrI id i et k xs n hb hn =>
    intro v hr
    obtain ⟨B, hB⟩ : ∃ B, B = Blk.ints et k xs := ⟨_, rfl⟩
    rw [← hB] at hb
    cases hr with | ptr _ _ _ g cap sz et' q1 => ?_
    have hbH := getB_some hb
    rcases h.blk id _ hbH with ⟨p, _⟩ | ⟨g', cap', cur, p, p1, p2, p3, p4, p5, p6, p7⟩
    · rw [q1] at p; cases p
    rw [q1] at p
    injection p with e1 e2 e3 e4
    subst e1 e2 e3 e4
    have hcell := cellOwn hbH q1 p3
    have he : B.es[i]? = some [.int k n] := by rw [hB]; simp [Blk.es, intEs, hn]
    obtain ⟨u, u1, u2, u3⟩ := (p7 i _ he).2 0 _ rfl
    refine .intp _ _ _ (.immp _ _ (fun _ => u) (fun j x hx => ?_) (fun j x hx => ?_))
    · match j, hx with
      | 0, hx => rw [Addr.add_zero', hcell]; exact ⟨u1, u3⟩
    · match j, hx with
      | 0, hx => simp at hx; subst hx; exact atom rfl u2
  | ptrM id i et sz es e f hb he hl _ ih =>
    intro v hr
    obtain ⟨B, hB⟩ : ∃ B, B = Blk.gen et sz es := ⟨_, rfl⟩
    rw [← hB] at hb
    have he : B.es[i]? = some e := by rw [hB]; exact he
    cases hr with | ptr _ _ _ g cap sz' et' q1 => ?_
    have hbH := getB_some hb
    rcases h.blk id _ hbH with ⟨p, _⟩ | ⟨g', cap', cur, p, p1, p2, p3, p4, p5, p6, p7⟩
    · rw [q1] at p; cases p
    rw [q1] at p
    injection p with e1 e2 e3 e4
    subst e1 e2 e3 e4
    have hcell := cellOwn hbH q1 p3
    have cell : ∀ (j : Nat) (y : AVal), f[j]? = some y → ∃ u, cur[i * B.sz + j]? = some u ∧ RepV (addOwn F φ st.h w) φ0 y u ∧ u.oneCell' = true := by
      intro j y hy
      have hj : j < f.length := by
        rcases Nat.lt_or_ge j f.length with c | c
        · exact c
        · rw [List.getElem?_eq_none c] at hy; cases hy
      have hx := List.getElem?_eq_getElem (show j < e.length by omega)
      obtain ⟨u, u1, u2, u3⟩ := (p7 i e he).2 j _ hx
      exact ⟨u, u1, ih j _ y hx hy u2, u3⟩
    refine .immp _ _ (fun j => (cur[i * B.sz + j]?).getD undef) (fun j y hy => ?_) (fun j y hy => ?_)
    · obtain ⟨u, u1, u2, u3⟩ := cell j y hy
      rw [Addr.add_lit, hcell, Nat.add_zero, u1]; exact ⟨rfl, u3⟩
    · obtain ⟨u, u1, u2, u3⟩ := cell j y hy
      rw [u1]; exact u2
  | agg l m hl _ ih =>
    intro v hr
    cases hr with | agg _ vs hs h1 h2 => ?_
    refine .agg _ _ (by omega) h1 fun i y v hy hv => ?_
    have hi : i < l.length := by
      rw [hl]
      rcases Nat.lt_or_ge i m.length with c | c
      · exact c
      · rw [List.getElem?_eq_none c] at hy; cases hy
    have hx := List.getElem?_eq_getElem hi
    exact ih i _ y hx hy (h2 i _ v hx hv)
  | func f l m hl _ ih =>
    intro v hr
    cases hr with | func _ _ vs hs h2 => ?_
    refine .func _ _ _ (by omega) fun i y v hy hv => ?_
    have hi : i < l.length := by
      rw [hl]
      rcases Nat.lt_or_ge i m.length with c | c
      · exact c
      · rw [List.getElem?_eq_none c] at hy; cases hy
    have hx := List.getElem?_eq_getElem hi
    exact ih i _ y hx hy (h2 i _ v hx hv)

/-! ### what comes back, under names of the caller's -/
def sh0 (k : Nat) : AVal → AVal
  | .own id n => .own (id + k) n
  | .ptr id i j => .ptr (id + k) i j
  | x => x
def sh1 (k : Nat) : AVal → AVal
  | .agg l => .agg (l.map (sh0 k))
  | x => sh0 k x
def sh (k : Nat) : AVal → AVal
  | .tup l => .tup (l.map (sh1 k))
  | x => sh1 k x
def shB (k : Nat) : Blk → Blk
  | .ints et q xs => .ints et q xs
  | .gen et sz es => .gen et sz (es.map fun e => e.map (sh0 k))
/-- Nothing of what was handed in. -/
def nI0 : AVal → Bool
  | .junk | .int _ _ | .bool _ | .str _ | .nil | .own _ _ | .ptr _ _ _ => true
  | _ => false
def nI1 : AVal → Bool
  | .agg l => l.all nI0
  | x => nI0 x
def nI : AVal → Bool
  | .tup l => l.all nI1
  | x => nI1 x
def nIB : Blk → Bool
  | .ints _ _ _ => true
  | .gen _ _ es => es.all fun e => e.all nI0

def phiS (φ φ' : Phi) (k : Nat) : Phi := fun id => if id < k then φ id else φ' (id - k)

theorem sh0_rep {F' : Fz} {φ' : Phi} {k : Nat} {x : AVal} {v : Value} (hx : nI0 x = true) (h : RepV F' φ' x v) : RepV F (phiS φ φ' k) (sh0 k x) v := by
  cases x <;> simp only [nI0, Bool.false_eq_true] at hx
  case own id n =>
    simp only [sh0]
    cases h with
    | own _ _ g cap sz et q1 q2 q3 => exact .own _ _ g cap sz et (by unfold phiS; rw [if_neg (by omega), Nat.add_sub_cancel]; exact q1) q2 q3
    | ownNil _ q => exact .ownNil _ (by unfold phiS; rw [if_neg (by omega), Nat.add_sub_cancel]; exact q)
  case ptr id i j =>
    simp only [sh0]
    cases h with | ptr _ _ _ g cap sz et q1 => exact .ptr _ _ _ g cap sz et (by unfold phiS; rw [if_neg (by omega), Nat.add_sub_cancel]; exact q1)
  all_goals (simp only [sh0]; cases h; constructor <;> assumption)
theorem all_get {p : AVal → Bool} {l : List AVal} (h : l.all p = true) {i : Nat} {x : AVal} (hx : l[i]? = some x) : p x = true := List.all_eq_true.1 h x (List.mem_of_getElem? hx)
theorem sh1_rep {F' : Fz} {φ' : Phi} {k : Nat} {x : AVal} {v : Value} (hx : nI1 x = true) (h : RepV F' φ' x v) : RepV F (phiS φ φ' k) (sh1 k x) v := by
  cases x
  case agg l =>
    cases h with | agg _ vs hl h1 h2 => ?_
    refine .agg _ vs (by simpa using hl) h1 fun i y v hy hv => ?_
    rw [List.getElem?_map] at hy
    cases hq : l[i]? with
    | none => rw [hq] at hy; cases hy
    | some q =>
      rw [hq] at hy; simp at hy; subst hy
      exact sh0_rep (all_get hx hq) (h2 i q v hq hv)
  all_goals (refine sh0_rep ?_ h; exact hx)
theorem sh_rep {F' : Fz} {φ' : Phi} {k : Nat} {x : AVal} {v : Value} (hx : nI x = true) (h : RepV F' φ' x v) : RepV F (phiS φ φ' k) (sh k x) v := by
  cases x
  case tup l =>
    cases h with | tup _ vs hl h2 => ?_
    refine .tup _ vs (by simpa using hl) fun i y v hy hv => ?_
    rw [List.getElem?_map] at hy
    cases hq : l[i]? with
    | none => rw [hq] at hy; cases hy
    | some q =>
      rw [hq] at hy; simp at hy; subst hy
      exact sh1_rep (all_get hx hq) (h2 i q v hq hv)
  all_goals (refine sh1_rep ?_ h; exact hx)

theorem shB_es (k : Nat) (b : Blk) : (shB k b).es = b.es.map (fun e => e.map (sh0 k)) ∧ (shB k b).sz = b.sz ∧ (shB k b).et = b.et := by
  cases b <;> simp [shB, Blk.es, Blk.sz, Blk.et, intEs, sh0]

/-- The caller's state behind the call. -/
theorem RelH.back {base : Nat} {H : List (Option Blk)} {H' : List Blk} (h : RelH F φ base H w) {F' : Fz} {φ' : Phi} {w' : World} (h' : RelH F' φ' w.heap.size (H'.map some) w') (hb : Below w.heap.size w w') (hbase : base ≤ w.heap.size) (hn : ∀ b ∈ H', nIB b = true) :
    RelH F (phiS φ φ' H.length) base (H ++ H'.map fun b => some (shB H.length b)) w' ∧ PLe φ (phiS φ φ' H.length) := by
  have hle : PLe φ (phiS φ φ' H.length) := fun id hu => by
    unfold phiS
    rcases Nat.lt_or_ge id H.length with q | q
    · rw [if_pos q]
    · exact absurd (h.unused id q) hu
  have hF : ∀ g, w.heap.size ≤ g → F g = none := fun g hg => by
    cases hq : F g with
    | none => rfl
    | some o => have := h.lt hq; omega
  have new : ∀ (id : Nat) (b : Blk), (H ++ H'.map fun b => some (shB H.length b))[id]? = some (some b) → (id < H.length ∧ H[id]? = some (some b)) ∨ (H.length ≤ id ∧ ∃ b', (H'.map some)[id - H.length]? = some (some b') ∧ b = shB H.length b' ∧ b' ∈ H') := by
    intro id b hb
    rw [List.getElem?_append] at hb
    split at hb
    · rename_i q; exact .inl ⟨q, hb⟩
    · rename_i q
      rw [List.getElem?_map] at hb
      cases hq : H'[id - H.length]? with
      | none => rw [hq] at hb; cases hb
      | some b' =>
        rw [hq] at hb; simp at hb; subst hb
        exact .inr ⟨by omega, b', by rw [List.getElem?_map, hq]; rfl, rfl, List.mem_of_getElem? hq⟩
  refine ⟨⟨fun b o hbo => (hb.block b (h.lt hbo)).trans (h.agree b o hbo), fun id hid => ?_, fun id b hbk => ?_, fun i j bi bj g c s t c' s' t' hi hj h1 h2 => ?_⟩, hle⟩
  · simp only [List.length_append, List.length_map] at hid
    unfold phiS
    rw [if_neg (by omega)]
    exact h'.unused _ (by simp; omega)
  · rcases new id b hbk with ⟨q1, q2⟩ | ⟨q1, b', q2, rfl, q3⟩
    · exact (h.blk id b q2).le (FLe.refl F) hle (fun _ _ hg _ => hg) fun g c s t hg => hb.block g (h.at_lt q2 hg)
    · obtain ⟨e1, e2, e3⟩ := shB_es H.length b'
      have hph : phiS φ φ' H.length id = φ' (id - H.length) := by unfold phiS; rw [if_neg (by omega)]
      rcases h'.blk _ b' q2 with ⟨p1, p2⟩ | ⟨g, cap, cur, p1, p2, p3, p4, p5, p6, p7, p8⟩
      · exact .inl ⟨by rw [hph]; exact p1, by rw [e1, p2]; rfl⟩
      · refine .inr ⟨g, cap, cur, by rw [hph, e2, e3]; exact p1, by omega, hF g p2, by rw [e3]; exact p4, by rw [e1]; simpa using p5, p6, by rw [e2]; exact p7, fun i e he => ?_⟩
        rw [e1, List.getElem?_map] at he
        cases hq : b'.es[i]? with
        | none => rw [hq] at he; cases he
        | some e' =>
          rw [hq] at he; simp at he; subst he
          refine ⟨by rw [e2]; simpa using (p8 i e' hq).1, fun j x hx => ?_⟩
          rw [List.getElem?_map] at hx
          cases hq2 : e'[j]? with
          | none => rw [hq2] at hx; cases hx
          | some y =>
            rw [hq2] at hx; simp at hx; subst hx
            obtain ⟨u, u1, u2, u3⟩ := (p8 i e' hq).2 j y hq2
            have hnI : nI0 y = true := by
              have := hn b' q3
              cases b' with
              | ints et k xs =>
                simp only [Blk.es, intEs, List.getElem?_map, Option.map_eq_some_iff] at hq
                obtain ⟨n, _, rfl⟩ := hq
                match j, hq2 with
                | 0, hq2 => simp at hq2; subst hq2; rfl
              | gen et sz es =>
                have h1 := List.all_eq_true.1 this e' (List.mem_of_getElem? hq)
                exact all_get h1 hq2
            exact ⟨u, by rw [e2]; exact u1, sh0_rep hnI u2, u3⟩
  · rcases new i bi hi with ⟨q1, q2⟩ | ⟨q1, b1, q2, _, _⟩ <;> rcases new j bj hj with ⟨r1, r2⟩ | ⟨r1, b2, r2, _, _⟩
    · unfold phiS at h1 h2; rw [if_pos q1] at h1; rw [if_pos r1] at h2; exact h.inj i j _ _ g c s t c' s' t' q2 r2 h1 h2
    · unfold phiS at h1 h2; rw [if_pos q1] at h1; rw [if_neg (by omega)] at h2
      have a1 := h.at_lt q2 h1
      rcases h'.blk _ b2 r2 with ⟨p, _⟩ | ⟨g', _, _, p, p2, _⟩
      · rw [h2] at p; cases p
      · rw [h2] at p; injection p with p; omega
    · unfold phiS at h1 h2; rw [if_neg (by omega)] at h1; rw [if_pos r1] at h2
      have a1 := h.at_lt r2 h2
      rcases h'.blk _ b1 q2 with ⟨p, _⟩ | ⟨g', _, _, p, p2, _⟩
      · rw [h1] at p; cases p
      · rw [h1] at p; injection p with p; omega
    · unfold phiS at h1 h2; rw [if_neg (by omega)] at h1; rw [if_neg (by omega)] at h2
      have := h'.inj _ _ b1 b2 g c s t c' s' t' q2 r2 h1 h2
      omega

theorem AWPL_call {all : Array Oper} {Q : Exit → St → Prop} {rest : List Oper} {o : Oper} {fo : Operand} {args : Array Operand} {tys : Array TypeId} {d f : Nat} {caps ys : List AVal} {r : AVal} {H : List Blk}
    (hop : o.op = .call ⟨.value fo, args, tys⟩) (hdst : o.dst = some d) (hpc : pcOf all st.s o.guard = (true, true)) (hf : opd st.s fo = .func f caps) (hcall : ∀ args w, (callFunc f args).run P w = .ok (.enter f args) w)
    (hP : Pure P f ys r H) (hargs : ArgsOk st.h ((args.toList.map fun x => sv (opd st.s x)) ++ caps) ys) (hsc : (args.toList.all fun x => sc true (opd st.s x)) = true) (hd : d < st.n) (hr : nI r = true) (hH : H.all nIB = true)
    (h : AWPL P w0 all Q rest { st with s := putL st.s d (sh st.h.length r), h := st.h ++ H.map fun b => some (shB st.h.length b) }) : AWPL P w0 all Q (o :: rest) st := by
  intro F φ a w hrel
  have hwant : Region.wanted o (yielded all a.tmps) = true := by rw [pc_wanted hrel (by rw [hpc]), hpc]
  refine wpList_step fun K hK => ?_
  rw [if_pos hwant]
  have hfr := opd_rep hrel fo
  rw [hf] at hfr
  obtain ⟨cv, hcv, hcl, hcr⟩ : ∃ cv : Array Value, a.eval fo = .func (.func f) #[] cv ∧ caps.length = cv.size ∧ ∀ (i : Nat) (x : AVal) (v : Value), caps[i]? = some x → cv[i]? = some v → RepV F φ x v := by
    generalize a.eval fo = u at hfr
    cases hfr with | func _ _ vs h1 h2 => exact ⟨vs, rfl, h1, h2⟩
  have hrun : (execOp a.eval o).run P w = .ok (.enter f (args.map a.eval ++ cv)) w := by
    simp only [execOp, hop, resolve, hcv, Deferred.ofValue, Sem.run_bind, Sem.run_pure, Result.andThen_ok, invoke, Array.empty_append, hcall]
  unfold Oper.wp
  rw [hrun]
  obtain ⟨g1, g2⟩ := hargs.get
  have hlen : ys.length = (args.map a.eval ++ cv).size := by
    rw [← g1]; simp [hcl]
  have hc := hP w (addOwn F φ st.h w) (args.map a.eval ++ cv) (addOwn_agree hrel.heap) hlen (fun i y v hy hv => by
    have hi : i < ((args.toList.map fun x => sv (opd st.s x)) ++ caps).length := by
      rw [g1]
      rcases Nat.lt_or_ge i ys.length with c | c
      · exact c
      · rw [List.getElem?_eq_none c] at hy; cases hy
    have hx := List.getElem?_eq_getElem hi
    refine argOk_rep hrel.heap (g2 i _ y hx hy) ?_
    rw [List.getElem?_append] at hx
    rw [Array.getElem?_append] at hv
    simp only [List.length_map, Array.length_toList] at hx
    simp only [Array.size_map] at hv
    split at hx
    · rename_i hlt
      rw [if_pos hlt] at hv
      rw [List.getElem?_map, Array.getElem?_toList] at hx
      rw [Array.getElem?_map] at hv
      cases hq : args[i]? with
      | none => rw [hq] at hv; cases hv
      | some q =>
        rw [hq] at hx hv
        simp only [Option.map_some, Option.some.injEq] at hx hv
        rw [← hx, ← hv]
        exact ev_rep hrel (List.all_eq_true.1 hsc q (Array.mem_toList_iff.2 (Array.mem_of_getElem? hq)))
    · rename_i hge
      rw [if_neg hge] at hv
      exact hcr _ _ v hx hv)
  refine hc.mono fun e w' ⟨v, F', φ', he, hF, hH', hv, hb⟩ => ?_
  subst he
  refine hK _ _ ?_
  obtain ⟨k1, k2⟩ := hrel.heap.back hH' hb hrel.below.size (List.all_eq_true.1 hH)
  have := Rel.put (st := { st with h := st.h ++ H.map fun b => some (shB st.h.length b) }) (d := d) (x := sh st.h.length r) (v := v) ⟨k1, hrel.size, fun i => (hrel.slots i).le (FLe.refl F) k2, hrel.defers, hrel.below.trans (hb.mono hrel.below.size)⟩ hd (sh_rep hr hv)
  rw [hdst]
  exact h F _ _ w' this

theorem AWPL_skip {all : Array Oper} {Q : Exit → St → Prop} {rest : List Oper} {o : Oper} {d : Nat} (hdst : o.dst = some d) (hpc : pcOf all st.s o.guard = (true, false)) (hd : d < st.n)
    (h : AWPL P w0 all Q rest { st with s := putL st.s d (.opt false .junk) }) : AWPL P w0 all Q (o :: rest) st := by
  intro F φ a w hrel
  have hwant : Region.wanted o (yielded all a.tmps) = false := by rw [pc_wanted hrel (by rw [hpc]), hpc]
  refine wpList_step fun K hK => ?_
  rw [if_neg (by simp [hwant]), hdst]
  exact hK _ _ (h F φ _ w (hrel.put hd (.opt _ _ _ (fun h => nomatch h) fun _ => rfl)))

end
end Go.AX
