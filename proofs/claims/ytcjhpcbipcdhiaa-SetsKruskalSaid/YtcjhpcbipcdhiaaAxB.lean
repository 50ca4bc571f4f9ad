/-
  Abstract values, and what they say of the model's: lists that came in ('imm': nobody writes them), blocks of the call's own ('own', 'ptr'). Conditions: none.
-/
import Derived.Test.YtcjhpcbipcdhiaaAxA
set_option linter.unusedSimpArgs false
set_option linter.unusedVariables false
namespace Go.AX
open Go Go.RowKit

inductive AVal where
  | junk
  | int (k : IntKind) (n : Int)
  | bool (b : Bool)
  | str (s : List UInt8)
  | nil
  | agg (l : List AVal)
  | tup (l : List AVal)
  | imm (sz : Nat) (es : List (List AVal))
  | immp (es : List AVal)
  | own (id n : Nat)
  | ptr (id i j : Nat)
  | func (f : Nat) (caps : List AVal)
  | opt (b : Bool) (v : AVal)
  | ints (k : IntKind) (xs : List Int)
  | intp (k : IntKind) (n : Int)
  | fn (sz n : Nat) (f : Nat → List AVal)
  deriving Inhabited

def fnEs (n : Nat) (f : Nat → List AVal) : List (List AVal) := (List.range n).map f
def intEs (k : IntKind) (xs : List Int) : List (List AVal) := xs.map fun x => [AVal.int k x]

inductive Loc where
  | unused
  | nils
  | at (g cap sz : Nat) (et : TypeId)

abbrev Fz := Nat → Option Obj
abbrev Phi := Nat → Loc

def cellF (F : Fz) (a : Addr) : Option Value :=
  match F a.block with
  | some (.cells c _ _) => if a.spot.isSome then none else c[a.off]?
  | _ => none

/-- No block of the call's own. -/
def φ0 : Phi := fun _ => .unused

inductive RepV (F : Fz) : Phi → AVal → Value → Prop
  | junk {φ : Phi} (v : Value) : RepV F φ .junk v
  | int {φ : Phi} (k : IntKind) (n : Int) : lo k ≤ n → n ≤ hi k → RepV F φ (.int k n) (.int k n)
  | bool {φ : Phi} (b : Bool) : RepV F φ (.bool b) (.bool b)
  | str {φ : Phi} (s : ByteArray) (l : List UInt8) : s.data.toList = l → l.length ≤ maxLen → RepV F φ (.str l) (.string s)
  | nil {φ : Phi} : RepV F φ .nil (.slice none 0 0)
  | agg {φ : Phi} (l : List AVal) (vs : Array Value) : l.length = vs.size → (∀ (i : Nat) (v : Value), vs[i]? = some v → v.oneCell' = true) → (∀ (i : Nat) (x : AVal) (v : Value), l[i]? = some x → vs[i]? = some v → RepV F φ x v) → RepV F φ (.agg l) (.agg vs)
  | tup {φ : Phi} (l : List AVal) (vs : Array Value) : l.length = vs.size → (∀ (i : Nat) (x : AVal) (v : Value), l[i]? = some x → vs[i]? = some v → RepV F φ x v) → RepV F φ (.tup l) (.tuple vs)
  | imm {φ : Phi} (sz : Nat) (es : List (List AVal)) (A : Option Addr) (n c : Nat) (u : Nat → Nat → Value) : n = es.length → n ≤ c → c ≤ maxLen → (∀ (i : Nat) (e : List AVal), es[i]? = some e → e.length = sz) → (0 < n → A ≠ none) →
      (∀ (ad : Addr) (i : Nat) (e : List AVal) (j : Nat) (x : AVal), A = some ad → es[i]? = some e → e[j]? = some x → cellF F (ad.add (i * sz + j)) = some (u i j) ∧ (u i j).oneCell' = true) →
      (∀ (i : Nat) (e : List AVal) (j : Nat) (x : AVal), es[i]? = some e → e[j]? = some x → RepV F φ0 x (u i j)) → RepV F φ (.imm sz es) (.slice A n c)
  | immp {φ : Phi} (es : List AVal) (ad : Addr) (u : Nat → Value) : (∀ (j : Nat) (x : AVal), es[j]? = some x → cellF F (ad.add j) = some (u j) ∧ (u j).oneCell' = true) → (∀ (j : Nat) (x : AVal), es[j]? = some x → RepV F φ0 x (u j)) → RepV F φ (.immp es) (.pointer (some ad))
  | own {φ : Phi} (id n g cap sz : Nat) (et : TypeId) : φ id = .at g cap sz et → n ≤ cap → cap ≤ maxLen → RepV F φ (.own id n) (.slice (some ⟨g, 0, none⟩) n cap)
  | ownNil {φ : Phi} (id : Nat) : φ id = .nils → RepV F φ (.own id 0) (.slice none 0 0)
  | ptr {φ : Phi} (id i j g cap sz : Nat) (et : TypeId) : φ id = .at g cap sz et → RepV F φ (.ptr id i j) (.pointer (some ⟨g, i * sz + j, none⟩))
  | func {φ : Phi} (f : Nat) (caps : List AVal) (vs : Array Value) : caps.length = vs.size → (∀ (i : Nat) (x : AVal) (v : Value), caps[i]? = some x → vs[i]? = some v → RepV F φ x v) → RepV F φ (.func f caps) (.func (.func f) #[] vs)
  | opt {φ : Phi} (b : Bool) (x : AVal) (v : Value) : (b = true → RepV F φ x v) → (b = false → v = undef) → RepV F φ (.opt b x) v
  | ints {φ : Phi} (k : IntKind) (xs : List Int) (v : Value) : RepV F φ (.imm 1 (intEs k xs)) v → RepV F φ (.ints k xs) v
  | intp {φ : Phi} (k : IntKind) (n : Int) (v : Value) : RepV F φ (.immp [.int k n]) v → RepV F φ (.intp k n) v
  | fn {φ : Phi} (sz n : Nat) (f : Nat → List AVal) (v : Value) : RepV F φ (.imm sz (fnEs n f)) v → RepV F φ (.fn sz n f) v

/-- F' says no less than F; φ' of used names the same. -/
def FLe (F F' : Fz) : Prop := ∀ b o, F b = some o → F' b = some o
def PLe (φ φ' : Phi) : Prop := ∀ id, φ id ≠ .unused → φ' id = φ id
theorem FLe.refl (F : Fz) : FLe F F := fun _ _ h => h
theorem FLe.trans {F G H : Fz} (h : FLe F G) (k : FLe G H) : FLe F H := fun b o x => k b o (h b o x)
theorem PLe.refl (φ : Phi) : PLe φ φ := fun _ _ => rfl
theorem PLe.trans {a b c : Phi} (h : PLe a b) (k : PLe b c) : PLe a c := fun id hu => by
  have := h id hu
  rw [k id (by rw [this]; exact hu), this]

theorem cellF_le {F F' : Fz} (h : FLe F F') {a : Addr} {v : Value} (hc : cellF F a = some v) : cellF F' a = some v := by
  unfold cellF at *
  cases hF : F a.block with
  | none => rw [hF] at hc; cases hc
  | some o => rw [h _ _ hF]; rw [hF] at hc; exact hc

theorem PLe0 (φ : Phi) : PLe φ0 φ := fun _ h => absurd rfl h

theorem RepV.le {F F' : Fz} (hF : FLe F F') {φ : Phi} {x : AVal} {v : Value} (h : RepV F φ x v) : ∀ {φ' : Phi}, PLe φ φ' → RepV F' φ' x v := by
  induction h with
  | junk v => exact fun _ => .junk v
  | int k n h1 h2 => exact fun _ => .int k n h1 h2
  | bool b => exact fun _ => .bool b
  | str s l h h' => exact fun _ => .str s l h h'
  | nil => exact fun _ => .nil
  | agg l vs hl h1 _ ih => exact fun hφ => .agg l vs hl h1 fun i x v a b => ih i x v a b hφ
  | tup l vs hl _ ih => exact fun hφ => .tup l vs hl fun i x v a b => ih i x v a b hφ
  | imm sz es A n c u h1 h2 h3 h4 h5 h6 _ ih => exact fun _ => .imm sz es A n c u h1 h2 h3 h4 h5 (fun ad i e j x a b d => ⟨cellF_le hF (h6 ad i e j x a b d).1, (h6 ad i e j x a b d).2⟩) fun i e j x a b => ih i e j x a b (PLe.refl _)
  | immp es ad u h1 _ ih => exact fun _ => .immp es ad u (fun j x a => ⟨cellF_le hF (h1 j x a).1, (h1 j x a).2⟩) fun j x a => ih j x a (PLe.refl _)
  | own id n g cap sz et h1 h2 h3 => exact fun hφ => .own id n g cap sz et (by rw [hφ id (by rw [h1]; simp), h1]) h2 h3
  | ownNil id h1 => exact fun hφ => .ownNil id (by rw [hφ id (by rw [h1]; simp), h1])
  | ptr id i j g cap sz et h1 => exact fun hφ => .ptr id i j g cap sz et (by rw [hφ id (by rw [h1]; simp), h1])
  | func f caps vs hl _ ih => exact fun hφ => .func f caps vs hl fun i x v a b => ih i x v a b hφ
  | opt b x v _ h2 ih => exact fun hφ => .opt b x v (fun hb => ih hb hφ) h2
  | ints k xs v _ ih => exact fun hφ => .ints k xs v (ih hφ)
  | intp k n v _ ih => exact fun hφ => .intp k n v (ih hφ)
  | fn sz n f v _ ih => exact fun hφ => .fn sz n f v (ih hφ)

inductive Blk where
  | ints (et : TypeId) (k : IntKind) (xs : List Int)
  | gen (et : TypeId) (sz : Nat) (es : List (List AVal))
  deriving Inhabited
def Blk.et : Blk → TypeId | .ints et _ _ => et | .gen et _ _ => et
def Blk.sz : Blk → Nat | .ints _ _ _ => 1 | .gen _ sz _ => sz
def Blk.es : Blk → List (List AVal) | .ints _ k xs => intEs k xs | .gen _ _ es => es

structure St where
  n : Nat
  s : List (Nat × AVal)
  h : List (Option Blk)

def look : List (Nat × AVal) → Nat → AVal
  | [], _ => .junk
  | (k, v) :: r, i => if k = i then v else look r i
def putL : List (Nat × AVal) → Nat → AVal → List (Nat × AVal)
  | [], i, v => [(i, v)]
  | (k, x) :: r, i, v => if k = i then (i, v) :: r else (k, x) :: putL r i v
def keepL (K : List Nat) : List (Nat × AVal) → List (Nat × AVal)
  | [] => []
  | (k, v) :: r => if K.contains k then (k, v) :: keepL K r else keepL K r

theorem look_putL (l : List (Nat × AVal)) (i : Nat) (v : AVal) (j : Nat) : look (putL l i v) j = if i = j then v else look l j := by
  induction l with
  | nil => by_cases h : i = j <;> simp [putL, look, h]
  | cons p r ih =>
    obtain ⟨k, x⟩ := p
    by_cases hk : k = i
    · subst hk; by_cases h : k = j <;> simp [putL, look, h]
    · simp only [putL, if_neg hk, look, ih]
      by_cases h : i = j
      · subst h; simp [hk]
      · simp [h]

theorem look_keepL_not (K : List Nat) (k : Nat) (hk : K.contains k = false) (l : List (Nat × AVal)) : look (keepL K l) k = .junk := by
  induction l with
  | nil => rfl
  | cons q r ih =>
    obtain ⟨k', x'⟩ := q
    cases hk' : K.contains k' with
    | true =>
      have : k' ≠ k := by rintro rfl; rw [hk] at hk'; cases hk'
      simp only [keepL, hk', if_true, look, if_neg this, ih]
    | false => simp only [keepL, hk', Bool.false_eq_true, if_false, ih]

theorem look_keepL (K : List Nat) (l : List (Nat × AVal)) (j : Nat) : look (keepL K l) j = look l j ∨ look (keepL K l) j = .junk := by
  cases hj : K.contains j with
  | false => exact .inr (look_keepL_not K j hj l)
  | true =>
    left
    induction l with
    | nil => rfl
    | cons p r ih =>
      obtain ⟨k, x⟩ := p
      cases hk : K.contains k with
      | true => simp only [keepL, hk, if_true, look, ih]
      | false =>
        have : k ≠ j := by rintro rfl; rw [hk] at hj; cases hj
        simp only [keepL, hk, Bool.false_eq_true, if_false, look, if_neg this, ih]

/-- A block of the call's own, as it lies. -/
def BlkOk (F : Fz) (φ : Phi) (base : Nat) (w : World) (id : Nat) (b : Blk) : Prop :=
  (φ id = .nils ∧ b.es = []) ∨ ∃ g cap cur, φ id = .at g cap b.sz b.et ∧ base ≤ g ∧ F g = none ∧ w.heap[g]? = some (.cells cur b.et (0, 0)) ∧ b.es.length ≤ cap ∧ cap ≤ maxLen ∧ cur.size = cap * b.sz ∧
    ∀ i e, b.es[i]? = some e → e.length = b.sz ∧ ∀ j x, e[j]? = some x → ∃ u, cur[i * b.sz + j]? = some u ∧ RepV F φ x u ∧ u.oneCell' = true

structure RelH (F : Fz) (φ : Phi) (base : Nat) (H : List (Option Blk)) (w : World) : Prop where
  agree : ∀ b o, F b = some o → w.heap[b]? = some o
  unused : ∀ id, H.length ≤ id → φ id = .unused
  blk : ∀ id b, H[id]? = some (some b) → BlkOk F φ base w id b
  inj : ∀ i j bi bj g c s t c' s' t', H[i]? = some (some bi) → H[j]? = some (some bj) → φ i = .at g c s t → φ j = .at g c' s' t' → i = j

structure Rel (F : Fz) (φ : Phi) (w0 : World) (st : St) (a : Act) (w : World) : Prop where
  heap : RelH F φ w0.heap.size st.h w
  size : a.tmps.size = st.n
  slots : ∀ i, RepV F φ (look st.s i) (a.tmps.getD i undef)
  defers : a.defers = []
  below : Below w0.heap.size w0 w

def absV : Value → AVal
  | .int k n => bif inb k n then .int k n else .junk
  | .bool b => .bool b
  | .string s => if s.data.toList.length ≤ maxLen then .str s.data.toList else .junk
  | .slice none 0 0 => .nil
  | _ => .junk

theorem absV_rep (F : Fz) (φ : Phi) (v : Value) : RepV F φ (absV v) v := by
  unfold absV
  split
  · rename_i k n
    cases h : inb k n
    · exact .junk _
    · have := inb_iff.1 h; exact .int k n this.1 this.2
  · exact .bool _
  · split
    · rename_i h; exact .str _ _ rfl h
    · exact .junk _
  · exact .nil
  · exact .junk _

def opd (s : List (Nat × AVal)) : Operand → AVal
  | .tmp t => look s t
  | .const v => absV v
  | .func f => .func f []
  | .global _ => .junk

theorem opd_rep {F : Fz} {φ : Phi} {w0 : World} {st : St} {a : Act} {w : World} (h : Rel F φ w0 st a w) (x : Operand) : RepV F φ (opd st.s x) (a.eval x) := by
  cases x with
  | tmp t => exact h.slots t
  | const v => exact absV_rep F φ v
  | global g => exact .junk _
  | func f => exact .func f [] #[] rfl (by simp)

theorem Rel.put {F : Fz} {φ : Phi} {w0 : World} {st : St} {a : Act} {w : World} (h : Rel F φ w0 st a w) {d : Nat} {x : AVal} {v : Value} (hd : d < st.n) (hr : RepV F φ x v) :
    Rel F φ w0 { st with s := putL st.s d x } (a.put (some d) v) w := by
  refine ⟨h.heap, by simpa [Act.put] using h.size, fun i => ?_, h.defers, h.below⟩
  show RepV F φ (look (putL st.s d x) i) _
  rw [look_putL]
  have hsz := h.size
  by_cases hi : d = i
  · subst hi
    simp only [if_true, Act.put]
    rw [Array.getD_eq_getD_getElem?, Array.getElem?_setIfInBounds_self_of_lt (by omega)]
    exact hr
  · simp only [if_neg hi, Act.put]
    have := h.slots i
    rwa [Array.getD_eq_getD_getElem?, Array.getElem?_setIfInBounds_ne hi, ← Array.getD_eq_getD_getElem?]

theorem Rel.keep {F : Fz} {φ : Phi} {w0 : World} {st : St} {a : Act} {w : World} (h : Rel F φ w0 st a w) (K : List Nat) : Rel F φ w0 { st with s := keepL K st.s } a w := by
  refine ⟨h.heap, h.size, fun i => ?_, h.defers, h.below⟩
  rcases look_keepL K st.s i with e | e
  · show RepV F φ (look (keepL K st.s) i) _; rw [e]; exact h.slots i
  · show RepV F φ (look (keepL K st.s) i) _; rw [e]; exact .junk _

theorem agree_cell {F : Fz} {φ : Phi} {base : Nat} {H : List (Option Blk)} {w : World} (h : RelH F φ base H w) {a : Addr} {v : Value} (hc : cellF F a = some v) : w.cell? a = some v := by
  unfold cellF at hc
  cases hF : F a.block with
  | none => rw [hF] at hc; cases hc
  | some o =>
    rw [hF] at hc
    have := h.agree _ _ hF
    unfold World.cell?
    rw [this]
    exact hc

end Go.AX
