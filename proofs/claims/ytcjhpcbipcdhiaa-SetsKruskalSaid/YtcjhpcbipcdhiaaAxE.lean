/-
  Steps that touch memory of the call's own, on abstract states. Conditions: the table of types is the program's.
-/
import Derived.Test.YtcjhpcbipcdhiaaAxD
set_option linter.unusedSimpArgs false
set_option linter.unusedVariables false
namespace Go.AX
open Go Go.RowKit

section
variable {P : Program} {T : Tab} {F : Fz} {φ : Phi} {w0 : World} {st : St} {a : Act} {w : World}

theorem Blk.ext_lt {H : List (Option Blk)} {id : Nat} {b : Blk} (h : H[id]? = some (some b)) : id < H.length := by
  rcases Nat.lt_or_ge id H.length with q | q
  · exact q
  · rw [List.getElem?_eq_none q] at h; cases h

theorem BlkOk.le {F' : Fz} {φ' : Phi} {base : Nat} {w w' : World} {id : Nat} {b : Blk} (h : BlkOk F φ base w id b) (hF : FLe F F') (hφ : PLe φ φ') (hN : ∀ g, base ≤ g → F g = none → g < w.heap.size → F' g = none)
    (hw : ∀ g c s t, φ id = .at g c s t → w'.heap[g]? = w.heap[g]?) : BlkOk F' φ' base w' id b := by
  rcases h with ⟨h1, h2⟩ | ⟨g, cap, cur, h1, h2, h3, h4, h5, h6, h7, h8⟩
  · exact .inl ⟨by rw [hφ id (by rw [h1]; simp), h1], h2⟩
  · refine .inr ⟨g, cap, cur, by rw [hφ id (by rw [h1]; simp), h1], h2, hN g h2 h3 ?_, by rw [hw g _ _ _ h1]; exact h4, h5, h6, h7, fun i e hi => ⟨(h8 i e hi).1, fun j x hj => ?_⟩⟩
    · exact (Array.getElem?_eq_some_iff.1 h4).1
    · obtain ⟨u, q1, q2, q3⟩ := (h8 i e hi).2 j x hj
      exact ⟨u, q1, q2.le hF hφ, q3⟩

theorem RelH.lt {base : Nat} {H : List (Option Blk)} (h : RelH F φ base H w) {b : Nat} {o : Obj} (hb : F b = some o) : b < w.heap.size := by
  have := h.agree b o hb
  exact (Array.getElem?_eq_some_iff.1 this).1
theorem RelH.new_none {base : Nat} {H : List (Option Blk)} (h : RelH F φ base H w) : F w.heap.size = none := by
  cases hF : F w.heap.size with
  | none => rfl
  | some o => have := h.lt hF; omega
theorem RelH.at_lt {base : Nat} {H : List (Option Blk)} (h : RelH F φ base H w) {id : Nat} {b : Blk} (hb : H[id]? = some (some b)) {g c s : Nat} {t : TypeId} (hφ : φ id = .at g c s t) : g < w.heap.size := by
  rcases h.blk id b hb with ⟨q, _⟩ | ⟨g', cap', cur, q, _, _, hh, _⟩
  · rw [hφ] at q; cases q
  · rw [hφ] at q; injection q with e1; subst e1; exact (Array.getElem?_eq_some_iff.1 hh).1

def upd (φ : Phi) (id : Nat) (l : Loc) : Phi := fun i => if i = id then l else φ i
theorem upd_le {base : Nat} {H : List (Option Blk)} (h : RelH F φ base H w) (l : Loc) : PLe φ (upd φ H.length l) := fun id hu => by
  unfold upd
  split
  · rename_i e; subst e; exact absurd (h.unused _ (Nat.le_refl _)) hu
  · rfl

/-- A new block of the call's own. -/
theorem RelH.alloc {base : Nat} {H : List (Option Blk)} (h : RelH F φ base H w) (hbase : base ≤ w.heap.size) (b : Blk) (cur : Array Value) (cap : Nat) (hcap : b.es.length ≤ cap) (hmax : cap ≤ maxLen) (hsz : cur.size = cap * b.sz)
    (hes : ∀ (i : Nat) (e : List AVal), b.es[i]? = some e → e.length = b.sz ∧ ∀ (j : Nat) (x : AVal), e[j]? = some x → ∃ u, cur[i * b.sz + j]? = some u ∧ RepV F φ x u ∧ u.oneCell' = true) :
    RelH F (upd φ H.length (.at w.heap.size cap b.sz b.et)) base (H ++ [some b]) (w.alloc (.cells cur b.et)) ∧ PLe φ (upd φ H.length (.at w.heap.size cap b.sz b.et)) := by
  have hle := upd_le h (.at w.heap.size cap b.sz b.et)
  refine ⟨⟨fun b' o hb => ?_, fun id hid => ?_, fun id b' hb => ?_, fun i j bi bj g c s t c' s' t' hi hj h1 h2 => ?_⟩, hle⟩
  · exact (Below.heap_alloc w _ b' (h.lt hb)).trans (h.agree b' o hb)
  · simp only [List.length_append, List.length_cons, List.length_nil] at hid
    unfold upd
    rw [if_neg (by omega)]
    exact h.unused id (by omega)
  · rw [List.getElem?_append] at hb
    split at hb
    · exact (h.blk id b' hb).le (FLe.refl F) hle (fun g _ hg _ => hg) fun g c s t hg => Below.heap_alloc w _ g (h.at_lt hb hg)
    · rename_i hge
      have hid : id = H.length := by
        rcases Nat.lt_or_ge id (H.length + 1) with q | q
        · omega
        · rw [List.getElem?_eq_none (by simp; omega)] at hb; cases hb
      subst hid
      simp at hb; subst hb
      refine .inr ⟨w.heap.size, cap, cur, by simp [upd], hbase, h.new_none, heap_alloc_new w _, hcap, hmax, hsz, fun i e hi => ⟨(hes i e hi).1, fun j x hj => ?_⟩⟩
      obtain ⟨u, q1, q2, q3⟩ := (hes i e hi).2 j x hj
      exact ⟨u, q1, q2.le (FLe.refl F) hle, q3⟩
  · have key : ∀ (k : Nat) (bk : Blk) (g' c s : Nat) (t : TypeId), (H ++ [some b])[k]? = some (some bk) → upd φ H.length (.at w.heap.size cap b.sz b.et) k = .at g' c s t → (k < H.length ∧ H[k]? = some (some bk) ∧ φ k = .at g' c s t ∧ g' < w.heap.size) ∨ (k = H.length ∧ g' = w.heap.size) := by
      intro k bk g' c s t hk hu
      rw [List.getElem?_append] at hk
      unfold upd at hu
      split at hk
      · rename_i hlt
        rw [if_neg (by omega)] at hu
        exact .inl ⟨hlt, hk, hu, h.at_lt hk hu⟩
      · have hid : k = H.length := by
          rcases Nat.lt_or_ge k (H.length + 1) with q | q
          · omega
          · rw [List.getElem?_eq_none (by simp; omega)] at hk; cases hk
        rw [if_pos hid] at hu
        injection hu with e1
        exact .inr ⟨hid, e1.symm⟩
    rcases key i bi g c s t hi h1 with ⟨_, a1, a2, a3⟩ | ⟨a1, a2⟩ <;> rcases key j bj g c' s' t' hj h2 with ⟨_, b1, b2, b3⟩ | ⟨b1, b2⟩
    · exact h.inj i j bi bj g c s t c' s' t' a1 b1 a2 b2
    · omega
    · omega
    · omega

theorem Rel.alloc (h : Rel F φ w0 st a w) (b : Blk) (cur : Array Value) (cap : Nat) (hcap : b.es.length ≤ cap) (hmax : cap ≤ maxLen) (hsz : cur.size = cap * b.sz)
    (hes : ∀ (i : Nat) (e : List AVal), b.es[i]? = some e → e.length = b.sz ∧ ∀ (j : Nat) (x : AVal), e[j]? = some x → ∃ u, cur[i * b.sz + j]? = some u ∧ RepV F φ x u ∧ u.oneCell' = true) :
    Rel F (upd φ st.h.length (.at w.heap.size cap b.sz b.et)) w0 { st with h := st.h ++ [some b] } a (w.alloc (.cells cur b.et)) := by
  obtain ⟨h1, h2⟩ := h.heap.alloc h.below.size b cur cap hcap hmax hsz hes
  exact ⟨h1, h.size, fun i => (h.slots i).le (FLe.refl F) h2, h.defers, h.below.alloc h.below.size _⟩

/-- The block that a variable of one value is. -/
def blk1 (et : TypeId) (sz : Nat) : AVal → Option Blk
  | .int k n => if sz = 1 then some (.ints et k [n]) else none
  | x => match cellsA x with
    | some l => if l.length = sz then some (.gen et sz [l]) else none
    | none => none

theorem blk1_rep {et : TypeId} {sz : Nat} {x : AVal} {v : Value} {b : Blk} (hr : RepV F φ x v) (hb : blk1 et sz x = some b) :
    b.et = et ∧ b.sz = sz ∧ b.es.length = 1 ∧ v.cells.size = 1 * b.sz ∧ ∀ (i : Nat) (e : List AVal), b.es[i]? = some e → e.length = b.sz ∧ ∀ (j : Nat) (x : AVal), e[j]? = some x → ∃ u, v.cells[i * b.sz + j]? = some u ∧ RepV F φ x u ∧ u.oneCell' = true := by
  have gen : ∀ {l : List AVal}, cellsA x = some l → l.length = sz → v.cells.size = 1 * sz ∧ ∀ (i : Nat) (e : List AVal), [l][i]? = some e → e.length = sz ∧ ∀ (j : Nat) (y : AVal), e[j]? = some y → ∃ u, v.cells[i * sz + j]? = some u ∧ RepV F φ y u ∧ u.oneCell' = true := by
    intro l hl hs
    obtain ⟨q1, q2⟩ := cells_rep hr hl
    refine ⟨by omega, fun i e he => ?_⟩
    match i, he with
    | 0, he =>
      simp at he; subst he
      exact ⟨hs, fun j y hy => by simpa using q2 j y hy⟩
  unfold blk1 at hb
  split at hb
  · rename_i k n
    split at hb
    · rename_i hs
      injection hb with e; subst e
      have := gen (l := [.int k n]) rfl (by simp [hs])
      subst hs
      exact ⟨rfl, rfl, rfl, this.1, by simpa [Blk.es, intEs, Blk.sz] using this.2⟩
    · cases hb
  · split at hb
    · rename_i l hl
      split at hb
      · rename_i hs
        injection hb with e; subst e
        have := gen hl hs
        exact ⟨rfl, rfl, rfl, this.1, this.2⟩
      · cases hb
    · cases hb

/-- A new variable with this value. -/
theorem newVar_ok (h : Rel F φ w0 st a w) {et : TypeId} {sz : Nat} {x : AVal} {v : Value} {b : Blk} (hr : RepV F φ x v) (hb : blk1 et sz x = some b) {d : Nat} (hd : d < st.n) :
    ∃ φ', (newVar et v).run P w = .ok ⟨w.heap.size, 0, none⟩ (w.alloc (.cells v.cells et)) ∧ Rel F φ' w0 { st with s := putL st.s d (.ptr st.h.length 0 0), h := st.h ++ [some b] } (a.put (some d) (.pointer (some ⟨w.heap.size, 0, none⟩))) (w.alloc (.cells v.cells et)) := by
  obtain ⟨q1, q2, q3, q4, q5⟩ := blk1_rep hr hb
  have := h.alloc b v.cells 1 (by omega) (by unfold maxLen; omega) (by simpa using q4) q5
  rw [q1] at this
  have hrun : (newVar et v).run P w = .ok ⟨w.heap.size, 0, none⟩ (w.alloc (.cells v.cells et)) := by
    simp only [newVar, newRow, newObj, Sem.run_bind]; rfl
  refine ⟨upd φ st.h.length (.at w.heap.size 1 b.sz et), hrun, ?_⟩
  refine Rel.put (st := { st with h := st.h ++ [some b] }) this hd ?_
  have hp := RepV.ptr (F := F) (φ := upd φ st.h.length (.at w.heap.size 1 b.sz et)) st.h.length 0 0 w.heap.size 1 b.sz et (by simp [upd])
  simpa using hp


/-- One block of the call's own has turned, nothing else. -/
theorem RelH.turn {base : Nat} {H : List (Option Blk)} (h : RelH F φ base H w) {w' : World} {id : Nat} {b b' : Blk} (hb : H[id]? = some (some b)) {g cap : Nat} {cur' : Array Value} (hφ : φ id = .at g cap b.sz b.et)
    (hsz : b'.sz = b.sz) (het : b'.et = b.et) (hw : w'.heap[g]? = some (.cells cur' b.et (0, 0))) (hother : ∀ k, k ≠ g → w'.heap[k]? = w.heap[k]?) (hlen : b'.es.length ≤ cap) (hcur : cur'.size = cap * b.sz)
    (hes : ∀ (i : Nat) (e : List AVal), b'.es[i]? = some e → e.length = b.sz ∧ ∀ (j : Nat) (x : AVal), e[j]? = some x → ∃ u, cur'[i * b.sz + j]? = some u ∧ RepV F φ x u ∧ u.oneCell' = true) :
    RelH F φ base (H.set id (some b')) w' := by
  have hold := h.blk id b hb
  have hFg : F g = none ∧ base ≤ g ∧ cap ≤ maxLen := by
    rcases hold with ⟨q, _⟩ | ⟨g', cap', cur, q, q1, q2, _, _, q3, _⟩
    · rw [hφ] at q; cases q
    · rw [hφ] at q; injection q with e1 e2; subst e1 e2; exact ⟨q2, q1, q3⟩
  have hlt := Blk.ext_lt hb
  refine ⟨fun b2 o hF => ?_, fun id' hid => h.unused id' (by simpa using hid), fun id' b2 hb2 => ?_, fun i j bi bj g' c s t c' s' t' hi hj h1 h2 => ?_⟩
  · rw [hother b2 (by rintro rfl; rw [hFg.1] at hF; cases hF)]; exact h.agree b2 o hF
  · by_cases hid : id' = id
    · subst hid
      rw [List.getElem?_set_self hlt] at hb2
      simp at hb2; subst hb2
      exact .inr ⟨g, cap, cur', by rw [hsz, het]; exact hφ, hFg.2.1, hFg.1, by rw [het]; exact hw, hlen, hFg.2.2, by rw [hsz]; exact hcur, by rw [hsz]; exact hes⟩
    · rw [List.getElem?_set_ne (Ne.symm hid)] at hb2
      refine (h.blk id' b2 hb2).le (FLe.refl F) (PLe.refl φ) (fun g _ hg _ => hg) fun g2 c s t hg => hother g2 ?_
      rintro rfl
      exact hid (h.inj id' id b2 b g2 c s t _ _ _ hb2 hb hg hφ)
  · have key : ∀ (k : Nat) (bk : Blk), (H.set id (some b'))[k]? = some (some bk) → ∃ bk', H[k]? = some (some bk') := by
      intro k bk hk
      by_cases hid : k = id
      · subst hid; exact ⟨b, hb⟩
      · rw [List.getElem?_set_ne (Ne.symm hid)] at hk; exact ⟨bk, hk⟩
    obtain ⟨bi', hi'⟩ := key i bi hi
    obtain ⟨bj', hj'⟩ := key j bj hj
    exact h.inj i j bi' bj' g' c s t c' s' t' hi' hj' h1 h2

/-- A block of the call's own is given up. -/
theorem RelH.kill {base : Nat} {H : List (Option Blk)} (h : RelH F φ base H w) (id : Nat) : RelH F φ base (H.set id none) w := by
  refine ⟨h.agree, fun id' hid => h.unused id' (by simpa using hid), fun id' b2 hb2 => ?_, fun i j bi bj g' c s t c' s' t' hi hj h1 h2 => ?_⟩
  · by_cases hid : id' = id
    · subst hid
      rcases Nat.lt_or_ge id' H.length with q | q
      · rw [List.getElem?_set_self q] at hb2; simp at hb2
      · rw [List.getElem?_eq_none (by simpa using q)] at hb2; cases hb2
    · rw [List.getElem?_set_ne (Ne.symm hid)] at hb2; exact h.blk id' b2 hb2
  · have key : ∀ (k : Nat) (bk : Blk), (H.set id none)[k]? = some (some bk) → H[k]? = some (some bk) := by
      intro k bk hk
      by_cases hid : k = id
      · subst hid
        rcases Nat.lt_or_ge k H.length with q | q
        · rw [List.getElem?_set_self q] at hk; simp at hk
        · rw [List.getElem?_eq_none (by simpa using q)] at hk; cases hk
      · rw [List.getElem?_set_ne (Ne.symm hid)] at hk; exact hk
    exact h.inj i j bi bj g' c s t c' s' t' (key i bi hi) (key j bj hj) h1 h2

def storeB (b : Blk) (i j : Nat) (x : AVal) : Bool × Blk :=
  match b with
  | .ints et k xs => match x with
    | .int k' n => (decide (k = k') && decide (j = 0) && decide (i < xs.length), .ints et k (xs.set i n))
    | _ => (false, b)
  | .gen et sz es => match cellsA x with
    | some l => (decide (i < es.length) && decide (j + l.length ≤ sz), .gen et sz (es.set i ((es.getD i []).take j ++ l ++ (es.getD i []).drop (j + l.length))))
    | none => (false, b)

theorem mid_get (cur : List Value) (o : Nat) (vs : List Value) (h : o + vs.length ≤ cur.length) (m : Nat) :
    (cur.take o ++ vs ++ cur.drop (o + vs.length))[m]? = if o ≤ m ∧ m < o + vs.length then vs[m - o]? else cur[m]? := by
  rw [List.append_assoc, List.getElem?_append, List.getElem?_append, List.length_take, Nat.min_eq_left (by omega)]
  by_cases h1 : m < o
  · rw [if_pos h1, if_neg (by omega), List.getElem?_take, if_pos h1]
  · rw [if_neg h1]
    by_cases h2 : m - o < vs.length
    · rw [if_pos h2, if_pos (by omega)]
    · rw [if_neg h2, if_neg (by omega), List.getElem?_drop]; congr 1; omega
theorem mid_getA (cur : List AVal) (o : Nat) (vs : List AVal) (h : o + vs.length ≤ cur.length) (m : Nat) :
    (cur.take o ++ vs ++ cur.drop (o + vs.length))[m]? = if o ≤ m ∧ m < o + vs.length then vs[m - o]? else cur[m]? := by
  rw [List.append_assoc, List.getElem?_append, List.getElem?_append, List.length_take, Nat.min_eq_left (by omega)]
  by_cases h1 : m < o
  · rw [if_pos h1, if_neg (by omega), List.getElem?_take, if_pos h1]
  · rw [if_neg h1]
    by_cases h2 : m - o < vs.length
    · rw [if_pos h2, if_pos (by omega)]
    · rw [if_neg h2, if_neg (by omega), List.getElem?_drop]; congr 1; omega

theorem row_ne {i i' s j j' : Nat} (hj : j < s) (hj' : j' < s) (hi : i ≠ i') : i * s + j ≠ i' * s + j' := by
  intro h
  have h1 : (i * s + j) / s = i := by rw [Nat.mul_comm, Nat.mul_add_div (by omega), Nat.div_eq_of_lt hj]; rfl
  have h2 : (i' * s + j') / s = i' := by rw [Nat.mul_comm, Nat.mul_add_div (by omega), Nat.div_eq_of_lt hj']; rfl
  rw [h] at h1; omega

/-- The cells of a block in which some have been overwritten. -/
theorem gen_cells {sz : Nat} {es : List (List AVal)} {cur vs : Array Value} {l : List AVal} {i j cap : Nat} (hcur : cur.size = cap * sz) (hlen : es.length ≤ cap) (hi : i < es.length) (hj : j + l.length ≤ sz) (hvs : vs.size = l.length)
    (hes : ∀ (i : Nat) (e : List AVal), es[i]? = some e → e.length = sz ∧ ∀ (j : Nat) (x : AVal), e[j]? = some x → ∃ u, cur[i * sz + j]? = some u ∧ RepV F φ x u ∧ u.oneCell' = true)
    (hl : ∀ (j : Nat) (x : AVal), l[j]? = some x → ∃ u, vs[j]? = some u ∧ RepV F φ x u ∧ u.oneCell' = true) :
    ∀ (i' : Nat) (e : List AVal), (es.set i ((es.getD i []).take j ++ l ++ (es.getD i []).drop (j + l.length)))[i']? = some e → e.length = sz ∧
      ∀ (j' : Nat) (x : AVal), e[j']? = some x → ∃ u, (cur.toList.take (i * sz + j) ++ vs.toList ++ cur.toList.drop (i * sz + j + vs.toList.length)).toArray[i' * sz + j']? = some u ∧ RepV F φ x u ∧ u.oneCell' = true := by
  intro i' e he
  have hei : es[i]? = some (es.getD i []) := by rw [List.getD_eq_getElem?_getD, List.getElem?_eq_getElem hi]; rfl
  have hlen_i := (hes i _ hei).1
  have hbound : i * sz + sz ≤ cap * sz := by rw [← Nat.succ_mul]; exact Nat.mul_le_mul_right _ (by omega)
  have hmid : ∀ m, ((cur.toList.take (i * sz + j) ++ vs.toList ++ cur.toList.drop (i * sz + j + vs.toList.length)).toArray)[m]? = if i * sz + j ≤ m ∧ m < i * sz + j + vs.toList.length then vs.toList[m - (i * sz + j)]? else cur.toList[m]? := fun m => by
    rw [List.getElem?_toArray]; exact mid_get _ _ _ (by simp; omega) m
  have hvl : vs.toList.length = l.length := by simpa using hvs
  by_cases hii : i' = i
  · subst hii
    rw [List.getElem?_set_self hi] at he
    simp only [Option.some.injEq] at he
    subst he
    refine ⟨by simp only [List.length_append, List.length_take, List.length_drop]; omega, fun j' x hx => ?_⟩
    rw [mid_getA _ _ _ (by omega)] at hx
    rw [hmid]
    by_cases hin : j ≤ j' ∧ j' < j + l.length
    · rw [if_pos hin] at hx
      obtain ⟨u, q1, q2⟩ := hl _ x hx
      exact ⟨u, by rw [if_pos (by omega), show i' * sz + j' - (i' * sz + j) = j' - j by omega, Array.getElem?_toList]; exact q1, q2⟩
    · rw [if_neg hin] at hx
      obtain ⟨u, q1, q2⟩ := (hes i' _ hei).2 j' x hx
      exact ⟨u, by rw [if_neg (by omega), Array.getElem?_toList]; exact q1, q2⟩
  · rw [List.getElem?_set_ne (Ne.symm hii)] at he
    refine ⟨(hes i' e he).1, fun j' x hx => ?_⟩
    obtain ⟨u, q1, q2⟩ := (hes i' e he).2 j' x hx
    have hj' : j' < sz := by
      have := (hes i' e he).1
      rcases Nat.lt_or_ge j' e.length with q | q
      · omega
      · rw [List.getElem?_eq_none q] at hx; cases hx
    refine ⟨u, ?_, q2⟩
    rw [hmid, if_neg, Array.getElem?_toList]; exact q1
    rintro ⟨r1, r2⟩
    rw [hvl] at r2
    obtain ⟨d, hd⟩ : ∃ d, i' * sz + j' = i * sz + (j + d) ∧ d < l.length := ⟨i' * sz + j' - (i * sz + j), by omega, by omega⟩
    exact row_ne hj' (show j + d < sz by omega) hii hd.1

theorem store_ok (hT : TabOk P T) (h : Rel F φ w0 st a w) {t : TypeId} (hk : known (T t) = true) {id i j : Nat} {x : AVal} {b : Blk} {l : List AVal} {p v : Value} (hp : RepV F φ (.ptr id i j) p) (hr : RepV F φ x v)
    (hb : getB st.h id = some b) (hl : cellsA x = some l) (hsz : (T t).sz = l.length) (hc : (storeB b i j x).1 = true) :
    ∃ w', (Instr.storeAt t p v).run P w = .ok () w' ∧ Rel F φ w0 { st with h := st.h.set id (some (storeB b i j x).2) } a w' := by
  cases hp with | ptr _ _ _ g cap sz et hφ => ?_
  have hbH := getB_some hb
  rcases h.heap.blk id b hbH with ⟨q, _⟩ | ⟨g', cap', cur, q, q1, q2, q3, q4, q5, q6, q7⟩
  · rw [hφ] at q; cases q
  rw [hφ] at q
  injection q with e1 e2 e3 e4
  subst e1 e2 e3 e4
  obtain ⟨r1, r2⟩ := cells_rep hr hl
  -- in the general form
  have hgen : i < b.es.length ∧ j + l.length ≤ b.sz ∧ (storeB b i j x).2.es = b.es.set i ((b.es.getD i []).take j ++ l ++ (b.es.getD i []).drop (j + l.length)) ∧ (storeB b i j x).2.sz = b.sz ∧ (storeB b i j x).2.et = b.et := by
    cases b with
    | ints et k xs =>
      cases x <;> simp only [storeB, Bool.false_eq_true, Bool.and_eq_true, decide_eq_true_eq] at hc
      rename_i k' n
      obtain ⟨⟨rfl, rfl⟩, hi⟩ := hc
      simp [cellsA, one1] at hl
      subst hl
      have : ((intEs k xs).getD i []) = [.int k (xs.getD i 0)] := by simp [intEs, List.getD_eq_getElem?_getD, List.getElem?_eq_getElem hi]
      refine ⟨by simpa [Blk.es, intEs] using hi, by simp [Blk.sz], ?_, rfl, rfl⟩
      simp only [Blk.es, storeB, this]
      simp [intEs, List.map_set]
    | gen et sz es =>
      simp only [storeB, hl, Bool.and_eq_true, decide_eq_true_eq] at hc ⊢
      exact ⟨hc.1, hc.2, rfl, rfl, rfl⟩
  obtain ⟨g1, g2, g3, g4, g5⟩ := hgen
  have hbound : i * b.sz + b.sz ≤ cap * b.sz := by rw [← Nat.succ_mul]; exact Nat.mul_le_mul_right _ (by omega)
  have hone : ∀ u ∈ v.cells.toList, u.oneCell' = true := by
    intro u hu
    obtain ⟨m, hm, rfl⟩ := List.getElem_of_mem hu
    have hm' : m < l.length := by simpa [r1] using hm
    obtain ⟨u', e1, _, e2⟩ := r2 m _ (List.getElem?_eq_getElem hm')
    rw [Array.getElem_toList]
    rw [Array.getElem?_eq_getElem (by omega)] at e1
    injection e1 with e1; rw [e1]; exact e2
  have hst := run_storeCells_at P g (i * b.sz + j) b.et v.cells.toList 0 cur w q3 (by simp only [Array.length_toList]; omega) hone
  simp only [Nat.add_zero] at hst
  have hrun : (Instr.storeAt t (.pointer (some ⟨g, i * b.sz + j, none⟩)) v).run P w = .ok () (w.setRow g (cur.toList.take (i * b.sz + j) ++ v.cells.toList ++ cur.toList.drop (i * b.sz + j + v.cells.toList.length)).toArray) := by
    rw [← hst]
    simp [Instr.storeAt, Instr.sureAddr, storeVar, size_run hT hk, hsz, r1]
  refine ⟨_, hrun, ?_, h.size, h.slots, h.defers, ?_⟩
  · refine h.heap.turn hbH hφ g4 g5 (setRow_heap w g cur _ b.et _ q3) (fun k hk => setRow_other w g k _ hk) (by rw [g3]; simpa using q4) ?_ ?_
    · simp only [List.size_toArray, List.length_append, List.length_take, List.length_drop, Array.length_toList]; omega
    · rw [g3]; exact gen_cells q6 q4 g1 g2 r1 q7 r2
  · exact h.below.trans ⟨rfl, rfl, rfl, by simp [World.setRow], fun k hk => setRow_other w g k _ (by omega)⟩

end
end Go.AX
