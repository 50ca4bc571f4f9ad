/-
  make, append, composite literals, on abstract states. Conditions: the table of types is the program's.
-/
import Derived.Test.YtcjhpcbipcdhiaaAxE
import Derived.Maps.AppendAt
import Derived.Laws.AppendOwnNone
set_option linter.unusedSimpArgs false
set_option linter.unusedVariables false
namespace Go.AX
open Go Go.RowKit

section
variable {P : Program} {T : Tab} {F : Fz} {φ : Phi} {w0 : World} {st : St} {a : Act} {w : World}

theorem RelH.step {base : Nat} {H : List (Option Blk)} (h : RelH F φ base H w) {w' : World} (hF : ∀ b o, F b = some o → w'.heap[b]? = w.heap[b]?)
    (hL : ∀ id b g c s t, H[id]? = some (some b) → φ id = .at g c s t → w'.heap[g]? = w.heap[g]?) : RelH F φ base H w' :=
  ⟨fun b o hb => (hF b o hb).trans (h.agree b o hb), h.unused, fun id b hb => (h.blk id b hb).le (FLe.refl F) (PLe.refl φ) (fun _ _ hg _ => hg) fun g c s t hg => hL id b g c s t hb hg, h.inj⟩

def BlkRep (F : Fz) (φ : Phi) (cur : Array Value) (b : Blk) : Prop :=
  ∀ (i : Nat) (e : List AVal), b.es[i]? = some e → e.length = b.sz ∧ ∀ (j : Nat) (x : AVal), e[j]? = some x → ∃ u, cur[i * b.sz + j]? = some u ∧ RepV F φ x u ∧ u.oneCell' = true

theorem RelH.adoptL {base : Nat} {H : List (Option Blk)} (h : RelH F φ base H w) (b : Blk) (l : Loc)
    (hok : BlkOk F (upd φ H.length l) base w H.length b) (hnew : ∀ i bi g c s t c' s' t', H[i]? = some (some bi) → φ i = .at g c s t → l ≠ .at g c' s' t') :
    RelH F (upd φ H.length l) base (H ++ [some b]) w ∧ PLe φ (upd φ H.length l) := by
  have hle := upd_le h l
  refine ⟨⟨h.agree, fun id hid => ?_, fun id b' hb => ?_, fun i j bi bj g c s t c' s' t' hi hj h1 h2 => ?_⟩, hle⟩
  · simp only [List.length_append, List.length_cons, List.length_nil] at hid
    unfold upd
    rw [if_neg (by omega)]
    exact h.unused id (by omega)
  · rw [List.getElem?_append] at hb
    split at hb
    · exact (h.blk id b' hb).le (FLe.refl F) hle (fun g _ hg _ => hg) fun g c s t hg => rfl
    · rename_i hge
      have hid : id = H.length := by
        rcases Nat.lt_or_ge id (H.length + 1) with q | q
        · omega
        · rw [List.getElem?_eq_none (by simp; omega)] at hb; cases hb
      subst hid
      simp at hb; subst hb
      exact hok
  · have key : ∀ (k : Nat) (bk : Blk) (g' c s : Nat) (t : TypeId), (H ++ [some b])[k]? = some (some bk) → upd φ H.length l k = .at g' c s t → (k < H.length ∧ H[k]? = some (some bk) ∧ φ k = .at g' c s t) ∨ (k = H.length ∧ l = .at g' c s t) := by
      intro k bk g' c s t hk hu
      rw [List.getElem?_append] at hk
      unfold upd at hu
      split at hk
      · rename_i hlt
        rw [if_neg (by omega)] at hu
        exact .inl ⟨hlt, hk, hu⟩
      · have hid : k = H.length := by
          rcases Nat.lt_or_ge k (H.length + 1) with q | q
          · omega
          · rw [List.getElem?_eq_none (by simp; omega)] at hk; cases hk
        rw [if_pos hid] at hu
        exact .inr ⟨hid, hu⟩
    rcases key i bi g c s t hi h1 with ⟨_, a1, a2⟩ | ⟨a1, a2⟩ <;> rcases key j bj g c' s' t' hj h2 with ⟨_, b1, b2⟩ | ⟨b1, b2⟩
    · exact h.inj i j bi bj g c s t c' s' t' a1 b1 a2 b2
    · exact absurd b2 (hnew i bi g c s t c' s' t' a1 a2)
    · exact absurd a2 (hnew j bj g c' s' t' c s t b1 b2)
    · omega

theorem madeCells_get (z : Array Value) (n m : Nat) (hm : m < n) (hz : 0 < z.size) : (madeCells z n)[m]? = z[m % z.size]? := by
  have : m % z.size < z.size := Nat.mod_lt _ hz
  simp [madeCells, hm, this, getElem!_pos]

/-- The zero value's cells, as abstract ones. -/
def zeroA (r : TyRow) : List AVal := r.zero.cells.toList.map absV
def okZero (r : TyRow) : Bool := decide (r.zero.cells.size = r.sz) && decide (0 < r.sz) && r.zero.cells.toList.all (·.oneCell')

/-- n zero values in a row. -/
def zeroB (e : TypeId) (r : TyRow) (n : Nat) : Blk :=
  match r.d with
  | .int k => .ints e k (List.replicate n 0)
  | _ => .gen e r.sz (List.replicate n (zeroA r))

theorem zeroB_rep {e : TypeId} {r : TyRow} {n : Nat} (hz : okZero r = true) (hi : ∀ k, r.d = .int k → r.sz = 1 ∧ r.zero = .int k 0) :
    (zeroB e r n).et = e ∧ (zeroB e r n).sz = r.sz ∧ (zeroB e r n).es.length = n ∧ BlkRep F φ (madeCells r.zero.cells (n * r.sz)) (zeroB e r n) := by
  simp only [okZero, Bool.and_eq_true, decide_eq_true_eq, List.all_eq_true] at hz
  obtain ⟨⟨h1, h2⟩, h3⟩ := hz
  have gen : ∀ (i : Nat) (e : List AVal), (List.replicate n (zeroA r))[i]? = some e → e.length = r.sz ∧ ∀ (j : Nat) (x : AVal), e[j]? = some x → ∃ u, (madeCells r.zero.cells (n * r.sz))[i * r.sz + j]? = some u ∧ RepV F φ x u ∧ u.oneCell' = true := by
    intro i e he
    rw [List.getElem?_replicate] at he
    split at he
    · rename_i hin
      injection he with he; subst he
      refine ⟨by simp [zeroA, h1], fun j x hx => ?_⟩
      simp only [zeroA, List.getElem?_map, Option.map_eq_some_iff] at hx
      obtain ⟨u, hu, rfl⟩ := hx
      rw [Array.getElem?_toList] at hu
      have hj : j < r.sz := by rw [← h1]; exact (Array.getElem?_eq_some_iff.1 hu).1
      have hb : i * r.sz + r.sz ≤ n * r.sz := by rw [← Nat.succ_mul]; exact Nat.mul_le_mul_right _ (by omega)
      refine ⟨u, ?_, absV_rep F φ u, h3 u (Array.mem_toList_iff.2 (Array.mem_of_getElem? hu))⟩
      rw [madeCells_get _ _ _ (by omega) (by omega), h1, Nat.mul_comm, Nat.mul_add_mod, Nat.mod_eq_of_lt hj]
      exact hu
    · cases he
  unfold zeroB
  split
  · rename_i k hd
    obtain ⟨e1, e2⟩ := hi k hd
    refine ⟨rfl, e1.symm, by simp [Blk.es, intEs], ?_⟩
    have hza : zeroA r = [.int k 0] := by
      have : inb k 0 = true := by cases k <;> decide
      simp [zeroA, e2, Value.cells, absV, this]
    unfold BlkRep
    rw [hza, e1] at gen
    simpa [Blk.es, intEs, Blk.sz, e1] using gen
  · exact ⟨rfl, rfl, by simp [Blk.es], gen⟩

theorem make_ok (hT : TabOk P T) (h : Rel F φ w0 st a w) {t e : TypeId} (hd : (T t).d = .slice e) (hk : known (T e) = true) (hz : okZero (T e) = true) (hi : ∀ k, (T e).d = .int k → (T e).sz = 1 ∧ (T e).zero = .int k 0)
    {k1 k2 : IntKind} {n : Nat} (hn : n ≤ 1099511627776) (hby : (T e).by_ ≤ 128) {d : Nat} (hdst : d < st.n) :
    ∃ φ' w', (Instr.makeSlice t (.int k1 (n : Int)) (.int k2 (n : Int))).run P w = .ok (.slice (some ⟨w.heap.size, 0, none⟩) n n) w' ∧
      Rel F φ' w0 { st with s := putL st.s d (.own st.h.length n), h := st.h ++ [some (zeroB e (T e) n)] } (a.put (some d) (.slice (some ⟨w.heap.size, 0, none⟩) n n)) w' := by
  obtain ⟨⟨i, q1, q2, q3, q4⟩, _⟩ := known_run hT hk
  obtain ⟨z1, z2, z3, z4⟩ := zeroB_rep (F := F) (φ := φ) (e := e) (n := n) hz hi
  have hbytes : (i.bytes : Int) * (n : Int) ≤ 281474976710656 := by
    have : i.bytes * n ≤ 128 * 1099511627776 := Nat.mul_le_mul (by omega) hn
    have h2 : ((i.bytes * n : Nat) : Int) ≤ 281474976710656 := by omega
    rwa [Int.natCast_mul] at h2
  have hrun := run_make (P := P) w t e i (T e).zero (slice_under hT hd) q1 q4 k1 k2 (n : Int) (n : Int) (by omega) (by omega) hbytes (by omega)
  simp only [Int.toNat_natCast] at hrun
  have hal := h.alloc (zeroB e (T e) n) (madeCells (T e).zero.cells (n * i.size)) n (by omega) (by unfold maxLen; omega) (by rw [size_madeCells, q2, z2]) (by rw [q2]; exact z4)
  rw [z1] at hal
  refine ⟨upd φ st.h.length (.at w.heap.size n (zeroB e (T e) n).sz e), _, hrun, ?_⟩
  refine Rel.put (st := { st with h := st.h ++ [some (zeroB e (T e) n)] }) hal hdst ?_
  exact .own _ _ w.heap.size n (zeroB e (T e) n).sz e (by simp [upd]) (Nat.le_refl _) (by unfold maxLen; omega)


theorem fill_ok (size : Nat) : ∀ (parts : List (Nat × Value)) (k : Nat) (cells : Array Value), (∀ (q : Nat) (p : Nat × Value), parts[q]? = some p → p.1 = k + q ∧ p.2.cells.size = size) → (k + parts.length) * size ≤ cells.size →
    ∃ cells', Instr.fill (fun i => some (i * size, size)) cells parts = some cells' ∧ cells'.size = cells.size ∧
      (∀ (q : Nat) (p : Nat × Value), parts[q]? = some p → ∀ j, j < size → cells'[(k + q) * size + j]? = p.2.cells[j]?) ∧ ∀ m, m < k * size → cells'[m]? = cells[m]?
  | [], k, cells, _, _ => ⟨cells, rfl, rfl, fun q p h => by simp at h, fun _ _ => rfl⟩
  | (i, v) :: rest, k, cells, hp, hle => by
    obtain ⟨rfl, hv⟩ := hp 0 _ rfl
    simp only [List.length_cons] at hle
    have hb : i * size + size ≤ cells.size := by
      rw [← Nat.succ_mul]; exact Nat.le_trans (Nat.mul_le_mul_right _ (by omega)) hle
    obtain ⟨f1, f2⟩ := fold_setA v (i * size) cells (by simpa [hv] using hb)
    obtain ⟨c', r1, r2, r3, r4⟩ := fill_ok size rest (i + 1) _ (fun q p h => by have := hp (q + 1) p (by simpa using h); exact ⟨by omega, this.2⟩) (by rw [f1]; rw [show i + 1 + rest.length = i + (rest.length + 1) by omega]; exact hle)
    refine ⟨c', ?_, by rw [r2, f1], fun q p h j hj => ?_, fun m hm => ?_⟩
    · simp only [Instr.fill]
      rw [if_neg (by simp [hv]; simpa using hb)]
      exact r1
    · match q, h with
      | 0, h =>
        simp at h; subst h
        simp only [Nat.add_zero]
        rw [r4 _ (by rw [Nat.succ_mul]; omega), f2, if_pos (by rw [hv]; omega), Nat.add_sub_cancel_left]
      | q + 1, h =>
        have := r3 q p (by simpa using h) j hj
        show c'[(i + (q + 1)) * size + j]? = _
        rw [show i + (q + 1) = i + 1 + q by omega]; exact this
    · have hm' : m < i * size := hm
      rw [r4 m (by rw [Nat.succ_mul]; omega), f2, if_neg (by omega)]

def intsOf (k : IntKind) : List AVal → Option (List Int)
  | [] => some []
  | .int k' n :: r => if k = k' then (intsOf k r).map (n :: ·) else none
  | _ => none
def rowsOf (sz : Nat) : List AVal → Option (List (List AVal))
  | [] => some []
  | x :: r => match cellsA x with
    | some c => if c.length = sz then (rowsOf sz r).map (c :: ·) else none
    | none => none
def partsB (e : TypeId) (r : TyRow) (l : List AVal) : Option Blk :=
  match r.d with
  | .int k => (intsOf k l).map (.ints e k)
  | _ => (rowsOf r.sz l).map (.gen e r.sz)

theorem rowsOf_get {sz : Nat} : ∀ {l : List AVal} {es : List (List AVal)}, rowsOf sz l = some es → es.length = l.length ∧ ∀ (i : Nat) (e : List AVal), es[i]? = some e → e.length = sz ∧ ∃ x, l[i]? = some x ∧ cellsA x = some e
  | [], es, h => by simp [rowsOf] at h; subst h; exact ⟨rfl, fun i e h => by simp at h⟩
  | x :: r, es, h => by
    simp only [rowsOf] at h
    split at h
    · rename_i c hc
      split at h
      · rename_i hs
        simp only [Option.map_eq_some_iff] at h
        obtain ⟨es', h', rfl⟩ := h
        obtain ⟨q1, q2⟩ := rowsOf_get h'
        refine ⟨by simp [q1], fun i e he => ?_⟩
        match i, he with
        | 0, he => simp at he; subst he; exact ⟨hs, x, rfl, hc⟩
        | i + 1, he => exact q2 i e (by simpa using he)
      · cases h
    · cases h
theorem intsOf_rows {k : IntKind} : ∀ {l : List AVal} {xs : List Int}, intsOf k l = some xs → rowsOf 1 l = some (intEs k xs)
  | [], xs, h => by simp [intsOf] at h; subst h; rfl
  | x :: r, xs, h => by
    cases x <;> simp only [intsOf, reduceCtorEq] at h
    rename_i k' n
    split at h
    · rename_i hk
      subst hk
      simp only [Option.map_eq_some_iff] at h
      obtain ⟨xs', h', rfl⟩ := h
      have := intsOf_rows h'
      simp [rowsOf, cellsA, one1, this, intEs]
    · cases h
theorem partsB_rows {e : TypeId} {r : TyRow} {l : List AVal} {b : Blk} (hs : ∀ k, r.d = .int k → r.sz = 1) (h : partsB e r l = some b) : b.et = e ∧ b.sz = r.sz ∧ rowsOf r.sz l = some b.es := by
  unfold partsB at h
  split at h
  · rename_i k hd
    simp only [Option.map_eq_some_iff] at h
    obtain ⟨xs, h', rfl⟩ := h
    exact ⟨rfl, (hs k hd).symm, by rw [hs k hd]; exact intsOf_rows h'⟩
  · simp only [Option.map_eq_some_iff] at h
    obtain ⟨xs, h', rfl⟩ := h
    exact ⟨rfl, rfl, h'⟩

theorem build_ok (hT : TabOk P T) (h : Rel F φ w0 st a w) {t e : TypeId} (hd : (T t).d = .slice e) (hk : known (T e) = true) (hz : okZero (T e) = true) (hi : ∀ k, (T e).d = .int k → (T e).sz = 1)
    {len : Nat} {l : List AVal} {vs : List (Nat × Value)} {b : Blk} (hlen : len * (T e).sz ≤ 16777216) (hl : l.length = len) (hvl : vs.length = len)
    (hvs : ∀ (q : Nat) (p : Nat × Value) (x : AVal), vs[q]? = some p → l[q]? = some x → p.1 = q ∧ RepV F φ x p.2) (hb : partsB e (T e) l = some b) {d : Nat} (hdst : d < st.n) :
    ∃ φ' w', (Instr.buildSlice t len vs.toArray).run P w = .ok (.slice (some ⟨w.heap.size, 0, none⟩) len len) w' ∧
      Rel F φ' w0 { st with s := putL st.s d (.own st.h.length len), h := st.h ++ [some b] } (a.put (some d) (.slice (some ⟨w.heap.size, 0, none⟩) len len)) w' := by
  obtain ⟨b1, b2, b3⟩ := partsB_rows hi hb
  obtain ⟨r1, r2⟩ := rowsOf_get b3
  have hz' := hz
  simp only [okZero, Bool.and_eq_true, decide_eq_true_eq] at hz'
  obtain ⟨⟨z1, z2⟩, _⟩ := hz'
  have hcell : ∀ (q : Nat) (p : Nat × Value), vs[q]? = some p → p.1 = 0 + q ∧ p.2.cells.size = (T e).sz ∧ ∃ e', b.es[q]? = some e' ∧ ∀ (j : Nat) (y : AVal), e'[j]? = some y → ∃ u, p.2.cells[j]? = some u ∧ RepV F φ y u ∧ u.oneCell' = true := by
    intro q p hq
    have hql : q < len := by
      rcases Nat.lt_or_ge q len with c | c
      · exact c
      · rw [List.getElem?_eq_none (by omega)] at hq; cases hq
    obtain ⟨e1, e2⟩ := hvs q p _ hq (List.getElem?_eq_getElem (by omega))
    have heq : b.es[q]? = some (b.es[q]'(by omega)) := List.getElem?_eq_getElem (by omega)
    obtain ⟨s1, x, s2, s3⟩ := r2 q _ heq
    rw [List.getElem?_eq_getElem (by omega)] at s2
    injection s2 with s2
    rw [s2] at e2
    obtain ⟨c1, c2⟩ := cells_rep e2 s3
    exact ⟨by omega, by omega, _, heq, c2⟩
  obtain ⟨cells, f1, f2, f3, _⟩ := fill_ok (T e).sz vs 0 ((Array.range (len * (T e).sz)).map ((if len * (T e).sz = 0 then #[] else (T e).zero.cells)[· % (if len * (T e).sz = 0 then #[] else (T e).zero.cells).size]!)) (fun q p hq => ⟨(hcell q p hq).1, (hcell q p hq).2.1⟩) (by simp [hvl])
  have hrun : (Instr.buildSlice t len vs.toArray).run P w = .ok (.slice (some ⟨w.heap.size, 0, none⟩) len len) (w.alloc (.cells cells e)) := by
    have hzr := zero_run hT hk
    have hsr := size_run hT hk
    by_cases h0 : len * (T e).sz = 0
    · rw [if_pos h0] at f1
      simp only [Instr.buildSlice, Sem.run_bind, run_underlying (slice_under hT hd), Result.andThen_ok, hsr, if_pos h0]
      rw [if_neg (by omega)]
      simp only [Sem.run_pure, Sem.run_bind, Result.andThen_ok, f1]; rfl
    · rw [if_neg h0] at f1
      simp only [Instr.buildSlice, Sem.run_bind, run_underlying (slice_under hT hd), Result.andThen_ok, hsr, if_neg h0]
      rw [if_neg (by omega)]
      simp only [Sem.run_pure, Sem.run_bind, Result.andThen_ok, hzr, f1]; rfl
  have hal := h.alloc b cells len (by omega) (by
      have : len ≤ len * (T e).sz := Nat.le_mul_of_pos_right _ z2
      unfold maxLen; omega) (by rw [f2, b2]; simp) (fun i e' he => ⟨by rw [b2]; exact (r2 i e' he).1, fun j x hx => by
    have hil : i < len := by
      rcases Nat.lt_or_ge i b.es.length with c | c
      · omega
      · rw [List.getElem?_eq_none c] at he; cases he
    have hq : vs[i]? = some (vs[i]'(by omega)) := List.getElem?_eq_getElem (by omega)
    obtain ⟨c1, c2, e2, c3, c4⟩ := hcell i _ hq
    rw [he] at c3; injection c3 with c3; subst c3
    obtain ⟨u, u1, u2⟩ := c4 j x hx
    have hj : j < (T e).sz := by rw [← c2]; exact (Array.getElem?_eq_some_iff.1 u1).1
    exact ⟨u, by rw [b2]; have := f3 i _ hq j hj; rw [Nat.zero_add] at this; rw [this]; exact u1, u2⟩⟩)
  rw [b1] at hal
  refine ⟨upd φ st.h.length (.at w.heap.size len b.sz e), _, hrun, ?_⟩
  refine Rel.put (st := { st with h := st.h ++ [some b] }) hal hdst ?_
  refine .own _ _ w.heap.size len b.sz e (by simp [upd]) (Nat.le_refl _) ?_
  have : len ≤ len * (T e).sz := Nat.le_mul_of_pos_right _ z2
  unfold maxLen; omega

end
end Go.AX
