/-
  append on abstract states. Conditions: the table of types is the program's.
-/
import Derived.Test.YtcjhpcbipcdhiaaAxF
set_option linter.unusedSimpArgs false
set_option linter.unusedVariables false
namespace Go.AX
open Go Go.RowKit

section
variable {P : Program} {T : Tab} {F : Fz} {φ : Phi} {w0 : World} {st : St} {a : Act} {w : World}

def RowRep (F : Fz) (φ : Phi) (xs : List Value) (b : Blk) : Prop :=
  ∀ (i : Nat) (e : List AVal), b.es[i]? = some e → e.length = b.sz ∧ ∀ (j : Nat) (x : AVal), e[j]? = some x → ∃ u, xs[i * b.sz + j]? = some u ∧ RepV F φ x u ∧ u.oneCell' = true

def takeB (n : Nat) : Blk → Blk
  | .ints et k xs => .ints et k (xs.take n)
  | .gen et sz es => .gen et sz (es.take n)
def catB : Blk → Blk → Option Blk
  | .ints et k xs, .ints _ k' ys => if k = k' then some (.ints et k (xs ++ ys)) else none
  | .gen et sz es, .gen _ sz' fs => if sz = sz' then some (.gen et sz (es ++ fs)) else none
  | _, _ => none
def emptyB (e : TypeId) (r : TyRow) : Blk := match r.d with
  | .int k => .ints e k []
  | _ => .gen e r.sz []

theorem takeB_es (n : Nat) (b : Blk) : (takeB n b).es = b.es.take n ∧ (takeB n b).sz = b.sz ∧ (takeB n b).et = b.et := by
  cases b <;> simp [takeB, Blk.es, Blk.sz, Blk.et, intEs, List.map_take]
theorem catB_es {b c d : Blk} (h : catB b c = some d) : d.es = b.es ++ c.es ∧ d.sz = b.sz ∧ d.et = b.et ∧ c.sz = b.sz := by
  cases b <;> cases c <;> simp only [catB, reduceCtorEq] at h
  · split at h
    · rename_i hk; injection h with h; subst h hk; simp [Blk.es, Blk.sz, Blk.et, intEs]
    · cases h
  · split at h
    · rename_i hk; injection h with h; subst h hk; simp [Blk.es, Blk.sz, Blk.et]
    · cases h
theorem emptyB_es {e : TypeId} {r : TyRow} (hs : ∀ k, r.d = .int k → r.sz = 1) : (emptyB e r).es = [] ∧ (emptyB e r).sz = r.sz ∧ (emptyB e r).et = e := by
  unfold emptyB
  split
  · rename_i k hd; exact ⟨rfl, (hs k hd).symm, rfl⟩
  · exact ⟨rfl, rfl, rfl⟩

/-- What is appended. -/
def srcA (e : TypeId) (r : TyRow) (H : List (Option Blk)) : AVal → Option Blk
  | .own id m => match getB H id with
    | some b => if m ≤ b.es.length then some (takeB m b) else none
    | none => none
  | .nil => some (emptyB e r)
  | .ints k ys => some (.ints e k ys)
  | .imm sz es => some (.gen e sz es)
  | .fn sz n f => some (.gen e sz (fnEs n f))
  | _ => none

theorem src_ok (h : Rel F φ w0 st a w) {e : TypeId} {r : TyRow} (hs : ∀ k, r.d = .int k → r.sz = 1) {x : AVal} {v : Value} {b : Blk} (hr : RepV F φ x v) (hb : srcA e r st.h x = some b) (hsz : b.sz = r.sz) :
    ∃ A c news, v = .slice A b.es.length c ∧ news.length = b.es.length * r.sz ∧ RowRep F φ news b ∧ (A = none → b.es.length = 0) ∧ (∀ ad, A = some ad → ∀ j u, news[j]? = some u → w.cell? (ad.add j) = some u) ∧ ∀ u ∈ news, u.oneCell' = true := by
  have imm : ∀ {es : List (List AVal)} {b : Blk} {v : Value}, RepV F φ (.imm r.sz es) v → b.es = es → b.sz = r.sz →
      ∃ A c news, v = .slice A b.es.length c ∧ news.length = b.es.length * r.sz ∧ RowRep F φ news b ∧ (A = none → b.es.length = 0) ∧ (∀ ad, A = some ad → ∀ j u, news[j]? = some u → w.cell? (ad.add j) = some u) ∧ ∀ u ∈ news, u.oneCell' = true := by
    intro es b v hv hes hbs
    cases hv with
    | imm _ _ A n c u e1 e2 e3 e4 e5 e6 e7 =>
      subst e1 hes
      have hrow : ∀ m, m < b.es.length * r.sz → ∃ i j e, m = i * r.sz + j ∧ b.es[i]? = some e ∧ j < r.sz ∧ e.length = r.sz := by
        intro m hm
        have hpos : 0 < r.sz := by rcases Nat.eq_zero_or_pos r.sz with q | q; · rw [q] at hm; omega
                                   · exact q
        have hi : m / r.sz < b.es.length := (Nat.div_lt_iff_lt_mul hpos).2 hm
        refine ⟨m / r.sz, m % r.sz, b.es[m / r.sz]'hi, ?_, List.getElem?_eq_getElem hi, Nat.mod_lt _ hpos, e4 _ _ (List.getElem?_eq_getElem hi)⟩
        rw [Nat.mul_comm]; exact (Nat.div_add_mod m r.sz).symm
      let news := (List.range (b.es.length * r.sz)).map fun m => u (m / r.sz) (m % r.sz)
      have hget : ∀ i j e, b.es[i]? = some e → j < r.sz → news[i * r.sz + j]? = some (u i j) := by
        intro i j e hi hj
        have hil : i < b.es.length := by
          rcases Nat.lt_or_ge i b.es.length with q | q
          · exact q
          · rw [List.getElem?_eq_none q] at hi; cases hi
        have hb : i * r.sz + r.sz ≤ b.es.length * r.sz := by rw [← Nat.succ_mul]; exact Nat.mul_le_mul_right _ (by omega)
        have d1 : (i * r.sz + j) / r.sz = i := by rw [Nat.mul_comm, Nat.mul_add_div (by omega), Nat.div_eq_of_lt hj]; rfl
        have d2 : (i * r.sz + j) % r.sz = j := by rw [Nat.mul_comm, Nat.mul_add_mod, Nat.mod_eq_of_lt hj]
        show ((List.range _).map _)[_]? = _
        rw [List.getElem?_map, List.getElem?_range (by omega)]
        simp [d1, d2]
      have hcell : ∀ m v, news[m]? = some v → ∃ i j e x, m = i * r.sz + j ∧ b.es[i]? = some e ∧ e[j]? = some x ∧ v = u i j := by
        intro m v hv
        have hm : m < b.es.length * r.sz := by
          rcases Nat.lt_or_ge m (b.es.length * r.sz) with q | q
          · exact q
          · rw [List.getElem?_eq_none (by simp [news]; omega)] at hv; cases hv
        obtain ⟨i, j, e, rfl, hi, hj, hel⟩ := hrow m hm
        rw [hget i j e hi hj] at hv
        injection hv with hv
        exact ⟨i, j, e, e[j]'(by omega), rfl, hi, List.getElem?_eq_getElem (by omega), hv.symm⟩
      refine ⟨A, c, news, rfl, by simp [news], fun i e hi => ⟨by rw [hbs]; exact e4 i e hi, fun j x hx => ?_⟩, fun hA => ?_, fun ad hA m v hv => ?_, fun v hv => ?_⟩
      · have hj : j < r.sz := by
          have := e4 i e hi
          rcases Nat.lt_or_ge j e.length with q | q
          · omega
          · rw [List.getElem?_eq_none q] at hx; cases hx
        obtain ⟨ad, hA⟩ : ∃ ad, A = some ad := by
          cases hA : A with
          | some ad => exact ⟨ad, rfl⟩
          | none =>
            exact absurd hA (e5 (by
              rcases Nat.lt_or_ge i b.es.length with q | q
              · omega
              · rw [List.getElem?_eq_none q] at hi; cases hi))
        exact ⟨u i j, by rw [hbs]; exact hget i j e hi hj, (e7 i e j x hi hx).le (FLe.refl F) (PLe0 φ), (e6 ad i e j x hA hi hx).2⟩
      · rcases Nat.eq_zero_or_pos b.es.length with q | q
        · exact q
        · exact absurd hA (e5 q)
      · obtain ⟨i, j, e, x, rfl, hi, hx, rfl⟩ := hcell m v hv
        exact agree_cell h.heap (e6 ad i e j x hA hi hx).1
      · obtain ⟨m, hm, rfl⟩ := List.getElem_of_mem hv
        obtain ⟨i, j, e, x, rfl, hi, hx, hu⟩ := hcell m _ (List.getElem?_eq_getElem hm)
        cases hA : A with
        | none =>
          exact absurd hA (e5 (by
            rcases Nat.lt_or_ge i b.es.length with q | q
            · omega
            · rw [List.getElem?_eq_none q] at hi; cases hi))
        | some ad => rw [hu]; exact (e6 ad i e j x hA hi hx).2
  cases x <;> simp only [srcA, reduceCtorEq] at hb
  case nil =>
    injection hb with hb
    cases hr
    obtain ⟨q1, q2, q3⟩ := emptyB_es (e := e) hs
    subst hb
    exact ⟨none, 0, [], by simp [q1], by simp [q1], fun i e' he => by rw [q1] at he; simp at he, fun _ => by simp [q1], (fun ad h => nomatch h), by simp⟩
  case ints k ys =>
    injection hb with hb
    subst hb
    cases hr with | ints _ _ _ hr => ?_
    have hsz' : r.sz = 1 := hsz.symm
    exact imm (by rw [hsz']; exact hr) rfl hsz
  case imm sz es =>
    injection hb with hb
    subst hb
    have hsz' : r.sz = sz := hsz.symm
    exact imm (by rw [hsz']; exact hr) rfl hsz
  case fn sz n f =>
    injection hb with hb
    subst hb
    cases hr with | fn _ _ _ _ hr => ?_
    have hsz' : r.sz = sz := hsz.symm
    exact imm (by rw [hsz']; exact hr) rfl hsz
  case own id m =>
    split at hb
    · rename_i b' hb'
      split at hb
      · rename_i hm
        injection hb with hb
        subst hb
        obtain ⟨t1, t2, t3⟩ := takeB_es m b'
        rw [t2] at hsz
        cases hr with
        | ownNil _ q =>
          exact ⟨none, 0, [], by simp [t1], by simp [t1], fun i e' he => by rw [t1] at he; simp at he, fun _ => by simp [t1], (fun ad h => nomatch h), by simp⟩
        | own _ _ g cap sz et q1 q2 q3 =>
          rcases h.heap.blk id b' (getB_some hb') with ⟨p, _⟩ | ⟨g', cap', cur, p, p1, p2, p3, p4, p5, p6, p7⟩
          · rw [q1] at p; cases p
          rw [q1] at p
          injection p with e1 e2 e3 e4
          subst e1 e2 e3 e4
          have hlen : (takeB m b').es.length = m := by rw [t1]; simp; omega
          have hb1 : m * b'.sz ≤ cap * b'.sz := Nat.mul_le_mul_right _ (by omega)
          have hcell : ∀ i e j x, i < m → b'.es[i]? = some e → e[j]? = some x → (cur.toList.take (m * b'.sz))[i * b'.sz + j]? = cur[i * b'.sz + j]? := by
            intro i e j x him he hx
            have hj : j < b'.sz := by
              have := (p7 i e he).1
              rcases Nat.lt_or_ge j e.length with q | q
              · omega
              · rw [List.getElem?_eq_none q] at hx; cases hx
            have : i * b'.sz + b'.sz ≤ m * b'.sz := by rw [← Nat.succ_mul]; exact Nat.mul_le_mul_right _ (by omega)
            rw [List.getElem?_take, if_pos (by omega), Array.getElem?_toList]
          refine ⟨some ⟨g, 0, none⟩, cap, cur.toList.take (m * b'.sz), by rw [hlen], by rw [hlen, ← hsz]; simp; omega, fun i e' he => ?_, (fun hA => nomatch hA), fun ad hA j u hu => ?_, fun u hu => ?_⟩
          · rw [t1, List.getElem?_take] at he
            split at he
            · rename_i him
              refine ⟨by rw [t2]; exact (p7 i e' he).1, fun j x hx => ?_⟩
              obtain ⟨u, u1, u2⟩ := (p7 i e' he).2 j x hx
              exact ⟨u, by rw [t2, hcell i e' j x him he hx]; exact u1, u2⟩
            · cases he
          · injection hA with hA; subst hA
            rw [List.getElem?_take] at hu
            split at hu
            · rw [Addr.add_lit, Nat.zero_add, cell_of_row w g j cur b'.et (0, 0) p3, ← Array.getElem?_toList]; exact hu
            · cases hu
          · obtain ⟨n, hn, rfl⟩ := List.getElem_of_mem hu
            have hn' : n < m * b'.sz := by simp at hn; omega
            have hpos : 0 < b'.sz := by rcases Nat.eq_zero_or_pos b'.sz with q | q; · rw [q] at hn'; omega
                                        · exact q
            have hi : n / b'.sz < m := (Nat.div_lt_iff_lt_mul hpos).2 hn'
            have he : b'.es[n / b'.sz]? = some (b'.es[n / b'.sz]'(by omega)) := List.getElem?_eq_getElem (by omega)
            obtain ⟨l1, l2⟩ := p7 _ _ he
            have hmod := Nat.mod_lt n hpos
            obtain ⟨u, u1, _, u3⟩ := l2 (n % b'.sz) _ (List.getElem?_eq_getElem (by omega))
            rw [show n / b'.sz * b'.sz + n % b'.sz = n by rw [Nat.mul_comm]; exact Nat.div_add_mod n b'.sz] at u1
            rw [List.getElem_take, Array.getElem_toList]
            rw [Array.getElem?_eq_getElem (by omega)] at u1
            injection u1 with u1; rw [u1]; exact u3
      · cases hb
    · cases hb


/-- What 'append' makes: the block that is given up, and the new one. -/
def appB (e : TypeId) (r : TyRow) (H : List (Option Blk)) (s x : AVal) : Option (Option Nat × Blk) :=
  match srcA e r H x with
  | some c => match s with
    | .own id n => match getB H id with
      | some b => if n ≤ b.es.length ∧ b.et = e then (catB (takeB n b) c).map fun d => (some id, d) else none
      | none => none
    | .nil => (catB (emptyB e r) c).map fun d => (none, d)
    | _ => none
  | none => none
def killO (H : List (Option Blk)) : Option Nat → List (Option Blk)
  | some id => H.set id none
  | none => H

theorem run_append_nothing (base : Nat) {t ty e : TypeId} {i : TypeInfo} {size : Nat} (ht : P.underlying t = some (.slice e)) (hi : P.info? e = some i) {v : Value} {n : Nat} {xs : List Value} (hown : w.ownsRow base e size v n xs) (c : Nat) :
    (Builtin.append_ #[t, t] ty #[v, .slice none 0 c]).run P w = .ok v w := by
  rcases hown.2 with ⟨rfl, rfl⟩ | ⟨g, cap, cur, rfl, _, _, hnc, _⟩
  · simp [Builtin.append_, run_underlying ht, sizeOf, typeInfo, hi, Builtin.lenOf, Builtin.firstCells]
  · simp [Builtin.append_, run_underlying ht, sizeOf, typeInfo, hi, Builtin.lenOf, Builtin.firstCells, hnc, storeCells]

theorem RowRep.cat {xs ys : List Value} {b c d : Blk} (hx : RowRep F φ xs b) (hy : RowRep F φ ys c) (hl : xs.length = b.es.length * b.sz) (hd : catB b c = some d) : RowRep F φ (xs ++ ys) d := by
  obtain ⟨d1, d2, _, d4⟩ := catB_es hd
  intro i e he
  rw [d1] at he
  rw [List.getElem?_append] at he
  split at he
  · rename_i hi
    refine ⟨by rw [d2]; exact (hx i e he).1, fun j x hj => ?_⟩
    obtain ⟨u, u1, u2⟩ := (hx i e he).2 j x hj
    refine ⟨u, ?_, u2⟩
    rw [d2, List.getElem?_append_left]
    · exact u1
    · rcases Nat.lt_or_ge (i * b.sz + j) xs.length with q | q
      · exact q
      · rw [List.getElem?_eq_none q] at u1; cases u1
  · rename_i hi
    refine ⟨by rw [d2, ← d4]; exact (hy _ e he).1, fun j x hj => ?_⟩
    obtain ⟨u, u1, u2⟩ := (hy _ e he).2 j x hj
    refine ⟨u, ?_, u2⟩
    rw [d4] at u1
    have hge : b.es.length * b.sz ≤ i * b.sz := Nat.mul_le_mul_right _ (by omega)
    rw [d2, List.getElem?_append_right (by omega), hl]
    rw [show i * b.sz + j - b.es.length * b.sz = (i - b.es.length) * b.sz + j by rw [Nat.sub_mul]; omega]
    exact u1

theorem own_row (h : Rel F φ w0 st a w) {id n : Nat} {b : Blk} {v : Value} (hr : RepV F φ (.own id n) v) (hb : getB st.h id = some b) (hn : n ≤ b.es.length) :
    ∃ xs, w.ownsRow w0.heap.size b.et b.sz v n xs ∧ RowRep F φ xs (takeB n b) ∧ (∀ g, v.ownBlock = some g → ∃ c s t, φ id = .at g c s t) := by
  obtain ⟨t1, t2, t3⟩ := takeB_es n b
  cases hr with
  | ownNil _ q => exact ⟨[], World.ownsRow_nil _ _ _ _, fun i e' he => by rw [t1] at he; simp at he, fun g hg => by simp [Value.ownBlock] at hg⟩
  | own _ _ g cap sz et q1 q2 q3 =>
    rcases h.heap.blk id b (getB_some hb) with ⟨p, _⟩ | ⟨g', cap', cur, p, p1, p2, p3, p4, p5, p6, p7⟩
    · rw [q1] at p; cases p
    rw [q1] at p
    injection p with e1 e2 e3 e4
    subst e1 e2 e3 e4
    have hb1 : n * b.sz ≤ cap * b.sz := Nat.mul_le_mul_right _ (by omega)
    refine ⟨cur.toList.take (n * b.sz), ⟨by simp; omega, .inr ⟨g, cap, cur, rfl, p1, p3, q2, p5, p6, rfl⟩⟩, fun i e' he => ?_, fun g' hg => ?_⟩
    · rw [t1, List.getElem?_take] at he
      split at he
      · rename_i him
        refine ⟨by rw [t2]; exact (p7 i e' he).1, fun j x hx => ?_⟩
        obtain ⟨u, u1, u2⟩ := (p7 i e' he).2 j x hx
        have hj : j < b.sz := by
          have := (p7 i e' he).1
          rcases Nat.lt_or_ge j e'.length with q | q
          · omega
          · rw [List.getElem?_eq_none q] at hx; cases hx
        have : i * b.sz + b.sz ≤ n * b.sz := by rw [← Nat.succ_mul]; exact Nat.mul_le_mul_right _ (by omega)
        exact ⟨u, by rw [t2, List.getElem?_take, if_pos (by omega), Array.getElem?_toList]; exact u1, u2⟩
      · cases he
    · simp [Value.ownBlock] at hg; subst hg; exact ⟨_, _, _, q1⟩

theorem append_ok (hT : TabOk P T) (h : Rel F φ w0 st a w) {t ty e : TypeId} (hd : (T t).d = .slice e) (hk : known (T e) = true) (hz : okZero (T e) = true) (hs1 : ∀ k, (T e).d = .int k → (T e).sz = 1) (hby : (T e).by_ ≤ 16)
    {s x : AVal} {v1 v2 : Value} (hs : RepV F φ s v1) (hx : RepV F φ x v2) {ko : Option Nat} {nb : Blk} (ha : appB e (T e) st.h s x = some (ko, nb)) (hsz : nb.sz = (T e).sz) (hlen : nb.es.length ≤ 8796093022208) {d : Nat} (hdst : d < st.n) :
    ∃ v' w' φ', (Builtin.append_ #[t, t] ty #[v1, v2]).run P w = .ok v' w' ∧ Rel F φ' w0 { st with s := putL st.s d (.own st.h.length nb.es.length), h := killO st.h ko ++ [some nb] } (a.put (some d) v') w' := by
  obtain ⟨⟨i, i1, i2, i3, i4⟩, _⟩ := known_run hT hk
  simp only [okZero, Bool.and_eq_true, decide_eq_true_eq] at hz
  obtain ⟨⟨z1, z2⟩, _⟩ := hz
  have hsu := slice_under hT hd
  unfold appB at ha
  cases hc : srcA e (T e) st.h x with
  | none => rw [hc] at ha; cases ha
  | some c =>
    rw [hc] at ha
    -- what s owns
    have hs' : ∃ b n xs, w.ownsRow w0.heap.size e (T e).sz v1 n xs ∧ RowRep F φ xs b ∧ b.es.length = n ∧ b.sz = (T e).sz ∧ b.et = e ∧ catB b c = some nb ∧
        (∀ g, v1.ownBlock = some g → ∃ id c s t, ko = some id ∧ φ id = .at g c s t ∧ ∃ b', st.h[id]? = some (some b')) := by
      cases s <;> simp only [reduceCtorEq] at ha
      case nil =>
        simp only [Option.map_eq_some_iff, Prod.mk.injEq] at ha
        obtain ⟨_, hcat, rfl, rfl⟩ := ha
        obtain ⟨q1, q2, q3⟩ := emptyB_es (e := e) hs1
        cases hs
        exact ⟨emptyB e (T e), 0, [], World.ownsRow_nil _ _ _ _, fun i e' he => by rw [q1] at he; simp at he, by simp [q1], q2, q3, hcat, fun g hg => by simp [Value.ownBlock] at hg⟩
      case own id n =>
        split at ha
        · rename_i b hb
          split at ha
          · rename_i hn
            obtain ⟨hn, het⟩ := hn
            simp only [Option.map_eq_some_iff, Prod.mk.injEq] at ha
            obtain ⟨_, hcat, rfl, rfl⟩ := ha
            obtain ⟨t1, t2, t3⟩ := takeB_es n b
            obtain ⟨_, d2, _, _⟩ := catB_es hcat
            have hbsz : b.sz = (T e).sz := by rw [← t2, ← d2]; exact hsz
            obtain ⟨xs, o1, o2, o3⟩ := own_row h hs hb hn
            rw [hbsz, het] at o1
            exact ⟨takeB n b, n, xs, o1, o2, by rw [t1]; simp; omega, by rw [t2]; exact hbsz, by rw [t3]; exact het, hcat, fun g hg => by
              obtain ⟨c, s, t, q⟩ := o3 g hg
              exact ⟨id, c, s, t, rfl, q, b, getB_some hb⟩⟩
          · cases ha
        · cases ha
    obtain ⟨b, n, xs, o1, o2, o3, o4, o5, hcat, o6⟩ := hs'
    obtain ⟨c1, c2, c3, c4⟩ := catB_es hcat
    obtain ⟨A, cap, news, rfl, n1, n2, n3, n4, n5⟩ := src_ok h hs1 hx hc (by rw [c4]; exact o4)
    have hnb : nb.es.length = n + c.es.length := by rw [c1, List.length_append, o3]
    -- the run
    have hrun : ∃ v' w', (Builtin.append_ #[t, t] ty #[v1, .slice A c.es.length cap]).run P w = .ok v' w' ∧ w'.ownsRow w0.heap.size e (T e).sz v' (n + c.es.length) (xs ++ news) ∧ w.grownBy w' v1.ownBlock ∧ (v'.ownBlock = v1.ownBlock ∨ v'.ownBlock = some w.heap.size) := by
      cases A with
      | none =>
        have h0 := n3 rfl
        have hnews : news = [] := List.eq_nil_of_length_eq_zero (by rw [n1, h0]; simp)
        refine ⟨v1, w, by rw [h0]; exact run_append_nothing w0.heap.size hsu i1 o1 cap, by rw [h0, hnews]; simpa using o1, ⟨rfl, rfl, rfl, Nat.le_refl _, fun _ _ _ => rfl⟩, .inl rfl⟩
      | some ad =>
        have hb : (n + c.es.length) * (T e).by_ ≤ 140737488355328 := by
          have : (n + c.es.length) * (T e).by_ ≤ 8796093022208 * 16 := Nat.mul_le_mul (by omega) hby
          omega
        obtain ⟨v', w', r1, r2, r3, _, r5⟩ := run_append_own_at (P := P) w w0.heap.size t ty e i (T e).zero (T e).sz (T e).by_ hsu i1 i4 i2 i3 z1 z2 v1 n xs o1 ad c.es.length cap news n1 (n4 ad rfl) n5 (by unfold maxLen; omega) hb h.below.size
        exact ⟨v', w', r1, r2, r3, r5⟩
    obtain ⟨v', w', r1, r2, r3, r4⟩ := hrun
    have hrow := o2.cat n2 (by rw [o1.1, o3, o4]) hcat
    have hown : ∀ g, v1.ownBlock = some g → F g = none ∧ g < w.heap.size ∧ w0.heap.size ≤ g ∧ ∀ i bi c s t, (killO st.h ko)[i]? = some (some bi) → φ i ≠ .at g c s t := by
      intro g hg
      obtain ⟨id, cc, ss, tt, rfl, hφ, b', hb'⟩ := o6 g hg
      have hlt := o1.lt g hg
      refine ⟨?_, hlt.2, hlt.1, fun i bi c s t hi hc => ?_⟩
      · rcases h.heap.blk id b' hb' with ⟨p, _⟩ | ⟨g', cap', cur, p, _, p2, _⟩
        · rw [hφ] at p; cases p
        · rw [hφ] at p; injection p with e1; subst e1; exact p2
      · have hne : i ≠ id := by
          rintro rfl
          simp only [killO] at hi
          rw [List.getElem?_set_self (Blk.ext_lt hb')] at hi; simp at hi
        simp only [killO] at hi
        rw [List.getElem?_set_ne (Ne.symm hne)] at hi
        exact hne (h.heap.inj i id bi b' g c s t cc ss tt hi hb' hc hφ)
    have hkill : RelH F φ w0.heap.size (killO st.h ko) w := by
      cases ko with
      | none => exact h.heap
      | some id => exact h.heap.kill id
    have hlenk : (killO st.h ko).length = st.h.length := by cases ko <;> simp [killO]
    have hstep : RelH F φ w0.heap.size (killO st.h ko) w' := by
      refine hkill.step (fun b o hF => r3.block b (hkill.lt hF) fun hb => ?_) (fun id b g c s t hb hg => r3.block g (hkill.at_lt hb hg) fun hgo => ?_)
      · have := (hown b hb.symm).1; rw [hF] at this; cases this
      · exact (hown g hgo.symm).2.2.2 id b c s t hb hg
    have hbel : Below w0.heap.size w0 w' := h.below.grown r3 h.below.size (fun k hk => (hown k hk).2.2.1)
    have fin : ∀ (l : Loc), BlkOk F (upd φ st.h.length l) w0.heap.size w' st.h.length nb → (∀ i bi g c s t c' s' t', (killO st.h ko)[i]? = some (some bi) → φ i = .at g c s t → l ≠ .at g c' s' t') →
        RepV F (upd φ st.h.length l) (.own st.h.length nb.es.length) v' →
        ∃ φ', Rel F φ' w0 { st with s := putL st.s d (.own st.h.length nb.es.length), h := killO st.h ko ++ [some nb] } (a.put (some d) v') w' := by
      intro l hl hn hv
      have had := hstep.adoptL nb l (by rw [hlenk]; exact hl) hn
      rw [hlenk] at had
      exact ⟨_, Rel.put (st := { st with h := killO st.h ko ++ [some nb] }) ⟨had.1, h.size, fun i => (h.slots i).le (FLe.refl F) had.2, h.defers, hbel⟩ hdst hv⟩
    rcases r2.2 with ⟨rfl, hn0⟩ | ⟨g, cp, cur, rfl, g1, g2, g3, g4, g5, g6⟩
    · have hes : nb.es = [] := List.eq_nil_of_length_eq_zero (by omega)
      obtain ⟨φ', hφ'⟩ := fin .nils (.inl ⟨by simp [upd], hes⟩) (fun _ _ _ _ _ _ _ _ _ _ _ => by simp) (by rw [hes]; exact .ownNil _ (by simp [upd]))
      exact ⟨_, _, φ', r1, hφ'⟩
    · have hgF : F g = none := by
        rcases r4 with q | q
        · exact (hown g (by rw [← q]; rfl)).1
        · simp [Value.ownBlock] at q; rw [q]; exact h.heap.new_none
      obtain ⟨φ', hφ'⟩ := fin (.at g cp nb.sz nb.et) (.inr ⟨g, cp, cur, by simp [upd], g1, hgF, by rw [c3, o5]; exact g2, by omega, g4, by rw [hsz]; exact g5, fun i e' he => ⟨(hrow i e' he).1, fun j x hj => by
          obtain ⟨u, u1, u2, u3⟩ := (hrow i e' he).2 j x hj
          refine ⟨u, ?_, u2.le (FLe.refl F) (upd_le h.heap _), u3⟩
          rw [← g6, List.getElem?_take] at u1
          split at u1
          · rw [← Array.getElem?_toList]; exact u1
          · cases u1⟩⟩) (fun i bi g' c s t c' s' t' hi hg' hl => by
        injection hl with e1
        subst e1
        rcases r4 with q | q
        · exact (hown g (by rw [← q]; rfl)).2.2.2 i bi c s t hi hg'
        · simp [Value.ownBlock] at q
          have := hkill.at_lt hi hg'
          omega) (by rw [hnb]; exact .own _ _ g cp nb.sz nb.et (by simp [upd]) (by omega) g4)
      exact ⟨_, _, φ', r1, hφ'⟩

end
end Go.AX
