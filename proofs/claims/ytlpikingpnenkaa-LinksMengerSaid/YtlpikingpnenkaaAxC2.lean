/-
 Two closures that have each other with them: their cells, seen k deep, frozen at one time. Conditions: none.
-/
import Derived.Test.YtlpikingpnenkaaAxGc
import Derived.Test.YtlpikingpnenkaaAxFj
import Derived.Test.YtlpikingpnenkaaAxW
import Derived.Test.YtlpikingpnenkaaAxTx
set_option linter.unusedSimpArgs false
set_option linter.unusedVariables false
namespace Go.AX
open Go Go.RowKit
variable {P : Program} {T : Tab} {F : Fz} {φ : Phi} {w0 w : World} {st : St}
/-- The cell of a closure f1 that has another one's cell (f2, which has f1's own cell) and its own cell with it, k deep. -/
def cyc2 (f1 : Nat) (a b : List AVal) (f2 : Nat) (c : List AVal) : Nat → AVal
 | 0 => .junk
 | k + 1 => .immp [.func f1 (a ++ (.immp [.func f2 (c ++ [cyc2 f1 a b f2 c k])] :: (b ++ [cyc2 f1 a b f2 c k])))]
@[go_sem ↓ high] theorem map_ren0_cons (ρ : List Nat) (x : AVal) (l : List AVal) : List.map (ren0 ρ) (x :: l) = ren0 ρ x :: List.map (ren0 ρ) l := rfl
@[go_sem ↓ high] theorem ren0_cyc2 (ρ : List Nat) (f1 : Nat) (a b : List AVal) (f2 : Nat) (c : List AVal) (k : Nat) : ren0 ρ (cyc2 f1 a b f2 c k) = cyc2 f1 a b f2 c k := by cases k <;> rfl
theorem ArgOk.cyc2Refl {H : List (Option Blk)} (f1 : Nat) (a b : List AVal) (f2 : Nat) (c : List AVal) : ∀ k, ArgOk H (cyc2 f1 a b f2 c k) (cyc2 f1 a b f2 c k)
 | 0 => .junk _
 | k + 1 => .atom _ rfl
inductive FrzQ (H : List (Option Blk)) (J : List Nat) : AVal → AVal → Prop
 | ok {x y : AVal} : ArgOk (keepJ H J) x y → FrzQ H J x y
 | abs (p i j k : Nat) (l : Loc) : H[p]? = some (some (.pin i l)) → FrzQ H J (.ptr i j k) (.abs l j k)
 | ptrM (id i : Nat) (et : TypeId) (sz : Nat) (es : List (List AVal)) (e f : List AVal) : getB (keepJ H J) id = some (.gen et sz es) → es[i]? = some e → f.length = e.length →
   (∀ (j : Nat) (x y : AVal), e[j]? = some x → f[j]? = some y → FrzQ H J x y) → FrzQ H J (.ptr id i 0) (.immp f)
 | func (f : Nat) (l m : List AVal) : l.length = m.length → (∀ (i : Nat) (x y : AVal), l[i]? = some x → m[i]? = some y → FrzQ H J x y) → FrzQ H J (.func f l) (.func f m)
 | junk (x : AVal) : FrzQ H J x .junk
inductive FrzQs (H : List (Option Blk)) (J : List Nat) : List AVal → List AVal → Prop
 | nil : FrzQs H J [] []
 | cons {x y : AVal} {l m : List AVal} : FrzQ H J x y → FrzQs H J l m → FrzQs H J (x :: l) (y :: m)
theorem FrzQs.get {H : List (Option Blk)} {J : List Nat} : ∀ {l m : List AVal}, FrzQs H J l m → l.length = m.length ∧ ∀ (i : Nat) (x y : AVal), l[i]? = some x → m[i]? = some y → FrzQ H J x y
 | _, _, .nil => ⟨rfl, fun i x y h => by simp at h⟩
 | _, _, .cons (x := x) (y := y) h t => by
  obtain ⟨h1, h2⟩ := t.get
  refine ⟨by simp [h1], fun i u v hu hv => ?_⟩
  match i, hu, hv with
  | 0, hu, hv => simp at hu hv; subst hu hv; exact h
  | i + 1, hu, hv => exact h2 i u v (by simpa using hu) (by simpa using hv)
theorem FrzQs.app {H : List (Option Blk)} {J : List Nat} : ∀ {l m l' m' : List AVal}, FrzQs H J l m → FrzQs H J l' m' → FrzQs H J (l ++ l') (m ++ m')
 | _, _, _, _, .nil, h => h
 | _, _, _, _, .cons a t, h => .cons a (t.app h)
theorem FrzQ.funcs {H : List (Option Blk)} {J : List Nat} {f : Nat} {l m : List AVal} (h : FrzQs H J l m) : FrzQ H J (.func f l) (.func f m) := .func f l m h.get.1 h.get.2
theorem FrzQ.cell {H : List (Option Blk)} {J : List Nat} {id : Nat} {et : TypeId} {x y : AVal} (hb : getB (keepJ H J) id = some (.gen et 1 [[x]])) (h : FrzQ H J x y) : FrzQ H J (.ptr id 0 0) (.immp [y]) :=
 .ptrM id 0 et 1 _ [x] [y] hb rfl rfl (FrzQs.get (.cons h .nil)).2
theorem FrzQ.cyc1 {H : List (Option Blk)} {J : List Nat} {id1 id2 f1 f2 : Nat} {et1 et2 : TypeId} {sa a sb b sc c : List AVal}
  (h1 : getB (keepJ H J) id1 = some (.gen et1 1 [[.func f1 (sa ++ (.ptr id2 0 0 :: (sb ++ [.ptr id1 0 0])))]]))
  (h2 : getB (keepJ H J) id2 = some (.gen et2 1 [[.func f2 (sc ++ [.ptr id1 0 0])]]))
  (ha : FrzQs H J sa a) (hb : FrzQs H J sb b) (hc : FrzQs H J sc c) : ∀ k, FrzQ H J (.ptr id1 0 0) (cyc2 f1 a b f2 c k)
 | 0 => .junk _
 | k + 1 => FrzQ.cell h1 (FrzQ.funcs (ha.app (.cons (FrzQ.cell h2 (FrzQ.funcs (hc.app (.cons (FrzQ.cyc1 h1 h2 ha hb hc k) .nil)))) (hb.app (.cons (FrzQ.cyc1 h1 h2 ha hb hc k) .nil)))))
theorem FrzQ.cyc2 {H : List (Option Blk)} {J : List Nat} {id1 id2 f1 f2 : Nat} {et1 et2 : TypeId} {sa a sb b sc c : List AVal}
  (h1 : getB (keepJ H J) id1 = some (.gen et1 1 [[.func f1 (sa ++ (.ptr id2 0 0 :: (sb ++ [.ptr id1 0 0])))]]))
  (h2 : getB (keepJ H J) id2 = some (.gen et2 1 [[.func f2 (sc ++ [.ptr id1 0 0])]]))
  (ha : FrzQs H J sa a) (hb : FrzQs H J sb b) (hc : FrzQs H J sc c) (k : Nat) : FrzQ H J (.ptr id2 0 0) (.immp [.func f2 (c ++ [cyc2 f1 a b f2 c k])]) :=
 FrzQ.cell h2 (FrzQ.funcs (hc.app (.cons (FrzQ.cyc1 h1 h2 ha hb hc k) .nil)))
theorem FrzQ.rep {F : Fz} {φ : Phi} {w : World} {base : Nat} {H : List (Option Blk)} (h : RelH F φ base H w) {J : List Nat} {x y : AVal} (ha : FrzQ H J x y) {w0 : World} (hbase : base = w0.heap.size) : ∀ {v : Value}, RepV F φ x v → RepV (addOwn F φ (keepJ H J) w) φ0 y v := by
 subst hbase
 have ho := h.keepJ J
 induction ha with
 | ok ha =>
  intro v hr
  exact argOk_rep (st := ⟨0, [], keepJ H J⟩) ho ha hr
 | abs p i j k l hp =>
  intro v hr
  have := (h.pins p i l hp).1
  cases hr with
  | ptr _ _ _ g cap sz et q1 =>
   rw [q1] at this
   rw [← this]
   exact .abs g cap sz et j k
 | junk x => exact fun _ => .junk _
 | ptrM id i et sz es e f hq he hl _ ih =>
  intro v hr
  obtain ⟨b, hon, hq⟩ : ∃ b, (keepJ H J)[id]? = some (some b) ∧ b = .gen et sz es := by
   unfold getB at hq
   cases c : (keepJ H J)[id]? with
   | none => rw [c] at hq; cases hq
   | some z =>
    rw [c] at hq
    cases z with
    | none => cases hq
    | some z => injection hq with hq; exact ⟨z, rfl, hq⟩
  have hb := (keepJ_at hon).2
  cases hr with | ptr _ _ _ g cap sz' et' q1 => ?_
  rcases (h.blk id _ hb).atC q1 with ⟨p, _⟩ | ⟨g', cap', cur, p, p1, p2, p3, p4, p5, p6, p7⟩
  ·rw [q1] at p; cases p
  rw [q1] at p
  injection p with e1 e2 e3 e4
  subst e1 e2 e3 e4
  have hcell : ∀ m, cellF (addOwn F φ (keepJ H J) w) ⟨g, m, none⟩ = cur[m]? := by
   intro m
   unfold cellF
   rw [addOwn_own ho hon q1, p3]
   rfl
  have he' : b.es[i]? = some e := by rw [hq]; exact he
  have cell : ∀ (j : Nat) (y : AVal), f[j]? = some y → ∃ u, cur[i * b.sz + j]? = some u ∧ RepV (addOwn F φ (keepJ H J) w) φ0 y u ∧ u.oneCell' = true := by
   intro j y hy
   have hj : j < f.length := by
    rcases Nat.lt_or_ge j f.length with c | c
    ·exact c
    ·rw [List.getElem?_eq_none c] at hy; cases hy
   have hx := List.getElem?_eq_getElem (show j < e.length by omega)
   obtain ⟨u, u1, u2, u3⟩ := (p7 i e he').2 j _ hx
   exact ⟨u, u1, ih j _ y hx hy u2, u3⟩
  refine .immp _ _ (fun j => (cur[i * b.sz + j]?).getD undef) (fun j y hy => ?_) (fun j y hy => ?_)
  ·obtain ⟨u, u1, u2, u3⟩ := cell j y hy
   rw [Addr.add_lit, hcell, Nat.add_zero, u1]; exact ⟨rfl, u3⟩
  ·obtain ⟨u, u1, u2, u3⟩ := cell j y hy
   rw [u1]; exact u2
 | func f l m hl _ ih =>
  intro v hr
  cases hr with | func _ _ vs hs h2 => ?_
  refine .func _ _ _ (by omega) fun i y v hy hv => ?_
  have hi : i < l.length := by
   rw [hl]
   rcases Nat.lt_or_ge i m.length with c | c
   ·exact c
   ·rw [List.getElem?_eq_none c] at hy; cases hy
  have hx := List.getElem?_eq_getElem hi
  exact ih i _ y hx hy (h2 i _ v hx hv)
theorem AWP_freezeQ (i : Nat) (J : List Nat) {y : AVal} {c : Code} {Q : Exit → St → Prop} {st : St} (ha : FrzQ st.h J (look st.s i) y)
  (h : ∀ st', (⟨st.n, putL st.s i y, dropJ st.h J⟩ : St) = st' → AWP P w0 c Q st') : AWP P w0 c Q st := by
 intro F φ a w hr
 have hle : FLe F (addOwn F φ (keepJ st.h J) w) := fun b o h => by simp [addOwn, h]
 have hrel : Rel (addOwn F φ (keepJ st.h J) w) φ w0 ⟨st.n, putL st.s i y, dropJ st.h J⟩ a w := by
  refine ⟨hr.heap.freezeJ J, hr.size, fun j => ?_, hr.defers, hr.below⟩
  have hs := hr.slots j
  simp only [look_putL]
  split
  ·rename_i e
   subst e
   exact (ha.rep hr.heap rfl hs).le (FLe.refl _) (PLe0 φ)
  ·exact hs.le hle (PLe.refl _)
 exact wp_mono (h _ rfl _ φ a w hrel) fun e a' w' hq => hq.le (addOwn_fln (hr.heap.keepJ J))
/-- A cell holds a part of a row: the rest of the row is forgotten. -/
theorem Rel.truncL {F : Fz} {φ : Phi} {a : Act} {w : World} (c id : Nat) {α : Type} (f : α → List AVal) (ys : List α) {cet et : TypeId} {k : Nat} {xs : List α} {n : Nat} {st : St} (hr : Rel F φ w0 st a w) (hne : c ≠ id) (hc : st.h[c]? = some (some (.gen cet 1 [[.own id n]]))) (hb : st.h[id]? = some (some (.gen et k (List.map f xs)))) (hys : xs.take n = ys) (hn : ys.length = n) :
  Rel F φ w0 ⟨st.n, st.s, (st.h.set id (some (.gen et k (List.map f ys)))).set c (some (.gen cet 1 [[.own id ys.length]]))⟩ a w := by
 subst hn
 have hcl := Blk.ext_lt hc
 have hil := Blk.ext_lt hb
 have e1 : (st.h.set id (some (.gen et k (List.map f ys)))).set c (some (.gen cet 1 [[.own id ys.length]])) = st.h.set id (some (.gen et k (List.map f ys))) := by
  apply List.ext_getElem?
  intro j
  rcases Classical.em (j = c) with rfl | q
  ·rw [List.getElem?_set_self (by simpa using hcl), List.getElem?_set_ne (Ne.symm hne), hc]
  ·rw [List.getElem?_set_ne (Ne.symm q)]
 have cls : ∀ j b, (st.h.set id (some (.gen et k (List.map f ys))))[j]? = some (some b) → (j ≠ id ∧ st.h[j]? = some (some b)) ∨ (j = id ∧ b = .gen et k (List.map f ys)) := fun j b hj => by
  rcases Classical.em (j = id) with rfl | q
  ·rw [List.getElem?_set_self hil] at hj; simp only [Option.some.injEq] at hj; exact .inr ⟨rfl, hj.symm⟩
  ·rw [List.getElem?_set_ne (Ne.symm q)] at hj; exact .inl ⟨q, hj⟩
 have any : ∀ j b, (st.h.set id (some (.gen et k (List.map f ys))))[j]? = some (some b) → ∃ b', st.h[j]? = some (some b') := fun j b hj => by
  rcases cls j b hj with ⟨_, q⟩ | ⟨rfl, _⟩
  ·exact ⟨b, q⟩
  ·exact ⟨_, hb⟩
 ·rw [e1]
  refine ⟨⟨hr.heap.agree, fun i hi => hr.heap.unused i (by simpa using hi), fun i b' hi => ?_, fun i j bi bj g hi hj h1 h2 => ?_, hr.heap.good, fun j i l hj => ?_⟩, hr.size, hr.slots, hr.defers, hr.below⟩
  ·rcases cls i b' hi with ⟨_, q⟩ | ⟨rfl, rfl⟩
   ·exact hr.heap.blk i b' q
   ·have hsub : ∀ j e, (List.map f ys)[j]? = some e → (List.map f xs)[j]? = some e := fun j e he => by
     rw [← hys] at he
     simp only [List.map_take] at he
     rw [List.getElem?_take] at he
     split at he
     ·exact he
     ·cases he
    have hlen : ys.length ≤ xs.length := by rw [← hys]; simp; omega
    rcases (hr.heap.blk i _ hb).nxC rfl with ⟨p1, p2⟩ | ⟨g, cap, cur, p1, p2, p3, p4, p5, p6, p7, p8⟩
    ·refine .inl ⟨p1, ?_⟩
     simp only [Blk.es] at p2 ⊢
     have : xs = [] := List.map_eq_nil_iff.1 p2
     rw [← hys, this, List.take_nil]; rfl
    ·refine .inr (.inl ⟨g, cap, cur, p1, p2, p3, p4, ?_, p6, p7, fun j e he => p8 j e (hsub j e he)⟩)
     simp only [Blk.es, List.length_map] at p5 ⊢
     omega
  ·obtain ⟨b1, q1⟩ := any i bi hi
   obtain ⟨b2, q2⟩ := any j bj hj
   exact hr.heap.sep i j _ _ _ q1 q2 h1 h2
  ·rcases cls j _ hj with ⟨_, q⟩ | ⟨rfl, q⟩
   ·exact hr.heap.pins j i l q
   ·cases q
theorem dq_truncL (c id : Nat) {α : Type} (f : α → List AVal) (ys : List α) {cet et : TypeId} {k : Nat} {xs : List α} {n : Nat} {Q : Exit → St → Prop} {e : Exit} {st : St} (hne : c ≠ id) (hc : st.h[c]? = some (some (.gen cet 1 [[.own id n]]))) (hb : st.h[id]? = some (some (.gen et k (List.map f xs)))) (hys : xs.take n = ys) (hn : ys.length = n)
  (h : ∀ st', (⟨st.n, st.s, (st.h.set id (some (.gen et k (List.map f ys)))).set c (some (.gen cet 1 [[.own id ys.length]]))⟩ : St) = st' → DQ w0 Q e st') : DQ w0 Q e st := by
 obtain ⟨st2, h1, h2⟩ := h _ rfl
 exact ⟨st2, fun F φ a w r => h1 F _ a w (r.truncL c id f ys hne hc hb hys hn), h2⟩
/-! ### a drawn region gone through in one order -/
theorem AWPB_fin {all : Array Oper} {Q : Exit → St → Prop} {listed : Array Bool} {st : St} (hR : (Region.ready .any all listed == []) = true) (h : Q .normal st) : AWPB P w0 all Q 0 listed st :=
 fun F φ a w hrel => ⟨eq_of_beq hR, fun c q => (nomatch q), st, F, φ, h, FLn.refl F, hrel⟩
theorem AWP_drawB {id : Nat} {l : List Oper} {Q : Exit → St → Prop} {st : St} (hm : P.follows .mixedOrders = true) (h : AWPB P w0 l.toArray Q l.length (Array.replicate l.length false) st) : AWP P w0 (.region id l.toArray true) Q st := by
 intro F φ a w hr
 have h1 := h F φ a { w with drawn := w.drawn + 1 } hr.drew'
 refine wp_mono (wp_region_any hm (by simpa using h1)) fun e a' w' q => ?_
 exact q.2
end Go.AX
