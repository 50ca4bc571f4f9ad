/-
  Maps of the call's own whose keys are so many numbers, and whose elements are numbers. Conditions: none.
-/
import Derived.Maps.Own
import Derived.Maps.OwnOps
import Derived.Maps.Views
import Derived.Carry
import Derived.DeepKeys4
import Derived.Test.YtabhcjpjoknihaaAxGc
import Derived.Test.YtabhcjpjoknihaaAxOp
set_option linter.unusedSimpArgs false
set_option linter.unusedVariables false
namespace Go.AX
open Go Go.RowKit
open Go.Maps (Keyed)
open Go.WideElems (Fit rd rg pl rd_val elemAt)

/-- A key of several numbers. -/
def mkKey (xs : List Int) : Value := .agg (xs.map (Value.int .i64)).toArray
theorem mkKey_inj {xs ys : List Int} (h : mkKey xs = mkKey ys) : xs = ys := by
  unfold mkKey at h
  injection h with h
  have h2 := congrArg Array.toList h
  simp only at h2
  clear h
  induction xs generalizing ys with
  | nil => cases ys <;> simp at h2 ⊢
  | cons x xs ih =>
    cases ys with
    | nil => simp at h2
    | cons y ys =>
      simp only [List.map_cons, List.cons.injEq, Value.int.injEq, true_and] at h2
      rw [h2.1, ih h2.2]

structure MapTy (P : Program) (t k e : TypeId) (len : Nat) : Prop where
  und : P.underlying t = some (.map k e)
  elem : P.underlying e = some (.int .i64)
  zero : ∀ w, (zeroValue e).run P w = .ok (.int .i64 0) w
  keyed : Keyed P k
  key : ∀ xs : List Int, xs.length = len → (∀ x ∈ xs, lo .i64 ≤ x ∧ x ≤ hi .i64) → ∃ kl, keyOf P k (mkKey xs) = some kl

/-- At most n entries; at a key that is not there the number is nought. -/
def MapIs (P : Program) (k e : TypeId) (len n : Nat) (f : List Int → Int) (es : Array MapEntry) (clock : Nat) : Prop :=
  Fit P k (plainElem (H := Unit) P e) es clock ∧ es.size ≤ n ∧ ∀ (xs : List Int) (kl : Lit), xs.length = len → (∀ x ∈ xs, lo .i64 ≤ x ∧ x ≤ hi .i64) → keyOf P k (mkKey xs) = some kl →
    (DataW.map (H := Unit) ((es.toList.map (rg P k (plainElem P e))).foldr DataW.insert [])).atKey kl (.lit (.int .i64 0)) = .lit (.int .i64 (f xs))

/-- The function, changed at a place. -/
def putF (f : List Int → Int) (xs : List Int) (y : Int) (ys : List Int) : Int := if ys = xs then y else f ys

section
variable {P : Program} {w0 : World} {F : Fz} {φ : Phi}

theorem aggInts {xs : List Int} {v : Value} (h : RepV F φ (.agg (xs.map (AVal.int .i64))) v) : v = mkKey xs ∧ ∀ x ∈ xs, lo .i64 ≤ x ∧ x ≤ hi .i64 := by
  cases h with
  | agg _ vs h1 h2 h3 =>
    have key : ∀ (i : Nat) (x : Int), xs[i]? = some x → vs[i]? = some (.int .i64 x) ∧ lo .i64 ≤ x ∧ x ≤ hi .i64 := fun i x hx => by
      have hl : i < vs.size := by
        have := (List.getElem?_eq_some_iff.1 hx).1
        simp at h1; omega
      have hv := Array.getElem?_eq_getElem hl
      have := h3 i (.int .i64 x) vs[i] (by rw [List.getElem?_map, hx]; rfl) hv
      obtain ⟨e1, e2⟩ := int_inv this
      rw [hv, e1]
      exact ⟨rfl, e2⟩
    refine ⟨?_, fun x hx => ?_⟩
    · unfold mkKey
      congr 1
      apply Array.ext_getElem?
      intro i
      rcases Nat.lt_or_ge i xs.length with c | c
      · rw [(key i _ (List.getElem?_eq_getElem c)).1]
        simp [c]
      · rw [Array.getElem?_eq_none (by simp at h1; omega), Array.getElem?_eq_none (by simpa using c)]
    · obtain ⟨i, hi⟩ := List.getElem?_of_mem hx
      exact (key i x hi).2

theorem xo_at {base : Nat} {H : List (Option Blk)} {w : World} (h : RelH F φ base H w) {id : Nat} {Pd : Array MapEntry → Nat → Prop} (hb : H[id]? = some (some (.xo Pd))) :
    ∃ g, φ id = .mapAt g ∧ base ≤ g ∧ F g = none ∧ ∃ es clock, w.heap[g]? = some (.map es clock) ∧ Pd es clock := by
  rcases h.blk id _ hb with ⟨_, q⟩ | ⟨_, _, _, _, _, _, _, _, _, _, q⟩ | q
  · exact absurd q (by simp [Blk.es])
  · have := (q 0 [] rfl).1
    simp [Blk.sz] at this
  · exact q

theorem RelH.turnMap {base : Nat} {H : List (Option Blk)} {w w' : World} (h : RelH F φ base H w) {id : Nat} {Pd Pd' : Array MapEntry → Nat → Prop} (hb : H[id]? = some (some (.xo Pd))) {g : Nat} (hφ : φ id = .mapAt g) {es : Array MapEntry} {clock : Nat}
    (hw : w'.heap[g]? = some (.map es clock)) (hp : Pd' es clock) (hother : ∀ k, k < w.heap.size → k ≠ g → w'.heap[k]? = w.heap[k]?) : RelH F φ base (H.set id (some (.xo Pd'))) w' := by
  have hold := h.blk id _ hb
  have hlt := Blk.ext_lt hb
  have hocc : (φ id).occ g := by rw [hφ]; rfl
  have hFg := hold.occ hocc
  obtain ⟨g', q, q1, q2, _⟩ := xo_at h hb
  rw [hφ] at q; injection q with q; subst q
  refine ⟨fun b2 o hF => ?_, fun id' hid => h.unused id' (by simpa using hid), fun id' b2 hb2 => ?_, fun i2 j2 bi bj g' hi2 hj2 h1 h2 => ?_, h.good, fun j2 i2 l hj => by
    by_cases hid : j2 = id
    · subst hid
      rw [List.getElem?_set_self hlt] at hj
      simp only [Option.some.injEq] at hj; cases hj
    · rw [List.getElem?_set_ne (Ne.symm hid)] at hj; exact h.pins j2 i2 l hj⟩
  · have ha := h.agree b2 o hF
    rw [hother b2 (Array.getElem?_eq_some_iff.1 ha).1 (by rintro rfl; rw [hFg.2.1] at hF; cases hF)]; exact ha
  · by_cases hid : id' = id
    · subst hid
      rw [List.getElem?_set_self hlt] at hb2
      simp at hb2; subst hb2
      exact .inr (.inr ⟨g, hφ, q1, q2, es, clock, hw, hp⟩)
    · rw [List.getElem?_set_ne (Ne.symm hid)] at hb2
      refine (h.blk id' b2 hb2).le (FLe.refl F) (PLe.refl φ) (fun g _ hg _ => hg) fun g2 hg2 => hother g2 (h.occ_lt hb2 hg2) ?_
      rintro rfl
      exact hid (h.sep id' id b2 _ g2 hb2 hb hg2 hocc)
  · have key : ∀ (m : Nat) (bk : Blk), (H.set id (some (.xo Pd')))[m]? = some (some bk) → ∃ bk', H[m]? = some (some bk') := by
      intro m bk hk
      by_cases hid : m = id
      · subst hid; exact ⟨_, hb⟩
      · rw [List.getElem?_set_ne (Ne.symm hid)] at hk; exact ⟨bk, hk⟩
    obtain ⟨bi', hi'⟩ := key i2 bi hi2
    obtain ⟨bj', hj'⟩ := key j2 bj hj2
    exact h.sep i2 j2 bi' bj' g' hi' hj' h1 h2

theorem int_rep {c : Int} (h : (Lit.int .i64 c).wf = true) : RepV F φ (.int .i64 c) (.int .i64 c) := by
  have h2 : lo .i64 ≤ c ∧ c ≤ hi .i64 := by
    have e : IntKind.i64.min = -9223372036854775808 := rfl
    simp [Lit.wf, lo, hi, e] at h ⊢
    omega
  exact .int _ _ h2.1 h2.2

/-- What a map has at a key. -/
theorem AWPL_look (K : List Nat) (xs : List Int) {st : St} {all : Array Oper} {Q : Exit → St → Prop} {rest : List Oper} {o : Oper} {m x : Operand} {t k e : TypeId} {d id len n : Nat} {f : List Int → Int}
    (hM : MapTy P t k e len) (hop : o.op = .lookup t m x false) (hg : o.guard = none) (hdst : o.dst = some d) (hd : d < st.n) (hm : opd st.s m = .mp id) (hb : st.h[id]? = some (some (.xo (MapIs P k e len n f))))
    (hx : opd st.s x = .agg (xs.map (AVal.int .i64))) (hl : xs.length = len)
    (h : ∀ st', (⟨st.n, keepL K (putL st.s d (.int .i64 (f xs))), st.h⟩ : St) = st' → AWPL P w0 all Q rest st') : AWPL P w0 all Q (o :: rest) st := by
  intro F φ a w hrel
  have hmr := opd_rep hrel m
  rw [hm] at hmr
  have hxr := opd_rep hrel x
  rw [hx] at hxr
  obtain ⟨e1, e2⟩ := aggInts hxr
  obtain ⟨g, q, q1, q2, es, clock, q3, q4, q5, q6⟩ := xo_at hrel.heap hb
  have em : a.eval m = .map (some g) := by
    generalize a.eval m = u at hmr
    cases hmr with | mp _ g' q' => rw [q] at q'; injection q' with q'; subst q'; rfl
  obtain ⟨kl, hkl⟩ := hM.key xs hl e2
  refine wpList_lookup_own_int (H := Unit) w hg m x t hop k e .i64 hM.keyed hM.und hM.elem (hM.zero w) g n _ em ⟨es, clock, q3, q4, q5, rfl⟩ (mkKey xs) kl e1 hkl fun c hat hwc => ?_
  have := q6 xs kl hl e2 hkl
  rw [this] at hat
  injection hat with hat
  injection hat with _ hat
  subst hat
  rw [hdst]
  exact h _ rfl F φ _ w ((hrel.put hd (int_rep hwc)).keep K)

/-- A number is put into a map. -/
theorem AWPL_mput (K : List Nat) (xs : List Int) (y : Int) {st : St} {all : Array Oper} {Q : Exit → St → Prop} {rest : List Oper} {o : Oper} {m x v : Operand} {t k e : TypeId} {id len n : Nat} {f : List Int → Int}
    (hM : MapTy P t k e len) (hop : o.op = .mapUpdate t m x v) (hg : o.guard = none) (hdst : o.dst = none) (hm : opd st.s m = .mp id) (hb : st.h[id]? = some (some (.xo (MapIs P k e len n f))))
    (hx : opd st.s x = .agg (xs.map (AVal.int .i64))) (hl : xs.length = len) (hv : opd st.s v = .int .i64 y) (hn : n < maxLen)
    (h : ∀ st', (⟨st.n, keepL K st.s, st.h.set id (some (.xo (MapIs P k e len (n + 1) (putF f xs y))))⟩ : St) = st' → AWPL P w0 all Q rest st') : AWPL P w0 all Q (o :: rest) st := by
  intro F φ a w hrel
  have hmr := opd_rep hrel m
  rw [hm] at hmr
  have hxr := opd_rep hrel x
  rw [hx] at hxr
  have hvr := opd_rep hrel v
  rw [hv] at hvr
  obtain ⟨e3, e4⟩ := int_inv hvr
  obtain ⟨e1, e2⟩ := aggInts hxr
  obtain ⟨g, q, q1, q2, es, clock, q3, q4, q5, q6⟩ := xo_at hrel.heap hb
  have em : a.eval m = .map (some g) := by
    generalize a.eval m = u at hmr
    cases hmr with | mp _ g' q' => rw [q] at q'; injection q' with q'; subst q'; rfl
  obtain ⟨kl, hkl⟩ := hM.key xs hl e2
  have hwf : (Lit.int .i64 y).wf = true := by
    have e : IntKind.i64.min = -9223372036854775808 := rfl
    simp [lo, hi] at e4
    simp [Lit.wf, e]
    omega
  refine wpList_mapUpdate_own (H := Unit) w hg m x v t hop k e hM.keyed hM.und _ g n _ em ⟨es, clock, q3, q4, q5, rfl⟩ hn (mkKey xs) (.int .i64 y) kl e1 e3 hkl _ [] (plainElem_int hM.elem hwf) fun w' hown hgr => ?_
  obtain ⟨es', clock', p1, p2, p3, p4⟩ := hown
  rw [hdst]
  have hno : ∀ j, j < w.heap.size → j ≠ g → w'.heap[j]? = w.heap[j]? := fun j hj hne => hgr.block j hj (fun e => hne (by injection e))
  have hbase : w0.heap.size ≤ g := q1
  have hnew := hrel.heap.turnMap hb q p1 (Pd' := MapIs P k e len (n + 1) (putF f xs y)) ⟨p2, p3, fun ys kl' hl' hy hk' => by
    rw [← p4]
    by_cases hc : ys = xs
    · subst hc
      rw [hkl] at hk'; injection hk' with hk'; subst hk'
      rw [Maps.atKey_put_same ⟨_, rfl⟩ (hM.keyed.key hkl)]
      simp [putF]
    · have hne : kl' ≠ kl := fun e => hc (mkKey_inj (hM.keyed.inj hk' (by rw [e]; exact hkl)))
      rw [Maps.atKey_put_other hne, q6 ys kl' hl' hy hk']
      simp [putF, hc]⟩ hno
  have hbel : Below w0.heap.size w0 w' := hrel.below.trans ⟨hgr.os, hgr.tape, hgr.output, hgr.size, fun j hj => hno j (Nat.lt_of_lt_of_le hj hrel.below.size) (by omega)⟩
  have hres : Rel F φ w0 ⟨st.n, st.s, st.h.set id (some (.xo (MapIs P k e len (n + 1) (putF f xs y))))⟩ a w' := ⟨hnew, hrel.size, hrel.slots, hrel.defers, hbel⟩
  exact h _ rfl F φ _ w' (hres.keep K)

/-- A new map. -/
theorem AWPL_mkmap (K : List Nat) (k e : TypeId) (len : Nat) {st : St} {all : Array Oper} {Q : Exit → St → Prop} {rest : List Oper} {o : Oper} {t : TypeId} {d : Nat}
    (hop : o.op = .makeMap t none) (hg : o.guard = none) (hdst : o.dst = some d) (hd : d < st.n)
    (h : ∀ st', (⟨st.n, keepL K (putL st.s d (.mp st.h.length)), st.h ++ [some (.xo (MapIs P k e len 0 (fun _ => 0)))]⟩ : St) = st' → AWPL P w0 all Q rest st') : AWPL P w0 all Q (o :: rest) st := by
  intro F φ a w hrel
  refine wpList_plain hg fun K' hK' => ?_
  unfold Oper.wp
  have hrun : (execOp a.eval o).run P w = .ok (.value (.map (some w.heap.size))) (w.alloc (.map #[] 0)) := by
    simp [execOp, hop, run_makeMap, Result.andThen]
  rw [hrun]
  refine hK' _ _ ?_
  obtain ⟨z1, z2⟩ := (⟨hrel.heap.belowR (w' := w.alloc (.map #[] 0)) ((Below.refl w.heap.size w).alloc (Nat.le_refl _) _), trivial⟩ : RelH F φ w0.heap.size st.h (w.alloc (.map #[] 0)) ∧ True)
  obtain ⟨hd1, hd2⟩ := z1.adoptL (.xo (MapIs P k e len 0 (fun _ => 0))) (.mapAt w.heap.size) (.inr (.inr ⟨w.heap.size, by simp [upd], hrel.below.size, hrel.heap.new_none, #[], 0, heap_alloc_new w _, by
      refine ⟨⟨by simp, Go.MapKept.stamped_empty 0, by simp⟩, by simp, fun xs kl _ _ _ => rfl⟩⟩)) (fun i bi g hi ho hg' => by
      have := hrel.heap.occ_lt hi ho
      have e : g = w.heap.size := hg'
      omega)
  rw [hdst]
  have hbel : Below w0.heap.size w0 (w.alloc (.map #[] 0)) := hrel.below.alloc hrel.below.size _
  have hres : Rel F (upd φ st.h.length (.mapAt w.heap.size)) w0 ⟨st.n, st.s, st.h ++ [some (.xo (MapIs P k e len 0 (fun _ => 0)))]⟩ a (w.alloc (.map #[] 0)) := ⟨hd1, hrel.size, fun i => (hrel.slots i).le (FLe.refl F) hd2, hrel.defers, hbel⟩
  exact h _ rfl F _ _ _ ((hres.put hd (.mp _ _ (by simp [upd]))).keep K)

/-- A call that changes blocks of its caller's, what is handed in being named anew. -/
theorem AWPL_gM (K' : List Nat) (js : List Nat) (l : List AVal) (H2 : List (Option Blk)) {st : St} {all : Array Oper} {Q : Exit → St → Prop} {rest : List Oper} {o : Oper} {fo : Operand} {args : Array Operand} {tys : Array TypeId} {d f : Nat} {caps : List AVal} {B B' : List Blk} {K : Nat} {r : AVal}
    (hP : InG P f B K (fun _ => l) r B') (hop : o.op = .call ⟨.value fo, args, tys⟩) (hdst : o.dst = some d) (hpc : pcOf all st.s o.guard = (true, true)) (hf : opd st.s fo = .func f caps) (hcall : ∀ args w, (callFunc f args).run P w = .ok (.enter f args) w)
    (hnd : js.Nodup) (hb : AtG st.h js js B) (hargs : ((args.toList.map fun x => sv (opd st.s x)) ++ caps) = l.map (ren js)) (hsc : (args.toList.all fun x => sc true (opd st.s x)) = true) (hd : d < st.n) (hr : flatT r = true) (hB' : B'.all nIB = true) (hlen : st.h.length ≤ bigId) (hH2 : plG st.h js K B' = H2)
    (h : ∀ st', (⟨st.n, keepL K' (putL st.s d r), H2⟩ : St) = st' → AWPL P w0 all Q rest st') : AWPL P w0 all Q (o :: rest) st := by
  intro F φ a w hrel
  have hwant : Region.wanted o (yielded all a.tmps) = true := by rw [pc_wanted hrel (by rw [hpc]), hpc]
  refine wpList_step fun K2 hK => ?_
  rw [if_pos hwant]
  have hfr := opd_rep hrel fo
  rw [hf] at hfr
  obtain ⟨cv, hcv, hcl, hcr⟩ : ∃ cv : Array Value, a.eval fo = .func (.func f) #[] cv ∧ caps.length = cv.size ∧ ∀ (i : Nat) (x : AVal) (v : Value), caps[i]? = some x → cv[i]? = some v → RepV F φ x v := by
    generalize a.eval fo = u at hfr
    cases hfr with | func _ _ vs h1 h2 => exact ⟨vs, rfl, h1, h2⟩
  have hrun : (execOp a.eval o).run P w = .ok (.enter f (args.map a.eval ++ cv)) w := by
    simp only [execOp, hop, resolve, hcv, Deferred.ofValue, Sem.run_bind, Sem.run_pure, Result.andThen_ok, invoke, Array.empty_append, hcall]
  unfold Oper.wp
  rw [hrun]
  obtain ⟨hKB, hKB', hP⟩ := hP
  have hjl := hb.len
  have hkill := hrel.heap.killL js
  have hle : FLe F (addOwn F φ (killL st.h js) w) := fun b o h => by simp [addOwn, h]
  have jsAt : ∀ k, k < B.length → ∃ j, js[k]? = some j := fun k hk => ⟨_, List.getElem?_eq_getElem (by omega)⟩
  have hjlt : ∀ j, j ∈ js → j < st.h.length := fun j hj => by
    obtain ⟨k, hk⟩ := List.getElem?_of_mem hj
    obtain ⟨p, _, hb1⟩ := hb.get k j hk
    exact Blk.ext_lt hb1
  have hren : RelH F (phiR φ js) w0.heap.size (B.map some) w := hrel.heap.ren hlen hnd (by simp [hjl]) fun i b hib => by
    rw [List.getElem?_map] at hib
    cases hq : B[i]? with
    | none => rw [hq] at hib; cases hib
    | some b0 =>
      rw [hq] at hib
      simp only [Option.map_some, Option.some.injEq] at hib
      subst hib
      obtain ⟨j, hj⟩ := jsAt i (List.getElem?_eq_some_iff.1 hq).1
      obtain ⟨b1, hb1, hH⟩ := hb.get i j hj
      rw [hq] at hb1; cases hb1
      exact ⟨j, hj, hH⟩
  have hphi : ∀ k j, js[k]? = some j → phiR φ js k = φ j := fun k j hj => by simp only [phiR, hj]
  have hcell : RelH (addOwn F φ (killL st.h js) w) (phiR φ js) w0.heap.size (B.map some) w := by
    refine ⟨(addOwn_agree hkill).1, hren.unused, fun k b hk => ?_, hren.sep, (addOwn_agree hkill).2, hren.pins⟩
    refine (hren.blk k b hk).leO hle (PLe.refl _) (fun g ho _ hg _ => ?_) fun _ _ => rfl
    unfold addOwn
    rw [hg]
    simp only
    refine if_neg ?_
    rintro ⟨id', b', q1, q2⟩
    have hnm := killL_none js _ q1
    rw [killL_not js _ hnm] at q1
    have hkB : k < B.length := by
      have := (List.getElem?_eq_some_iff.1 hk).1
      simpa using this
    obtain ⟨j, hj⟩ := jsAt k hkB
    obtain ⟨b1, _, hbj⟩ := hb.get k j hj
    rw [hphi k j hj] at ho
    have := hrel.heap.sep id' j _ _ _ q1 hbj q2 ho
    rw [this] at hnm
    exact hnm (List.mem_of_getElem? hj)
  have hbig : φ bigId = .unused := hrel.heap.unused _ hlen
  have g1 : ((args.toList.map fun x => sv (opd st.s x)) ++ caps).length = l.length := by rw [hargs, List.length_map]
  have hc := hP w0 w (addOwn F φ (killL st.h js) w) (phiR φ js) (args.map a.eval ++ cv) hrel.below hcell (by rw [← g1]; simp [hcl]) (fun i y v hy hv => by
    have hx : ((args.toList.map fun x => sv (opd st.s x)) ++ caps)[i]? = some (ren js y) := by rw [hargs, List.getElem?_map, hy]; rfl
    refine (ren_rep hbig (?_ : RepV F φ (ren js y) v)).le hle (PLe.refl _)
    rw [List.getElem?_append] at hx
    rw [Array.getElem?_append] at hv
    simp only [List.length_map, Array.length_toList] at hx
    simp only [Array.size_map] at hv
    split at hx
    · rename_i hlt
      rw [if_pos hlt] at hv
      rw [List.getElem?_map, Array.getElem?_toList] at hx
      rw [Array.getElem?_map] at hv
      cases hq : args[i]? with
      | none => rw [hq] at hv; cases hv
      | some q =>
        rw [hq] at hx hv
        simp only [Option.map_some, Option.some.injEq] at hx hv
        rw [← hx, ← hv]
        exact ev_rep hrel (List.all_eq_true.1 hsc q (Array.mem_toList_iff.2 (Array.mem_of_getElem? hq)))
    · rename_i hge
      rw [if_neg hge] at hv
      exact hcr _ _ v hx hv)
  refine hc.mono fun e w' ⟨v, F', φ', he, hF, hH', hv, hpin', hbw⟩ => ?_
  subst he
  refine hK _ _ ?_
  have hFF : FLe F F' := FLe.trans hle hF
  have hFn : ∀ g, F' g = none → F g = none := fun g hg => by
    cases hq : F g with
    | none => rfl
    | some o => have := hFF g o hq; rw [hg] at this; cases this
  have kept : ∀ {id : Nat} {b : Blk} {g : Nat}, id ∉ js → st.h[id]? = some (some b) → (φ id).occ g → w'.heap[g]? = w.heap[g]? ∧ F' g ≠ none := by
    intro id b g hn hb1 hg
    have h0 : (killL st.h js)[id]? = some (some b) := by rw [killL_not js _ hn]; exact hb1
    have h1 := addOwn_occ hkill h0 hg
    have hlt := hkill.occ_lt h0 hg
    have h2 : addOwn F φ (killL st.h js) w g = some w.heap[g] := by rw [h1]; exact Array.getElem?_eq_getElem hlt
    exact ⟨by rw [hH'.agree g _ (hF g _ h2), Array.getElem?_eq_getElem hlt], by rw [hF g _ h2]; simp⟩
  obtain ⟨φ2, hφ2⟩ : ∃ φ2 : Phi, φ2 = fun id => if id < st.h.length then φ id else φ' (K + (id - st.h.length)) := ⟨_, rfl⟩
  have hPL : PLe φ φ2 := fun id hu => by
    rw [hφ2]
    refine if_pos ?_
    rcases Nat.lt_or_ge id st.h.length with c | c
    · exact c
    · exact absurd (hrel.heap.unused id c) hu
  have hKj : K ≤ js.length := by omega
  have hφσ : ∀ i id, i < B'.length → (sgm st.h.length js K B'.length)[i]? = some id → φ2 id = φ' i := fun i id hi hid => by
    rcases Nat.lt_or_ge i K with c | c
    · rw [sgm_lo hKj c] at hid
      have hlt := hjlt id (List.mem_of_getElem? hid)
      rw [hφ2]
      simp only [if_pos hlt]
      rw [hpin' i c, hphi i id hid]
    · rw [sgm_hi hKj c hi] at hid
      injection hid with hid
      rw [hφ2]
      simp only
      rw [if_neg (by omega)]
      congr 1; omega
  have hσ : ∀ i, φ' i ≠ .unused → ∃ s, (sgm st.h.length js K B'.length)[i]? = some s ∧ φ2 s = φ' i := fun i hu => by
    have hi : i < B'.length := by
      rcases Nat.lt_or_ge i B'.length with c | c
      · exact c
      · exact absurd (hH'.unused i (by simpa using c)) hu
    have hl : i < (sgm st.h.length js K B'.length).length := by rw [sgm_len hKj hKB']; exact hi
    exact ⟨_, List.getElem?_eq_getElem hl, hφσ i _ hi (List.getElem?_eq_getElem hl)⟩
  have hB'at : ∀ i b', B'[i]? = some b' → (B'.map some)[i]? = some (some b') := fun i b' hq => by rw [List.getElem?_map, hq]; rfl
  have hnew : RelH F φ2 w0.heap.size (plG st.h js K B') w' := by
    refine ⟨fun b o hbo => hH'.agree b o (hFF b o hbo), fun id hid => ?_, fun id b hib => ?_, fun i j bi bj g hi hj h1 h2 => ?_, hrel.heap.good, fun j i l hj => ?_⟩
    · rw [plG_len] at hid
      rw [hφ2]
      simp only
      rw [if_neg (by omega)]
      exact hH'.unused _ (by simp; omega)
    · rcases plG_cls hnd hKj hKB' hjlt hib with ⟨q1, q2, q3⟩ | ⟨i, b', q1, rfl, q3⟩
      · exact (hrel.heap.blk id b q3).le (FLe.refl F) hPL (fun _ _ hg _ => hg) fun x hx => (kept q1 q3 hx).1
      · exact (hH'.blk i b' (hB'at i b' q1)).move hFn hσ (hφσ i id (List.getElem?_eq_some_iff.1 q1).1 q3) (List.all_eq_true.1 hB' b' (List.mem_of_getElem? q1))
    · have old : ∀ {id : Nat}, id < st.h.length → φ2 id = φ id := fun {id} hid => by rw [hφ2]; exact if_pos hid
      rcases plG_cls hnd hKj hKB' hjlt hi with ⟨p1, p2, p3⟩ | ⟨i', bi', p1, rfl, p3⟩ <;> rcases plG_cls hnd hKj hKB' hjlt hj with ⟨q1, q2, q3⟩ | ⟨j', bj', q1, rfl, q3⟩
      · rw [old p2] at h1; rw [old q2] at h2
        exact hrel.heap.sep i j _ _ _ p3 q3 h1 h2
      · exfalso
        rw [old p2] at h1
        rw [hφσ j' j (List.getElem?_eq_some_iff.1 q1).1 q3] at h2
        have a1 := (kept p1 p3 h1).2
        exact a1 ((hH'.blk j' bj' (hB'at j' bj' q1)).occ h2).2.1
      · exfalso
        rw [old q2] at h2
        rw [hφσ i' i (List.getElem?_eq_some_iff.1 p1).1 p3] at h1
        have a1 := (kept q1 q3 h2).2
        exact a1 ((hH'.blk i' bi' (hB'at i' bi' p1)).occ h1).2.1
      · rw [hφσ i' i (List.getElem?_eq_some_iff.1 p1).1 p3] at h1
        rw [hφσ j' j (List.getElem?_eq_some_iff.1 q1).1 q3] at h2
        have := hH'.sep i' j' _ _ _ (hB'at i' bi' p1) (hB'at j' bj' q1) h1 h2
        subst this
        rw [p3] at q3
        injection q3
    · rcases plG_cls hnd hKj hKB' hjlt hj with ⟨p1, p2, p3⟩ | ⟨i', b', p1, p2, p3⟩
      · obtain ⟨a1, a2⟩ := hrel.heap.pins j i l p3
        exact ⟨by rw [hPL i (by rw [a1]; exact a2)]; exact a1, a2⟩
      · have := List.all_eq_true.1 hB' b' (List.mem_of_getElem? p1)
        cases b' <;> simp [renB, nIB] at p2 this
  rw [hdst]
  subst hH2
  have hres : Rel F φ2 w0 ⟨st.n, st.s, plG st.h js K B'⟩ a w' := ⟨hnew, hrel.size, fun i => (hrel.slots i).le (FLe.refl F) hPL, hrel.defers, hbw⟩
  exact h _ rfl F φ2 _ w' ((hres.put hd (flatT_rep hr hv)).keep K')

/-- An array of three numbers. -/
theorem AWPL_build3 (K : List Nat) (a b c : Int) {st : St} {all : Array Oper} {Q : Exit → St → Prop} {rest : List Oper} {o : Oper} {x y z : Operand} {t e : TypeId} {d : Nat}
    (hop : o.op = .build t #[(0, x), (1, y), (2, z)]) (hg : o.guard = none) (hdst : o.dst = some d) (hd : d < st.n) (hx : opd st.s x = .int .i64 a) (hy : opd st.s y = .int .i64 b) (hz : opd st.s z = .int .i64 c)
    (hu : P.underlying t = some (.array 3 e)) (hz0 : ∀ w, (zeroValue t).run P w = .ok (.agg #[.int .i64 0, .int .i64 0, .int .i64 0]) w) (hs : ∀ w, (sizeOf e).run P w = .ok 1 w)
    (h : ∀ st', (⟨st.n, keepL K (putL st.s d (.agg ([a, b, c].map (AVal.int .i64)))), st.h⟩ : St) = st' → AWPL P w0 all Q rest st') : AWPL P w0 all Q (o :: rest) st := by
  intro F φ act w hrel
  have rx := opd_rep hrel x
  have ry := opd_rep hrel y
  have rz := opd_rep hrel z
  rw [hx] at rx
  rw [hy] at ry
  rw [hz] at rz
  obtain ⟨ex, lx⟩ := int_inv rx
  obtain ⟨ey, ly⟩ := int_inv ry
  obtain ⟨ez, lz⟩ := int_inv rz
  refine wpList_plain hg fun K' hK' => ?_
  unfold Oper.wp
  have hrun : (execOp act.eval o).run P w = .ok (.value (.agg #[.int .i64 a, .int .i64 b, .int .i64 c])) w := by
    simp [execOp, hop, Instr.build, hz0, run_underlying hu, hs, ex, ey, ez, Value.cells, Instr.fill, Result.andThen, List.zipIdx]
  rw [hrun]
  refine hK' _ _ ?_
  rw [hdst]
  refine h _ rfl F φ _ w ((hrel.put hd (.agg _ _ rfl (fun i v hv => ?_) (fun i u v hu' hv => ?_))).keep K)
  · match i, hv with
    | 0, hv => simp at hv; subst hv; rfl
    | 1, hv => simp at hv; subst hv; rfl
    | 2, hv => simp at hv; subst hv; rfl
  · match i, hu', hv with
    | 0, hu', hv => simp at hv hu'; subst hv hu'; exact .int _ _ lx.1 lx.2
    | 1, hu', hv => simp at hv hu'; subst hv hu'; exact .int _ _ ly.1 ly.2
    | 2, hu', hv => simp at hv hu'; subst hv hu'; exact .int _ _ lz.1 lz.2
end

open Go.WideMaps in
theorem keyOf_three {P : Program} {k e : TypeId} {q : IntKind} (A : ArrKey P k e 3) (he : P.underlying e = some (.int q)) (hsz : ∃ m, P.types.size = m + 1) {a b c : Int} (wa : (Lit.int q a).wf = true) (wb : (Lit.int q b).wf = true) (wc : (Lit.int q c).wf = true) :
    keyOf P k (.agg #[.int q a, .int q b, .int q c]) = some (.string (keyBytes [.int q a, .int q b, .int q c])) := by
  have hkt := A.keyType hsz
  obtain ⟨m, hm⟩ := hsz
  unfold keyOf
  simp only [A.hu]
  rw [if_pos (by simp [hkt, Value.formed, A.hu, A.size]), hm]
  unfold Program.keyLits
  simp only [A.hu, Value.cells]
  rw [if_pos (by rw [A.size]; rfl), show List.range 3 = [0, 1, 2] from rfl, List.mapM_cons, List.mapM_cons, List.mapM_cons, List.mapM_nil]
  simp [A.one, Program.keyLits, he, wa, wb, wc]

open Go.WideMaps in
theorem mapTy_three {P : Program} {t k e i : TypeId} (hu : P.underlying t = some (.map k e)) (he : P.underlying e = some (.int .i64)) (hz : ∀ w, (zeroValue e).run P w = .ok (.int .i64 0) w) (A : ArrKey P k i 3) (hi : P.underlying i = some (.int .i64)) (hsz : ∃ m, P.types.size = m + 1)
    (hk : Keyed P k) : MapTy P t k e 3 := by
  refine ⟨hu, he, hz, hk, fun xs hl hr => ?_⟩
  match xs, hl with
  | [a, b, c], _ =>
    have wf : ∀ x : Int, lo .i64 ≤ x ∧ x ≤ AX.hi .i64 → (Lit.int .i64 x).wf = true := fun x hx => by
      have e : IntKind.i64.min = -9223372036854775808 := rfl
      simp [Lit.wf, lo, AX.hi, e] at hx ⊢
      omega
    exact ⟨_, keyOf_three A hi hsz (wf a (hr a (by simp))) (wf b (hr b (by simp))) (wf c (hr c (by simp)))⟩
end Go.AX
