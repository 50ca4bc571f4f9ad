/-
 Regions that draw their order and call: calls that answer numbers may stand among what touches no memory; what stands behind all of it in its order may touch memory. Further rules: an answer under a guard that holds; empty lists of the call's own made where several ends come together.  Conditions: none.
-/
import Derived.Test.YtlpikingpnenkaaAxN
import Derived.Deep.Quiet
set_option linter.unusedSimpArgs false
set_option linter.unusedVariables false
namespace Go.AX
open Go Go.RowKit
/-! ### a head in any order, a tail in its own -/
section
variable {P : Program} {ops ops' : Array Oper} {n g : Nat} {C : World → Prop} {K : Act → Prop} {Q : Exit → Act → World → Prop}
end
/-! ### on abstract states -/
/-- Nothing below has turned. -/
def Cq (w : World) : World → Prop := fun w' => Below w.heap.size w w'
section
variable {P : Program} {T : Tab} {w0 : World} {α κ ρ' : Type}
theorem Rel.belowR {F : Fz} {φ : Phi} {st : St} {a : Act} {w w' : World} (h : Rel F φ w0 st a w) (hb : Below w.heap.size w w') : Rel F φ w0 st a w' :=
 ⟨h.heap.belowR hb, h.size, h.slots, h.defers, h.below.trans (hb.mono h.below.size)⟩
def AWQL (P : Program) (w0 : World) (all : Array Oper) (Q : Exit → St → Prop) (l : List Oper) (st : St) : Prop :=
 ∀ F φ a w, Rel F φ w0 st a w → wpQuiet P all (Cq w) (fun a' => ∀ w', Cq w w' → ∃ st' φ', Q .normal st' ∧ Rel F φ' w0 st' a' w') l a
theorem wpQuiet_mono {ops : Array Oper} {C : World → Prop} {K K' : Act → Prop} (hk : ∀ a, K a → K' a) : ∀ (l : List Oper) (a : Act), wpQuiet P ops C K l a → wpQuiet P ops C K' l a
 | [], a, h => hk a h
 | o :: l, a, h => by
  unfold wpQuiet at h ⊢
  split at h
  ·rename_i hw; rw [if_pos hw]; exact Oper.quiet_mono (fun a => wpQuiet_mono hk l a) h
  ·rename_i hw; rw [if_neg hw]; exact wpQuiet_mono hk l _ h
theorem AWQL_nil {all : Array Oper} {Q : Exit → St → Prop} {st : St} (h : Q .normal st) : AWQL P w0 all Q [] st :=
 fun F φ a w hr => wpQuiet_nil fun w' hw' => ⟨st, φ, h, hr.belowR hw'⟩
theorem AWQL_step (hT : TabOk P T) {all : Array Oper} {Q : Exit → St → Prop} {st : St} {o : Oper} {rest : List Oper} (hc : (stepP T all o st).1 = true) (h : AWQL P w0 all Q rest (stepP T all o st).2) : AWQL P w0 all Q (o :: rest) st := by
 intro F φ a w hr
 refine wpQuiet_step fun K hK => ?_
 rcases stepP_ok hT hr hc with ⟨h1, u, h2, h3⟩ | ⟨h1, h3⟩
 ·rw [if_pos h1]
  refine ⟨u, fun w' hw' => ?_, hK _ (h F φ _ w h3)⟩
  unfold Oper.quietAt
  rw [h2 w' hw']
  exact ⟨rfl, rfl⟩
 ·rw [if_neg (by simp [h1])]
  exact hK _ (h F φ _ w h3)
theorem AWQL_runP (hT : TabOk P T) {all : Array Oper} {Q : Exit → St → Prop} {rest : List Oper} : ∀ {l : List Oper} {st : St}, (runP T all l st).1 = true → AWQL P w0 all Q rest (runP T all l st).2 → AWQL P w0 all Q (l ++ rest) st
 | [], _, _, h => h
 | o :: l, st, hc, h => by
  simp only [runP, Bool.and_eq_true] at hc h
  exact AWQL_step hT hc.1 (AWQL_runP hT hc.2 h)
theorem AWQL_keep (K : List Nat) {all : Array Oper} {Q : Exit → St → Prop} {l : List Oper} {st : St} (h : AWQL P w0 all Q l ⟨st.n, keepL K st.s, st.h⟩) : AWQL P w0 all Q l st := fun F φ a w hr => h F φ a w (hr.keep K)
theorem AWQL_rn (hT : TabOk P T) (n : Nat) (K : List Nat) {all : Array Oper} {Q : Exit → St → Prop} {l : List Oper} {st : St}
  (h : ∀ c st', runPK T K all (l.take n) st = (c, st') → c = true ∧ AWQL P w0 all Q (l.drop n) st') : AWQL P w0 all Q l st := by
 obtain ⟨h1, h2⟩ := h _ _ rfl
 rw [← List.take_append_drop n l]
 exact AWQL_runP hT h1 (AWQL_keep K h2)
/-- The value of what is a number, a truth value or several of these. -/
def detV : AVal → Option Value
 | .int k n => some (.int k n)
 | .bool b => some (.bool b)
 | .tup [.int k n, .bool b] => some (.tuple #[.int k n, .bool b])
 | .tup [.bool b, .int k n] => some (.tuple #[.bool b, .int k n])
 | .tup [.int k n, .int k' n'] => some (.tuple #[.int k n, .int k' n'])
 | .tup [.int k n, .int k' n', .int k2 n2] => some (.tuple #[.int k n, .int k' n', .int k2 n2])
 | _ => none
theorem detV_rep {F : Fz} {φ : Phi} {x : AVal} {v u : Value} (h : detV x = some v) (hr : RepV F φ x u) : u = v := by
 have two : ∀ {x y : AVal} {a b u : Value}, RepV F φ (.tup [x, y]) u → (∀ u, RepV F φ x u → u = a) → (∀ u, RepV F φ y u → u = b) → u = .tuple #[a, b] := by
  intro x y a b u hr h1 h2
  cases hr with | tup _ vs hl h3 => ?_
  match vs, hl with
  | ⟨[p, q]⟩, _ => rw [h1 p (h3 0 _ _ rfl rfl), h2 q (h3 1 _ _ rfl rfl)]
 unfold detV at h
 split at h <;> cases h
 ·exact (int_inv hr).1
 ·exact bool_inv hr
 ·exact two hr (fun _ h => (int_inv h).1) (fun _ h => bool_inv h)
 ·exact two hr (fun _ h => bool_inv h) (fun _ h => (int_inv h).1)
 ·exact two hr (fun _ h => (int_inv h).1) (fun _ h => (int_inv h).1)
 ·cases hr with | tup _ vs hl h3 => ?_
  match vs, hl with
  | ⟨[p, q, r]⟩, _ => rw [(int_inv (h3 0 _ p rfl rfl)).1, (int_inv (h3 1 _ q rfl rfl)).1, (int_inv (h3 2 _ r rfl rfl)).1]
theorem detV_any {F F' : Fz} {φ φ' : Phi} {x : AVal} {v u : Value} (h : detV x = some v) (hr : RepV F' φ' x u) : RepV F φ x v := by
 have int : ∀ {k : IntKind} {n : Int} {u : Value}, RepV F' φ' (.int k n) u → RepV F φ (.int k n) (.int k n) := fun h => .int _ _ (int_inv h).2.1 (int_inv h).2.2
 have two : ∀ {x y : AVal} {a b u : Value}, RepV F' φ' (.tup [x, y]) u → (∀ u, RepV F' φ' x u → RepV F φ x a) → (∀ u, RepV F' φ' y u → RepV F φ y b) → RepV F φ (.tup [x, y]) (.tuple #[a, b]) := by
  intro x y a b u hr h1 h2
  cases hr with | tup _ vs hl h3 => ?_
  match vs, hl with
  | ⟨[p, q]⟩, _ =>
   refine .tup _ _ rfl fun i z v hz hv => ?_
   match i, hz, hv with
   | 0, hz, hv => cases hz; cases hv; exact h1 p (h3 0 _ _ rfl rfl)
   | 1, hz, hv => cases hz; cases hv; exact h2 q (h3 1 _ _ rfl rfl)
 unfold detV at h
 split at h <;> cases h
 ·exact int hr
 ·exact .bool _
 ·exact two hr (fun _ h => int h) (fun _ h => .bool _)
 ·exact two hr (fun _ h => .bool _) (fun _ h => int h)
 ·exact two hr (fun _ h => int h) (fun _ h => int h)
 ·cases hr with | tup _ vs hl h3 => ?_
  match vs, hl with
  | ⟨[p, q, r]⟩, _ =>
   refine .tup _ _ rfl fun i z v hz hv => ?_
   match i, hz, hv with
   | 0, hz, hv => cases hz; cases hv; exact int (h3 0 _ p rfl rfl)
   | 1, hz, hv => cases hz; cases hv; exact int (h3 1 _ q rfl rfl)
   | 2, hz, hv => cases hz; cases hv; exact int (h3 2 _ r rfl rfl)
theorem AWQL_call {all : Array Oper} {Q : Exit → St → Prop} {rest : List Oper} {st : St} {o : Oper} {fo : Operand} {args : Array Operand} {tys : Array TypeId} {d f : Nat} {caps ys : List AVal} {r : AVal} {rv : Value}
  (hop : o.op = .call ⟨.value fo, args, tys⟩) (hdst : o.dst = some d) (hpc : pcOf all st.s o.guard = (true, true)) (hf : opd st.s fo = .func f caps) (hcall : ∀ args w, (callFunc f args).run P w = .ok (.enter f args) w)
  (hP : Pure P f ys r []) (hargs : ArgsOk st.h ((args.toList.map fun x => sv (opd st.s x)) ++ caps) ys) (hsc : (args.toList.all fun x => sc true (opd st.s x)) = true) (hd : d < st.n) (hdet : detV r = some rv)
  (h : AWQL P w0 all Q rest { st with s := putL st.s d r }) : AWQL P w0 all Q (o :: rest) st := by
 intro F φ a w hrel
 have hwant : Region.wanted o (yielded all a.tmps) = true := by rw [pc_wanted hrel (by rw [hpc]), hpc]
 refine wpQuiet_step fun K hK => ?_
 rw [if_pos hwant]
 -- what the call does, in every such world
 have hcalls : ∀ w', Cq w w' → o.quietAt P a (Cq w) w' rv ∧ RepV F φ r rv := by
  intro w' hw'
  have hrel' := hrel.belowR hw'
  have hfr := opd_rep hrel' fo
  rw [hf] at hfr
  obtain ⟨cv, hcv, hcl, hcr⟩ : ∃ cv : Array Value, a.eval fo = .func (.func f) #[] cv ∧ caps.length = cv.size ∧ ∀ (i : Nat) (x : AVal) (v : Value), caps[i]? = some x → cv[i]? = some v → RepV F φ x v := by
   generalize a.eval fo = u at hfr
   cases hfr with | func _ _ vs h1 h2 => exact ⟨vs, rfl, h1, h2⟩
  have hrun : (execOp a.eval o).run P w' = .ok (.enter f (args.map a.eval ++ cv)) w' := by
   simp only [execOp, hop, resolve, hcv, Deferred.ofValue, Sem.run_bind, Sem.run_pure, Result.andThen_ok, invoke, Array.empty_append, hcall]
  obtain ⟨g1, g2⟩ := hargs.get
  have hlen : ys.length = (args.map a.eval ++ cv).size := by rw [← g1]; simp [hcl]
  have hc := hP w' (addOwn F φ st.h w') (args.map a.eval ++ cv) (addOwn_agree hrel'.heap) hlen (fun i y v hy hv => by
   have hi : i < ((args.toList.map fun x => sv (opd st.s x)) ++ caps).length := by
    rw [g1]
    rcases Nat.lt_or_ge i ys.length with c | c
    ·exact c
    ·rw [List.getElem?_eq_none c] at hy; cases hy
   have hx := List.getElem?_eq_getElem hi
   refine argOk_rep hrel'.heap (g2 i _ y hx hy) ?_
   rw [List.getElem?_append] at hx
   rw [Array.getElem?_append] at hv
   simp only [List.length_map, Array.length_toList] at hx
   simp only [Array.size_map] at hv
   split at hx
   ·rename_i hlt
    rw [if_pos hlt] at hv
    rw [List.getElem?_map, Array.getElem?_toList] at hx
    rw [Array.getElem?_map] at hv
    cases hq : args[i]? with
    | none => rw [hq] at hv; cases hv
    | some q =>
     rw [hq] at hx hv
     simp only [Option.map_some, Option.some.injEq] at hx hv
     rw [← hx, ← hv]
     exact ev_rep hrel' (List.all_eq_true.1 hsc q (Array.mem_toList_iff.2 (Array.mem_of_getElem? hq)))
   ·rename_i hge
    rw [if_neg hge] at hv
    exact hcr _ _ v hx hv)
  refine ⟨?_, ?_⟩
  ·unfold Oper.quietAt
   rw [hrun]
   refine ⟨rfl, hc.mono fun e w'' hq => ?_⟩
   obtain ⟨v, F', φ', rfl, _, _, hv, hb⟩ := hq
   exact ⟨by rw [detV_rep hdet hv], Below.trans hw' (hb.mono hw'.size)⟩
  ·obtain ⟨e, w2, fr, ⟨v, F', φ', _, _, _, hv, _⟩, _⟩ := hc []
   exact detV_any hdet hv
 refine ⟨rv, fun w' hw' => (hcalls w' hw').1, hK _ ?_⟩
 rw [hdst]
 exact h F φ _ w (hrel.put hd (hcalls w (Below.refl _ _)).2)
theorem AWQL_callK (K : List Nat) {st : St} {all : Array Oper} {Q : Exit → St → Prop} {rest : List Oper} {o : Oper} {fo : Operand} {args : Array Operand} {tys : Array TypeId} {d f : Nat} {caps ys : List AVal} {r : AVal}
  (hP : Pure P f ys r []) (hop : o.op = .call ⟨.value fo, args, tys⟩) (hdst : o.dst = some d) (hpc : pcOf all st.s o.guard = (true, true)) (hf : opd st.s fo = .func f caps) (hcall : ∀ args w, (callFunc f args).run P w = .ok (.enter f args) w)
  (hargs : ArgsOk st.h ((args.toList.map fun x => sv (opd st.s x)) ++ caps) ys) (hsc : (args.toList.all fun x => sc true (opd st.s x)) = true) (hd : d < st.n) (hdet : (detV r).isSome = true)
  (h : ∀ st', (⟨st.n, keepL K (putL st.s d r), st.h⟩ : St) = st' → AWQL P w0 all Q rest st') : AWQL P w0 all Q (o :: rest) st := by
 obtain ⟨rv, hrv⟩ := Option.isSome_iff_exists.1 hdet
 exact AWQL_call hop hdst hpc hf hcall hP hargs hsc hd hrv (AWQL_keep K (h _ rfl))
theorem AWQL_skipV (K : List Nat) (x : AVal) {st : St} {all : Array Oper} {Q : Exit → St → Prop} {rest : List Oper} {o : Oper} {d : Nat} (hdst : o.dst = some d) (hpc : pcOf all st.s o.guard = (true, false)) (hd : d < st.n)
  (h : ∀ st', (⟨st.n, keepL K (putL st.s d (.opt false x)), st.h⟩ : St) = st' → AWQL P w0 all Q rest st') : AWQL P w0 all Q (o :: rest) st := by
 intro F φ a w hrel
 have hwant : Region.wanted o (yielded all a.tmps) = false := by rw [pc_wanted hrel (by rw [hpc]), hpc]
 refine wpQuiet_step fun K' hK => ?_
 rw [if_neg (by simp [hwant]), hdst]
 exact hK _ (h _ rfl F φ _ w (Rel.keep (hrel.put hd (.opt false x undef (fun h => nomatch h) fun _ => rfl)) K))
theorem AWQL_callGP (K : List Nat) (Pr : Prop) [Decidable Pr] {st : St} {all : Array Oper} {Q : Exit → St → Prop} {rest : List Oper} {o : Oper} {fo : Operand} {args : Array Operand} {tys : Array TypeId} {d f : Nat} {caps ys : List AVal} {r : AVal}
  (hP : Pr → Pure P f ys r []) (hop : o.op = .call ⟨.value fo, args, tys⟩) (hdst : o.dst = some d) (hpc : pcOf all st.s o.guard = (true, decide Pr)) (hf : opd st.s fo = .func f caps) (hcall : ∀ args w, (callFunc f args).run P w = .ok (.enter f args) w)
  (hargs : ArgsOk st.h ((args.toList.map fun x => sv (opd st.s x)) ++ caps) ys) (hsc : Pr → (args.toList.all fun x => sc true (opd st.s x)) = true) (hd : d < st.n) (hdet : (detV r).isSome = true)
  (h : ∀ st', (⟨st.n, keepL K (putL st.s d (.opt (decide Pr) r)), st.h⟩ : St) = st' → AWQL P w0 all Q rest st') : AWQL P w0 all Q (o :: rest) st := by
 obtain ⟨rv, hrv⟩ := Option.isSome_iff_exists.1 hdet
 by_cases hg : Pr
 ·rw [decide_eq_true hg] at hpc h
  refine AWQL_call hop hdst hpc hf hcall (hP hg) hargs (hsc hg) hd hrv fun F φ a w hrel => ?_
  refine h _ rfl F φ a w (Rel.keep (Rel.reslot hrel (s' := putL st.s d (.opt true r)) fun i v hv => ?_) K)
  simp only [look_putL] at hv ⊢
  split
  ·rename_i e; rw [if_pos e] at hv
   exact .opt _ _ _ (fun _ => hv) (fun h => nomatch h)
  ·rename_i e; rw [if_neg e] at hv; exact hv
 ·rw [decide_eq_false hg] at hpc h
  exact AWQL_skipV K r hdst hpc hd h
/-- A region that draws its order, all of it quiet. -/
theorem AWP_drawQ {id : Nat} {l : List Oper} {Q : Exit → St → Prop} {st : St} (hm : P.follows .mixedOrders = true) (hB : Region.lexB .any l.toArray = true) (h : AWQL P w0 l.toArray Q l st) : AWP P w0 (.region id l.toArray true) Q st := by
 intro F φ a w hr
 exact wp_region_quiet (C := Cq { w with drawn := w.drawn + 1 }) hm hB (Below.refl _ _) (wpQuiet_mono (fun a' hk w' hw' => let ⟨st', φ', q, r⟩ := hk w' hw'; ⟨st', F, φ', q, FLn.refl F, r⟩) _ _ (h F φ a { w with drawn := w.drawn + 1 } hr.drew'))
end
end Go.AX
set_option linter.unusedSimpArgs false
set_option linter.unusedVariables false
namespace Go.AX
open Go Go.RowKit
section
variable {P : Program} {T : Tab} {w0 : World}
/-- The same slots, in another order, perhaps fewer. -/
def SameS (s : List (Nat × AVal)) : List (Nat × AVal) → Prop
 | [] => True
 | (i, x) :: r => look s i = x ∧ SameS s r
theorem SameS.look {s : List (Nat × AVal)} : ∀ {s' : List (Nat × AVal)}, SameS s s' → ∀ i, AX.look s' i = AX.look s i ∨ AX.look s' i = .junk
 | [], _, _ => .inr rfl
 | (k, x) :: r, h, i => by
  simp only [SameS] at h
  simp only [AX.look]
  split
  ·rename_i e; subst e; exact .inl h.1.symm
  ·exact h.2.look i
theorem Rel.sameS {F : Fz} {φ : Phi} {st : St} {a : Act} {w : World} (h : Rel F φ w0 st a w) {s' : List (Nat × AVal)} (hs : SameS st.s s') : Rel F φ w0 ⟨st.n, s', st.h⟩ a w :=
 Rel.reslot h (s' := s') fun i v hv => by
  rcases hs.look i with e | e
  ·rw [e]; exact hv
  ·rw [e]; exact .junk _
theorem AWPL_stP (s' : List (Nat × AVal)) {st : St} {all : Array Oper} {Q : Exit → St → Prop} {l : List Oper} (hs : SameS st.s s') (h : AWPL P w0 all Q l ⟨st.n, s', st.h⟩) : AWPL P w0 all Q l st :=
 fun F φ a w hr => h F φ a w (hr.sameS hs)
end
end Go.AX
