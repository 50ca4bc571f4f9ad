/-
 Drawn regions in which addresses are reckoned at any time: such operations may come first; so many choices at once. Conditions: none.
-/
import Derived.Test.YtlpikingpnenkaaAxJm
set_option linter.unusedSimpArgs false
set_option linter.unusedVariables false
namespace Go.AX
open Go Go.RowKit
section
variable {P : Program} {T : Tab} {F : Fz} {φ : Phi} {w0 : World} {st : St} {a : Act} {w : World}
def YieldsT (P : Program) (F : Fz) (φ : Phi) (s : Sem Value) (x : AVal) : Prop := ∃ u, (∀ w' : World, True → s.run P w' = .ok u w') ∧ RepV F φ x u
theorem idxA_okT {t e : TypeId} (hT : TabOk P T) (h : RelH F φ w0.heap.size st.h w) (hd : (T t).d = .slice e) (hk : known (T e) = true) {x i : AVal} {u v : Value} (hx : RepV F φ x u) (hi : RepV F φ i v)
  (hc : (idxA (T e) st.h x i).1 = true) : YieldsT P F φ (Instr.indexAt t u v) (idxA (T e) st.h x i).2 := by
 unfold idxA at hc ⊢
 split at hc
 ·rename_i k xs k' i
  simp only [Bool.and_eq_true, decide_eq_true_eq] at hc
  obtain ⟨hs, h0, h1⟩ := hc
  obtain ⟨rfl, _⟩ := int_inv hi
  cases hx with | ints _ _ _ hx => ?_
  obtain ⟨ad, c, rfl, hr⟩ := imm_idx hx h0 (by simpa [intEs] using h1)
  have hlt : i.toNat < xs.length := by omega
  refine ⟨_, fun w _ => by rw [idx_run hT hd hk _ _ _ _ _ h0 (by simpa [intEs] using h1)], ?_⟩
  rw [hs]
  have : (intEs k xs).getD i.toNat [] = [.int k (xs.getD i.toNat 0)] := by
   simp [intEs, List.getD_eq_getElem?_getD, List.getElem?_eq_getElem hlt]
  rw [this] at hr
  exact .intp _ _ _ hr
 ·rename_i sz es k' i
  simp only [Bool.and_eq_true, decide_eq_true_eq] at hc
  obtain ⟨hs, h0, h1⟩ := hc
  obtain ⟨rfl, _⟩ := int_inv hi
  obtain ⟨ad, c, rfl, hr⟩ := imm_idx hx h0 h1
  exact ⟨_, fun w _ => by rw [idx_run hT hd hk _ _ _ _ _ h0 h1], by rw [hs]; exact hr⟩
 ·rename_i sz n f k' i
  simp only [Bool.and_eq_true, decide_eq_true_eq] at hc
  obtain ⟨hs, h0, h1⟩ := hc
  obtain ⟨rfl, _⟩ := int_inv hi
  cases hx with | fn _ _ _ _ hx => ?_
  obtain ⟨ad, c, rfl, hr⟩ := imm_idx hx h0 (by simpa [fnEs] using h1)
  have hlt : i.toNat < n := by omega
  refine ⟨_, fun w _ => by rw [idx_run hT hd hk _ _ _ _ _ h0 (by simpa [fnEs] using h1)], ?_⟩
  rw [hs]
  have : (fnEs n f).getD i.toNat [] = f i.toNat := by simp [fnEs, List.getD_eq_getElem?_getD, hlt]
  rw [this] at hr
  exact hr
 ·rename_i id n k' i
  split at hc
  ·rename_i b hb
   simp only [Bool.and_eq_true, decide_eq_true_eq] at hc
   obtain ⟨hs, h0, h1⟩ := hc
   obtain ⟨rfl, _⟩ := int_inv hi
   cases hx with
   | own _ _ g cap sz et h2 h3 _ =>
    have hb' : st.h[id]? = some (some b) := by
     unfold getB at hb
     split at hb
     ·rename_i b' hb'; rw [hb']; simpa using hb
     ·cases hb
    rcases (h.blk id b hb').atC h2 with ⟨h4, _⟩ | ⟨g', cap', cur, h4, _⟩
    ·rw [h2] at h4; cases h4
    ·rw [h2] at h4
     injection h4 with e1 e2 e3 e4
     refine ⟨_, fun w _ => by rw [idx_run hT hd hk _ _ _ _ _ h0 h1], ?_⟩
     have : (⟨g, 0, none⟩ : Addr).add (i.toNat * (T e).sz) = ⟨g, i.toNat * sz + 0, none⟩ := by rw [Addr.add_lit, hs, e3]; simp
     rw [this]
     exact .ptr id i.toNat 0 g cap sz et h2
   | ownNil _ h2 => omega
  ·cases hc
 ·rename_i id a n k i
  simp only [Bool.and_eq_true, decide_eq_true_eq] at hc
  obtain ⟨hs, h0, h1⟩ := hc
  obtain ⟨rfl, _⟩ := int_inv hi
  cases hx with
  | row _ _ _ g c gs et h2 h3 h4 h5 =>
   refine ⟨_, fun w _ => by rw [idx_run hT hd hk _ _ _ _ _ h0 h1], ?_⟩
   have : (⟨g, 0, none⟩ : Addr).add (i.toNat * (T e).sz) = ⟨g, i.toNat, none⟩ := by rw [Addr.add_lit, hs]; simp
   rw [this]
   exact .rowp id a i.toNat g c gs et h2 h3
  | rowNil => omega
 ·cases hc
theorem fieldAddr_okT {t : TypeId} (hT : TabOk P T) {f : Nat} {x : AVal} {u : Value} (hx : RepV F φ x u) (hc : (fieldAddrA T (T t).d f x).1 = true) : YieldsT P F φ (Instr.fieldAt t u f) (fieldAddrA T (T t).d f x).2 := by
 unfold fieldAddrA at hc ⊢
 split at hc
 ·rename_i fs hd
  obtain ⟨fields, hu, hf⟩ := struct_under hT hd
  split at hc
  ·rename_i off ft hft
   have hfield : ∃ g, fields[f]? = some g ∧ g.offset = off ∧ g.type = ft := by
    rw [← hf, List.getElem?_map, Array.getElem?_toList] at hft
    cases hg : fields[f]? with
    | none => rw [hg] at hft; simp at hft
    | some g => rw [hg] at hft; simp at hft; exact ⟨g, rfl, hft.1, hft.2⟩
   obtain ⟨g, hg, rfl, rfl⟩ := hfield
   split at hc
   ·rename_i e
    simp only [Bool.and_eq_true, Bool.not_eq_true', decide_eq_false_iff_not] at hc
    obtain ⟨hk, hz⟩ := hc
    cases hx with | immp _ ad u h1 h2 => ?_
    refine ⟨.pointer (some (ad.add g.offset)), fun w _ => by simp [Instr.fieldAt, run_underlying hu, hg, Instr.sureAddr, fieldPlace, size_run hT hk, hz], .immp _ _ (fun j => u (g.offset + j)) (fun j x hx => ?_) (fun j x hx => ?_)⟩
    ·rw [List.getElem?_drop] at hx
     have := h1 _ x hx
     have e : (ad.add g.offset).add j = ad.add (g.offset + j) := by
      unfold Addr.add
      by_cases ha : g.offset = 0 <;> by_cases hb : j = 0 <;> simp [ha, hb, Nat.add_assoc]
     rw [e]; exact this
    ·rw [List.getElem?_drop] at hx; exact h2 _ x hx
   ·rename_i id i j
    simp only [Bool.and_eq_true, Bool.not_eq_true', decide_eq_false_iff_not] at hc
    obtain ⟨hk, hz⟩ := hc
    cases hx with | ptr _ _ _ b cap sz et h1 => ?_
    refine ⟨.pointer (some ((⟨b, i * sz + j, none⟩ : Addr).add g.offset)), fun w _ => by simp [Instr.fieldAt, run_underlying hu, hg, Instr.sureAddr, fieldPlace, size_run hT hk, hz], ?_⟩
    rw [Addr.add_lit, Nat.add_assoc]
    exact .ptr id i (j + g.offset) b cap sz et h1
   ·cases hc
  ·cases hc
 ·cases hc
def takeK2 : Op → Bool
 | .move _ | .assign _ | .extract .. | .nilCheck _ | .fieldAddr .. | .indexAddr .. => true
 | .call c => match c.callee with | .builtin .len => true | _ => false
 | _ => false
theorem pvT_ok (hT : TabOk P T) (h : Rel F φ w0 st a w) {o : Oper} (hk : takeK2 o.op = true) (hc : (pv T st.h true (opd st.s) o.op).1 = true) : ∃ u, ∀ w', (execOp a.eval o).run P w' = .ok (.value u) w' := by
 obtain ⟨dst, op, type, pos, after, guard⟩ := o
 simp only at hc hk ⊢
 cases op <;> simp only [takeK2, Bool.false_eq_true] at hk
 case move x => exact ⟨_, fun w => by simp [execOp]; rfl⟩
 case assign x => exact ⟨_, fun w => by simp [execOp]; rfl⟩
 case extract x i =>
  obtain ⟨u, hu, _⟩ := pv_ok hT h (o := ⟨dst, .extract x i, type, pos, after, guard⟩) hc
  exact ⟨u, fun w' => indep rfl (hu w (Below.refl _ _))⟩
 case nilCheck x =>
  simp only [pv, Bool.false_eq_true, Bool.and_eq_true, Bool.not_true, Bool.false_or] at hc
  obtain ⟨h1, h2⟩ := hc
  have hx := ev_rep h h1
  have hp : ∃ ad, a.eval x = .pointer (some ad) := by
   generalize a.eval x = u at hx
   generalize sv (opd st.s x) = y at hx h2
   cases hx <;> simp only [ptrA, Bool.false_eq_true] at h2
   ·exact ⟨_, rfl⟩
   ·exact ⟨_, rfl⟩
   ·rename_i h4; cases h4; exact ⟨_, rfl⟩
   ·exact ⟨_, rfl⟩
  obtain ⟨ad, hp⟩ := hp
  exact ⟨a.eval x, fun w => by simp [execOp, hp]⟩
 case fieldAddr t x f =>
  simp only [pv, Bool.false_eq_true, Bool.and_eq_true, Bool.not_true, Bool.false_or] at hc
  obtain ⟨u, hu, _⟩ := fieldAddr_okT hT (ev_rep h hc.1) hc.2
  exact ⟨u, fun w' => by simp only [execOp]; simp [hu w' trivial]⟩
 case indexAddr t x i =>
  simp only [pv, Bool.false_eq_true, Bool.and_eq_true, Bool.not_true, Bool.false_or] at hc
  split at hc
  ·rename_i e hd
   simp only [Bool.and_eq_true] at hc
   obtain ⟨⟨⟨h1, h2⟩, h3⟩, h4⟩ := hc
   obtain ⟨u, hu, _⟩ := idxA_okT hT h.heap hd h1 (ev_rep h h2) (ev_rep h h3) h4
   exact ⟨u, fun w' => by simp only [execOp]; simp [hu w' trivial]⟩
  ·cases hc
 case call c =>
  obtain ⟨callee, args, argTypes⟩ := c
  cases callee <;> simp only [Bool.false_eq_true] at hk
  rename_i b
  cases b <;> simp only [Bool.false_eq_true] at hk
  simp only [pv, Bool.false_eq_true, Bool.and_eq_true, Bool.not_true, Bool.false_or] at hc
  split at hc
  ·rename_i x t hx ht
   simp only [Bool.and_eq_true] at hc
   obtain ⟨⟨h1, h2⟩, h3⟩ := hc
   have ha : args = #[x] := by apply Array.toList_inj.1; simpa using hx
   have ht' : argTypes = #[t] := by apply Array.toList_inj.1; simpa using ht
   subst ha ht'
   have h56 := fun w => len_ok (w := w) (ty := type) hT (ev_rep h h2) h1 (by simpa using h3)
   exact ⟨.int .i64 (lenA (sv (opd st.s x))).2, fun w => by simp [execOp, resolve, invoke, builtin, (h56 w).1]⟩
  ·cases hc
/-- Such an operation may come first. -/
theorem AWPB_take2 (hT : TabOk P T) (K : List Nat) {l : List Oper} {Q : Exit → St → Prop} {g : Nat} {listed : Array Bool} (i : Nat) (o : Oper) (ho : l[i]? = some o) (hgd : o.guard = none) (ht : takeK2 o.op = true)
  (hs : (Region.noSelect l.toArray && Region.free .any l.toArray listed i && (Region.ready .any l.toArray listed).contains i) = true)
  (h : ∀ c st', runPK T K l.toArray [o] st = (c, st') → c = true ∧ AWPB P w0 l.toArray Q g (listed.setIfInBounds i true) st') : AWPB P w0 l.toArray Q (g + 1) listed st := by
 simp only [Bool.and_eq_true] at hs
 obtain ⟨h1, h2⟩ := h _ _ rfl
 intro F φ a w hrel
 have hstep : (stepP T l.toArray o st).1 = true := by
  simp only [runPK, runP] at h1
  simpa using h1
 have hpv : (pv T st.h true (opd st.s) o.op).1 = true := by
  unfold stepP at hstep
  cases hd : o.dst with
  | none => rw [hd] at hstep; cases hstep
  | some d =>
   rw [hd, hgd] at hstep
   simp only [pcOf, Bool.and_eq_true] at hstep
   exact hstep.1.2
 rcases stepP_ok hT hrel hstep with ⟨c1, u, c2, c3⟩ | ⟨c1, c3⟩
 ·obtain ⟨u', hu'⟩ := pvT_ok hT hrel ht hpv
  have e : u' = u := by
   have h3 := c2 w (Below.refl _ _)
   rw [hu' w] at h3
   injection h3 with h4
   injection h4
  subst e
  refine wpAny_take (by simpa using ho) hs.1.1 hs.1.2 hs.2 (fun c a w q => absurd rfl (q.1 c)) (.inl ⟨c1, hu'⟩) (h2 F φ _ w ?_)
  exact c3.keep K
 ·refine wpAny_take (by simpa using ho) hs.1.1 hs.1.2 hs.2 (fun c a w q => absurd rfl (q.1 c)) (.inr ⟨c1, rfl⟩) (h2 F φ _ w ?_)
  exact c3.keep K
/-- The operations of a region of some code. -/
def regIn (k : Nat) : Code → Option (List Oper)
 | .region id ops _ => if id = k then some ops.toList else none
 | .seq a b => (regIn k a).or (regIn k b)
 | .cond _ a b => (regIn k a).or (regIn k b)
 | .block _ a => regIn k a
 | .loop a => regIn k a
 | _ => none
end
end Go.AX
