/-
 A drawn region gone through by its open choices: at each point every operation that may come next. A drawn region gone through by its open choices, what touches no memory first; all orders meet in one state.  Conditions: none.
-/
import Derived.Test.YtlpikingpnenkaaAxR
set_option linter.unusedSimpArgs false
set_option linter.unusedVariables false
namespace Go.AX
open Go Go.RowKit
section
variable {P : Program} {T : Tab} {w0 : World}
theorem wpAny_le {all : Array Oper} {Q Q' : Exit → Act → World → Prop} (hq : ∀ e a w, Q e a w → Q' e a w) : ∀ (g : Nat) (listed : Array Bool) (a : Act) (w : World), wpAny P .any all Q g listed a w → wpAny P .any all Q' g listed a w
 | 0, listed, a, w, h => ⟨h.1, hq _ _ _ h.2⟩
 | g + 1, listed, a, w, h => ⟨fun e => hq _ _ _ (h.1 e), fun i hi => by
   have h2 := h.2 i hi
   have ih := wpAny_le (all := all) hq g (listed.setIfInBounds i true)
   unfold wpOp at *
   cases ho : all[i]? with
   | none => rw [ho] at h2; exact ih _ _ h2
   | some o =>
    rw [ho] at h2
    simp only at h2 ⊢
    split
    ·rename_i hwd
     rw [if_pos hwd] at h2
     have lets : LetsOut Q → LetsOut Q' := fun ⟨a, w, k⟩ => ⟨a, w, hq _ _ _ k⟩
     rcases h2 with h2 | ⟨h2, h3⟩
     ·refine .inl ?_
      unfold Oper.wp at *
      generalize (execOp a.eval o).run P w = r at *
      cases r with
      | ok n w' =>
       cases n <;> simp only [Oper.upon] at h2 ⊢ <;>
        first
         | exact ih _ _ h2
         | exact Calls.mono h2 (fun e w'' he => by cases e <;> first | exact ih _ _ he | exact lets he | exact hq _ _ _ he)
         | exact Rows.mono h2 (fun _ _ he => ih _ _ he)
      | halt x w' => cases x <;> simp only [Oper.upon] at h2 ⊢ <;> first | exact hq _ _ _ h2 | exact h2
     ·exact .inr ⟨h2, lets h3⟩
    ·rename_i hwd
     rw [if_neg hwd] at h2
     exact ih _ _ h2⟩
end
end Go.AX
set_option linter.unusedSimpArgs false
set_option linter.unusedVariables false
namespace Go.AX
open Go Go.RowKit
section
variable {P : Program} {T : Tab} {w0 : World}
def NoP (Q : Exit → Act → World → Prop) (e : Exit) (a : Act) (w : World) : Prop := (∀ c, e ≠ .panic c) ∧ Q e a w
def AWPB (P : Program) (w0 : World) (all : Array Oper) (Q : Exit → St → Prop) (g : Nat) (listed : Array Bool) (st : St) : Prop := ∀ F φ a w, Rel F φ w0 st a w → wpAny P .any all (NoP (Lift w0 F Q)) g listed a w
def QB (P : Program) (w0 : World) (all : Array Oper) (Q : Exit → St → Prop) (g : Nat) (listed : Array Bool) : Exit → St → Prop
 | .normal, st => AWPB P w0 all Q g listed st
 | .panic _, _ => False
 | e, st => Q e st
theorem liftB_exit {all : Array Oper} {Q : Exit → St → Prop} {g : Nat} {listed : Array Bool} {F : Fz} {e : Exit} {a : Act} {w : World} (he : e ≠ .normal) (h : Lift w0 F (QB P w0 all Q g listed) e a w) : NoP (Lift w0 F Q) e a w := by
 obtain ⟨st, F', φ', h1, h2, h3⟩ := h
 cases e <;> first | exact absurd rfl he | exact h1.elim | exact ⟨fun c q => (nomatch q), st, F', φ', h1, h2, h3⟩
theorem letsB_exit {all : Array Oper} {Q : Exit → St → Prop} {g : Nat} {listed : Array Bool} {F : Fz} (h : LetsOut (Lift w0 F (QB P w0 all Q g listed))) : LetsOut (NoP (Lift w0 F Q)) := let ⟨a, w, k⟩ := h; ⟨a, w, liftB_exit (by simp) k⟩
theorem wpB_exit {all : Array Oper} {Q : Exit → St → Prop} {g : Nat} {listed : Array Bool} {F : Fz} {o : Oper} {a : Act} {w : World} {K K' : Act → World → Prop} (hK : ∀ a w, K a w → K' a w)
  (h : o.wp P a w K (Lift w0 F (QB P w0 all Q g listed))) : o.wp P a w K' (NoP (Lift w0 F Q)) := by
 unfold Oper.wp at *
 generalize (execOp a.eval o).run P w = r at *
 cases r with
 | ok n w' =>
  cases n <;> simp only [Oper.upon] at h ⊢ <;>
   first
    | exact hK _ _ h
    | exact Calls.mono h (fun e w'' he => by cases e <;> first | exact hK _ _ he | exact letsB_exit he | exact liftB_exit (by simp) he)
    | exact Rows.mono h (fun _ _ he => hK _ _ he)
 | halt x w' => cases x <;> simp only [Oper.upon] at h ⊢ <;> first | exact liftB_exit (by simp) h | exact h
theorem AWPB_step {all : Array Oper} {Q : Exit → St → Prop} {g : Nat} {listed : Array Bool} {st : St} (R : List Nat) (hR : (Region.ready .any all listed == R) = true) (hne : R ≠ [])
  (h : ∀ i ∈ R, ∃ o, all[i]? = some o ∧ AWPL P w0 all (QB P w0 all Q g (listed.setIfInBounds i true)) [o] st) : AWPB P w0 all Q (g + 1) listed st := by
 have hR' : Region.ready .any all listed = R := eq_of_beq hR
 intro F φ a w hrel
 refine ⟨fun e => absurd (hR'.symm.trans e) hne, fun i hi => ?_⟩
 rw [hR'] at hi
 obtain ⟨o, ho, hw⟩ := h i hi
 have h2 := hw F φ a w hrel
 have next : ∀ a w, Lift w0 F (QB P w0 all Q g (listed.setIfInBounds i true)) .normal a w → wpAny P .any all (NoP (Lift w0 F Q)) g (listed.setIfInBounds i true) a w := by
  rintro a w ⟨st', F', φ', h3, h4, h5⟩
  have h6 := h3 F' φ' a w h5
  exact wpAny_le (fun e a w q => ⟨q.1, Lift.le h4 q.2⟩) _ _ _ _ h6
 unfold wpOp
 rw [ho]
 simp only [wpList] at h2 ⊢
 split
 ·rename_i hwd
  rw [if_pos hwd] at h2
  rcases h2 with h2 | ⟨h2, h3⟩
  ·exact .inl (wpB_exit next h2)
  ·exact .inr ⟨h2, letsB_exit h3⟩
 ·rename_i hwd
  rw [if_neg hwd] at h2
  exact next _ _ h2
theorem AWPB_one {l : List Oper} {Q : Exit → St → Prop} {g : Nat} {listed : Array Bool} {st : St} (i : Nat) (o : Oper) (hR : (Region.ready .any l.toArray listed == [i]) = true) (ho : l[i]? = some o)
  (h : AWPL P w0 l.toArray (QB P w0 l.toArray Q g (listed.setIfInBounds i true)) [o] st) : AWPB P w0 l.toArray Q (g + 1) listed st :=
 AWPB_step [i] hR (by simp) fun j hj => ⟨o, by rw [List.mem_singleton.1 hj]; simpa using ho, by rw [List.mem_singleton.1 hj]; exact h⟩
theorem AWPB_two {l : List Oper} {Q : Exit → St → Prop} {g : Nat} {listed : Array Bool} {st : St} (i k : Nat) (o u : Oper) (hR : (Region.ready .any l.toArray listed == [i, k]) = true) (ho : l[i]? = some o) (hu : l[k]? = some u)
  (h : AWPL P w0 l.toArray (QB P w0 l.toArray Q g (listed.setIfInBounds i true)) [o] st) (h' : AWPL P w0 l.toArray (QB P w0 l.toArray Q g (listed.setIfInBounds k true)) [u] st) : AWPB P w0 l.toArray Q (g + 1) listed st :=
 AWPB_step [i, k] hR (by simp) fun j hj => by
  rcases List.mem_cons.1 hj with rfl | hj
  ·exact ⟨o, by simpa using ho, h⟩
  ·rw [List.mem_singleton.1 hj]
   exact ⟨u, by simpa using hu, h'⟩
theorem AWPB_three {l : List Oper} {Q : Exit → St → Prop} {g : Nat} {listed : Array Bool} {st : St} (i k m : Nat) (o u v : Oper) (hR : (Region.ready .any l.toArray listed == [i, k, m]) = true) (ho : l[i]? = some o) (hu : l[k]? = some u) (hv : l[m]? = some v)
  (h : AWPL P w0 l.toArray (QB P w0 l.toArray Q g (listed.setIfInBounds i true)) [o] st) (h' : AWPL P w0 l.toArray (QB P w0 l.toArray Q g (listed.setIfInBounds k true)) [u] st) (h'' : AWPL P w0 l.toArray (QB P w0 l.toArray Q g (listed.setIfInBounds m true)) [v] st) : AWPB P w0 l.toArray Q (g + 1) listed st :=
 AWPB_step [i, k, m] hR (by simp) fun j hj => by
  rcases List.mem_cons.1 hj with rfl | hj
  ·exact ⟨o, by simpa using ho, h⟩
  ·rcases List.mem_cons.1 hj with rfl | hj
   ·exact ⟨u, by simpa using hu, h'⟩
   ·rw [List.mem_singleton.1 hj]
    exact ⟨v, by simpa using hv, h''⟩
theorem AWPB_four {l : List Oper} {Q : Exit → St → Prop} {g : Nat} {listed : Array Bool} {st : St} (i k m n : Nat) (o u v x : Oper) (hR : (Region.ready .any l.toArray listed == [i, k, m, n]) = true) (ho : l[i]? = some o) (hu : l[k]? = some u) (hv : l[m]? = some v) (hx : l[n]? = some x)
  (h : AWPL P w0 l.toArray (QB P w0 l.toArray Q g (listed.setIfInBounds i true)) [o] st) (h' : AWPL P w0 l.toArray (QB P w0 l.toArray Q g (listed.setIfInBounds k true)) [u] st) (h'' : AWPL P w0 l.toArray (QB P w0 l.toArray Q g (listed.setIfInBounds m true)) [v] st) (h3 : AWPL P w0 l.toArray (QB P w0 l.toArray Q g (listed.setIfInBounds n true)) [x] st) : AWPB P w0 l.toArray Q (g + 1) listed st :=
 AWPB_step [i, k, m, n] hR (by simp) fun j hj => by
  rcases List.mem_cons.1 hj with rfl | hj
  ·exact ⟨o, by simpa using ho, h⟩
  ·rcases List.mem_cons.1 hj with rfl | hj
   ·exact ⟨u, by simpa using hu, h'⟩
   ·rcases List.mem_cons.1 hj with rfl | hj
    ·exact ⟨v, by simpa using hv, h''⟩
    ·rw [List.mem_singleton.1 hj]
     exact ⟨x, by simpa using hx, h3⟩
theorem QB_normal {all : Array Oper} {Q : Exit → St → Prop} {g : Nat} {listed : Array Bool} {st : St} (h : AWPB P w0 all Q g listed st) : QB P w0 all Q g listed .normal st := h
/-! ### what touches no memory -/
def takeK : Op → Bool
 | .move _ | .assign _ | .extract .. => true
 | _ => false
theorem indep {ρ : Operand → Value} {o : Oper} (ht : takeK o.op = true) {w w' : World} {u : Value} (h : (execOp ρ o).run P w = .ok (.value u) w) : (execOp ρ o).run P w' = .ok (.value u) w' := by
 obtain ⟨dst, op, type, pos, after, guard⟩ := o
 cases op <;> simp only [takeK, Bool.false_eq_true] at ht
 case move x => simp [execOp] at h ⊢; exact h
 case assign x => simp [execOp] at h ⊢; exact h
 case extract x i =>
  simp only [execOp, Instr.extract] at h ⊢
  generalize ρ x = t at *
  cases t with
  | tuple vs =>
   cases hv : vs[i]? <;> simp [hv, Sem.run_bind, Result.andThen] at h ⊢
   exact h
  | _ => simp [Sem.run_bind, Result.andThen] at h
/-! ### where all meet -/
def JQ (stF : St) (Q : Exit → St → Prop) : Exit → St → Prop
 | .normal, st' => ∃ ρ, Wk ρ st' stF
 | e, st' => Q e st'
theorem AWPB_end {stF : St} {all : Array Oper} {Q : Exit → St → Prop} {listed : Array Bool} {st : St} (ρ : List Nat) (hR : (Region.ready .any all listed == []) = true) (h : Wk ρ st stF) : AWPB P w0 all (JQ stF Q) 0 listed st :=
 fun F φ a w hrel => ⟨eq_of_beq hR, fun c q => (nomatch q), st, F, φ, ⟨ρ, h⟩, FLn.refl F, hrel⟩
theorem AWP_drawJ (stF : St) {id : Nat} {l : List Oper} {Q : Exit → St → Prop} {st : St} (hm : P.follows .mixedOrders = true) (h : AWPB P w0 l.toArray (JQ stF Q) l.length (Array.replicate l.length false) st) (hF : Q .normal stF) : AWP P w0 (.region id l.toArray true) Q st := by
 intro F φ a w hr
 have h1 := h F φ a { w with drawn := w.drawn + 1 } hr.drew'
 refine wp_mono (wp_region_any hm (by simpa using h1)) fun e a' w' q => ?_
 obtain ⟨_, st', F', φ', q1, q2, q3⟩ := q
 cases e with
 | normal =>
  obtain ⟨ρ, hw⟩ := q1
  exact ⟨stF, F', _, hF, q2, q3.wk hw⟩
 | _ => exact ⟨st', F', φ', q1, q2, q3⟩
end
end Go.AX
