/-
  Code on abstract states: the rules. Conditions: the table of types is the program's.
-/
import Derived.Test.YtcjhpcbipcdhiaaAxH
set_option linter.unusedSimpArgs false
set_option linter.unusedVariables false
namespace Go.AX
open Go Go.RowKit

section
variable {P : Program} {T : Tab} {w0 : World}

/-- What is asked behind a piece of code, said of the model's state. -/
def Lift (w0 : World) (F : Fz) (Q : Exit → St → Prop) (e : Exit) (a : Act) (w : World) : Prop := ∃ st F' φ', Q e st ∧ FLe F F' ∧ Rel F' φ' w0 st a w
def AWP (P : Program) (w0 : World) (c : Code) (Q : Exit → St → Prop) (st : St) : Prop := ∀ F φ a w, Rel F φ w0 st a w → c.wp P (Lift w0 F Q) a w
def AWPL (P : Program) (w0 : World) (all : Array Oper) (Q : Exit → St → Prop) (l : List Oper) (st : St) : Prop := ∀ F φ a w, Rel F φ w0 st a w → wpList P all (Lift w0 F Q) l a w

theorem Lift.le {F F' : Fz} {Q : Exit → St → Prop} {e : Exit} {a : Act} {w : World} (hF : FLe F F') (h : Lift w0 F' Q e a w) : Lift w0 F Q e a w := by
  obtain ⟨st, F2, φ, q, f, r⟩ := h
  exact ⟨st, F2, φ, q, hF.trans f, r⟩

def thenA (K : St → Prop) (Q : Exit → St → Prop) : Exit → St → Prop
  | .normal, st => K st
  | e, st => Q e st
def inBlockA (id : Nat) (Q : Exit → St → Prop) : Exit → St → Prop
  | .exit id', st => if id' = id then Q .normal st else Q (.exit id') st
  | e, st => Q e st

theorem AWP.mono {c : Code} {Q Q' : Exit → St → Prop} {st : St} (h : AWP P w0 c Q st) (hq : ∀ e st, Q e st → Q' e st) : AWP P w0 c Q' st :=
  fun F φ a w hr => wp_mono (h F φ a w hr) fun _ _ _ ⟨st, F', φ', q, f, r⟩ => ⟨st, F', φ', hq _ _ q, f, r⟩

/-- thenA with the next code, its end named once. -/
def thenC (P : Program) (w0 : World) (y : Code) (Q : Exit → St → Prop) : Exit → St → Prop := thenA (AWP P w0 y Q) Q
theorem thenC_normal {y : Code} {Q : Exit → St → Prop} {st : St} (h : AWP P w0 y Q st) : thenC P w0 y Q .normal st := h
theorem thenC_exit {y : Code} {Q : Exit → St → Prop} {id : Nat} {st : St} (h : Q (.exit id) st) : thenC P w0 y Q (.exit id) st := h
theorem thenC_ret {y : Code} {Q : Exit → St → Prop} {st : St} (h : Q .ret st) : thenC P w0 y Q .ret st := h
theorem inBlockA_normal {id : Nat} {Q : Exit → St → Prop} {st : St} (h : Q .normal st) : inBlockA id Q .normal st := h
theorem inBlockA_ret {id : Nat} {Q : Exit → St → Prop} {st : St} (h : Q .ret st) : inBlockA id Q .ret st := h
theorem AWP_seq {x y : Code} {Q : Exit → St → Prop} {st : St} (h : AWP P w0 x (thenC P w0 y Q) st) : AWP P w0 (.seq x y) Q st := by
  intro F φ a w hr
  refine wp_seq (wp_mono (h F φ a w hr) fun e a' w' hq => ?_)
  obtain ⟨st', F', φ', q, f, r⟩ := hq
  cases e with
  | normal => exact wp_mono (q F' φ' a' w' r) fun _ _ _ hl => Lift.le f hl
  | _ => exact ⟨st', F', φ', q, f, r⟩

theorem AWP_skip {Q : Exit → St → Prop} {st : St} (h : Q .normal st) : AWP P w0 .skip Q st := fun F φ _ _ hr => wp_skip ⟨st, F, φ, h, FLe.refl F, hr⟩
theorem AWP_ret {Q : Exit → St → Prop} {st : St} (h : Q .ret st) : AWP P w0 .ret Q st := fun F φ _ _ hr => wp_ret ⟨st, F, φ, h, FLe.refl F, hr⟩
theorem AWP_exit {id : Nat} {Q : Exit → St → Prop} {st : St} (h : Q (.exit id) st) : AWP P w0 (.exit id) Q st := fun F φ _ _ hr => wp_exit ⟨st, F, φ, h, FLe.refl F, hr⟩
theorem AWP_label {l : Nat} {Q : Exit → St → Prop} {st : St} (h : Q .normal st) : AWP P w0 (.label l) Q st := fun F φ _ _ hr => wp_label ⟨st, F, φ, h, FLe.refl F, hr⟩

theorem AWP_block {id : Nat} {c : Code} {Q : Exit → St → Prop} {st : St} (h : AWP P w0 c (inBlockA id Q) st) : AWP P w0 (.block id c) Q st := by
  intro F φ a w hr
  refine wp_block (wp_mono (h F φ a w hr) fun e a' w' hq => ?_)
  obtain ⟨st', F', φ', q, f, r⟩ := hq
  cases e with
  | exit id' =>
    simp only [inBlockA] at q
    simp only [Exit.inBlock]
    split
    · rename_i hid; rw [if_pos hid] at q; exact ⟨st', F', φ', q, f, r⟩
    · rename_i hid; rw [if_neg hid] at q; exact ⟨st', F', φ', q, f, r⟩
  | _ => exact ⟨st', F', φ', q, f, r⟩

theorem AWP_cond {c : Operand} {x y : Code} {Q : Exit → St → Prop} {st : St} {b : Bool} (hc : opd st.s c = .bool b) (ht : b = true → AWP P w0 x Q st) (hf : b = false → AWP P w0 y Q st) : AWP P w0 (.cond c x y) Q st := by
  intro F φ a w hr
  have := opd_rep hr c
  rw [hc] at this
  exact wp_cond_split (bool_inv this) (fun h => ht h F φ a w hr) (fun h => hf h F φ a w hr)

theorem AWP_loop {c : Code} {Q : Exit → St → Prop} {st : St} (I : Nat → St → Prop) (n : Nat) (h0 : I n st)
    (round : ∀ n st, I n st → AWP P w0 c (thenA (fun st' => ∃ n', n' < n ∧ I n' st') Q) st) : AWP P w0 (.loop c) Q st := by
  intro F φ a w hr
  refine wp_loop_ghost (fun n a w => ∃ st F' φ', I n st ∧ FLe F F' ∧ Rel F' φ' w0 st a w) n ⟨st, F, φ, h0, FLe.refl F, hr⟩ fun n a w ⟨st, F', φ', hI, f, r⟩ => ?_
  refine wp_mono (round n st hI F' φ' a w r) fun e a' w' hq => ?_
  obtain ⟨st', F2, φ2, q, f2, r2⟩ := hq
  cases e with
  | normal =>
    obtain ⟨n', hn, hI'⟩ := q
    exact ⟨n', hn, st', F2, φ2, hI', f.trans f2, r2⟩
  | _ => exact ⟨st', F2, φ2, q, f.trans f2, r2⟩

theorem AWPL_nil {all : Array Oper} {Q : Exit → St → Prop} {st : St} (h : Q .normal st) : AWPL P w0 all Q [] st := fun F φ _ _ hr => wpList_nil ⟨st, F, φ, h, FLe.refl F, hr⟩

theorem AWPL_step (hT : TabOk P T) {all : Array Oper} {Q : Exit → St → Prop} {st : St} {o : Oper} {rest : List Oper} (hc : (stepA T all o st).1 = true) (h : AWPL P w0 all Q rest (stepA T all o st).2) : AWPL P w0 all Q (o :: rest) st := by
  intro F φ a w hr
  unfold stepA at hc h
  by_cases he : isEff o.op = true
  · rw [if_pos he] at hc h
    simp only [Bool.and_eq_true, Option.isNone_iff_eq_none] at hc
    refine wpList_plain hc.1 fun K hK => ?_
    exact stepE_ok hT hr hc.2 fun a' w' φ' hr' => hK _ _ (h F φ' a' w' hr')
  · rw [if_neg he] at hc h
    refine wpList_step fun K hK => ?_
    rcases stepP_ok hT hr hc with ⟨h1, u, h2, h3⟩ | ⟨h1, h3⟩
    · rw [if_pos h1]
      unfold Oper.wp
      rw [h2 w (Below.refl _ _)]
      exact hK _ _ (h F φ _ _ h3)
    · rw [if_neg (by simp [h1])]
      exact hK _ _ (h F φ _ _ h3)

theorem AWPL_runL (hT : TabOk P T) {all : Array Oper} {Q : Exit → St → Prop} {rest : List Oper} : ∀ {l : List Oper} {st : St}, (runL T all l st).1 = true → AWPL P w0 all Q rest (runL T all l st).2 → AWPL P w0 all Q (l ++ rest) st
  | [], _, _, h => h
  | o :: l, st, hc, h => by
    simp only [runL, Bool.and_eq_true] at hc h
    exact AWPL_step hT hc.1 (AWPL_runL hT hc.2 h)

/-- n operations of a list, and what is kept of the slots. -/
theorem AWPL_run (hT : TabOk P T) (n : Nat) (K : List Nat) {all : Array Oper} {Q : Exit → St → Prop} {l : List Oper} {st : St}
    (h : ∀ c st', runL T all (l.take n) st = (c, st') → c = true ∧ AWPL P w0 all Q (l.drop n) { st' with s := keepL K st'.s }) : AWPL P w0 all Q l st := by
  obtain ⟨h1, h2⟩ := h _ _ rfl
  rw [← List.take_append_drop n l]
  exact AWPL_runL hT h1 fun F φ a w hr => h2 F φ a w (hr.keep K)

theorem AWP_region {id : Nat} {all : Array Oper} {Q : Exit → St → Prop} {st : St} (h : AWPL P w0 all Q all.toList st) : AWP P w0 (.region id all false) Q st :=
  fun F φ a w hr => wp_region_list (h F φ a w hr)

theorem still_runP (hT : TabOk P T) {all : Array Oper} {F : Fz} {φ : Phi} {w : World} {L : Act → Prop} : ∀ {l : List Oper} {st : St} {a : Act}, (runP T all l st).1 = true → Rel F φ w0 st a w →
    (∀ a', Rel F φ w0 (runP T all l st).2 a' w → L a') → wpStill P all w L l a
  | [], _, _, _, hr, h => h _ hr
  | o :: l, st, a, hc, hr, h => by
    simp only [runP, Bool.and_eq_true] at hc h
    unfold wpStill
    rcases stepP_ok hT hr hc.1 with ⟨h1, u, h2, h3⟩ | ⟨h1, h3⟩
    · rw [if_pos h1]
      unfold Oper.still
      rw [h2 w (Below.refl _ _)]
      exact ⟨rfl, still_runP hT hc.2 h3 h⟩
    · rw [if_neg (by simp [h1])]
      exact still_runP hT hc.2 h3 h

theorem Rel.drew' {F : Fz} {φ : Phi} {st : St} {a : Act} {w : World} (h : Rel F φ w0 st a w) : Rel F φ w0 st a { w with drawn := w.drawn + 1 } :=
  ⟨⟨h.heap.agree, h.heap.unused, fun id b hb => by
    rcases h.heap.blk id b hb with q | ⟨g, cap, cur, q⟩
    · exact .inl q
    · exact .inr ⟨g, cap, cur, q⟩, h.heap.inj⟩, h.size, h.slots, h.defers, ⟨h.below.os, h.below.tape, h.below.output, h.below.size, h.below.block⟩⟩

/-- A region that draws its order and whose operations touch no memory. -/
theorem AWP_draw (hT : TabOk P T) (K : List Nat) {id : Nat} {all : Array Oper} {Q : Exit → St → Prop} {st : St} (hm : P.follows .mixedOrders = true) (hB : Region.lexB .any all = true)
    (h : ∀ c st', runP T all all.toList st = (c, st') → c = true ∧ Q .normal { st' with s := keepL K st'.s }) : AWP P w0 (.region id all true) Q st := by
  intro F φ a w hr
  obtain ⟨h1, h2⟩ := h _ _ rfl
  refine wp_region_still hm hB ?_
  exact still_runP hT h1 hr.drew' fun a' hr' => ⟨_, F, φ, h2, FLe.refl F, hr'.keep K⟩

/-- The same, the operations from n on in their order, behind all others. -/
theorem AWP_drawTail (hT : TabOk P T) (n : Nat) {id : Nat} {l : List Oper} {Q : Exit → St → Prop} {st : St} (hm : P.follows .mixedOrders = true) (hB : Region.lexTailB .any l.toArray n = true)
    (h : ∀ c st', runP T l.toArray (l.take n) st = (c, st') → c = true ∧ AWPL P w0 l.toArray Q (l.drop n) st') : AWP P w0 (.region id l.toArray true) Q st := by
  intro F φ a w hr
  obtain ⟨h1, h2⟩ := h _ _ rfl
  refine wp_region_still_tail n hm hB ?_
  exact still_runP hT h1 hr.drew' fun a' hr' => h2 F φ a' _ hr'

end
end Go.AX
