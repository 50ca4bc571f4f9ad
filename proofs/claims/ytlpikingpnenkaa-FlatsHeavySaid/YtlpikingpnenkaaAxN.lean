/-
 Programs as plain functions that may have no answer ('Option'): loops, joins, checks; and the rules by which code is shown to compute them. Conditions: none.
-/
import Derived.Test.YtlpikingpnenkaaAxM
set_option linter.unusedSimpArgs false
set_option linter.unusedVariables false
namespace Go.AX
open Go Go.RowKit
section
variable {σ ρ α κ : Type}
/-- A loop, n rounds at most. -/
def loopN (f : σ → Option (σ ⊕ ρ)) : Nat → σ → Option ρ
 | 0, _ => none
 | n + 1, s => match f s with
  | none => none
  | some (.inl s') => loopN f n s'
  | some (.inr r) => some r
open Classical in
/-- A loop. -/
noncomputable def loopM (f : σ → Option (σ ⊕ ρ)) (s : σ) : Option ρ := if h : ∃ n r, loopN f n s = some r then some (Classical.choose (Classical.choose_spec h)) else none
theorem loopN_mono {f : σ → Option (σ ⊕ ρ)} : ∀ {n m : Nat} {s : σ} {r : ρ}, loopN f n s = some r → n ≤ m → loopN f m s = some r
 | 0, _, _, _, h, _ => by simp [loopN] at h
 | n + 1, 0, _, _, _, h => by omega
 | n + 1, m + 1, s, r, h, hm => by
  simp only [loopN] at h ⊢
  split at h
  ·cases h
  ·exact loopN_mono h (by omega)
  ·exact h
theorem loopN_det {f : σ → Option (σ ⊕ ρ)} {n m : Nat} {s : σ} {r r' : ρ} (h : loopN f n s = some r) (h' : loopN f m s = some r') : r = r' := by
 have h1 := loopN_mono h (Nat.le_max_left n m)
 have h2 := loopN_mono h' (Nat.le_max_right n m)
 rw [h1] at h2; exact Option.some.inj h2
theorem loopM_of {f : σ → Option (σ ⊕ ρ)} {n : Nat} {s : σ} {r : ρ} (h : loopN f n s = some r) : loopM f s = some r := by
 unfold loopM
 have he : ∃ n r, loopN f n s = some r := ⟨n, r, h⟩
 rw [dif_pos he]
 exact congrArg some (loopN_det (Classical.choose_spec (Classical.choose_spec he)) h)
theorem of_loopM {f : σ → Option (σ ⊕ ρ)} {s : σ} {r : ρ} (h : loopM f s = some r) : ∃ n, loopN f n s = some r := by
 unfold loopM at h
 split at h
 ·rename_i he
  have := Classical.choose_spec (Classical.choose_spec he)
  rw [Option.some.inj h] at this
  exact ⟨_, this⟩
 ·cases h
theorem loopM_eq (f : σ → Option (σ ⊕ ρ)) (s : σ) : loopM f s = match f s with | none => none | some (.inl s') => loopM f s' | some (.inr r) => some r := by
 cases hf : f s with
 | none =>
  simp only
  cases hl : loopM f s with
  | none => rfl
  | some r =>
   obtain ⟨n, hn⟩ := of_loopM hl
   cases n with
   | zero => simp [loopN] at hn
   | succ n => simp [loopN, hf] at hn
 | some v =>
  cases v with
  | inr r => exact loopM_of (n := 1) (by simp [loopN, hf])
  | inl s' =>
   simp only
   cases hl : loopM f s' with
   | some r =>
    obtain ⟨n, hn⟩ := of_loopM hl
    exact loopM_of (n := n + 1) (by simp [loopN, hf, hn])
   | none =>
    cases hl' : loopM f s with
    | none => rfl
    | some r =>
     obtain ⟨n, hn⟩ := of_loopM hl'
     cases n with
     | zero => simp [loopN] at hn
     | succ n =>
      simp only [loopN, hf] at hn
      rw [loopM_of hn] at hl
      cases hl
theorem loopM_inl {f : σ → Option (σ ⊕ ρ)} {s s' : σ} (h : f s = some (.inl s')) : loopM f s = loopM f s' := by rw [loopM_eq, h]
theorem loopM_inr {f : σ → Option (σ ⊕ ρ)} {s : σ} {r : ρ} (h : f s = some (.inr r)) : loopM f s = some r := by rw [loopM_eq, h]
/-- What is asked. -/
def chk (c : Prop) [Decidable c] (x : Option α) : Option α := if c then x else none
theorem chk_some {c : Prop} [Decidable c] {x : Option α} {r : α} (h : chk c x = some r) : c ∧ x = some r := by
 unfold chk at h; split at h
 ·rename_i hc; exact ⟨hc, h⟩
 ·cases h
theorem chk_pos {c : Prop} [Decidable c] {x : Option α} (h : c) : chk c x = x := if_pos h
theorem ite_t {c : Prop} [Decidable c] {x y : Option α} {r : α} (h : (if c then x else y) = some r) (hc : c) : x = some r := by rwa [if_pos hc] at h
theorem ite_f {c : Prop} [Decidable c] {x y : Option α} {r : α} (h : (if c then x else y) = some r) (hc : ¬ c) : y = some r := by rwa [if_neg hc] at h
theorem bind_s {β : Type} {x : Option α} {f : α → Option β} {r : β} (h : x.bind f = some r) : ∃ a, x = some a ∧ f a = some r := Option.bind_eq_some_iff.1 h
end
section
variable {P : Program} {T : Tab} {w0 : World} {α κ ρ' : Type}
def againQ (S : κ → St) (b : κ ⊕ ρ') (Q : Exit → St → Prop) : Exit → St → Prop
 | .normal, st' => ∃ x' ρ, b = .inl x' ∧ Wk ρ st' (S x')
 | e, st' => Q e st'
theorem again_n {S : κ → St} {b : κ ⊕ ρ'} {Q : Exit → St → Prop} {st' : St} (x' : κ) (ρ : List Nat) (h : some (.inl x') = some b) (hw : Wk ρ st' (S x')) : againQ S b Q .normal st' := ⟨x', ρ, (Option.some.inj h).symm, hw⟩
theorem again_x {S : κ → St} {b : κ ⊕ ρ'} {Q : Exit → St → Prop} {id : Nat} {st' : St} (h : Q (.exit id) st') : againQ S b Q (.exit id) st' := h
theorem again_r {S : κ → St} {b : κ ⊕ ρ'} {Q : Exit → St → Prop} {st' : St} (h : Q .ret st') : againQ S b Q .ret st' := h
theorem AWP_loopM {c : Code} {Q : Exit → St → Prop} {st : St} {o : α} (S : κ → St) (body : κ → Option (κ ⊕ ρ')) (post : ρ' → Option α) (x0 : κ) (ρ : List Nat) (hK : (loopM body x0).bind post = some o) (hw : Wk ρ st (S x0))
  (round : ∀ x b, body x = some b → (∀ y, some (Sum.inr y) = some b → post y = some o) → AWP P w0 c (againQ S b Q) (S x)) : AWP P w0 (.loop c) Q st := by
 obtain ⟨y0, h0, hpost⟩ := bind_s hK
 obtain ⟨n, hn⟩ := of_loopM h0
 refine AWP_loopS (κ := Nat × κ) (fun p => S p.2) (fun p => loopN body p.1 p.2 = some y0) (fun p => p.1) (n, x0) ρ hn hw ?_
 rintro ⟨m, x⟩ hC
 simp only at hC ⊢
 cases m with
 | zero => simp [loopN] at hC
 | succ m =>
  simp only [loopN] at hC
  cases hb : body x with
  | none => rw [hb] at hC; cases hC
  | some b =>
   rw [hb] at hC
   refine (round x b hb fun y hy => ?_).mono fun e st' hq => ?_
   ·have := Option.some.inj hy; subst this
    simp only at hC
    rw [Option.some.inj hC]; exact hpost
   ·cases e with
    | normal =>
     obtain ⟨x', ρ', rfl, hwk⟩ := hq
     exact loop_again (m, x') ρ' hC (Nat.lt_succ_self m) hwk
    | _ => exact hq
/-- Several ends of one kind, told as one. -/
def cutX (id : Nat) (S : κ → St) (C : κ → Option α) (o : α) (Q : Exit → St → Prop) (e : Exit) (st : St) : Prop := (e = .exit id ∧ ∃ x ρ, C x = some o ∧ Wk ρ st (S x)) ∨ (e ≠ .exit id ∧ Q e st)
theorem AWP_cutX {c : Code} {Q : Exit → St → Prop} {st : St} (id : Nat) (S : κ → St) (C : κ → Option α) (o : α) (h : AWP P w0 c (cutX id S C o Q) st) (hq : ∀ x, C x = some o → Q (.exit id) (S x)) : AWP P w0 c Q st :=
 fun F φ a w hr => wp_mono (h F φ a w hr) fun e a' w' ⟨st', F', φ', hc, f, r⟩ => by
  rcases hc with ⟨rfl, x, ρ, h1, h2⟩ | ⟨_, h⟩
  ·exact ⟨S x, F', _, hq x h1, f, r.wk h2⟩
  ·exact ⟨st', F', φ', h, f, r⟩
theorem cutX_here {id : Nat} {S : κ → St} {C : κ → Option α} {o : α} {Q : Exit → St → Prop} {st : St} (x : κ) (ρ : List Nat) (h : C x = some o) (hw : Wk ρ st (S x)) : cutX id S C o Q (.exit id) st := .inl ⟨rfl, x, ρ, h, hw⟩
theorem cutX_r {id : Nat} {S : κ → St} {C : κ → Option α} {o : α} {Q : Exit → St → Prop} {st : St} (h : Q .ret st) : cutX id S C o Q .ret st := .inr ⟨by simp, h⟩
/-- A test, told as a proposition. -/
theorem AWP_condP (Pr : Prop) [Decidable Pr] {c : Operand} {x y : Code} {Q : Exit → St → Prop} {st : St} {b : Bool} (hc : opd st.s c = .bool b) (hb : b = decide Pr) (ht : Pr → AWP P w0 x Q st) (hf : ¬ Pr → AWP P w0 y Q st) : AWP P w0 (.cond c x y) Q st :=
 AWP_cond hc (fun h => ht (of_decide_eq_true (hb ▸ h))) (fun h => hf (of_decide_eq_false (hb ▸ h)))
theorem exS {Q : Exit → St → Prop} {e : Exit} (st : St) {st' : St} (he : st' = st) (h : Q e st) : Q e st' := he ▸ h
/-- A loop with one way on behind it (and perhaps ends of the whole). -/
theorem AWP_loopX {A : Type} {c : Code} {Q : Exit → St → Prop} {st : St} {o : α} (id : Nat) (S : κ → St) (SX : A → St) (ι : A → ρ') {body : κ → Option (κ ⊕ ρ')} {post : ρ' → Option α} (x0 : κ) (ρ : List Nat) (hK : (loopM body x0).bind post = some o) (hw : Wk ρ st (S x0))
  (round : ∀ x b, body x = some b → (∀ y, some (Sum.inr y) = some b → post y = some o) → AWP P w0 c (againQ S b (cutX id SX (fun v => post (ι v)) o Q)) (S x))
  (hq : ∀ y, post (ι y) = some o → Q (.exit id) (SX y)) : AWP P w0 (.loop c) Q st :=
 AWP_cutX id SX (fun v => post (ι v)) o (AWP_loopM S body post x0 ρ hK hw round) hq
/-- What is known of a value because it is one. -/
def factV : AVal → Prop
 | .own _ n => n ≤ maxLen
 | x => fact1 x
def factS : List (Nat × AVal) → Prop
 | [] => True
 | (_, x) :: r => factV x ∧ factS r
theorem factV_rep {F : Fz} {φ : Phi} {x : AVal} {v : Value} (h : RepV F φ x v) : factV x := by
 cases x
 case own id n =>
  cases h with
  | own _ _ g cap sz et h1 h2 h3 => exact Nat.le_trans h2 h3
  | ownNil _ h1 => exact Nat.zero_le _
 all_goals exact fact1_rep h
theorem factS_of {s : List (Nat × AVal)} (h : ∀ i, factV (look s i)) (hnd : (s.map (·.1)).Nodup) : factS s := by
 induction s with
 | nil => trivial
 | cons p r ih =>
  obtain ⟨k, x⟩ := p
  simp only [List.map_cons, List.nodup_cons] at hnd
  refine ⟨by simpa [look] using h k, ih (fun i => ?_) hnd.2⟩
  by_cases hk : k = i
  ·subst hk
   have : look r k = .junk := by
    clear ih h
    induction r with
    | nil => rfl
    | cons q r ih2 =>
     obtain ⟨k', x'⟩ := q
     simp only [List.map_cons, List.mem_cons, not_or] at hnd
     simp only [look]
     rw [if_neg (by exact fun e => hnd.1.1 e.symm)]
     exact ih2 ⟨hnd.1.2, by have := hnd.2; simp only [List.nodup_cons] at this; exact this.2⟩
   rw [this]; trivial
  ·have := h i
   simpa [look, hk] using this
theorem AWP_facts {c : Code} {Q : Exit → St → Prop} {st : St} (hnd : (st.s.map (·.1)).Nodup) (h : factS st.s → AWP P w0 c Q st) : AWP P w0 c Q st :=
 fun F φ a w hr => h (factS_of (fun i => factV_rep (hr.slots i)) hnd) F φ a w hr
/-- An end with new blocks. -/
theorem EndsRW {l : List ResultVar} {r : AVal} {H : List Blk} {e : Exit} {st : St} (ρ : List Nat) (he : e = .ret ∨ e = .normal) (hb : st.h.length ≤ bigId) (hnd : ρ.Nodup) (hl : ρ.length = H.length)
  (h : ∀ c x, resA T st l = (c, x) → c = true ∧ x = ren ρ r) (hh : WkH ρ st.h 0 (H.map some)) : Ends T l r H e st := by
 obtain ⟨h1, h2⟩ := h _ _ rfl
 exact ⟨he, h1, ρ, h2, ⟨rfl, hb, hnd, by simpa using hl, trivial, hh⟩⟩
theorem ren_atoms (ρ : List Nat) : ∀ {l : List AVal}, l.all atomB = true → l.map (ren0 ρ) = l
 | [], _ => rfl
 | x :: r, h => by
  simp only [List.all_cons, Bool.and_eq_true] at h
  rw [List.map_cons, ren_atoms ρ h.2]
  congr 1
  cases x <;> first | rfl | (simp [atomB] at h)
theorem ArgsOk.refl {H : List (Option Blk)} : ∀ {l : List AVal}, l.all atomB = true → ArgsOk H l l
 | [], _ => .nil
 | x :: r, h => by
  simp only [List.all_cons, Bool.and_eq_true] at h
  exact .cons (.atom x h.1) (ArgsOk.refl h.2)
theorem ArgOk.funcOf {H : List (Option Blk)} {f : Nat} {l m : List AVal} (h : ArgsOk H l m) : ArgOk H (.func f l) (.func f m) := .func f l m h.get.1 h.get.2
/-- A call under a guard: what is said of the callee is said where the guard holds. -/
theorem AWPL_callGP (K : List Nat) (Pr : Prop) [Decidable Pr] {st : St} {all : Array Oper} {Q : Exit → St → Prop} {rest : List Oper} {o : Oper} {fo : Operand} {args : Array Operand} {tys : Array TypeId} {d f : Nat} {caps ys : List AVal} {r : AVal}
  (hP : Pr → Pure P f ys r []) (hop : o.op = .call ⟨.value fo, args, tys⟩) (hdst : o.dst = some d) (hpc : pcOf all st.s o.guard = (true, decide Pr)) (hf : opd st.s fo = .func f caps) (hcall : ∀ args w, (callFunc f args).run P w = .ok (.enter f args) w)
  (hargs : ArgsOk st.h ((args.toList.map fun x => sv (opd st.s x)) ++ caps) ys) (hsc : Pr → (args.toList.all fun x => sc true (opd st.s x)) = true) (hd : d < st.n) (hr : nI r = true) (hsh : sh st.h.length r = r)
  (h : ∀ st', (⟨st.n, keepL K (putL st.s d (.opt (decide Pr) r)), st.h⟩ : St) = st' → AWPL P w0 all Q rest st') : AWPL P w0 all Q (o :: rest) st := by
 by_cases hg : Pr
 ·rw [decide_eq_true hg] at hpc h
  exact AWPL_callG K true (hP hg) hop hdst hpc hf hcall hargs (fun _ => hsc hg) hd hr hsh h
 ·rw [decide_eq_false hg] at hpc h
  refine AWPL_skip hdst hpc hd fun F φ a w hrel => ?_
  refine h _ rfl F φ a w (Rel.keep (Rel.reslot hrel (s' := putL st.s d (.opt false r)) fun i v hv => ?_) K)
  simp only [look_putL] at hv ⊢
  split
  ·rename_i e; rw [if_pos e] at hv
   cases hv with | opt _ _ _ h1 h2 => exact .opt _ _ _ (fun h => nomatch h) h2
  ·rename_i e; rw [if_neg e] at hv; exact hv
/-- An operation that is not wanted: its slot holds nothing; of which form is ours to say. -/
theorem AWPL_skipV (K : List Nat) (x : AVal) {st : St} {all : Array Oper} {Q : Exit → St → Prop} {rest : List Oper} {o : Oper} {d : Nat} (hdst : o.dst = some d) (hpc : pcOf all st.s o.guard = (true, false)) (hd : d < st.n)
  (h : ∀ st', (⟨st.n, keepL K (putL st.s d (.opt false x)), st.h⟩ : St) = st' → AWPL P w0 all Q rest st') : AWPL P w0 all Q (o :: rest) st := by
 intro F φ a w hrel
 have hwant : Region.wanted o (yielded all a.tmps) = false := by rw [pc_wanted hrel (by rw [hpc]), hpc]
 refine wpList_step fun K' hK => ?_
 rw [if_neg (by simp [hwant]), hdst]
 exact hK _ _ (h _ rfl F φ _ w (Rel.keep (hrel.put hd (.opt false x undef (fun h => nomatch h) fun _ => rfl)) K))
/-- An operation on memory under a guard that holds. -/
theorem AWPL_effT (hT : TabOk P T) (K : List Nat) {st : St} {all : Array Oper} {Q : Exit → St → Prop} {rest : List Oper} {o : Oper} (hpc : pcOf all st.s o.guard = (true, true))
  (h : ∀ c st', (match stepE T st o.dst o.op with | (c, ⟨n, s, h⟩) => (c, (⟨n, keepL K s, h⟩ : St))) = (c, st') → c = true ∧ AWPL P w0 all Q rest st') : AWPL P w0 all Q (o :: rest) st := by
 obtain ⟨h1, h2⟩ := h _ _ rfl
 intro F φ a w hrel
 have hwant : Region.wanted o (yielded all a.tmps) = true := by rw [pc_wanted hrel (by rw [hpc]), hpc]
 refine wpList_step fun K' hK => ?_
 rw [if_pos hwant]
 exact stepE_ok hT hrel h1 fun a' w' φ' hr' => hK _ _ (h2 F φ' a' w' (hr'.keep K))
/-- A nil list in a variable's cell is a new list of the call's own, empty. -/
theorem Rel.nilOwnH {F : Fz} {φ : Phi} {st : St} {a : Act} {w : World} (h : Rel F φ w0 st a w) {id j : Nat} {et : TypeId} {sz : Nat} {e : List AVal} {b : Blk} (hid : st.h[id]? = some (some (.gen et sz [e]))) (hj : e[j]? = some .nil) (hb : b.es = []) (hp : b.np = true) :
  Rel F (upd φ st.h.length .nils) w0 ⟨st.n, st.s, (st.h ++ [some b]).set id (some (.gen et sz [e.set j (.own st.h.length 0)]))⟩ a w := by
 obtain ⟨h1, h2⟩ := h.heap.adoptL b .nils (.inl ⟨by simp [upd], hb⟩) (fun _ _ _ _ _ h => h) hp
 have hlt := Blk.ext_lt hid
 have hid' : (st.h ++ [some b])[id]? = some (some (.gen et sz [e])) := by rw [List.getElem?_append_left hlt]; exact hid
 refine ⟨?_, h.size, fun i => (h.slots i).le (FLe.refl F) h2, h.defers, h.below⟩
 rcases (h1.blk id _ hid').nxC rfl with ⟨q1, q2⟩ | ⟨g, cap, cur, q1, q2, q3, q4, q5, q6, q7, q8⟩
 ·simp [Blk.es] at q2
 ·refine h1.turn (hp := rfl) (b' := .gen et sz [e.set j (.own st.h.length 0)]) hid' q1 rfl rfl q4 (fun k _ => rfl) (by simpa [Blk.es] using q5) q7 fun i e' he' => ?_
  match i, he' with
  | 0, he' =>
   simp [Blk.es] at he'; subst he'
   obtain ⟨r1, r2⟩ := q8 0 e rfl
   refine ⟨by simpa using r1, fun k x hx => ?_⟩
   rw [List.getElem?_set] at hx
   split at hx
   ·rename_i hjk; subst hjk
    split at hx
    ·cases hx
     obtain ⟨u, u1, u2, u3⟩ := r2 j .nil hj
     cases u2
     exact ⟨_, u1, .ownNil _ (by simp [upd]), u3⟩
    ·cases hx
   ·exact r2 k x hx
theorem AWP_ownH (id j : Nat) (b : Blk) {et : TypeId} {sz : Nat} {e : List AVal} {c : Code} {Q : Exit → St → Prop} {st : St} (hb : b.es = []) (hid : st.h[id]? = some (some (.gen et sz [e]))) (hj : e[j]? = some .nil)
  (h : ∀ st', (⟨st.n, st.s, (st.h ++ [some b]).set id (some (.gen et sz [e.set j (.own st.h.length 0)]))⟩ : St) = st' → AWP P w0 c Q st') (hp : b.np = true := by rfl) : AWP P w0 c Q st :=
 fun F φ a w hr => h _ rfl F _ a w (hr.nilOwnH hid hj hb hp)
theorem ArgsOk.app {H : List (Option Blk)} : ∀ {l m l' m' : List AVal}, ArgsOk H l m → ArgsOk H l' m' → ArgsOk H (l ++ l') (m ++ m')
 | _, _, _, _, .nil, h => h
 | _, _, _, _, .cons a t, h => .cons a (ArgsOk.app t h)
end
theorem map_map_fn {α β γ : Type} (g : β → γ) (f : α → β) (l : List α) : List.map g (List.map f l) = List.map (fun x => g (f x)) l := by simp
theorem take_map_len {α β : Type} (f : α → β) (l : List α) : List.take l.length (List.map f l) = List.map f l := List.take_of_length_le (by simp)
attribute [go_sem] Prod.mk.injEq Nat.zero_le maxLen map_map_fn List.map_append List.length_map take_map_len
/-! ### small goals, closed by themselves -/
theorem vc {c : Bool} (h : c = true := by first | rfl | (simp only [Bool.and_eq_true, Bool.or_eq_true, Bool.not_eq_true', decide_eq_true_eq, decide_eq_false_iff_not, List.length_append, List.length_cons, List.length_nil, true_and, and_true, List.length_map]; first | done | omega | assumption) | (simp only [inb_i64, inb_u64, inb_u8, inb_u32, inb_i32, List.length_set, List.length_replicate, Int.reducePow, Nat.reducePow] at *; first | done | omega | (simp at *; omega)) | (simp; first | done | omega) | grind) : c = true := h
theorem bd {b : Bool} {Pr : Prop} [Decidable Pr] (h : b = decide Pr := by first | rfl | (simp; done) | (rw [Bool.eq_iff_iff]; simp; done) | (rw [Bool.eq_iff_iff]; simp; omega) | grind) : b = decide Pr := h
theorem mkWk {ρ : List Nat} {n : Nat} {s s' : List (Nat × AVal)} {h h' : List (Option Blk)} (hb : h.length ≤ bigId := by exact of_decide_eq_true rfl) (hnd : ρ.Nodup := by simp) (hl : ρ.length = h'.length := by rfl)
  (hs : WkS ρ s s' := by (simp only [WkS, go_sem, reduceIte, reduceCtorEq, Nat.reduceEqDiff, Nat.reduceLT, Nat.reduceLeDiff, Nat.reduceBEq, Nat.reduceAdd, Nat.reduceMul, Nat.reduceSub, Nat.reducePow, Int.reduceLE, Int.reduceLT, Int.reduceNeg, Int.reduceToNat, Int.reduceAdd, Int.reduceSub, and_true, true_and, or_false, true_or, or_true, AVal.int.injEq, AVal.bool.injEq, AVal.tup.injEq, AVal.agg.injEq, AVal.str.injEq, AVal.own.injEq, AVal.ints.injEq, List.cons.injEq, Option.some.injEq, Blk.ints.injEq, Blk.gen.injEq]; first | done | ((repeat' apply And.intro) <;> first | rfl | trivial | omega | (simp; done) | grind)))
  (hh : WkH ρ h 0 h' := by (simp only [WkH, go_sem, reduceIte, reduceCtorEq, Nat.reduceEqDiff, Nat.reduceLT, Nat.reduceLeDiff, Nat.reduceBEq, Nat.reduceAdd, Nat.reduceMul, Nat.reduceSub, Nat.reducePow, Int.reduceLE, Int.reduceLT, Int.reduceNeg, Int.reduceToNat, Int.reduceAdd, Int.reduceSub, and_true, true_and, or_false, true_or, or_true, AVal.int.injEq, AVal.bool.injEq, AVal.tup.injEq, AVal.agg.injEq, AVal.str.injEq, AVal.own.injEq, AVal.ints.injEq, List.cons.injEq, Option.some.injEq, Blk.ints.injEq, Blk.gen.injEq]; first | done | ((repeat' apply And.intro) <;> first | rfl | trivial | omega | (simp; done) | grind))) : Wk ρ ⟨n, s, h⟩ ⟨n, s', h'⟩ := ⟨rfl, hb, hnd, hl, hs, hh⟩
theorem hscG {g : Prop} {l : Bool} (hg : g) (h : l = true := by first | rfl | (simp only [go_sem, reduceIte, reduceCtorEq, Nat.reduceEqDiff, Nat.reduceLT, Nat.reduceLeDiff, Nat.reduceBEq, Nat.reduceAdd, Nat.reduceMul, Nat.reduceSub, Nat.reducePow, Int.reduceLE, Int.reduceLT, Int.reduceNeg, Int.reduceToNat, Int.reduceAdd, Int.reduceSub]; done) | (simp only [go_sem, reduceIte, reduceCtorEq, Nat.reduceEqDiff, Nat.reduceLT, Nat.reduceLeDiff, Nat.reduceBEq, Nat.reduceAdd, Nat.reduceMul, Nat.reduceSub, Nat.reducePow, Int.reduceLE, Int.reduceLT, Int.reduceNeg, Int.reduceToNat, Int.reduceAdd, Int.reduceSub]; simp; first | done | omega | assumption) | (simp only [go_sem, reduceIte, reduceCtorEq, Nat.reduceEqDiff, Nat.reduceLT, Nat.reduceLeDiff, Nat.reduceBEq, Nat.reduceAdd, Nat.reduceMul, Nat.reduceSub, Nat.reducePow, Int.reduceLE, Int.reduceLT, Int.reduceNeg, Int.reduceToNat, Int.reduceAdd, Int.reduceSub]; simp_all; done) | (simp only [go_sem, reduceIte, reduceCtorEq, Nat.reduceEqDiff, Nat.reduceLT, Nat.reduceLeDiff, Nat.reduceBEq, Nat.reduceAdd, Nat.reduceMul, Nat.reduceSub, Nat.reducePow, Int.reduceLE, Int.reduceLT, Int.reduceNeg, Int.reduceToNat, Int.reduceAdd, Int.reduceSub]; grind)) : l = true := h
theorem pcG {all : Array Oper} {s : List (Nat × AVal)} {g : Option (Nat × Bool)} {Pr : Prop} [Decidable Pr] (h : pcOf all s g = (true, decide Pr) := by (simp only [go_sem, reduceIte, reduceCtorEq, Nat.reduceEqDiff, Nat.reduceLT, Nat.reduceLeDiff, Nat.reduceBEq, Nat.reduceAdd, Nat.reduceMul, Nat.reduceSub, Nat.reducePow, Int.reduceLE, Int.reduceLT, Int.reduceNeg, Int.reduceToNat, Int.reduceAdd, Int.reduceSub]; first | done | rfl | (simp; done) | grind)) : pcOf all s g = (true, decide Pr) := h
theorem pcT {all : Array Oper} {s : List (Nat × AVal)} {g : Option (Nat × Bool)} (h : pcOf all s g = (true, true) := by first | rfl | (simp only [go_sem, reduceIte, reduceCtorEq, Nat.reduceEqDiff, Nat.reduceLT, Nat.reduceLeDiff, Nat.reduceBEq, Nat.reduceAdd, Nat.reduceMul, Nat.reduceSub, Nat.reducePow, Int.reduceLE, Int.reduceLT, Int.reduceNeg, Int.reduceToNat, Int.reduceAdd, Int.reduceSub]; done)) : pcOf all s g = (true, true) := h
theorem pcF {all : Array Oper} {s : List (Nat × AVal)} {g : Option (Nat × Bool)} (h : pcOf all s g = (true, false) := by first | rfl | (simp only [go_sem, reduceIte, reduceCtorEq, Nat.reduceEqDiff, Nat.reduceLT, Nat.reduceLeDiff, Nat.reduceBEq, Nat.reduceAdd, Nat.reduceMul, Nat.reduceSub, Nat.reducePow, Int.reduceLE, Int.reduceLT, Int.reduceNeg, Int.reduceToNat, Int.reduceAdd, Int.reduceSub]; done)) : pcOf all s g = (true, false) := h
theorem endR {x y : AVal} (h : x = y := by first | rfl | (simp only [go_sem, reduceIte, reduceCtorEq, Nat.reduceEqDiff, Nat.reduceLT, Nat.reduceLeDiff, Nat.reduceBEq, Nat.reduceAdd, Nat.reduceMul, Nat.reduceSub, Nat.reducePow, Int.reduceLE, Int.reduceLT, Int.reduceNeg, Int.reduceToNat, Int.reduceAdd, Int.reduceSub, and_true, true_and, or_false, true_or, or_true, AVal.int.injEq, AVal.bool.injEq, AVal.tup.injEq, AVal.agg.injEq, AVal.str.injEq, AVal.own.injEq, AVal.ints.injEq, List.cons.injEq, Option.some.injEq, Blk.ints.injEq, Blk.gen.injEq]; done) | (simp only [go_sem, reduceIte, reduceCtorEq, Nat.reduceEqDiff, Nat.reduceLT, Nat.reduceLeDiff, Nat.reduceBEq, Nat.reduceAdd, Nat.reduceMul, Nat.reduceSub, Nat.reducePow, Int.reduceLE, Int.reduceLT, Int.reduceNeg, Int.reduceToNat, Int.reduceAdd, Int.reduceSub, and_true, true_and, or_false, true_or, or_true, AVal.int.injEq, AVal.bool.injEq, AVal.tup.injEq, AVal.agg.injEq, AVal.str.injEq, AVal.own.injEq, AVal.ints.injEq, List.cons.injEq, Option.some.injEq, Blk.ints.injEq, Blk.gen.injEq]; simp; done) | (simp [ren, ren1, ren0, renI, List.length_set]; done) | grind) : x = y := h
theorem endH {ρ : List Nat} {h h' : List (Option Blk)} (hh : WkH ρ h 0 h' := by (simp only [WkH, go_sem, reduceIte, reduceCtorEq, Nat.reduceEqDiff, Nat.reduceLT, Nat.reduceLeDiff, Nat.reduceBEq, Nat.reduceAdd, Nat.reduceMul, Nat.reduceSub, Nat.reducePow, Int.reduceLE, Int.reduceLT, Int.reduceNeg, Int.reduceToNat, Int.reduceAdd, Int.reduceSub, and_true, true_and, or_false, true_or, or_true, AVal.int.injEq, AVal.bool.injEq, AVal.tup.injEq, AVal.agg.injEq, AVal.str.injEq, AVal.own.injEq, AVal.ints.injEq, List.cons.injEq, Option.some.injEq, Blk.ints.injEq, Blk.gen.injEq]; first | done | rfl | (simp; done) | trivial)) : WkH ρ h 0 h' := hh
attribute [go_sem] reduceIte reduceCtorEq Nat.reduceEqDiff Nat.reduceLT Nat.reduceLeDiff Nat.reduceBEq Nat.reduceAdd Nat.reduceMul Nat.reduceSub Nat.reducePow Int.reduceLE Int.reduceLT Int.reduceNeg Int.reduceToNat Int.reduceAdd Int.reduceSub
end Go.AX
