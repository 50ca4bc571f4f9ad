/-
 A call that changes blocks of its caller's, when the caller has no others: what the callee froze is the caller's too.
-/
import Derived.Test.YtlpikingpnenkaaAxGc
import Derived.Test.YtlpikingpnenkaaAxOp
set_option linter.unusedSimpArgs false
set_option linter.unusedVariables false
namespace Go.AX
open Go Go.RowKit
section
variable {P : Program} {T : Tab} {w0 : World}
def nF0 : AVal → Bool
 | .ints _ _ => true
 | x => nI0 x
def nFB : Blk → Bool
 | .gen _ _ es => es.all fun e => e.all nF0
 | b => nIB b
def pinG : List Nat → List Loc → List (Option Blk)
 | j :: js, l :: ls => some (.pin j l) :: pinG js ls
 | _, _ => []
theorem nF0_move {F' : Fz} {φ' φ2 : Phi} {σ : List Nat} (hσ : ∀ i, φ' i ≠ .unused → ∃ s, σ[i]? = some s ∧ φ2 s = φ' i) {x : AVal} {u : Value} (hx : nF0 x = true) (h : RepV F' φ' x u) : RepV F' φ2 (ren0 σ x) u := by
 cases x
 case ints k xs =>
  simp only [ren0]
  cases h with
  | ints _ _ _ h1 =>
   refine .ints _ _ _ ?_
   cases h1 with
   | imm _ _ A n c u a1 a2 a3 a4 a5 a6 a7 => exact .imm _ _ A n c u a1 a2 a3 a4 a5 a6 a7
 all_goals exact nI0_move hσ hx h
theorem nFB_leaf {b : Blk} (hb : nFB b = true) {i j : Nat} {e : List AVal} {x : AVal} (he : b.es[i]? = some e) (hx : e[j]? = some x) : nF0 x = true := by
 have up : ∀ x : AVal, nI0 x = true → nF0 x = true := fun x h => by cases x <;> first | exact h | rfl
 cases b
 case gen et sz es =>
  have h1 := List.all_eq_true.1 hb e (List.mem_of_getElem? he)
  exact all_get h1 hx
 all_goals exact up _ (nIB_leaf (by first | exact hb | rfl) he hx)
theorem BlkOk.moveF {F' : Fz} {φ' φ2 : Phi} {σ : List Nat} {base k s : Nat} {w : World} {b : Blk} (h : BlkOk F' φ' base w k b) (hσ : ∀ i, φ' i ≠ .unused → ∃ s, σ[i]? = some s ∧ φ2 s = φ' i) (hs : φ2 s = φ' k) (hb : nFB b = true) : BlkOk F' φ2 base w s (renB σ b) := by
 obtain ⟨r1, r2, r3⟩ := renB_es σ b
 rcases h with ⟨p1, p2⟩ | ⟨g, cap, cur, p1, p2, p3, p4, p5, p6, p7, p8⟩ | hX
 rotate_left 2
 ·refine .inr (.inr ?_)
  have hx : BlkX F' φ2 base w s b := hX.le hs (fun x hx => ⟨(hX.occ hx).1, (hX.occ hx).2.1⟩) fun x _ => rfl
  cases b <;> first | exact hx | exact False.elim hX
 ·exact .inl ⟨by rw [hs]; exact p1, by rw [r1, p2]; rfl⟩
 ·refine .inr (.inl ⟨g, cap, cur, by rw [hs, r2, r3]; exact p1, p2, p3, by rw [r3]; exact p4, by rw [r1]; simpa using p5, p6, by rw [r2]; exact p7, fun i e he => ?_⟩)
  rw [r1, List.getElem?_map] at he
  cases hq : b.es[i]? with
  | none => rw [hq] at he; cases he
  | some e' =>
   rw [hq] at he; simp at he; subst he
   refine ⟨by rw [r2]; simpa using (p8 i e' hq).1, fun j x hx => ?_⟩
   rw [List.getElem?_map] at hx
   cases hq2 : e'[j]? with
   | none => rw [hq2] at hx; cases hx
   | some y =>
    rw [hq2] at hx; simp at hx; subst hx
    obtain ⟨u, u1, u2, u3⟩ := (p8 i e' hq).2 j y hq2
    exact ⟨u, by rw [r2]; exact u1, nF0_move hσ (nFB_leaf hb hq hq2) u2, u3⟩
theorem RelH.addPin {F : Fz} {φ : Phi} {base : Nat} {H : List (Option Blk)} {w : World} (h : RelH F φ base H w) (id : Nat) (hne : φ id ≠ .unused) : ∃ φ2, PLe φ φ2 ∧ RelH F φ2 base (H ++ [some (.pin id (φ id))]) w := by
 have hidl : id < H.length := by
  rcases Nat.lt_or_ge id H.length with c | c
  ·exact c
  ·exact absurd (h.unused _ c) hne
 obtain ⟨φ2, hφ2⟩ : ∃ φ2 : Phi, φ2 = fun i => if i = H.length then .nils else φ i := ⟨_, rfl⟩
 have hPL : PLe φ φ2 := fun i hu => by
  rw [hφ2]
  refine if_neg fun e => hu ?_
  rw [e]; exact h.unused _ (Nat.le_refl _)
 have hold : ∀ i b', (H ++ [some (Blk.pin id (φ id))])[i]? = some (some b') → (i < H.length ∧ H[i]? = some (some b')) ∨ (i = H.length ∧ b' = .pin id (φ id)) := fun i b' hi => by
  rw [List.getElem?_append] at hi
  split at hi
  ·rename_i q; exact .inl ⟨q, hi⟩
  ·rename_i q
   have : i - H.length = 0 := by
    rcases Nat.eq_zero_or_pos (i - H.length) with z | z
    ·exact z
    ·rw [List.getElem?_eq_none (by simp; omega)] at hi; cases hi
   rw [this] at hi
   simp at hi
   exact .inr ⟨by omega, hi.symm⟩
 have hφo : ∀ i, i < H.length → φ2 i = φ i := fun i hi => by rw [hφ2]; exact if_neg (by omega)
 refine ⟨φ2, hPL, ⟨h.agree, fun i hi => ?_, fun i b' hi => ?_, fun i j bi bj g hi hj h1 h2 => ?_, h.good, fun j i l hj => ?_⟩⟩
 ·simp only [List.length_append, List.length_cons, List.length_nil] at hi
  rw [hφ2]
  simp only
  rw [if_neg (by omega)]
  exact h.unused _ (by omega)
 ·rcases hold i b' hi with ⟨q1, q2⟩ | ⟨q1, rfl⟩
  ·exact (h.blk i b' q2).le (FLe.refl F) hPL (fun _ _ hg _ => hg) fun _ _ => rfl
  ·exact .inl ⟨by rw [hφ2]; exact if_pos q1, rfl⟩
 ·rcases hold i bi hi with ⟨q1, q2⟩ | ⟨q1, rfl⟩
  ·rcases hold j bj hj with ⟨r1, r2⟩ | ⟨r1, rfl⟩
   ·rw [hφo i q1] at h1; rw [hφo j r1] at h2
    exact h.sep i j _ _ _ q2 r2 h1 h2
   ·rw [hφ2] at h2; simp only [if_pos r1] at h2; exact False.elim h2
  ·rw [hφ2] at h1; simp only [if_pos q1] at h1; exact False.elim h1
 ·rcases hold j _ hj with ⟨q1, q2⟩ | ⟨q1, q2⟩
  ·obtain ⟨a1, a2⟩ := h.pins j i l q2
   exact ⟨by rw [hPL i (by rw [a1]; exact a2)]; exact a1, a2⟩
  ·injection q2 with e1 e2
   subst e1 e2
   exact ⟨hφo _ hidl, hne⟩
theorem RelH.addPins {F : Fz} {base : Nat} {w : World} : ∀ (js : List Nat) (ls : List Loc) {φ : Phi} {H : List (Option Blk)}, RelH F φ base H w → (∀ (k j : Nat) (l : Loc), js[k]? = some j → ls[k]? = some l → φ j = l ∧ l ≠ .unused) →
  ∃ φ2, PLe φ φ2 ∧ RelH F φ2 base (H ++ pinG js ls) w
 | [], _, φ, H, h, _ => ⟨φ, PLe.refl φ, by simpa [pinG] using h⟩
 | _ :: _, [], φ, H, h, _ => ⟨φ, PLe.refl φ, by simpa [pinG] using h⟩
 | j :: js, l :: ls, φ, H, h, hp => by
  obtain ⟨e1, e2⟩ := hp 0 j l rfl rfl
  obtain ⟨φ1, p1, h1⟩ := h.addPin j (by rw [e1]; exact e2)
  rw [e1] at h1
  obtain ⟨φ2, p2, h2⟩ := RelH.addPins js ls h1 fun k j' l' hj hl => by
   obtain ⟨q1, q2⟩ := hp (k + 1) j' l' (by simpa using hj) (by simpa using hl)
   exact ⟨by rw [p1 j' (by rw [q1]; exact q2)]; exact q1, q2⟩
  exact ⟨φ2, p1.trans p2, by simpa [pinG] using h2⟩
/-- A call that changes blocks of its caller's; all others that the caller has are given up. -/
theorem AWPL_gKF (K' : List Nat) (js : List Nat) (ls : List Loc) (H2 : List (Option Blk)) {st : St} {all : Array Oper} {Q : Exit → St → Prop} {rest : List Oper} {o : Oper} {fo : Operand} {args : Array Operand} {tys : Array TypeId} {d f : Nat} {caps : List AVal} {B B' : List Blk} {K : Nat} {ag : List Loc → List AVal} {r : AVal}
  (hP : InG P f B K ag r B') (hop : o.op = .call ⟨.value fo, args, tys⟩) (hdst : o.dst = some d) (hpc : pcOf all st.s o.guard = (true, true)) (hf : opd st.s fo = .func f caps) (hcall : ∀ args w, (callFunc f args).run P w = .ok (.enter f args) w)
  (hnd : js.Nodup) (hb : AtG st.h js js B) (hpin : PinG st.h js ls) (hls : ls.length = K) (hargs : ArgsG st.h js ((args.toList.map fun x => sv (opd st.s x)) ++ caps) (ag ls)) (hsc : (args.toList.all fun x => sc true (opd st.s x)) = true) (hd : d < st.n) (hr : flatT r = true) (hB' : B'.all nFB = true) (hlen : st.h.length ≤ bigId) (hH2 : plG (st.h.map fun _ => none) js K B' ++ pinG js ls = H2)
  (h : ∀ st', (⟨st.n, keepL K' (putL st.s d r), H2⟩ : St) = st' → AWPL P w0 all Q rest st') : AWPL P w0 all Q (o :: rest) st := by
 intro F φ a w hrel
 have hwant : Region.wanted o (yielded all a.tmps) = true := by rw [pc_wanted hrel (by rw [hpc]), hpc]
 refine wpList_step fun K2 hK => ?_
 rw [if_pos hwant]
 have hfr := opd_rep hrel fo
 rw [hf] at hfr
 obtain ⟨cv, hcv, hcl, hcr⟩ : ∃ cv : Array Value, a.eval fo = .func (.func f) #[] cv ∧ caps.length = cv.size ∧ ∀ (i : Nat) (x : AVal) (v : Value), caps[i]? = some x → cv[i]? = some v → RepV F φ x v := by
  generalize a.eval fo = u at hfr
  cases hfr with | func _ _ vs h1 h2 => exact ⟨vs, rfl, h1, h2⟩
 have hrun : (execOp a.eval o).run P w = .ok (.enter f (args.map a.eval ++ cv)) w := by
  simp only [execOp, hop, resolve, hcv, Deferred.ofValue, Sem.run_bind, Sem.run_pure, Result.andThen_ok, invoke, Array.empty_append, hcall]
 unfold Oper.wp
 rw [hrun]
 obtain ⟨g1, g2⟩ := hargs.get
 obtain ⟨hKB, hKB', hP⟩ := hP
 have hjl := hb.len
 have hkill := hrel.heap.killL js
 have hle : FLe F (addOwn F φ (killL st.h js) w) := fun b o h => by simp [addOwn, h]
 have jsAt : ∀ k, k < B.length → ∃ j, js[k]? = some j := fun k hk => ⟨_, List.getElem?_eq_getElem (by omega)⟩
 have hjlt : ∀ j, j ∈ js → j < st.h.length := fun j hj => by
  obtain ⟨k, hk⟩ := List.getElem?_of_mem hj
  obtain ⟨p, _, hb1⟩ := hb.get k j hk
  exact Blk.ext_lt hb1
 have hren : RelH F (phiR φ js) w0.heap.size (B.map some) w := hrel.heap.ren hlen hnd (by simp [hjl]) fun i b hib => by
  rw [List.getElem?_map] at hib
  cases hq : B[i]? with
  | none => rw [hq] at hib; cases hib
  | some b0 =>
   rw [hq] at hib
   simp only [Option.map_some, Option.some.injEq] at hib
   subst hib
   obtain ⟨j, hj⟩ := jsAt i (List.getElem?_eq_some_iff.1 hq).1
   obtain ⟨b1, hb1, hH⟩ := hb.get i j hj
   rw [hq] at hb1; cases hb1
   exact ⟨j, hj, hH⟩
 have hphi : ∀ k j, js[k]? = some j → phiR φ js k = φ j := fun k j hj => by simp only [phiR, hj]
 have hcell : RelH (addOwn F φ (killL st.h js) w) (phiR φ js) w0.heap.size (B.map some) w := by
  refine ⟨(addOwn_agree hkill).1, hren.unused, fun k b hk => ?_, hren.sep, (addOwn_agree hkill).2, hren.pins⟩
  refine (hren.blk k b hk).leO hle (PLe.refl _) (fun g ho _ hg _ => ?_) fun _ _ => rfl
  unfold addOwn
  rw [hg]
  simp only
  refine if_neg ?_
  rintro ⟨id', b', q1, q2⟩
  have hnm := killL_none js _ q1
  rw [killL_not js _ hnm] at q1
  have hkB : k < B.length := by
   have := (List.getElem?_eq_some_iff.1 hk).1
   simpa using this
  obtain ⟨j, hj⟩ := jsAt k hkB
  obtain ⟨b1, _, hbj⟩ := hb.get k j hj
  rw [hphi k j hj] at ho
  have := hrel.heap.sep id' j _ _ _ q1 hbj q2 ho
  rw [this] at hnm
  exact hnm (List.mem_of_getElem? hj)
 have hKl : ∀ k l, ls[k]? = some l → phiR φ js k = l := fun k l hl => by
  obtain ⟨j, p, hj, hp⟩ := hpin.get k l hl
  rw [hphi k j hj]
  exact (hrel.heap.pins p j l hp).1
 have hlsE : (List.range K).map (phiR φ js) = ls := by
  apply List.ext_getElem?
  intro k
  rw [List.getElem?_map]
  rcases Nat.lt_or_ge k K with c | c
  ·rw [List.getElem?_range c]
   have hk : ls[k]? = some ls[k] := List.getElem?_eq_getElem (by omega)
   rw [hk]
   exact congrArg some (hKl k _ hk)
  ·rw [List.getElem?_eq_none (by simpa using c), List.getElem?_eq_none (by omega)]; rfl
 have hc := hP w0 w (addOwn F φ (killL st.h js) w) (phiR φ js) (args.map a.eval ++ cv) hrel.below hcell (by rw [hlsE, ← g1]; simp [hcl]) (fun i y v hy hv => by
  rw [hlsE] at hy
  have hi : i < ((args.toList.map fun x => sv (opd st.s x)) ++ caps).length := by
   rw [g1]
   rcases Nat.lt_or_ge i (ag ls).length with c | c
   ·exact c
   ·rw [List.getElem?_eq_none c] at hy; cases hy
  have hx := List.getElem?_eq_getElem hi
  have hxv : RepV F φ (((args.toList.map fun x => sv (opd st.s x)) ++ caps)[i]) v := by
   rw [List.getElem?_append] at hx
   rw [Array.getElem?_append] at hv
   simp only [List.length_map, Array.length_toList] at hx
   simp only [Array.size_map] at hv
   split at hx
   ·rename_i hlt
    rw [if_pos hlt] at hv
    rw [List.getElem?_map, Array.getElem?_toList] at hx
    rw [Array.getElem?_map] at hv
    cases hq : args[i]? with
    | none => rw [hq] at hv; cases hv
    | some q =>
     rw [hq] at hx hv
     simp only [Option.map_some, Option.some.injEq] at hx hv
     rw [← hx, ← hv]
     exact ev_rep hrel (List.all_eq_true.1 hsc q (Array.mem_toList_iff.2 (Array.mem_of_getElem? hq)))
   ·rename_i hge
    rw [if_neg hge] at hv
    exact hcr _ _ v hx hv
  rcases g2 i _ y hx hy with ⟨k, j, n, hk, e1, rfl⟩ | ⟨k, j, m1, m2, hk, e1, rfl⟩ | ⟨k, p, j, m1, m2, o1, hk, hp, e1, rfl⟩ | hok
  ·rw [e1] at hxv
   cases hxv with
   | own _ _ g cap sz et' q1 q2 q3 => exact .own _ _ g cap sz et' (by rw [hphi k j hk]; exact q1) q2 q3
   | ownNil _ q => exact .ownNil _ (by rw [hphi k j hk]; exact q)
  ·rw [e1] at hxv
   cases hxv with
   | ptr _ _ _ g cap sz et' q1 => exact .ptr _ _ _ g cap sz et' (by rw [hphi k j hk]; exact q1)
  ·rw [e1] at hxv
   have hpj := (hrel.heap.pins p j o1 hp).1
   cases hxv with
   | abs g cap sz et' _ _ => exact .ptr _ _ _ g cap sz et' (by rw [hphi k j hk]; exact hpj)
  ·exact (argOk_rep (st := ⟨st.n, st.s, killL st.h js⟩) hkill hok hxv).le (FLe.refl _) (PLe0 _))
 refine hc.mono fun e w' ⟨v, F', φ', he, hFn0, hH', hv, hpin', hbw⟩ => ?_
 subst he
 have hF := hFn0.1
 refine hK _ _ ?_
 have hFF : FLe F F' := FLe.trans hle hF
 have hFn : ∀ g, F' g = none → F g = none := fun g hg => by
  cases hq : F g with
  | none => rfl
  | some o => have := hFF g o hq; rw [hg] at this; cases this
 obtain ⟨φ2, hφ2⟩ : ∃ φ2 : Phi, φ2 = fun id => if id < st.h.length then φ id else φ' (K + (id - st.h.length)) := ⟨_, rfl⟩
 have hPL : PLe φ φ2 := fun id hu => by
  rw [hφ2]
  refine if_pos ?_
  rcases Nat.lt_or_ge id st.h.length with c | c
  ·exact c
  ·exact absurd (hrel.heap.unused id c) hu
 have hKj : K ≤ js.length := by omega
 have hφσ : ∀ i id, i < B'.length → (sgm st.h.length js K B'.length)[i]? = some id → φ2 id = φ' i := fun i id hi hid => by
  rcases Nat.lt_or_ge i K with c | c
  ·rw [sgm_lo hKj c] at hid
   have hlt := hjlt id (List.mem_of_getElem? hid)
   rw [hφ2]
   simp only [if_pos hlt]
   rw [hpin' i c, hphi i id hid]
  ·rw [sgm_hi hKj c hi] at hid
   injection hid with hid
   rw [hφ2]
   simp only
   rw [if_neg (by omega)]
   congr 1; omega
 have hσ : ∀ i, φ' i ≠ .unused → ∃ s, (sgm st.h.length js K B'.length)[i]? = some s ∧ φ2 s = φ' i := fun i hu => by
  have hi : i < B'.length := by
   rcases Nat.lt_or_ge i B'.length with c | c
   ·exact c
   ·exact absurd (hH'.unused i (by simpa using c)) hu
  have hl : i < (sgm st.h.length js K B'.length).length := by rw [sgm_len hKj hKB']; exact hi
  exact ⟨_, List.getElem?_eq_getElem hl, hφσ i _ hi (List.getElem?_eq_getElem hl)⟩
 have hB'at : ∀ i b', B'[i]? = some b' → (B'.map some)[i]? = some (some b') := fun i b' hq => by rw [List.getElem?_map, hq]; rfl
 have hjm : ∀ j, j ∈ js → j < (st.h.map fun _ => (none : Option Blk)).length := fun j hj => by simpa using hjlt j hj
 have hlm : (st.h.map fun _ => (none : Option Blk)).length = st.h.length := by simp
 have hno : ∀ {id : Nat} {b : Blk}, (st.h.map fun _ => (none : Option Blk))[id]? = some (some b) → False := fun {id b} h => by
  rw [List.getElem?_map] at h
  cases hq : st.h[id]? with
  | none => rw [hq] at h; cases h
  | some o => rw [hq] at h; cases h
 have hnew : RelH F' φ2 w0.heap.size (plG (st.h.map fun _ => none) js K B') w' := by
  refine ⟨fun b o hbo => hH'.agree b o hbo, fun id hid => ?_, fun id b hib => ?_, fun i j bi bj g hi hj h1 h2 => ?_, hH'.good, fun j i l hj => ?_⟩
  ·rw [plG_len, hlm] at hid
   rw [hφ2]
   simp only
   rw [if_neg (by omega)]
   exact hH'.unused _ (by simp; omega)
  ·rcases plG_cls hnd hKj hKB' hjm hib with ⟨q1, q2, q3⟩ | ⟨i, b', q1, rfl, q3⟩
   ·exact (hno q3).elim
   ·rw [hlm] at q3 ⊢
    exact (hH'.blk i b' (hB'at i b' q1)).moveF hσ (hφσ i id (List.getElem?_eq_some_iff.1 q1).1 q3) (List.all_eq_true.1 hB' b' (List.mem_of_getElem? q1))
  ·rcases plG_cls hnd hKj hKB' hjm hi with ⟨p1, p2, p3⟩ | ⟨i', bi', p1, rfl, p3⟩
   ·exact (hno p3).elim
   ·rcases plG_cls hnd hKj hKB' hjm hj with ⟨q1, q2, q3⟩ | ⟨j', bj', q1, rfl, q3⟩
    ·exact (hno q3).elim
    ·rw [hlm] at p3 q3
     rw [hφσ i' i (List.getElem?_eq_some_iff.1 p1).1 p3] at h1
     rw [hφσ j' j (List.getElem?_eq_some_iff.1 q1).1 q3] at h2
     have := hH'.sep i' j' _ _ _ (hB'at i' bi' p1) (hB'at j' bj' q1) h1 h2
     subst this
     rw [p3] at q3
     injection q3
  ·rcases plG_cls hnd hKj hKB' hjm hj with ⟨p1, p2, p3⟩ | ⟨i', b', p1, p2, p3⟩
   ·exact (hno p3).elim
   ·have := List.all_eq_true.1 hB' b' (List.mem_of_getElem? p1)
    cases b' <;> simp [renB, nFB, nIB] at p2 this
 have hpn : ∀ (k j : Nat) (l : Loc), js[k]? = some j → ls[k]? = some l → φ2 j = l ∧ l ≠ .unused := fun k j l hj hl => by
  obtain ⟨j', p, hj', hp⟩ := hpin.get k l hl
  rw [hj] at hj'; injection hj' with hj'; subst hj'
  obtain ⟨a1, a2⟩ := hrel.heap.pins p j l hp
  exact ⟨by rw [hPL j (by rw [a1]; exact a2)]; exact a1, a2⟩
 obtain ⟨φ3, hP3, hnew3⟩ := hnew.addPins js ls hpn
 rw [hdst]
 subst hH2
 have hres : Rel F' φ3 w0 ⟨st.n, st.s, plG (st.h.map fun _ => none) js K B' ++ pinG js ls⟩ a w' := ⟨hnew3, hrel.size, fun i => (hrel.slots i).le hFF (hPL.trans hP3), hrel.defers, hbw⟩
 exact wpList_monoQ (fun _ _ _ hl => Lift.le ((addOwn_fln hkill).trans hFn0) hl) (h _ rfl F' φ3 _ w' ((hres.put hd (flatT_rep hr hv)).keep K'))
end
end Go.AX
