/-
 Drawn regions: an operation that changes nothing may come first where all that may come before it only adds memory. Conditions: none.
-/
import Derived.StillTail
import Derived.Test.YtlpikingpnenkaaAxTk
set_option linter.unusedSimpArgs false
set_option linter.unusedVariables false
namespace Go.AX
open Go Go.RowKit
/-- It only adds memory. -/
def GR {α : Type} (s : Sem α) : Prop := ∀ (P : Program) (w : World) (x : α) (w' : World), s.run P w = .ok x w' → Below w.heap.size w w'
theorem below_trans {w w1 w2 : World} (h : Below w.heap.size w w1) (k : Below w1.heap.size w1 w2) : Below w.heap.size w w2 :=
 ⟨k.os.trans h.os, k.tape.trans h.tape, k.output.trans h.output, Nat.le_trans h.size k.size, fun b hb => (k.block b (Nat.lt_of_lt_of_le hb h.size)).trans (h.block b hb)⟩
theorem GR.pure {α : Type} (a : α) : GR (Pure.pure a : Sem α) := fun P w x w' h => by
 have : (Result.ok a w : Result α) = .ok x w' := h
 injection this with h1 h2
 subst h2
 exact Below.refl _ _
theorem GR.bind {α β : Type} {s : Sem α} {f : α → Sem β} (h : GR s) (k : ∀ a, GR (f a)) : GR (s >>= f) := fun P w x w' hr => by
 rw [Sem.run_bind] at hr
 cases hs : s.run P w with
 | ok a w1 =>
  rw [hs] at hr
  exact below_trans (h P w a w1 hs) (k a P w1 x w' hr)
 | halt e w1 => rw [hs] at hr; cases hr
theorem GR.halt {α : Type} (e : Halt) : GR (Sem.halt e : Sem α) := fun P w x w' h => by cases h
theorem GR.stuck {α : Type} (s : String) : GR (Go.stuck s : Sem α) := GR.halt _
theorem GR.unsup {α : Type} (e : Unsupported) : GR (Go.unsupported e : Sem α) := GR.halt _
theorem GR.program : GR program := fun P w x w' h => by
 have : (Result.ok P w : Result Program) = .ok x w' := h
 injection this with h1 h2
 subst h2
 exact Below.refl _ _
theorem GR.load (a : Addr) (m : Mode) : GR (Go.load a m) := fun P w x w' h => by
 unfold Go.load at h
 simp only [Sem.run] at h
 split at h
 ·injection h with h1 h2; subst h2; exact Below.refl _ _
 ·split at h
  ·injection h with h1 h2; subst h2; exact Below.refl _ _
  ·cases h
theorem GR.shape (r : Nat) : GR (Go.shape r) := fun P w x w' h => by
 unfold Go.shape at h
 simp only [Sem.run] at h
 injection h with h1 h2; subst h2; exact Below.refl _ _
theorem GR.getObj (r : Nat) : GR (Go.getObj r) := fun P w x w' h => by
 unfold Go.getObj at h
 simp only [Sem.run] at h
 split at h
 ·cases h
 ·injection h with h1 h2; subst h2; exact Below.refl _ _
 ·cases h
theorem GR.newObj (o : Obj) : GR (Go.newObj o) := fun P w x w' h => by
 unfold Go.newObj at h
 simp only [Sem.run] at h
 injection h with h1 h2
 subst h2
 exact ⟨rfl, rfl, rfl, by simp, fun k hk => by simp [Array.getElem?_push, Nat.ne_of_lt hk]⟩
theorem GR.choose (q : Question) : GR (Go.choose q) := fun P w x w' h => by
 unfold Go.choose at h
 simp only [Sem.run] at h
 split at h
 ·injection h with h1 h2; subst h2; exact Below.refl _ _
 ·injection h with h1 h2; subst h2; exact ⟨rfl, rfl, rfl, Nat.le_refl _, fun _ _ => rfl⟩
theorem GR.typeInfo (t : TypeId) : GR (Go.typeInfo t) := by
 unfold Go.typeInfo
 refine GR.bind GR.program fun p => ?_
 split
 ·exact GR.pure _
 ·exact GR.halt _
theorem GR.underlying (t : TypeId) : GR (Go.underlying t) := by
 unfold Go.underlying
 refine GR.bind GR.program fun p => ?_
 split
 ·exact GR.pure _
 ·exact GR.halt _
theorem GR.sizeOf (t : TypeId) : GR (Go.sizeOf t) := GR.bind (GR.typeInfo t) fun _ => GR.pure _
theorem GR.isAgg (t : TypeId) : GR (Go.isAgg t) := by
 unfold Go.isAgg
 refine GR.bind (GR.underlying t) fun d => ?_
 split <;> exact GR.pure _
theorem GR.zeroValue (t : TypeId) : GR (Go.zeroValue t) := by
 unfold Go.zeroValue
 refine GR.bind (GR.typeInfo t) fun d => ?_
 split
 ·exact GR.pure _
 ·exact GR.halt _
theorem GR.loadCellsFrom (a : Addr) : ∀ (n i : Nat) (acc : Array Value), GR (Go.loadCellsFrom a i n acc)
 | 0, i, acc => GR.pure _
 | n + 1, i, acc => GR.bind (GR.load _ _) fun v => GR.loadCellsFrom a n (i + 1) _
theorem GR.loadVar (t : TypeId) (a : Addr) : GR (Go.loadVar t a) := by
 unfold Go.loadVar
 refine GR.bind (GR.isAgg t) fun b => ?_
 split
 ·exact GR.bind (GR.sizeOf t) fun n => GR.bind (GR.loadCellsFrom _ _ _ _) fun _ => GR.pure _
 ·exact GR.load _ _
theorem GR.sureAddr (v : Value) : GR (Instr.sureAddr v) := by
 unfold Instr.sureAddr
 split
 ·exact GR.pure _
 ·exact GR.halt _
theorem GR.viewAt (r : Nat) : GR (Go.viewAt r) := by
 unfold Go.viewAt
 refine GR.bind (GR.shape r) fun s => ?_
 split
 ·exact GR.pure _
 ·refine GR.bind (GR.getObj r) fun o => ?_
  split <;> exact GR.pure _
theorem GR.noView (a : Addr) : GR (Go.noView a) := by
 unfold Go.noView
 refine GR.bind (GR.viewAt _) fun v => ?_
 split
 ·exact GR.halt _
 ·exact GR.pure _
theorem GR.byteOf (a : Addr) : GR (Go.byteOf a) := by
 unfold Go.byteOf
 split
 ·exact GR.pure _
 ·refine GR.bind GR.program fun p => GR.bind (GR.noView a) fun _ => GR.bind (GR.shape _) fun s => ?_
  split
  ·try dsimp only
   split
   ·exact GR.pure _
   ·split
    ·exact GR.pure _
    ·exact GR.halt _
  ·exact GR.halt _
theorem GR.fieldPlace (a : Addr) (f : Field) : GR (Go.fieldPlace a f) := by
 unfold Go.fieldPlace
 refine GR.bind (GR.sizeOf _) fun n => ?_
 split
 ·unfold Go.partAt
  refine GR.bind (GR.byteOf _) fun b => ?_
  dsimp only
  exact GR.bind (GR.byteOf _) fun c => GR.pure _
 ·exact GR.pure _
theorem GR.fieldAt (s : TypeId) (v : Value) (f : Nat) : GR (Instr.fieldAt s v f) := by
 unfold Instr.fieldAt
 refine GR.bind (GR.underlying s) fun d => ?_
 split
 ·split
  ·exact GR.bind (GR.sureAddr v) fun a => GR.bind (GR.fieldPlace _ _) fun _ => GR.pure _
  ·exact GR.halt _
 ·exact GR.halt _
theorem GR.newVar (t : TypeId) (v : Value) : GR (Go.newVar t v) := by
 unfold Go.newVar Go.newRow
 exact GR.bind (GR.newObj _) fun _ => GR.pure _
theorem GR.elemOf (t : TypeId) : GR (Go.elemOf t) := by
 unfold Go.elemOf
 refine GR.bind (GR.underlying t) fun d => ?_
 split
 ·exact GR.pure _
 ·exact GR.halt _
theorem GR.runtimePanic {α : Type} (e : RuntimeError) : GR (Go.runtimePanic e : Sem α) := by
 unfold Go.runtimePanic
 refine GR.bind GR.program fun p => ?_
 dsimp only
 split <;> first | exact GR.halt _ | exact GR.bind (GR.elemOf _) fun _ => GR.bind (GR.newVar _ _) fun _ => GR.halt _
theorem GR.asIntOf (v : Value) : GR (Go.asIntOf v) := by
 unfold Go.asIntOf
 split
 ·exact GR.pure _
 ·exact GR.halt _
 ·exact GR.halt _
theorem GR.map {α β : Type} {f : α → β} {s : Sem α} (h : GR s) : GR (f <$> s) := by
 rw [← bind_pure_comp]
 exact GR.bind h fun _ => GR.pure _
theorem GR.boundsPanic {α : Type} (k : IntKind) (x y : Int) (c : BoundsCode) : GR (Go.boundsPanic k x y c : Sem α) := by
 unfold Go.boundsPanic
 dsimp only
 split
 ·exact GR.bind (GR.map (GR.choose _)) fun _ => GR.runtimePanic _
 ·exact GR.bind (GR.pure _) fun _ => GR.runtimePanic _
theorem GR.indexAt (t : TypeId) (x i : Value) : GR (Instr.indexAt t x i) := by
 unfold Instr.indexAt
 repeat' first | (with_reducible exact GR.pure _) | (with_reducible exact GR.stuck _) | (with_reducible exact GR.unsup _) | (with_reducible exact GR.runtimePanic _) | (with_reducible exact GR.boundsPanic _ _ _ _) | (with_reducible refine GR.bind (GR.underlying _) fun _ => ?_) | (with_reducible refine GR.bind (GR.sizeOf _) fun _ => ?_) | (with_reducible refine GR.bind (GR.getObj _) fun _ => ?_) | (with_reducible refine GR.bind (GR.sureAddr _) fun _ => ?_) | (with_reducible refine GR.bind (GR.asIntOf _) fun _ => ?_) | (with_reducible refine GR.bind (GR.choose _) fun _ => ?_) | (with_reducible refine GR.bind (GR.newVar _ _) fun _ => ?_) | (with_reducible refine GR.bind (GR.pure _) fun _ => ?_) | (with_reducible refine GR.bind (GR.stuck _) fun _ => ?_) | split | (dsimp only; done) | dsimp only
theorem GR.alloc (e : TypeId) (v : Value) : GR (Instr.alloc e true v) := by
 unfold Instr.alloc
 refine GR.bind (GR.zeroValue e) fun z => ?_
 split
 ·simp_all
 ·exact GR.bind (GR.newVar _ _) fun _ => GR.pure _
theorem GR.len (ts : Array TypeId) (t : TypeId) (vs : Array Value) : GR (Builtin.len_ ts t vs) := by
 unfold Builtin.len_
 repeat' first | (with_reducible exact GR.pure _) | (with_reducible exact GR.stuck _) | (with_reducible exact GR.unsup _) | (with_reducible exact GR.runtimePanic _) | (with_reducible exact GR.boundsPanic _ _ _ _) | (with_reducible refine GR.bind (GR.underlying _) fun _ => ?_) | (with_reducible refine GR.bind (GR.sizeOf _) fun _ => ?_) | (with_reducible refine GR.bind (GR.getObj _) fun _ => ?_) | (with_reducible refine GR.bind (GR.sureAddr _) fun _ => ?_) | (with_reducible refine GR.bind (GR.asIntOf _) fun _ => ?_) | (with_reducible refine GR.bind (GR.choose _) fun _ => ?_) | (with_reducible refine GR.bind (GR.newVar _ _) fun _ => ?_) | (with_reducible refine GR.bind (GR.pure _) fun _ => ?_) | (with_reducible refine GR.bind (GR.stuck _) fun _ => ?_) | split | (dsimp only; done) | dsimp only
theorem GR.part (t : TypeId) (cs : Array Value) (off : Nat) : GR (Go.part t cs off) := by
 unfold Go.part
 refine GR.bind (GR.isAgg t) fun b => ?_
 split
 ·exact GR.bind (GR.sizeOf t) fun _ => GR.pure _
 ·split
  ·exact GR.pure _
  ·exact GR.halt _
theorem GR.followBlind : ∀ (l : List FieldStep) (t : TypeId) (x : Option Value), GR (Go.followBlind l t x)
 | [], t, x => GR.pure _
 | s :: rest, t, x => by
  unfold Go.followBlind
  refine GR.bind (GR.underlying _) fun d => ?_
  split
  ·split
   ·split
    ·exact GR.pure _
    ·exact GR.followBlind rest _ _
    ·exact GR.stuck _
    ·exact GR.pure _
    ·exact GR.bind (GR.part _ _ _) fun _ => GR.followBlind rest _ _
    ·exact GR.stuck _
    ·exact GR.followBlind rest _ _
   ·exact GR.stuck _
  ·exact GR.stuck _
theorem GR.nilAhead : ∀ (fuel : Nat) (t : TypeId) (v : Value) (s : String), GR (Go.nilAhead fuel t v s)
 | 0, t, v, s => GR.pure _
 | fuel + 1, t, v, s => by
  unfold Go.nilAhead
  refine GR.bind (GR.typeInfo t) fun i => ?_
  split
  ·refine GR.bind (GR.followBlind _ _ _) fun r => ?_
   split
   ·exact GR.pure _
   ·split
    ·exact GR.nilAhead fuel _ _ _
    ·exact GR.pure _
    ·exact GR.stuck _
    ·exact GR.pure _
    ·exact GR.pure _
    ·refine GR.bind (GR.underlying _) fun d => ?_
     split <;> exact GR.pure _
  ·exact GR.stuck _
theorem nilDeref_no {P : Program} {w w' : World} {n : Next} (h : (Go.runtimePanic .nilDeref : Sem Next).run P w = .ok n w') : False := by
 unfold Go.runtimePanic at h
 rw [Sem.run_bind] at h
 cases h
theorem GR.mapM {α β : Type} {f : α → Sem β} (h : ∀ a, GR (f a)) : ∀ l : List α, GR (l.mapM f)
 | [] => by rw [List.mapM_nil]; exact GR.pure _
 | x :: l => by
  rw [List.mapM_cons]
  exact GR.bind (h x) fun _ => GR.bind (GR.mapM h l) fun _ => GR.pure _
theorem GR.mapA {α β : Type} {f : α → Sem β} (h : ∀ a, GR (f a)) (l : Array α) : GR (l.mapM f) := by
 rw [Array.mapM_eq_mapM_toList]
 exact GR.map (GR.mapM h _)
theorem GR.build (t : TypeId) (ps : Array (Nat × Value)) : GR (Instr.build t ps) := by
 unfold Instr.build
 refine GR.bind (GR.zeroValue _) fun z => GR.bind (GR.underlying _) fun d => ?_
 split
 ·refine GR.bind ?_ fun _ => ?_
  ·first | exact GR.mapA (fun _ => GR.bind (GR.sizeOf _) fun _ => GR.pure _) _ | exact GR.mapM (fun _ => GR.bind (GR.sizeOf _) fun _ => GR.pure _) _
  ·split
   ·exact GR.pure _
   ·exact GR.stuck _
 ·refine GR.bind (GR.sizeOf _) fun _ => ?_
  split
  ·exact GR.pure _
  ·exact GR.stuck _
 ·exact GR.stuck _
theorem GR.newRow (e : TypeId) (cs : Array Value) : GR (Go.newRow e cs) := by
 unfold Go.newRow
 exact GR.bind (GR.newObj _) fun _ => GR.pure _
theorem GR.buildSlice (t : TypeId) (n : Nat) (ps : Array (Nat × Value)) : GR (Instr.buildSlice t n ps) := by
 unfold Instr.buildSlice
 refine GR.bind (GR.underlying _) fun d => ?_
 split
 ·rename_i el
  refine GR.bind (GR.sizeOf _) fun sz => ?_
  have tail : ∀ zero : Array Value, GR (match Instr.fill (fun i => some (i * sz, sz)) (Array.map (fun x => zero[x % zero.size]!) (Array.range (n * sz))) ps.toList with
    | some cells => do
     let r ← Go.newRow el cells
     Pure.pure (Value.slice (some r) n n)
    | _ => Go.stuck "buildSlice: a part of the wrong size") := fun zero => by
   split
   ·exact GR.bind (GR.newRow _ _) fun _ => GR.pure _
   ·exact GR.stuck _
  have mid : GR (if n * sz = 0 then (Pure.pure #[] >>= fun zero : Array Value => match Instr.fill (fun i => some (i * sz, sz)) (Array.map (fun x => zero[x % zero.size]!) (Array.range (n * sz))) ps.toList with
    | some cells => do
     let r ← Go.newRow el cells
     Pure.pure (Value.slice (some r) n n)
    | _ => Go.stuck "buildSlice: a part of the wrong size") else (do
    let r ← Go.zeroValue el
    Pure.pure r.cells >>= fun zero => match Instr.fill (fun i => some (i * sz, sz)) (Array.map (fun x => zero[x % zero.size]!) (Array.range (n * sz))) ps.toList with
    | some cells => do
     let r ← Go.newRow el cells
     Pure.pure (Value.slice (some r) n n)
    | _ => Go.stuck "buildSlice: a part of the wrong size")) := by
   split
   ·exact GR.bind (GR.pure _) fun zero => tail zero
   ·exact GR.bind (GR.zeroValue _) fun _ => GR.bind (GR.pure _) fun zero => tail zero
  dsimp only
  split
  ·exact GR.bind (GR.unsup _) fun _ => mid
  ·exact mid
 ·exact GR.stuck _
/-- What only adds memory and gives a value. -/
def growK : Op → Bool
 | .move _ | .assign _ | .extract .. | .nilCheck _ | .fieldAddr .. | .indexAddr .. | .load .. | .alloc _ | .build .. | .buildSlice .. => true
 | .call c => match c.callee with | .builtin .len => true | _ => false
 | _ => false
theorem grow_val {ρ : Operand → Value} {o : Oper} (ht : growK o.op = true) {P : Program} {w w' : World} {n : Next} (h : (execOp ρ o).run P w = .ok n w') : (∃ u, n = .value u) ∧ Below w.heap.size w w' := by
 have val : ∀ {s : Sem Value}, GR s → ((do pure (Next.value (← s)) : Sem Next)).run P w = .ok n w' → (∃ u, n = .value u) ∧ Below w.heap.size w w' := fun {s} hs hr => by
  rw [Sem.run_bind] at hr
  cases hq : s.run P w with
  | ok u w1 =>
   rw [hq] at hr
   have : (Result.ok (Next.value u) w1 : Result Next) = .ok n w' := hr
   injection this with h1 h2
   subst h1 h2
   exact ⟨⟨u, rfl⟩, hs P w u w1 hq⟩
  | halt e w1 => rw [hq] at hr; cases hr
 have one : ∀ {u : Value}, (pure (Next.value u) : Sem Next).run P w = .ok n w' → (∃ u, n = .value u) ∧ Below w.heap.size w w' := fun {u} hr => by
  have : (Result.ok (Next.value u) w : Result Next) = .ok n w' := hr
  injection this with h1 h2
  subst h1 h2
  exact ⟨⟨u, rfl⟩, Below.refl _ _⟩
 have one2 : ∀ {w : World} {u : Value}, (pure (Next.value u) : Sem Next).run P w = .ok n w' → (∃ u, n = .value u) ∧ Below w.heap.size w w' := fun {w u} hr => by
  have : (Result.ok (Next.value u) w : Result Next) = .ok n w' := hr
  injection this with h1 h2
  subst h1 h2
  exact ⟨⟨u, rfl⟩, Below.refl _ _⟩
 obtain ⟨dst, op, type, pos, after, guard⟩ := o
 simp only at ht
 cases op <;> simp only [growK, Bool.false_eq_true] at ht
 case move x => exact one h
 case assign x => exact one h
 case extract x i =>
  refine val ?_ h
  unfold Instr.extract
  split
  ·split
   ·exact GR.pure _
   ·exact GR.stuck _
  ·exact GR.stuck _
 case alloc e => exact val (GR.alloc _ _) h
 case build t ps => exact val (GR.build _ _) h
 case buildSlice t n ps => exact val (GR.buildSlice _ _ _) h
 case load t x => exact val (GR.bind (GR.sureAddr _) fun _ => GR.loadVar _ _) h
 case fieldAddr t x f => exact val (GR.fieldAt _ _ _) h
 case indexAddr t x i => exact val (GR.indexAt _ _ _) h
 case nilCheck x =>
  simp only [execOp] at h
  split at h
  ·exact (nilDeref_no h).elim
  ·exact (nilDeref_no h).elim
  ·exact (nilDeref_no h).elim
  ·split at h
   ·exact (nilDeref_no h).elim
   ·rw [Sem.run_bind] at h
    cases hq : (program : Sem Program).run P w with
    | halt e w1 => rw [hq] at h; cases h
    | ok p w1 =>
     rw [hq] at h
     have b1 := GR.program P w p w1 hq
     simp only [Result.andThen_ok] at h
     rw [Sem.run_bind] at h
     generalize hr : Sem.run P (Go.nilAhead _ _ _ _) w1 = r at h
     cases r with
     | halt e w2 => cases h
     | ok q w2 =>
      have b2 := GR.nilAhead _ _ _ _ P w1 q w2 hr
      simp only [Result.andThen_ok] at h
      split at h
      ·rw [Sem.run_bind] at h; cases h
      ·obtain ⟨c1, c2⟩ := one2 h
       exact ⟨c1, below_trans (below_trans b1 b2) c2⟩
   ·exact one h
  ·exact one h
 case call c =>
  obtain ⟨callee, args, ts⟩ := c
  cases callee <;> simp only [Bool.false_eq_true] at ht
  rename_i b
  cases b <;> simp only [Bool.false_eq_true] at ht
  refine val (GR.len ts type (args.map ρ)) ?_
  simpa [execOp, resolve, invoke, builtin] using h
section
variable {P : Program} {ops : Array Oper} {md : Region.Mode} {Q : Exit → Act → World → Prop}
/-- The same value whatever memory is added. -/
def YieldsB (P : Program) (ops : Array Oper) (w : World) (o : Oper) (v : Value) (a : Act) : Prop :=
 (Region.wanted o (yielded ops a.tmps) = true ∧ ∀ w', Below w.heap.size w w' → (execOp a.eval o).run P w' = .ok (.value v) w') ∨ (Region.wanted o (yielded ops a.tmps) = false ∧ v = undef)
theorem YieldsB.of_same {o : Oper} {v : Value} {a a' : Act} {w w' : World} (hw' : Below w.heap.size w w') (hy : YieldsB P ops w o v a) (he : execOp a'.eval o = execOp a.eval o)
  (hw : Region.wanted o (yielded ops a'.tmps) = Region.wanted o (yielded ops a.tmps)) : YieldsB P ops w' o v a' := by
 unfold YieldsB at *
 rw [he, hw]
 exact hy.imp (fun h => ⟨h.1, fun w2 h2 => h.2 w2 (below_trans hw' h2)⟩) id
theorem YieldsB.wpOp {i : Nat} {o : Oper} {v : Value} {a : Act} {w : World} (hi : ops[i]? = some o) (hy : YieldsB P ops w o v a) {K : Act → World → Prop} (h : K (a.put o.dst v) w) : wpOp P ops Q i K a w := by
 unfold Go.wpOp
 simp only [hi]
 rcases hy with ⟨hw, hv⟩ | ⟨hw, rfl⟩
 ·simp only [hw, if_true, Oper.wp, hv w (Below.refl _ _), Oper.upon]; exact .inl h
 ·simp only [hw, Bool.false_eq_true, if_false]; exact h
theorem wpOp_putB {j : Nat} {oi oj : Oper} {v : Value} (hj : ops[j]? = some oj) (hap : oi.apart ops oj = true)
  (hsi : ∀ cs b, oi.op ≠ .select cs b) (hsj : ∀ cs b, oj.op ≠ .select cs b) (hg : growK oj.op = true)
  (hQ : ∀ c a w, Q (.panic c) (a.put oi.dst v) w → Q (.panic c) a w) {K : Act → World → Prop} {a : Act} {w : World}
  (hy : YieldsB P ops w oi v a) (h : wpOp P ops Q j K (a.put oi.dst v) w) :
  wpOp P ops Q j (fun a' w' => YieldsB P ops w' oi v a' ∧ K (a'.put oi.dst v) w') a w := by
 obtain ⟨h1, h2, h3⟩ := Oper.apart_spec hap
 have keep : ∀ (u : Value) (w' : World), Below w.heap.size w w' → YieldsB P ops w' oi v (a.put oj.dst u) := fun u w' hb =>
  hy.of_same hb (execOp_put oi hsi a oj.dst u h3) (wanted_put oi a oj.dst u h3)
 unfold wpOp at *
 simp only [hj] at *
 rw [wanted_put oj a oi.dst v h1] at h
 split
 ·rename_i hw
  simp only [hw, if_true] at h
  rcases h with h | ⟨hasks, hlets⟩
  case inr => exact .inr ⟨by unfold Oper.asks at *; rw [execOp_put oj hsj a oi.dst v h1] at hasks; exact hasks, hlets⟩
  refine .inl ?_
  unfold Oper.wp at *
  rw [execOp_put oj hsj a oi.dst v h1] at h
  generalize hr : (execOp a.eval oj).run P w = r at *
  cases r with
  | ok n w' =>
   obtain ⟨⟨u, rfl⟩, hb⟩ := grow_val hg hr
   simp only [Oper.upon] at h ⊢
   exact ⟨keep u w' hb, by rw [← Act.put_comm a v u h2]; exact h⟩
  | halt x w' =>
   cases x <;> simp only [Oper.upon] at h ⊢
   case panic u => exact hQ _ _ _ h
 ·rename_i hw
  simp only [hw] at h
  exact ⟨keep _ w (Below.refl _ _), by rw [← Act.put_comm a v undef h2]; exact h⟩
theorem wpAny_firstB {i : Nat} {oi : Oper} {v : Value} (hi : ops[i]? = some oi) (hsel : ∀ (j : Nat) (o : Oper) cs b, ops[j]? = some o → o.op ≠ .select cs b)
  (hQ : ∀ c a w, Q (.panic c) (a.put oi.dst v) w → Q (.panic c) a w) (D : List Nat) (hD : ∀ j, j ∈ D → ∀ oj, ops[j]? = some oj → ∃ e ∈ oj.after, Region.binds md e = true ∧ (e.on = i ∨ e.on ∈ D)) :
  ∀ (fuel : Nat) (listed : Array Bool) (a : Act) (w : World),
   (∀ j oj, ops[j]? = some oj → j ≠ i → listed.getD j true = false → (∀ e ∈ oj.after, Region.binds md e = true → e.on ≠ i) → oi.apart ops oj = true) →
   (∀ j, j ∈ D → listed.getD j true = false) →
   (∀ j oj, ops[j]? = some oj → j ≠ i → j ∉ D → listed.getD j true = false → growK oj.op = true) →
   i ∈ Region.ready md ops listed → YieldsB P ops w oi v a →
   wpAny P md ops Q fuel (listed.setIfInBounds i true) (a.put oi.dst v) w → wpAny P md ops Q (fuel + 1) listed a w := by
 intro fuel
 induction fuel with
 | zero =>
  intro listed a w _ _ _ hr hy H
  refine ⟨fun h => (by rw [h] at hr; cases hr), fun j hj => ?_⟩
  by_cases hji : j = i
  ·subst hji; exact hy.wpOp hi H
  ·have := ready_mono hj hji
   rw [H.1] at this
   cases this
 | succ fuel ih =>
  intro listed a w hfree hun hgr hr hy H
  refine ⟨fun h => (by rw [h] at hr; cases hr), fun j hj => ?_⟩
  by_cases hji : j = i
  ·subst hji; exact hy.wpOp hi H
  ·have h1 := H.2 j (ready_mono hj hji)
   obtain ⟨hjun, oj, hoj, hall⟩ := mem_ready.1 hj
   have hiun := (mem_ready.1 hr).1
   have hnot : ∀ e ∈ oj.after, Region.binds md e = true → e.on ≠ i := fun e he hb heq => by
    have h1 := hall e he hb
    rw [heq, getD_both hiun] at h1
    cases h1
   have hjD : j ∉ D := fun hm => by
    obtain ⟨e, he, hb, h2⟩ := hD j hm oj hoj
    rcases h2 with h2 | h2
    ·exact hnot e he hb h2
    ·have h3 := hall e he hb
     rw [getD_both (hun _ h2)] at h3
     cases h3
   have h2 := wpOp_putB hoj (hfree j oj hoj hji hjun hnot) (fun cs b => hsel i oi cs b hi) (fun cs b => hsel j oj cs b hoj) (hgr j oj hoj hji hjD hjun) hQ hy h1
   have hk : ∀ k, (listed.setIfInBounds j true).getD k true = false → listed.getD k true = false := fun k hk => by
    by_cases hjk : j = k
    ·subst hjk; exact hjun
    ·rw [getD_set_ne true hjk] at hk; exact hk
   refine wpOp_mono (fun a' w' h3 => ih (listed.setIfInBounds j true) a' w' (fun k ok hok hki hun' hno => hfree k ok hok hki (hk k hun') hno) (fun k hkD => by
     rw [getD_set_ne true (fun e => hjD (by rw [e]; exact hkD))]; exact hun k hkD) (fun k ok hok hki hkD hun' => hgr k ok hok hki hkD (hk k hun')) (ready_mono hr (Ne.symm hji)) h3.1 ?_) h2
   rw [Array.setIfInBounds_comm _ _ hji]
   exact h3.2
def firstOk (ops : Array Oper) (listed : Array Bool) (i : Nat) (D : List Nat) : Bool :=
 Region.noSelect ops && Region.free .any ops listed i && (Region.ready .any ops listed).contains i &&
 (D.all fun j => !(listed.getD j true) && match ops[j]? with | some oj => oj.after.any fun e => Region.binds .any e && (e.on == i || D.contains e.on) | none => true) &&
 ((List.range ops.size).all fun j => listed.getD j true || j == i || D.contains j || match ops[j]? with | some oj => growK oj.op | none => true)
end
section
variable {P : Program} {T : Tab} {w0 : World} {st : St}
/-- Such an operation may come first. -/
theorem AWPB_takeB (hT : TabOk P T) (K : List Nat) {l : List Oper} {Q : Exit → St → Prop} {g : Nat} {listed : Array Bool} (i : Nat) (D : List Nat) (o : Oper) (ho : l[i]? = some o) (hs : firstOk l.toArray listed i D = true)
  (h : ∀ c st', runPK T K l.toArray [o] st = (c, st') → c = true ∧ AWPB P w0 l.toArray Q g (listed.setIfInBounds i true) st') : AWPB P w0 l.toArray Q (g + 1) listed st := by
 simp only [firstOk, Bool.and_eq_true] at hs
 obtain ⟨⟨⟨⟨s1, s2⟩, s3⟩, s4⟩, s5⟩ := hs
 obtain ⟨h1, h2⟩ := h _ _ rfl
 intro F φ a w hrel
 have hstep : (stepP T l.toArray o st).1 = true := by
  simp only [runPK, runP] at h1
  simpa using h1
 have ho' : l.toArray[i]? = some o := by simpa using ho
 have fin : ∀ v, YieldsB P l.toArray w o v a → wpAny P .any l.toArray (NoP (Lift w0 F Q)) g (listed.setIfInBounds i true) (a.put o.dst v) w → wpAny P .any l.toArray (NoP (Lift w0 F Q)) (g + 1) listed a w := fun v hy hw =>
  wpAny_firstB ho' (Region.noSelect_spec s1) (fun c a w q => absurd rfl (q.1 c)) D (fun j hj oj hoj => by
   have := List.all_eq_true.1 s4 j hj
   simp only [hoj, Bool.and_eq_true] at this
   obtain ⟨e, he, hb⟩ := Array.any_eq_true'.1 this.2
   simp only [Bool.and_eq_true, Bool.or_eq_true, beq_iff_eq, List.contains_iff_mem] at hb
   exact ⟨e, he, hb.1, hb.2⟩) g listed a w (Region.free_spec ho' s2) (fun j hj => by
   have := List.all_eq_true.1 s4 j hj
   simp only [Bool.and_eq_true, Bool.not_eq_true'] at this
   exact this.1) (fun j oj hoj hji hjD hun => by
   have := List.all_eq_true.1 s5 j (List.mem_range.2 (Array.getElem?_eq_some_iff.1 hoj).1)
   simp only [hoj, Bool.or_eq_true, beq_iff_eq, List.contains_iff_mem, hun, Bool.false_eq_true, false_or] at this
   rcases this with (q | q) | q
   ·exact absurd q hji
   ·exact absurd q hjD
   ·exact q) (by simpa using s3) hy hw
 rcases stepP_ok hT hrel hstep with ⟨c1, u, c2, c3⟩ | ⟨c1, c3⟩
 ·exact fin u (.inl ⟨c1, c2⟩) (h2 F φ _ w (c3.keep K))
 ·exact fin undef (.inr ⟨c1, rfl⟩) (h2 F φ _ w (c3.keep K))
end
end Go.AX
