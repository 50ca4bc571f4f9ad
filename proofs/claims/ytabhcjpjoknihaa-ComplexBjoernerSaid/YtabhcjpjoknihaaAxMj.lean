/-
  This seat's map of numbers and truth values. Conditions: none.
-/
import Derived.Test.YtabhcjpjoknihaaAxT
import Derived.Test.YtabhcjpjoknihaaAxMi
import Derived.KernelRfl
set_option linter.unusedSimpArgs false
set_option linter.unusedVariables false
namespace Go.AX
open Go Go.RowKit Go.Proofs

/-- How many have been put, and what is there. -/
abbrev MemoB := Nat × (Int → Bool)
abbrev memoB0 : MemoB := (0, fun _ => false)
abbrev MB (X : MemoB) : Array MapEntry → Nat → Prop := MapIsB Try.prog 3 4 X.1 X.2
theorem memoTyB : MapTyB Try.prog 127 3 4 := ⟨Try.underlying127, Try.underlying4, fun w => by kernel_rfl, Go.Maps.int_keyed Try.underlying3, Try.underlying3⟩

section
variable {w0 : World}
theorem AWPL_lookBQ (K : List Nat) (v : Int) {st : St} {all : Array Oper} {Q : Exit → St → Prop} {rest : List Oper} {o : Oper} {m x : Operand} {d id : Nat} {X : MemoB}
    (hop : o.op = .lookup 127 m x false) (hg : o.guard = none) (hdst : o.dst = some d) (hd : d < st.n) (hm : opd st.s m = .mp id) (hb : st.h[id]? = some (some (.xo (MB X)))) (hx : opd st.s x = .int .i64 v)
    (h : ∀ st', (⟨st.n, keepL K (putL st.s d (.bool (X.2 v))), st.h⟩ : St) = st' → AWPL Try.prog w0 all Q rest st') : AWPL Try.prog w0 all Q (o :: rest) st :=
  AWPL_lookB K v memoTyB hop hg hdst hd hm hb hx h
theorem AWQL_lookBQ (K : List Nat) (v : Int) {st : St} {all : Array Oper} {Q : Exit → St → Prop} {rest : List Oper} {o : Oper} {m x : Operand} {d id : Nat} {X : MemoB}
    (hop : o.op = .lookup 127 m x false) (hdst : o.dst = some d) (hpc : pcOf all st.s o.guard = (true, true)) (hd : d < st.n) (hm : sv (opd st.s m) = .mp id) (hsm : sc true (opd st.s m) = true) (hb : st.h[id]? = some (some (.xo (MB X)))) (hx : sv (opd st.s x) = .int .i64 v) (hsx : sc true (opd st.s x) = true)
    (h : ∀ st', (⟨st.n, keepL K (putL st.s d (.bool (X.2 v))), st.h⟩ : St) = st' → AWQL Try.prog w0 all Q rest st') : AWQL Try.prog w0 all Q (o :: rest) st :=
  AWQL_lookB K v memoTyB hop hdst hpc hd hm hsm hb hx hsx h
theorem AWQL_lookGQ (K : List Nat) (Pr : Prop) [Decidable Pr] (v : Int) {st : St} {all : Array Oper} {Q : Exit → St → Prop} {rest : List Oper} {o : Oper} {m x : Operand} {d id : Nat} {X : MemoB}
    (hop : o.op = .lookup 127 m x false) (hdst : o.dst = some d) (hpc : pcOf all st.s o.guard = (true, decide Pr)) (hd : d < st.n) (hm : sv (opd st.s m) = .mp id) (hsm : Pr → sc true (opd st.s m) = true) (hb : st.h[id]? = some (some (.xo (MB X)))) (hx : sv (opd st.s x) = .int .i64 v) (hsx : Pr → sc true (opd st.s x) = true)
    (h : ∀ st', (⟨st.n, keepL K (putL st.s d (.opt (decide Pr) (.bool (X.2 v)))), st.h⟩ : St) = st' → AWQL Try.prog w0 all Q rest st') : AWQL Try.prog w0 all Q (o :: rest) st :=
  AWQL_lookGP K Pr v memoTyB hop hdst hpc hd hm hsm hb hx hsx h
theorem AWPL_mputBQ (K : List Nat) (v : Int) (y : Bool) {st : St} {all : Array Oper} {Q : Exit → St → Prop} {rest : List Oper} {o : Oper} {m x u : Operand} {id : Nat} {X : MemoB}
    (hop : o.op = .mapUpdate 127 m x u) (hg : o.guard = none) (hdst : o.dst = none) (hm : opd st.s m = .mp id) (hb : st.h[id]? = some (some (.xo (MB X)))) (hx : opd st.s x = .int .i64 v) (hv : opd st.s u = .bool y) (hn : X.1 < 1000000000)
    (h : ∀ st', (⟨st.n, keepL K st.s, st.h.set id (some (.xo (MB (X.1 + 1, putB X.2 v y))))⟩ : St) = st' → AWPL Try.prog w0 all Q rest st') : AWPL Try.prog w0 all Q (o :: rest) st :=
  AWPL_mputB K v y memoTyB hop hg hdst hm hb hx hv (Nat.lt_of_lt_of_le hn (by decide)) h
theorem AWPL_mkmapBQ (K : List Nat) {st : St} {all : Array Oper} {Q : Exit → St → Prop} {rest : List Oper} {o : Oper} {d : Nat}
    (hop : o.op = .makeMap 127 none) (hg : o.guard = none) (hdst : o.dst = some d) (hd : d < st.n)
    (h : ∀ st', (⟨st.n, keepL K (putL st.s d (.mp st.h.length)), st.h ++ [some (.xo (MB memoB0))]⟩ : St) = st' → AWPL Try.prog w0 all Q rest st') : AWPL Try.prog w0 all Q (o :: rest) st :=
  AWPL_mkmapB K 3 4 hop hg hdst hd h
end
end Go.AX
