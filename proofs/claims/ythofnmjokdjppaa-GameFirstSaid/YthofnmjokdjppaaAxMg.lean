/-
  The game's table: a map whose keys are three numbers. Conditions: none.
-/
import Derived.Test.YthofnmjokdjppaaAxT
import Derived.Test.YthofnmjokdjppaaAxMp
import Derived.KernelRfl
set_option linter.unusedSimpArgs false
set_option linter.unusedVariables false
namespace Go.AX
open Go Go.RowKit Go.Proofs

/-- How many have been put, and what is there. -/
abbrev Memo := Nat × (List Int → Int)
abbrev memo0 : Memo := (0, fun _ => 0)
abbrev MQ (X : Memo) : Array MapEntry → Nat → Prop := MapIs Try.prog 91 3 3 X.1 X.2

open Go.WideMaps in
theorem arr91 : ArrKey Try.prog 91 3 3 := ⟨Try.underlying91, by kernel_rfl, by kernel_rfl, by kernel_rfl⟩
theorem keyed91 : Go.Maps.Keyed Try.prog 91 :=
  Go.Maps.Keyed.of_law (Go.deep_law_laid (m := 2) (by kernel_rfl) (by omega) (of_decide_eq_true (by kernel_rfl)) (by kernel_rfl) (by rw [Try.underlying91]))
theorem memoTy : MapTy Try.prog 77 91 3 3 := mapTy_three Try.underlying77 Try.underlying3 (fun w => by kernel_rfl) arr91 Try.underlying3 ⟨Try.prog.types.size - 1, by kernel_rfl⟩ keyed91

section
variable {w0 : World}
theorem AWPL_lookQ (K : List Nat) (a b c : Int) {st : St} {all : Array Oper} {Q : Exit → St → Prop} {rest : List Oper} {o : Oper} {m x : Operand} {d id : Nat} {X : Memo}
    (hop : o.op = .lookup 77 m x false) (hg : o.guard = none) (hdst : o.dst = some d) (hd : d < st.n) (hm : opd st.s m = .mp id) (hb : st.h[id]? = some (some (.xo (MQ X)))) (hx : opd st.s x = .agg [.int .i64 a, .int .i64 b, .int .i64 c])
    (h : ∀ st', (⟨st.n, keepL K (putL st.s d (.int .i64 (X.2 [a, b, c]))), st.h⟩ : St) = st' → AWPL Try.prog w0 all Q rest st') : AWPL Try.prog w0 all Q (o :: rest) st :=
  AWPL_look K [a, b, c] memoTy hop hg hdst hd hm hb hx rfl h
theorem AWPL_mputQ (K : List Nat) (a b c y : Int) {st : St} {all : Array Oper} {Q : Exit → St → Prop} {rest : List Oper} {o : Oper} {m x v : Operand} {id : Nat} {X : Memo}
    (hop : o.op = .mapUpdate 77 m x v) (hg : o.guard = none) (hdst : o.dst = none) (hm : opd st.s m = .mp id) (hb : st.h[id]? = some (some (.xo (MQ X)))) (hx : opd st.s x = .agg [.int .i64 a, .int .i64 b, .int .i64 c]) (hv : opd st.s v = .int .i64 y) (hn : X.1 < 1000000000)
    (h : ∀ st', (⟨st.n, keepL K st.s, st.h.set id (some (.xo (MQ (X.1 + 1, putF X.2 [a, b, c] y))))⟩ : St) = st' → AWPL Try.prog w0 all Q rest st') : AWPL Try.prog w0 all Q (o :: rest) st :=
  AWPL_mput K [a, b, c] y memoTy hop hg hdst hm hb hx rfl hv (Nat.lt_of_lt_of_le hn (by decide)) h
theorem AWPL_mkmapQ (K : List Nat) {st : St} {all : Array Oper} {Q : Exit → St → Prop} {rest : List Oper} {o : Oper} {d : Nat}
    (hop : o.op = .makeMap 77 none) (hg : o.guard = none) (hdst : o.dst = some d) (hd : d < st.n)
    (h : ∀ st', (⟨st.n, keepL K (putL st.s d (.mp st.h.length)), st.h ++ [some (.xo (MQ memo0))]⟩ : St) = st' → AWPL Try.prog w0 all Q rest st') : AWPL Try.prog w0 all Q (o :: rest) st :=
  AWPL_mkmap K 91 3 3 hop hg hdst hd h
theorem AWPL_build3Q (K : List Nat) (a b c : Int) {st : St} {all : Array Oper} {Q : Exit → St → Prop} {rest : List Oper} {o : Oper} {x y z : Operand} {d : Nat}
    (hop : o.op = .build 91 #[(0, x), (1, y), (2, z)]) (hg : o.guard = none) (hdst : o.dst = some d) (hd : d < st.n) (hx : opd st.s x = .int .i64 a) (hy : opd st.s y = .int .i64 b) (hz : opd st.s z = .int .i64 c)
    (h : ∀ st', (⟨st.n, keepL K (putL st.s d (.agg [.int .i64 a, .int .i64 b, .int .i64 c])), st.h⟩ : St) = st' → AWPL Try.prog w0 all Q rest st') : AWPL Try.prog w0 all Q (o :: rest) st :=
  AWPL_build3 K a b c hop hg hdst hd hx hy hz Try.underlying91 (fun w => by kernel_rfl) (fun w => by kernel_rfl) h
end
end Go.AX
