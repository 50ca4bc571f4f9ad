/-
  That the code computes these functions: codes_Critical_1, codes_each_1, codes_each, codes_Critical. By a program of mine (shal.py). Conditions: none.
-/
import Derived.Test.YtlpikingpnenkaaAxT
import Derived.Test.YtlpikingpnenkaaAxR
import Derived.Test.YtlpikingpnenkaaAxBg
import Derived.Test.YtlpikingpnenkaaAxFj
import Derived.Test.YtlpikingpnenkaaAxGc
import Derived.Test.YtlpikingpnenkaaAxCy
import Derived.Test.YtlpikingpnenkaaAxOp
import Derived.Test.YtlpikingpnenkaaSp
import Derived.Test.YtlpikingpnenkaaWpfield
import Derived.Test.YtlpikingpnenkaaWpkindsm
set_option linter.unusedVariables false
set_option linter.unusedSimpArgs false
set_option maxRecDepth 8000
set_option maxHeartbeats 4000000
namespace Go.SH
open Go Go.AX Go.AX.Try Go.Proofs


theorem W_codes_Critical_1 {w : List Int} {q0 : List (Bool)} {r : List (Bool)} (hK : codes_Critical_1 w q0 = some r) : InG Try.prog 84 [(.gen 97 1 [[.own 1 q0.length]]), (.gen 4 1 (List.map (fun e => [.bool e]) q0))] 1 (fun ls => match ls with | [pl0] => [.ints .i64 w, .ptr 0 0 0] | _ => []) (.tup []) [(.gen 97 1 [[.own 1 r.length]]), (.gen 4 1 (List.map (fun e => [.bool e]) r))] := by
  refine InG_intro tab_ok (n := 23) (l := []) Try.func84 rfl rfl rfl (fun ls => by first | (split <;> simp) | simp) (of_decide_eq_true rfl) (of_decide_eq_true rfl) rfl rfl rfl (by simp [renB, ren0, renI, List.range, List.range.loop]) (of_decide_eq_true rfl) (of_decide_eq_true rfl) fun w0 ls hls => ?_
  obtain ⟨pl0, rfl⟩ : ∃ pl0, ls = [pl0] := by
    match ls, hls with
    | [a], _ => exact ⟨a, rfl⟩
  simp only [pinL, List.map_cons, List.map_nil, List.cons_append, List.nil_append, Nat.zero_add, Nat.reduceAdd]
  unfold codes_Critical_1 at hK
  refine AWP_seq ?_
  refine AWP_rg tab_ok [0, 1, 3] fun c st' hr => ?_
  simp only [go_sem, idO_app, lenO_app, lenO_app2, lenO_eta] at hr
  obtain ⟨rfl, rfl⟩ := hr
  refine ⟨vc, ?_⟩
  with_reducible refine thenC_normal ?_
  refine AWP_seq ?_
  refine AWP_seq ?_
  refine AWP_rg tab_ok [1, 3, 6, 7, 8] fun c st' hr => ?_
  simp only [go_sem, idO_app, lenO_app, lenO_app2, lenO_eta] at hr
  obtain ⟨rfl, rfl⟩ := hr
  refine ⟨vc, ?_⟩
  with_reducible refine thenC_normal ?_
  refine AWP_block ?_
  refine AWP_loopX 0 (fun ((s, v) : Int × Int) => ⟨23, [(1, .ptr 0 0 0), (3, .int .i64 s), (6, .ints .i64 w), (7, .int .i64 (w.length : Int)), (8, .int .i64 v)], [some (.gen 97 1 [[.own 1 q0.length]]), some (.gen 4 1 (List.map (fun e => [.bool e]) q0)), some (.pin 0 pl0)]⟩) (fun (s1 : Int) => ⟨23, [(1, .ptr 0 0 0), (3, .int .i64 s1)], [some (.gen 97 1 [[.own 1 q0.length]]), some (.gen 4 1 (List.map (fun e => [.bool e]) q0)), some (.pin 0 pl0)]⟩) (fun v => v) (0, 0) [0, 1, 2] hK mkWkR ?_ ?_
  ·clear hK; rintro ⟨s, v⟩ b hK hpost1
   try dsimp only at hK
   change AWP _ _ _ _ ⟨23, [(1, .ptr 0 0 0), (3, .int .i64 s), (6, .ints .i64 w), (7, .int .i64 (w.length : Int)), (8, .int .i64 v)], [some (.gen 97 1 [[.own 1 q0.length]]), some (.gen 4 1 (List.map (fun e => [.bool e]) q0)), some (.pin 0 pl0)]⟩
   refine AWP_seq ?_
   refine AWP_rg tab_ok [1, 3, 6, 7, 8, 9] fun c st' hr => ?_
   simp only [go_sem, idO_app, lenO_app, lenO_app2, lenO_eta] at hr
   obtain ⟨rfl, rfl⟩ := hr
   refine ⟨vc, ?_⟩
   with_reducible refine thenC_normal ?_
   refine AWP_seq ?_
   refine AWP_condP (v < (w.length : Int)) rfl bd (fun hb => ?_) (fun hb => ?_)
   ·replace hK := ite_t hK hb
    refine AWP_skip ?_
    with_reducible refine thenC_normal ?_
    refine AWP_seq ?_
    refine AWP_block ?_
    refine AWP_seq ?_
    replace hK := chk_some hK
    obtain ⟨h, hK⟩ := hK
    refine AWP_rg tab_ok [1, 3, 4, 5, 6, 7, 8] fun c st' hr => ?_
    simp only [go_sem, idO_app, lenO_app, lenO_app2, lenO_eta] at hr
    obtain ⟨rfl, rfl⟩ := hr
    refine ⟨vc, ?_⟩
    with_reducible refine thenC_normal ?_
    replace hK := chk_some hK
    obtain ⟨h1, hK⟩ := hK
    refine AWP_rg tab_ok [1, 3, 6, 7, 8] fun c st' hr => ?_
    simp only [go_sem, idO_app, lenO_app, lenO_app2, lenO_eta] at hr
    obtain ⟨rfl, rfl⟩ := hr
    refine ⟨vc, ?_⟩
    with_reducible refine inBlockA_normal (thenC_normal ?_)
    refine AWP_facts (by simp) fun hfx => ?_
    simp only [factS, factV, fact1, fact0, factL0, lo, hi, maxLen, and_true, true_and] at hfx
    refine AWP_rg tab_ok [1, 3, 6, 7, 8] fun c st' hr => ?_
    simp only [go_sem, idO_app, lenO_app, lenO_app2, lenO_eta] at hr
    obtain ⟨rfl, rfl⟩ := hr
    refine ⟨vc, ?_⟩
    clear hfx
    refine again_n (ior s ((min (w.getD v.toNat 0) 1) * (2 ^ v.toNat : Int)), v + 1) [0, 1, 2] hK mkWkR
   ·replace hK := ite_f hK hb
    refine AWP_exit ?_
    with_reducible refine thenC_exit (again_x ?_)
    refine cutX_here s [0, 1, 2] (by have hq := hpost1 _ hK; exact hq) mkWkR
  ·clear hK; rintro s1 hK
   try dsimp only at hK
   refine exS ⟨23, [(1, .ptr 0 0 0), (3, .int .i64 s1)], [some (.gen 97 1 [[.own 1 q0.length]]), some (.gen 4 1 (List.map (fun e => [.bool e]) q0)), some (.pin 0 pl0)]⟩ rfl ?_
   with_reducible refine inBlockA_exit (thenC_normal ?_)
   refine AWP_rl ?_
   replace hK := chk_some hK
   obtain ⟨h2, hK⟩ := hK
   refine AWPL_rn tab_ok 4 [] fun c st' hr => ?_
   simp only [go_sem, idO_app, lenO_app, lenO_app2, lenO_eta, repB, setB1, dropB, List.take_zero, List.nil_append, List.append_nil, List.drop_zero, List.length_replicate, List.length_set] at hr
   obtain ⟨rfl, rfl⟩ := hr
   refine ⟨vc, ?_⟩
   refine AWPL_stE ⟨23, [], [some (.gen 97 1 [[.own 1 q0.length]]), some (.gen 4 1 (List.map (fun e => [.bool e]) (q0.set s1.toNat true))), some (.pin 0 pl0)]⟩ (by first | rfl | (simp; done) | (congr 3 <;> simp; done)) ?_
   refine AWPL_nil ?_
   cases hK
   refine EndsRW [0, 1, 2] (.inr rfl) (of_decide_eq_true rfl) (by simp) rfl (fun c x hr => ?_) endHR
   simp only [go_sem, idO_app, lenO_app, lenO_app2, lenO_eta] at hr
   obtain ⟨rfl, rfl⟩ := hr
   exact ⟨rfl, endR⟩


theorem WS_codes_each_1 {fuel : Nat} (ih : ∀ {k : Int} {c0_0 : Int} {c0_1 : Int} {c0_2 : List (List Int)} {c3_0 : Int} {c3_1 : Int} {c3_2 : List (List Int)} {q0 : List (Bool)} {q1 : List Int} {r : List (Bool) × List Int}, codes_each_1 fuel k c0_0 c0_1 c0_2 c3_0 c3_1 c3_2 q0 q1 = some r → InG Try.prog 138 [(.gen 97 1 [[.own 2 q0.length]]), (.gen 22 1 [[.own 3 q1.length]]), (.gen 4 1 (List.map (fun e => [.bool e]) q0)), (.ints 3 .i64 q1)] 2 (fun ls => match ls with | [pl0, pl1] => [.int .i64 k, .immp [.int .i64 c0_0, .int .i64 c0_1, .fn 1 c0_2.length (fun i => [.ints .i64 (c0_2.getD i [])])], .immp [.func 84 [.abs pl0 0 0]], .ptr 1 0 0, .immp [.int .i64 c3_0, .int .i64 c3_1, .fn 1 c3_2.length (fun i => [.ints .i64 (c3_2.getD i [])])], cycA 138 [.immp [.int .i64 c0_0, .int .i64 c0_1, .fn 1 c0_2.length (fun i => [.ints .i64 (c0_2.getD i [])])], .immp [.func 84 [.abs pl0 0 0]], .abs pl1 0 0, .immp [.int .i64 c3_0, .int .i64 c3_1, .fn 1 c3_2.length (fun i => [.ints .i64 (c3_2.getD i [])])]] fuel] | _ => []) (.tup []) [(.gen 97 1 [[.own 2 r.1.length]]), (.gen 22 1 [[.own 3 r.2.length]]), (.gen 4 1 (List.map (fun e => [.bool e]) r.1)), (.ints 3 .i64 r.2)]) {k : Int} {c0_0 : Int} {c0_1 : Int} {c0_2 : List (List Int)} {c3_0 : Int} {c3_1 : Int} {c3_2 : List (List Int)} {q0 : List (Bool)} {q1 : List Int} {r : List (Bool) × List Int} (hK : codes_each_1 (fuel + 1) k c0_0 c0_1 c0_2 c3_0 c3_1 c3_2 q0 q1 = some r) : InG Try.prog 138 [(.gen 97 1 [[.own 2 q0.length]]), (.gen 22 1 [[.own 3 q1.length]]), (.gen 4 1 (List.map (fun e => [.bool e]) q0)), (.ints 3 .i64 q1)] 2 (fun ls => match ls with | [pl0, pl1] => [.int .i64 k, .immp [.int .i64 c0_0, .int .i64 c0_1, .fn 1 c0_2.length (fun i => [.ints .i64 (c0_2.getD i [])])], .immp [.func 84 [.abs pl0 0 0]], .ptr 1 0 0, .immp [.int .i64 c3_0, .int .i64 c3_1, .fn 1 c3_2.length (fun i => [.ints .i64 (c3_2.getD i [])])], .immp [.func 138 [.immp [.int .i64 c0_0, .int .i64 c0_1, .fn 1 c0_2.length (fun i => [.ints .i64 (c0_2.getD i [])])], .immp [.func 84 [.abs pl0 0 0]], .abs pl1 0 0, .immp [.int .i64 c3_0, .int .i64 c3_1, .fn 1 c3_2.length (fun i => [.ints .i64 (c3_2.getD i [])])], cycA 138 [.immp [.int .i64 c0_0, .int .i64 c0_1, .fn 1 c0_2.length (fun i => [.ints .i64 (c0_2.getD i [])])], .immp [.func 84 [.abs pl0 0 0]], .abs pl1 0 0, .immp [.int .i64 c3_0, .int .i64 c3_1, .fn 1 c3_2.length (fun i => [.ints .i64 (c3_2.getD i [])])]] fuel]]] | _ => []) (.tup []) [(.gen 97 1 [[.own 2 r.1.length]]), (.gen 22 1 [[.own 3 r.2.length]]), (.gen 4 1 (List.map (fun e => [.bool e]) r.1)), (.ints 3 .i64 r.2)] := by
  refine InG_intro tab_ok (n := 50) (l := []) Try.func138 rfl rfl rfl (fun ls => by first | (split <;> simp) | simp) (of_decide_eq_true rfl) (of_decide_eq_true rfl) rfl rfl rfl (by simp [renB, ren0, renI, List.range, List.range.loop]) (of_decide_eq_true rfl) (of_decide_eq_true rfl) fun w0 ls hls => ?_
  obtain ⟨pl0, pl1, rfl⟩ : ∃ pl0 pl1, ls = [pl0, pl1] := by
    match ls, hls with
    | [a, b], _ => exact ⟨a, b, rfl⟩
  simp only [pinL, List.map_cons, List.map_nil, List.cons_append, List.nil_append, Nat.zero_add, Nat.reduceAdd]
  rw [codes_each_1.eq_2] at hK
  refine AWP_seq ?_
  refine AWP_seq ?_
  refine AWP_rg tab_ok [0, 1, 2, 3, 4, 5, 13] fun c st' hr => ?_
  simp only [go_sem] at hr
  obtain ⟨rfl, rfl⟩ := hr
  refine ⟨vc, ?_⟩
  with_reducible refine thenC_normal ?_
  refine AWP_condP (k = (c0_2.length : Int)) rfl bd (fun hb => ?_) (fun hb => ?_)
  ·replace hK := ite_t hK hb
   refine AWP_seq ?_
   refine AWP_rl ?_
   refine AWPL_rn tab_ok 2 [14, 15] fun c st' hr => ?_
   simp only [go_sem] at hr
   obtain ⟨rfl, rfl⟩ := hr
   refine ⟨vc, ?_⟩
   replace hK := bind_s hK
   obtain ⟨y, hy, hK⟩ := hK
   refine AWPL_gK [] [0, 2] [pl0] [some (.gen 97 1 [[.own 6 ((y).length)]]), some (.gen 22 1 [[.own 3 q1.length]]), none, some (.ints 3 .i64 q1), some (.pin 0 pl0), some (.pin 1 pl1), some (.gen 4 1 (List.map (fun e => [.bool e]) y))] (W_codes_Critical_1 hy) rfl rfl pcT rfl Try.call84 (of_decide_eq_true rfl) ⟨(by first | rfl | simp [renB, ren0, renI]), (by first | rfl | simp [renB, ren0, renI]), trivial⟩ ⟨⟨4, rfl⟩, trivial⟩ rfl (.cons (.ownI _ _ _ _ _ q1 rfl (by simp) (by first | simp | exact List.take_of_length_le (by simp))) (.abs 0 4 rfl rfl .nil)) (hscG trivial) (of_decide_eq_true rfl) rfl (by first | rfl | (simp [nIB, nI0]; done)) (of_decide_eq_true rfl) (by first | rfl | (simp [plG, setB, killL, renB, ren0, renI, sgm, List.range, List.range.loop]; done)) fun st' hr => ?_
   simp only [go_sem] at hr
   subst hr
   clear hy
   refine AWPL_nil ?_
   with_reducible refine thenC_normal ?_
   refine AWP_ret ?_
   with_reducible refine thenC_ret ?_
   cases hK
   refine EndsRW [0, 1, 6, 3, 4, 5] (.inl rfl) (of_decide_eq_true rfl) (by simp) rfl (fun c x hr => ?_) endH
   simp only [go_sem] at hr
   obtain ⟨rfl, rfl⟩ := hr
   exact ⟨rfl, endR⟩
  ·replace hK := ite_f hK hb
   refine AWP_skip ?_
   with_reducible refine thenC_normal ?_
   refine AWP_seq ?_
   refine AWP_rg tab_ok [0, 1, 3, 4, 5, 18, 19] fun c st' hr => ?_
   simp only [go_sem] at hr
   obtain ⟨rfl, rfl⟩ := hr
   refine ⟨vc, ?_⟩
   with_reducible refine thenC_normal ?_
   refine AWP_block ?_
   refine AWP_loopX 0 (fun ((q01, q11, v) : List (Bool) × List Int × Int) => ⟨50, [(0, .int .i64 k), (1, .immp [.int .i64 c0_0, .int .i64 c0_1, .fn 1 c0_2.length (fun i => [.ints .i64 (c0_2.getD i [])])]), (3, .ptr 1 0 0), (4, .immp [.int .i64 c3_0, .int .i64 c3_1, .fn 1 c3_2.length (fun i => [.ints .i64 (c3_2.getD i [])])]), (5, .immp [.func 138 [.immp [.int .i64 c0_0, .int .i64 c0_1, .fn 1 c0_2.length (fun i => [.ints .i64 (c0_2.getD i [])])], .immp [.func 84 [.abs pl0 0 0]], .abs pl1 0 0, .immp [.int .i64 c3_0, .int .i64 c3_1, .fn 1 c3_2.length (fun i => [.ints .i64 (c3_2.getD i [])])], cycA 138 [.immp [.int .i64 c0_0, .int .i64 c0_1, .fn 1 c0_2.length (fun i => [.ints .i64 (c0_2.getD i [])])], .immp [.func 84 [.abs pl0 0 0]], .abs pl1 0 0, .immp [.int .i64 c3_0, .int .i64 c3_1, .fn 1 c3_2.length (fun i => [.ints .i64 (c3_2.getD i [])])]] fuel]]), (18, .int .i64 c3_0), (19, .int .i64 v)], [some (.gen 97 1 [[.own 2 q01.length]]), some (.gen 22 1 [[.own 3 q11.length]]), some (.gen 4 1 (List.map (fun e => [.bool e]) q01)), some (.ints 3 .i64 q11), some (.pin 0 pl0), some (.pin 1 pl1)]⟩) (fun ((q02, q12) : List (Bool) × List Int) => ⟨50, [], [some (.gen 97 1 [[.own 2 q02.length]]), some (.gen 22 1 [[.own 3 q12.length]]), some (.gen 4 1 (List.map (fun e => [.bool e]) q02)), some (.ints 3 .i64 q12), some (.pin 0 pl0), some (.pin 1 pl1)]⟩) (fun v => v) (q0, q1, 0) [0, 1, 2, 3, 4, 5] hK mkWk ?_ ?_
   ·clear hK; rintro ⟨q01, q11, v⟩ b hK hpost1
    try dsimp only at hK
    change AWP _ _ _ _ ⟨50, [(0, .int .i64 k), (1, .immp [.int .i64 c0_0, .int .i64 c0_1, .fn 1 c0_2.length (fun i => [.ints .i64 (c0_2.getD i [])])]), (3, .ptr 1 0 0), (4, .immp [.int .i64 c3_0, .int .i64 c3_1, .fn 1 c3_2.length (fun i => [.ints .i64 (c3_2.getD i [])])]), (5, .immp [.func 138 [.immp [.int .i64 c0_0, .int .i64 c0_1, .fn 1 c0_2.length (fun i => [.ints .i64 (c0_2.getD i [])])], .immp [.func 84 [.abs pl0 0 0]], .abs pl1 0 0, .immp [.int .i64 c3_0, .int .i64 c3_1, .fn 1 c3_2.length (fun i => [.ints .i64 (c3_2.getD i [])])], cycA 138 [.immp [.int .i64 c0_0, .int .i64 c0_1, .fn 1 c0_2.length (fun i => [.ints .i64 (c0_2.getD i [])])], .immp [.func 84 [.abs pl0 0 0]], .abs pl1 0 0, .immp [.int .i64 c3_0, .int .i64 c3_1, .fn 1 c3_2.length (fun i => [.ints .i64 (c3_2.getD i [])])]] fuel]]), (18, .int .i64 c3_0), (19, .int .i64 v)], [some (.gen 97 1 [[.own 2 q01.length]]), some (.gen 22 1 [[.own 3 q11.length]]), some (.gen 4 1 (List.map (fun e => [.bool e]) q01)), some (.ints 3 .i64 q11), some (.pin 0 pl0), some (.pin 1 pl1)]⟩
    refine AWP_seq ?_
    refine AWP_rg tab_ok [0, 1, 3, 4, 5, 18, 19, 20] fun c st' hr => ?_
    simp only [go_sem] at hr
    obtain ⟨rfl, rfl⟩ := hr
    refine ⟨vc, ?_⟩
    with_reducible refine thenC_normal ?_
    refine AWP_seq ?_
    refine AWP_condP (v < c3_0) rfl bd (fun hb1 => ?_) (fun hb1 => ?_)
    ·replace hK := ite_t hK hb1
     refine AWP_skip ?_
     with_reducible refine thenC_normal ?_
     refine AWP_seq ?_
     refine AWP_block ?_
     refine AWP_seq ?_
     refine AWP_rl ?_
     replace hK := chk_some hK
     obtain ⟨h, hK⟩ := hK
     refine AWPL_rn tab_ok 3 [0, 1, 3, 4, 5, 18, 19, 21, 23] fun c st' hr => ?_
     simp only [go_sem] at hr
     obtain ⟨rfl, rfl⟩ := hr
     refine ⟨vc, ?_⟩
     replace hK := bind_s hK
     obtain ⟨y1, hy, hK⟩ := hK
     refine AWPL_gK [0, 1, 3, 4, 5, 18, 19] [0, 1, 2, 3] [pl0, pl1] [some (.gen 97 1 [[.own 6 ((y1.1).length)]]), some (.gen 22 1 [[.own 7 ((y1.2).length)]]), none, none, some (.pin 0 pl0), some (.pin 1 pl1), some (.gen 4 1 (List.map (fun e => [.bool e]) y1.1)), some (.ints 3 .i64 y1.2)] (ih hy) rfl rfl pcT rfl Try.call138 (of_decide_eq_true rfl) ⟨(by first | rfl | simp [renB, ren0, renI]), (by first | rfl | simp [renB, ren0, renI]), (by first | rfl | simp [renB, ren0, renI]), (by first | rfl | simp [renB, ren0, renI]), trivial⟩ ⟨⟨4, rfl⟩, ⟨5, rfl⟩, trivial⟩ rfl (.cons (.atom _ rfl) (.cons (.atom _ rfl) (.cons (.atom _ rfl) (.abs 1 5 rfl rfl (.cons (.atom _ rfl) (.cons (ArgOk.cycRefl _ _ _) .nil)))))) (hscG trivial) (of_decide_eq_true rfl) rfl (by first | rfl | (simp [nIB, nI0]; done)) (of_decide_eq_true rfl) (by first | rfl | (simp [plG, setB, killL, renB, ren0, renI, sgm, List.range, List.range.loop]; done)) fun st' hr => ?_
     simp only [go_sem] at hr
     subst hr
     clear hy
     refine AWPL_nil ?_
     with_reducible refine thenC_normal ?_
     refine AWP_seq ?_
     replace hK := chk_some hK
     obtain ⟨h1, hK⟩ := hK
     refine AWP_rg tab_ok [0, 1, 3, 4, 5, 18, 19, 29, 30, 31] fun c st' hr => ?_
     simp only [go_sem] at hr
     obtain ⟨rfl, rfl⟩ := hr
     refine ⟨vc, ?_⟩
     with_reducible refine thenC_normal ?_
     refine AWP_block ?_
     refine AWP_loopX 2 (fun ((q13, v1) : List Int × Int) => ⟨50, [(0, .int .i64 k), (1, .immp [.int .i64 c0_0, .int .i64 c0_1, .fn 1 c0_2.length (fun i => [.ints .i64 (c0_2.getD i [])])]), (3, .ptr 1 0 0), (4, .immp [.int .i64 c3_0, .int .i64 c3_1, .fn 1 c3_2.length (fun i => [.ints .i64 (c3_2.getD i [])])]), (5, .immp [.func 138 [.immp [.int .i64 c0_0, .int .i64 c0_1, .fn 1 c0_2.length (fun i => [.ints .i64 (c0_2.getD i [])])], .immp [.func 84 [.abs pl0 0 0]], .abs pl1 0 0, .immp [.int .i64 c3_0, .int .i64 c3_1, .fn 1 c3_2.length (fun i => [.ints .i64 (c3_2.getD i [])])], cycA 138 [.immp [.int .i64 c0_0, .int .i64 c0_1, .fn 1 c0_2.length (fun i => [.ints .i64 (c0_2.getD i [])])], .immp [.func 84 [.abs pl0 0 0]], .abs pl1 0 0, .immp [.int .i64 c3_0, .int .i64 c3_1, .fn 1 c3_2.length (fun i => [.ints .i64 (c3_2.getD i [])])]] fuel]]), (18, .int .i64 c3_0), (19, .int .i64 v), (29, .ints .i64 (c0_2.getD k.toNat [])), (30, .int .i64 ((c0_2.getD k.toNat []).length : Int)), (31, .int .i64 v1)], [some (.gen 97 1 [[.own 2 y1.1.length]]), some (.gen 22 1 [[.own 3 q13.length]]), some (.gen 4 1 (List.map (fun e => [.bool e]) y1.1)), some (.ints 3 .i64 q13), some (.pin 0 pl0), some (.pin 1 pl1)]⟩) (fun (q14 : List Int) => ⟨50, [(0, .int .i64 k), (1, .immp [.int .i64 c0_0, .int .i64 c0_1, .fn 1 c0_2.length (fun i => [.ints .i64 (c0_2.getD i [])])]), (3, .ptr 1 0 0), (4, .immp [.int .i64 c3_0, .int .i64 c3_1, .fn 1 c3_2.length (fun i => [.ints .i64 (c3_2.getD i [])])]), (5, .immp [.func 138 [.immp [.int .i64 c0_0, .int .i64 c0_1, .fn 1 c0_2.length (fun i => [.ints .i64 (c0_2.getD i [])])], .immp [.func 84 [.abs pl0 0 0]], .abs pl1 0 0, .immp [.int .i64 c3_0, .int .i64 c3_1, .fn 1 c3_2.length (fun i => [.ints .i64 (c3_2.getD i [])])], cycA 138 [.immp [.int .i64 c0_0, .int .i64 c0_1, .fn 1 c0_2.length (fun i => [.ints .i64 (c0_2.getD i [])])], .immp [.func 84 [.abs pl0 0 0]], .abs pl1 0 0, .immp [.int .i64 c3_0, .int .i64 c3_1, .fn 1 c3_2.length (fun i => [.ints .i64 (c3_2.getD i [])])]] fuel]]), (18, .int .i64 c3_0), (19, .int .i64 v)], [some (.gen 97 1 [[.own 2 y1.1.length]]), some (.gen 22 1 [[.own 3 q14.length]]), some (.gen 4 1 (List.map (fun e => [.bool e]) y1.1)), some (.ints 3 .i64 q14), some (.pin 0 pl0), some (.pin 1 pl1)]⟩) (fun v => v) (y1.2, 0) [0, 1, 6, 7, 4, 5] hK mkWk ?_ ?_
     ·clear hK; rintro ⟨q13, v1⟩ b1 hK hpost2
      try dsimp only at hK
      change AWP _ _ _ _ ⟨50, [(0, .int .i64 k), (1, .immp [.int .i64 c0_0, .int .i64 c0_1, .fn 1 c0_2.length (fun i => [.ints .i64 (c0_2.getD i [])])]), (3, .ptr 1 0 0), (4, .immp [.int .i64 c3_0, .int .i64 c3_1, .fn 1 c3_2.length (fun i => [.ints .i64 (c3_2.getD i [])])]), (5, .immp [.func 138 [.immp [.int .i64 c0_0, .int .i64 c0_1, .fn 1 c0_2.length (fun i => [.ints .i64 (c0_2.getD i [])])], .immp [.func 84 [.abs pl0 0 0]], .abs pl1 0 0, .immp [.int .i64 c3_0, .int .i64 c3_1, .fn 1 c3_2.length (fun i => [.ints .i64 (c3_2.getD i [])])], cycA 138 [.immp [.int .i64 c0_0, .int .i64 c0_1, .fn 1 c0_2.length (fun i => [.ints .i64 (c0_2.getD i [])])], .immp [.func 84 [.abs pl0 0 0]], .abs pl1 0 0, .immp [.int .i64 c3_0, .int .i64 c3_1, .fn 1 c3_2.length (fun i => [.ints .i64 (c3_2.getD i [])])]] fuel]]), (18, .int .i64 c3_0), (19, .int .i64 v), (29, .ints .i64 (c0_2.getD k.toNat [])), (30, .int .i64 ((c0_2.getD k.toNat []).length : Int)), (31, .int .i64 v1)], [some (.gen 97 1 [[.own 2 y1.1.length]]), some (.gen 22 1 [[.own 3 q13.length]]), some (.gen 4 1 (List.map (fun e => [.bool e]) y1.1)), some (.ints 3 .i64 q13), some (.pin 0 pl0), some (.pin 1 pl1)]⟩
      refine AWP_seq ?_
      refine AWP_rg tab_ok [0, 1, 3, 4, 5, 18, 19, 29, 30, 31, 32] fun c st' hr => ?_
      simp only [go_sem] at hr
      obtain ⟨rfl, rfl⟩ := hr
      refine ⟨vc, ?_⟩
      with_reducible refine thenC_normal ?_
      refine AWP_seq ?_
      refine AWP_condP (v1 < ((c0_2.getD k.toNat []).length : Int)) rfl bd (fun hb2 => ?_) (fun hb2 => ?_)
      ·replace hK := ite_t hK hb2
       refine AWP_skip ?_
       with_reducible refine thenC_normal ?_
       refine AWP_seq ?_
       refine AWP_block ?_
       refine AWP_seq ?_
       replace hK := chk_some hK
       obtain ⟨h2, hK⟩ := hK
       refine AWP_rg tab_ok [0, 1, 3, 4, 5, 7, 8, 18, 19, 29, 30, 31] fun c st' hr => ?_
       simp only [go_sem] at hr
       obtain ⟨rfl, rfl⟩ := hr
       refine ⟨vc, ?_⟩
       with_reducible refine thenC_normal ?_
       replace hK := chk_some hK
       obtain ⟨h3, hK⟩ := hK
       refine AWP_dt tab_ok 12 [0, 1, 3, 4, 5, 18, 19, 29, 30, 31] mixed (by kernel_rfl) fun c st' hr => ?_
       simp only [go_sem] at hr
       obtain ⟨rfl, rfl⟩ := hr
       refine ⟨vc, ?_⟩
       with_reducible refine inBlockA_normal (thenC_normal ?_)
       refine AWP_facts (by simp) fun hfx => ?_
       simp only [factS, factV, fact1, fact0, factL0, lo, hi, maxLen, and_true, true_and] at hfx
       refine AWP_rg tab_ok [0, 1, 3, 4, 5, 18, 19, 29, 30, 31] fun c st' hr => ?_
       simp only [go_sem] at hr
       obtain ⟨rfl, rfl⟩ := hr
       refine ⟨vc, ?_⟩
       clear hfx
       refine again_n (q13.set v1.toNat (Int.tmod ((q13.getD v1.toNat 0) + ((c0_2.getD k.toNat []).getD v1.toNat 0)) c3_0), v1 + 1) [0, 1, 2, 3, 4, 5] hK mkWk
      ·replace hK := ite_f hK hb2
       refine AWP_exit ?_
       with_reducible refine thenC_exit (again_x ?_)
       refine cutX_here q13 [0, 1, 2, 3, 4, 5] (by have hq := hpost2 _ hK; exact hq) mkWk
     ·clear hK; rintro q14 hK
      try dsimp only at hK
      refine exS ⟨50, [(0, .int .i64 k), (1, .immp [.int .i64 c0_0, .int .i64 c0_1, .fn 1 c0_2.length (fun i => [.ints .i64 (c0_2.getD i [])])]), (3, .ptr 1 0 0), (4, .immp [.int .i64 c3_0, .int .i64 c3_1, .fn 1 c3_2.length (fun i => [.ints .i64 (c3_2.getD i [])])]), (5, .immp [.func 138 [.immp [.int .i64 c0_0, .int .i64 c0_1, .fn 1 c0_2.length (fun i => [.ints .i64 (c0_2.getD i [])])], .immp [.func 84 [.abs pl0 0 0]], .abs pl1 0 0, .immp [.int .i64 c3_0, .int .i64 c3_1, .fn 1 c3_2.length (fun i => [.ints .i64 (c3_2.getD i [])])], cycA 138 [.immp [.int .i64 c0_0, .int .i64 c0_1, .fn 1 c0_2.length (fun i => [.ints .i64 (c0_2.getD i [])])], .immp [.func 84 [.abs pl0 0 0]], .abs pl1 0 0, .immp [.int .i64 c3_0, .int .i64 c3_1, .fn 1 c3_2.length (fun i => [.ints .i64 (c3_2.getD i [])])]] fuel]]), (18, .int .i64 c3_0), (19, .int .i64 v)], [some (.gen 97 1 [[.own 2 y1.1.length]]), some (.gen 22 1 [[.own 3 q14.length]]), some (.gen 4 1 (List.map (fun e => [.bool e]) y1.1)), some (.ints 3 .i64 q14), some (.pin 0 pl0), some (.pin 1 pl1)]⟩ rfl ?_
      with_reducible refine inBlockA_exit (inBlockA_normal (thenC_normal ?_))
      refine AWP_facts (by simp) fun hfx => ?_
      simp only [factS, factV, fact1, fact0, factL0, lo, hi, maxLen, and_true, true_and] at hfx
      refine AWP_rg tab_ok [0, 1, 3, 4, 5, 18, 19] fun c st' hr => ?_
      simp only [go_sem] at hr
      obtain ⟨rfl, rfl⟩ := hr
      refine ⟨vc, ?_⟩
      clear hfx
      refine again_n (y1.1, q14, v + 1) [0, 1, 2, 3, 4, 5] hK mkWk
    ·replace hK := ite_f hK hb1
     refine AWP_exit ?_
     with_reducible refine thenC_exit (again_x ?_)
     refine cutX_here (q01, q11) [0, 1, 2, 3, 4, 5] (by have hq := hpost1 _ hK; exact hq) mkWk
   ·clear hK; rintro ⟨q02, q12⟩ hK
    try dsimp only at hK
    refine exS ⟨50, [], [some (.gen 97 1 [[.own 2 q02.length]]), some (.gen 22 1 [[.own 3 q12.length]]), some (.gen 4 1 (List.map (fun e => [.bool e]) q02)), some (.ints 3 .i64 q12), some (.pin 0 pl0), some (.pin 1 pl1)]⟩ rfl ?_
    with_reducible refine inBlockA_exit ?_
    cases hK
    refine EndsRW [0, 1, 2, 3, 4, 5] (.inr rfl) (of_decide_eq_true rfl) (by simp) rfl (fun c x hr => ?_) endH
    simp only [go_sem] at hr
    obtain ⟨rfl, rfl⟩ := hr
    exact ⟨rfl, endR⟩

theorem W_codes_each_1 {fuel : Nat} {k : Int} {c0_0 : Int} {c0_1 : Int} {c0_2 : List (List Int)} {c3_0 : Int} {c3_1 : Int} {c3_2 : List (List Int)} {q0 : List (Bool)} {q1 : List Int} {r : List (Bool) × List Int} (hK : codes_each_1 fuel k c0_0 c0_1 c0_2 c3_0 c3_1 c3_2 q0 q1 = some r) : InG Try.prog 138 [(.gen 97 1 [[.own 2 q0.length]]), (.gen 22 1 [[.own 3 q1.length]]), (.gen 4 1 (List.map (fun e => [.bool e]) q0)), (.ints 3 .i64 q1)] 2 (fun ls => match ls with | [pl0, pl1] => [.int .i64 k, .immp [.int .i64 c0_0, .int .i64 c0_1, .fn 1 c0_2.length (fun i => [.ints .i64 (c0_2.getD i [])])], .immp [.func 84 [.abs pl0 0 0]], .ptr 1 0 0, .immp [.int .i64 c3_0, .int .i64 c3_1, .fn 1 c3_2.length (fun i => [.ints .i64 (c3_2.getD i [])])], cycA 138 [.immp [.int .i64 c0_0, .int .i64 c0_1, .fn 1 c0_2.length (fun i => [.ints .i64 (c0_2.getD i [])])], .immp [.func 84 [.abs pl0 0 0]], .abs pl1 0 0, .immp [.int .i64 c3_0, .int .i64 c3_1, .fn 1 c3_2.length (fun i => [.ints .i64 (c3_2.getD i [])])]] fuel] | _ => []) (.tup []) [(.gen 97 1 [[.own 2 r.1.length]]), (.gen 22 1 [[.own 3 r.2.length]]), (.gen 4 1 (List.map (fun e => [.bool e]) r.1)), (.ints 3 .i64 r.2)] := by
  induction fuel generalizing k c0_0 c0_1 c0_2 c3_0 c3_1 c3_2 q0 q1 r with
  | zero => cases hK
  | succ fuel ih => exact WS_codes_each_1 ih hK


theorem W_codes_each {x_0 : Int} {x_1 : Int} {x_2 : List (List Int)} {q0 : List (Bool)} {r : Int × List (Bool)} (hK : codes_each x_0 x_1 x_2 q0 = some r) : InG Try.prog 83 [(.gen 97 1 [[.own 1 q0.length]]), (.gen 4 1 (List.map (fun e => [.bool e]) q0))] 1 (fun ls => match ls with | [pl0] => [.agg [.int .i64 x_0, .int .i64 x_1, .fn 1 x_2.length (fun i => [.ints .i64 (x_2.getD i [])])], .func 84 [.abs pl0 0 0]] | _ => []) (.int .i64 r.1) [(.gen 97 1 [[.own 1 r.2.length]]), (.gen 4 1 (List.map (fun e => [.bool e]) r.2))] := by
  refine InG_intro tab_ok (n := 33) (l := [.tmp 4]) Try.func83 rfl rfl rfl (fun ls => by first | (split <;> simp) | simp) (of_decide_eq_true rfl) (of_decide_eq_true rfl) rfl rfl rfl (by simp [renB, ren0, renI, List.range, List.range.loop]) (of_decide_eq_true rfl) (of_decide_eq_true rfl) fun w0 ls hls => ?_
  obtain ⟨pl0, rfl⟩ : ∃ pl0, ls = [pl0] := by
    match ls, hls with
    | [a], _ => exact ⟨a, rfl⟩
  simp only [pinL, List.map_cons, List.map_nil, List.cons_append, List.nil_append, Nat.zero_add, Nat.reduceAdd]
  unfold codes_each at hK
  refine AWP_seq ?_
  refine AWP_rg tab_ok [2, 3] fun c st' hr => ?_
  simp only [go_sem, idO_app, lenO_app, lenO_app2, lenO_eta] at hr
  obtain ⟨rfl, rfl⟩ := hr
  refine ⟨vc, ?_⟩
  with_reducible refine thenC_normal ?_
  refine AWP_seq ?_
  refine AWP_freeze 2 3 (y := .immp [.int .i64 x_0, .int .i64 x_1, .fn 1 x_2.length (fun i => [.ints .i64 (x_2.getD i [])])]) rfl (.one (.ptrM _ _ _ _ _ _ _ rfl rfl rfl (ArgsOk.get (.cons (.atom _ rfl) (.cons (.atom _ rfl) (.cons (.atom _ rfl) .nil)))).2)) fun st' hr => ?_
  simp only [go_sem, idO_app, lenO_app, lenO_app2, lenO_eta, List.set_cons_zero, List.set_cons_succ] at hr
  subst hr
  refine AWP_freeze 3 4 (y := .immp [.func 84 [.abs pl0 0 0]]) rfl (.one (.ptrM _ _ _ _ _ _ [.func 84 [.abs pl0 0 0]] rfl rfl rfl (ArgsOk.get (.cons (.funcOf (.cons (.atom _ rfl) .nil)) .nil)).2)) fun st' hr => ?_
  simp only [go_sem, idO_app, lenO_app, lenO_app2, lenO_eta, List.set_cons_zero, List.set_cons_succ] at hr
  subst hr
  refine AWP_rl ?_
  refine AWPL_rn tab_ok 1 [2, 3, 11] fun c st' hr => ?_
  simp only [go_sem, idO_app, lenO_app, lenO_app2, lenO_eta] at hr
  obtain ⟨rfl, rfl⟩ := hr
  refine ⟨vc, ?_⟩
  replace hK := bind_s hK
  obtain ⟨y, hy, hK⟩ := hK
  refine AWPL_callK [2, 3, 12] (W_field_Reduced hy) rfl rfl pcT rfl Try.call137 (.cons (.agg _ _ rfl (ArgsOk.get (.cons (.atom _ rfl) (.cons (.atom _ rfl) (.cons (.atom _ rfl) .nil)))).2) .nil) (hscG trivial) (of_decide_eq_true rfl) (by first | rfl | simp [nI, nI1, nI0]) (by first | rfl | simp [nIB, nI0]) fun st' hr => ?_
  simp only [go_sem, idO_app, lenO_app, lenO_app2, lenO_eta] at hr
  subst hr
  clear hy
  refine AWPL_rn tab_ok 6 [2, 3, 5] fun c st' hr => ?_
  simp only [go_sem, idO_app, lenO_app, lenO_app2, lenO_eta] at hr
  obtain ⟨rfl, rfl⟩ := hr
  refine ⟨vc, ?_⟩
  refine AWPL_nil ?_
  with_reducible refine thenC_normal ?_
  refine AWP_seq ?_
  refine AWP_freezeJ 5 [7, 5, 6] (y := .immp [.int .i64 y.1, .int .i64 y.2.1, .fn 1 y.2.2.1.length (fun i => [.ints .i64 (y.2.2.1.getD i [])])]) (.one (.ptrM _ _ _ _ _ _ _ rfl rfl rfl (ArgsOk.get (.cons (.atom _ rfl) (.cons (.atom _ rfl) (.cons (matArg (X := y.2.2.1) (by first | rfl | (simp [getB, lenO_set]; done)) (by first | rfl | (simp [getB]; done)) (by first | rfl | (simp; done))) .nil)))).2)) fun st' hr => ?_
  refine AWP_stE ⟨_, [(2, .immp [.int .i64 x_0, .int .i64 x_1, .fn 1 x_2.length (fun i => [.ints .i64 (x_2.getD i [])])]), (3, .immp [.func 84 [.abs pl0 0 0]]), (5, .immp [.int .i64 y.1, .int .i64 y.2.1, .fn 1 y.2.2.1.length (fun i => [.ints .i64 (y.2.2.1.getD i [])])])], [some (.gen 97 1 [[.own 1 q0.length]]), some (.gen 4 1 (List.map (fun e => [.bool e]) q0)), some (.pin 0 pl0), none, none, none, none, none]⟩ (by rw [← hr]; rfl) ?_
  clear hr
  refine AWP_rg tab_ok [2, 3, 5, 7] fun c st' hr => ?_
  simp only [go_sem, idO_app, lenO_app, lenO_app2, lenO_eta] at hr
  obtain ⟨rfl, rfl⟩ := hr
  refine ⟨vc, ?_⟩
  with_reducible refine thenC_normal ?_
  refine AWP_seq ?_
  refine AWP_seq ?_
  refine AWP_rg tab_ok [2, 3, 5, 7, 17, 18] fun c st' hr => ?_
  simp only [go_sem, idO_app, lenO_app, lenO_app2, lenO_eta] at hr
  obtain ⟨rfl, rfl⟩ := hr
  refine ⟨vc, ?_⟩
  with_reducible refine thenC_normal ?_
  refine AWP_block ?_
  refine AWP_loopX 0 (fun ((n, v) : Int × Int) => ⟨33, [(2, .immp [.int .i64 x_0, .int .i64 x_1, .fn 1 x_2.length (fun i => [.ints .i64 (x_2.getD i [])])]), (3, .immp [.func 84 [.abs pl0 0 0]]), (5, .immp [.int .i64 y.1, .int .i64 y.2.1, .fn 1 y.2.2.1.length (fun i => [.ints .i64 (y.2.2.1.getD i [])])]), (7, .int .i64 n), (17, .int .i64 (y.2.2.1.length : Int)), (18, .int .i64 v)], [some (.gen 97 1 [[.own 1 q0.length]]), some (.gen 4 1 (List.map (fun e => [.bool e]) q0)), some (.pin 0 pl0)]⟩) (fun (n1 : Int) => ⟨33, [(2, .immp [.int .i64 x_0, .int .i64 x_1, .fn 1 x_2.length (fun i => [.ints .i64 (x_2.getD i [])])]), (3, .immp [.func 84 [.abs pl0 0 0]]), (5, .immp [.int .i64 y.1, .int .i64 y.2.1, .fn 1 y.2.2.1.length (fun i => [.ints .i64 (y.2.2.1.getD i [])])]), (7, .int .i64 n1)], [some (.gen 97 1 [[.own 1 q0.length]]), some (.gen 4 1 (List.map (fun e => [.bool e]) q0)), some (.pin 0 pl0)]⟩) (fun v => v) (1, 0) [0, 1, 2] hK mkWkR ?_ ?_
  ·clear hK; rintro ⟨n, v⟩ b hK hpost1
   try dsimp only at hK
   change AWP _ _ _ _ ⟨33, [(2, .immp [.int .i64 x_0, .int .i64 x_1, .fn 1 x_2.length (fun i => [.ints .i64 (x_2.getD i [])])]), (3, .immp [.func 84 [.abs pl0 0 0]]), (5, .immp [.int .i64 y.1, .int .i64 y.2.1, .fn 1 y.2.2.1.length (fun i => [.ints .i64 (y.2.2.1.getD i [])])]), (7, .int .i64 n), (17, .int .i64 (y.2.2.1.length : Int)), (18, .int .i64 v)], [some (.gen 97 1 [[.own 1 q0.length]]), some (.gen 4 1 (List.map (fun e => [.bool e]) q0)), some (.pin 0 pl0)]⟩
   refine AWP_seq ?_
   refine AWP_rg tab_ok [2, 3, 5, 7, 17, 18, 19] fun c st' hr => ?_
   simp only [go_sem, idO_app, lenO_app, lenO_app2, lenO_eta] at hr
   obtain ⟨rfl, rfl⟩ := hr
   refine ⟨vc, ?_⟩
   with_reducible refine thenC_normal ?_
   refine AWP_seq ?_
   refine AWP_condP (v < (y.2.2.1.length : Int)) rfl bd (fun hb => ?_) (fun hb => ?_)
   ·replace hK := ite_t hK hb
    refine AWP_skip ?_
    with_reducible refine thenC_normal ?_
    refine AWP_seq ?_
    refine AWP_block ?_
    replace hK := chk_some hK
    obtain ⟨h, hK⟩ := hK
    refine AWP_rg tab_ok [2, 3, 5, 7, 17, 18] fun c st' hr => ?_
    simp only [go_sem, idO_app, lenO_app, lenO_app2, lenO_eta] at hr
    obtain ⟨rfl, rfl⟩ := hr
    refine ⟨vc, ?_⟩
    with_reducible refine inBlockA_normal (thenC_normal ?_)
    replace hK := chk_some hK
    obtain ⟨h1, hK⟩ := hK
    refine AWP_rg tab_ok [2, 3, 5, 7, 17, 18] fun c st' hr => ?_
    simp only [go_sem, idO_app, lenO_app, lenO_app2, lenO_eta] at hr
    obtain ⟨rfl, rfl⟩ := hr
    refine ⟨vc, ?_⟩
    refine again_n (n * x_0, v + 1) [0, 1, 2] hK mkWkR
   ·replace hK := ite_f hK hb
    refine AWP_exit ?_
    with_reducible refine thenC_exit (again_x ?_)
    refine cutX_here n [0, 1, 2] (by have hq := hpost1 _ hK; exact hq) mkWkR
  ·clear hK; rintro n1 hK
   try dsimp only at hK
   refine exS ⟨33, [(2, .immp [.int .i64 x_0, .int .i64 x_1, .fn 1 x_2.length (fun i => [.ints .i64 (x_2.getD i [])])]), (3, .immp [.func 84 [.abs pl0 0 0]]), (5, .immp [.int .i64 y.1, .int .i64 y.2.1, .fn 1 y.2.2.1.length (fun i => [.ints .i64 (y.2.2.1.getD i [])])]), (7, .int .i64 n1)], [some (.gen 97 1 [[.own 1 q0.length]]), some (.gen 4 1 (List.map (fun e => [.bool e]) q0)), some (.pin 0 pl0)]⟩ rfl ?_
   with_reducible refine inBlockA_exit (thenC_normal ?_)
   refine AWP_seq ?_
   refine AWP_seq ?_
   refine AWP_rg tab_ok [2, 3, 5, 26] fun c st' hr => ?_
   simp only [go_sem, idO_app, lenO_app, lenO_app2, lenO_eta] at hr
   obtain ⟨rfl, rfl⟩ := hr
   refine ⟨vc, ?_⟩
   with_reducible refine thenC_normal ?_
   refine AWP_condP (20000 < n1) rfl bd (fun hb1 => ?_) (fun hb1 => ?_)
   ·replace hK := ite_t hK hb1
    refine AWP_seq ?_
    refine AWP_rg tab_ok [4] fun c st' hr => ?_
    simp only [go_sem, idO_app, lenO_app, lenO_app2, lenO_eta] at hr
    obtain ⟨rfl, rfl⟩ := hr
    refine ⟨vc, ?_⟩
    with_reducible refine thenC_normal ?_
    refine AWP_ret ?_
    with_reducible refine thenC_ret ?_
    cases hK
    refine EndsRW [0, 1, 2] (.inl rfl) (of_decide_eq_true rfl) (by simp) rfl (fun c x hr => ?_) endHR
    simp only [go_sem, idO_app, lenO_app, lenO_app2, lenO_eta] at hr
    obtain ⟨rfl, rfl⟩ := hr
    exact ⟨rfl, endR⟩
   ·replace hK := ite_f hK hb1
    refine AWP_skip ?_
    with_reducible refine thenC_normal ?_
    refine AWP_seq ?_
    refine AWP_rl ?_
    replace hK := chk_some hK
    obtain ⟨h2, hK⟩ := hK
    refine AWPL_rn tab_ok 5 [2, 3, 5, 8] fun c st' hr => ?_
    simp only [go_sem, idO_app, lenO_app, lenO_app2, lenO_eta] at hr
    obtain ⟨rfl, rfl⟩ := hr
    refine ⟨vc, ?_⟩
    refine AWPL_nil ?_
    with_reducible refine thenC_normal ?_
    refine AWP_seq ?_
    refine AWP_rg tab_ok [2, 3, 5, 8, 9] fun c st' hr => ?_
    simp only [go_sem, idO_app, lenO_app, lenO_app2, lenO_eta] at hr
    obtain ⟨rfl, rfl⟩ := hr
    refine ⟨vc, ?_⟩
    with_reducible refine thenC_normal ?_
    refine AWP_seq ?_
    refine AWP_rg tab_ok [9] fun c st' hr => ?_
    simp only [go_sem, idO_app, lenO_app, lenO_app2, lenO_eta] at hr
    obtain ⟨rfl, rfl⟩ := hr
    refine ⟨vc, ?_⟩
    with_reducible refine thenC_normal ?_
    refine AWP_seq ?_
    refine AWP_pin 4 rfl fun pl st' hr => ?_
    simp only [go_sem, idO_app, lenO_app, lenO_app2, lenO_eta, List.cons_append, List.nil_append] at hr
    subst hr
    refine AWP_freezeP 9 5 (y := .immp [.func 138 [.immp [.int .i64 y.1, .int .i64 y.2.1, .fn 1 y.2.2.1.length (fun i => [.ints .i64 (y.2.2.1.getD i [])])], .immp [.func 84 [.abs pl0 0 0]], .abs pl 0 0, .immp [.int .i64 x_0, .int .i64 x_1, .fn 1 x_2.length (fun i => [.ints .i64 (x_2.getD i [])])], cycA 138 [.immp [.int .i64 y.1, .int .i64 y.2.1, .fn 1 y.2.2.1.length (fun i => [.ints .i64 (y.2.2.1.getD i [])])], .immp [.func 84 [.abs pl0 0 0]], .abs pl 0 0, .immp [.int .i64 x_0, .int .i64 x_1, .fn 1 x_2.length (fun i => [.ints .i64 (x_2.getD i [])])]] 12]]) rfl (FrzP.cyc (src := [.immp [.int .i64 y.1, .int .i64 y.2.1, .fn 1 y.2.2.1.length (fun i => [.ints .i64 (y.2.2.1.getD i [])])], .immp [.func 84 [.abs pl0 0 0]], .ptr 4 0 0, .immp [.int .i64 x_0, .int .i64 x_1, .fn 1 x_2.length (fun i => [.ints .i64 (x_2.getD i [])])]]) rfl (.cons (.ok rfl (.atom _ rfl)) (.cons (.ok rfl (.atom _ rfl)) (.cons (.abs 6 _ _ _ _ rfl) (.cons (.ok rfl (.atom _ rfl)) .nil)))) 13) fun st' hr => ?_
    simp only [go_sem, idO_app, lenO_app, lenO_app2, lenO_eta, List.set_cons_zero, List.set_cons_succ] at hr
    subst hr
    refine AWP_rl ?_
    refine AWPL_rn tab_ok 1 [31] fun c st' hr => ?_
    simp only [go_sem, idO_app, lenO_app, lenO_app2, lenO_eta] at hr
    obtain ⟨rfl, rfl⟩ := hr
    refine ⟨vc, ?_⟩
    replace hK := bind_s hK
    obtain ⟨y1, hy, hK⟩ := hK
    refine AWPL_gK [] [0, 4, 1, 3] [pl0, pl] [some (.gen 97 1 [[.own 7 ((y1.1).length)]]), none, some (.pin 0 pl0), none, some (.gen 22 1 [[.own 8 ((y1.2).length)]]), none, some (.pin 4 pl), some (.gen 4 1 (List.map (fun e => [.bool e]) y1.1)), some (.ints 3 .i64 y1.2)] (W_codes_each_1 hy) rfl rfl pcT rfl Try.call138 (of_decide_eq_true rfl) ⟨(by first | rfl | simp [renB, ren0, renI]), (by first | rfl | simp [renB, ren0, renI]), (by first | rfl | simp [renB, ren0, renI]), (by first | rfl | simp [renB, ren0, renI]), trivial⟩ ⟨⟨2, rfl⟩, ⟨6, rfl⟩, trivial⟩ rfl (.cons (.atom _ rfl) (.cons (.atom _ rfl) (.cons (.atom _ rfl) (.abs 1 6 rfl rfl (.cons (.atom _ rfl) (.cons (ArgOk.cycRefl _ _ _) .nil)))))) (hscG trivial) (of_decide_eq_true rfl) rfl (by first | rfl | (simp [nIB, nI0]; done)) (of_decide_eq_true rfl) (by first | rfl | (simp [plG, setB, killL, renB, ren0, renI, sgm, List.range, List.range.loop]; done)) fun st' hr => ?_
    simp only [go_sem, idO_app, lenO_app, lenO_app2, lenO_eta] at hr
    subst hr
    clear hy
    refine AWPL_nil ?_
    with_reducible refine thenC_normal ?_
    refine AWP_seq ?_
    refine AWP_rg tab_ok [4] fun c st' hr => ?_
    simp only [go_sem, idO_app, lenO_app, lenO_app2, lenO_eta] at hr
    obtain ⟨rfl, rfl⟩ := hr
    refine ⟨vc, ?_⟩
    with_reducible refine thenC_normal ?_
    refine AWP_ret ?_
    cases hK
    refine EndsRW [0, 7, 2] (.inl rfl) (of_decide_eq_true rfl) (by simp) rfl (fun c x hr => ?_) endHR
    simp only [go_sem, idO_app, lenO_app, lenO_app2, lenO_eta] at hr
    obtain ⟨rfl, rfl⟩ := hr
    exact ⟨rfl, endR⟩


theorem W_codes_Critical {x_0 : Int} {x_1 : Int} {x_2 : List (List Int)} {r : Int × Int} (hK : codes_Critical x_0 x_1 x_2 = some r) : Pure Try.prog 33 [.agg [.int .i64 x_0, .int .i64 x_1, .fn 1 x_2.length (fun i => [.ints .i64 (x_2.getD i [])])]] (.tup [.int .i64 r.1, .int .i64 r.2]) [] := by
  refine Pure_introF tab_ok (n := 84) (l := [.tmp 2, .tmp 3]) Try.func33 rfl rfl rfl (by simp) fun hfact w0 => ?_
  simp only [factL1, fact1, fact0, factL0, lo, hi, maxLen, and_true] at hfact
  unfold codes_Critical at hK
  refine AWP_seq ?_
  refine AWP_rg tab_ok [1] fun c st' hr => ?_
  simp only [go_sem, idO_app, lenO_app, lenO_app2, lenO_eta] at hr
  obtain ⟨rfl, rfl⟩ := hr
  refine ⟨vc, ?_⟩
  with_reducible refine thenC_normal ?_
  refine AWP_seq ?_
  refine AWP_seq ?_
  refine AWP_rl ?_
  refine AWPL_rn tab_ok 1 [1, 12] fun c st' hr => ?_
  simp only [go_sem, idO_app, lenO_app, lenO_app2, lenO_eta] at hr
  obtain ⟨rfl, rfl⟩ := hr
  refine ⟨vc, ?_⟩
  replace hK := bind_s hK
  obtain ⟨y, hy, hK⟩ := hK
  refine AWPL_callK [1, 13] (W_kinds_CheckMatrix hy) rfl rfl pcT rfl Try.call82 (.cons (.agg _ _ rfl (ArgsOk.get (.cons (.atom _ rfl) (.cons (.atom _ rfl) (.cons (.atom _ rfl) .nil)))).2) .nil) (hscG trivial) (of_decide_eq_true rfl) (by first | rfl | simp [nI, nI1, nI0]) (by first | rfl | simp [nIB, nI0]) fun st' hr => ?_
  simp only [go_sem, idO_app, lenO_app, lenO_app2, lenO_eta] at hr
  subst hr
  clear hy
  refine AWPL_rn tab_ok 1 [1, 4] fun c st' hr => ?_
  simp only [go_sem, idO_app, lenO_app, lenO_app2, lenO_eta] at hr
  obtain ⟨rfl, rfl⟩ := hr
  refine ⟨vc, ?_⟩
  refine AWPL_nil ?_
  with_reducible refine thenC_normal ?_
  refine AWP_seq ?_
  refine AWP_rg tab_ok [1, 4, 15] fun c st' hr => ?_
  simp only [go_sem, idO_app, lenO_app, lenO_app2, lenO_eta] at hr
  obtain ⟨rfl, rfl⟩ := hr
  refine ⟨vc, ?_⟩
  with_reducible refine thenC_normal ?_
  refine AWP_condP (y ≠ 0) rfl bd (fun hb => ?_) (fun hb => ?_)
  ·replace hK := ite_t hK hb
   refine AWP_seq ?_
   refine AWP_rg tab_ok [2, 3] fun c st' hr => ?_
   simp only [go_sem, idO_app, lenO_app, lenO_app2, lenO_eta] at hr
   obtain ⟨rfl, rfl⟩ := hr
   refine ⟨vc, ?_⟩
   with_reducible refine thenC_normal ?_
   refine AWP_ret ?_
   with_reducible refine thenC_ret ?_
   cases hK
   refine EndsRW [] (.inl rfl) (of_decide_eq_true rfl) (by simp) rfl (fun c x hr => ?_) trivial
   simp only [go_sem, idO_app, lenO_app, lenO_app2, lenO_eta] at hr
   obtain ⟨rfl, rfl⟩ := hr
   exact ⟨rfl, endR⟩
  ·replace hK := ite_f hK hb
   refine AWP_skip ?_
   with_reducible refine thenC_normal ?_
   refine AWP_seq ?_
   refine AWP_rl ?_
   replace hK := chk_some hK
   obtain ⟨h, hK⟩ := hK
   refine AWPL_rn tab_ok 6 [1, 5] fun c st' hr => ?_
   simp only [go_sem, idO_app, lenO_app, lenO_app2, lenO_eta, repB, setB1, dropB, List.take_zero, List.nil_append, List.append_nil, List.drop_zero, List.length_replicate, List.length_set] at hr
   obtain ⟨rfl, rfl⟩ := hr
   refine ⟨vc, ?_⟩
   refine AWPL_stE ⟨84, [(1, .ptr 0 0 0), (5, .ptr 2 0 0)], [some (.gen 65 3 [[.int .i64 x_0, .int .i64 x_1, .fn 1 x_2.length (fun i => [.ints .i64 (x_2.getD i [])])]]), some (.gen 4 1 (List.map (fun e => [.bool e]) (List.replicate (2 ^ x_1.toNat : Int).toNat false))), some (.gen 97 1 [[.own 1 ((List.replicate (2 ^ x_1.toNat : Int).toNat false).length)]])]⟩ (by first | rfl | (simp; done) | (congr 3 <;> simp; done)) ?_
   refine AWPL_nil ?_
   with_reducible refine thenC_normal ?_
   refine AWP_seq ?_
   refine AWP_seq ?_
   refine AWP_pin 2 rfl fun pl st' hr => ?_
   simp only [go_sem, idO_app, lenO_app, lenO_app2, lenO_eta, List.cons_append, List.nil_append] at hr
   subst hr
   refine AWP_rl ?_
   refine AWPL_rn tab_ok 2 [1, 5, 21, 22] fun c st' hr => ?_
   simp only [go_sem, idO_app, lenO_app, lenO_app2, lenO_eta] at hr
   obtain ⟨rfl, rfl⟩ := hr
   refine ⟨vc, ?_⟩
   refine AWPL_abs 22 (.func 84 [.abs pl 0 0]) (AbsR.funcs (.cons (.abs 3 _ _ _ _ rfl) .nil)) fun st' hr => ?_
   simp only [go_sem, idO_app, lenO_app, lenO_app2, lenO_eta] at hr
   subst hr
   replace hK := bind_s hK
   obtain ⟨y1, hy, hK⟩ := hK
   refine AWPL_gK [1, 5, 23] [2, 1] [pl] [some (.gen 65 3 [[.int .i64 x_0, .int .i64 x_1, .fn 1 x_2.length (fun i => [.ints .i64 (x_2.getD i [])])]]), none, some (.gen 97 1 [[.own 4 ((y1.2).length)]]), some (.pin 2 pl), some (.gen 4 1 (List.map (fun e => [.bool e]) y1.2))] (W_codes_each hy) rfl rfl pcT rfl Try.call83 (of_decide_eq_true rfl) ⟨(by first | rfl | simp [renB, ren0, renI]), (by first | rfl | simp [renB, ren0, renI]), trivial⟩ ⟨⟨3, rfl⟩, trivial⟩ rfl (.cons (.agg _ _ rfl (ArgsOk.get (.cons (.atom _ rfl) (.cons (.atom _ rfl) (.cons (.atom _ rfl) .nil)))).2) (.cons (ArgOk.funcOf (.cons (.atom _ rfl) .nil)) .nil)) (hscG trivial) (of_decide_eq_true rfl) rfl (by first | rfl | (simp [nIB, nI0]; done)) (of_decide_eq_true rfl) (by first | rfl | (simp [plG, setB, killL, renB, ren0, renI, sgm, List.range, List.range.loop]; done)) fun st' hr => ?_
   simp only [go_sem, idO_app, lenO_app, lenO_app2, lenO_eta] at hr
   subst hr
   clear hy
   refine AWPL_rn tab_ok 1 [1, 5, 6] fun c st' hr => ?_
   simp only [go_sem, idO_app, lenO_app, lenO_app2, lenO_eta] at hr
   obtain ⟨rfl, rfl⟩ := hr
   refine ⟨vc, ?_⟩
   refine AWPL_nil ?_
   with_reducible refine thenC_normal ?_
   refine AWP_seq ?_
   refine AWP_rg tab_ok [1, 5, 6, 25] fun c st' hr => ?_
   simp only [go_sem, idO_app, lenO_app, lenO_app2, lenO_eta] at hr
   obtain ⟨rfl, rfl⟩ := hr
   refine ⟨vc, ?_⟩
   with_reducible refine thenC_normal ?_
   refine AWP_condP (y1.1 ≠ 0) rfl bd (fun hb1 => ?_) (fun hb1 => ?_)
   ·replace hK := ite_t hK hb1
    refine AWP_seq ?_
    refine AWP_rg tab_ok [2, 3] fun c st' hr => ?_
    simp only [go_sem, idO_app, lenO_app, lenO_app2, lenO_eta] at hr
    obtain ⟨rfl, rfl⟩ := hr
    refine ⟨vc, ?_⟩
    with_reducible refine thenC_normal ?_
    refine AWP_ret ?_
    with_reducible refine thenC_ret ?_
    cases hK
    refine EndsRW [] (.inl rfl) (of_decide_eq_true rfl) (by simp) rfl (fun c x hr => ?_) trivial
    simp only [go_sem, idO_app, lenO_app, lenO_app2, lenO_eta] at hr
    obtain ⟨rfl, rfl⟩ := hr
    exact ⟨rfl, endR⟩
   ·replace hK := ite_f hK hb1
    refine AWP_skip ?_
    with_reducible refine thenC_normal ?_
    refine AWP_seq ?_
    refine AWP_rl ?_
    replace hK := chk_some hK
    obtain ⟨h1, hK⟩ := hK
    refine AWPL_rn tab_ok 4 [1, 5, 7] fun c st' hr => ?_
    simp only [go_sem, idO_app, lenO_app, lenO_app2, lenO_eta, repB, setB1, dropB, List.take_zero, List.nil_append, List.append_nil, List.drop_zero, List.length_replicate, List.length_set] at hr
    obtain ⟨rfl, rfl⟩ := hr
    refine ⟨vc, ?_⟩
    refine AWPL_stE ⟨84, [(1, .ptr 0 0 0), (5, .ptr 2 0 0), (7, .own 5 ((List.replicate ((y1.2).length : Int).toNat false).length))], [some (.gen 65 3 [[.int .i64 x_0, .int .i64 x_1, .fn 1 x_2.length (fun i => [.ints .i64 (x_2.getD i [])])]]), none, some (.gen 97 1 [[.own 4 ((y1.2).length)]]), some (.pin 2 pl), some (.gen 4 1 (List.map (fun e => [.bool e]) y1.2)), some (.gen 4 1 (List.map (fun e => [.bool e]) (List.replicate ((y1.2).length : Int).toNat false)))]⟩ (by first | rfl | (simp; done) | (congr 3 <;> simp; done)) ?_
    refine AWPL_nil ?_
    with_reducible refine thenC_normal ?_
    refine AWP_seq ?_
    refine AWP_rl ?_
    replace hK := chk_some hK
    obtain ⟨h2, hK⟩ := hK
    refine AWPL_rn tab_ok 3 [1, 5, 7] fun c st' hr => ?_
    simp only [go_sem, idO_app, lenO_app, lenO_app2, lenO_eta, repB, setB1, dropB, List.take_zero, List.nil_append, List.append_nil, List.drop_zero, List.length_replicate, List.length_set] at hr
    obtain ⟨rfl, rfl⟩ := hr
    refine ⟨vc, ?_⟩
    refine AWPL_stE ⟨84, [(1, .ptr 0 0 0), (5, .ptr 2 0 0), (7, .own 5 ((List.replicate ((y1.2).length : Int).toNat false).length))], [some (.gen 65 3 [[.int .i64 x_0, .int .i64 x_1, .fn 1 x_2.length (fun i => [.ints .i64 (x_2.getD i [])])]]), none, some (.gen 97 1 [[.own 4 ((y1.2).length)]]), some (.pin 2 pl), some (.gen 4 1 (List.map (fun e => [.bool e]) y1.2)), some (.gen 4 1 (List.map (fun e => [.bool e]) ((List.replicate ((y1.2).length : Int).toNat false).set 0 true)))]⟩ (by first | rfl | (simp; done) | (congr 3 <;> simp; done)) ?_
    refine AWPL_nil ?_
    with_reducible refine thenC_normal ?_
    refine AWP_seq ?_
    refine AWP_seq ?_
    refine AWP_rg tab_ok [1, 5, 7, 8] fun c st' hr => ?_
    simp only [go_sem, idO_app, lenO_app, lenO_app2, lenO_eta] at hr
    obtain ⟨rfl, rfl⟩ := hr
    refine ⟨vc, ?_⟩
    with_reducible refine thenC_normal ?_
    refine AWP_block ?_
    refine AWP_loopX 0 (fun ((v, v1) : List (Bool) × Int) => ⟨84, [(1, .ptr 0 0 0), (5, .ptr 1 0 0), (7, .own 3 v.length), (8, .int .i64 v1)], [some (.gen 65 3 [[.int .i64 x_0, .int .i64 x_1, .fn 1 x_2.length (fun i => [.ints .i64 (x_2.getD i [])])]]), some (.gen 97 1 [[.own 2 y1.2.length]]), some (.gen 4 1 (List.map (fun e => [.bool e]) y1.2)), some (.gen 4 1 (List.map (fun e => [.bool e]) v))]⟩) (fun (_ : Unit) => ⟨84, [], []⟩) Sum.inl ((List.replicate ((y1.2).length : Int).toNat false).set 0 true, 0) [0, 2, 4, 5] hK mkWkR ?_ ?_
    ·clear hK; rintro ⟨v, v1⟩ b hK hpost1
     try dsimp only at hK
     change AWP _ _ _ _ ⟨84, [(1, .ptr 0 0 0), (5, .ptr 1 0 0), (7, .own 3 v.length), (8, .int .i64 v1)], [some (.gen 65 3 [[.int .i64 x_0, .int .i64 x_1, .fn 1 x_2.length (fun i => [.ints .i64 (x_2.getD i [])])]]), some (.gen 97 1 [[.own 2 y1.2.length]]), some (.gen 4 1 (List.map (fun e => [.bool e]) y1.2)), some (.gen 4 1 (List.map (fun e => [.bool e]) v))]⟩
     refine AWP_seq ?_
     refine AWP_seq ?_
     refine AWP_rg tab_ok [1, 5, 7, 8, 35] fun c st' hr => ?_
     simp only [go_sem, idO_app, lenO_app, lenO_app2, lenO_eta] at hr
     obtain ⟨rfl, rfl⟩ := hr
     refine ⟨vc, ?_⟩
     with_reducible refine thenC_normal ?_
     refine AWP_condP (v1 ≤ x_1) rfl bd (fun hb2 => ?_) (fun hb2 => ?_)
     ·replace hK := ite_t hK hb2
      refine AWP_skip ?_
      with_reducible refine thenC_normal ?_
      refine AWP_seq ?_
      refine AWP_block ?_
      refine AWP_seq ?_
      refine AWP_seq ?_
      refine AWP_rl ?_
      replace hK := chk_some hK
      obtain ⟨h3, hK⟩ := hK
      refine AWPL_rn tab_ok 6 [1, 5, 7, 8, 43] fun c st' hr => ?_
      have hlb := ldB (v) (((v.length : Int) - 1).toNat) (by first | omega | (simp only [List.length_set, List.length_replicate]; omega))
      simp only [go_sem, idO_app, lenO_app, lenO_app2, lenO_eta, repB, setB1, dropB, List.take_zero, List.nil_append, List.append_nil, List.drop_zero, List.length_replicate, List.length_set, hlb] at hr
      obtain ⟨rfl, rfl⟩ := hr
      refine ⟨vc, ?_⟩
      refine AWPL_stE ⟨84, [(1, .ptr 0 0 0), (5, .ptr 1 0 0), (7, .own 3 v.length), (8, .int .i64 v1), (43, .bool (v.getD (((v.length : Int) - 1).toNat) false))], [some (.gen 65 3 [[.int .i64 x_0, .int .i64 x_1, .fn 1 x_2.length (fun i => [.ints .i64 (x_2.getD i [])])]]), some (.gen 97 1 [[.own 2 y1.2.length]]), some (.gen 4 1 (List.map (fun e => [.bool e]) y1.2)), some (.gen 4 1 (List.map (fun e => [.bool e]) v))]⟩ (by first | rfl | (simp; done) | (congr 3 <;> simp; done)) ?_
      refine AWPL_nil ?_
      with_reducible refine thenC_normal ?_
      refine AWP_condP (v.getD (((v.length : Int) - 1).toNat) false = true) rfl bd (fun hb3 => ?_) (fun hb3 => ?_)
      ·replace hK := ite_t hK hb3
       refine AWP_seq ?_
       refine AWP_rg tab_ok [2, 3] fun c st' hr => ?_
       simp only [go_sem, idO_app, lenO_app, lenO_app2, lenO_eta] at hr
       obtain ⟨rfl, rfl⟩ := hr
       refine ⟨vc, ?_⟩
       with_reducible refine thenC_normal ?_
       refine AWP_ret ?_
       with_reducible refine thenC_ret (inBlockA_ret (thenC_ret (again_r (cutX_r (inBlockA_ret (thenC_ret ?_))))))
       replace hK := hpost1 _ hK
       try dsimp only at hK
       cases hK
       refine EndsRW [] (.inl rfl) (of_decide_eq_true rfl) (by simp) rfl (fun c x hr => ?_) trivial
       simp only [go_sem, idO_app, lenO_app, lenO_app2, lenO_eta] at hr
       obtain ⟨rfl, rfl⟩ := hr
       exact ⟨rfl, endR⟩
      ·replace hK := ite_f hK hb3
       refine AWP_skip ?_
       with_reducible refine thenC_normal ?_
       refine AWP_seq ?_
       refine AWP_rl ?_
       replace hK := chk_some hK
       obtain ⟨h4, hK⟩ := hK
       refine AWPL_rn tab_ok 4 [1, 5, 7, 8, 9] fun c st' hr => ?_
       simp only [go_sem, idO_app, lenO_app, lenO_app2, lenO_eta, repB, setB1, dropB, List.take_zero, List.nil_append, List.append_nil, List.drop_zero, List.length_replicate, List.length_set] at hr
       obtain ⟨rfl, rfl⟩ := hr
       refine ⟨vc, ?_⟩
       refine AWPL_stE ⟨84, [(1, .ptr 0 0 0), (5, .ptr 1 0 0), (7, .own 3 v.length), (8, .int .i64 v1), (9, .own 4 ((List.replicate (v.length : Int).toNat false).length))], [some (.gen 65 3 [[.int .i64 x_0, .int .i64 x_1, .fn 1 x_2.length (fun i => [.ints .i64 (x_2.getD i [])])]]), some (.gen 97 1 [[.own 2 y1.2.length]]), some (.gen 4 1 (List.map (fun e => [.bool e]) y1.2)), some (.gen 4 1 (List.map (fun e => [.bool e]) v)), some (.gen 4 1 (List.map (fun e => [.bool e]) (List.replicate (v.length : Int).toNat false)))]⟩ (by first | rfl | (simp; done) | (congr 3 <;> simp; done)) ?_
       refine AWPL_nil ?_
       with_reducible refine thenC_normal ?_
       refine AWP_seq ?_
       refine AWP_seq ?_
       refine AWP_rg tab_ok [1, 5, 7, 8, 9, 49, 50] fun c st' hr => ?_
       simp only [go_sem, idO_app, lenO_app, lenO_app2, lenO_eta] at hr
       obtain ⟨rfl, rfl⟩ := hr
       refine ⟨vc, ?_⟩
       with_reducible refine thenC_normal ?_
       refine AWP_block ?_
       refine AWP_loopX 2 (fun ((v2, v3) : List (Bool) × Int) => ⟨84, [(1, .ptr 0 0 0), (5, .ptr 1 0 0), (7, .own 3 v.length), (8, .int .i64 v1), (9, .own 4 v2.length), (49, .int .i64 (v.length : Int)), (50, .int .i64 v3)], [some (.gen 65 3 [[.int .i64 x_0, .int .i64 x_1, .fn 1 x_2.length (fun i => [.ints .i64 (x_2.getD i [])])]]), some (.gen 97 1 [[.own 2 y1.2.length]]), some (.gen 4 1 (List.map (fun e => [.bool e]) y1.2)), some (.gen 4 1 (List.map (fun e => [.bool e]) v)), some (.gen 4 1 (List.map (fun e => [.bool e]) v2))]⟩) (fun (v4 : List (Bool)) => ⟨84, [(1, .ptr 0 0 0), (5, .ptr 1 0 0), (8, .int .i64 v1), (9, .own 3 v4.length)], [some (.gen 65 3 [[.int .i64 x_0, .int .i64 x_1, .fn 1 x_2.length (fun i => [.ints .i64 (x_2.getD i [])])]]), some (.gen 97 1 [[.own 2 y1.2.length]]), some (.gen 4 1 (List.map (fun e => [.bool e]) y1.2)), some (.gen 4 1 (List.map (fun e => [.bool e]) v4))]⟩) (fun v => v) (List.replicate (v.length : Int).toNat false, 0) [0, 1, 2, 3, 4] hK mkWkR ?_ ?_
       ·clear hK; rintro ⟨v2, v3⟩ b1 hK hpost2
        try dsimp only at hK
        change AWP _ _ _ _ ⟨84, [(1, .ptr 0 0 0), (5, .ptr 1 0 0), (7, .own 3 v.length), (8, .int .i64 v1), (9, .own 4 v2.length), (49, .int .i64 (v.length : Int)), (50, .int .i64 v3)], [some (.gen 65 3 [[.int .i64 x_0, .int .i64 x_1, .fn 1 x_2.length (fun i => [.ints .i64 (x_2.getD i [])])]]), some (.gen 97 1 [[.own 2 y1.2.length]]), some (.gen 4 1 (List.map (fun e => [.bool e]) y1.2)), some (.gen 4 1 (List.map (fun e => [.bool e]) v)), some (.gen 4 1 (List.map (fun e => [.bool e]) v2))]⟩
        refine AWP_seq ?_
        refine AWP_rg tab_ok [1, 5, 7, 8, 9, 49, 50, 51] fun c st' hr => ?_
        simp only [go_sem, idO_app, lenO_app, lenO_app2, lenO_eta] at hr
        obtain ⟨rfl, rfl⟩ := hr
        refine ⟨vc, ?_⟩
        with_reducible refine thenC_normal ?_
        refine AWP_seq ?_
        refine AWP_condP (v3 < (v.length : Int)) rfl bd (fun hb4 => ?_) (fun hb4 => ?_)
        ·replace hK := ite_t hK hb4
         refine AWP_skip ?_
         with_reducible refine thenC_normal ?_
         refine AWP_seq ?_
         refine AWP_block ?_
         refine AWP_seq ?_
         refine AWP_rg tab_ok [1, 5, 7, 8, 9, 10, 49, 50] fun c st' hr => ?_
         simp only [go_sem, idO_app, lenO_app, lenO_app2, lenO_eta] at hr
         obtain ⟨rfl, rfl⟩ := hr
         refine ⟨vc, ?_⟩
         with_reducible refine thenC_normal ?_
         refine AWP_seq ?_
         refine AWP_rg tab_ok [1, 5, 7, 8, 9, 10, 49, 50, 54, 55] fun c st' hr => ?_
         simp only [go_sem, idO_app, lenO_app, lenO_app2, lenO_eta] at hr
         obtain ⟨rfl, rfl⟩ := hr
         refine ⟨vc, ?_⟩
         with_reducible refine thenC_normal ?_
         refine AWP_block ?_
         refine AWP_loopX 4 (fun ((v5, v6) : List (Bool) × Int) => ⟨84, [(1, .ptr 0 0 0), (5, .ptr 1 0 0), (7, .own 3 v.length), (8, .int .i64 v1), (9, .own 4 v5.length), (10, .int .i64 v3), (49, .int .i64 (v.length : Int)), (50, .int .i64 v3), (54, .int .i64 (y1.2.length : Int)), (55, .int .i64 v6)], [some (.gen 65 3 [[.int .i64 x_0, .int .i64 x_1, .fn 1 x_2.length (fun i => [.ints .i64 (x_2.getD i [])])]]), some (.gen 97 1 [[.own 2 y1.2.length]]), some (.gen 4 1 (List.map (fun e => [.bool e]) y1.2)), some (.gen 4 1 (List.map (fun e => [.bool e]) v)), some (.gen 4 1 (List.map (fun e => [.bool e]) v5))]⟩) (fun (v7 : List (Bool)) => ⟨84, [(1, .ptr 0 0 0), (5, .ptr 1 0 0), (7, .own 3 v.length), (8, .int .i64 v1), (9, .own 4 v7.length), (49, .int .i64 (v.length : Int)), (50, .int .i64 v3)], [some (.gen 65 3 [[.int .i64 x_0, .int .i64 x_1, .fn 1 x_2.length (fun i => [.ints .i64 (x_2.getD i [])])]]), some (.gen 97 1 [[.own 2 y1.2.length]]), some (.gen 4 1 (List.map (fun e => [.bool e]) y1.2)), some (.gen 4 1 (List.map (fun e => [.bool e]) v)), some (.gen 4 1 (List.map (fun e => [.bool e]) v7))]⟩) (fun v => v) (v2, 0) [0, 1, 2, 3, 4] hK mkWkR ?_ ?_
         ·clear hK; rintro ⟨v5, v6⟩ b2 hK hpost3
          try dsimp only at hK
          change AWP _ _ _ _ ⟨84, [(1, .ptr 0 0 0), (5, .ptr 1 0 0), (7, .own 3 v.length), (8, .int .i64 v1), (9, .own 4 v5.length), (10, .int .i64 v3), (49, .int .i64 (v.length : Int)), (50, .int .i64 v3), (54, .int .i64 (y1.2.length : Int)), (55, .int .i64 v6)], [some (.gen 65 3 [[.int .i64 x_0, .int .i64 x_1, .fn 1 x_2.length (fun i => [.ints .i64 (x_2.getD i [])])]]), some (.gen 97 1 [[.own 2 y1.2.length]]), some (.gen 4 1 (List.map (fun e => [.bool e]) y1.2)), some (.gen 4 1 (List.map (fun e => [.bool e]) v)), some (.gen 4 1 (List.map (fun e => [.bool e]) v5))]⟩
          refine AWP_seq ?_
          refine AWP_rg tab_ok [1, 5, 7, 8, 9, 10, 49, 50, 54, 55, 56] fun c st' hr => ?_
          simp only [go_sem, idO_app, lenO_app, lenO_app2, lenO_eta] at hr
          obtain ⟨rfl, rfl⟩ := hr
          refine ⟨vc, ?_⟩
          with_reducible refine thenC_normal ?_
          refine AWP_seq ?_
          refine AWP_condP (v6 < (y1.2.length : Int)) rfl bd (fun hb5 => ?_) (fun hb5 => ?_)
          ·replace hK := ite_t hK hb5
           refine AWP_skip ?_
           with_reducible refine thenC_normal ?_
           refine AWP_seq ?_
           refine AWP_block ?_
           refine AWP_seq ?_
           refine AWP_rg tab_ok [1, 5, 7, 8, 9, 10, 11, 49, 50, 54, 55] fun c st' hr => ?_
           simp only [go_sem, idO_app, lenO_app, lenO_app2, lenO_eta] at hr
           obtain ⟨rfl, rfl⟩ := hr
           refine ⟨vc, ?_⟩
           with_reducible refine thenC_normal ?_
           refine AWP_rl ?_
           replace hK := chk_some hK
           obtain ⟨h5, hK⟩ := hK
           refine AWPL_rn tab_ok 24 [1, 5, 7, 8, 9, 10, 49, 50, 54, 55] fun c st' hr => ?_
           have hlb1 := ldB (v5) ((ior v3 v6).toNat) (by first | omega | (simp only [List.length_set, List.length_replicate]; omega))
           have hlb2 := ldB (v) (v3.toNat) (by first | omega | (simp only [List.length_set, List.length_replicate]; omega))
           have hlb3 := ldB (y1.2) (v6.toNat) (by first | omega | (simp only [List.length_set, List.length_replicate]; omega))
           simp only [go_sem, idO_app, lenO_app, lenO_app2, lenO_eta, repB, setB1, dropB, List.take_zero, List.nil_append, List.append_nil, List.drop_zero, List.length_replicate, List.length_set, hlb1, hlb2, hlb3] at hr
           obtain ⟨rfl, rfl⟩ := hr
           refine ⟨(by clear hK; clear hlb1 hlb2 hlb3; obtain ⟨⟨h51, h51b⟩, h52, h53, h54, h55, h56⟩ := h5; generalize v5.getD (ior v3 v6).toNat false = p1 at *; generalize v.getD v3.toNat false = p2 at *; cases p1 <;> cases p2 <;> simp at h53 h55 ⊢ <;> omega), ?_⟩
           refine AWPL_stE ⟨84, [(1, .ptr 0 0 0), (5, .ptr 1 0 0), (7, .own 3 v.length), (8, .int .i64 v1), (9, .own 4 v5.length), (10, .int .i64 v3), (49, .int .i64 (v.length : Int)), (50, .int .i64 v3), (54, .int .i64 (y1.2.length : Int)), (55, .int .i64 v6)], [some (.gen 65 3 [[.int .i64 x_0, .int .i64 x_1, .fn 1 x_2.length (fun i => [.ints .i64 (x_2.getD i [])])]]), some (.gen 97 1 [[.own 2 y1.2.length]]), some (.gen 4 1 (List.map (fun e => [.bool e]) y1.2)), some (.gen 4 1 (List.map (fun e => [.bool e]) v)), some (.gen 4 1 (List.map (fun e => [.bool e]) (v5.set ((ior v3 v6).toNat) (decide ((v5.getD ((ior v3 v6).toNat) false = true ∨ (v.getD v3.toNat false = true ∧ y1.2.getD v6.toNat false = true)))))))]⟩ (by first | rfl | (simp; done) | (congr 3 <;> simp; done)) ?_
           refine AWPL_nil ?_
           with_reducible refine inBlockA_normal (thenC_normal ?_)
           replace hK := chk_some hK
           obtain ⟨h6, hK⟩ := hK
           refine AWP_rg tab_ok [1, 5, 7, 8, 9, 10, 49, 50, 54, 55] fun c st' hr => ?_
           simp only [go_sem, idO_app, lenO_app, lenO_app2, lenO_eta] at hr
           obtain ⟨rfl, rfl⟩ := hr
           refine ⟨vc, ?_⟩
           refine again_n (v5.set ((ior v3 v6).toNat) (decide ((v5.getD ((ior v3 v6).toNat) false = true ∨ (v.getD v3.toNat false = true ∧ y1.2.getD v6.toNat false = true)))), v6 + 1) [0, 1, 2, 3, 4] hK mkWkR
          ·replace hK := ite_f hK hb5
           refine AWP_exit ?_
           with_reducible refine thenC_exit (again_x ?_)
           refine cutX_here v5 [0, 1, 2, 3, 4] (by have hq := hpost3 _ hK; exact hq) mkWkR
         ·clear hK; rintro v7 hK
          try dsimp only at hK
          refine exS ⟨84, [(1, .ptr 0 0 0), (5, .ptr 1 0 0), (7, .own 3 v.length), (8, .int .i64 v1), (9, .own 4 v7.length), (49, .int .i64 (v.length : Int)), (50, .int .i64 v3)], [some (.gen 65 3 [[.int .i64 x_0, .int .i64 x_1, .fn 1 x_2.length (fun i => [.ints .i64 (x_2.getD i [])])]]), some (.gen 97 1 [[.own 2 y1.2.length]]), some (.gen 4 1 (List.map (fun e => [.bool e]) y1.2)), some (.gen 4 1 (List.map (fun e => [.bool e]) v)), some (.gen 4 1 (List.map (fun e => [.bool e]) v7))]⟩ rfl ?_
          with_reducible refine inBlockA_exit (inBlockA_normal (thenC_normal ?_))
          refine AWP_facts (by simp) fun hfx => ?_
          simp only [factS, factV, fact1, fact0, factL0, lo, hi, maxLen, and_true, true_and] at hfx
          refine AWP_rg tab_ok [1, 5, 7, 8, 9, 49, 50] fun c st' hr => ?_
          simp only [go_sem, idO_app, lenO_app, lenO_app2, lenO_eta] at hr
          obtain ⟨rfl, rfl⟩ := hr
          refine ⟨vc, ?_⟩
          clear hfx
          refine again_n (v7, v3 + 1) [0, 1, 2, 3, 4] hK mkWkR
        ·replace hK := ite_f hK hb4
         refine AWP_exit ?_
         with_reducible refine thenC_exit (again_x ?_)
         refine cutX_here v2 [0, 1, 2, 4] (by have hq := hpost2 _ hK; exact hq) mkWkR
       ·clear hK; rintro v4 hK
        try dsimp only at hK
        refine exS ⟨84, [(1, .ptr 0 0 0), (5, .ptr 1 0 0), (8, .int .i64 v1), (9, .own 3 v4.length)], [some (.gen 65 3 [[.int .i64 x_0, .int .i64 x_1, .fn 1 x_2.length (fun i => [.ints .i64 (x_2.getD i [])])]]), some (.gen 97 1 [[.own 2 y1.2.length]]), some (.gen 4 1 (List.map (fun e => [.bool e]) y1.2)), some (.gen 4 1 (List.map (fun e => [.bool e]) v4))]⟩ rfl ?_
        with_reducible refine inBlockA_exit (thenC_normal ?_)
        refine AWP_rg tab_ok [1, 5, 7, 8] fun c st' hr => ?_
        simp only [go_sem, idO_app, lenO_app, lenO_app2, lenO_eta] at hr
        obtain ⟨rfl, rfl⟩ := hr
        refine ⟨vc, ?_⟩
        with_reducible refine inBlockA_normal (thenC_normal ?_)
        replace hK := chk_some hK
        obtain ⟨h7, hK⟩ := hK
        refine AWP_rg tab_ok [1, 5, 7, 8] fun c st' hr => ?_
        simp only [go_sem, idO_app, lenO_app, lenO_app2, lenO_eta] at hr
        obtain ⟨rfl, rfl⟩ := hr
        refine ⟨vc, ?_⟩
        refine again_n (v4, v1 + 1) [0, 1, 2, 3] hK mkWkR
     ·replace hK := ite_f hK hb2
      refine AWP_exit ?_
      with_reducible refine thenC_exit (again_x ?_)
      refine cutX_here () [] (by have hq := hpost1 _ hK; exact hq) mkWkR
    ·clear hK; rintro _ hK
     try dsimp only at hK
     refine exS ⟨84, [], []⟩ rfl ?_
     with_reducible refine inBlockA_exit (thenC_normal ?_)
     refine AWP_seq ?_
     refine AWP_rg tab_ok [2, 3] fun c st' hr => ?_
     simp only [go_sem, idO_app, lenO_app, lenO_app2, lenO_eta] at hr
     obtain ⟨rfl, rfl⟩ := hr
     refine ⟨vc, ?_⟩
     with_reducible refine thenC_normal ?_
     refine AWP_ret ?_
     cases hK
     refine EndsRW [] (.inl rfl) (of_decide_eq_true rfl) (by simp) rfl (fun c x hr => ?_) trivial
     simp only [go_sem, idO_app, lenO_app, lenO_app2, lenO_eta] at hr
     obtain ⟨rfl, rfl⟩ := hr
     exact ⟨rfl, endR⟩

end Go.SH
