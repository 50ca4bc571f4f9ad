/-
  That the code computes these functions: rotabig_trim, rotabig_words, rotabig_Int_give, rotabig_Int_SetInt64, rotabig_NewInt, rotabig_twin, rotabig_Int_Set, rotabig_plain, rotabig_common, rotabig_cmp, rotabig_div, rotabig_Rat_norm, rotabig_Rat_SetFrac, rotabig_NewRat, rotabig_Rat_den_B, rotabig_mul, rotabig_Int_Mul_r, rotabig_Rat_den_A, rotabig_add, rotabig_sub, rotabig_sum, rotabig_Int_Add_r, rotabig_Rat_Add_A, rotabig_Rat_Add_B, rotabig_Rat_Add, rotabig_Int_Cmp, rotabig_Rat_Cmp_A, rotabig_Rat_Cmp_B, rotabig_Rat_Cmp. By a program of mine (shal.py). Conditions: none.
-/
import Derived.Test.YtlpikingpnenkaaAxT
import Derived.Test.YtlpikingpnenkaaAxR
import Derived.Test.YtlpikingpnenkaaAxGs
import Derived.Test.YtlpikingpnenkaaAxBg
import Derived.Test.YtlpikingpnenkaaAxWr
import Derived.Test.YtlpikingpnenkaaAxTx
import Derived.Test.YtlpikingpnenkaaAxTk
import Derived.Test.YtlpikingpnenkaaAxRx
import Derived.Test.YtlpikingpnenkaaAxGc
import Derived.Test.YtlpikingpnenkaaAxJm
import Derived.Test.YtlpikingpnenkaaAxW
import Derived.Test.YtlpikingpnenkaaSp
set_option linter.unusedVariables false
set_option linter.unusedSimpArgs false
set_option maxRecDepth 8000
set_option maxHeartbeats 4000000
namespace Go.SH
open Go Go.AX Go.AX.Try Go.Proofs


theorem W_rotabig_trim {a : List Int} {r : List Int} (hK : rotabig_trim a = some r) : InG Try.prog 167 [(.ints 186 .u32 a)] 0 (fun _ => [.own 0 a.length]) (.own 0 r.length) [(.ints 186 .u32 r)] := by
  refine InG_intro tab_ok (n := 21) (l := [.tmp 2]) Try.func167 rfl rfl rfl (fun ls => by first | (split <;> simp) | simp) (of_decide_eq_true rfl) (of_decide_eq_true rfl) rfl rfl rfl (by simp [renB, ren0, renI, List.range, List.range.loop]) (of_decide_eq_true rfl) (of_decide_eq_true rfl) fun w0 ls hls => ?_
  obtain rfl : ls = [] := List.eq_nil_of_length_eq_zero hls
  simp only [pinL, List.map_cons, List.map_nil, List.cons_append, List.nil_append, Nat.zero_add, Nat.reduceAdd]
  unfold rotabig_trim at hK
  refine AWP_seq ?_
  refine AWP_rg tab_ok [0] fun c st' hr => ?_
  simp only [go_sem] at hr
  obtain ⟨rfl, rfl⟩ := hr
  refine ⟨vc, ?_⟩
  with_reducible refine thenC_normal ?_
  refine AWP_seq ?_
  refine AWP_rg tab_ok [0, 3] fun c st' hr => ?_
  simp only [go_sem] at hr
  obtain ⟨rfl, rfl⟩ := hr
  refine ⟨vc, ?_⟩
  with_reducible refine thenC_normal ?_
  refine AWP_seq ?_
  refine AWP_block ?_
  refine AWP_loopX 0 (fun (n : Int) => ⟨21, [(0, .own 0 a.length), (3, .int .i64 n)], [some (.ints 186 .u32 a)]⟩) (fun (n1 : Int) => ⟨21, [(0, .own 0 a.length), (3, .int .i64 n1)], [some (.ints 186 .u32 a)]⟩) (fun v => v) (a.length : Int) [0] hK mkWk ?_ ?_
  ·clear hK; rintro n b hK hpost1
   try dsimp only at hK
   change AWP _ _ _ _ ⟨21, [(0, .own 0 a.length), (3, .int .i64 n)], [some (.ints 186 .u32 a)]⟩
   refine AWP_seq ?_
   refine AWP_seq ?_
   replace hK := chk_some hK
   obtain ⟨h, hK⟩ := hK
   refine AWP_rg tab_ok [0, 3, 15] fun c st' hr => ?_
   simp only [go_sem] at hr
   obtain ⟨rfl, rfl⟩ := hr
   refine ⟨vc, ?_⟩
   with_reducible refine thenC_normal ?_
   refine AWP_condP ((0 < n ∧ a.getD (n - 1).toNat 0 = 0)) rfl bd (fun hb => ?_) (fun hb => ?_)
   ·replace hK := ite_t hK hb
    refine AWP_skip ?_
    with_reducible refine thenC_normal ?_
    refine AWP_block ?_
    replace hK := chk_some hK
    obtain ⟨h1, hK⟩ := hK
    refine AWP_rg tab_ok [0, 3] fun c st' hr => ?_
    simp only [go_sem] at hr
    obtain ⟨rfl, rfl⟩ := hr
    refine ⟨vc, ?_⟩
    with_reducible refine inBlockA_normal ?_
    refine again_n (n - 1) [0] hK mkWk
   ·replace hK := ite_f hK hb
    refine AWP_exit ?_
    with_reducible refine thenC_exit (again_x ?_)
    refine cutX_here n [0] (by have hq := hpost1 _ hK; exact hq) mkWk
  ·clear hK; rintro n1 hK
   try dsimp only at hK
   refine exS ⟨21, [(0, .own 0 a.length), (3, .int .i64 n1)], [some (.ints 186 .u32 a)]⟩ rfl ?_
   with_reducible refine inBlockA_exit (thenC_normal ?_)
   refine AWP_seq ?_
   replace hK := chk_some hK
   obtain ⟨h2, hK⟩ := hK
   refine AWP_rg tab_ok [2] fun c st' hr => ?_
   simp only [go_sem] at hr
   obtain ⟨rfl, rfl⟩ := hr
   refine ⟨vc, ?_⟩
   with_reducible refine thenC_normal ?_
   refine AWP_gs' (gs_trunc 0 (n1.toNat) rfl) fun st' hr => ?_
   simp only [go_sem, List.set_cons_zero, List.set_cons_succ] at hr
   subst hr
   refine AWP_stP [(2, .own 0 ((List.take n1.toNat a).length))] ⟨by rw [take_len_le (by omega)]; rfl, trivial⟩ ?_
   refine AWP_ret ?_
   cases hK
   refine EndsRW [0] (.inl rfl) (of_decide_eq_true rfl) (by simp) rfl (fun c x hr => ?_) endH
   simp only [go_sem] at hr
   obtain ⟨rfl, rfl⟩ := hr
   exact ⟨rfl, endR⟩


theorem W_rotabig_words {x : Int} {r : List Int} (hK : rotabig_words x = some r) : Pure Try.prog 172 [.int .u64 x] (.own 0 r.length) [(.ints 186 .u32 r)] := by
  refine Pure_introF tab_ok (n := 10) (l := [.tmp 2]) Try.func172 rfl rfl rfl (by simp) fun hfact w0 => ?_
  simp only [factL1, fact1, fact0, factL0, lo, hi, maxLen, and_true] at hfact
  unfold rotabig_words at hK
  refine AWP_seq ?_
  refine AWP_rg tab_ok [0] fun c st' hr => ?_
  simp only [go_sem] at hr
  obtain ⟨rfl, rfl⟩ := hr
  refine ⟨vc, ?_⟩
  with_reducible refine thenC_normal ?_
  refine AWP_seq ?_
  refine AWP_rl ?_
  refine AWPL_rn tab_ok 1 [0, 3] fun c st' hr => ?_
  simp only [go_sem] at hr
  obtain ⟨rfl, rfl⟩ := hr
  refine ⟨vc, ?_⟩
  refine AWPL_wconv tab_ok [0, 4] rfl rfl pcT (of_decide_eq_true rfl) rfl rfl rfl fun st' hr => ?_
  simp only [go_sem] at hr
  subst hr
  refine AWPL_rn tab_ok 2 [4, 6] fun c st' hr => ?_
  simp only [go_sem] at hr
  obtain ⟨rfl, rfl⟩ := hr
  refine ⟨vc, ?_⟩
  refine AWPL_wconv tab_ok [4, 7] rfl rfl pcT (of_decide_eq_true rfl) rfl rfl rfl fun st' hr => ?_
  simp only [go_sem] at hr
  subst hr
  refine AWPL_rn tab_ok 1 [8] fun c st' hr => ?_
  simp only [go_sem] at hr
  obtain ⟨rfl, rfl⟩ := hr
  refine ⟨vc, ?_⟩
  refine AWPL_stP [(8, .own 0 ([IntKind.wrap .u32 x, IntKind.wrap .u32 (x / 2 ^ 32)].length))] (by simp [SameS, AX.look]) ?_
  replace hK := bind_s hK
  obtain ⟨y, hy, hK⟩ := hK
  refine AWPL_gR [9] [0] [.own 0 ([IntKind.wrap .u32 x, IntKind.wrap .u32 (x / 2 ^ 32)].length)] [none, some (.ints 186 .u32 y)] (r' := .own 1 y.length) (W_rotabig_trim hy) rfl rfl pcT rfl Try.call167 (of_decide_eq_true rfl) ⟨rfl, trivial⟩ rfl (hscG trivial) (of_decide_eq_true rfl) rfl rfl rfl (of_decide_eq_true rfl) rfl fun st' hr => ?_
  simp only [go_sem] at hr
  subst hr
  clear hy
  refine AWPL_rn tab_ok 1 [2] fun c st' hr => ?_
  simp only [go_sem] at hr
  obtain ⟨rfl, rfl⟩ := hr
  refine ⟨vc, ?_⟩
  refine AWPL_nil ?_
  with_reducible refine thenC_normal ?_
  refine AWP_ret ?_
  cases hK
  refine EndsRW [1] (.inl rfl) (of_decide_eq_true rfl) (by simp) rfl (fun c x hr => ?_) endH
  simp only [go_sem] at hr
  obtain ⟨rfl, rfl⟩ := hr
  exact ⟨rfl, endR⟩


theorem W_rotabig_Int_give {neg : Bool} {q0 : Bool × List Int} {a : List Int} {r : Bool × List Int} (hK : rotabig_Int_give neg q0 a = some r) : InG Try.prog 125 [(.gen 31 2 [[.bool q0.1, .own 1 q0.2.length]]), (.ints 186 .u32 q0.2), (.ints 186 .u32 a)] 1 (fun _ => [.ptr 0 0 0, .bool neg, .own 2 a.length]) (.ptr 0 0 0) [(.gen 31 2 [[.bool r.1, .own 1 r.2.length]]), (.ints 186 .u32 r.2)] := by
  refine InG_intro tab_ok (n := 21) (l := [.tmp 6]) Try.func125 rfl rfl rfl (fun ls => by first | (split <;> simp) | simp) (of_decide_eq_true rfl) (of_decide_eq_true rfl) rfl rfl rfl (by simp [renB, ren0, renI, List.range, List.range.loop]) (of_decide_eq_true rfl) (of_decide_eq_true rfl) fun w0 ls hls => ?_
  obtain ⟨pl0, rfl⟩ : ∃ pl0, ls = [pl0] := by
    match ls, hls with
    | [a], _ => exact ⟨a, rfl⟩
  simp only [pinL, List.map_cons, List.map_nil, List.cons_append, List.nil_append, Nat.zero_add, Nat.reduceAdd]
  unfold rotabig_Int_give at hK
  refine AWP_seq ?_
  refine AWP_rg tab_ok [0, 1, 2] fun c st' hr => ?_
  simp only [go_sem] at hr
  obtain ⟨rfl, rfl⟩ := hr
  refine ⟨vc, ?_⟩
  with_reducible refine thenC_normal ?_
  refine AWP_seq ?_
  refine AWP_rg tab_ok [0, 1, 2] fun c st' hr => ?_
  simp only [go_sem] at hr
  obtain ⟨rfl, rfl⟩ := hr
  refine ⟨vc, ?_⟩
  with_reducible refine thenC_normal ?_
  refine AWP_seq ?_
  refine AWP_rg tab_ok [0] fun c st' hr => ?_
  simp only [go_sem] at hr
  obtain ⟨rfl, rfl⟩ := hr
  refine ⟨vc, ?_⟩
  with_reducible refine thenC_normal ?_
  refine AWP_seq ?_
  refine AWP_rg tab_ok [6] fun c st' hr => ?_
  simp only [go_sem] at hr
  obtain ⟨rfl, rfl⟩ := hr
  refine ⟨vc, ?_⟩
  with_reducible refine thenC_normal ?_
  refine AWP_ret ?_
  cases hK
  refine EndsRW [0, 2, 3] (.inl rfl) (of_decide_eq_true rfl) (by simp) rfl (fun c x hr => ?_) endH
  simp only [go_sem] at hr
  obtain ⟨rfl, rfl⟩ := hr
  exact ⟨rfl, endR⟩


theorem W_rotabig_Int_SetInt64 {x : Int} {q0 : Bool × List Int} {r : Bool × List Int} (hK : rotabig_Int_SetInt64 x q0 = some r) : InG Try.prog 130 [(.gen 31 2 [[.bool q0.1, .own 1 q0.2.length]]), (.ints 186 .u32 q0.2)] 1 (fun _ => [.ptr 0 0 0, .int .i64 x]) (.ptr 0 0 0) [(.gen 31 2 [[.bool r.1, .own 1 r.2.length]]), (.ints 186 .u32 r.2)] := by
  refine InG_intro tab_ok (n := 18) (l := [.tmp 4]) Try.func130 rfl rfl rfl (fun ls => by first | (split <;> simp) | simp) (of_decide_eq_true rfl) (of_decide_eq_true rfl) rfl rfl rfl (by simp [renB, ren0, renI, List.range, List.range.loop]) (of_decide_eq_true rfl) (of_decide_eq_true rfl) fun w0 ls hls => ?_
  obtain ⟨pl0, rfl⟩ : ∃ pl0, ls = [pl0] := by
    match ls, hls with
    | [a], _ => exact ⟨a, rfl⟩
  simp only [pinL, List.map_cons, List.map_nil, List.cons_append, List.nil_append, Nat.zero_add, Nat.reduceAdd]
  unfold rotabig_Int_SetInt64 at hK
  refine AWP_seq ?_
  refine AWP_rg tab_ok [0, 1] fun c st' hr => ?_
  simp only [go_sem] at hr
  obtain ⟨rfl, rfl⟩ := hr
  refine ⟨vc, ?_⟩
  with_reducible refine thenC_normal ?_
  refine AWP_seq ?_
  refine AWP_rl ?_
  refine AWPL_rn tab_ok 1 [0, 1, 6] fun c st' hr => ?_
  simp only [go_sem] at hr
  obtain ⟨rfl, rfl⟩ := hr
  refine ⟨vc, ?_⟩
  refine AWPL_wconv tab_ok [0, 1, 7] rfl rfl pcT (of_decide_eq_true rfl) rfl rfl rfl fun st' hr => ?_
  simp only [go_sem] at hr
  subst hr
  refine AWPL_rn tab_ok 1 [0, 1, 5] fun c st' hr => ?_
  simp only [go_sem] at hr
  obtain ⟨rfl, rfl⟩ := hr
  refine ⟨vc, ?_⟩
  refine AWPL_nil ?_
  with_reducible refine thenC_normal ?_
  refine AWP_seqJ (fun u => ⟨18, [(0, .ptr 0 0 0), (1, .int .i64 x), (5, .int .u64 u)], [some (.gen 31 2 [[.bool q0.1, .own 1 q0.2.length]]), some (.ints 186 .u32 q0.2), some (.pin 0 pl0)]⟩) hK ?_ ?_
  ·clear hK; intro j hK; try dsimp only at hK
   refine AWP_seq ?_
   refine AWP_rg tab_ok [0, 1, 5, 9] fun c st' hr => ?_
   simp only [go_sem] at hr
   obtain ⟨rfl, rfl⟩ := hr
   refine ⟨vc, ?_⟩
   with_reducible refine thenC_normal ?_
   refine AWP_condP (x < 0) rfl bd (fun hb => ?_) (fun hb => ?_)
   ·replace hK := ite_t hK hb
    refine AWP_rl ?_
    refine AWPL_rn tab_ok 1 [0, 1, 10] fun c st' hr => ?_
    simp only [go_sem] at hr
    obtain ⟨rfl, rfl⟩ := hr
    refine ⟨vc, ?_⟩
    refine AWPL_wneg [0, 1, 11] rfl rfl pcT (of_decide_eq_true rfl) rfl fun st' hr => ?_
    simp only [go_sem] at hr
    subst hr
    refine AWPL_rn tab_ok 1 [0, 1, 5] fun c st' hr => ?_
    simp only [go_sem] at hr
    obtain ⟨rfl, rfl⟩ := hr
    refine ⟨vc, ?_⟩
    refine AWPL_nil ?_
    refine join_n (IntKind.wrap .u64 (-(IntKind.wrap .u64 x))) [0, 1, 2] hK mkWk
   ·replace hK := ite_f hK hb
    refine AWP_skip ?_
    refine join_n (IntKind.wrap .u64 x) [0, 1, 2] hK mkWk
  ·clear hK; intro u hK
   try dsimp only at hK
   change AWP _ _ _ _ ⟨18, [(0, .ptr 0 0 0), (1, .int .i64 x), (5, .int .u64 u)], [some (.gen 31 2 [[.bool q0.1, .own 1 q0.2.length]]), some (.ints 186 .u32 q0.2), some (.pin 0 pl0)]⟩
   refine AWP_seq ?_
   refine AWP_rl ?_
   refine AWPL_rn tab_ok 4 [12, 14, 15] fun c st' hr => ?_
   simp only [go_sem] at hr
   obtain ⟨rfl, rfl⟩ := hr
   refine ⟨vc, ?_⟩
   replace hK := bind_s hK
   obtain ⟨y, hy, hK⟩ := hK
   refine AWPL_callK [12, 14, 16] (W_rotabig_words hy) rfl rfl pcT rfl Try.call172 (.cons (.atom _ rfl) .nil) (hscG trivial) (of_decide_eq_true rfl) (by first | rfl | simp [nI, nI1, nI0]) (by first | rfl | simp [nIB, nI0]) fun st' hr => ?_
   simp only [go_sem] at hr
   subst hr
   clear hy
   replace hK := bind_s hK
   obtain ⟨y1, hy, hK⟩ := hK
   refine AWPL_gR [17] [0, 1, 3] [.ptr 0 0 0, .bool (decide (x < 0)), .own 2 y.length] [some (.gen 31 2 [[.bool y1.1, .own 4 y1.2.length]]), none, some (.pin 0 pl0), none, some (.ints 186 .u32 y1.2)] (r' := .ptr 0 0 0) (W_rotabig_Int_give hy) rfl rfl pcT rfl Try.call125 (of_decide_eq_true rfl) ⟨rfl, rfl, rfl, trivial⟩ rfl (hscG trivial) (of_decide_eq_true rfl) rfl rfl rfl (of_decide_eq_true rfl) rfl fun st' hr => ?_
   simp only [go_sem] at hr
   subst hr
   clear hy
   refine AWPL_rn tab_ok 1 [4] fun c st' hr => ?_
   simp only [go_sem] at hr
   obtain ⟨rfl, rfl⟩ := hr
   refine ⟨vc, ?_⟩
   refine AWPL_nil ?_
   with_reducible refine thenC_normal ?_
   refine AWP_ret ?_
   cases hK
   refine EndsRW [0, 4, 2] (.inl rfl) (of_decide_eq_true rfl) (by simp) rfl (fun c x hr => ?_) endH
   simp only [go_sem] at hr
   obtain ⟨rfl, rfl⟩ := hr
   exact ⟨rfl, endR⟩


theorem W_rotabig_NewInt {x : Int} {r : Bool × List Int} (hK : rotabig_NewInt x = some r) : Pure Try.prog 68 [.int .i64 x] (.ptr 0 0 0) [(.gen 31 2 [[.bool r.1, .own 1 r.2.length]]), (.ints 186 .u32 r.2)] := by
  refine Pure_introF tab_ok (n := 6) (l := [.tmp 2]) Try.func68 rfl rfl rfl (by simp) fun hfact w0 => ?_
  simp only [factL1, fact1, fact0, factL0, lo, hi, maxLen, and_true] at hfact
  unfold rotabig_NewInt at hK
  refine AWP_seq ?_
  refine AWP_rg tab_ok [0] fun c st' hr => ?_
  simp only [go_sem] at hr
  obtain ⟨rfl, rfl⟩ := hr
  refine ⟨vc, ?_⟩
  with_reducible refine thenC_normal ?_
  refine AWP_seq ?_
  refine AWP_rl ?_
  refine AWPL_rn tab_ok 2 [3, 4] fun c st' hr => ?_
  simp only [go_sem] at hr
  obtain ⟨rfl, rfl⟩ := hr
  refine ⟨vc, ?_⟩
  refine AWPL_gs' (gs_ownH 0 1 (.ints 186 .u32 []) rfl rfl rfl) fun st' hr => ?_
  simp only [go_sem, List.cons_append, List.nil_append, List.set_cons_zero, List.set_cons_succ] at hr
  subst hr
  replace hK := bind_s hK
  obtain ⟨y, hy, hK⟩ := hK
  refine AWPL_gR [5] [0, 1] [.ptr 0 0 0, .int .i64 x] [some (.gen 31 2 [[.bool y.1, .own 2 y.2.length]]), none, some (.ints 186 .u32 y.2)] (r' := .ptr 0 0 0) (W_rotabig_Int_SetInt64 hy) rfl rfl pcT rfl Try.call130 (of_decide_eq_true rfl) ⟨rfl, rfl, trivial⟩ rfl (hscG trivial) (of_decide_eq_true rfl) rfl rfl rfl (of_decide_eq_true rfl) rfl fun st' hr => ?_
  simp only [go_sem] at hr
  subst hr
  clear hy
  refine AWPL_rn tab_ok 1 [2] fun c st' hr => ?_
  simp only [go_sem] at hr
  obtain ⟨rfl, rfl⟩ := hr
  refine ⟨vc, ?_⟩
  refine AWPL_nil ?_
  with_reducible refine thenC_normal ?_
  refine AWP_ret ?_
  cases hK
  refine EndsRW [0, 2] (.inl rfl) (of_decide_eq_true rfl) (by simp) rfl (fun c x hr => ?_) endH
  simp only [go_sem] at hr
  obtain ⟨rfl, rfl⟩ := hr
  exact ⟨rfl, endR⟩


theorem W_rotabig_twin {a : List Int} {r : List Int} (hK : rotabig_twin a = some r) : Pure Try.prog 168 [.ints .u32 a] (.own 0 r.length) [(.ints 186 .u32 r)] := by
  refine Pure_introF tab_ok (n := 5) (l := [.tmp 2]) Try.func168 rfl rfl rfl (by simp) fun hfact w0 => ?_
  simp only [factL1, fact1, fact0, factL0, lo, hi, maxLen, and_true] at hfact
  unfold rotabig_twin at hK
  refine AWP_seq ?_
  refine AWP_rg tab_ok [0] fun c st' hr => ?_
  simp only [go_sem] at hr
  obtain ⟨rfl, rfl⟩ := hr
  refine ⟨vc, ?_⟩
  with_reducible refine thenC_normal ?_
  refine AWP_seq ?_
  replace hK := chk_some hK
  obtain ⟨h, hK⟩ := hK
  refine AWP_rg tab_ok [2] fun c st' hr => ?_
  simp only [go_sem] at hr
  obtain ⟨rfl, rfl⟩ := hr
  refine ⟨vc, ?_⟩
  with_reducible refine thenC_normal ?_
  refine AWP_ret ?_
  cases hK
  refine EndsRW [0] (.inl rfl) (of_decide_eq_true rfl) (by simp) rfl (fun c x hr => ?_) endH
  simp only [go_sem] at hr
  obtain ⟨rfl, rfl⟩ := hr
  exact ⟨rfl, endR⟩

/-- The operations of a drawn region. -/
def reg_rotabig_Int_Set_1 : List Oper := (⟨_, rfl⟩ : { l : List Oper // (Try.f128.body.bind (regIn 1)) = some l }).1

theorem ceg_rotabig_Int_Set_1_1 : firstOk reg_rotabig_Int_Set_1.toArray #[false, false, false, false, false, false, false, false, false, false, false, false] 5 [6, 7, 8, 9, 10, 11] = true := by kernel_rfl

theorem ceg_rotabig_Int_Set_1_2 : firstOk reg_rotabig_Int_Set_1.toArray #[false, false, false, false, false, true, false, false, false, false, false, false] 6 [7, 8, 9, 10, 11] = true := by kernel_rfl

theorem ceg_rotabig_Int_Set_1_3 : firstOk reg_rotabig_Int_Set_1.toArray #[false, false, false, false, false, true, true, false, false, false, false, false] 7 [8, 9, 10, 11] = true := by kernel_rfl

theorem ceg_rotabig_Int_Set_1_4 : firstOk reg_rotabig_Int_Set_1.toArray #[false, false, false, false, false, true, true, true, false, false, false, false] 8 [9, 10, 11] = true := by kernel_rfl

theorem ceg_rotabig_Int_Set_1_5 : firstOk reg_rotabig_Int_Set_1.toArray #[true, true, true, true, true, true, true, true, true, true, true, false] 11 [] = true := by kernel_rfl

theorem ceg_rotabig_Int_Set_1_6 : (Region.ready .any reg_rotabig_Int_Set_1.toArray #[true, true, true, true, true, true, true, true, true, true, true, true] == []) = true := by kernel_rfl

theorem J_rotabig_Int_Set_1_hn1 {x_0 : Bool} {x_1 : List Int} {q0 : Bool × List Int} {y : List Int} {y1 : Bool × List Int} {pl0 : AX.Loc} (hy : rotabig_twin x_1 = some y) (hy1 : rotabig_Int_give x_0 (q0.1, q0.2) y = some y1) {w0 : World} {Q : Exit → St → Prop} {AA : Nat → Array Bool → St → Prop} (hAA : ∀ g L st, AA g L st ↔ AWPB Try.prog w0 reg_rotabig_Int_Set_1.toArray Q g L st) (hn : AA 0 #[true, true, true, true, true, true, true, true, true, true, true, true] ⟨16, [(4, .ptr 0 0 0)], [some (.gen 31 2 [[.bool y1.1, .own 4 y1.2.length]]), none, some (.pin 0 pl0), none, some (.ints 186 .u32 y1.2)]⟩) : AA 1 #[true, true, true, true, true, true, true, true, true, true, true, false] ⟨16, [(15, .ptr 0 0 0)], [some (.gen 31 2 [[.bool y1.1, .own 4 y1.2.length]]), none, some (.pin 0 pl0), none, some (.ints 186 .u32 y1.2)]⟩ := (hAA _ _ _).2 (by
  refine AWPB_takeB tab_ok [4] 11 [] _ rfl ceg_rotabig_Int_Set_1_5 fun c st' hr => ?_
  simp only [go_sem] at hr
  obtain ⟨rfl, rfl⟩ := hr
  refine ⟨vc, ?_⟩
  exact AWPB_wk [0, 1, 2, 3, 4] mkWk ((hAA _ _ _).1 hn))

theorem ceg_rotabig_Int_Set_1_8 : (Region.ready .any reg_rotabig_Int_Set_1.toArray #[true, true, true, true, true, true, true, true, true, true, false, false] == [10]) = true := by kernel_rfl

theorem J_rotabig_Int_Set_1_hn2 {x_0 : Bool} {x_1 : List Int} {q0 : Bool × List Int} {y : List Int} {y1 : Bool × List Int} {pl0 : AX.Loc} (hy : rotabig_twin x_1 = some y) (hy1 : rotabig_Int_give x_0 (q0.1, q0.2) y = some y1) {w0 : World} {Q : Exit → St → Prop} {AA : Nat → Array Bool → St → Prop} (hAA : ∀ g L st, AA g L st ↔ AWPB Try.prog w0 reg_rotabig_Int_Set_1.toArray Q g L st) (hn1 : AA 1 #[true, true, true, true, true, true, true, true, true, true, true, false] ⟨16, [(15, .ptr 0 0 0)], [some (.gen 31 2 [[.bool y1.1, .own 4 y1.2.length]]), none, some (.pin 0 pl0), none, some (.ints 186 .u32 y1.2)]⟩) : AA 2 #[true, true, true, true, true, true, true, true, true, true, false, false] ⟨16, [(5, .ptr 0 0 0), (9, .bool x_0), (14, .own 3 y.length)], [some (.gen 31 2 [[.bool q0.1, .own 1 q0.2.length]]), some (.ints 186 .u32 q0.2), some (.pin 0 pl0), some (.ints 186 .u32 y)]⟩ := (hAA _ _ _).2 (by
  refine AWPB_one 10 _ ceg_rotabig_Int_Set_1_8 rfl ?_
  refine AWPL_gR [4, 15] [0, 1, 3] [.ptr 0 0 0, .bool x_0, .own 2 y.length] [some (.gen 31 2 [[.bool y1.1, .own 4 y1.2.length]]), none, some (.pin 0 pl0), none, some (.ints 186 .u32 y1.2)] (r' := .ptr 0 0 0) (W_rotabig_Int_give hy1) rfl rfl pcT rfl Try.call125 (of_decide_eq_true rfl) ⟨rfl, rfl, rfl, trivial⟩ rfl (hscG trivial) (of_decide_eq_true rfl) rfl rfl rfl (of_decide_eq_true rfl) rfl fun st' hr => ?_
  simp only [go_sem] at hr
  subst hr
  refine AWPL_nil ?_
  refine QB_normal ?_
  exact AWPB_wk [0, 1, 2, 3, 4] mkWk ((hAA _ _ _).1 hn1))

theorem ceg_rotabig_Int_Set_1_10 : (Region.ready .any reg_rotabig_Int_Set_1.toArray #[true, true, true, true, true, true, true, true, true, false, false, false] == [9]) = true := by kernel_rfl

theorem J_rotabig_Int_Set_1_hn3 {x_0 : Bool} {x_1 : List Int} {q0 : Bool × List Int} {y : List Int} {y1 : Bool × List Int} {pl0 : AX.Loc} (hy : rotabig_twin x_1 = some y) (hy1 : rotabig_Int_give x_0 (q0.1, q0.2) y = some y1) {w0 : World} {Q : Exit → St → Prop} {AA : Nat → Array Bool → St → Prop} (hAA : ∀ g L st, AA g L st ↔ AWPB Try.prog w0 reg_rotabig_Int_Set_1.toArray Q g L st) (hn2 : AA 2 #[true, true, true, true, true, true, true, true, true, true, false, false] ⟨16, [(5, .ptr 0 0 0), (9, .bool x_0), (14, .own 3 y.length)], [some (.gen 31 2 [[.bool q0.1, .own 1 q0.2.length]]), some (.ints 186 .u32 q0.2), some (.pin 0 pl0), some (.ints 186 .u32 y)]⟩) : AA 3 #[true, true, true, true, true, true, true, true, true, false, false, false] ⟨16, [(5, .ptr 0 0 0), (9, .bool x_0), (13, .ints .u32 x_1)], [some (.gen 31 2 [[.bool q0.1, .own 1 q0.2.length]]), some (.ints 186 .u32 q0.2), some (.pin 0 pl0)]⟩ := (hAA _ _ _).2 (by
  refine AWPB_one 9 _ ceg_rotabig_Int_Set_1_10 rfl ?_
  refine AWPL_callK [4, 5, 9, 14, 15] (W_rotabig_twin hy) rfl rfl pcT rfl Try.call168 (.cons (.atom _ rfl) .nil) (hscG trivial) (of_decide_eq_true rfl) (by first | rfl | simp [nI, nI1, nI0]) (by first | rfl | simp [nIB, nI0]) fun st' hr => ?_
  simp only [go_sem] at hr
  subst hr
  refine AWPL_nil ?_
  refine QB_normal ?_
  exact AWPB_wk [0, 1, 2, 3] mkWk ((hAA _ _ _).1 hn2))

theorem ceg_rotabig_Int_Set_1_12 : firstOk reg_rotabig_Int_Set_1.toArray #[true, true, true, true, false, true, true, true, true, true, false, false] 4 [10, 11] = true := by kernel_rfl

theorem J_rotabig_Int_Set_1_hn4 {x_0 : Bool} {x_1 : List Int} {q0 : Bool × List Int} {y : List Int} {y1 : Bool × List Int} {pl0 : AX.Loc} (hy : rotabig_twin x_1 = some y) (hy1 : rotabig_Int_give x_0 (q0.1, q0.2) y = some y1) {w0 : World} {Q : Exit → St → Prop} {AA : Nat → Array Bool → St → Prop} (hAA : ∀ g L st, AA g L st ↔ AWPB Try.prog w0 reg_rotabig_Int_Set_1.toArray Q g L st) (hn2 : AA 2 #[true, true, true, true, true, true, true, true, true, true, false, false] ⟨16, [(5, .ptr 0 0 0), (9, .bool x_0), (14, .own 3 y.length)], [some (.gen 31 2 [[.bool q0.1, .own 1 q0.2.length]]), some (.ints 186 .u32 q0.2), some (.pin 0 pl0), some (.ints 186 .u32 y)]⟩) : AA 3 #[true, true, true, true, false, true, true, true, true, true, false, false] ⟨16, [(5, .ptr 0 0 0), (8, .immp [.bool x_0, .ints .u32 x_1]), (14, .own 3 y.length)], [some (.gen 31 2 [[.bool q0.1, .own 1 q0.2.length]]), some (.ints 186 .u32 q0.2), some (.pin 0 pl0), some (.ints 186 .u32 y)]⟩ := (hAA _ _ _).2 (by
  refine AWPB_takeB tab_ok [4, 5, 9, 14, 15] 4 [10, 11] _ rfl ceg_rotabig_Int_Set_1_12 fun c st' hr => ?_
  simp only [go_sem] at hr
  obtain ⟨rfl, rfl⟩ := hr
  refine ⟨vc, ?_⟩
  exact AWPB_wk [0, 1, 2, 3] mkWk ((hAA _ _ _).1 hn2))

theorem ceg_rotabig_Int_Set_1_14 : (Region.ready .any reg_rotabig_Int_Set_1.toArray #[true, true, true, true, false, true, true, true, true, false, false, false] == [4, 9]) = true := by kernel_rfl

theorem J_rotabig_Int_Set_1_hn5 {x_0 : Bool} {x_1 : List Int} {q0 : Bool × List Int} {y : List Int} {y1 : Bool × List Int} {pl0 : AX.Loc} (hy : rotabig_twin x_1 = some y) (hy1 : rotabig_Int_give x_0 (q0.1, q0.2) y = some y1) {w0 : World} {Q : Exit → St → Prop} {AA : Nat → Array Bool → St → Prop} (hAA : ∀ g L st, AA g L st ↔ AWPB Try.prog w0 reg_rotabig_Int_Set_1.toArray Q g L st) (hn3 : AA 3 #[true, true, true, true, true, true, true, true, true, false, false, false] ⟨16, [(5, .ptr 0 0 0), (9, .bool x_0), (13, .ints .u32 x_1)], [some (.gen 31 2 [[.bool q0.1, .own 1 q0.2.length]]), some (.ints 186 .u32 q0.2), some (.pin 0 pl0)]⟩) (hn4 : AA 3 #[true, true, true, true, false, true, true, true, true, true, false, false] ⟨16, [(5, .ptr 0 0 0), (8, .immp [.bool x_0, .ints .u32 x_1]), (14, .own 3 y.length)], [some (.gen 31 2 [[.bool q0.1, .own 1 q0.2.length]]), some (.ints 186 .u32 q0.2), some (.pin 0 pl0), some (.ints 186 .u32 y)]⟩) : AA 4 #[true, true, true, true, false, true, true, true, true, false, false, false] ⟨16, [(5, .ptr 0 0 0), (8, .immp [.bool x_0, .ints .u32 x_1]), (13, .ints .u32 x_1)], [some (.gen 31 2 [[.bool q0.1, .own 1 q0.2.length]]), some (.ints 186 .u32 q0.2), some (.pin 0 pl0)]⟩ := (hAA _ _ _).2 (by
  refine AWPB_two 4 9 _ _ ceg_rotabig_Int_Set_1_14 rfl rfl ?_ ?_
  ·skip
   refine AWPL_rn tab_ok 1 [4, 5, 9, 13, 14, 15] fun c st' hr => ?_
   simp only [go_sem] at hr
   obtain ⟨rfl, rfl⟩ := hr
   refine ⟨vc, ?_⟩
   refine AWPL_nil ?_
   refine QB_normal ?_
   exact AWPB_wk [0, 1, 2] mkWk ((hAA _ _ _).1 hn3)
  ·skip
   refine AWPL_callK [4, 5, 8, 9, 14, 15] (W_rotabig_twin hy) rfl rfl pcT rfl Try.call168 (.cons (.atom _ rfl) .nil) (hscG trivial) (of_decide_eq_true rfl) (by first | rfl | simp [nI, nI1, nI0]) (by first | rfl | simp [nIB, nI0]) fun st' hr => ?_
   simp only [go_sem] at hr
   subst hr
   refine AWPL_nil ?_
   refine QB_normal ?_
   exact AWPB_wk [0, 1, 2, 3] mkWk ((hAA _ _ _).1 hn4))

theorem ceg_rotabig_Int_Set_1_16 : (Region.noSelect reg_rotabig_Int_Set_1.toArray && Region.free .any reg_rotabig_Int_Set_1.toArray #[true, true, true, false, false, true, true, true, true, false, false, false] 3 && (Region.ready .any reg_rotabig_Int_Set_1.toArray #[true, true, true, false, false, true, true, true, true, false, false, false]).contains 3) = true := by kernel_rfl

theorem J_rotabig_Int_Set_1_hn6 {x_0 : Bool} {x_1 : List Int} {q0 : Bool × List Int} {y : List Int} {y1 : Bool × List Int} {pl0 : AX.Loc} (hy : rotabig_twin x_1 = some y) (hy1 : rotabig_Int_give x_0 (q0.1, q0.2) y = some y1) {w0 : World} {Q : Exit → St → Prop} {AA : Nat → Array Bool → St → Prop} (hAA : ∀ g L st, AA g L st ↔ AWPB Try.prog w0 reg_rotabig_Int_Set_1.toArray Q g L st) (hn5 : AA 4 #[true, true, true, true, false, true, true, true, true, false, false, false] ⟨16, [(5, .ptr 0 0 0), (8, .immp [.bool x_0, .ints .u32 x_1]), (13, .ints .u32 x_1)], [some (.gen 31 2 [[.bool q0.1, .own 1 q0.2.length]]), some (.ints 186 .u32 q0.2), some (.pin 0 pl0)]⟩) : AA 5 #[true, true, true, false, false, true, true, true, true, false, false, false] ⟨16, [(5, .ptr 0 0 0), (7, .immp [.bool x_0, .ints .u32 x_1]), (13, .ints .u32 x_1)], [some (.gen 31 2 [[.bool q0.1, .own 1 q0.2.length]]), some (.ints 186 .u32 q0.2), some (.pin 0 pl0)]⟩ := (hAA _ _ _).2 (by
  refine AWPB_take2 tab_ok [4, 5, 8, 9, 13, 14, 15] 3 _ rfl rfl rfl ceg_rotabig_Int_Set_1_16 fun c st' hr => ?_
  simp only [go_sem] at hr
  obtain ⟨rfl, rfl⟩ := hr
  refine ⟨vc, ?_⟩
  exact AWPB_wk [0, 1, 2] mkWk ((hAA _ _ _).1 hn5))

theorem ceg_rotabig_Int_Set_1_18 : (Region.noSelect reg_rotabig_Int_Set_1.toArray && Region.free .any reg_rotabig_Int_Set_1.toArray #[true, true, false, false, false, true, true, true, true, false, false, false] 2 && (Region.ready .any reg_rotabig_Int_Set_1.toArray #[true, true, false, false, false, true, true, true, true, false, false, false]).contains 2) = true := by kernel_rfl

theorem J_rotabig_Int_Set_1_hn7 {x_0 : Bool} {x_1 : List Int} {q0 : Bool × List Int} {y : List Int} {y1 : Bool × List Int} {pl0 : AX.Loc} (hy : rotabig_twin x_1 = some y) (hy1 : rotabig_Int_give x_0 (q0.1, q0.2) y = some y1) {w0 : World} {Q : Exit → St → Prop} {AA : Nat → Array Bool → St → Prop} (hAA : ∀ g L st, AA g L st ↔ AWPB Try.prog w0 reg_rotabig_Int_Set_1.toArray Q g L st) (hn6 : AA 5 #[true, true, true, false, false, true, true, true, true, false, false, false] ⟨16, [(5, .ptr 0 0 0), (7, .immp [.bool x_0, .ints .u32 x_1]), (13, .ints .u32 x_1)], [some (.gen 31 2 [[.bool q0.1, .own 1 q0.2.length]]), some (.ints 186 .u32 q0.2), some (.pin 0 pl0)]⟩) : AA 6 #[true, true, false, false, false, true, true, true, true, false, false, false] ⟨16, [(5, .ptr 0 0 0), (6, .immp [.bool x_0, .ints .u32 x_1]), (13, .ints .u32 x_1)], [some (.gen 31 2 [[.bool q0.1, .own 1 q0.2.length]]), some (.ints 186 .u32 q0.2), some (.pin 0 pl0)]⟩ := (hAA _ _ _).2 (by
  refine AWPB_take2 tab_ok [4, 5, 7, 8, 9, 13, 14, 15] 2 _ rfl rfl rfl ceg_rotabig_Int_Set_1_18 fun c st' hr => ?_
  simp only [go_sem] at hr
  obtain ⟨rfl, rfl⟩ := hr
  refine ⟨vc, ?_⟩
  exact AWPB_wk [0, 1, 2] mkWk ((hAA _ _ _).1 hn6))

theorem ceg_rotabig_Int_Set_1_20 : (Region.noSelect reg_rotabig_Int_Set_1.toArray && Region.free .any reg_rotabig_Int_Set_1.toArray #[true, false, false, false, false, true, true, true, true, false, false, false] 1 && (Region.ready .any reg_rotabig_Int_Set_1.toArray #[true, false, false, false, false, true, true, true, true, false, false, false]).contains 1) = true := by kernel_rfl

theorem J_rotabig_Int_Set_1_hn8 {x_0 : Bool} {x_1 : List Int} {q0 : Bool × List Int} {y : List Int} {y1 : Bool × List Int} {pl0 : AX.Loc} (hy : rotabig_twin x_1 = some y) (hy1 : rotabig_Int_give x_0 (q0.1, q0.2) y = some y1) {w0 : World} {Q : Exit → St → Prop} {AA : Nat → Array Bool → St → Prop} (hAA : ∀ g L st, AA g L st ↔ AWPB Try.prog w0 reg_rotabig_Int_Set_1.toArray Q g L st) (hn7 : AA 6 #[true, true, false, false, false, true, true, true, true, false, false, false] ⟨16, [(5, .ptr 0 0 0), (6, .immp [.bool x_0, .ints .u32 x_1]), (13, .ints .u32 x_1)], [some (.gen 31 2 [[.bool q0.1, .own 1 q0.2.length]]), some (.ints 186 .u32 q0.2), some (.pin 0 pl0)]⟩) : AA 7 #[true, false, false, false, false, true, true, true, true, false, false, false] ⟨16, [(1, .immp [.bool x_0, .ints .u32 x_1]), (5, .ptr 0 0 0), (13, .ints .u32 x_1)], [some (.gen 31 2 [[.bool q0.1, .own 1 q0.2.length]]), some (.ints 186 .u32 q0.2), some (.pin 0 pl0)]⟩ := (hAA _ _ _).2 (by
  refine AWPB_take2 tab_ok [4, 5, 6, 7, 8, 9, 13, 14, 15] 1 _ rfl rfl rfl ceg_rotabig_Int_Set_1_20 fun c st' hr => ?_
  simp only [go_sem] at hr
  obtain ⟨rfl, rfl⟩ := hr
  refine ⟨vc, ?_⟩
  exact AWPB_wk [0, 1, 2] mkWk ((hAA _ _ _).1 hn7))

theorem ceg_rotabig_Int_Set_1_22 : (Region.noSelect reg_rotabig_Int_Set_1.toArray && Region.free .any reg_rotabig_Int_Set_1.toArray #[false, false, false, false, false, true, true, true, true, false, false, false] 0 && (Region.ready .any reg_rotabig_Int_Set_1.toArray #[false, false, false, false, false, true, true, true, true, false, false, false]).contains 0) = true := by kernel_rfl

theorem J_rotabig_Int_Set_1_hn9 {x_0 : Bool} {x_1 : List Int} {q0 : Bool × List Int} {y : List Int} {y1 : Bool × List Int} {pl0 : AX.Loc} (hy : rotabig_twin x_1 = some y) (hy1 : rotabig_Int_give x_0 (q0.1, q0.2) y = some y1) {w0 : World} {Q : Exit → St → Prop} {AA : Nat → Array Bool → St → Prop} (hAA : ∀ g L st, AA g L st ↔ AWPB Try.prog w0 reg_rotabig_Int_Set_1.toArray Q g L st) (hn8 : AA 7 #[true, false, false, false, false, true, true, true, true, false, false, false] ⟨16, [(1, .immp [.bool x_0, .ints .u32 x_1]), (5, .ptr 0 0 0), (13, .ints .u32 x_1)], [some (.gen 31 2 [[.bool q0.1, .own 1 q0.2.length]]), some (.ints 186 .u32 q0.2), some (.pin 0 pl0)]⟩) : AA 8 #[false, false, false, false, false, true, true, true, true, false, false, false] ⟨16, [(0, .ptr 0 0 0), (1, .immp [.bool x_0, .ints .u32 x_1]), (13, .ints .u32 x_1)], [some (.gen 31 2 [[.bool q0.1, .own 1 q0.2.length]]), some (.ints 186 .u32 q0.2), some (.pin 0 pl0)]⟩ := (hAA _ _ _).2 (by
  refine AWPB_take2 tab_ok [1, 4, 5, 6, 7, 8, 9, 13, 14, 15] 0 _ rfl rfl rfl ceg_rotabig_Int_Set_1_22 fun c st' hr => ?_
  simp only [go_sem] at hr
  obtain ⟨rfl, rfl⟩ := hr
  refine ⟨vc, ?_⟩
  exact AWPB_wk [0, 1, 2] mkWk ((hAA _ _ _).1 hn8))

theorem J_rotabig_Int_Set_1_hn10 {x_0 : Bool} {x_1 : List Int} {q0 : Bool × List Int} {y : List Int} {y1 : Bool × List Int} {pl0 : AX.Loc} (hy : rotabig_twin x_1 = some y) (hy1 : rotabig_Int_give x_0 (q0.1, q0.2) y = some y1) {w0 : World} {Q : Exit → St → Prop} {AA : Nat → Array Bool → St → Prop} (hAA : ∀ g L st, AA g L st ↔ AWPB Try.prog w0 reg_rotabig_Int_Set_1.toArray Q g L st) (hn9 : AA 8 #[false, false, false, false, false, true, true, true, true, false, false, false] ⟨16, [(0, .ptr 0 0 0), (1, .immp [.bool x_0, .ints .u32 x_1]), (13, .ints .u32 x_1)], [some (.gen 31 2 [[.bool q0.1, .own 1 q0.2.length]]), some (.ints 186 .u32 q0.2), some (.pin 0 pl0)]⟩) : AA 12 #[false, false, false, false, false, false, false, false, false, false, false, false] ⟨16, [(0, .ptr 0 0 0), (1, .immp [.bool x_0, .ints .u32 x_1])], [some (.gen 31 2 [[.bool q0.1, .own 1 q0.2.length]]), some (.ints 186 .u32 q0.2), some (.pin 0 pl0)]⟩ := (hAA _ _ _).2 (by
  refine AWPB_takeB tab_ok [0, 1, 4, 5, 6, 7, 8, 9, 10, 11, 12, 13, 14, 15] 5 [6, 7, 8, 9, 10, 11] _ rfl ceg_rotabig_Int_Set_1_1 fun c st' hr => ?_
  simp only [go_sem] at hr
  obtain ⟨rfl, rfl⟩ := hr
  refine ⟨vc, ?_⟩
  refine AWPB_takeB tab_ok [0, 1, 4, 5, 6, 7, 8, 9, 11, 12, 13, 14, 15] 6 [7, 8, 9, 10, 11] _ rfl ceg_rotabig_Int_Set_1_2 fun c st' hr => ?_
  simp only [go_sem] at hr
  obtain ⟨rfl, rfl⟩ := hr
  refine ⟨vc, ?_⟩
  refine AWPB_takeB tab_ok [0, 1, 4, 5, 6, 7, 8, 9, 12, 13, 14, 15] 7 [8, 9, 10, 11] _ rfl ceg_rotabig_Int_Set_1_3 fun c st' hr => ?_
  simp only [go_sem] at hr
  obtain ⟨rfl, rfl⟩ := hr
  refine ⟨vc, ?_⟩
  refine AWPB_takeB tab_ok [0, 1, 4, 5, 6, 7, 8, 9, 13, 14, 15] 8 [9, 10, 11] _ rfl ceg_rotabig_Int_Set_1_4 fun c st' hr => ?_
  simp only [go_sem] at hr
  obtain ⟨rfl, rfl⟩ := hr
  refine ⟨vc, ?_⟩
  exact AWPB_wk [0, 1, 2] mkWk ((hAA _ _ _).1 hn9))


theorem W_rotabig_Int_Set {x_0 : Bool} {x_1 : List Int} {q0 : Bool × List Int} {r : Bool × List Int} (hK : rotabig_Int_Set x_0 x_1 q0 = some r) : InG Try.prog 128 [(.gen 31 2 [[.bool q0.1, .own 1 q0.2.length]]), (.ints 186 .u32 q0.2)] 1 (fun _ => [.ptr 0 0 0, .immp [.bool x_0, .ints .u32 x_1]]) (.ptr 0 0 0) [(.gen 31 2 [[.bool r.1, .own 1 r.2.length]]), (.ints 186 .u32 r.2)] := by
  refine InG_intro tab_ok (n := 16) (l := [.tmp 4]) Try.func128 rfl rfl rfl (fun ls => by first | (split <;> simp) | simp) (of_decide_eq_true rfl) (of_decide_eq_true rfl) rfl rfl rfl (by simp [renB, ren0, renI, List.range, List.range.loop]) (of_decide_eq_true rfl) (of_decide_eq_true rfl) fun w0 ls hls => ?_
  obtain ⟨pl0, rfl⟩ : ∃ pl0, ls = [pl0] := by
    match ls, hls with
    | [a], _ => exact ⟨a, rfl⟩
  simp only [pinL, List.map_cons, List.map_nil, List.cons_append, List.nil_append, Nat.zero_add, Nat.reduceAdd]
  unfold rotabig_Int_Set at hK
  refine AWP_seq ?_
  refine AWP_rg tab_ok [0, 1] fun c st' hr => ?_
  simp only [go_sem] at hr
  obtain ⟨rfl, rfl⟩ := hr
  refine ⟨vc, ?_⟩
  with_reducible refine thenC_normal ?_
  refine AWP_seq ?_
  replace hK := bind_s hK
  obtain ⟨y, hy, hK⟩ := hK
  replace hK := bind_s hK
  obtain ⟨y1, hy1, hK⟩ := hK
  refine AWP_drawJ ⟨16, [(4, .ptr 0 0 0)], [some (.gen 31 2 [[.bool y1.1, .own 4 y1.2.length]]), none, some (.pin 0 pl0), none, some (.ints 186 .u32 y1.2)]⟩ mixed ?_ ?_
  ·change AWPB _ _ reg_rotabig_Int_Set_1.toArray _ _ _ _
   refine AWPB_memo fun AA hAA => ?_
   have hn : AA 0 #[true, true, true, true, true, true, true, true, true, true, true, true] ⟨16, [(4, .ptr 0 0 0)], [some (.gen 31 2 [[.bool y1.1, .own 4 y1.2.length]]), none, some (.pin 0 pl0), none, some (.ints 186 .u32 y1.2)]⟩ := (hAA _ _ _).2 (by
    exact AWPB_end [0, 1, 2, 3, 4] ceg_rotabig_Int_Set_1_6 mkWk)
   have hn1 := J_rotabig_Int_Set_1_hn1 hy hy1 hAA hn
   have hn2 := J_rotabig_Int_Set_1_hn2 hy hy1 hAA hn1
   have hn3 := J_rotabig_Int_Set_1_hn3 hy hy1 hAA hn2
   have hn4 := J_rotabig_Int_Set_1_hn4 hy hy1 hAA hn2
   have hn5 := J_rotabig_Int_Set_1_hn5 hy hy1 hAA hn3 hn4
   have hn6 := J_rotabig_Int_Set_1_hn6 hy hy1 hAA hn5
   have hn7 := J_rotabig_Int_Set_1_hn7 hy hy1 hAA hn6
   have hn8 := J_rotabig_Int_Set_1_hn8 hy hy1 hAA hn7
   have hn9 := J_rotabig_Int_Set_1_hn9 hy hy1 hAA hn8
   have hn10 := J_rotabig_Int_Set_1_hn10 hy hy1 hAA hn9
   exact (hAA _ _ _).2 (AWPB_wk [0, 1, 2] mkWk ((hAA _ _ _).1 hn10))
  with_reducible refine thenC_normal ?_
  refine AWP_ret ?_
  cases hK
  refine EndsRW [0, 4, 2] (.inl rfl) (of_decide_eq_true rfl) (by simp) rfl (fun c x hr => ?_) endH
  simp only [go_sem] at hr
  obtain ⟨rfl, rfl⟩ := hr
  exact ⟨rfl, endR⟩


theorem W_rotabig_plain {a : List Int} {r : Int} (hK : rotabig_plain a = some r) : Pure Try.prog 216 [.ints .u32 a] (.int .u64 r) [] := by
  refine Pure_introF tab_ok (n := 22) (l := [.tmp 2]) Try.func216 rfl rfl rfl (by simp) fun hfact w0 => ?_
  simp only [factL1, fact1, fact0, factL0, lo, hi, maxLen, and_true] at hfact
  unfold rotabig_plain at hK
  refine AWP_seq ?_
  refine AWP_rg tab_ok [0] fun c st' hr => ?_
  simp only [go_sem] at hr
  obtain ⟨rfl, rfl⟩ := hr
  refine ⟨vc, ?_⟩
  with_reducible refine thenC_normal ?_
  refine AWP_seq ?_
  refine AWP_rg tab_ok [0, 3] fun c st' hr => ?_
  simp only [go_sem] at hr
  obtain ⟨rfl, rfl⟩ := hr
  refine ⟨vc, ?_⟩
  with_reducible refine thenC_normal ?_
  refine AWP_seqJ (fun u => ⟨22, [(0, .ints .u32 a), (3, .int .u64 u)], []⟩) hK ?_ ?_
  ·clear hK; intro j hK; try dsimp only at hK
   refine AWP_seq ?_
   refine AWP_rg tab_ok [0, 3, 6] fun c st' hr => ?_
   simp only [go_sem] at hr
   obtain ⟨rfl, rfl⟩ := hr
   refine ⟨vc, ?_⟩
   with_reducible refine thenC_normal ?_
   refine AWP_condP (0 < (a.length : Int)) rfl bd (fun hb => ?_) (fun hb => ?_)
   ·replace hK := ite_t hK hb
    replace hK := chk_some hK
    obtain ⟨h, hK⟩ := hK
    refine AWP_rg tab_ok [0, 3] fun c st' hr => ?_
    simp only [go_sem] at hr
    obtain ⟨rfl, rfl⟩ := hr
    refine ⟨vc, ?_⟩
    refine join_n (a.getD 0 0) [] hK mkWk
   ·replace hK := ite_f hK hb
    refine AWP_skip ?_
    refine join_n 0 [] hK mkWk
  ·clear hK; intro u hK
   try dsimp only at hK
   change AWP _ _ _ _ ⟨22, [(0, .ints .u32 a), (3, .int .u64 u)], []⟩
   refine AWP_seq ?_
   refine AWP_seq ?_
   refine AWP_rg tab_ok [0, 3, 13] fun c st' hr => ?_
   simp only [go_sem] at hr
   obtain ⟨rfl, rfl⟩ := hr
   refine ⟨vc, ?_⟩
   with_reducible refine thenC_normal ?_
   refine AWP_condP (1 < (a.length : Int)) rfl bd (fun hb1 => ?_) (fun hb1 => ?_)
   ·replace hK := ite_t hK hb1
    replace hK := chk_some hK
    obtain ⟨h1, hK⟩ := hK
    refine AWP_rg tab_ok [3] fun c st' hr => ?_
    simp only [go_sem] at hr
    obtain ⟨rfl, rfl⟩ := hr
    refine ⟨vc, ?_⟩
    with_reducible refine thenC_normal ?_
    refine AWP_seq ?_
    refine AWP_rg tab_ok [2] fun c st' hr => ?_
    simp only [go_sem] at hr
    obtain ⟨rfl, rfl⟩ := hr
    refine ⟨vc, ?_⟩
    with_reducible refine thenC_normal ?_
    refine AWP_ret ?_
    cases hK
    refine EndsRW [] (.inl rfl) (of_decide_eq_true rfl) (by simp) rfl (fun c x hr => ?_) trivial
    simp only [go_sem] at hr
    obtain ⟨rfl, rfl⟩ := hr
    exact ⟨rfl, endR⟩
   ·replace hK := ite_f hK hb1
    refine AWP_skip ?_
    with_reducible refine thenC_normal ?_
    refine AWP_seq ?_
    refine AWP_rg tab_ok [2] fun c st' hr => ?_
    simp only [go_sem] at hr
    obtain ⟨rfl, rfl⟩ := hr
    refine ⟨vc, ?_⟩
    with_reducible refine thenC_normal ?_
    refine AWP_ret ?_
    cases hK
    refine EndsRW [] (.inl rfl) (of_decide_eq_true rfl) (by simp) rfl (fun c x hr => ?_) trivial
    simp only [go_sem] at hr
    obtain ⟨rfl, rfl⟩ := hr
    exact ⟨rfl, endR⟩


theorem W_rotabig_common {a : List Int} {b : List Int} {r : List Int} (hK : rotabig_common a b = some r) : Pure Try.prog 170 [.ints .u32 a, .ints .u32 b] (.own 0 r.length) [(.ints 186 .u32 r)] := by
  refine Pure_introF tab_ok (n := 49) (l := [.tmp 4]) Try.func170 rfl rfl rfl (by simp) fun hfact w0 => ?_
  simp only [factL1, fact1, fact0, factL0, lo, hi, maxLen, and_true] at hfact
  unfold rotabig_common at hK
  refine AWP_seq ?_
  refine AWP_rg tab_ok [0, 1] fun c st' hr => ?_
  simp only [go_sem] at hr
  obtain ⟨rfl, rfl⟩ := hr
  refine ⟨vc, ?_⟩
  with_reducible refine thenC_normal ?_
  refine AWP_seq ?_
  refine AWP_block ?_
  refine AWP_loopX 0 (fun (_ : Unit) => ⟨49, [(0, .ints .u32 a), (1, .ints .u32 b)], []⟩) (fun (_ : Unit) => ⟨49, [(0, .ints .u32 a), (1, .ints .u32 b)], []⟩) (fun v => v) () [] hK mkWk ?_ ?_
  ·clear hK; rintro _ b1 hK hpost1
   try dsimp only at hK
   change AWP _ _ _ _ ⟨49, [(0, .ints .u32 a), (1, .ints .u32 b)], []⟩
   refine AWP_seq ?_
   refine AWP_seq ?_
   refine AWP_rg tab_ok [0, 1, 13] fun c st' hr => ?_
   simp only [go_sem] at hr
   obtain ⟨rfl, rfl⟩ := hr
   refine ⟨vc, ?_⟩
   with_reducible refine thenC_normal ?_
   refine AWP_condP (2 < (b.length : Int)) rfl bd (fun hb => ?_) (fun hb => ?_)
   ·replace hK := ite_t hK hb
    refine AWP_skip ?_
    with_reducible refine thenC_normal ?_
    refine AWP_block ?_
    refine AWP_seq ?_
    cases hK
   ·replace hK := ite_f hK hb
    refine AWP_exit ?_
    with_reducible refine thenC_exit (again_x ?_)
    refine cutX_here () [] (by have hq := hpost1 _ hK; exact hq) mkWk
  ·clear hK; rintro _ hK
   try dsimp only at hK
   refine exS ⟨49, [(0, .ints .u32 a), (1, .ints .u32 b)], []⟩ rfl ?_
   with_reducible refine inBlockA_exit (thenC_normal ?_)
   refine AWP_seq ?_
   refine AWP_seq ?_
   refine AWP_rg tab_ok [0, 1, 24] fun c st' hr => ?_
   simp only [go_sem] at hr
   obtain ⟨rfl, rfl⟩ := hr
   refine ⟨vc, ?_⟩
   with_reducible refine thenC_normal ?_
   refine AWP_condP ((b.length : Int) = 0) rfl bd (fun hb1 => ?_) (fun hb1 => ?_)
   ·replace hK := ite_t hK hb1
    refine AWP_seq ?_
    cases hK
   ·replace hK := ite_f hK hb1
    refine AWP_skip ?_
    with_reducible refine thenC_normal ?_
    refine AWP_seq ?_
    refine AWP_seq ?_
    refine AWP_rg tab_ok [0, 1, 28] fun c st' hr => ?_
    simp only [go_sem] at hr
    obtain ⟨rfl, rfl⟩ := hr
    refine ⟨vc, ?_⟩
    with_reducible refine thenC_normal ?_
    refine AWP_condP (2 < (a.length : Int)) rfl bd (fun hb2 => ?_) (fun hb2 => ?_)
    ·replace hK := ite_t hK hb2
     refine AWP_seq ?_
     cases hK
    ·replace hK := ite_f hK hb2
     refine AWP_skip ?_
     with_reducible refine thenC_normal ?_
     refine AWP_seq ?_
     refine AWP_rl ?_
     refine AWPL_rn tab_ok 1 [1, 37] fun c st' hr => ?_
     simp only [go_sem] at hr
     obtain ⟨rfl, rfl⟩ := hr
     refine ⟨vc, ?_⟩
     replace hK := bind_s hK
     obtain ⟨y, hy, hK⟩ := hK
     refine AWPL_callK [1, 38] (W_rotabig_plain hy) rfl rfl pcT rfl Try.call216 (.cons (.atom _ rfl) .nil) (hscG trivial) (of_decide_eq_true rfl) (by first | rfl | simp [nI, nI1, nI0]) (by first | rfl | simp [nIB, nI0]) fun st' hr => ?_
     simp only [go_sem] at hr
     subst hr
     clear hy
     refine AWPL_rn tab_ok 1 [38, 39] fun c st' hr => ?_
     simp only [go_sem] at hr
     obtain ⟨rfl, rfl⟩ := hr
     refine ⟨vc, ?_⟩
     replace hK := bind_s hK
     obtain ⟨y1, hy, hK⟩ := hK
     refine AWPL_callK [38, 40] (W_rotabig_plain hy) rfl rfl pcT rfl Try.call216 (.cons (.atom _ rfl) .nil) (hscG trivial) (of_decide_eq_true rfl) (by first | rfl | simp [nI, nI1, nI0]) (by first | rfl | simp [nIB, nI0]) fun st' hr => ?_
     simp only [go_sem] at hr
     subst hr
     clear hy
     refine AWPL_rn tab_ok 2 [9, 10] fun c st' hr => ?_
     simp only [go_sem] at hr
     obtain ⟨rfl, rfl⟩ := hr
     refine ⟨vc, ?_⟩
     refine AWPL_nil ?_
     with_reducible refine thenC_normal ?_
     refine AWP_seq ?_
     refine AWP_block ?_
     refine AWP_loopX 2 (fun ((x, y2) : Int × Int) => ⟨49, [(9, .int .u64 x), (10, .int .u64 y2)], []⟩) (fun (x1 : Int) => ⟨49, [(9, .int .u64 x1)], []⟩) (fun v => v) (y, y1) [] hK mkWk ?_ ?_
     ·clear hK; rintro ⟨x, y2⟩ b2 hK hpost2
      try dsimp only at hK
      change AWP _ _ _ _ ⟨49, [(9, .int .u64 x), (10, .int .u64 y2)], []⟩
      refine AWP_seq ?_
      refine AWP_seq ?_
      refine AWP_rg tab_ok [9, 10, 42] fun c st' hr => ?_
      simp only [go_sem] at hr
      obtain ⟨rfl, rfl⟩ := hr
      refine ⟨vc, ?_⟩
      with_reducible refine thenC_normal ?_
      refine AWP_condP (0 < y2) rfl bd (fun hb3 => ?_) (fun hb3 => ?_)
      ·replace hK := ite_t hK hb3
       refine AWP_skip ?_
       with_reducible refine thenC_normal ?_
       refine AWP_block ?_
       replace hK := chk_some hK
       obtain ⟨h, hK⟩ := hK
       refine AWP_dr tab_ok [9, 10] mixed (by kernel_rfl) fun c st' hr => ?_
       simp only [go_sem] at hr
       obtain ⟨rfl, rfl⟩ := hr
       refine ⟨vc, ?_⟩
       with_reducible refine inBlockA_normal ?_
       refine again_n (y2, Int.tmod x y2) [] hK mkWk
      ·replace hK := ite_f hK hb3
       refine AWP_exit ?_
       with_reducible refine thenC_exit (again_x ?_)
       refine cutX_here x [] (by have hq := hpost2 _ hK; exact hq) mkWk
     ·clear hK; rintro x1 hK
      try dsimp only at hK
      refine exS ⟨49, [(9, .int .u64 x1)], []⟩ rfl ?_
      with_reducible refine inBlockA_exit (thenC_normal ?_)
      refine AWP_seq ?_
      refine AWP_rl ?_
      refine AWPL_rn tab_ok 1 [47] fun c st' hr => ?_
      simp only [go_sem] at hr
      obtain ⟨rfl, rfl⟩ := hr
      refine ⟨vc, ?_⟩
      replace hK := bind_s hK
      obtain ⟨y3, hy, hK⟩ := hK
      refine AWPL_callK [48] (W_rotabig_words hy) rfl rfl pcT rfl Try.call172 (.cons (.atom _ rfl) .nil) (hscG trivial) (of_decide_eq_true rfl) (by first | rfl | simp [nI, nI1, nI0]) (by first | rfl | simp [nIB, nI0]) fun st' hr => ?_
      simp only [go_sem] at hr
      subst hr
      clear hy
      refine AWPL_rn tab_ok 1 [4] fun c st' hr => ?_
      simp only [go_sem] at hr
      obtain ⟨rfl, rfl⟩ := hr
      refine ⟨vc, ?_⟩
      refine AWPL_nil ?_
      with_reducible refine thenC_normal ?_
      refine AWP_ret ?_
      cases hK
      refine EndsRW [0] (.inl rfl) (of_decide_eq_true rfl) (by simp) rfl (fun c x hr => ?_) endH
      simp only [go_sem] at hr
      obtain ⟨rfl, rfl⟩ := hr
      exact ⟨rfl, endR⟩


theorem W_rotabig_cmp {a : List Int} {b : List Int} {r : Int} (hK : rotabig_cmp a b = some r) : Pure Try.prog 131 [.ints .u32 a, .ints .u32 b] (.int .i64 r) [] := by
  refine Pure_introF tab_ok (n := 41) (l := [.tmp 4]) Try.func131 rfl rfl rfl (by simp) fun hfact w0 => ?_
  simp only [factL1, fact1, fact0, factL0, lo, hi, maxLen, and_true] at hfact
  unfold rotabig_cmp at hK
  refine AWP_seq ?_
  refine AWP_rg tab_ok [0, 1] fun c st' hr => ?_
  simp only [go_sem] at hr
  obtain ⟨rfl, rfl⟩ := hr
  refine ⟨vc, ?_⟩
  with_reducible refine thenC_normal ?_
  refine AWP_seq ?_
  refine AWP_seq ?_
  refine AWP_rg tab_ok [0, 1, 10] fun c st' hr => ?_
  simp only [go_sem] at hr
  obtain ⟨rfl, rfl⟩ := hr
  refine ⟨vc, ?_⟩
  with_reducible refine thenC_normal ?_
  refine AWP_condP ((a.length : Int) ≠ (b.length : Int)) rfl bd (fun hb => ?_) (fun hb => ?_)
  ·replace hK := ite_t hK hb
   refine AWP_seq ?_
   refine AWP_seq ?_
   refine AWP_rg tab_ok [15] fun c st' hr => ?_
   simp only [go_sem] at hr
   obtain ⟨rfl, rfl⟩ := hr
   refine ⟨vc, ?_⟩
   with_reducible refine thenC_normal ?_
   refine AWP_condP ((a.length : Int) < (b.length : Int)) rfl bd (fun hb1 => ?_) (fun hb1 => ?_)
   ·replace hK := ite_t hK hb1
    refine AWP_seq ?_
    refine AWP_rg tab_ok [4] fun c st' hr => ?_
    simp only [go_sem] at hr
    obtain ⟨rfl, rfl⟩ := hr
    refine ⟨vc, ?_⟩
    with_reducible refine thenC_normal ?_
    refine AWP_ret ?_
    with_reducible refine thenC_ret (thenC_ret ?_)
    cases hK
    refine EndsRW [] (.inl rfl) (of_decide_eq_true rfl) (by simp) rfl (fun c x hr => ?_) trivial
    simp only [go_sem] at hr
    obtain ⟨rfl, rfl⟩ := hr
    exact ⟨rfl, endR⟩
   ·replace hK := ite_f hK hb1
    refine AWP_skip ?_
    with_reducible refine thenC_normal ?_
    refine AWP_seq ?_
    refine AWP_rg tab_ok [4] fun c st' hr => ?_
    simp only [go_sem] at hr
    obtain ⟨rfl, rfl⟩ := hr
    refine ⟨vc, ?_⟩
    with_reducible refine thenC_normal ?_
    refine AWP_ret ?_
    with_reducible refine thenC_ret ?_
    cases hK
    refine EndsRW [] (.inl rfl) (of_decide_eq_true rfl) (by simp) rfl (fun c x hr => ?_) trivial
    simp only [go_sem] at hr
    obtain ⟨rfl, rfl⟩ := hr
    exact ⟨rfl, endR⟩
  ·replace hK := ite_f hK hb
   refine AWP_skip ?_
   with_reducible refine thenC_normal ?_
   refine AWP_seq ?_
   refine AWP_seq ?_
   replace hK := chk_some hK
   obtain ⟨h, hK⟩ := hK
   refine AWP_rg tab_ok [0, 1, 5] fun c st' hr => ?_
   simp only [go_sem] at hr
   obtain ⟨rfl, rfl⟩ := hr
   refine ⟨vc, ?_⟩
   with_reducible refine thenC_normal ?_
   refine AWP_block ?_
   refine AWP_loopX 0 (fun (i : Int) => ⟨41, [(0, .ints .u32 a), (1, .ints .u32 b), (5, .int .i64 i)], []⟩) (fun (_ : Unit) => ⟨41, [], []⟩) Sum.inl ((a.length : Int) - 1) [] hK mkWk ?_ ?_
   ·clear hK; rintro i b1 hK hpost1
    try dsimp only at hK
    change AWP _ _ _ _ ⟨41, [(0, .ints .u32 a), (1, .ints .u32 b), (5, .int .i64 i)], []⟩
    refine AWP_seq ?_
    refine AWP_seq ?_
    refine AWP_rg tab_ok [0, 1, 5, 20] fun c st' hr => ?_
    simp only [go_sem] at hr
    obtain ⟨rfl, rfl⟩ := hr
    refine ⟨vc, ?_⟩
    with_reducible refine thenC_normal ?_
    refine AWP_condP (0 ≤ i) rfl bd (fun hb2 => ?_) (fun hb2 => ?_)
    ·replace hK := ite_t hK hb2
     refine AWP_skip ?_
     with_reducible refine thenC_normal ?_
     refine AWP_seq ?_
     refine AWP_block ?_
     refine AWP_seq ?_
     replace hK := chk_some hK
     obtain ⟨h1, hK⟩ := hK
     refine AWP_dr tab_ok [0, 1, 5, 31] mixed (by kernel_rfl) fun c st' hr => ?_
     simp only [go_sem] at hr
     obtain ⟨rfl, rfl⟩ := hr
     refine ⟨vc, ?_⟩
     with_reducible refine thenC_normal ?_
     refine AWP_condP (a.getD i.toNat 0 ≠ b.getD i.toNat 0) rfl bd (fun hb3 => ?_) (fun hb3 => ?_)
     ·replace hK := ite_t hK hb3
      refine AWP_seq ?_
      refine AWP_seq ?_
      replace hK := chk_some hK
      obtain ⟨h2, hK⟩ := hK
      refine AWP_dr tab_ok [40] mixed (by kernel_rfl) fun c st' hr => ?_
      simp only [go_sem] at hr
      obtain ⟨rfl, rfl⟩ := hr
      refine ⟨vc, ?_⟩
      with_reducible refine thenC_normal ?_
      refine AWP_condP (a.getD i.toNat 0 < b.getD i.toNat 0) rfl bd (fun hb4 => ?_) (fun hb4 => ?_)
      ·replace hK := ite_t hK hb4
       refine AWP_seq ?_
       refine AWP_rg tab_ok [4] fun c st' hr => ?_
       simp only [go_sem] at hr
       obtain ⟨rfl, rfl⟩ := hr
       refine ⟨vc, ?_⟩
       with_reducible refine thenC_normal ?_
       refine AWP_ret ?_
       with_reducible refine thenC_ret (inBlockA_ret (thenC_ret (again_r (cutX_r (inBlockA_ret (thenC_ret ?_))))))
       replace hK := hpost1 _ hK
       try dsimp only at hK
       cases hK
       refine EndsRW [] (.inl rfl) (of_decide_eq_true rfl) (by simp) rfl (fun c x hr => ?_) trivial
       simp only [go_sem] at hr
       obtain ⟨rfl, rfl⟩ := hr
       exact ⟨rfl, endR⟩
      ·replace hK := ite_f hK hb4
       refine AWP_skip ?_
       with_reducible refine thenC_normal ?_
       refine AWP_seq ?_
       refine AWP_rg tab_ok [4] fun c st' hr => ?_
       simp only [go_sem] at hr
       obtain ⟨rfl, rfl⟩ := hr
       refine ⟨vc, ?_⟩
       with_reducible refine thenC_normal ?_
       refine AWP_ret ?_
       with_reducible refine inBlockA_ret (thenC_ret (again_r (cutX_r (inBlockA_ret (thenC_ret ?_)))))
       replace hK := hpost1 _ hK
       try dsimp only at hK
       cases hK
       refine EndsRW [] (.inl rfl) (of_decide_eq_true rfl) (by simp) rfl (fun c x hr => ?_) trivial
       simp only [go_sem] at hr
       obtain ⟨rfl, rfl⟩ := hr
       exact ⟨rfl, endR⟩
     ·replace hK := ite_f hK hb3
      refine AWP_skip ?_
      with_reducible refine inBlockA_normal (thenC_normal ?_)
      replace hK := chk_some hK
      obtain ⟨h3, hK⟩ := hK
      refine AWP_rg tab_ok [0, 1, 5] fun c st' hr => ?_
      simp only [go_sem] at hr
      obtain ⟨rfl, rfl⟩ := hr
      refine ⟨vc, ?_⟩
      refine again_n (i - 1) [] hK mkWk
    ·replace hK := ite_f hK hb2
     refine AWP_exit ?_
     with_reducible refine thenC_exit (again_x ?_)
     refine cutX_here () [] (by have hq := hpost1 _ hK; exact hq) mkWk
   ·clear hK; rintro _ hK
    try dsimp only at hK
    refine exS ⟨41, [], []⟩ rfl ?_
    with_reducible refine inBlockA_exit (thenC_normal ?_)
    refine AWP_seq ?_
    refine AWP_rg tab_ok [4] fun c st' hr => ?_
    simp only [go_sem] at hr
    obtain ⟨rfl, rfl⟩ := hr
    refine ⟨vc, ?_⟩
    with_reducible refine thenC_normal ?_
    refine AWP_ret ?_
    cases hK
    refine EndsRW [] (.inl rfl) (of_decide_eq_true rfl) (by simp) rfl (fun c x hr => ?_) trivial
    simp only [go_sem] at hr
    obtain ⟨rfl, rfl⟩ := hr
    exact ⟨rfl, endR⟩


theorem W_rotabig_div {a : List Int} {a1 : List Int} {r : List Int × List Int} (hK : rotabig_div a a1 = some r) : Pure Try.prog 171 [.ints .u32 a, .ints .u32 a1] (.tup [.own 0 r.1.length, .own 1 r.2.length]) [(.ints 186 .u32 r.1), (.ints 186 .u32 r.2)] := by
  refine Pure_introF tab_ok (n := 273) (l := [.tmp 4, .tmp 5]) Try.func171 rfl rfl rfl (by simp) fun hfact w0 => ?_
  simp only [factL1, fact1, fact0, factL0, lo, hi, maxLen, and_true] at hfact
  unfold rotabig_div at hK
  refine AWP_seq ?_
  refine AWP_rg tab_ok [0, 1] fun c st' hr => ?_
  simp only [go_sem] at hr
  obtain ⟨rfl, rfl⟩ := hr
  refine ⟨vc, ?_⟩
  with_reducible refine thenC_normal ?_
  refine AWP_seq ?_
  refine AWP_seq ?_
  refine AWP_rg tab_ok [0, 1, 30] fun c st' hr => ?_
  simp only [go_sem] at hr
  obtain ⟨rfl, rfl⟩ := hr
  refine ⟨vc, ?_⟩
  with_reducible refine thenC_normal ?_
  refine AWP_condP ((a1.length : Int) = 0) rfl bd (fun hb => ?_) (fun hb => ?_)
  ·replace hK := ite_t hK hb
   refine AWP_seq ?_
   cases hK
  ·replace hK := ite_f hK hb
   refine AWP_skip ?_
   with_reducible refine thenC_normal ?_
   refine AWP_seq ?_
   refine AWP_seq ?_
   refine AWP_rl ?_
   refine AWPL_rn tab_ok 2 [0, 1, 31, 32] fun c st' hr => ?_
   simp only [go_sem] at hr
   obtain ⟨rfl, rfl⟩ := hr
   refine ⟨vc, ?_⟩
   replace hK := bind_s hK
   obtain ⟨y, hy, hK⟩ := hK
   refine AWPL_callK [0, 1, 33] (W_rotabig_cmp hy) rfl rfl pcT rfl Try.call131 (.cons (.atom _ rfl) (.cons (.atom _ rfl) .nil)) (hscG trivial) (of_decide_eq_true rfl) (by first | rfl | simp [nI, nI1, nI0]) (by first | rfl | simp [nIB, nI0]) fun st' hr => ?_
   simp only [go_sem] at hr
   subst hr
   clear hy
   refine AWPL_rn tab_ok 1 [0, 1, 34] fun c st' hr => ?_
   simp only [go_sem] at hr
   obtain ⟨rfl, rfl⟩ := hr
   refine ⟨vc, ?_⟩
   refine AWPL_nil ?_
   with_reducible refine thenC_normal ?_
   refine AWP_condP (y < 0) rfl bd (fun hb1 => ?_) (fun hb1 => ?_)
   ·replace hK := ite_t hK hb1
    refine AWP_seq ?_
    cases hK
   ·replace hK := ite_f hK hb1
    refine AWP_skip ?_
    with_reducible refine thenC_normal ?_
    refine AWP_seq ?_
    refine AWP_seq ?_
    refine AWP_rg tab_ok [0, 1, 39] fun c st' hr => ?_
    simp only [go_sem] at hr
    obtain ⟨rfl, rfl⟩ := hr
    refine ⟨vc, ?_⟩
    with_reducible refine thenC_normal ?_
    refine AWP_condP ((a.length : Int) ≤ 2) rfl bd (fun hb2 => ?_) (fun hb2 => ?_)
    ·replace hK := ite_t hK hb2
     refine AWP_seq ?_
     refine AWP_rl ?_
     refine AWPL_rn tab_ok 1 [1, 40] fun c st' hr => ?_
     simp only [go_sem] at hr
     obtain ⟨rfl, rfl⟩ := hr
     refine ⟨vc, ?_⟩
     replace hK := bind_s hK
     obtain ⟨y1, hy, hK⟩ := hK
     refine AWPL_callK [1, 41] (W_rotabig_plain hy) rfl rfl pcT rfl Try.call216 (.cons (.atom _ rfl) .nil) (hscG trivial) (of_decide_eq_true rfl) (by first | rfl | simp [nI, nI1, nI0]) (by first | rfl | simp [nIB, nI0]) fun st' hr => ?_
     simp only [go_sem] at hr
     subst hr
     clear hy
     refine AWPL_rn tab_ok 1 [41, 42] fun c st' hr => ?_
     simp only [go_sem] at hr
     obtain ⟨rfl, rfl⟩ := hr
     refine ⟨vc, ?_⟩
     replace hK := bind_s hK
     obtain ⟨y2, hy, hK⟩ := hK
     refine AWPL_callK [41, 43] (W_rotabig_plain hy) rfl rfl pcT rfl Try.call216 (.cons (.atom _ rfl) .nil) (hscG trivial) (of_decide_eq_true rfl) (by first | rfl | simp [nI, nI1, nI0]) (by first | rfl | simp [nIB, nI0]) fun st' hr => ?_
     simp only [go_sem] at hr
     subst hr
     clear hy
     refine AWPL_rn tab_ok 2 [6, 7] fun c st' hr => ?_
     simp only [go_sem] at hr
     obtain ⟨rfl, rfl⟩ := hr
     refine ⟨vc, ?_⟩
     refine AWPL_nil ?_
     with_reducible refine thenC_normal ?_
     refine AWP_seq ?_
     replace hK := chk_some hK
     obtain ⟨h, hK⟩ := hK
     replace hK := bind_s hK
     obtain ⟨y3, hy, hK⟩ := hK
     replace hK := chk_some hK
     obtain ⟨h1, hK⟩ := hK
     replace hK := bind_s hK
     obtain ⟨y4, hy1, hK⟩ := hK
     refine AWP_drawJ ⟨273, [(4, .own 0 y3.length), (5, .own 1 y4.length)], [some (.ints 186 .u32 y3), some (.ints 186 .u32 y4)]⟩ mixed ?_ ?_
     ·refine AWPB_memo fun AA hAA => ?_
      have hn : AA 0 #[true, true, true, true, true, true, true, true, true, true] ⟨273, [(4, .own 0 y3.length), (5, .own 1 y4.length)], [some (.ints 186 .u32 y3), some (.ints 186 .u32 y4)]⟩ := (hAA _ _ _).2 (by
       exact AWPB_end [0, 1] (by kernel_rfl) mkWk)
      have hn1 : AA 1 #[true, true, true, true, true, true, true, true, true, false] ⟨273, [(4, .own 0 y3.length), (51, .own 1 y4.length)], [some (.ints 186 .u32 y3), some (.ints 186 .u32 y4)]⟩ := (hAA _ _ _).2 (by
       refine AWPB_take tab_ok [4, 5] 9 _ rfl rfl (by kernel_rfl) fun c st' hr => ?_
       simp only [go_sem] at hr
       obtain ⟨rfl, rfl⟩ := hr
       refine ⟨vc, ?_⟩
       exact AWPB_wk [0, 1] mkWk ((hAA _ _ _).1 hn))
      have hn2 : AA 2 #[true, true, true, true, true, true, true, true, false, false] ⟨273, [(47, .own 0 y3.length), (51, .own 1 y4.length)], [some (.ints 186 .u32 y3), some (.ints 186 .u32 y4)]⟩ := (hAA _ _ _).2 (by
       refine AWPB_take tab_ok [4, 5, 51] 8 _ rfl rfl (by kernel_rfl) fun c st' hr => ?_
       simp only [go_sem] at hr
       obtain ⟨rfl, rfl⟩ := hr
       refine ⟨vc, ?_⟩
       exact AWPB_wk [0, 1] mkWk ((hAA _ _ _).1 hn1))
      have hn3 : AA 3 #[true, true, true, true, true, true, true, false, false, false] ⟨273, [(47, .own 0 y3.length), (50, .int .u64 (Int.tmod y1 y2))], [some (.ints 186 .u32 y3)]⟩ := (hAA _ _ _).2 (by
       refine AWPB_one 7 _ (by kernel_rfl) rfl ?_
       refine AWPL_callK [4, 5, 47, 51] (W_rotabig_words hy1) rfl rfl pcT rfl Try.call172 (.cons (.atom _ rfl) .nil) (hscG trivial) (of_decide_eq_true rfl) (by first | rfl | simp [nI, nI1, nI0]) (by first | rfl | simp [nIB, nI0]) fun st' hr => ?_
       simp only [go_sem] at hr
       subst hr
       refine AWPL_nil ?_
       refine QB_normal ?_
       exact AWPB_wk [0, 1] mkWk ((hAA _ _ _).1 hn2))
      have hn4 : AA 4 #[true, true, true, true, true, true, false, false, false, false] ⟨273, [(47, .own 0 y3.length), (48, .int .u64 y1), (49, .int .u64 y2)], [some (.ints 186 .u32 y3)]⟩ := (hAA _ _ _).2 (by
       refine AWPB_one 6 _ (by kernel_rfl) rfl ?_
       refine AWPL_rn tab_ok 1 [4, 5, 47, 50, 51] fun c st' hr => ?_
       simp only [go_sem] at hr
       obtain ⟨rfl, rfl⟩ := hr
       refine ⟨vc, ?_⟩
       refine AWPL_nil ?_
       refine QB_normal ?_
       exact AWPB_wk [0] mkWk ((hAA _ _ _).1 hn3))
      have hn5 : AA 4 #[true, true, true, false, true, true, true, false, false, false] ⟨273, [(46, .int .u64 (Int.tdiv y1 y2)), (50, .int .u64 (Int.tmod y1 y2))], []⟩ := (hAA _ _ _).2 (by
       refine AWPB_one 3 _ (by kernel_rfl) rfl ?_
       refine AWPL_callK [4, 5, 47, 50, 51] (W_rotabig_words hy) rfl rfl pcT rfl Try.call172 (.cons (.atom _ rfl) .nil) (hscG trivial) (of_decide_eq_true rfl) (by first | rfl | simp [nI, nI1, nI0]) (by first | rfl | simp [nIB, nI0]) fun st' hr => ?_
       simp only [go_sem] at hr
       subst hr
       refine AWPL_nil ?_
       refine QB_normal ?_
       exact AWPB_wk [0] mkWk ((hAA _ _ _).1 hn3))
      have hn6 : AA 5 #[true, true, true, false, true, true, false, false, false, false] ⟨273, [(46, .int .u64 (Int.tdiv y1 y2)), (48, .int .u64 y1), (49, .int .u64 y2)], []⟩ := (hAA _ _ _).2 (by
       refine AWPB_two 3 6 _ _ (by kernel_rfl) rfl rfl ?_ ?_
       ·skip
        refine AWPL_callK [4, 5, 47, 48, 49, 50, 51] (W_rotabig_words hy) rfl rfl pcT rfl Try.call172 (.cons (.atom _ rfl) .nil) (hscG trivial) (of_decide_eq_true rfl) (by first | rfl | simp [nI, nI1, nI0]) (by first | rfl | simp [nIB, nI0]) fun st' hr => ?_
        simp only [go_sem] at hr
        subst hr
        refine AWPL_nil ?_
        refine QB_normal ?_
        exact AWPB_wk [0] mkWk ((hAA _ _ _).1 hn4)
       ·skip
        refine AWPL_rn tab_ok 1 [4, 5, 46, 47, 50, 51] fun c st' hr => ?_
        simp only [go_sem] at hr
        obtain ⟨rfl, rfl⟩ := hr
        refine ⟨vc, ?_⟩
        refine AWPL_nil ?_
        refine QB_normal ?_
        exact AWPB_wk [] mkWk ((hAA _ _ _).1 hn5))
      have hn7 : AA 5 #[true, true, false, false, true, true, true, false, false, false] ⟨273, [(44, .int .u64 y1), (45, .int .u64 y2), (50, .int .u64 (Int.tmod y1 y2))], []⟩ := (hAA _ _ _).2 (by
       refine AWPB_one 2 _ (by kernel_rfl) rfl ?_
       refine AWPL_rn tab_ok 1 [4, 5, 46, 47, 50, 51] fun c st' hr => ?_
       simp only [go_sem] at hr
       obtain ⟨rfl, rfl⟩ := hr
       refine ⟨vc, ?_⟩
       refine AWPL_nil ?_
       refine QB_normal ?_
       exact AWPB_wk [] mkWk ((hAA _ _ _).1 hn5))
      have hn8 : AA 6 #[true, true, false, false, true, true, false, false, false, false] ⟨273, [(44, .int .u64 y1), (45, .int .u64 y2), (48, .int .u64 y1), (49, .int .u64 y2)], []⟩ := (hAA _ _ _).2 (by
       refine AWPB_two 2 6 _ _ (by kernel_rfl) rfl rfl ?_ ?_
       ·skip
        refine AWPL_rn tab_ok 1 [4, 5, 46, 47, 48, 49, 50, 51] fun c st' hr => ?_
        simp only [go_sem] at hr
        obtain ⟨rfl, rfl⟩ := hr
        refine ⟨vc, ?_⟩
        refine AWPL_nil ?_
        refine QB_normal ?_
        exact AWPB_wk [] mkWk ((hAA _ _ _).1 hn6)
       ·skip
        refine AWPL_rn tab_ok 1 [4, 5, 44, 45, 46, 47, 50, 51] fun c st' hr => ?_
        simp only [go_sem] at hr
        obtain ⟨rfl, rfl⟩ := hr
        refine ⟨vc, ?_⟩
        refine AWPL_nil ?_
        refine QB_normal ?_
        exact AWPB_wk [] mkWk ((hAA _ _ _).1 hn7))
      have hn9 : AA 7 #[true, true, false, false, true, false, false, false, false, false] ⟨273, [(7, .int .u64 y2), (44, .int .u64 y1), (45, .int .u64 y2), (48, .int .u64 y1)], []⟩ := (hAA _ _ _).2 (by
       refine AWPB_take tab_ok [4, 5, 44, 45, 46, 47, 48, 49, 50, 51] 5 _ rfl rfl (by kernel_rfl) fun c st' hr => ?_
       simp only [go_sem] at hr
       obtain ⟨rfl, rfl⟩ := hr
       refine ⟨vc, ?_⟩
       exact AWPB_wk [] mkWk ((hAA _ _ _).1 hn8))
      have hn10 : AA 8 #[true, true, false, false, false, false, false, false, false, false] ⟨273, [(6, .int .u64 y1), (7, .int .u64 y2), (44, .int .u64 y1), (45, .int .u64 y2)], []⟩ := (hAA _ _ _).2 (by
       refine AWPB_take tab_ok [4, 5, 7, 44, 45, 46, 47, 48, 49, 50, 51] 4 _ rfl rfl (by kernel_rfl) fun c st' hr => ?_
       simp only [go_sem] at hr
       obtain ⟨rfl, rfl⟩ := hr
       refine ⟨vc, ?_⟩
       exact AWPB_wk [] mkWk ((hAA _ _ _).1 hn9))
      have hn11 : AA 9 #[true, false, false, false, false, false, false, false, false, false] ⟨273, [(6, .int .u64 y1), (7, .int .u64 y2), (44, .int .u64 y1)], []⟩ := (hAA _ _ _).2 (by
       refine AWPB_take tab_ok [4, 5, 6, 7, 44, 45, 46, 47, 48, 49, 50, 51] 1 _ rfl rfl (by kernel_rfl) fun c st' hr => ?_
       simp only [go_sem] at hr
       obtain ⟨rfl, rfl⟩ := hr
       refine ⟨vc, ?_⟩
       exact AWPB_wk [] mkWk ((hAA _ _ _).1 hn10))
      have hn12 : AA 10 #[false, false, false, false, false, false, false, false, false, false] ⟨273, [(6, .int .u64 y1), (7, .int .u64 y2)], []⟩ := (hAA _ _ _).2 (by
       refine AWPB_take tab_ok [4, 5, 6, 7, 44, 45, 46, 47, 48, 49, 50, 51] 0 _ rfl rfl (by kernel_rfl) fun c st' hr => ?_
       simp only [go_sem] at hr
       obtain ⟨rfl, rfl⟩ := hr
       refine ⟨vc, ?_⟩
       exact AWPB_wk [] mkWk ((hAA _ _ _).1 hn11))
      exact (hAA _ _ _).2 (AWPB_wk [] mkWk ((hAA _ _ _).1 hn12))
     with_reducible refine thenC_normal ?_
     refine AWP_ret ?_
     with_reducible refine thenC_ret ?_
     cases hK
     refine EndsRW [0, 1] (.inl rfl) (of_decide_eq_true rfl) (by simp) rfl (fun c x hr => ?_) endH
     simp only [go_sem] at hr
     obtain ⟨rfl, rfl⟩ := hr
     exact ⟨rfl, endR⟩
    ·replace hK := ite_f hK hb2
     refine AWP_skip ?_
     with_reducible refine thenC_normal ?_
     refine AWP_seq ?_
     refine AWP_seq ?_
     cases hK


theorem W_rotabig_Rat_norm {q0 : (Bool × List Int) × (Bool × List Int)} {r : (Bool × List Int) × (Bool × List Int)} (hK : rotabig_Rat_norm q0 = some r) : InG Try.prog 129 [(.gen 33 4 [[.bool q0.1.1, .own 1 q0.1.2.length, .bool q0.2.1, .own 2 q0.2.2.length]]), (.ints 186 .u32 q0.1.2), (.ints 186 .u32 q0.2.2)] 1 (fun _ => [.ptr 0 0 0]) (.ptr 0 0 0) [(.gen 33 4 [[.bool r.1.1, .own 1 r.1.2.length, .bool r.2.1, .own 2 r.2.2.length]]), (.ints 186 .u32 r.1.2), (.ints 186 .u32 r.2.2)] := by
  refine InG_intro tab_ok (n := 120) (l := [.tmp 2]) Try.func129 rfl rfl rfl (fun ls => by first | (split <;> simp) | simp) (of_decide_eq_true rfl) (of_decide_eq_true rfl) rfl rfl rfl (by simp [renB, ren0, renI, List.range, List.range.loop]) (of_decide_eq_true rfl) (of_decide_eq_true rfl) fun w0 ls hls => ?_
  obtain ⟨pl0, rfl⟩ : ∃ pl0, ls = [pl0] := by
    match ls, hls with
    | [a], _ => exact ⟨a, rfl⟩
  simp only [pinL, List.map_cons, List.map_nil, List.cons_append, List.nil_append, Nat.zero_add, Nat.reduceAdd]
  unfold rotabig_Rat_norm at hK
  refine AWP_seq ?_
  refine AWP_rg tab_ok [0] fun c st' hr => ?_
  simp only [go_sem] at hr
  obtain ⟨rfl, rfl⟩ := hr
  refine ⟨vc, ?_⟩
  with_reducible refine thenC_normal ?_
  refine AWP_seq ?_
  refine AWP_seq ?_
  refine AWP_rg tab_ok [0, 14] fun c st' hr => ?_
  simp only [go_sem] at hr
  obtain ⟨rfl, rfl⟩ := hr
  refine ⟨vc, ?_⟩
  with_reducible refine thenC_normal ?_
  refine AWP_condP ((q0.2.2.length : Int) = 0) rfl bd (fun hb => ?_) (fun hb => ?_)
  ·replace hK := ite_t hK hb
   cases hK
  ·replace hK := ite_f hK hb
   refine AWP_skip ?_
   with_reducible refine thenC_normal ?_
   refine AWP_seq ?_
   refine AWP_seq ?_
   refine AWP_rg tab_ok [0, 23] fun c st' hr => ?_
   simp only [go_sem] at hr
   obtain ⟨rfl, rfl⟩ := hr
   refine ⟨vc, ?_⟩
   with_reducible refine thenC_normal ?_
   refine AWP_condP (q0.2.1 = true) rfl bd (fun hb1 => ?_) (fun hb1 => ?_)
   ·replace hK := ite_t hK hb1
    refine AWP_seq ?_
    cases hK
   ·replace hK := ite_f hK hb1
    refine AWP_skip ?_
    with_reducible refine thenC_normal ?_
    refine AWP_seq ?_
    refine AWP_seq ?_
    refine AWP_rg tab_ok [0, 44] fun c st' hr => ?_
    simp only [go_sem] at hr
    obtain ⟨rfl, rfl⟩ := hr
    refine ⟨vc, ?_⟩
    with_reducible refine thenC_normal ?_
    refine AWP_condP ((q0.1.2.length : Int) = 0) rfl bd (fun hb2 => ?_) (fun hb2 => ?_)
    ·replace hK := ite_t hK hb2
     refine AWP_seq ?_
     cases hK
    ·replace hK := ite_f hK hb2
     refine AWP_skip ?_
     with_reducible refine thenC_normal ?_
     refine AWP_seq ?_
     refine AWP_seq ?_
     replace hK := chk_some hK
     obtain ⟨h, hK⟩ := hK
     refine AWP_rg tab_ok [0, 66] fun c st' hr => ?_
     simp only [go_sem] at hr
     obtain ⟨rfl, rfl⟩ := hr
     refine ⟨vc, ?_⟩
     with_reducible refine thenC_normal ?_
     refine AWP_condP (((q0.2.2.length : Int) = 1 ∧ q0.2.2.getD 0 0 = 1)) rfl bd (fun hb3 => ?_) (fun hb3 => ?_)
     ·replace hK := ite_t hK hb3
      refine AWP_seq ?_
      refine AWP_rg tab_ok [2] fun c st' hr => ?_
      simp only [go_sem] at hr
      obtain ⟨rfl, rfl⟩ := hr
      refine ⟨vc, ?_⟩
      with_reducible refine thenC_normal ?_
      refine AWP_ret ?_
      with_reducible refine thenC_ret ?_
      cases hK
      refine EndsRW [0, 1, 2, 3] (.inl rfl) (of_decide_eq_true rfl) (by simp) rfl (fun c x hr => ?_) endH
      simp only [go_sem] at hr
      obtain ⟨rfl, rfl⟩ := hr
      exact ⟨rfl, endR⟩
     ·replace hK := ite_f hK hb3
      refine AWP_skip ?_
      with_reducible refine thenC_normal ?_
      refine AWP_seq ?_
      refine AWP_drawTail tab_ok 10 mixed (by kernel_rfl) fun c st' hr => ?_
      simp only [go_sem] at hr
      obtain ⟨rfl, rfl⟩ := hr
      refine ⟨vc, ?_⟩
      replace hK := bind_s hK
      obtain ⟨y, hy, hK⟩ := hK
      refine AWPL_callK [0, 78] (W_rotabig_common hy) rfl rfl pcT rfl Try.call170 (.cons (.ownI _ _ _ _ _ q0.1.2 rfl (by simp) (by first | simp | exact List.take_of_length_le (by simp))) (.cons (.ownI _ _ _ _ _ q0.2.2 rfl (by simp) (by first | simp | exact List.take_of_length_le (by simp))) .nil)) (hscG trivial) (of_decide_eq_true rfl) (by first | rfl | simp [nI, nI1, nI0]) (by first | rfl | simp [nIB, nI0]) fun st' hr => ?_
      simp only [go_sem] at hr
      subst hr
      clear hy
      refine AWPL_rn tab_ok 1 [0, 3] fun c st' hr => ?_
      simp only [go_sem] at hr
      obtain ⟨rfl, rfl⟩ := hr
      refine ⟨vc, ?_⟩
      refine AWPL_nil ?_
      with_reducible refine thenC_normal ?_
      refine AWP_seq ?_
      refine AWP_seq ?_
      replace hK := chk_some hK
      obtain ⟨h1, hK⟩ := hK
      refine AWP_rg tab_ok [0, 3, 87] fun c st' hr => ?_
      simp only [go_sem] at hr
      obtain ⟨rfl, rfl⟩ := hr
      refine ⟨vc, ?_⟩
      with_reducible refine thenC_normal ?_
      refine AWP_condP (((y.length : Int) = 1 ∧ y.getD 0 0 = 1)) rfl bd (fun hb4 => ?_) (fun hb4 => ?_)
      ·replace hK := ite_t hK hb4
       refine AWP_seq ?_
       refine AWP_rg tab_ok [2] fun c st' hr => ?_
       simp only [go_sem] at hr
       obtain ⟨rfl, rfl⟩ := hr
       refine ⟨vc, ?_⟩
       with_reducible refine thenC_normal ?_
       refine AWP_ret ?_
       with_reducible refine thenC_ret ?_
       cases hK
       refine EndsRW [0, 1, 2, 3] (.inl rfl) (of_decide_eq_true rfl) (by simp) rfl (fun c x hr => ?_) endH
       simp only [go_sem] at hr
       obtain ⟨rfl, rfl⟩ := hr
       exact ⟨rfl, endR⟩
      ·replace hK := ite_f hK hb4
       refine AWP_skip ?_
       with_reducible refine thenC_normal ?_
       refine AWP_seq ?_
       refine AWP_rl ?_
       refine AWPL_rn tab_ok 6 [0, 3, 94, 95] fun c st' hr => ?_
       simp only [go_sem] at hr
       obtain ⟨rfl, rfl⟩ := hr
       refine ⟨vc, ?_⟩
       replace hK := bind_s hK
       obtain ⟨y1, hy, hK⟩ := hK
       refine AWPL_callK [0, 3, 96] (W_rotabig_div hy) rfl rfl pcT rfl Try.call171 (.cons (.ownI _ _ _ _ _ q0.1.2 rfl (by simp) (by first | simp | exact List.take_of_length_le (by simp))) (.cons (.ownI _ _ _ _ _ y rfl (by simp) (by first | simp | exact List.take_of_length_le (by simp))) .nil)) (hscG trivial) (of_decide_eq_true rfl) (by first | rfl | simp [nI, nI1, nI0]) (by first | rfl | simp [nIB, nI0]) fun st' hr => ?_
       simp only [go_sem] at hr
       subst hr
       clear hy
       refine AWPL_rn tab_ok 5 [0, 3, 4] fun c st' hr => ?_
       simp only [go_sem] at hr
       obtain ⟨rfl, rfl⟩ := hr
       refine ⟨vc, ?_⟩
       refine AWPL_nil ?_
       with_reducible refine thenC_normal ?_
       refine AWP_seq ?_
       refine AWP_rl ?_
       refine AWPL_rn tab_ok 6 [0, 4, 104, 105] fun c st' hr => ?_
       simp only [go_sem] at hr
       obtain ⟨rfl, rfl⟩ := hr
       refine ⟨vc, ?_⟩
       replace hK := bind_s hK
       obtain ⟨y2, hy, hK⟩ := hK
       refine AWPL_callK [0, 4, 106] (W_rotabig_div hy) rfl rfl pcT rfl Try.call171 (.cons (.ownI _ _ _ _ _ q0.2.2 rfl (by simp) (by first | simp | exact List.take_of_length_le (by simp))) (.cons (.ownI _ _ _ _ _ y rfl (by simp) (by first | simp | exact List.take_of_length_le (by simp))) .nil)) (hscG trivial) (of_decide_eq_true rfl) (by first | rfl | simp [nI, nI1, nI0]) (by first | rfl | simp [nIB, nI0]) fun st' hr => ?_
       simp only [go_sem] at hr
       subst hr
       clear hy
       refine AWPL_rn tab_ok 5 [0, 4, 6] fun c st' hr => ?_
       simp only [go_sem] at hr
       obtain ⟨rfl, rfl⟩ := hr
       refine ⟨vc, ?_⟩
       refine AWPL_nil ?_
       with_reducible refine thenC_normal ?_
       refine AWP_seq ?_
       refine AWP_rg tab_ok [0, 6] fun c st' hr => ?_
       simp only [go_sem] at hr
       obtain ⟨rfl, rfl⟩ := hr
       refine ⟨vc, ?_⟩
       with_reducible refine thenC_normal ?_
       refine AWP_seq ?_
       refine AWP_rg tab_ok [0] fun c st' hr => ?_
       simp only [go_sem] at hr
       obtain ⟨rfl, rfl⟩ := hr
       refine ⟨vc, ?_⟩
       with_reducible refine thenC_normal ?_
       refine AWP_seq ?_
       refine AWP_rg tab_ok [2] fun c st' hr => ?_
       simp only [go_sem] at hr
       obtain ⟨rfl, rfl⟩ := hr
       refine ⟨vc, ?_⟩
       with_reducible refine thenC_normal ?_
       refine AWP_ret ?_
       cases hK
       refine EndsRW [0, 5, 7, 3] (.inl rfl) (of_decide_eq_true rfl) (by simp) rfl (fun c x hr => ?_) endH
       simp only [go_sem] at hr
       obtain ⟨rfl, rfl⟩ := hr
       exact ⟨rfl, endR⟩


theorem W_rotabig_Rat_SetFrac {a_0 : Bool} {a_1 : List Int} {b_0 : Bool} {b_1 : List Int} {q0 : (Bool × List Int) × (Bool × List Int)} {r : (Bool × List Int) × (Bool × List Int)} (hK : rotabig_Rat_SetFrac a_0 a_1 b_0 b_1 q0 = some r) : InG Try.prog 67 [(.gen 33 4 [[.bool q0.1.1, .own 1 q0.1.2.length, .bool q0.2.1, .own 2 q0.2.2.length]]), (.ints 186 .u32 q0.1.2), (.ints 186 .u32 q0.2.2)] 1 (fun _ => [.ptr 0 0 0, .immp [.bool a_0, .ints .u32 a_1], .immp [.bool b_0, .ints .u32 b_1]]) (.ptr 0 0 0) [(.gen 33 4 [[.bool r.1.1, .own 1 r.1.2.length, .bool r.2.1, .own 2 r.2.2.length]]), (.ints 186 .u32 r.1.2), (.ints 186 .u32 r.2.2)] := by
  refine InG_intro tab_ok (n := 39) (l := [.tmp 6]) Try.func67 rfl rfl rfl (fun ls => by first | (split <;> simp) | simp) (of_decide_eq_true rfl) (of_decide_eq_true rfl) rfl rfl rfl (by simp [renB, ren0, renI, List.range, List.range.loop]) (of_decide_eq_true rfl) (of_decide_eq_true rfl) fun w0 ls hls => ?_
  obtain ⟨pl0, rfl⟩ : ∃ pl0, ls = [pl0] := by
    match ls, hls with
    | [a], _ => exact ⟨a, rfl⟩
  simp only [pinL, List.map_cons, List.map_nil, List.cons_append, List.nil_append, Nat.zero_add, Nat.reduceAdd]
  unfold rotabig_Rat_SetFrac at hK
  refine AWP_seq ?_
  refine AWP_rg tab_ok [0, 1, 2] fun c st' hr => ?_
  simp only [go_sem] at hr
  obtain ⟨rfl, rfl⟩ := hr
  refine ⟨vc, ?_⟩
  with_reducible refine thenC_normal ?_
  refine AWP_seq ?_
  refine AWP_seq ?_
  refine AWP_rg tab_ok [0, 1, 2, 14] fun c st' hr => ?_
  simp only [go_sem] at hr
  obtain ⟨rfl, rfl⟩ := hr
  refine ⟨vc, ?_⟩
  with_reducible refine thenC_normal ?_
  refine AWP_condP ((b_1.length : Int) = 0) rfl bd (fun hb => ?_) (fun hb => ?_)
  ·replace hK := ite_t hK hb
   refine AWP_seq ?_
   cases hK
  ·replace hK := ite_f hK hb
   refine AWP_skip ?_
   with_reducible refine thenC_normal ?_
   refine AWP_seq ?_
   refine AWP_rl ?_
   refine AWPL_rn tab_ok 2 [0, 2, 19, 20] fun c st' hr => ?_
   simp only [go_sem] at hr
   obtain ⟨rfl, rfl⟩ := hr
   refine ⟨vc, ?_⟩
   refine AWPL_gs' (gs_ownH 4 1 (.ints 186 .u32 []) rfl rfl rfl) fun st' hr => ?_
   simp only [go_sem, List.cons_append, List.nil_append, List.set_cons_zero, List.set_cons_succ] at hr
   subst hr
   replace hK := bind_s hK
   obtain ⟨y, hy, hK⟩ := hK
   refine AWPL_gR [0, 2, 21] [4, 5] [.ptr 0 0 0, .immp [.bool a_0, .ints .u32 a_1]] [some (.gen 33 4 [[.bool q0.1.1, .own 1 q0.1.2.length, .bool q0.2.1, .own 2 q0.2.2.length]]), some (.ints 186 .u32 q0.1.2), some (.ints 186 .u32 q0.2.2), some (.pin 0 pl0), some (.gen 31 2 [[.bool y.1, .own 6 y.2.length]]), none, some (.ints 186 .u32 y.2)] (r' := .ptr 4 0 0) (W_rotabig_Int_Set hy) rfl rfl pcT rfl Try.call128 (of_decide_eq_true rfl) ⟨rfl, rfl, trivial⟩ rfl (hscG trivial) (of_decide_eq_true rfl) rfl rfl rfl (of_decide_eq_true rfl) rfl fun st' hr => ?_
   simp only [go_sem] at hr
   subst hr
   clear hy
   refine AWPL_rn tab_ok 2 [0, 21, 22, 23] fun c st' hr => ?_
   simp only [go_sem] at hr
   obtain ⟨rfl, rfl⟩ := hr
   refine ⟨vc, ?_⟩
   refine AWPL_gs' (gs_ownH 7 1 (.ints 186 .u32 []) rfl rfl rfl) fun st' hr => ?_
   simp only [go_sem, List.cons_append, List.nil_append, List.set_cons_zero, List.set_cons_succ] at hr
   subst hr
   replace hK := bind_s hK
   obtain ⟨y1, hy, hK⟩ := hK
   refine AWPL_gR [0, 21, 24] [7, 8] [.ptr 0 0 0, .immp [.bool b_0, .ints .u32 b_1]] [some (.gen 33 4 [[.bool q0.1.1, .own 1 q0.1.2.length, .bool q0.2.1, .own 2 q0.2.2.length]]), some (.ints 186 .u32 q0.1.2), some (.ints 186 .u32 q0.2.2), some (.pin 0 pl0), some (.gen 31 2 [[.bool y.1, .own 6 y.2.length]]), none, some (.ints 186 .u32 y.2), some (.gen 31 2 [[.bool y1.1, .own 9 y1.2.length]]), none, some (.ints 186 .u32 y1.2)] (r' := .ptr 7 0 0) (W_rotabig_Int_Set hy) rfl rfl pcT rfl Try.call128 (of_decide_eq_true rfl) ⟨rfl, rfl, trivial⟩ rfl (hscG trivial) (of_decide_eq_true rfl) rfl rfl rfl (of_decide_eq_true rfl) rfl fun st' hr => ?_
   simp only [go_sem] at hr
   subst hr
   clear hy
   refine AWPL_rn tab_ok 2 [0, 7, 8] fun c st' hr => ?_
   simp only [go_sem] at hr
   obtain ⟨rfl, rfl⟩ := hr
   refine ⟨vc, ?_⟩
   refine AWPL_nil ?_
   with_reducible refine thenC_normal ?_
   refine AWP_seq ?_
   refine AWP_rg tab_ok [0, 8] fun c st' hr => ?_
   simp only [go_sem] at hr
   obtain ⟨rfl, rfl⟩ := hr
   refine ⟨vc, ?_⟩
   with_reducible refine thenC_normal ?_
   refine AWP_seq ?_
   refine AWP_rg tab_ok [0] fun c st' hr => ?_
   simp only [go_sem] at hr
   obtain ⟨rfl, rfl⟩ := hr
   refine ⟨vc, ?_⟩
   with_reducible refine thenC_normal ?_
   refine AWP_seq ?_
   refine AWP_rl ?_
   refine AWPL_rn tab_ok 1 [37] fun c st' hr => ?_
   simp only [go_sem] at hr
   obtain ⟨rfl, rfl⟩ := hr
   refine ⟨vc, ?_⟩
   replace hK := bind_s hK
   obtain ⟨y2, hy, hK⟩ := hK
   refine AWPL_gR [38] [0, 6, 9] [.ptr 0 0 0] [some (.gen 33 4 [[.bool y2.1.1, .own 10 y2.1.2.length, .bool y2.2.1, .own 11 y2.2.2.length]]), some (.ints 186 .u32 q0.1.2), some (.ints 186 .u32 q0.2.2), some (.pin 0 pl0), some (.gen 31 2 [[.bool y.1, .own 6 y.2.length]]), none, none, some (.gen 31 2 [[.bool y1.1, .own 9 y1.2.length]]), none, none, some (.ints 186 .u32 y2.1.2), some (.ints 186 .u32 y2.2.2)] (r' := .ptr 0 0 0) (W_rotabig_Rat_norm hy) rfl rfl pcT rfl Try.call129 (of_decide_eq_true rfl) ⟨rfl, rfl, rfl, trivial⟩ rfl (hscG trivial) (of_decide_eq_true rfl) rfl rfl rfl (of_decide_eq_true rfl) rfl fun st' hr => ?_
   simp only [go_sem] at hr
   subst hr
   clear hy
   refine AWPL_rn tab_ok 1 [6] fun c st' hr => ?_
   simp only [go_sem] at hr
   obtain ⟨rfl, rfl⟩ := hr
   refine ⟨vc, ?_⟩
   refine AWPL_nil ?_
   with_reducible refine thenC_normal ?_
   refine AWP_ret ?_
   cases hK
   refine EndsRW [0, 10, 11, 3] (.inl rfl) (of_decide_eq_true rfl) (by simp) rfl (fun c x hr => ?_) endH
   simp only [go_sem] at hr
   obtain ⟨rfl, rfl⟩ := hr
   exact ⟨rfl, endR⟩


theorem W_rotabig_NewRat {a : Int} {b : Int} {r : ((Bool × List Int) × (Bool × List Int))} (hK : rotabig_NewRat a b = some r) : Pure Try.prog 17 [.int .i64 a, .int .i64 b] (.ptr 0 0 0) [(.gen 33 4 [[.bool r.1.1, .own 1 r.1.2.length, .bool r.2.1, .own 2 r.2.2.length]]), (.ints 186 .u32 r.1.2), (.ints 186 .u32 r.2.2)] := by
  refine Pure_introF tab_ok (n := 14) (l := [.tmp 4]) Try.func17 rfl rfl rfl (by simp) fun hfact w0 => ?_
  simp only [factL1, fact1, fact0, factL0, lo, hi, maxLen, and_true] at hfact
  unfold rotabig_NewRat at hK
  refine AWP_seq ?_
  refine AWP_rg tab_ok [0, 1] fun c st' hr => ?_
  simp only [go_sem] at hr
  obtain ⟨rfl, rfl⟩ := hr
  refine ⟨vc, ?_⟩
  with_reducible refine thenC_normal ?_
  refine AWP_seq ?_
  refine AWP_seq ?_
  refine AWP_rg tab_ok [0, 1, 6] fun c st' hr => ?_
  simp only [go_sem] at hr
  obtain ⟨rfl, rfl⟩ := hr
  refine ⟨vc, ?_⟩
  with_reducible refine thenC_normal ?_
  refine AWP_condP (b = 0) rfl bd (fun hb => ?_) (fun hb => ?_)
  ·replace hK := ite_t hK hb
   refine AWP_seq ?_
   refine AWP_rg tab_ok [4] fun c st' hr => ?_
   simp only [go_sem] at hr
   obtain ⟨rfl, rfl⟩ := hr
   refine ⟨vc, ?_⟩
   with_reducible refine thenC_normal ?_
   refine AWP_ownH 0 1 (.ints 186 .u32 []) rfl rfl rfl fun st' hr => ?_
   simp only [go_sem] at hr
   subst hr
   refine AWP_ownH 0 3 (.ints 186 .u32 []) rfl rfl rfl fun st' hr => ?_
   simp only [go_sem] at hr
   subst hr
   refine AWP_ret ?_
   with_reducible refine thenC_ret ?_
   cases hK
   refine EndsRW [0, 1, 2] (.inl rfl) (of_decide_eq_true rfl) (by simp) rfl (fun c x hr => ?_) endH
   simp only [go_sem] at hr
   obtain ⟨rfl, rfl⟩ := hr
   exact ⟨rfl, endR⟩
  ·replace hK := ite_f hK hb
   refine AWP_skip ?_
   with_reducible refine thenC_normal ?_
   refine AWP_seq ?_
   refine AWP_rl ?_
   refine AWPL_rn tab_ok 2 [1, 8, 9] fun c st' hr => ?_
   simp only [go_sem] at hr
   obtain ⟨rfl, rfl⟩ := hr
   refine ⟨vc, ?_⟩
   replace hK := bind_s hK
   obtain ⟨y, hy, hK⟩ := hK
   refine AWPL_callK [1, 8, 10] (W_rotabig_NewInt hy) rfl rfl pcT rfl Try.call68 (.cons (.atom _ rfl) .nil) (hscG trivial) (of_decide_eq_true rfl) (by first | rfl | simp [nI, nI1, nI0]) (by first | rfl | simp [nIB, nI0]) fun st' hr => ?_
   simp only [go_sem] at hr
   subst hr
   clear hy
   refine AWPL_rn tab_ok 1 [8, 10, 11] fun c st' hr => ?_
   simp only [go_sem] at hr
   obtain ⟨rfl, rfl⟩ := hr
   refine ⟨vc, ?_⟩
   replace hK := bind_s hK
   obtain ⟨y1, hy, hK⟩ := hK
   refine AWPL_callK [8, 10, 12] (W_rotabig_NewInt hy) rfl rfl pcT rfl Try.call68 (.cons (.atom _ rfl) .nil) (hscG trivial) (of_decide_eq_true rfl) (by first | rfl | simp [nI, nI1, nI0]) (by first | rfl | simp [nIB, nI0]) fun st' hr => ?_
   simp only [go_sem] at hr
   subst hr
   clear hy
   refine AWPL_gs' (gs_ownH 0 1 (.ints 186 .u32 []) rfl rfl rfl) fun st' hr => ?_
   simp only [go_sem, List.cons_append, List.nil_append, List.set_cons_zero, List.set_cons_succ] at hr
   subst hr
   refine AWPL_gs' (gs_ownH 0 3 (.ints 186 .u32 []) rfl rfl rfl) fun st' hr => ?_
   simp only [go_sem, List.cons_append, List.nil_append, List.set_cons_zero, List.set_cons_succ] at hr
   subst hr
   replace hK := bind_s hK
   obtain ⟨y2, hy, hK⟩ := hK
   refine AWPL_gS [13] [0, 5, 6] [.ptr 0 0 0, .immp [.bool y.1, .ints .u32 y.2], .immp [.bool y1.1, .ints .u32 y1.2]] [some (.gen 33 4 [[.bool y2.1.1, .own 7 y2.1.2.length, .bool y2.2.1, .own 8 y2.2.2.length]]), some (.gen 31 2 [[.bool y.1, .own 2 y.2.length]]), some (.ints 186 .u32 y.2), some (.gen 31 2 [[.bool y1.1, .own 4 y1.2.length]]), some (.ints 186 .u32 y1.2), none, none, some (.ints 186 .u32 y2.1.2), some (.ints 186 .u32 y2.2.2)] (r' := .ptr 0 0 0) (W_rotabig_Rat_SetFrac hy) rfl rfl pcT rfl Try.call67 (of_decide_eq_true rfl) ⟨rfl, rfl, rfl, trivial⟩ (.ptr 0 rfl (.cons (ArgOk.part (j0 := 0) rfl rfl (of_decide_eq_true rfl) (.cons (.atom _ rfl) (.cons (.ownI _ _ _ _ _ y.2 rfl (by simp) (by first | simp | exact List.take_of_length_le (by simp))) .nil))) (.cons (ArgOk.part (j0 := 0) rfl rfl (of_decide_eq_true rfl) (.cons (.atom _ rfl) (.cons (.ownI _ _ _ _ _ y1.2 rfl (by simp) (by first | simp | exact List.take_of_length_le (by simp))) .nil))) .nil))) (hscG trivial) (of_decide_eq_true rfl) rfl rfl rfl (of_decide_eq_true rfl) rfl fun st' hr => ?_
   simp only [go_sem] at hr
   subst hr
   clear hy
   refine AWPL_rn tab_ok 1 [4] fun c st' hr => ?_
   simp only [go_sem] at hr
   obtain ⟨rfl, rfl⟩ := hr
   refine ⟨vc, ?_⟩
   refine AWPL_nil ?_
   with_reducible refine thenC_normal ?_
   refine AWP_ret ?_
   cases hK
   refine EndsRW [0, 7, 8] (.inl rfl) (of_decide_eq_true rfl) (by simp) rfl (fun c x hr => ?_) endH
   simp only [go_sem] at hr
   obtain ⟨rfl, rfl⟩ := hr
   exact ⟨rfl, endR⟩


theorem W_rotabig_Rat_den_B {q0 : (Bool × List Int) × (Bool × List Int)} {r : (Bool × List Int) × (Bool × List Int)} (hK : rotabig_Rat_den_B q0 = some r) : InG Try.prog 66 [(.gen 33 4 [[.bool q0.1.1, .own 1 q0.1.2.length, .bool q0.2.1, .own 2 q0.2.2.length]]), (.ints 186 .u32 q0.1.2), (.ints 186 .u32 q0.2.2)] 1 (fun _ => [.ptr 0 0 0]) (.ptr 0 0 2) [(.gen 33 4 [[.bool r.1.1, .own 1 r.1.2.length, .bool r.2.1, .own 2 r.2.2.length]]), (.ints 186 .u32 r.1.2), (.ints 186 .u32 r.2.2)] := by
  refine InG_intro tab_ok (n := 14) (l := [.tmp 2]) Try.func66 rfl rfl rfl (fun ls => by first | (split <;> simp) | simp) (of_decide_eq_true rfl) (of_decide_eq_true rfl) rfl rfl rfl (by simp [renB, ren0, renI, List.range, List.range.loop]) (of_decide_eq_true rfl) (of_decide_eq_true rfl) fun w0 ls hls => ?_
  obtain ⟨pl0, rfl⟩ : ∃ pl0, ls = [pl0] := by
    match ls, hls with
    | [a], _ => exact ⟨a, rfl⟩
  simp only [pinL, List.map_cons, List.map_nil, List.cons_append, List.nil_append, Nat.zero_add, Nat.reduceAdd]
  unfold rotabig_Rat_den_B at hK
  refine AWP_seq ?_
  refine AWP_rg tab_ok [0] fun c st' hr => ?_
  simp only [go_sem] at hr
  obtain ⟨rfl, rfl⟩ := hr
  refine ⟨vc, ?_⟩
  with_reducible refine thenC_normal ?_
  refine AWP_seq ?_
  refine AWP_seq ?_
  refine AWP_rg tab_ok [0, 9] fun c st' hr => ?_
  simp only [go_sem] at hr
  obtain ⟨rfl, rfl⟩ := hr
  refine ⟨vc, ?_⟩
  with_reducible refine thenC_normal ?_
  refine AWP_condP ((q0.2.2.length : Int) = 0) rfl bd (fun hb => ?_) (fun hb => ?_)
  ·replace hK := ite_t hK hb
   refine AWP_seq ?_
   cases hK
  ·replace hK := ite_f hK hb
   refine AWP_skip ?_
   with_reducible refine thenC_normal ?_
   refine AWP_seq ?_
   refine AWP_rg tab_ok [2] fun c st' hr => ?_
   simp only [go_sem] at hr
   obtain ⟨rfl, rfl⟩ := hr
   refine ⟨vc, ?_⟩
   with_reducible refine thenC_normal ?_
   refine AWP_ret ?_
   cases hK
   refine EndsRW [0, 1, 2, 3] (.inl rfl) (of_decide_eq_true rfl) (by simp) rfl (fun c x hr => ?_) endH
   simp only [go_sem] at hr
   obtain ⟨rfl, rfl⟩ := hr
   exact ⟨rfl, endR⟩


theorem W_rotabig_mul {a : List Int} {a1 : List Int} {r : List Int} (hK : rotabig_mul a a1 = some r) : Pure Try.prog 127 [.ints .u32 a, .ints .u32 a1] (.own 0 r.length) [(.ints 186 .u32 r)] := by
  refine Pure_introF tab_ok (n := 75) (l := [.tmp 4]) Try.func127 rfl rfl rfl (by simp) fun hfact w0 => ?_
  simp only [factL1, fact1, fact0, factL0, lo, hi, maxLen, and_true] at hfact
  unfold rotabig_mul at hK
  refine AWP_seq ?_
  refine AWP_rg tab_ok [0, 1] fun c st' hr => ?_
  simp only [go_sem] at hr
  obtain ⟨rfl, rfl⟩ := hr
  refine ⟨vc, ?_⟩
  with_reducible refine thenC_normal ?_
  refine AWP_seq ?_
  refine AWP_seq ?_
  refine AWP_rg tab_ok [0, 1, 16] fun c st' hr => ?_
  simp only [go_sem] at hr
  obtain ⟨rfl, rfl⟩ := hr
  refine ⟨vc, ?_⟩
  with_reducible refine thenC_normal ?_
  refine AWP_condP (((a.length : Int) = 0 ∨ (a1.length : Int) = 0)) rfl bd (fun hb => ?_) (fun hb => ?_)
  ·replace hK := ite_t hK hb
   refine AWP_seq ?_
   refine AWP_rg tab_ok [4] fun c st' hr => ?_
   simp only [go_sem] at hr
   obtain ⟨rfl, rfl⟩ := hr
   refine ⟨vc, ?_⟩
   with_reducible refine thenC_normal ?_
   refine AWP_own 4 (.ints 186 .u32 []) rfl rfl fun st' hr => ?_
   simp only [go_sem] at hr
   subst hr
   refine AWP_ret ?_
   with_reducible refine thenC_ret ?_
   cases hK
   refine EndsRW [0] (.inl rfl) (of_decide_eq_true rfl) (by simp) rfl (fun c x hr => ?_) endH
   simp only [go_sem] at hr
   obtain ⟨rfl, rfl⟩ := hr
   exact ⟨rfl, endR⟩
  ·replace hK := ite_f hK hb
   refine AWP_skip ?_
   with_reducible refine thenC_normal ?_
   refine AWP_seq ?_
   replace hK := chk_some hK
   obtain ⟨h, hK⟩ := hK
   refine AWP_rg tab_ok [0, 1, 5] fun c st' hr => ?_
   simp only [go_sem] at hr
   obtain ⟨rfl, rfl⟩ := hr
   refine ⟨vc, ?_⟩
   with_reducible refine thenC_normal ?_
   refine AWP_seq ?_
   refine AWP_seq ?_
   refine AWP_rg tab_ok [0, 1, 5, 6] fun c st' hr => ?_
   simp only [go_sem] at hr
   obtain ⟨rfl, rfl⟩ := hr
   refine ⟨vc, ?_⟩
   with_reducible refine thenC_normal ?_
   refine AWP_block ?_
   refine AWP_loopX 0 (fun ((v, v1) : List Int × Int) => ⟨75, [(0, .ints .u32 a), (1, .ints .u32 a1), (5, .own 0 v.length), (6, .int .i64 v1)], [some (.ints 186 .u32 v)]⟩) (fun (v2 : List Int) => ⟨75, [(5, .own 0 v2.length)], [some (.ints 186 .u32 v2)]⟩) (fun v => v) (List.replicate ((a.length : Int) + (a1.length : Int)).toNat 0, 0) [0] hK mkWk ?_ ?_
   ·clear hK; rintro ⟨v, v1⟩ b hK hpost1
    try dsimp only at hK
    change AWP _ _ _ _ ⟨75, [(0, .ints .u32 a), (1, .ints .u32 a1), (5, .own 0 v.length), (6, .int .i64 v1)], [some (.ints 186 .u32 v)]⟩
    refine AWP_seq ?_
    refine AWP_seq ?_
    refine AWP_rg tab_ok [0, 1, 5, 6, 26] fun c st' hr => ?_
    simp only [go_sem] at hr
    obtain ⟨rfl, rfl⟩ := hr
    refine ⟨vc, ?_⟩
    with_reducible refine thenC_normal ?_
    refine AWP_condP (v1 < (a.length : Int)) rfl bd (fun hb1 => ?_) (fun hb1 => ?_)
    ·replace hK := ite_t hK hb1
     refine AWP_skip ?_
     with_reducible refine thenC_normal ?_
     refine AWP_seq ?_
     refine AWP_block ?_
     refine AWP_seq ?_
     refine AWP_rg tab_ok [0, 1, 5, 6, 7] fun c st' hr => ?_
     simp only [go_sem] at hr
     obtain ⟨rfl, rfl⟩ := hr
     refine ⟨vc, ?_⟩
     with_reducible refine thenC_normal ?_
     refine AWP_seq ?_
     refine AWP_seq ?_
     refine AWP_rg tab_ok [0, 1, 5, 6, 7, 8] fun c st' hr => ?_
     simp only [go_sem] at hr
     obtain ⟨rfl, rfl⟩ := hr
     refine ⟨vc, ?_⟩
     with_reducible refine thenC_normal ?_
     refine AWP_block ?_
     refine AWP_loopX 2 (fun ((v3, v4, v5) : List Int × Int × Int) => ⟨75, [(0, .ints .u32 a), (1, .ints .u32 a1), (5, .own 0 v3.length), (6, .int .i64 v1), (7, .int .u64 v4), (8, .int .i64 v5)], [some (.ints 186 .u32 v3)]⟩) (fun ((v6, v7) : List Int × Int) => ⟨75, [(0, .ints .u32 a), (1, .ints .u32 a1), (5, .own 0 v6.length), (6, .int .i64 v1), (7, .int .u64 v7)], [some (.ints 186 .u32 v6)]⟩) (fun v => v) (v, 0, 0) [0] hK mkWk ?_ ?_
     ·clear hK; rintro ⟨v3, v4, v5⟩ b1 hK hpost2
      try dsimp only at hK
      change AWP _ _ _ _ ⟨75, [(0, .ints .u32 a), (1, .ints .u32 a1), (5, .own 0 v3.length), (6, .int .i64 v1), (7, .int .u64 v4), (8, .int .i64 v5)], [some (.ints 186 .u32 v3)]⟩
      refine AWP_seq ?_
      refine AWP_seq ?_
      refine AWP_rg tab_ok [0, 1, 5, 6, 7, 8, 32] fun c st' hr => ?_
      simp only [go_sem] at hr
      obtain ⟨rfl, rfl⟩ := hr
      refine ⟨vc, ?_⟩
      with_reducible refine thenC_normal ?_
      refine AWP_condP (v5 < (a1.length : Int)) rfl bd (fun hb2 => ?_) (fun hb2 => ?_)
      ·replace hK := ite_t hK hb2
       refine AWP_skip ?_
       with_reducible refine thenC_normal ?_
       refine AWP_seq ?_
       refine AWP_block ?_
       refine AWP_seq ?_
       replace hK := chk_some hK
       obtain ⟨h1, hK⟩ := hK
       refine AWP_dr tab_ok [0, 1, 5, 6, 7, 8] mixed (by kernel_rfl) fun c st' hr => ?_
       simp only [go_sem] at hr
       obtain ⟨rfl, rfl⟩ := hr
       refine ⟨vc, ?_⟩
       with_reducible refine thenC_normal ?_
       refine AWP_seq ?_
       refine AWP_rl ?_
       replace hK := chk_some hK
       obtain ⟨h2, hK⟩ := hK
       refine AWPL_rn tab_ok 5 [0, 1, 5, 6, 7, 8, 56, 59, 60] fun c st' hr => ?_
       simp only [go_sem] at hr
       obtain ⟨rfl, rfl⟩ := hr
       refine ⟨vc, ?_⟩
       refine AWPL_wconv tab_ok [0, 1, 5, 6, 7, 8, 56, 59, 61] rfl rfl pcT (of_decide_eq_true rfl) rfl rfl rfl fun st' hr => ?_
       simp only [go_sem] at hr
       subst hr
       replace hK := chk_some hK
       obtain ⟨h3, hK⟩ := hK
       refine AWPL_rn tab_ok 2 [0, 1, 5, 6, 7, 8] fun c st' hr => ?_
       simp only [go_sem] at hr
       obtain ⟨rfl, rfl⟩ := hr
       refine ⟨vc, ?_⟩
       refine AWPL_nil ?_
       with_reducible refine thenC_normal ?_
       refine AWP_rg tab_ok [0, 1, 5, 6, 7, 8] fun c st' hr => ?_
       simp only [go_sem] at hr
       obtain ⟨rfl, rfl⟩ := hr
       refine ⟨vc, ?_⟩
       with_reducible refine inBlockA_normal (thenC_normal ?_)
       refine AWP_facts (by simp) fun hfx => ?_
       simp only [factS, factV, fact1, fact0, factL0, lo, hi, maxLen, and_true, true_and] at hfx
       refine AWP_rg tab_ok [0, 1, 5, 6, 7, 8] fun c st' hr => ?_
       simp only [go_sem] at hr
       obtain ⟨rfl, rfl⟩ := hr
       refine ⟨vc, ?_⟩
       clear hfx
       refine again_n (v3.set (v1 + v5).toNat (IntKind.wrap .u32 (v4 + (((a.getD v1.toNat 0) * (a1.getD v5.toNat 0)) + (v3.getD (v1 + v5).toNat 0)))), (v4 + (((a.getD v1.toNat 0) * (a1.getD v5.toNat 0)) + (v3.getD (v1 + v5).toNat 0))) / 2 ^ 32, v5 + 1) [0] hK mkWk
      ·replace hK := ite_f hK hb2
       refine AWP_exit ?_
       with_reducible refine thenC_exit (again_x ?_)
       refine cutX_here (v3, v4) [0] (by have hq := hpost2 _ hK; exact hq) mkWk
     ·clear hK; rintro ⟨v6, v7⟩ hK
      try dsimp only at hK
      refine exS ⟨75, [(0, .ints .u32 a), (1, .ints .u32 a1), (5, .own 0 v6.length), (6, .int .i64 v1), (7, .int .u64 v7)], [some (.ints 186 .u32 v6)]⟩ rfl ?_
      with_reducible refine inBlockA_exit (thenC_normal ?_)
      refine AWP_rl ?_
      replace hK := chk_some hK
      obtain ⟨h4, hK⟩ := hK
      refine AWPL_rn tab_ok 6 [0, 1, 5, 6, 65, 69, 70] fun c st' hr => ?_
      simp only [go_sem] at hr
      obtain ⟨rfl, rfl⟩ := hr
      refine ⟨vc, ?_⟩
      refine AWPL_wconv tab_ok [0, 1, 5, 6, 65, 69, 71] rfl rfl pcT (of_decide_eq_true rfl) rfl rfl rfl fun st' hr => ?_
      simp only [go_sem] at hr
      subst hr
      replace hK := chk_some hK
      obtain ⟨h5, hK⟩ := hK
      refine AWPL_rn tab_ok 2 [0, 1, 5, 6] fun c st' hr => ?_
      simp only [go_sem] at hr
      obtain ⟨rfl, rfl⟩ := hr
      refine ⟨vc, ?_⟩
      refine AWPL_nil ?_
      with_reducible refine inBlockA_normal (thenC_normal ?_)
      refine AWP_facts (by simp) fun hfx => ?_
      simp only [factS, factV, fact1, fact0, factL0, lo, hi, maxLen, and_true, true_and] at hfx
      refine AWP_rg tab_ok [0, 1, 5, 6] fun c st' hr => ?_
      simp only [go_sem] at hr
      obtain ⟨rfl, rfl⟩ := hr
      refine ⟨vc, ?_⟩
      clear hfx
      refine again_n (v6.set (v1 + (a1.length : Int)).toNat (IntKind.wrap .u32 v7), v1 + 1) [0] hK mkWk
    ·replace hK := ite_f hK hb1
     refine AWP_exit ?_
     with_reducible refine thenC_exit (again_x ?_)
     refine cutX_here v [0] (by have hq := hpost1 _ hK; exact hq) mkWk
   ·clear hK; rintro v2 hK
    try dsimp only at hK
    refine exS ⟨75, [(5, .own 0 v2.length)], [some (.ints 186 .u32 v2)]⟩ rfl ?_
    with_reducible refine inBlockA_exit (thenC_normal ?_)
    refine AWP_seq ?_
    refine AWP_rl ?_
    refine AWPL_rn tab_ok 1 [73] fun c st' hr => ?_
    simp only [go_sem] at hr
    obtain ⟨rfl, rfl⟩ := hr
    refine ⟨vc, ?_⟩
    replace hK := bind_s hK
    obtain ⟨y, hy, hK⟩ := hK
    refine AWPL_gR [74] [0] [.own 0 v2.length] [none, some (.ints 186 .u32 y)] (r' := .own 1 y.length) (W_rotabig_trim hy) rfl rfl pcT rfl Try.call167 (of_decide_eq_true rfl) ⟨rfl, trivial⟩ rfl (hscG trivial) (of_decide_eq_true rfl) rfl rfl rfl (of_decide_eq_true rfl) rfl fun st' hr => ?_
    simp only [go_sem] at hr
    subst hr
    clear hy
    refine AWPL_rn tab_ok 1 [4] fun c st' hr => ?_
    simp only [go_sem] at hr
    obtain ⟨rfl, rfl⟩ := hr
    refine ⟨vc, ?_⟩
    refine AWPL_nil ?_
    with_reducible refine thenC_normal ?_
    refine AWP_ret ?_
    cases hK
    refine EndsRW [1] (.inl rfl) (of_decide_eq_true rfl) (by simp) rfl (fun c x hr => ?_) endH
    simp only [go_sem] at hr
    obtain ⟨rfl, rfl⟩ := hr
    exact ⟨rfl, endR⟩

/-- The operations of a drawn region. -/
def reg_rotabig_Int_Mul_r_1 : List Oper := (⟨_, rfl⟩ : { l : List Oper // (Try.f65.body.bind (regIn 1)) = some l }).1

theorem ceg_rotabig_Int_Mul_r_1_1 : firstOk reg_rotabig_Int_Mul_r_1.toArray #[true, true, true, true, true, true, true, true, true, true, true, true, true, false, true, true, true, false, false, false, false] 13 [18, 19, 20] = true := by kernel_rfl

theorem ceg_rotabig_Int_Mul_r_1_2 : firstOk reg_rotabig_Int_Mul_r_1.toArray #[true, true, true, true, true, true, true, true, true, true, true, true, true, true, true, true, true, false, false, false, false] 17 [18, 19, 20] = true := by kernel_rfl

theorem ceg_rotabig_Int_Mul_r_1_3 : firstOk reg_rotabig_Int_Mul_r_1.toArray #[true, true, true, true, true, true, true, true, true, true, true, true, true, true, true, true, true, true, true, true, false] 20 [] = true := by kernel_rfl

theorem ceg_rotabig_Int_Mul_r_1_4 : (Region.ready .any reg_rotabig_Int_Mul_r_1.toArray #[true, true, true, true, true, true, true, true, true, true, true, true, true, true, true, true, true, true, true, true, true] == []) = true := by kernel_rfl

theorem J_rotabig_Int_Mul_r_1_hn1 {x_0 : Bool} {x_1 : List Int} {y_0 : Bool} {y_1 : List Int} {q0 : Bool × List Int} {y1 : List Int} {y2 : Bool × List Int} {pl0 : AX.Loc} (hy : rotabig_mul x_1 y_1 = some y1) (hy1 : rotabig_Int_give (decide (¬ (x_0 = true ↔ y_0 = true))) (q0.1, q0.2) y1 = some y2) {w0 : World} {Q : Exit → St → Prop} {AA : Nat → Array Bool → St → Prop} (hAA : ∀ g L st, AA g L st ↔ AWPB Try.prog w0 reg_rotabig_Int_Mul_r_1.toArray Q g L st) (hn : AA 0 #[true, true, true, true, true, true, true, true, true, true, true, true, true, true, true, true, true, true, true, true, true] ⟨27, [(6, .ptr 0 0 0)], [some (.gen 31 2 [[.bool y2.1, .own 4 y2.2.length]]), none, some (.pin 0 pl0), none, some (.ints 186 .u32 y2.2)]⟩) : AA 1 #[true, true, true, true, true, true, true, true, true, true, true, true, true, true, true, true, true, true, true, true, false] ⟨27, [(26, .ptr 0 0 0)], [some (.gen 31 2 [[.bool y2.1, .own 4 y2.2.length]]), none, some (.pin 0 pl0), none, some (.ints 186 .u32 y2.2)]⟩ := (hAA _ _ _).2 (by
  refine AWPB_takeB tab_ok [6] 20 [] _ rfl ceg_rotabig_Int_Mul_r_1_3 fun c st' hr => ?_
  simp only [go_sem] at hr
  obtain ⟨rfl, rfl⟩ := hr
  refine ⟨vc, ?_⟩
  exact AWPB_wk [0, 1, 2, 3, 4] mkWk ((hAA _ _ _).1 hn))

theorem ceg_rotabig_Int_Mul_r_1_6 : (Region.ready .any reg_rotabig_Int_Mul_r_1.toArray #[true, true, true, true, true, true, true, true, true, true, true, true, true, true, true, true, true, true, true, false, false] == [19]) = true := by kernel_rfl

theorem J_rotabig_Int_Mul_r_1_hn2 {x_0 : Bool} {x_1 : List Int} {y_0 : Bool} {y_1 : List Int} {q0 : Bool × List Int} {y1 : List Int} {y2 : Bool × List Int} {pl0 : AX.Loc} (hy : rotabig_mul x_1 y_1 = some y1) (hy1 : rotabig_Int_give (decide (¬ (x_0 = true ↔ y_0 = true))) (q0.1, q0.2) y1 = some y2) {w0 : World} {Q : Exit → St → Prop} {AA : Nat → Array Bool → St → Prop} (hAA : ∀ g L st, AA g L st ↔ AWPB Try.prog w0 reg_rotabig_Int_Mul_r_1.toArray Q g L st) (hn1 : AA 1 #[true, true, true, true, true, true, true, true, true, true, true, true, true, true, true, true, true, true, true, true, false] ⟨27, [(26, .ptr 0 0 0)], [some (.gen 31 2 [[.bool y2.1, .own 4 y2.2.length]]), none, some (.pin 0 pl0), none, some (.ints 186 .u32 y2.2)]⟩) : AA 2 #[true, true, true, true, true, true, true, true, true, true, true, true, true, true, true, true, true, true, true, false, false] ⟨27, [(7, .ptr 0 0 0), (16, .bool (decide (¬ (x_0 = true ↔ y_0 = true)))), (25, .own 3 y1.length)], [some (.gen 31 2 [[.bool q0.1, .own 1 q0.2.length]]), some (.ints 186 .u32 q0.2), some (.pin 0 pl0), some (.ints 186 .u32 y1)]⟩ := (hAA _ _ _).2 (by
  refine AWPB_one 19 _ ceg_rotabig_Int_Mul_r_1_6 rfl ?_
  refine AWPL_gR [6, 26] [0, 1, 3] [.ptr 0 0 0, .bool (decide (¬ (x_0 = true ↔ y_0 = true))), .own 2 y1.length] [some (.gen 31 2 [[.bool y2.1, .own 4 y2.2.length]]), none, some (.pin 0 pl0), none, some (.ints 186 .u32 y2.2)] (r' := .ptr 0 0 0) (W_rotabig_Int_give hy1) rfl rfl pcT rfl Try.call125 (of_decide_eq_true rfl) ⟨rfl, rfl, rfl, trivial⟩ rfl (hscG trivial) (of_decide_eq_true rfl) rfl rfl rfl (of_decide_eq_true rfl) rfl fun st' hr => ?_
  simp only [go_sem] at hr
  subst hr
  refine AWPL_nil ?_
  refine QB_normal ?_
  exact AWPB_wk [0, 1, 2, 3, 4] mkWk ((hAA _ _ _).1 hn1))

theorem ceg_rotabig_Int_Mul_r_1_8 : (Region.ready .any reg_rotabig_Int_Mul_r_1.toArray #[true, true, true, true, true, true, true, true, true, true, true, true, true, true, true, true, true, true, false, false, false] == [18]) = true := by kernel_rfl

theorem J_rotabig_Int_Mul_r_1_hn3 {x_0 : Bool} {x_1 : List Int} {y_0 : Bool} {y_1 : List Int} {q0 : Bool × List Int} {y1 : List Int} {y2 : Bool × List Int} {pl0 : AX.Loc} (hy : rotabig_mul x_1 y_1 = some y1) (hy1 : rotabig_Int_give (decide (¬ (x_0 = true ↔ y_0 = true))) (q0.1, q0.2) y1 = some y2) {w0 : World} {Q : Exit → St → Prop} {AA : Nat → Array Bool → St → Prop} (hAA : ∀ g L st, AA g L st ↔ AWPB Try.prog w0 reg_rotabig_Int_Mul_r_1.toArray Q g L st) (hn2 : AA 2 #[true, true, true, true, true, true, true, true, true, true, true, true, true, true, true, true, true, true, true, false, false] ⟨27, [(7, .ptr 0 0 0), (16, .bool (decide (¬ (x_0 = true ↔ y_0 = true)))), (25, .own 3 y1.length)], [some (.gen 31 2 [[.bool q0.1, .own 1 q0.2.length]]), some (.ints 186 .u32 q0.2), some (.pin 0 pl0), some (.ints 186 .u32 y1)]⟩) : AA 3 #[true, true, true, true, true, true, true, true, true, true, true, true, true, true, true, true, true, true, false, false, false] ⟨27, [(7, .ptr 0 0 0), (16, .bool (decide (¬ (x_0 = true ↔ y_0 = true)))), (20, .ints .u32 x_1), (24, .ints .u32 y_1)], [some (.gen 31 2 [[.bool q0.1, .own 1 q0.2.length]]), some (.ints 186 .u32 q0.2), some (.pin 0 pl0)]⟩ := (hAA _ _ _).2 (by
  refine AWPB_one 18 _ ceg_rotabig_Int_Mul_r_1_8 rfl ?_
  refine AWPL_callK [6, 7, 16, 25, 26] (W_rotabig_mul hy) rfl rfl pcT rfl Try.call127 (.cons (.atom _ rfl) (.cons (.atom _ rfl) .nil)) (hscG trivial) (of_decide_eq_true rfl) (by first | rfl | simp [nI, nI1, nI0]) (by first | rfl | simp [nIB, nI0]) fun st' hr => ?_
  simp only [go_sem] at hr
  subst hr
  refine AWPL_nil ?_
  refine QB_normal ?_
  exact AWPB_wk [0, 1, 2, 3] mkWk ((hAA _ _ _).1 hn2))

theorem J_rotabig_Int_Mul_r_1_hn4 {x_0 : Bool} {x_1 : List Int} {y_0 : Bool} {y_1 : List Int} {q0 : Bool × List Int} {y1 : List Int} {y2 : Bool × List Int} {pl0 : AX.Loc} (hy : rotabig_mul x_1 y_1 = some y1) (hy1 : rotabig_Int_give (decide (¬ (x_0 = true ↔ y_0 = true))) (q0.1, q0.2) y1 = some y2) {w0 : World} {Q : Exit → St → Prop} {AA : Nat → Array Bool → St → Prop} (hAA : ∀ g L st, AA g L st ↔ AWPB Try.prog w0 reg_rotabig_Int_Mul_r_1.toArray Q g L st) (hn3 : AA 3 #[true, true, true, true, true, true, true, true, true, true, true, true, true, true, true, true, true, true, false, false, false] ⟨27, [(7, .ptr 0 0 0), (16, .bool (decide (¬ (x_0 = true ↔ y_0 = true)))), (20, .ints .u32 x_1), (24, .ints .u32 y_1)], [some (.gen 31 2 [[.bool q0.1, .own 1 q0.2.length]]), some (.ints 186 .u32 q0.2), some (.pin 0 pl0)]⟩) : AA 5 #[true, true, true, true, true, true, true, true, true, true, true, true, true, false, true, true, true, false, false, false, false] ⟨27, [(7, .ptr 0 0 0), (16, .bool (decide (¬ (x_0 = true ↔ y_0 = true)))), (19, .immp [.ints .u32 x_1]), (23, .immp [.ints .u32 y_1])], [some (.gen 31 2 [[.bool q0.1, .own 1 q0.2.length]]), some (.ints 186 .u32 q0.2), some (.pin 0 pl0)]⟩ := (hAA _ _ _).2 (by
  refine AWPB_takeB tab_ok [6, 7, 16, 20, 23, 24, 25, 26] 13 [18, 19, 20] _ rfl ceg_rotabig_Int_Mul_r_1_1 fun c st' hr => ?_
  simp only [go_sem] at hr
  obtain ⟨rfl, rfl⟩ := hr
  refine ⟨vc, ?_⟩
  refine AWPB_takeB tab_ok [6, 7, 16, 20, 24, 25, 26] 17 [18, 19, 20] _ rfl ceg_rotabig_Int_Mul_r_1_2 fun c st' hr => ?_
  simp only [go_sem] at hr
  obtain ⟨rfl, rfl⟩ := hr
  refine ⟨vc, ?_⟩
  exact AWPB_wk [0, 1, 2] mkWk ((hAA _ _ _).1 hn3))

theorem J_rotabig_Int_Mul_r_1_hn5 {x_0 : Bool} {x_1 : List Int} {y_0 : Bool} {y_1 : List Int} {q0 : Bool × List Int} {y1 : List Int} {y2 : Bool × List Int} {pl0 : AX.Loc} (hy : rotabig_mul x_1 y_1 = some y1) (hy1 : rotabig_Int_give (decide (¬ (x_0 = true ↔ y_0 = true))) (q0.1, q0.2) y1 = some y2) {w0 : World} {Q : Exit → St → Prop} {AA : Nat → Array Bool → St → Prop} (hAA : ∀ g L st, AA g L st ↔ AWPB Try.prog w0 reg_rotabig_Int_Mul_r_1.toArray Q g L st) (hn3 : AA 3 #[true, true, true, true, true, true, true, true, true, true, true, true, true, true, true, true, true, true, false, false, false] ⟨27, [(7, .ptr 0 0 0), (16, .bool (decide (¬ (x_0 = true ↔ y_0 = true)))), (20, .ints .u32 x_1), (24, .ints .u32 y_1)], [some (.gen 31 2 [[.bool q0.1, .own 1 q0.2.length]]), some (.ints 186 .u32 q0.2), some (.pin 0 pl0)]⟩) : AA 4 #[true, true, true, true, true, true, true, true, true, true, true, true, true, true, true, true, true, false, false, false, false] ⟨27, [(7, .ptr 0 0 0), (16, .bool (decide (¬ (x_0 = true ↔ y_0 = true)))), (20, .ints .u32 x_1), (23, .immp [.ints .u32 y_1])], [some (.gen 31 2 [[.bool q0.1, .own 1 q0.2.length]]), some (.ints 186 .u32 q0.2), some (.pin 0 pl0)]⟩ := (hAA _ _ _).2 (by
  refine AWPB_takeB tab_ok [6, 7, 16, 20, 24, 25, 26] 17 [18, 19, 20] _ rfl ceg_rotabig_Int_Mul_r_1_2 fun c st' hr => ?_
  simp only [go_sem] at hr
  obtain ⟨rfl, rfl⟩ := hr
  refine ⟨vc, ?_⟩
  exact AWPB_wk [0, 1, 2] mkWk ((hAA _ _ _).1 hn3))

theorem ceg_rotabig_Int_Mul_r_1_12 : firstOk reg_rotabig_Int_Mul_r_1.toArray #[true, true, true, true, true, true, true, true, true, false, true, true, true, true, true, true, true, true, true, false, false] 9 [19, 20] = true := by kernel_rfl

theorem J_rotabig_Int_Mul_r_1_hn6 {x_0 : Bool} {x_1 : List Int} {y_0 : Bool} {y_1 : List Int} {q0 : Bool × List Int} {y1 : List Int} {y2 : Bool × List Int} {pl0 : AX.Loc} (hy : rotabig_mul x_1 y_1 = some y1) (hy1 : rotabig_Int_give (decide (¬ (x_0 = true ↔ y_0 = true))) (q0.1, q0.2) y1 = some y2) {w0 : World} {Q : Exit → St → Prop} {AA : Nat → Array Bool → St → Prop} (hAA : ∀ g L st, AA g L st ↔ AWPB Try.prog w0 reg_rotabig_Int_Mul_r_1.toArray Q g L st) (hn2 : AA 2 #[true, true, true, true, true, true, true, true, true, true, true, true, true, true, true, true, true, true, true, false, false] ⟨27, [(7, .ptr 0 0 0), (16, .bool (decide (¬ (x_0 = true ↔ y_0 = true)))), (25, .own 3 y1.length)], [some (.gen 31 2 [[.bool q0.1, .own 1 q0.2.length]]), some (.ints 186 .u32 q0.2), some (.pin 0 pl0), some (.ints 186 .u32 y1)]⟩) : AA 3 #[true, true, true, true, true, true, true, true, true, false, true, true, true, true, true, true, true, true, true, false, false] ⟨27, [(7, .ptr 0 0 0), (11, .bool x_0), (15, .bool y_0), (25, .own 3 y1.length)], [some (.gen 31 2 [[.bool q0.1, .own 1 q0.2.length]]), some (.ints 186 .u32 q0.2), some (.pin 0 pl0), some (.ints 186 .u32 y1)]⟩ := (hAA _ _ _).2 (by
  refine AWPB_takeB tab_ok [6, 7, 16, 25, 26] 9 [19, 20] _ rfl ceg_rotabig_Int_Mul_r_1_12 fun c st' hr => ?_
  simp only [go_sem] at hr
  obtain ⟨rfl, rfl⟩ := hr
  refine ⟨vc, ?_⟩
  exact AWPB_wk [0, 1, 2, 3] mkWk ((hAA _ _ _).1 hn2))

theorem ceg_rotabig_Int_Mul_r_1_14 : (Region.ready .any reg_rotabig_Int_Mul_r_1.toArray #[true, true, true, true, true, true, true, true, true, false, true, true, true, true, true, true, true, true, false, false, false] == [9, 18]) = true := by kernel_rfl

theorem J_rotabig_Int_Mul_r_1_hn7 {x_0 : Bool} {x_1 : List Int} {y_0 : Bool} {y_1 : List Int} {q0 : Bool × List Int} {y1 : List Int} {y2 : Bool × List Int} {pl0 : AX.Loc} (hy : rotabig_mul x_1 y_1 = some y1) (hy1 : rotabig_Int_give (decide (¬ (x_0 = true ↔ y_0 = true))) (q0.1, q0.2) y1 = some y2) {w0 : World} {Q : Exit → St → Prop} {AA : Nat → Array Bool → St → Prop} (hAA : ∀ g L st, AA g L st ↔ AWPB Try.prog w0 reg_rotabig_Int_Mul_r_1.toArray Q g L st) (hn3 : AA 3 #[true, true, true, true, true, true, true, true, true, true, true, true, true, true, true, true, true, true, false, false, false] ⟨27, [(7, .ptr 0 0 0), (16, .bool (decide (¬ (x_0 = true ↔ y_0 = true)))), (20, .ints .u32 x_1), (24, .ints .u32 y_1)], [some (.gen 31 2 [[.bool q0.1, .own 1 q0.2.length]]), some (.ints 186 .u32 q0.2), some (.pin 0 pl0)]⟩) (hn6 : AA 3 #[true, true, true, true, true, true, true, true, true, false, true, true, true, true, true, true, true, true, true, false, false] ⟨27, [(7, .ptr 0 0 0), (11, .bool x_0), (15, .bool y_0), (25, .own 3 y1.length)], [some (.gen 31 2 [[.bool q0.1, .own 1 q0.2.length]]), some (.ints 186 .u32 q0.2), some (.pin 0 pl0), some (.ints 186 .u32 y1)]⟩) : AA 4 #[true, true, true, true, true, true, true, true, true, false, true, true, true, true, true, true, true, true, false, false, false] ⟨27, [(7, .ptr 0 0 0), (11, .bool x_0), (15, .bool y_0), (20, .ints .u32 x_1), (24, .ints .u32 y_1)], [some (.gen 31 2 [[.bool q0.1, .own 1 q0.2.length]]), some (.ints 186 .u32 q0.2), some (.pin 0 pl0)]⟩ := (hAA _ _ _).2 (by
  refine AWPB_two 9 18 _ _ ceg_rotabig_Int_Mul_r_1_14 rfl rfl ?_ ?_
  ·skip
   refine AWPL_rn tab_ok 1 [6, 7, 16, 20, 24, 25, 26] fun c st' hr => ?_
   simp only [go_sem] at hr
   obtain ⟨rfl, rfl⟩ := hr
   refine ⟨vc, ?_⟩
   refine AWPL_nil ?_
   refine QB_normal ?_
   exact AWPB_wk [0, 1, 2] mkWk ((hAA _ _ _).1 hn3)
  ·skip
   refine AWPL_callK [6, 7, 11, 15, 16, 25, 26] (W_rotabig_mul hy) rfl rfl pcT rfl Try.call127 (.cons (.atom _ rfl) (.cons (.atom _ rfl) .nil)) (hscG trivial) (of_decide_eq_true rfl) (by first | rfl | simp [nI, nI1, nI0]) (by first | rfl | simp [nIB, nI0]) fun st' hr => ?_
   simp only [go_sem] at hr
   subst hr
   refine AWPL_nil ?_
   refine QB_normal ?_
   exact AWPB_wk [0, 1, 2, 3] mkWk ((hAA _ _ _).1 hn6))

theorem ceg_rotabig_Int_Mul_r_1_16 : (Region.ready .any reg_rotabig_Int_Mul_r_1.toArray #[true, true, true, true, true, true, true, true, true, false, true, true, true, true, true, true, true, false, false, false, false] == [9, 17]) = true := by kernel_rfl

theorem J_rotabig_Int_Mul_r_1_hn8 {x_0 : Bool} {x_1 : List Int} {y_0 : Bool} {y_1 : List Int} {q0 : Bool × List Int} {y1 : List Int} {y2 : Bool × List Int} {pl0 : AX.Loc} (hy : rotabig_mul x_1 y_1 = some y1) (hy1 : rotabig_Int_give (decide (¬ (x_0 = true ↔ y_0 = true))) (q0.1, q0.2) y1 = some y2) {w0 : World} {Q : Exit → St → Prop} {AA : Nat → Array Bool → St → Prop} (hAA : ∀ g L st, AA g L st ↔ AWPB Try.prog w0 reg_rotabig_Int_Mul_r_1.toArray Q g L st) (hn5 : AA 4 #[true, true, true, true, true, true, true, true, true, true, true, true, true, true, true, true, true, false, false, false, false] ⟨27, [(7, .ptr 0 0 0), (16, .bool (decide (¬ (x_0 = true ↔ y_0 = true)))), (20, .ints .u32 x_1), (23, .immp [.ints .u32 y_1])], [some (.gen 31 2 [[.bool q0.1, .own 1 q0.2.length]]), some (.ints 186 .u32 q0.2), some (.pin 0 pl0)]⟩) (hn7 : AA 4 #[true, true, true, true, true, true, true, true, true, false, true, true, true, true, true, true, true, true, false, false, false] ⟨27, [(7, .ptr 0 0 0), (11, .bool x_0), (15, .bool y_0), (20, .ints .u32 x_1), (24, .ints .u32 y_1)], [some (.gen 31 2 [[.bool q0.1, .own 1 q0.2.length]]), some (.ints 186 .u32 q0.2), some (.pin 0 pl0)]⟩) : AA 5 #[true, true, true, true, true, true, true, true, true, false, true, true, true, true, true, true, true, false, false, false, false] ⟨27, [(7, .ptr 0 0 0), (11, .bool x_0), (15, .bool y_0), (20, .ints .u32 x_1), (23, .immp [.ints .u32 y_1])], [some (.gen 31 2 [[.bool q0.1, .own 1 q0.2.length]]), some (.ints 186 .u32 q0.2), some (.pin 0 pl0)]⟩ := (hAA _ _ _).2 (by
  refine AWPB_two 9 17 _ _ ceg_rotabig_Int_Mul_r_1_16 rfl rfl ?_ ?_
  ·skip
   refine AWPL_rn tab_ok 1 [6, 7, 16, 20, 23, 24, 25, 26] fun c st' hr => ?_
   simp only [go_sem] at hr
   obtain ⟨rfl, rfl⟩ := hr
   refine ⟨vc, ?_⟩
   refine AWPL_nil ?_
   refine QB_normal ?_
   exact AWPB_wk [0, 1, 2] mkWk ((hAA _ _ _).1 hn5)
  ·skip
   refine AWPL_rn tab_ok 1 [6, 7, 11, 15, 16, 20, 24, 25, 26] fun c st' hr => ?_
   simp only [go_sem] at hr
   obtain ⟨rfl, rfl⟩ := hr
   refine ⟨vc, ?_⟩
   refine AWPL_nil ?_
   refine QB_normal ?_
   exact AWPB_wk [0, 1, 2] mkWk ((hAA _ _ _).1 hn7))

theorem ceg_rotabig_Int_Mul_r_1_18 : firstOk reg_rotabig_Int_Mul_r_1.toArray #[true, true, true, true, true, true, true, true, true, true, true, true, true, false, true, true, true, true, false, false, false] 13 [18, 19, 20] = true := by kernel_rfl

theorem J_rotabig_Int_Mul_r_1_hn9 {x_0 : Bool} {x_1 : List Int} {y_0 : Bool} {y_1 : List Int} {q0 : Bool × List Int} {y1 : List Int} {y2 : Bool × List Int} {pl0 : AX.Loc} (hy : rotabig_mul x_1 y_1 = some y1) (hy1 : rotabig_Int_give (decide (¬ (x_0 = true ↔ y_0 = true))) (q0.1, q0.2) y1 = some y2) {w0 : World} {Q : Exit → St → Prop} {AA : Nat → Array Bool → St → Prop} (hAA : ∀ g L st, AA g L st ↔ AWPB Try.prog w0 reg_rotabig_Int_Mul_r_1.toArray Q g L st) (hn3 : AA 3 #[true, true, true, true, true, true, true, true, true, true, true, true, true, true, true, true, true, true, false, false, false] ⟨27, [(7, .ptr 0 0 0), (16, .bool (decide (¬ (x_0 = true ↔ y_0 = true)))), (20, .ints .u32 x_1), (24, .ints .u32 y_1)], [some (.gen 31 2 [[.bool q0.1, .own 1 q0.2.length]]), some (.ints 186 .u32 q0.2), some (.pin 0 pl0)]⟩) : AA 4 #[true, true, true, true, true, true, true, true, true, true, true, true, true, false, true, true, true, true, false, false, false] ⟨27, [(7, .ptr 0 0 0), (16, .bool (decide (¬ (x_0 = true ↔ y_0 = true)))), (19, .immp [.ints .u32 x_1]), (24, .ints .u32 y_1)], [some (.gen 31 2 [[.bool q0.1, .own 1 q0.2.length]]), some (.ints 186 .u32 q0.2), some (.pin 0 pl0)]⟩ := (hAA _ _ _).2 (by
  refine AWPB_takeB tab_ok [6, 7, 16, 20, 24, 25, 26] 13 [18, 19, 20] _ rfl ceg_rotabig_Int_Mul_r_1_18 fun c st' hr => ?_
  simp only [go_sem] at hr
  obtain ⟨rfl, rfl⟩ := hr
  refine ⟨vc, ?_⟩
  exact AWPB_wk [0, 1, 2] mkWk ((hAA _ _ _).1 hn3))

theorem ceg_rotabig_Int_Mul_r_1_20 : (Region.ready .any reg_rotabig_Int_Mul_r_1.toArray #[true, true, true, true, true, true, true, true, true, false, true, true, true, false, true, true, true, true, false, false, false] == [9, 13]) = true := by kernel_rfl

theorem J_rotabig_Int_Mul_r_1_hn10 {x_0 : Bool} {x_1 : List Int} {y_0 : Bool} {y_1 : List Int} {q0 : Bool × List Int} {y1 : List Int} {y2 : Bool × List Int} {pl0 : AX.Loc} (hy : rotabig_mul x_1 y_1 = some y1) (hy1 : rotabig_Int_give (decide (¬ (x_0 = true ↔ y_0 = true))) (q0.1, q0.2) y1 = some y2) {w0 : World} {Q : Exit → St → Prop} {AA : Nat → Array Bool → St → Prop} (hAA : ∀ g L st, AA g L st ↔ AWPB Try.prog w0 reg_rotabig_Int_Mul_r_1.toArray Q g L st) (hn9 : AA 4 #[true, true, true, true, true, true, true, true, true, true, true, true, true, false, true, true, true, true, false, false, false] ⟨27, [(7, .ptr 0 0 0), (16, .bool (decide (¬ (x_0 = true ↔ y_0 = true)))), (19, .immp [.ints .u32 x_1]), (24, .ints .u32 y_1)], [some (.gen 31 2 [[.bool q0.1, .own 1 q0.2.length]]), some (.ints 186 .u32 q0.2), some (.pin 0 pl0)]⟩) (hn7 : AA 4 #[true, true, true, true, true, true, true, true, true, false, true, true, true, true, true, true, true, true, false, false, false] ⟨27, [(7, .ptr 0 0 0), (11, .bool x_0), (15, .bool y_0), (20, .ints .u32 x_1), (24, .ints .u32 y_1)], [some (.gen 31 2 [[.bool q0.1, .own 1 q0.2.length]]), some (.ints 186 .u32 q0.2), some (.pin 0 pl0)]⟩) : AA 5 #[true, true, true, true, true, true, true, true, true, false, true, true, true, false, true, true, true, true, false, false, false] ⟨27, [(7, .ptr 0 0 0), (11, .bool x_0), (15, .bool y_0), (19, .immp [.ints .u32 x_1]), (24, .ints .u32 y_1)], [some (.gen 31 2 [[.bool q0.1, .own 1 q0.2.length]]), some (.ints 186 .u32 q0.2), some (.pin 0 pl0)]⟩ := (hAA _ _ _).2 (by
  refine AWPB_two 9 13 _ _ ceg_rotabig_Int_Mul_r_1_20 rfl rfl ?_ ?_
  ·skip
   refine AWPL_rn tab_ok 1 [6, 7, 16, 19, 20, 24, 25, 26] fun c st' hr => ?_
   simp only [go_sem] at hr
   obtain ⟨rfl, rfl⟩ := hr
   refine ⟨vc, ?_⟩
   refine AWPL_nil ?_
   refine QB_normal ?_
   exact AWPB_wk [0, 1, 2] mkWk ((hAA _ _ _).1 hn9)
  ·skip
   refine AWPL_rn tab_ok 1 [6, 7, 11, 15, 16, 20, 24, 25, 26] fun c st' hr => ?_
   simp only [go_sem] at hr
   obtain ⟨rfl, rfl⟩ := hr
   refine ⟨vc, ?_⟩
   refine AWPL_nil ?_
   refine QB_normal ?_
   exact AWPB_wk [0, 1, 2] mkWk ((hAA _ _ _).1 hn7))

theorem ceg_rotabig_Int_Mul_r_1_22 : (Region.ready .any reg_rotabig_Int_Mul_r_1.toArray #[true, true, true, true, true, true, true, true, true, false, true, true, true, false, true, true, true, false, false, false, false] == [9, 13, 17]) = true := by kernel_rfl

theorem J_rotabig_Int_Mul_r_1_hn11 {x_0 : Bool} {x_1 : List Int} {y_0 : Bool} {y_1 : List Int} {q0 : Bool × List Int} {y1 : List Int} {y2 : Bool × List Int} {pl0 : AX.Loc} (hy : rotabig_mul x_1 y_1 = some y1) (hy1 : rotabig_Int_give (decide (¬ (x_0 = true ↔ y_0 = true))) (q0.1, q0.2) y1 = some y2) {w0 : World} {Q : Exit → St → Prop} {AA : Nat → Array Bool → St → Prop} (hAA : ∀ g L st, AA g L st ↔ AWPB Try.prog w0 reg_rotabig_Int_Mul_r_1.toArray Q g L st) (hn4 : AA 5 #[true, true, true, true, true, true, true, true, true, true, true, true, true, false, true, true, true, false, false, false, false] ⟨27, [(7, .ptr 0 0 0), (16, .bool (decide (¬ (x_0 = true ↔ y_0 = true)))), (19, .immp [.ints .u32 x_1]), (23, .immp [.ints .u32 y_1])], [some (.gen 31 2 [[.bool q0.1, .own 1 q0.2.length]]), some (.ints 186 .u32 q0.2), some (.pin 0 pl0)]⟩) (hn8 : AA 5 #[true, true, true, true, true, true, true, true, true, false, true, true, true, true, true, true, true, false, false, false, false] ⟨27, [(7, .ptr 0 0 0), (11, .bool x_0), (15, .bool y_0), (20, .ints .u32 x_1), (23, .immp [.ints .u32 y_1])], [some (.gen 31 2 [[.bool q0.1, .own 1 q0.2.length]]), some (.ints 186 .u32 q0.2), some (.pin 0 pl0)]⟩) (hn10 : AA 5 #[true, true, true, true, true, true, true, true, true, false, true, true, true, false, true, true, true, true, false, false, false] ⟨27, [(7, .ptr 0 0 0), (11, .bool x_0), (15, .bool y_0), (19, .immp [.ints .u32 x_1]), (24, .ints .u32 y_1)], [some (.gen 31 2 [[.bool q0.1, .own 1 q0.2.length]]), some (.ints 186 .u32 q0.2), some (.pin 0 pl0)]⟩) : AA 6 #[true, true, true, true, true, true, true, true, true, false, true, true, true, false, true, true, true, false, false, false, false] ⟨27, [(7, .ptr 0 0 0), (11, .bool x_0), (15, .bool y_0), (19, .immp [.ints .u32 x_1]), (23, .immp [.ints .u32 y_1])], [some (.gen 31 2 [[.bool q0.1, .own 1 q0.2.length]]), some (.ints 186 .u32 q0.2), some (.pin 0 pl0)]⟩ := (hAA _ _ _).2 (by
  refine AWPB_three 9 13 17 _ _ _ ceg_rotabig_Int_Mul_r_1_22 rfl rfl rfl ?_ ?_ ?_
  ·skip
   refine AWPL_rn tab_ok 1 [6, 7, 16, 19, 20, 23, 24, 25, 26] fun c st' hr => ?_
   simp only [go_sem] at hr
   obtain ⟨rfl, rfl⟩ := hr
   refine ⟨vc, ?_⟩
   refine AWPL_nil ?_
   refine QB_normal ?_
   exact AWPB_wk [0, 1, 2] mkWk ((hAA _ _ _).1 hn4)
  ·skip
   refine AWPL_rn tab_ok 1 [6, 7, 11, 15, 16, 20, 23, 24, 25, 26] fun c st' hr => ?_
   simp only [go_sem] at hr
   obtain ⟨rfl, rfl⟩ := hr
   refine ⟨vc, ?_⟩
   refine AWPL_nil ?_
   refine QB_normal ?_
   exact AWPB_wk [0, 1, 2] mkWk ((hAA _ _ _).1 hn8)
  ·skip
   refine AWPL_rn tab_ok 1 [6, 7, 11, 15, 16, 19, 20, 24, 25, 26] fun c st' hr => ?_
   simp only [go_sem] at hr
   obtain ⟨rfl, rfl⟩ := hr
   refine ⟨vc, ?_⟩
   refine AWPL_nil ?_
   refine QB_normal ?_
   exact AWPB_wk [0, 1, 2] mkWk ((hAA _ _ _).1 hn10))

theorem ceg_rotabig_Int_Mul_r_1_24 : firstOk reg_rotabig_Int_Mul_r_1.toArray #[true, true, true, true, true, true, true, true, false, false, true, true, true, true, true, true, true, true, true, false, false] 8 [9, 19, 20] = true := by kernel_rfl

theorem J_rotabig_Int_Mul_r_1_hn12 {x_0 : Bool} {x_1 : List Int} {y_0 : Bool} {y_1 : List Int} {q0 : Bool × List Int} {y1 : List Int} {y2 : Bool × List Int} {pl0 : AX.Loc} (hy : rotabig_mul x_1 y_1 = some y1) (hy1 : rotabig_Int_give (decide (¬ (x_0 = true ↔ y_0 = true))) (q0.1, q0.2) y1 = some y2) {w0 : World} {Q : Exit → St → Prop} {AA : Nat → Array Bool → St → Prop} (hAA : ∀ g L st, AA g L st ↔ AWPB Try.prog w0 reg_rotabig_Int_Mul_r_1.toArray Q g L st) (hn6 : AA 3 #[true, true, true, true, true, true, true, true, true, false, true, true, true, true, true, true, true, true, true, false, false] ⟨27, [(7, .ptr 0 0 0), (11, .bool x_0), (15, .bool y_0), (25, .own 3 y1.length)], [some (.gen 31 2 [[.bool q0.1, .own 1 q0.2.length]]), some (.ints 186 .u32 q0.2), some (.pin 0 pl0), some (.ints 186 .u32 y1)]⟩) : AA 4 #[true, true, true, true, true, true, true, true, false, false, true, true, true, true, true, true, true, true, true, false, false] ⟨27, [(7, .ptr 0 0 0), (11, .bool x_0), (14, .immp [.bool y_0, .ints .u32 y_1]), (25, .own 3 y1.length)], [some (.gen 31 2 [[.bool q0.1, .own 1 q0.2.length]]), some (.ints 186 .u32 q0.2), some (.pin 0 pl0), some (.ints 186 .u32 y1)]⟩ := (hAA _ _ _).2 (by
  refine AWPB_takeB tab_ok [6, 7, 11, 15, 16, 25, 26] 8 [9, 19, 20] _ rfl ceg_rotabig_Int_Mul_r_1_24 fun c st' hr => ?_
  simp only [go_sem] at hr
  obtain ⟨rfl, rfl⟩ := hr
  refine ⟨vc, ?_⟩
  exact AWPB_wk [0, 1, 2, 3] mkWk ((hAA _ _ _).1 hn6))

theorem ceg_rotabig_Int_Mul_r_1_26 : (Region.ready .any reg_rotabig_Int_Mul_r_1.toArray #[true, true, true, true, true, true, true, true, false, false, true, true, true, true, true, true, true, true, false, false, false] == [8, 18]) = true := by kernel_rfl

theorem J_rotabig_Int_Mul_r_1_hn13 {x_0 : Bool} {x_1 : List Int} {y_0 : Bool} {y_1 : List Int} {q0 : Bool × List Int} {y1 : List Int} {y2 : Bool × List Int} {pl0 : AX.Loc} (hy : rotabig_mul x_1 y_1 = some y1) (hy1 : rotabig_Int_give (decide (¬ (x_0 = true ↔ y_0 = true))) (q0.1, q0.2) y1 = some y2) {w0 : World} {Q : Exit → St → Prop} {AA : Nat → Array Bool → St → Prop} (hAA : ∀ g L st, AA g L st ↔ AWPB Try.prog w0 reg_rotabig_Int_Mul_r_1.toArray Q g L st) (hn7 : AA 4 #[true, true, true, true, true, true, true, true, true, false, true, true, true, true, true, true, true, true, false, false, false] ⟨27, [(7, .ptr 0 0 0), (11, .bool x_0), (15, .bool y_0), (20, .ints .u32 x_1), (24, .ints .u32 y_1)], [some (.gen 31 2 [[.bool q0.1, .own 1 q0.2.length]]), some (.ints 186 .u32 q0.2), some (.pin 0 pl0)]⟩) (hn12 : AA 4 #[true, true, true, true, true, true, true, true, false, false, true, true, true, true, true, true, true, true, true, false, false] ⟨27, [(7, .ptr 0 0 0), (11, .bool x_0), (14, .immp [.bool y_0, .ints .u32 y_1]), (25, .own 3 y1.length)], [some (.gen 31 2 [[.bool q0.1, .own 1 q0.2.length]]), some (.ints 186 .u32 q0.2), some (.pin 0 pl0), some (.ints 186 .u32 y1)]⟩) : AA 5 #[true, true, true, true, true, true, true, true, false, false, true, true, true, true, true, true, true, true, false, false, false] ⟨27, [(7, .ptr 0 0 0), (11, .bool x_0), (14, .immp [.bool y_0, .ints .u32 y_1]), (20, .ints .u32 x_1), (24, .ints .u32 y_1)], [some (.gen 31 2 [[.bool q0.1, .own 1 q0.2.length]]), some (.ints 186 .u32 q0.2), some (.pin 0 pl0)]⟩ := (hAA _ _ _).2 (by
  refine AWPB_two 8 18 _ _ ceg_rotabig_Int_Mul_r_1_26 rfl rfl ?_ ?_
  ·skip
   refine AWPL_rn tab_ok 1 [6, 7, 11, 15, 16, 20, 24, 25, 26] fun c st' hr => ?_
   simp only [go_sem] at hr
   obtain ⟨rfl, rfl⟩ := hr
   refine ⟨vc, ?_⟩
   refine AWPL_nil ?_
   refine QB_normal ?_
   exact AWPB_wk [0, 1, 2] mkWk ((hAA _ _ _).1 hn7)
  ·skip
   refine AWPL_callK [6, 7, 11, 14, 15, 16, 25, 26] (W_rotabig_mul hy) rfl rfl pcT rfl Try.call127 (.cons (.atom _ rfl) (.cons (.atom _ rfl) .nil)) (hscG trivial) (of_decide_eq_true rfl) (by first | rfl | simp [nI, nI1, nI0]) (by first | rfl | simp [nIB, nI0]) fun st' hr => ?_
   simp only [go_sem] at hr
   subst hr
   refine AWPL_nil ?_
   refine QB_normal ?_
   exact AWPB_wk [0, 1, 2, 3] mkWk ((hAA _ _ _).1 hn12))

theorem ceg_rotabig_Int_Mul_r_1_28 : (Region.ready .any reg_rotabig_Int_Mul_r_1.toArray #[true, true, true, true, true, true, true, true, false, false, true, true, true, true, true, true, true, false, false, false, false] == [8, 17]) = true := by kernel_rfl

theorem J_rotabig_Int_Mul_r_1_hn14 {x_0 : Bool} {x_1 : List Int} {y_0 : Bool} {y_1 : List Int} {q0 : Bool × List Int} {y1 : List Int} {y2 : Bool × List Int} {pl0 : AX.Loc} (hy : rotabig_mul x_1 y_1 = some y1) (hy1 : rotabig_Int_give (decide (¬ (x_0 = true ↔ y_0 = true))) (q0.1, q0.2) y1 = some y2) {w0 : World} {Q : Exit → St → Prop} {AA : Nat → Array Bool → St → Prop} (hAA : ∀ g L st, AA g L st ↔ AWPB Try.prog w0 reg_rotabig_Int_Mul_r_1.toArray Q g L st) (hn8 : AA 5 #[true, true, true, true, true, true, true, true, true, false, true, true, true, true, true, true, true, false, false, false, false] ⟨27, [(7, .ptr 0 0 0), (11, .bool x_0), (15, .bool y_0), (20, .ints .u32 x_1), (23, .immp [.ints .u32 y_1])], [some (.gen 31 2 [[.bool q0.1, .own 1 q0.2.length]]), some (.ints 186 .u32 q0.2), some (.pin 0 pl0)]⟩) (hn13 : AA 5 #[true, true, true, true, true, true, true, true, false, false, true, true, true, true, true, true, true, true, false, false, false] ⟨27, [(7, .ptr 0 0 0), (11, .bool x_0), (14, .immp [.bool y_0, .ints .u32 y_1]), (20, .ints .u32 x_1), (24, .ints .u32 y_1)], [some (.gen 31 2 [[.bool q0.1, .own 1 q0.2.length]]), some (.ints 186 .u32 q0.2), some (.pin 0 pl0)]⟩) : AA 6 #[true, true, true, true, true, true, true, true, false, false, true, true, true, true, true, true, true, false, false, false, false] ⟨27, [(7, .ptr 0 0 0), (11, .bool x_0), (14, .immp [.bool y_0, .ints .u32 y_1]), (20, .ints .u32 x_1), (23, .immp [.ints .u32 y_1])], [some (.gen 31 2 [[.bool q0.1, .own 1 q0.2.length]]), some (.ints 186 .u32 q0.2), some (.pin 0 pl0)]⟩ := (hAA _ _ _).2 (by
  refine AWPB_two 8 17 _ _ ceg_rotabig_Int_Mul_r_1_28 rfl rfl ?_ ?_
  ·skip
   refine AWPL_rn tab_ok 1 [6, 7, 11, 15, 16, 20, 23, 24, 25, 26] fun c st' hr => ?_
   simp only [go_sem] at hr
   obtain ⟨rfl, rfl⟩ := hr
   refine ⟨vc, ?_⟩
   refine AWPL_nil ?_
   refine QB_normal ?_
   exact AWPB_wk [0, 1, 2] mkWk ((hAA _ _ _).1 hn8)
  ·skip
   refine AWPL_rn tab_ok 1 [6, 7, 11, 14, 15, 16, 20, 24, 25, 26] fun c st' hr => ?_
   simp only [go_sem] at hr
   obtain ⟨rfl, rfl⟩ := hr
   refine ⟨vc, ?_⟩
   refine AWPL_nil ?_
   refine QB_normal ?_
   exact AWPB_wk [0, 1, 2] mkWk ((hAA _ _ _).1 hn13))

theorem ceg_rotabig_Int_Mul_r_1_30 : (Region.ready .any reg_rotabig_Int_Mul_r_1.toArray #[true, true, true, true, true, true, true, true, false, false, true, true, true, false, true, true, true, true, false, false, false] == [8, 13]) = true := by kernel_rfl

theorem J_rotabig_Int_Mul_r_1_hn15 {x_0 : Bool} {x_1 : List Int} {y_0 : Bool} {y_1 : List Int} {q0 : Bool × List Int} {y1 : List Int} {y2 : Bool × List Int} {pl0 : AX.Loc} (hy : rotabig_mul x_1 y_1 = some y1) (hy1 : rotabig_Int_give (decide (¬ (x_0 = true ↔ y_0 = true))) (q0.1, q0.2) y1 = some y2) {w0 : World} {Q : Exit → St → Prop} {AA : Nat → Array Bool → St → Prop} (hAA : ∀ g L st, AA g L st ↔ AWPB Try.prog w0 reg_rotabig_Int_Mul_r_1.toArray Q g L st) (hn10 : AA 5 #[true, true, true, true, true, true, true, true, true, false, true, true, true, false, true, true, true, true, false, false, false] ⟨27, [(7, .ptr 0 0 0), (11, .bool x_0), (15, .bool y_0), (19, .immp [.ints .u32 x_1]), (24, .ints .u32 y_1)], [some (.gen 31 2 [[.bool q0.1, .own 1 q0.2.length]]), some (.ints 186 .u32 q0.2), some (.pin 0 pl0)]⟩) (hn13 : AA 5 #[true, true, true, true, true, true, true, true, false, false, true, true, true, true, true, true, true, true, false, false, false] ⟨27, [(7, .ptr 0 0 0), (11, .bool x_0), (14, .immp [.bool y_0, .ints .u32 y_1]), (20, .ints .u32 x_1), (24, .ints .u32 y_1)], [some (.gen 31 2 [[.bool q0.1, .own 1 q0.2.length]]), some (.ints 186 .u32 q0.2), some (.pin 0 pl0)]⟩) : AA 6 #[true, true, true, true, true, true, true, true, false, false, true, true, true, false, true, true, true, true, false, false, false] ⟨27, [(7, .ptr 0 0 0), (11, .bool x_0), (14, .immp [.bool y_0, .ints .u32 y_1]), (19, .immp [.ints .u32 x_1]), (24, .ints .u32 y_1)], [some (.gen 31 2 [[.bool q0.1, .own 1 q0.2.length]]), some (.ints 186 .u32 q0.2), some (.pin 0 pl0)]⟩ := (hAA _ _ _).2 (by
  refine AWPB_two 8 13 _ _ ceg_rotabig_Int_Mul_r_1_30 rfl rfl ?_ ?_
  ·skip
   refine AWPL_rn tab_ok 1 [6, 7, 11, 15, 16, 19, 20, 24, 25, 26] fun c st' hr => ?_
   simp only [go_sem] at hr
   obtain ⟨rfl, rfl⟩ := hr
   refine ⟨vc, ?_⟩
   refine AWPL_nil ?_
   refine QB_normal ?_
   exact AWPB_wk [0, 1, 2] mkWk ((hAA _ _ _).1 hn10)
  ·skip
   refine AWPL_rn tab_ok 1 [6, 7, 11, 14, 15, 16, 20, 24, 25, 26] fun c st' hr => ?_
   simp only [go_sem] at hr
   obtain ⟨rfl, rfl⟩ := hr
   refine ⟨vc, ?_⟩
   refine AWPL_nil ?_
   refine QB_normal ?_
   exact AWPB_wk [0, 1, 2] mkWk ((hAA _ _ _).1 hn13))

theorem ceg_rotabig_Int_Mul_r_1_32 : (Region.ready .any reg_rotabig_Int_Mul_r_1.toArray #[true, true, true, true, true, true, true, true, false, false, true, true, true, false, true, true, true, false, false, false, false] == [8, 13, 17]) = true := by kernel_rfl

theorem J_rotabig_Int_Mul_r_1_hn16 {x_0 : Bool} {x_1 : List Int} {y_0 : Bool} {y_1 : List Int} {q0 : Bool × List Int} {y1 : List Int} {y2 : Bool × List Int} {pl0 : AX.Loc} (hy : rotabig_mul x_1 y_1 = some y1) (hy1 : rotabig_Int_give (decide (¬ (x_0 = true ↔ y_0 = true))) (q0.1, q0.2) y1 = some y2) {w0 : World} {Q : Exit → St → Prop} {AA : Nat → Array Bool → St → Prop} (hAA : ∀ g L st, AA g L st ↔ AWPB Try.prog w0 reg_rotabig_Int_Mul_r_1.toArray Q g L st) (hn11 : AA 6 #[true, true, true, true, true, true, true, true, true, false, true, true, true, false, true, true, true, false, false, false, false] ⟨27, [(7, .ptr 0 0 0), (11, .bool x_0), (15, .bool y_0), (19, .immp [.ints .u32 x_1]), (23, .immp [.ints .u32 y_1])], [some (.gen 31 2 [[.bool q0.1, .own 1 q0.2.length]]), some (.ints 186 .u32 q0.2), some (.pin 0 pl0)]⟩) (hn14 : AA 6 #[true, true, true, true, true, true, true, true, false, false, true, true, true, true, true, true, true, false, false, false, false] ⟨27, [(7, .ptr 0 0 0), (11, .bool x_0), (14, .immp [.bool y_0, .ints .u32 y_1]), (20, .ints .u32 x_1), (23, .immp [.ints .u32 y_1])], [some (.gen 31 2 [[.bool q0.1, .own 1 q0.2.length]]), some (.ints 186 .u32 q0.2), some (.pin 0 pl0)]⟩) (hn15 : AA 6 #[true, true, true, true, true, true, true, true, false, false, true, true, true, false, true, true, true, true, false, false, false] ⟨27, [(7, .ptr 0 0 0), (11, .bool x_0), (14, .immp [.bool y_0, .ints .u32 y_1]), (19, .immp [.ints .u32 x_1]), (24, .ints .u32 y_1)], [some (.gen 31 2 [[.bool q0.1, .own 1 q0.2.length]]), some (.ints 186 .u32 q0.2), some (.pin 0 pl0)]⟩) : AA 7 #[true, true, true, true, true, true, true, true, false, false, true, true, true, false, true, true, true, false, false, false, false] ⟨27, [(7, .ptr 0 0 0), (11, .bool x_0), (14, .immp [.bool y_0, .ints .u32 y_1]), (19, .immp [.ints .u32 x_1]), (23, .immp [.ints .u32 y_1])], [some (.gen 31 2 [[.bool q0.1, .own 1 q0.2.length]]), some (.ints 186 .u32 q0.2), some (.pin 0 pl0)]⟩ := (hAA _ _ _).2 (by
  refine AWPB_three 8 13 17 _ _ _ ceg_rotabig_Int_Mul_r_1_32 rfl rfl rfl ?_ ?_ ?_
  ·skip
   refine AWPL_rn tab_ok 1 [6, 7, 11, 15, 16, 19, 20, 23, 24, 25, 26] fun c st' hr => ?_
   simp only [go_sem] at hr
   obtain ⟨rfl, rfl⟩ := hr
   refine ⟨vc, ?_⟩
   refine AWPL_nil ?_
   refine QB_normal ?_
   exact AWPB_wk [0, 1, 2] mkWk ((hAA _ _ _).1 hn11)
  ·skip
   refine AWPL_rn tab_ok 1 [6, 7, 11, 14, 15, 16, 20, 23, 24, 25, 26] fun c st' hr => ?_
   simp only [go_sem] at hr
   obtain ⟨rfl, rfl⟩ := hr
   refine ⟨vc, ?_⟩
   refine AWPL_nil ?_
   refine QB_normal ?_
   exact AWPB_wk [0, 1, 2] mkWk ((hAA _ _ _).1 hn14)
  ·skip
   refine AWPL_rn tab_ok 1 [6, 7, 11, 14, 15, 16, 19, 20, 24, 25, 26] fun c st' hr => ?_
   simp only [go_sem] at hr
   obtain ⟨rfl, rfl⟩ := hr
   refine ⟨vc, ?_⟩
   refine AWPL_nil ?_
   refine QB_normal ?_
   exact AWPB_wk [0, 1, 2] mkWk ((hAA _ _ _).1 hn15))

theorem ceg_rotabig_Int_Mul_r_1_34 : firstOk reg_rotabig_Int_Mul_r_1.toArray #[true, true, true, true, false, true, true, true, true, false, true, true, true, true, true, true, true, true, true, false, false] 4 [9, 19, 20] = true := by kernel_rfl

theorem J_rotabig_Int_Mul_r_1_hn17 {x_0 : Bool} {x_1 : List Int} {y_0 : Bool} {y_1 : List Int} {q0 : Bool × List Int} {y1 : List Int} {y2 : Bool × List Int} {pl0 : AX.Loc} (hy : rotabig_mul x_1 y_1 = some y1) (hy1 : rotabig_Int_give (decide (¬ (x_0 = true ↔ y_0 = true))) (q0.1, q0.2) y1 = some y2) {w0 : World} {Q : Exit → St → Prop} {AA : Nat → Array Bool → St → Prop} (hAA : ∀ g L st, AA g L st ↔ AWPB Try.prog w0 reg_rotabig_Int_Mul_r_1.toArray Q g L st) (hn6 : AA 3 #[true, true, true, true, true, true, true, true, true, false, true, true, true, true, true, true, true, true, true, false, false] ⟨27, [(7, .ptr 0 0 0), (11, .bool x_0), (15, .bool y_0), (25, .own 3 y1.length)], [some (.gen 31 2 [[.bool q0.1, .own 1 q0.2.length]]), some (.ints 186 .u32 q0.2), some (.pin 0 pl0), some (.ints 186 .u32 y1)]⟩) : AA 4 #[true, true, true, true, false, true, true, true, true, false, true, true, true, true, true, true, true, true, true, false, false] ⟨27, [(7, .ptr 0 0 0), (10, .immp [.bool x_0, .ints .u32 x_1]), (15, .bool y_0), (25, .own 3 y1.length)], [some (.gen 31 2 [[.bool q0.1, .own 1 q0.2.length]]), some (.ints 186 .u32 q0.2), some (.pin 0 pl0), some (.ints 186 .u32 y1)]⟩ := (hAA _ _ _).2 (by
  refine AWPB_takeB tab_ok [6, 7, 11, 15, 16, 25, 26] 4 [9, 19, 20] _ rfl ceg_rotabig_Int_Mul_r_1_34 fun c st' hr => ?_
  simp only [go_sem] at hr
  obtain ⟨rfl, rfl⟩ := hr
  refine ⟨vc, ?_⟩
  exact AWPB_wk [0, 1, 2, 3] mkWk ((hAA _ _ _).1 hn6))

theorem ceg_rotabig_Int_Mul_r_1_36 : (Region.ready .any reg_rotabig_Int_Mul_r_1.toArray #[true, true, true, true, false, true, true, true, true, false, true, true, true, true, true, true, true, true, false, false, false] == [4, 18]) = true := by kernel_rfl

theorem J_rotabig_Int_Mul_r_1_hn18 {x_0 : Bool} {x_1 : List Int} {y_0 : Bool} {y_1 : List Int} {q0 : Bool × List Int} {y1 : List Int} {y2 : Bool × List Int} {pl0 : AX.Loc} (hy : rotabig_mul x_1 y_1 = some y1) (hy1 : rotabig_Int_give (decide (¬ (x_0 = true ↔ y_0 = true))) (q0.1, q0.2) y1 = some y2) {w0 : World} {Q : Exit → St → Prop} {AA : Nat → Array Bool → St → Prop} (hAA : ∀ g L st, AA g L st ↔ AWPB Try.prog w0 reg_rotabig_Int_Mul_r_1.toArray Q g L st) (hn7 : AA 4 #[true, true, true, true, true, true, true, true, true, false, true, true, true, true, true, true, true, true, false, false, false] ⟨27, [(7, .ptr 0 0 0), (11, .bool x_0), (15, .bool y_0), (20, .ints .u32 x_1), (24, .ints .u32 y_1)], [some (.gen 31 2 [[.bool q0.1, .own 1 q0.2.length]]), some (.ints 186 .u32 q0.2), some (.pin 0 pl0)]⟩) (hn17 : AA 4 #[true, true, true, true, false, true, true, true, true, false, true, true, true, true, true, true, true, true, true, false, false] ⟨27, [(7, .ptr 0 0 0), (10, .immp [.bool x_0, .ints .u32 x_1]), (15, .bool y_0), (25, .own 3 y1.length)], [some (.gen 31 2 [[.bool q0.1, .own 1 q0.2.length]]), some (.ints 186 .u32 q0.2), some (.pin 0 pl0), some (.ints 186 .u32 y1)]⟩) : AA 5 #[true, true, true, true, false, true, true, true, true, false, true, true, true, true, true, true, true, true, false, false, false] ⟨27, [(7, .ptr 0 0 0), (10, .immp [.bool x_0, .ints .u32 x_1]), (15, .bool y_0), (20, .ints .u32 x_1), (24, .ints .u32 y_1)], [some (.gen 31 2 [[.bool q0.1, .own 1 q0.2.length]]), some (.ints 186 .u32 q0.2), some (.pin 0 pl0)]⟩ := (hAA _ _ _).2 (by
  refine AWPB_two 4 18 _ _ ceg_rotabig_Int_Mul_r_1_36 rfl rfl ?_ ?_
  ·skip
   refine AWPL_rn tab_ok 1 [6, 7, 11, 15, 16, 20, 24, 25, 26] fun c st' hr => ?_
   simp only [go_sem] at hr
   obtain ⟨rfl, rfl⟩ := hr
   refine ⟨vc, ?_⟩
   refine AWPL_nil ?_
   refine QB_normal ?_
   exact AWPB_wk [0, 1, 2] mkWk ((hAA _ _ _).1 hn7)
  ·skip
   refine AWPL_callK [6, 7, 10, 11, 15, 16, 25, 26] (W_rotabig_mul hy) rfl rfl pcT rfl Try.call127 (.cons (.atom _ rfl) (.cons (.atom _ rfl) .nil)) (hscG trivial) (of_decide_eq_true rfl) (by first | rfl | simp [nI, nI1, nI0]) (by first | rfl | simp [nIB, nI0]) fun st' hr => ?_
   simp only [go_sem] at hr
   subst hr
   refine AWPL_nil ?_
   refine QB_normal ?_
   exact AWPB_wk [0, 1, 2, 3] mkWk ((hAA _ _ _).1 hn17))

theorem ceg_rotabig_Int_Mul_r_1_38 : (Region.ready .any reg_rotabig_Int_Mul_r_1.toArray #[true, true, true, true, false, true, true, true, true, false, true, true, true, true, true, true, true, false, false, false, false] == [4, 17]) = true := by kernel_rfl

theorem J_rotabig_Int_Mul_r_1_hn19 {x_0 : Bool} {x_1 : List Int} {y_0 : Bool} {y_1 : List Int} {q0 : Bool × List Int} {y1 : List Int} {y2 : Bool × List Int} {pl0 : AX.Loc} (hy : rotabig_mul x_1 y_1 = some y1) (hy1 : rotabig_Int_give (decide (¬ (x_0 = true ↔ y_0 = true))) (q0.1, q0.2) y1 = some y2) {w0 : World} {Q : Exit → St → Prop} {AA : Nat → Array Bool → St → Prop} (hAA : ∀ g L st, AA g L st ↔ AWPB Try.prog w0 reg_rotabig_Int_Mul_r_1.toArray Q g L st) (hn8 : AA 5 #[true, true, true, true, true, true, true, true, true, false, true, true, true, true, true, true, true, false, false, false, false] ⟨27, [(7, .ptr 0 0 0), (11, .bool x_0), (15, .bool y_0), (20, .ints .u32 x_1), (23, .immp [.ints .u32 y_1])], [some (.gen 31 2 [[.bool q0.1, .own 1 q0.2.length]]), some (.ints 186 .u32 q0.2), some (.pin 0 pl0)]⟩) (hn18 : AA 5 #[true, true, true, true, false, true, true, true, true, false, true, true, true, true, true, true, true, true, false, false, false] ⟨27, [(7, .ptr 0 0 0), (10, .immp [.bool x_0, .ints .u32 x_1]), (15, .bool y_0), (20, .ints .u32 x_1), (24, .ints .u32 y_1)], [some (.gen 31 2 [[.bool q0.1, .own 1 q0.2.length]]), some (.ints 186 .u32 q0.2), some (.pin 0 pl0)]⟩) : AA 6 #[true, true, true, true, false, true, true, true, true, false, true, true, true, true, true, true, true, false, false, false, false] ⟨27, [(7, .ptr 0 0 0), (10, .immp [.bool x_0, .ints .u32 x_1]), (15, .bool y_0), (20, .ints .u32 x_1), (23, .immp [.ints .u32 y_1])], [some (.gen 31 2 [[.bool q0.1, .own 1 q0.2.length]]), some (.ints 186 .u32 q0.2), some (.pin 0 pl0)]⟩ := (hAA _ _ _).2 (by
  refine AWPB_two 4 17 _ _ ceg_rotabig_Int_Mul_r_1_38 rfl rfl ?_ ?_
  ·skip
   refine AWPL_rn tab_ok 1 [6, 7, 11, 15, 16, 20, 23, 24, 25, 26] fun c st' hr => ?_
   simp only [go_sem] at hr
   obtain ⟨rfl, rfl⟩ := hr
   refine ⟨vc, ?_⟩
   refine AWPL_nil ?_
   refine QB_normal ?_
   exact AWPB_wk [0, 1, 2] mkWk ((hAA _ _ _).1 hn8)
  ·skip
   refine AWPL_rn tab_ok 1 [6, 7, 10, 11, 15, 16, 20, 24, 25, 26] fun c st' hr => ?_
   simp only [go_sem] at hr
   obtain ⟨rfl, rfl⟩ := hr
   refine ⟨vc, ?_⟩
   refine AWPL_nil ?_
   refine QB_normal ?_
   exact AWPB_wk [0, 1, 2] mkWk ((hAA _ _ _).1 hn18))

theorem ceg_rotabig_Int_Mul_r_1_40 : (Region.ready .any reg_rotabig_Int_Mul_r_1.toArray #[true, true, true, true, false, true, true, true, true, false, true, true, true, false, true, true, true, true, false, false, false] == [4, 13]) = true := by kernel_rfl

theorem J_rotabig_Int_Mul_r_1_hn20 {x_0 : Bool} {x_1 : List Int} {y_0 : Bool} {y_1 : List Int} {q0 : Bool × List Int} {y1 : List Int} {y2 : Bool × List Int} {pl0 : AX.Loc} (hy : rotabig_mul x_1 y_1 = some y1) (hy1 : rotabig_Int_give (decide (¬ (x_0 = true ↔ y_0 = true))) (q0.1, q0.2) y1 = some y2) {w0 : World} {Q : Exit → St → Prop} {AA : Nat → Array Bool → St → Prop} (hAA : ∀ g L st, AA g L st ↔ AWPB Try.prog w0 reg_rotabig_Int_Mul_r_1.toArray Q g L st) (hn10 : AA 5 #[true, true, true, true, true, true, true, true, true, false, true, true, true, false, true, true, true, true, false, false, false] ⟨27, [(7, .ptr 0 0 0), (11, .bool x_0), (15, .bool y_0), (19, .immp [.ints .u32 x_1]), (24, .ints .u32 y_1)], [some (.gen 31 2 [[.bool q0.1, .own 1 q0.2.length]]), some (.ints 186 .u32 q0.2), some (.pin 0 pl0)]⟩) (hn18 : AA 5 #[true, true, true, true, false, true, true, true, true, false, true, true, true, true, true, true, true, true, false, false, false] ⟨27, [(7, .ptr 0 0 0), (10, .immp [.bool x_0, .ints .u32 x_1]), (15, .bool y_0), (20, .ints .u32 x_1), (24, .ints .u32 y_1)], [some (.gen 31 2 [[.bool q0.1, .own 1 q0.2.length]]), some (.ints 186 .u32 q0.2), some (.pin 0 pl0)]⟩) : AA 6 #[true, true, true, true, false, true, true, true, true, false, true, true, true, false, true, true, true, true, false, false, false] ⟨27, [(7, .ptr 0 0 0), (10, .immp [.bool x_0, .ints .u32 x_1]), (15, .bool y_0), (19, .immp [.ints .u32 x_1]), (24, .ints .u32 y_1)], [some (.gen 31 2 [[.bool q0.1, .own 1 q0.2.length]]), some (.ints 186 .u32 q0.2), some (.pin 0 pl0)]⟩ := (hAA _ _ _).2 (by
  refine AWPB_two 4 13 _ _ ceg_rotabig_Int_Mul_r_1_40 rfl rfl ?_ ?_
  ·skip
   refine AWPL_rn tab_ok 1 [6, 7, 11, 15, 16, 19, 20, 24, 25, 26] fun c st' hr => ?_
   simp only [go_sem] at hr
   obtain ⟨rfl, rfl⟩ := hr
   refine ⟨vc, ?_⟩
   refine AWPL_nil ?_
   refine QB_normal ?_
   exact AWPB_wk [0, 1, 2] mkWk ((hAA _ _ _).1 hn10)
  ·skip
   refine AWPL_rn tab_ok 1 [6, 7, 10, 11, 15, 16, 20, 24, 25, 26] fun c st' hr => ?_
   simp only [go_sem] at hr
   obtain ⟨rfl, rfl⟩ := hr
   refine ⟨vc, ?_⟩
   refine AWPL_nil ?_
   refine QB_normal ?_
   exact AWPB_wk [0, 1, 2] mkWk ((hAA _ _ _).1 hn18))

theorem ceg_rotabig_Int_Mul_r_1_42 : (Region.ready .any reg_rotabig_Int_Mul_r_1.toArray #[true, true, true, true, false, true, true, true, true, false, true, true, true, false, true, true, true, false, false, false, false] == [4, 13, 17]) = true := by kernel_rfl

theorem J_rotabig_Int_Mul_r_1_hn21 {x_0 : Bool} {x_1 : List Int} {y_0 : Bool} {y_1 : List Int} {q0 : Bool × List Int} {y1 : List Int} {y2 : Bool × List Int} {pl0 : AX.Loc} (hy : rotabig_mul x_1 y_1 = some y1) (hy1 : rotabig_Int_give (decide (¬ (x_0 = true ↔ y_0 = true))) (q0.1, q0.2) y1 = some y2) {w0 : World} {Q : Exit → St → Prop} {AA : Nat → Array Bool → St → Prop} (hAA : ∀ g L st, AA g L st ↔ AWPB Try.prog w0 reg_rotabig_Int_Mul_r_1.toArray Q g L st) (hn11 : AA 6 #[true, true, true, true, true, true, true, true, true, false, true, true, true, false, true, true, true, false, false, false, false] ⟨27, [(7, .ptr 0 0 0), (11, .bool x_0), (15, .bool y_0), (19, .immp [.ints .u32 x_1]), (23, .immp [.ints .u32 y_1])], [some (.gen 31 2 [[.bool q0.1, .own 1 q0.2.length]]), some (.ints 186 .u32 q0.2), some (.pin 0 pl0)]⟩) (hn19 : AA 6 #[true, true, true, true, false, true, true, true, true, false, true, true, true, true, true, true, true, false, false, false, false] ⟨27, [(7, .ptr 0 0 0), (10, .immp [.bool x_0, .ints .u32 x_1]), (15, .bool y_0), (20, .ints .u32 x_1), (23, .immp [.ints .u32 y_1])], [some (.gen 31 2 [[.bool q0.1, .own 1 q0.2.length]]), some (.ints 186 .u32 q0.2), some (.pin 0 pl0)]⟩) (hn20 : AA 6 #[true, true, true, true, false, true, true, true, true, false, true, true, true, false, true, true, true, true, false, false, false] ⟨27, [(7, .ptr 0 0 0), (10, .immp [.bool x_0, .ints .u32 x_1]), (15, .bool y_0), (19, .immp [.ints .u32 x_1]), (24, .ints .u32 y_1)], [some (.gen 31 2 [[.bool q0.1, .own 1 q0.2.length]]), some (.ints 186 .u32 q0.2), some (.pin 0 pl0)]⟩) : AA 7 #[true, true, true, true, false, true, true, true, true, false, true, true, true, false, true, true, true, false, false, false, false] ⟨27, [(7, .ptr 0 0 0), (10, .immp [.bool x_0, .ints .u32 x_1]), (15, .bool y_0), (19, .immp [.ints .u32 x_1]), (23, .immp [.ints .u32 y_1])], [some (.gen 31 2 [[.bool q0.1, .own 1 q0.2.length]]), some (.ints 186 .u32 q0.2), some (.pin 0 pl0)]⟩ := (hAA _ _ _).2 (by
  refine AWPB_three 4 13 17 _ _ _ ceg_rotabig_Int_Mul_r_1_42 rfl rfl rfl ?_ ?_ ?_
  ·skip
   refine AWPL_rn tab_ok 1 [6, 7, 11, 15, 16, 19, 20, 23, 24, 25, 26] fun c st' hr => ?_
   simp only [go_sem] at hr
   obtain ⟨rfl, rfl⟩ := hr
   refine ⟨vc, ?_⟩
   refine AWPL_nil ?_
   refine QB_normal ?_
   exact AWPB_wk [0, 1, 2] mkWk ((hAA _ _ _).1 hn11)
  ·skip
   refine AWPL_rn tab_ok 1 [6, 7, 10, 11, 15, 16, 20, 23, 24, 25, 26] fun c st' hr => ?_
   simp only [go_sem] at hr
   obtain ⟨rfl, rfl⟩ := hr
   refine ⟨vc, ?_⟩
   refine AWPL_nil ?_
   refine QB_normal ?_
   exact AWPB_wk [0, 1, 2] mkWk ((hAA _ _ _).1 hn19)
  ·skip
   refine AWPL_rn tab_ok 1 [6, 7, 10, 11, 15, 16, 19, 20, 24, 25, 26] fun c st' hr => ?_
   simp only [go_sem] at hr
   obtain ⟨rfl, rfl⟩ := hr
   refine ⟨vc, ?_⟩
   refine AWPL_nil ?_
   refine QB_normal ?_
   exact AWPB_wk [0, 1, 2] mkWk ((hAA _ _ _).1 hn20))

theorem ceg_rotabig_Int_Mul_r_1_44 : firstOk reg_rotabig_Int_Mul_r_1.toArray #[true, true, true, true, false, true, true, true, false, false, true, true, true, true, true, true, true, true, true, false, false] 4 [9, 19, 20] = true := by kernel_rfl

theorem J_rotabig_Int_Mul_r_1_hn22 {x_0 : Bool} {x_1 : List Int} {y_0 : Bool} {y_1 : List Int} {q0 : Bool × List Int} {y1 : List Int} {y2 : Bool × List Int} {pl0 : AX.Loc} (hy : rotabig_mul x_1 y_1 = some y1) (hy1 : rotabig_Int_give (decide (¬ (x_0 = true ↔ y_0 = true))) (q0.1, q0.2) y1 = some y2) {w0 : World} {Q : Exit → St → Prop} {AA : Nat → Array Bool → St → Prop} (hAA : ∀ g L st, AA g L st ↔ AWPB Try.prog w0 reg_rotabig_Int_Mul_r_1.toArray Q g L st) (hn12 : AA 4 #[true, true, true, true, true, true, true, true, false, false, true, true, true, true, true, true, true, true, true, false, false] ⟨27, [(7, .ptr 0 0 0), (11, .bool x_0), (14, .immp [.bool y_0, .ints .u32 y_1]), (25, .own 3 y1.length)], [some (.gen 31 2 [[.bool q0.1, .own 1 q0.2.length]]), some (.ints 186 .u32 q0.2), some (.pin 0 pl0), some (.ints 186 .u32 y1)]⟩) : AA 5 #[true, true, true, true, false, true, true, true, false, false, true, true, true, true, true, true, true, true, true, false, false] ⟨27, [(7, .ptr 0 0 0), (10, .immp [.bool x_0, .ints .u32 x_1]), (14, .immp [.bool y_0, .ints .u32 y_1]), (25, .own 3 y1.length)], [some (.gen 31 2 [[.bool q0.1, .own 1 q0.2.length]]), some (.ints 186 .u32 q0.2), some (.pin 0 pl0), some (.ints 186 .u32 y1)]⟩ := (hAA _ _ _).2 (by
  refine AWPB_takeB tab_ok [6, 7, 11, 14, 15, 16, 25, 26] 4 [9, 19, 20] _ rfl ceg_rotabig_Int_Mul_r_1_44 fun c st' hr => ?_
  simp only [go_sem] at hr
  obtain ⟨rfl, rfl⟩ := hr
  refine ⟨vc, ?_⟩
  exact AWPB_wk [0, 1, 2, 3] mkWk ((hAA _ _ _).1 hn12))

theorem ceg_rotabig_Int_Mul_r_1_46 : (Region.ready .any reg_rotabig_Int_Mul_r_1.toArray #[true, true, true, true, false, true, true, true, false, false, true, true, true, true, true, true, true, true, false, false, false] == [4, 8, 18]) = true := by kernel_rfl

theorem J_rotabig_Int_Mul_r_1_hn23 {x_0 : Bool} {x_1 : List Int} {y_0 : Bool} {y_1 : List Int} {q0 : Bool × List Int} {y1 : List Int} {y2 : Bool × List Int} {pl0 : AX.Loc} (hy : rotabig_mul x_1 y_1 = some y1) (hy1 : rotabig_Int_give (decide (¬ (x_0 = true ↔ y_0 = true))) (q0.1, q0.2) y1 = some y2) {w0 : World} {Q : Exit → St → Prop} {AA : Nat → Array Bool → St → Prop} (hAA : ∀ g L st, AA g L st ↔ AWPB Try.prog w0 reg_rotabig_Int_Mul_r_1.toArray Q g L st) (hn13 : AA 5 #[true, true, true, true, true, true, true, true, false, false, true, true, true, true, true, true, true, true, false, false, false] ⟨27, [(7, .ptr 0 0 0), (11, .bool x_0), (14, .immp [.bool y_0, .ints .u32 y_1]), (20, .ints .u32 x_1), (24, .ints .u32 y_1)], [some (.gen 31 2 [[.bool q0.1, .own 1 q0.2.length]]), some (.ints 186 .u32 q0.2), some (.pin 0 pl0)]⟩) (hn18 : AA 5 #[true, true, true, true, false, true, true, true, true, false, true, true, true, true, true, true, true, true, false, false, false] ⟨27, [(7, .ptr 0 0 0), (10, .immp [.bool x_0, .ints .u32 x_1]), (15, .bool y_0), (20, .ints .u32 x_1), (24, .ints .u32 y_1)], [some (.gen 31 2 [[.bool q0.1, .own 1 q0.2.length]]), some (.ints 186 .u32 q0.2), some (.pin 0 pl0)]⟩) (hn22 : AA 5 #[true, true, true, true, false, true, true, true, false, false, true, true, true, true, true, true, true, true, true, false, false] ⟨27, [(7, .ptr 0 0 0), (10, .immp [.bool x_0, .ints .u32 x_1]), (14, .immp [.bool y_0, .ints .u32 y_1]), (25, .own 3 y1.length)], [some (.gen 31 2 [[.bool q0.1, .own 1 q0.2.length]]), some (.ints 186 .u32 q0.2), some (.pin 0 pl0), some (.ints 186 .u32 y1)]⟩) : AA 6 #[true, true, true, true, false, true, true, true, false, false, true, true, true, true, true, true, true, true, false, false, false] ⟨27, [(7, .ptr 0 0 0), (10, .immp [.bool x_0, .ints .u32 x_1]), (14, .immp [.bool y_0, .ints .u32 y_1]), (20, .ints .u32 x_1), (24, .ints .u32 y_1)], [some (.gen 31 2 [[.bool q0.1, .own 1 q0.2.length]]), some (.ints 186 .u32 q0.2), some (.pin 0 pl0)]⟩ := (hAA _ _ _).2 (by
  refine AWPB_three 4 8 18 _ _ _ ceg_rotabig_Int_Mul_r_1_46 rfl rfl rfl ?_ ?_ ?_
  ·skip
   refine AWPL_rn tab_ok 1 [6, 7, 11, 14, 15, 16, 20, 24, 25, 26] fun c st' hr => ?_
   simp only [go_sem] at hr
   obtain ⟨rfl, rfl⟩ := hr
   refine ⟨vc, ?_⟩
   refine AWPL_nil ?_
   refine QB_normal ?_
   exact AWPB_wk [0, 1, 2] mkWk ((hAA _ _ _).1 hn13)
  ·skip
   refine AWPL_rn tab_ok 1 [6, 7, 10, 11, 15, 16, 20, 24, 25, 26] fun c st' hr => ?_
   simp only [go_sem] at hr
   obtain ⟨rfl, rfl⟩ := hr
   refine ⟨vc, ?_⟩
   refine AWPL_nil ?_
   refine QB_normal ?_
   exact AWPB_wk [0, 1, 2] mkWk ((hAA _ _ _).1 hn18)
  ·skip
   refine AWPL_callK [6, 7, 10, 11, 14, 15, 16, 25, 26] (W_rotabig_mul hy) rfl rfl pcT rfl Try.call127 (.cons (.atom _ rfl) (.cons (.atom _ rfl) .nil)) (hscG trivial) (of_decide_eq_true rfl) (by first | rfl | simp [nI, nI1, nI0]) (by first | rfl | simp [nIB, nI0]) fun st' hr => ?_
   simp only [go_sem] at hr
   subst hr
   refine AWPL_nil ?_
   refine QB_normal ?_
   exact AWPB_wk [0, 1, 2, 3] mkWk ((hAA _ _ _).1 hn22))

theorem ceg_rotabig_Int_Mul_r_1_48 : (Region.ready .any reg_rotabig_Int_Mul_r_1.toArray #[true, true, true, true, false, true, true, true, false, false, true, true, true, true, true, true, true, false, false, false, false] == [4, 8, 17]) = true := by kernel_rfl

theorem J_rotabig_Int_Mul_r_1_hn24 {x_0 : Bool} {x_1 : List Int} {y_0 : Bool} {y_1 : List Int} {q0 : Bool × List Int} {y1 : List Int} {y2 : Bool × List Int} {pl0 : AX.Loc} (hy : rotabig_mul x_1 y_1 = some y1) (hy1 : rotabig_Int_give (decide (¬ (x_0 = true ↔ y_0 = true))) (q0.1, q0.2) y1 = some y2) {w0 : World} {Q : Exit → St → Prop} {AA : Nat → Array Bool → St → Prop} (hAA : ∀ g L st, AA g L st ↔ AWPB Try.prog w0 reg_rotabig_Int_Mul_r_1.toArray Q g L st) (hn14 : AA 6 #[true, true, true, true, true, true, true, true, false, false, true, true, true, true, true, true, true, false, false, false, false] ⟨27, [(7, .ptr 0 0 0), (11, .bool x_0), (14, .immp [.bool y_0, .ints .u32 y_1]), (20, .ints .u32 x_1), (23, .immp [.ints .u32 y_1])], [some (.gen 31 2 [[.bool q0.1, .own 1 q0.2.length]]), some (.ints 186 .u32 q0.2), some (.pin 0 pl0)]⟩) (hn19 : AA 6 #[true, true, true, true, false, true, true, true, true, false, true, true, true, true, true, true, true, false, false, false, false] ⟨27, [(7, .ptr 0 0 0), (10, .immp [.bool x_0, .ints .u32 x_1]), (15, .bool y_0), (20, .ints .u32 x_1), (23, .immp [.ints .u32 y_1])], [some (.gen 31 2 [[.bool q0.1, .own 1 q0.2.length]]), some (.ints 186 .u32 q0.2), some (.pin 0 pl0)]⟩) (hn23 : AA 6 #[true, true, true, true, false, true, true, true, false, false, true, true, true, true, true, true, true, true, false, false, false] ⟨27, [(7, .ptr 0 0 0), (10, .immp [.bool x_0, .ints .u32 x_1]), (14, .immp [.bool y_0, .ints .u32 y_1]), (20, .ints .u32 x_1), (24, .ints .u32 y_1)], [some (.gen 31 2 [[.bool q0.1, .own 1 q0.2.length]]), some (.ints 186 .u32 q0.2), some (.pin 0 pl0)]⟩) : AA 7 #[true, true, true, true, false, true, true, true, false, false, true, true, true, true, true, true, true, false, false, false, false] ⟨27, [(7, .ptr 0 0 0), (10, .immp [.bool x_0, .ints .u32 x_1]), (14, .immp [.bool y_0, .ints .u32 y_1]), (20, .ints .u32 x_1), (23, .immp [.ints .u32 y_1])], [some (.gen 31 2 [[.bool q0.1, .own 1 q0.2.length]]), some (.ints 186 .u32 q0.2), some (.pin 0 pl0)]⟩ := (hAA _ _ _).2 (by
  refine AWPB_three 4 8 17 _ _ _ ceg_rotabig_Int_Mul_r_1_48 rfl rfl rfl ?_ ?_ ?_
  ·skip
   refine AWPL_rn tab_ok 1 [6, 7, 11, 14, 15, 16, 20, 23, 24, 25, 26] fun c st' hr => ?_
   simp only [go_sem] at hr
   obtain ⟨rfl, rfl⟩ := hr
   refine ⟨vc, ?_⟩
   refine AWPL_nil ?_
   refine QB_normal ?_
   exact AWPB_wk [0, 1, 2] mkWk ((hAA _ _ _).1 hn14)
  ·skip
   refine AWPL_rn tab_ok 1 [6, 7, 10, 11, 15, 16, 20, 23, 24, 25, 26] fun c st' hr => ?_
   simp only [go_sem] at hr
   obtain ⟨rfl, rfl⟩ := hr
   refine ⟨vc, ?_⟩
   refine AWPL_nil ?_
   refine QB_normal ?_
   exact AWPB_wk [0, 1, 2] mkWk ((hAA _ _ _).1 hn19)
  ·skip
   refine AWPL_rn tab_ok 1 [6, 7, 10, 11, 14, 15, 16, 20, 24, 25, 26] fun c st' hr => ?_
   simp only [go_sem] at hr
   obtain ⟨rfl, rfl⟩ := hr
   refine ⟨vc, ?_⟩
   refine AWPL_nil ?_
   refine QB_normal ?_
   exact AWPB_wk [0, 1, 2] mkWk ((hAA _ _ _).1 hn23))

theorem ceg_rotabig_Int_Mul_r_1_50 : (Region.ready .any reg_rotabig_Int_Mul_r_1.toArray #[true, true, true, true, false, true, true, true, false, false, true, true, true, false, true, true, true, true, false, false, false] == [4, 8, 13]) = true := by kernel_rfl

theorem J_rotabig_Int_Mul_r_1_hn25 {x_0 : Bool} {x_1 : List Int} {y_0 : Bool} {y_1 : List Int} {q0 : Bool × List Int} {y1 : List Int} {y2 : Bool × List Int} {pl0 : AX.Loc} (hy : rotabig_mul x_1 y_1 = some y1) (hy1 : rotabig_Int_give (decide (¬ (x_0 = true ↔ y_0 = true))) (q0.1, q0.2) y1 = some y2) {w0 : World} {Q : Exit → St → Prop} {AA : Nat → Array Bool → St → Prop} (hAA : ∀ g L st, AA g L st ↔ AWPB Try.prog w0 reg_rotabig_Int_Mul_r_1.toArray Q g L st) (hn15 : AA 6 #[true, true, true, true, true, true, true, true, false, false, true, true, true, false, true, true, true, true, false, false, false] ⟨27, [(7, .ptr 0 0 0), (11, .bool x_0), (14, .immp [.bool y_0, .ints .u32 y_1]), (19, .immp [.ints .u32 x_1]), (24, .ints .u32 y_1)], [some (.gen 31 2 [[.bool q0.1, .own 1 q0.2.length]]), some (.ints 186 .u32 q0.2), some (.pin 0 pl0)]⟩) (hn20 : AA 6 #[true, true, true, true, false, true, true, true, true, false, true, true, true, false, true, true, true, true, false, false, false] ⟨27, [(7, .ptr 0 0 0), (10, .immp [.bool x_0, .ints .u32 x_1]), (15, .bool y_0), (19, .immp [.ints .u32 x_1]), (24, .ints .u32 y_1)], [some (.gen 31 2 [[.bool q0.1, .own 1 q0.2.length]]), some (.ints 186 .u32 q0.2), some (.pin 0 pl0)]⟩) (hn23 : AA 6 #[true, true, true, true, false, true, true, true, false, false, true, true, true, true, true, true, true, true, false, false, false] ⟨27, [(7, .ptr 0 0 0), (10, .immp [.bool x_0, .ints .u32 x_1]), (14, .immp [.bool y_0, .ints .u32 y_1]), (20, .ints .u32 x_1), (24, .ints .u32 y_1)], [some (.gen 31 2 [[.bool q0.1, .own 1 q0.2.length]]), some (.ints 186 .u32 q0.2), some (.pin 0 pl0)]⟩) : AA 7 #[true, true, true, true, false, true, true, true, false, false, true, true, true, false, true, true, true, true, false, false, false] ⟨27, [(7, .ptr 0 0 0), (10, .immp [.bool x_0, .ints .u32 x_1]), (14, .immp [.bool y_0, .ints .u32 y_1]), (19, .immp [.ints .u32 x_1]), (24, .ints .u32 y_1)], [some (.gen 31 2 [[.bool q0.1, .own 1 q0.2.length]]), some (.ints 186 .u32 q0.2), some (.pin 0 pl0)]⟩ := (hAA _ _ _).2 (by
  refine AWPB_three 4 8 13 _ _ _ ceg_rotabig_Int_Mul_r_1_50 rfl rfl rfl ?_ ?_ ?_
  ·skip
   refine AWPL_rn tab_ok 1 [6, 7, 11, 14, 15, 16, 19, 20, 24, 25, 26] fun c st' hr => ?_
   simp only [go_sem] at hr
   obtain ⟨rfl, rfl⟩ := hr
   refine ⟨vc, ?_⟩
   refine AWPL_nil ?_
   refine QB_normal ?_
   exact AWPB_wk [0, 1, 2] mkWk ((hAA _ _ _).1 hn15)
  ·skip
   refine AWPL_rn tab_ok 1 [6, 7, 10, 11, 15, 16, 19, 20, 24, 25, 26] fun c st' hr => ?_
   simp only [go_sem] at hr
   obtain ⟨rfl, rfl⟩ := hr
   refine ⟨vc, ?_⟩
   refine AWPL_nil ?_
   refine QB_normal ?_
   exact AWPB_wk [0, 1, 2] mkWk ((hAA _ _ _).1 hn20)
  ·skip
   refine AWPL_rn tab_ok 1 [6, 7, 10, 11, 14, 15, 16, 20, 24, 25, 26] fun c st' hr => ?_
   simp only [go_sem] at hr
   obtain ⟨rfl, rfl⟩ := hr
   refine ⟨vc, ?_⟩
   refine AWPL_nil ?_
   refine QB_normal ?_
   exact AWPB_wk [0, 1, 2] mkWk ((hAA _ _ _).1 hn23))

theorem ceg_rotabig_Int_Mul_r_1_52 : (Region.ready .any reg_rotabig_Int_Mul_r_1.toArray #[true, true, true, true, false, true, true, true, false, false, true, true, true, false, true, true, true, false, false, false, false] == [4, 8, 13, 17]) = true := by kernel_rfl

theorem J_rotabig_Int_Mul_r_1_hn26 {x_0 : Bool} {x_1 : List Int} {y_0 : Bool} {y_1 : List Int} {q0 : Bool × List Int} {y1 : List Int} {y2 : Bool × List Int} {pl0 : AX.Loc} (hy : rotabig_mul x_1 y_1 = some y1) (hy1 : rotabig_Int_give (decide (¬ (x_0 = true ↔ y_0 = true))) (q0.1, q0.2) y1 = some y2) {w0 : World} {Q : Exit → St → Prop} {AA : Nat → Array Bool → St → Prop} (hAA : ∀ g L st, AA g L st ↔ AWPB Try.prog w0 reg_rotabig_Int_Mul_r_1.toArray Q g L st) (hn16 : AA 7 #[true, true, true, true, true, true, true, true, false, false, true, true, true, false, true, true, true, false, false, false, false] ⟨27, [(7, .ptr 0 0 0), (11, .bool x_0), (14, .immp [.bool y_0, .ints .u32 y_1]), (19, .immp [.ints .u32 x_1]), (23, .immp [.ints .u32 y_1])], [some (.gen 31 2 [[.bool q0.1, .own 1 q0.2.length]]), some (.ints 186 .u32 q0.2), some (.pin 0 pl0)]⟩) (hn21 : AA 7 #[true, true, true, true, false, true, true, true, true, false, true, true, true, false, true, true, true, false, false, false, false] ⟨27, [(7, .ptr 0 0 0), (10, .immp [.bool x_0, .ints .u32 x_1]), (15, .bool y_0), (19, .immp [.ints .u32 x_1]), (23, .immp [.ints .u32 y_1])], [some (.gen 31 2 [[.bool q0.1, .own 1 q0.2.length]]), some (.ints 186 .u32 q0.2), some (.pin 0 pl0)]⟩) (hn24 : AA 7 #[true, true, true, true, false, true, true, true, false, false, true, true, true, true, true, true, true, false, false, false, false] ⟨27, [(7, .ptr 0 0 0), (10, .immp [.bool x_0, .ints .u32 x_1]), (14, .immp [.bool y_0, .ints .u32 y_1]), (20, .ints .u32 x_1), (23, .immp [.ints .u32 y_1])], [some (.gen 31 2 [[.bool q0.1, .own 1 q0.2.length]]), some (.ints 186 .u32 q0.2), some (.pin 0 pl0)]⟩) (hn25 : AA 7 #[true, true, true, true, false, true, true, true, false, false, true, true, true, false, true, true, true, true, false, false, false] ⟨27, [(7, .ptr 0 0 0), (10, .immp [.bool x_0, .ints .u32 x_1]), (14, .immp [.bool y_0, .ints .u32 y_1]), (19, .immp [.ints .u32 x_1]), (24, .ints .u32 y_1)], [some (.gen 31 2 [[.bool q0.1, .own 1 q0.2.length]]), some (.ints 186 .u32 q0.2), some (.pin 0 pl0)]⟩) : AA 8 #[true, true, true, true, false, true, true, true, false, false, true, true, true, false, true, true, true, false, false, false, false] ⟨27, [(7, .ptr 0 0 0), (10, .immp [.bool x_0, .ints .u32 x_1]), (14, .immp [.bool y_0, .ints .u32 y_1]), (19, .immp [.ints .u32 x_1]), (23, .immp [.ints .u32 y_1])], [some (.gen 31 2 [[.bool q0.1, .own 1 q0.2.length]]), some (.ints 186 .u32 q0.2), some (.pin 0 pl0)]⟩ := (hAA _ _ _).2 (by
  refine AWPB_four 4 8 13 17 _ _ _ _ ceg_rotabig_Int_Mul_r_1_52 rfl rfl rfl rfl ?_ ?_ ?_ ?_
  ·skip
   refine AWPL_rn tab_ok 1 [6, 7, 11, 14, 15, 16, 19, 20, 23, 24, 25, 26] fun c st' hr => ?_
   simp only [go_sem] at hr
   obtain ⟨rfl, rfl⟩ := hr
   refine ⟨vc, ?_⟩
   refine AWPL_nil ?_
   refine QB_normal ?_
   exact AWPB_wk [0, 1, 2] mkWk ((hAA _ _ _).1 hn16)
  ·skip
   refine AWPL_rn tab_ok 1 [6, 7, 10, 11, 15, 16, 19, 20, 23, 24, 25, 26] fun c st' hr => ?_
   simp only [go_sem] at hr
   obtain ⟨rfl, rfl⟩ := hr
   refine ⟨vc, ?_⟩
   refine AWPL_nil ?_
   refine QB_normal ?_
   exact AWPB_wk [0, 1, 2] mkWk ((hAA _ _ _).1 hn21)
  ·skip
   refine AWPL_rn tab_ok 1 [6, 7, 10, 11, 14, 15, 16, 20, 23, 24, 25, 26] fun c st' hr => ?_
   simp only [go_sem] at hr
   obtain ⟨rfl, rfl⟩ := hr
   refine ⟨vc, ?_⟩
   refine AWPL_nil ?_
   refine QB_normal ?_
   exact AWPB_wk [0, 1, 2] mkWk ((hAA _ _ _).1 hn24)
  ·skip
   refine AWPL_rn tab_ok 1 [6, 7, 10, 11, 14, 15, 16, 19, 20, 24, 25, 26] fun c st' hr => ?_
   simp only [go_sem] at hr
   obtain ⟨rfl, rfl⟩ := hr
   refine ⟨vc, ?_⟩
   refine AWPL_nil ?_
   refine QB_normal ?_
   exact AWPB_wk [0, 1, 2] mkWk ((hAA _ _ _).1 hn25))

theorem ceg_rotabig_Int_Mul_r_1_54 : (Region.noSelect reg_rotabig_Int_Mul_r_1.toArray && Region.free .any reg_rotabig_Int_Mul_r_1.toArray #[true, true, true, true, false, true, true, true, false, false, true, true, true, false, true, true, false, false, false, false, false] 16 && (Region.ready .any reg_rotabig_Int_Mul_r_1.toArray #[true, true, true, true, false, true, true, true, false, false, true, true, true, false, true, true, false, false, false, false, false]).contains 16) = true := by kernel_rfl

theorem J_rotabig_Int_Mul_r_1_hn27 {x_0 : Bool} {x_1 : List Int} {y_0 : Bool} {y_1 : List Int} {q0 : Bool × List Int} {y1 : List Int} {y2 : Bool × List Int} {pl0 : AX.Loc} (hy : rotabig_mul x_1 y_1 = some y1) (hy1 : rotabig_Int_give (decide (¬ (x_0 = true ↔ y_0 = true))) (q0.1, q0.2) y1 = some y2) {w0 : World} {Q : Exit → St → Prop} {AA : Nat → Array Bool → St → Prop} (hAA : ∀ g L st, AA g L st ↔ AWPB Try.prog w0 reg_rotabig_Int_Mul_r_1.toArray Q g L st) (hn26 : AA 8 #[true, true, true, true, false, true, true, true, false, false, true, true, true, false, true, true, true, false, false, false, false] ⟨27, [(7, .ptr 0 0 0), (10, .immp [.bool x_0, .ints .u32 x_1]), (14, .immp [.bool y_0, .ints .u32 y_1]), (19, .immp [.ints .u32 x_1]), (23, .immp [.ints .u32 y_1])], [some (.gen 31 2 [[.bool q0.1, .own 1 q0.2.length]]), some (.ints 186 .u32 q0.2), some (.pin 0 pl0)]⟩) : AA 9 #[true, true, true, true, false, true, true, true, false, false, true, true, true, false, true, true, false, false, false, false, false] ⟨27, [(7, .ptr 0 0 0), (10, .immp [.bool x_0, .ints .u32 x_1]), (14, .immp [.bool y_0, .ints .u32 y_1]), (19, .immp [.ints .u32 x_1]), (22, .immp [.bool y_0, .ints .u32 y_1])], [some (.gen 31 2 [[.bool q0.1, .own 1 q0.2.length]]), some (.ints 186 .u32 q0.2), some (.pin 0 pl0)]⟩ := (hAA _ _ _).2 (by
  refine AWPB_take2 tab_ok [6, 7, 10, 11, 14, 15, 16, 19, 20, 23, 24, 25, 26] 16 _ rfl rfl rfl ceg_rotabig_Int_Mul_r_1_54 fun c st' hr => ?_
  simp only [go_sem] at hr
  obtain ⟨rfl, rfl⟩ := hr
  refine ⟨vc, ?_⟩
  exact AWPB_wk [0, 1, 2] mkWk ((hAA _ _ _).1 hn26))

theorem ceg_rotabig_Int_Mul_r_1_56 : (Region.noSelect reg_rotabig_Int_Mul_r_1.toArray && Region.free .any reg_rotabig_Int_Mul_r_1.toArray #[true, true, true, true, false, true, true, true, false, false, true, true, true, false, true, false, false, false, false, false, false] 15 && (Region.ready .any reg_rotabig_Int_Mul_r_1.toArray #[true, true, true, true, false, true, true, true, false, false, true, true, true, false, true, false, false, false, false, false, false]).contains 15) = true := by kernel_rfl

theorem J_rotabig_Int_Mul_r_1_hn28 {x_0 : Bool} {x_1 : List Int} {y_0 : Bool} {y_1 : List Int} {q0 : Bool × List Int} {y1 : List Int} {y2 : Bool × List Int} {pl0 : AX.Loc} (hy : rotabig_mul x_1 y_1 = some y1) (hy1 : rotabig_Int_give (decide (¬ (x_0 = true ↔ y_0 = true))) (q0.1, q0.2) y1 = some y2) {w0 : World} {Q : Exit → St → Prop} {AA : Nat → Array Bool → St → Prop} (hAA : ∀ g L st, AA g L st ↔ AWPB Try.prog w0 reg_rotabig_Int_Mul_r_1.toArray Q g L st) (hn27 : AA 9 #[true, true, true, true, false, true, true, true, false, false, true, true, true, false, true, true, false, false, false, false, false] ⟨27, [(7, .ptr 0 0 0), (10, .immp [.bool x_0, .ints .u32 x_1]), (14, .immp [.bool y_0, .ints .u32 y_1]), (19, .immp [.ints .u32 x_1]), (22, .immp [.bool y_0, .ints .u32 y_1])], [some (.gen 31 2 [[.bool q0.1, .own 1 q0.2.length]]), some (.ints 186 .u32 q0.2), some (.pin 0 pl0)]⟩) : AA 10 #[true, true, true, true, false, true, true, true, false, false, true, true, true, false, true, false, false, false, false, false, false] ⟨27, [(7, .ptr 0 0 0), (10, .immp [.bool x_0, .ints .u32 x_1]), (14, .immp [.bool y_0, .ints .u32 y_1]), (19, .immp [.ints .u32 x_1]), (21, .immp [.bool y_0, .ints .u32 y_1])], [some (.gen 31 2 [[.bool q0.1, .own 1 q0.2.length]]), some (.ints 186 .u32 q0.2), some (.pin 0 pl0)]⟩ := (hAA _ _ _).2 (by
  refine AWPB_take2 tab_ok [6, 7, 10, 11, 14, 15, 16, 19, 20, 22, 23, 24, 25, 26] 15 _ rfl rfl rfl ceg_rotabig_Int_Mul_r_1_56 fun c st' hr => ?_
  simp only [go_sem] at hr
  obtain ⟨rfl, rfl⟩ := hr
  refine ⟨vc, ?_⟩
  exact AWPB_wk [0, 1, 2] mkWk ((hAA _ _ _).1 hn27))

theorem ceg_rotabig_Int_Mul_r_1_58 : (Region.noSelect reg_rotabig_Int_Mul_r_1.toArray && Region.free .any reg_rotabig_Int_Mul_r_1.toArray #[true, true, true, true, false, true, true, true, false, false, true, true, true, false, false, false, false, false, false, false, false] 14 && (Region.ready .any reg_rotabig_Int_Mul_r_1.toArray #[true, true, true, true, false, true, true, true, false, false, true, true, true, false, false, false, false, false, false, false, false]).contains 14) = true := by kernel_rfl

theorem J_rotabig_Int_Mul_r_1_hn29 {x_0 : Bool} {x_1 : List Int} {y_0 : Bool} {y_1 : List Int} {q0 : Bool × List Int} {y1 : List Int} {y2 : Bool × List Int} {pl0 : AX.Loc} (hy : rotabig_mul x_1 y_1 = some y1) (hy1 : rotabig_Int_give (decide (¬ (x_0 = true ↔ y_0 = true))) (q0.1, q0.2) y1 = some y2) {w0 : World} {Q : Exit → St → Prop} {AA : Nat → Array Bool → St → Prop} (hAA : ∀ g L st, AA g L st ↔ AWPB Try.prog w0 reg_rotabig_Int_Mul_r_1.toArray Q g L st) (hn28 : AA 10 #[true, true, true, true, false, true, true, true, false, false, true, true, true, false, true, false, false, false, false, false, false] ⟨27, [(7, .ptr 0 0 0), (10, .immp [.bool x_0, .ints .u32 x_1]), (14, .immp [.bool y_0, .ints .u32 y_1]), (19, .immp [.ints .u32 x_1]), (21, .immp [.bool y_0, .ints .u32 y_1])], [some (.gen 31 2 [[.bool q0.1, .own 1 q0.2.length]]), some (.ints 186 .u32 q0.2), some (.pin 0 pl0)]⟩) : AA 11 #[true, true, true, true, false, true, true, true, false, false, true, true, true, false, false, false, false, false, false, false, false] ⟨27, [(2, .immp [.bool y_0, .ints .u32 y_1]), (7, .ptr 0 0 0), (10, .immp [.bool x_0, .ints .u32 x_1]), (14, .immp [.bool y_0, .ints .u32 y_1]), (19, .immp [.ints .u32 x_1])], [some (.gen 31 2 [[.bool q0.1, .own 1 q0.2.length]]), some (.ints 186 .u32 q0.2), some (.pin 0 pl0)]⟩ := (hAA _ _ _).2 (by
  refine AWPB_take2 tab_ok [6, 7, 10, 11, 14, 15, 16, 19, 20, 21, 22, 23, 24, 25, 26] 14 _ rfl rfl rfl ceg_rotabig_Int_Mul_r_1_58 fun c st' hr => ?_
  simp only [go_sem] at hr
  obtain ⟨rfl, rfl⟩ := hr
  refine ⟨vc, ?_⟩
  exact AWPB_wk [0, 1, 2] mkWk ((hAA _ _ _).1 hn28))

theorem ceg_rotabig_Int_Mul_r_1_60 : (Region.noSelect reg_rotabig_Int_Mul_r_1.toArray && Region.free .any reg_rotabig_Int_Mul_r_1.toArray #[true, true, true, true, false, true, true, true, false, false, true, true, false, false, false, false, false, false, false, false, false] 12 && (Region.ready .any reg_rotabig_Int_Mul_r_1.toArray #[true, true, true, true, false, true, true, true, false, false, true, true, false, false, false, false, false, false, false, false, false]).contains 12) = true := by kernel_rfl

theorem J_rotabig_Int_Mul_r_1_hn30 {x_0 : Bool} {x_1 : List Int} {y_0 : Bool} {y_1 : List Int} {q0 : Bool × List Int} {y1 : List Int} {y2 : Bool × List Int} {pl0 : AX.Loc} (hy : rotabig_mul x_1 y_1 = some y1) (hy1 : rotabig_Int_give (decide (¬ (x_0 = true ↔ y_0 = true))) (q0.1, q0.2) y1 = some y2) {w0 : World} {Q : Exit → St → Prop} {AA : Nat → Array Bool → St → Prop} (hAA : ∀ g L st, AA g L st ↔ AWPB Try.prog w0 reg_rotabig_Int_Mul_r_1.toArray Q g L st) (hn29 : AA 11 #[true, true, true, true, false, true, true, true, false, false, true, true, true, false, false, false, false, false, false, false, false] ⟨27, [(2, .immp [.bool y_0, .ints .u32 y_1]), (7, .ptr 0 0 0), (10, .immp [.bool x_0, .ints .u32 x_1]), (14, .immp [.bool y_0, .ints .u32 y_1]), (19, .immp [.ints .u32 x_1])], [some (.gen 31 2 [[.bool q0.1, .own 1 q0.2.length]]), some (.ints 186 .u32 q0.2), some (.pin 0 pl0)]⟩) : AA 12 #[true, true, true, true, false, true, true, true, false, false, true, true, false, false, false, false, false, false, false, false, false] ⟨27, [(2, .immp [.bool y_0, .ints .u32 y_1]), (7, .ptr 0 0 0), (10, .immp [.bool x_0, .ints .u32 x_1]), (14, .immp [.bool y_0, .ints .u32 y_1]), (18, .immp [.bool x_0, .ints .u32 x_1])], [some (.gen 31 2 [[.bool q0.1, .own 1 q0.2.length]]), some (.ints 186 .u32 q0.2), some (.pin 0 pl0)]⟩ := (hAA _ _ _).2 (by
  refine AWPB_take2 tab_ok [2, 6, 7, 10, 11, 14, 15, 16, 19, 20, 21, 22, 23, 24, 25, 26] 12 _ rfl rfl rfl ceg_rotabig_Int_Mul_r_1_60 fun c st' hr => ?_
  simp only [go_sem] at hr
  obtain ⟨rfl, rfl⟩ := hr
  refine ⟨vc, ?_⟩
  exact AWPB_wk [0, 1, 2] mkWk ((hAA _ _ _).1 hn29))

theorem ceg_rotabig_Int_Mul_r_1_62 : (Region.noSelect reg_rotabig_Int_Mul_r_1.toArray && Region.free .any reg_rotabig_Int_Mul_r_1.toArray #[true, true, true, true, false, true, true, true, false, false, true, false, false, false, false, false, false, false, false, false, false] 11 && (Region.ready .any reg_rotabig_Int_Mul_r_1.toArray #[true, true, true, true, false, true, true, true, false, false, true, false, false, false, false, false, false, false, false, false, false]).contains 11) = true := by kernel_rfl

theorem J_rotabig_Int_Mul_r_1_hn31 {x_0 : Bool} {x_1 : List Int} {y_0 : Bool} {y_1 : List Int} {q0 : Bool × List Int} {y1 : List Int} {y2 : Bool × List Int} {pl0 : AX.Loc} (hy : rotabig_mul x_1 y_1 = some y1) (hy1 : rotabig_Int_give (decide (¬ (x_0 = true ↔ y_0 = true))) (q0.1, q0.2) y1 = some y2) {w0 : World} {Q : Exit → St → Prop} {AA : Nat → Array Bool → St → Prop} (hAA : ∀ g L st, AA g L st ↔ AWPB Try.prog w0 reg_rotabig_Int_Mul_r_1.toArray Q g L st) (hn30 : AA 12 #[true, true, true, true, false, true, true, true, false, false, true, true, false, false, false, false, false, false, false, false, false] ⟨27, [(2, .immp [.bool y_0, .ints .u32 y_1]), (7, .ptr 0 0 0), (10, .immp [.bool x_0, .ints .u32 x_1]), (14, .immp [.bool y_0, .ints .u32 y_1]), (18, .immp [.bool x_0, .ints .u32 x_1])], [some (.gen 31 2 [[.bool q0.1, .own 1 q0.2.length]]), some (.ints 186 .u32 q0.2), some (.pin 0 pl0)]⟩) : AA 13 #[true, true, true, true, false, true, true, true, false, false, true, false, false, false, false, false, false, false, false, false, false] ⟨27, [(2, .immp [.bool y_0, .ints .u32 y_1]), (7, .ptr 0 0 0), (10, .immp [.bool x_0, .ints .u32 x_1]), (14, .immp [.bool y_0, .ints .u32 y_1]), (17, .immp [.bool x_0, .ints .u32 x_1])], [some (.gen 31 2 [[.bool q0.1, .own 1 q0.2.length]]), some (.ints 186 .u32 q0.2), some (.pin 0 pl0)]⟩ := (hAA _ _ _).2 (by
  refine AWPB_take2 tab_ok [2, 6, 7, 10, 11, 14, 15, 16, 18, 19, 20, 21, 22, 23, 24, 25, 26] 11 _ rfl rfl rfl ceg_rotabig_Int_Mul_r_1_62 fun c st' hr => ?_
  simp only [go_sem] at hr
  obtain ⟨rfl, rfl⟩ := hr
  refine ⟨vc, ?_⟩
  exact AWPB_wk [0, 1, 2] mkWk ((hAA _ _ _).1 hn30))

theorem ceg_rotabig_Int_Mul_r_1_64 : (Region.noSelect reg_rotabig_Int_Mul_r_1.toArray && Region.free .any reg_rotabig_Int_Mul_r_1.toArray #[true, true, true, true, false, true, true, true, false, false, false, false, false, false, false, false, false, false, false, false, false] 10 && (Region.ready .any reg_rotabig_Int_Mul_r_1.toArray #[true, true, true, true, false, true, true, true, false, false, false, false, false, false, false, false, false, false, false, false, false]).contains 10) = true := by kernel_rfl

theorem J_rotabig_Int_Mul_r_1_hn32 {x_0 : Bool} {x_1 : List Int} {y_0 : Bool} {y_1 : List Int} {q0 : Bool × List Int} {y1 : List Int} {y2 : Bool × List Int} {pl0 : AX.Loc} (hy : rotabig_mul x_1 y_1 = some y1) (hy1 : rotabig_Int_give (decide (¬ (x_0 = true ↔ y_0 = true))) (q0.1, q0.2) y1 = some y2) {w0 : World} {Q : Exit → St → Prop} {AA : Nat → Array Bool → St → Prop} (hAA : ∀ g L st, AA g L st ↔ AWPB Try.prog w0 reg_rotabig_Int_Mul_r_1.toArray Q g L st) (hn31 : AA 13 #[true, true, true, true, false, true, true, true, false, false, true, false, false, false, false, false, false, false, false, false, false] ⟨27, [(2, .immp [.bool y_0, .ints .u32 y_1]), (7, .ptr 0 0 0), (10, .immp [.bool x_0, .ints .u32 x_1]), (14, .immp [.bool y_0, .ints .u32 y_1]), (17, .immp [.bool x_0, .ints .u32 x_1])], [some (.gen 31 2 [[.bool q0.1, .own 1 q0.2.length]]), some (.ints 186 .u32 q0.2), some (.pin 0 pl0)]⟩) : AA 14 #[true, true, true, true, false, true, true, true, false, false, false, false, false, false, false, false, false, false, false, false, false] ⟨27, [(1, .immp [.bool x_0, .ints .u32 x_1]), (2, .immp [.bool y_0, .ints .u32 y_1]), (7, .ptr 0 0 0), (10, .immp [.bool x_0, .ints .u32 x_1]), (14, .immp [.bool y_0, .ints .u32 y_1])], [some (.gen 31 2 [[.bool q0.1, .own 1 q0.2.length]]), some (.ints 186 .u32 q0.2), some (.pin 0 pl0)]⟩ := (hAA _ _ _).2 (by
  refine AWPB_take2 tab_ok [2, 6, 7, 10, 11, 14, 15, 16, 17, 18, 19, 20, 21, 22, 23, 24, 25, 26] 10 _ rfl rfl rfl ceg_rotabig_Int_Mul_r_1_64 fun c st' hr => ?_
  simp only [go_sem] at hr
  obtain ⟨rfl, rfl⟩ := hr
  refine ⟨vc, ?_⟩
  exact AWPB_wk [0, 1, 2] mkWk ((hAA _ _ _).1 hn31))

theorem ceg_rotabig_Int_Mul_r_1_66 : (Region.noSelect reg_rotabig_Int_Mul_r_1.toArray && Region.free .any reg_rotabig_Int_Mul_r_1.toArray #[true, true, true, true, false, true, true, false, false, false, false, false, false, false, false, false, false, false, false, false, false] 7 && (Region.ready .any reg_rotabig_Int_Mul_r_1.toArray #[true, true, true, true, false, true, true, false, false, false, false, false, false, false, false, false, false, false, false, false, false]).contains 7) = true := by kernel_rfl

theorem J_rotabig_Int_Mul_r_1_hn33 {x_0 : Bool} {x_1 : List Int} {y_0 : Bool} {y_1 : List Int} {q0 : Bool × List Int} {y1 : List Int} {y2 : Bool × List Int} {pl0 : AX.Loc} (hy : rotabig_mul x_1 y_1 = some y1) (hy1 : rotabig_Int_give (decide (¬ (x_0 = true ↔ y_0 = true))) (q0.1, q0.2) y1 = some y2) {w0 : World} {Q : Exit → St → Prop} {AA : Nat → Array Bool → St → Prop} (hAA : ∀ g L st, AA g L st ↔ AWPB Try.prog w0 reg_rotabig_Int_Mul_r_1.toArray Q g L st) (hn32 : AA 14 #[true, true, true, true, false, true, true, true, false, false, false, false, false, false, false, false, false, false, false, false, false] ⟨27, [(1, .immp [.bool x_0, .ints .u32 x_1]), (2, .immp [.bool y_0, .ints .u32 y_1]), (7, .ptr 0 0 0), (10, .immp [.bool x_0, .ints .u32 x_1]), (14, .immp [.bool y_0, .ints .u32 y_1])], [some (.gen 31 2 [[.bool q0.1, .own 1 q0.2.length]]), some (.ints 186 .u32 q0.2), some (.pin 0 pl0)]⟩) : AA 15 #[true, true, true, true, false, true, true, false, false, false, false, false, false, false, false, false, false, false, false, false, false] ⟨27, [(1, .immp [.bool x_0, .ints .u32 x_1]), (2, .immp [.bool y_0, .ints .u32 y_1]), (7, .ptr 0 0 0), (10, .immp [.bool x_0, .ints .u32 x_1]), (13, .immp [.bool y_0, .ints .u32 y_1])], [some (.gen 31 2 [[.bool q0.1, .own 1 q0.2.length]]), some (.ints 186 .u32 q0.2), some (.pin 0 pl0)]⟩ := (hAA _ _ _).2 (by
  refine AWPB_take2 tab_ok [1, 2, 6, 7, 10, 11, 14, 15, 16, 17, 18, 19, 20, 21, 22, 23, 24, 25, 26] 7 _ rfl rfl rfl ceg_rotabig_Int_Mul_r_1_66 fun c st' hr => ?_
  simp only [go_sem] at hr
  obtain ⟨rfl, rfl⟩ := hr
  refine ⟨vc, ?_⟩
  exact AWPB_wk [0, 1, 2] mkWk ((hAA _ _ _).1 hn32))

theorem ceg_rotabig_Int_Mul_r_1_68 : (Region.noSelect reg_rotabig_Int_Mul_r_1.toArray && Region.free .any reg_rotabig_Int_Mul_r_1.toArray #[true, true, true, true, false, true, false, false, false, false, false, false, false, false, false, false, false, false, false, false, false] 6 && (Region.ready .any reg_rotabig_Int_Mul_r_1.toArray #[true, true, true, true, false, true, false, false, false, false, false, false, false, false, false, false, false, false, false, false, false]).contains 6) = true := by kernel_rfl

theorem J_rotabig_Int_Mul_r_1_hn34 {x_0 : Bool} {x_1 : List Int} {y_0 : Bool} {y_1 : List Int} {q0 : Bool × List Int} {y1 : List Int} {y2 : Bool × List Int} {pl0 : AX.Loc} (hy : rotabig_mul x_1 y_1 = some y1) (hy1 : rotabig_Int_give (decide (¬ (x_0 = true ↔ y_0 = true))) (q0.1, q0.2) y1 = some y2) {w0 : World} {Q : Exit → St → Prop} {AA : Nat → Array Bool → St → Prop} (hAA : ∀ g L st, AA g L st ↔ AWPB Try.prog w0 reg_rotabig_Int_Mul_r_1.toArray Q g L st) (hn33 : AA 15 #[true, true, true, true, false, true, true, false, false, false, false, false, false, false, false, false, false, false, false, false, false] ⟨27, [(1, .immp [.bool x_0, .ints .u32 x_1]), (2, .immp [.bool y_0, .ints .u32 y_1]), (7, .ptr 0 0 0), (10, .immp [.bool x_0, .ints .u32 x_1]), (13, .immp [.bool y_0, .ints .u32 y_1])], [some (.gen 31 2 [[.bool q0.1, .own 1 q0.2.length]]), some (.ints 186 .u32 q0.2), some (.pin 0 pl0)]⟩) : AA 16 #[true, true, true, true, false, true, false, false, false, false, false, false, false, false, false, false, false, false, false, false, false] ⟨27, [(1, .immp [.bool x_0, .ints .u32 x_1]), (2, .immp [.bool y_0, .ints .u32 y_1]), (7, .ptr 0 0 0), (10, .immp [.bool x_0, .ints .u32 x_1]), (12, .immp [.bool y_0, .ints .u32 y_1])], [some (.gen 31 2 [[.bool q0.1, .own 1 q0.2.length]]), some (.ints 186 .u32 q0.2), some (.pin 0 pl0)]⟩ := (hAA _ _ _).2 (by
  refine AWPB_take2 tab_ok [1, 2, 6, 7, 10, 11, 13, 14, 15, 16, 17, 18, 19, 20, 21, 22, 23, 24, 25, 26] 6 _ rfl rfl rfl ceg_rotabig_Int_Mul_r_1_68 fun c st' hr => ?_
  simp only [go_sem] at hr
  obtain ⟨rfl, rfl⟩ := hr
  refine ⟨vc, ?_⟩
  exact AWPB_wk [0, 1, 2] mkWk ((hAA _ _ _).1 hn33))

theorem ceg_rotabig_Int_Mul_r_1_70 : (Region.noSelect reg_rotabig_Int_Mul_r_1.toArray && Region.free .any reg_rotabig_Int_Mul_r_1.toArray #[true, true, true, true, false, false, false, false, false, false, false, false, false, false, false, false, false, false, false, false, false] 5 && (Region.ready .any reg_rotabig_Int_Mul_r_1.toArray #[true, true, true, true, false, false, false, false, false, false, false, false, false, false, false, false, false, false, false, false, false]).contains 5) = true := by kernel_rfl

theorem J_rotabig_Int_Mul_r_1_hn35 {x_0 : Bool} {x_1 : List Int} {y_0 : Bool} {y_1 : List Int} {q0 : Bool × List Int} {y1 : List Int} {y2 : Bool × List Int} {pl0 : AX.Loc} (hy : rotabig_mul x_1 y_1 = some y1) (hy1 : rotabig_Int_give (decide (¬ (x_0 = true ↔ y_0 = true))) (q0.1, q0.2) y1 = some y2) {w0 : World} {Q : Exit → St → Prop} {AA : Nat → Array Bool → St → Prop} (hAA : ∀ g L st, AA g L st ↔ AWPB Try.prog w0 reg_rotabig_Int_Mul_r_1.toArray Q g L st) (hn34 : AA 16 #[true, true, true, true, false, true, false, false, false, false, false, false, false, false, false, false, false, false, false, false, false] ⟨27, [(1, .immp [.bool x_0, .ints .u32 x_1]), (2, .immp [.bool y_0, .ints .u32 y_1]), (7, .ptr 0 0 0), (10, .immp [.bool x_0, .ints .u32 x_1]), (12, .immp [.bool y_0, .ints .u32 y_1])], [some (.gen 31 2 [[.bool q0.1, .own 1 q0.2.length]]), some (.ints 186 .u32 q0.2), some (.pin 0 pl0)]⟩) : AA 17 #[true, true, true, true, false, false, false, false, false, false, false, false, false, false, false, false, false, false, false, false, false] ⟨27, [(1, .immp [.bool x_0, .ints .u32 x_1]), (2, .immp [.bool y_0, .ints .u32 y_1]), (7, .ptr 0 0 0), (10, .immp [.bool x_0, .ints .u32 x_1])], [some (.gen 31 2 [[.bool q0.1, .own 1 q0.2.length]]), some (.ints 186 .u32 q0.2), some (.pin 0 pl0)]⟩ := (hAA _ _ _).2 (by
  refine AWPB_take2 tab_ok [1, 2, 6, 7, 10, 11, 12, 13, 14, 15, 16, 17, 18, 19, 20, 21, 22, 23, 24, 25, 26] 5 _ rfl rfl rfl ceg_rotabig_Int_Mul_r_1_70 fun c st' hr => ?_
  simp only [go_sem] at hr
  obtain ⟨rfl, rfl⟩ := hr
  refine ⟨vc, ?_⟩
  exact AWPB_wk [0, 1, 2] mkWk ((hAA _ _ _).1 hn34))

theorem ceg_rotabig_Int_Mul_r_1_72 : (Region.noSelect reg_rotabig_Int_Mul_r_1.toArray && Region.free .any reg_rotabig_Int_Mul_r_1.toArray #[true, true, true, false, false, false, false, false, false, false, false, false, false, false, false, false, false, false, false, false, false] 3 && (Region.ready .any reg_rotabig_Int_Mul_r_1.toArray #[true, true, true, false, false, false, false, false, false, false, false, false, false, false, false, false, false, false, false, false, false]).contains 3) = true := by kernel_rfl

theorem J_rotabig_Int_Mul_r_1_hn36 {x_0 : Bool} {x_1 : List Int} {y_0 : Bool} {y_1 : List Int} {q0 : Bool × List Int} {y1 : List Int} {y2 : Bool × List Int} {pl0 : AX.Loc} (hy : rotabig_mul x_1 y_1 = some y1) (hy1 : rotabig_Int_give (decide (¬ (x_0 = true ↔ y_0 = true))) (q0.1, q0.2) y1 = some y2) {w0 : World} {Q : Exit → St → Prop} {AA : Nat → Array Bool → St → Prop} (hAA : ∀ g L st, AA g L st ↔ AWPB Try.prog w0 reg_rotabig_Int_Mul_r_1.toArray Q g L st) (hn35 : AA 17 #[true, true, true, true, false, false, false, false, false, false, false, false, false, false, false, false, false, false, false, false, false] ⟨27, [(1, .immp [.bool x_0, .ints .u32 x_1]), (2, .immp [.bool y_0, .ints .u32 y_1]), (7, .ptr 0 0 0), (10, .immp [.bool x_0, .ints .u32 x_1])], [some (.gen 31 2 [[.bool q0.1, .own 1 q0.2.length]]), some (.ints 186 .u32 q0.2), some (.pin 0 pl0)]⟩) : AA 18 #[true, true, true, false, false, false, false, false, false, false, false, false, false, false, false, false, false, false, false, false, false] ⟨27, [(1, .immp [.bool x_0, .ints .u32 x_1]), (2, .immp [.bool y_0, .ints .u32 y_1]), (7, .ptr 0 0 0), (9, .immp [.bool x_0, .ints .u32 x_1])], [some (.gen 31 2 [[.bool q0.1, .own 1 q0.2.length]]), some (.ints 186 .u32 q0.2), some (.pin 0 pl0)]⟩ := (hAA _ _ _).2 (by
  refine AWPB_take2 tab_ok [1, 2, 6, 7, 10, 11, 12, 13, 14, 15, 16, 17, 18, 19, 20, 21, 22, 23, 24, 25, 26] 3 _ rfl rfl rfl ceg_rotabig_Int_Mul_r_1_72 fun c st' hr => ?_
  simp only [go_sem] at hr
  obtain ⟨rfl, rfl⟩ := hr
  refine ⟨vc, ?_⟩
  exact AWPB_wk [0, 1, 2] mkWk ((hAA _ _ _).1 hn35))

theorem ceg_rotabig_Int_Mul_r_1_74 : (Region.noSelect reg_rotabig_Int_Mul_r_1.toArray && Region.free .any reg_rotabig_Int_Mul_r_1.toArray #[true, true, false, false, false, false, false, false, false, false, false, false, false, false, false, false, false, false, false, false, false] 2 && (Region.ready .any reg_rotabig_Int_Mul_r_1.toArray #[true, true, false, false, false, false, false, false, false, false, false, false, false, false, false, false, false, false, false, false, false]).contains 2) = true := by kernel_rfl

theorem J_rotabig_Int_Mul_r_1_hn37 {x_0 : Bool} {x_1 : List Int} {y_0 : Bool} {y_1 : List Int} {q0 : Bool × List Int} {y1 : List Int} {y2 : Bool × List Int} {pl0 : AX.Loc} (hy : rotabig_mul x_1 y_1 = some y1) (hy1 : rotabig_Int_give (decide (¬ (x_0 = true ↔ y_0 = true))) (q0.1, q0.2) y1 = some y2) {w0 : World} {Q : Exit → St → Prop} {AA : Nat → Array Bool → St → Prop} (hAA : ∀ g L st, AA g L st ↔ AWPB Try.prog w0 reg_rotabig_Int_Mul_r_1.toArray Q g L st) (hn36 : AA 18 #[true, true, true, false, false, false, false, false, false, false, false, false, false, false, false, false, false, false, false, false, false] ⟨27, [(1, .immp [.bool x_0, .ints .u32 x_1]), (2, .immp [.bool y_0, .ints .u32 y_1]), (7, .ptr 0 0 0), (9, .immp [.bool x_0, .ints .u32 x_1])], [some (.gen 31 2 [[.bool q0.1, .own 1 q0.2.length]]), some (.ints 186 .u32 q0.2), some (.pin 0 pl0)]⟩) : AA 19 #[true, true, false, false, false, false, false, false, false, false, false, false, false, false, false, false, false, false, false, false, false] ⟨27, [(1, .immp [.bool x_0, .ints .u32 x_1]), (2, .immp [.bool y_0, .ints .u32 y_1]), (7, .ptr 0 0 0), (8, .immp [.bool x_0, .ints .u32 x_1])], [some (.gen 31 2 [[.bool q0.1, .own 1 q0.2.length]]), some (.ints 186 .u32 q0.2), some (.pin 0 pl0)]⟩ := (hAA _ _ _).2 (by
  refine AWPB_take2 tab_ok [1, 2, 6, 7, 9, 10, 11, 12, 13, 14, 15, 16, 17, 18, 19, 20, 21, 22, 23, 24, 25, 26] 2 _ rfl rfl rfl ceg_rotabig_Int_Mul_r_1_74 fun c st' hr => ?_
  simp only [go_sem] at hr
  obtain ⟨rfl, rfl⟩ := hr
  refine ⟨vc, ?_⟩
  exact AWPB_wk [0, 1, 2] mkWk ((hAA _ _ _).1 hn36))

theorem ceg_rotabig_Int_Mul_r_1_76 : (Region.noSelect reg_rotabig_Int_Mul_r_1.toArray && Region.free .any reg_rotabig_Int_Mul_r_1.toArray #[true, false, false, false, false, false, false, false, false, false, false, false, false, false, false, false, false, false, false, false, false] 1 && (Region.ready .any reg_rotabig_Int_Mul_r_1.toArray #[true, false, false, false, false, false, false, false, false, false, false, false, false, false, false, false, false, false, false, false, false]).contains 1) = true := by kernel_rfl

theorem J_rotabig_Int_Mul_r_1_hn38 {x_0 : Bool} {x_1 : List Int} {y_0 : Bool} {y_1 : List Int} {q0 : Bool × List Int} {y1 : List Int} {y2 : Bool × List Int} {pl0 : AX.Loc} (hy : rotabig_mul x_1 y_1 = some y1) (hy1 : rotabig_Int_give (decide (¬ (x_0 = true ↔ y_0 = true))) (q0.1, q0.2) y1 = some y2) {w0 : World} {Q : Exit → St → Prop} {AA : Nat → Array Bool → St → Prop} (hAA : ∀ g L st, AA g L st ↔ AWPB Try.prog w0 reg_rotabig_Int_Mul_r_1.toArray Q g L st) (hn37 : AA 19 #[true, true, false, false, false, false, false, false, false, false, false, false, false, false, false, false, false, false, false, false, false] ⟨27, [(1, .immp [.bool x_0, .ints .u32 x_1]), (2, .immp [.bool y_0, .ints .u32 y_1]), (7, .ptr 0 0 0), (8, .immp [.bool x_0, .ints .u32 x_1])], [some (.gen 31 2 [[.bool q0.1, .own 1 q0.2.length]]), some (.ints 186 .u32 q0.2), some (.pin 0 pl0)]⟩) : AA 20 #[true, false, false, false, false, false, false, false, false, false, false, false, false, false, false, false, false, false, false, false, false] ⟨27, [(1, .immp [.bool x_0, .ints .u32 x_1]), (2, .immp [.bool y_0, .ints .u32 y_1]), (7, .ptr 0 0 0)], [some (.gen 31 2 [[.bool q0.1, .own 1 q0.2.length]]), some (.ints 186 .u32 q0.2), some (.pin 0 pl0)]⟩ := (hAA _ _ _).2 (by
  refine AWPB_take2 tab_ok [1, 2, 6, 7, 8, 9, 10, 11, 12, 13, 14, 15, 16, 17, 18, 19, 20, 21, 22, 23, 24, 25, 26] 1 _ rfl rfl rfl ceg_rotabig_Int_Mul_r_1_76 fun c st' hr => ?_
  simp only [go_sem] at hr
  obtain ⟨rfl, rfl⟩ := hr
  refine ⟨vc, ?_⟩
  exact AWPB_wk [0, 1, 2] mkWk ((hAA _ _ _).1 hn37))

theorem ceg_rotabig_Int_Mul_r_1_78 : (Region.noSelect reg_rotabig_Int_Mul_r_1.toArray && Region.free .any reg_rotabig_Int_Mul_r_1.toArray #[false, false, false, false, false, false, false, false, false, false, false, false, false, false, false, false, false, false, false, false, false] 0 && (Region.ready .any reg_rotabig_Int_Mul_r_1.toArray #[false, false, false, false, false, false, false, false, false, false, false, false, false, false, false, false, false, false, false, false, false]).contains 0) = true := by kernel_rfl

theorem J_rotabig_Int_Mul_r_1_hn39 {x_0 : Bool} {x_1 : List Int} {y_0 : Bool} {y_1 : List Int} {q0 : Bool × List Int} {y1 : List Int} {y2 : Bool × List Int} {pl0 : AX.Loc} (hy : rotabig_mul x_1 y_1 = some y1) (hy1 : rotabig_Int_give (decide (¬ (x_0 = true ↔ y_0 = true))) (q0.1, q0.2) y1 = some y2) {w0 : World} {Q : Exit → St → Prop} {AA : Nat → Array Bool → St → Prop} (hAA : ∀ g L st, AA g L st ↔ AWPB Try.prog w0 reg_rotabig_Int_Mul_r_1.toArray Q g L st) (hn38 : AA 20 #[true, false, false, false, false, false, false, false, false, false, false, false, false, false, false, false, false, false, false, false, false] ⟨27, [(1, .immp [.bool x_0, .ints .u32 x_1]), (2, .immp [.bool y_0, .ints .u32 y_1]), (7, .ptr 0 0 0)], [some (.gen 31 2 [[.bool q0.1, .own 1 q0.2.length]]), some (.ints 186 .u32 q0.2), some (.pin 0 pl0)]⟩) : AA 21 #[false, false, false, false, false, false, false, false, false, false, false, false, false, false, false, false, false, false, false, false, false] ⟨27, [(0, .ptr 0 0 0), (1, .immp [.bool x_0, .ints .u32 x_1]), (2, .immp [.bool y_0, .ints .u32 y_1])], [some (.gen 31 2 [[.bool q0.1, .own 1 q0.2.length]]), some (.ints 186 .u32 q0.2), some (.pin 0 pl0)]⟩ := (hAA _ _ _).2 (by
  refine AWPB_take2 tab_ok [1, 2, 6, 7, 8, 9, 10, 11, 12, 13, 14, 15, 16, 17, 18, 19, 20, 21, 22, 23, 24, 25, 26] 0 _ rfl rfl rfl ceg_rotabig_Int_Mul_r_1_78 fun c st' hr => ?_
  simp only [go_sem] at hr
  obtain ⟨rfl, rfl⟩ := hr
  refine ⟨vc, ?_⟩
  exact AWPB_wk [0, 1, 2] mkWk ((hAA _ _ _).1 hn38))


theorem W_rotabig_Int_Mul_r {x_0 : Bool} {x_1 : List Int} {y_0 : Bool} {y_1 : List Int} {q0 : Bool × List Int} {r : Bool × List Int} (hK : rotabig_Int_Mul_r x_0 x_1 y_0 y_1 q0 = some r) : InG Try.prog 65 [(.gen 31 2 [[.bool q0.1, .own 1 q0.2.length]]), (.ints 186 .u32 q0.2)] 1 (fun _ => [.ptr 0 0 0, .immp [.bool x_0, .ints .u32 x_1], .immp [.bool y_0, .ints .u32 y_1]]) (.ptr 0 0 0) [(.gen 31 2 [[.bool r.1, .own 1 r.2.length]]), (.ints 186 .u32 r.2)] := by
  refine InG_intro tab_ok (n := 27) (l := [.tmp 6]) Try.func65 rfl rfl rfl (fun ls => by first | (split <;> simp) | simp) (of_decide_eq_true rfl) (of_decide_eq_true rfl) rfl rfl rfl (by simp [renB, ren0, renI, List.range, List.range.loop]) (of_decide_eq_true rfl) (of_decide_eq_true rfl) fun w0 ls hls => ?_
  obtain ⟨pl0, rfl⟩ : ∃ pl0, ls = [pl0] := by
    match ls, hls with
    | [a], _ => exact ⟨a, rfl⟩
  simp only [pinL, List.map_cons, List.map_nil, List.cons_append, List.nil_append, Nat.zero_add, Nat.reduceAdd]
  unfold rotabig_Int_Mul_r at hK
  refine AWP_seq ?_
  refine AWP_rg tab_ok [0, 1, 2] fun c st' hr => ?_
  simp only [go_sem] at hr
  obtain ⟨rfl, rfl⟩ := hr
  refine ⟨vc, ?_⟩
  with_reducible refine thenC_normal ?_
  refine AWP_seq ?_
  replace hK := bind_s hK
  obtain ⟨y1, hy, hK⟩ := hK
  replace hK := bind_s hK
  obtain ⟨y2, hy1, hK⟩ := hK
  refine AWP_drawJ ⟨27, [(6, .ptr 0 0 0)], [some (.gen 31 2 [[.bool y2.1, .own 4 y2.2.length]]), none, some (.pin 0 pl0), none, some (.ints 186 .u32 y2.2)]⟩ mixed ?_ ?_
  ·change AWPB _ _ reg_rotabig_Int_Mul_r_1.toArray _ _ _ _
   refine AWPB_memo fun AA hAA => ?_
   have hn : AA 0 #[true, true, true, true, true, true, true, true, true, true, true, true, true, true, true, true, true, true, true, true, true] ⟨27, [(6, .ptr 0 0 0)], [some (.gen 31 2 [[.bool y2.1, .own 4 y2.2.length]]), none, some (.pin 0 pl0), none, some (.ints 186 .u32 y2.2)]⟩ := (hAA _ _ _).2 (by
    exact AWPB_end [0, 1, 2, 3, 4] ceg_rotabig_Int_Mul_r_1_4 mkWk)
   have hn1 := J_rotabig_Int_Mul_r_1_hn1 hy hy1 hAA hn
   have hn2 := J_rotabig_Int_Mul_r_1_hn2 hy hy1 hAA hn1
   have hn3 := J_rotabig_Int_Mul_r_1_hn3 hy hy1 hAA hn2
   have hn4 := J_rotabig_Int_Mul_r_1_hn4 hy hy1 hAA hn3
   have hn5 := J_rotabig_Int_Mul_r_1_hn5 hy hy1 hAA hn3
   have hn6 := J_rotabig_Int_Mul_r_1_hn6 hy hy1 hAA hn2
   have hn7 := J_rotabig_Int_Mul_r_1_hn7 hy hy1 hAA hn3 hn6
   have hn8 := J_rotabig_Int_Mul_r_1_hn8 hy hy1 hAA hn5 hn7
   have hn9 := J_rotabig_Int_Mul_r_1_hn9 hy hy1 hAA hn3
   have hn10 := J_rotabig_Int_Mul_r_1_hn10 hy hy1 hAA hn9 hn7
   have hn11 := J_rotabig_Int_Mul_r_1_hn11 hy hy1 hAA hn4 hn8 hn10
   have hn12 := J_rotabig_Int_Mul_r_1_hn12 hy hy1 hAA hn6
   have hn13 := J_rotabig_Int_Mul_r_1_hn13 hy hy1 hAA hn7 hn12
   have hn14 := J_rotabig_Int_Mul_r_1_hn14 hy hy1 hAA hn8 hn13
   have hn15 := J_rotabig_Int_Mul_r_1_hn15 hy hy1 hAA hn10 hn13
   have hn16 := J_rotabig_Int_Mul_r_1_hn16 hy hy1 hAA hn11 hn14 hn15
   have hn17 := J_rotabig_Int_Mul_r_1_hn17 hy hy1 hAA hn6
   have hn18 := J_rotabig_Int_Mul_r_1_hn18 hy hy1 hAA hn7 hn17
   have hn19 := J_rotabig_Int_Mul_r_1_hn19 hy hy1 hAA hn8 hn18
   have hn20 := J_rotabig_Int_Mul_r_1_hn20 hy hy1 hAA hn10 hn18
   have hn21 := J_rotabig_Int_Mul_r_1_hn21 hy hy1 hAA hn11 hn19 hn20
   have hn22 := J_rotabig_Int_Mul_r_1_hn22 hy hy1 hAA hn12
   have hn23 := J_rotabig_Int_Mul_r_1_hn23 hy hy1 hAA hn13 hn18 hn22
   have hn24 := J_rotabig_Int_Mul_r_1_hn24 hy hy1 hAA hn14 hn19 hn23
   have hn25 := J_rotabig_Int_Mul_r_1_hn25 hy hy1 hAA hn15 hn20 hn23
   have hn26 := J_rotabig_Int_Mul_r_1_hn26 hy hy1 hAA hn16 hn21 hn24 hn25
   have hn27 := J_rotabig_Int_Mul_r_1_hn27 hy hy1 hAA hn26
   have hn28 := J_rotabig_Int_Mul_r_1_hn28 hy hy1 hAA hn27
   have hn29 := J_rotabig_Int_Mul_r_1_hn29 hy hy1 hAA hn28
   have hn30 := J_rotabig_Int_Mul_r_1_hn30 hy hy1 hAA hn29
   have hn31 := J_rotabig_Int_Mul_r_1_hn31 hy hy1 hAA hn30
   have hn32 := J_rotabig_Int_Mul_r_1_hn32 hy hy1 hAA hn31
   have hn33 := J_rotabig_Int_Mul_r_1_hn33 hy hy1 hAA hn32
   have hn34 := J_rotabig_Int_Mul_r_1_hn34 hy hy1 hAA hn33
   have hn35 := J_rotabig_Int_Mul_r_1_hn35 hy hy1 hAA hn34
   have hn36 := J_rotabig_Int_Mul_r_1_hn36 hy hy1 hAA hn35
   have hn37 := J_rotabig_Int_Mul_r_1_hn37 hy hy1 hAA hn36
   have hn38 := J_rotabig_Int_Mul_r_1_hn38 hy hy1 hAA hn37
   have hn39 := J_rotabig_Int_Mul_r_1_hn39 hy hy1 hAA hn38
   exact (hAA _ _ _).2 (AWPB_wk [0, 1, 2] mkWk ((hAA _ _ _).1 hn39))
  with_reducible refine thenC_normal ?_
  refine AWP_ret ?_
  cases hK
  refine EndsRW [0, 4, 2] (.inl rfl) (of_decide_eq_true rfl) (by simp) rfl (fun c x hr => ?_) endH
  simp only [go_sem] at hr
  obtain ⟨rfl, rfl⟩ := hr
  exact ⟨rfl, endR⟩


theorem W_rotabig_Rat_den_A {q0 : (Bool × List Int) × (Bool × List Int)} {r : (Bool × List Int) × ((Bool × List Int) × (Bool × List Int))} (hK : rotabig_Rat_den_A q0 = some r) : InG Try.prog 66 [(.gen 33 4 [[.bool q0.1.1, .own 1 q0.1.2.length, .bool q0.2.1, .own 2 q0.2.2.length]]), (.ints 186 .u32 q0.1.2), (.ints 186 .u32 q0.2.2)] 1 (fun _ => [.ptr 0 0 0]) (.ptr 3 0 0) [(.gen 33 4 [[.bool r.2.1.1, .own 1 r.2.1.2.length, .bool r.2.2.1, .own 2 r.2.2.2.length]]), (.ints 186 .u32 r.2.1.2), (.ints 186 .u32 r.2.2.2), (.gen 31 2 [[.bool r.1.1, .own 4 r.1.2.length]]), (.ints 186 .u32 r.1.2)] := by
  refine InG_intro tab_ok (n := 14) (l := [.tmp 2]) Try.func66 rfl rfl rfl (fun ls => by first | (split <;> simp) | simp) (of_decide_eq_true rfl) (of_decide_eq_true rfl) rfl rfl rfl (by simp [renB, ren0, renI, List.range, List.range.loop]) (of_decide_eq_true rfl) (of_decide_eq_true rfl) fun w0 ls hls => ?_
  obtain ⟨pl0, rfl⟩ : ∃ pl0, ls = [pl0] := by
    match ls, hls with
    | [a], _ => exact ⟨a, rfl⟩
  simp only [pinL, List.map_cons, List.map_nil, List.cons_append, List.nil_append, Nat.zero_add, Nat.reduceAdd]
  unfold rotabig_Rat_den_A at hK
  refine AWP_seq ?_
  refine AWP_rg tab_ok [0] fun c st' hr => ?_
  simp only [go_sem] at hr
  obtain ⟨rfl, rfl⟩ := hr
  refine ⟨vc, ?_⟩
  with_reducible refine thenC_normal ?_
  refine AWP_seq ?_
  refine AWP_seq ?_
  refine AWP_rg tab_ok [0, 9] fun c st' hr => ?_
  simp only [go_sem] at hr
  obtain ⟨rfl, rfl⟩ := hr
  refine ⟨vc, ?_⟩
  with_reducible refine thenC_normal ?_
  refine AWP_condP ((q0.2.2.length : Int) = 0) rfl bd (fun hb => ?_) (fun hb => ?_)
  ·replace hK := ite_t hK hb
   refine AWP_seq ?_
   refine AWP_rl ?_
   replace hK := bind_s hK
   obtain ⟨y, hy, hK⟩ := hK
   refine AWPL_callK [10] (W_rotabig_NewInt hy) rfl rfl pcT rfl Try.call68 (.cons (.atom _ rfl) .nil) (hscG trivial) (of_decide_eq_true rfl) (by first | rfl | simp [nI, nI1, nI0]) (by first | rfl | simp [nIB, nI0]) fun st' hr => ?_
   simp only [go_sem] at hr
   subst hr
   clear hy
   refine AWPL_rn tab_ok 1 [2] fun c st' hr => ?_
   simp only [go_sem] at hr
   obtain ⟨rfl, rfl⟩ := hr
   refine ⟨vc, ?_⟩
   refine AWPL_nil ?_
   with_reducible refine thenC_normal ?_
   refine AWP_ret ?_
   with_reducible refine thenC_ret ?_
   cases hK
   refine EndsRW [0, 1, 2, 4, 5, 3] (.inl rfl) (of_decide_eq_true rfl) (by simp) rfl (fun c x hr => ?_) endH
   simp only [go_sem] at hr
   obtain ⟨rfl, rfl⟩ := hr
   exact ⟨rfl, endR⟩
  ·replace hK := ite_f hK hb
   refine AWP_skip ?_
   with_reducible refine thenC_normal ?_
   refine AWP_seq ?_
   cases hK


theorem W_rotabig_add {a : List Int} {b : List Int} {r : List Int} (hK : rotabig_add a b = some r) : Pure Try.prog 165 [.ints .u32 a, .ints .u32 b] (.own 0 r.length) [(.ints 186 .u32 r)] := by
  refine Pure_introF tab_ok (n := 58) (l := [.tmp 4]) Try.func165 rfl rfl rfl (by simp) fun hfact w0 => ?_
  simp only [factL1, fact1, fact0, factL0, lo, hi, maxLen, and_true] at hfact
  unfold rotabig_add at hK
  refine AWP_seq ?_
  refine AWP_rg tab_ok [0, 1] fun c st' hr => ?_
  simp only [go_sem] at hr
  obtain ⟨rfl, rfl⟩ := hr
  refine ⟨vc, ?_⟩
  with_reducible refine thenC_normal ?_
  refine AWP_seqJ (fun (a1, b1) => ⟨58, [(0, .ints .u32 a1), (1, .ints .u32 b1)], []⟩) hK ?_ ?_
  ·clear hK; intro j hK; try dsimp only at hK
   refine AWP_seq ?_
   refine AWP_rg tab_ok [0, 1, 12] fun c st' hr => ?_
   simp only [go_sem] at hr
   obtain ⟨rfl, rfl⟩ := hr
   refine ⟨vc, ?_⟩
   with_reducible refine thenC_normal ?_
   refine AWP_condP ((a.length : Int) < (b.length : Int)) rfl bd (fun hb => ?_) (fun hb => ?_)
   ·replace hK := ite_t hK hb
    refine AWP_rg tab_ok [0, 1] fun c st' hr => ?_
    simp only [go_sem] at hr
    obtain ⟨rfl, rfl⟩ := hr
    refine ⟨vc, ?_⟩
    refine join_n (b, a) [] hK mkWk
   ·replace hK := ite_f hK hb
    refine AWP_skip ?_
    refine join_n (a, b) [] hK mkWk
  ·clear hK; intro q hK; obtain ⟨a1, b1⟩ := q
   try dsimp only at hK
   change AWP _ _ _ _ ⟨58, [(0, .ints .u32 a1), (1, .ints .u32 b1)], []⟩
   refine AWP_seq ?_
   replace hK := chk_some hK
   obtain ⟨h, hK⟩ := hK
   refine AWP_rg tab_ok [0, 1, 5] fun c st' hr => ?_
   simp only [go_sem] at hr
   obtain ⟨rfl, rfl⟩ := hr
   refine ⟨(by simp only [Bool.and_eq_true, decide_eq_true_eq]; clear hK; omega), ?_⟩
   with_reducible refine thenC_normal ?_
   refine AWP_seq ?_
   refine AWP_rg tab_ok [0, 1, 5, 6] fun c st' hr => ?_
   simp only [go_sem] at hr
   obtain ⟨rfl, rfl⟩ := hr
   refine ⟨vc, ?_⟩
   with_reducible refine thenC_normal ?_
   refine AWP_seq ?_
   refine AWP_seq ?_
   refine AWP_rg tab_ok [0, 1, 5, 6, 7] fun c st' hr => ?_
   simp only [go_sem] at hr
   obtain ⟨rfl, rfl⟩ := hr
   refine ⟨vc, ?_⟩
   with_reducible refine thenC_normal ?_
   refine AWP_block ?_
   refine AWP_loopX 0 (fun ((r1, c, i) : List Int × Int × Int) => ⟨58, [(0, .ints .u32 a1), (1, .ints .u32 b1), (5, .own 0 r1.length), (6, .int .u64 c), (7, .int .i64 i)], [some (.ints 186 .u32 r1)]⟩) (fun ((r2, c1) : List Int × Int) => ⟨58, [(0, .ints .u32 a1), (5, .own 0 r2.length), (6, .int .u64 c1)], [some (.ints 186 .u32 r2)]⟩) (fun v => v) (List.replicate ((a1.length : Int) + 1).toNat 0, 0, 0) [0] hK mkWk ?_ ?_
   ·clear hK; rintro ⟨r1, c, i⟩ b2 hK hpost1
    try dsimp only at hK
    change AWP _ _ _ _ ⟨58, [(0, .ints .u32 a1), (1, .ints .u32 b1), (5, .own 0 r1.length), (6, .int .u64 c), (7, .int .i64 i)], [some (.ints 186 .u32 r1)]⟩
    refine AWP_seq ?_
    refine AWP_seq ?_
    refine AWP_rg tab_ok [0, 1, 5, 6, 7, 22] fun c st' hr => ?_
    simp only [go_sem] at hr
    obtain ⟨rfl, rfl⟩ := hr
    refine ⟨vc, ?_⟩
    with_reducible refine thenC_normal ?_
    refine AWP_condP (i < (a1.length : Int)) rfl bd (fun hb1 => ?_) (fun hb1 => ?_)
    ·replace hK := ite_t hK hb1
     refine AWP_skip ?_
     with_reducible refine thenC_normal ?_
     refine AWP_seq ?_
     refine AWP_block ?_
     refine AWP_seq ?_
     replace hK := chk_some hK
     obtain ⟨h1, hK⟩ := hK
     refine AWP_rg tab_ok [0, 1, 5, 6, 7] fun c st' hr => ?_
     simp only [go_sem] at hr
     obtain ⟨rfl, rfl⟩ := hr
     refine ⟨vc, ?_⟩
     with_reducible refine thenC_normal ?_
     refine AWP_seq ?_
     refine AWP_seq ?_
     refine AWP_rg tab_ok [0, 1, 5, 6, 7, 35] fun c st' hr => ?_
     simp only [go_sem] at hr
     obtain ⟨rfl, rfl⟩ := hr
     refine ⟨vc, ?_⟩
     with_reducible refine thenC_normal ?_
     refine AWP_condP (i < (b1.length : Int)) rfl bd (fun hb2 => ?_) (fun hb2 => ?_)
     ·replace hK := ite_t hK hb2
      replace hK := chk_some hK
      obtain ⟨h2, hK⟩ := hK
      refine AWP_rg tab_ok [0, 1, 5, 6, 7] fun c st' hr => ?_
      simp only [go_sem] at hr
      obtain ⟨rfl, rfl⟩ := hr
      refine ⟨vc, ?_⟩
      with_reducible refine thenC_normal ?_
      refine AWP_seq ?_
      refine AWP_rl ?_
      refine AWPL_rn tab_ok 3 [0, 1, 5, 6, 7, 43, 44, 45] fun c st' hr => ?_
      simp only [go_sem] at hr
      obtain ⟨rfl, rfl⟩ := hr
      refine ⟨vc, ?_⟩
      refine AWPL_wconv tab_ok [0, 1, 5, 6, 7, 43, 44, 46] rfl rfl pcT (of_decide_eq_true rfl) rfl rfl rfl fun st' hr => ?_
      simp only [go_sem] at hr
      subst hr
      replace hK := chk_some hK
      obtain ⟨h3, hK⟩ := hK
      refine AWPL_rn tab_ok 2 [0, 1, 5, 6, 7] fun c st' hr => ?_
      simp only [go_sem] at hr
      obtain ⟨rfl, rfl⟩ := hr
      refine ⟨vc, ?_⟩
      refine AWPL_nil ?_
      with_reducible refine thenC_normal ?_
      refine AWP_rg tab_ok [0, 1, 5, 6, 7] fun c st' hr => ?_
      simp only [go_sem] at hr
      obtain ⟨rfl, rfl⟩ := hr
      refine ⟨vc, ?_⟩
      with_reducible refine inBlockA_normal (thenC_normal ?_)
      refine AWP_facts (by simp) fun hfx => ?_
      simp only [factS, factV, fact1, fact0, factL0, lo, hi, maxLen, and_true, true_and] at hfx
      refine AWP_rg tab_ok [0, 1, 5, 6, 7] fun c st' hr => ?_
      simp only [go_sem] at hr
      obtain ⟨rfl, rfl⟩ := hr
      refine ⟨vc, ?_⟩
      clear hfx
      refine again_n (r1.set i.toNat (IntKind.wrap .u32 ((c + (a1.getD i.toNat 0)) + (b1.getD i.toNat 0))), ((c + (a1.getD i.toNat 0)) + (b1.getD i.toNat 0)) / 2 ^ 32, i + 1) [0] hK mkWk
     ·replace hK := ite_f hK hb2
      refine AWP_skip ?_
      with_reducible refine thenC_normal ?_
      refine AWP_seq ?_
      refine AWP_rl ?_
      refine AWPL_rn tab_ok 3 [0, 1, 5, 6, 7, 43, 44, 45] fun c st' hr => ?_
      simp only [go_sem] at hr
      obtain ⟨rfl, rfl⟩ := hr
      refine ⟨vc, ?_⟩
      refine AWPL_wconv tab_ok [0, 1, 5, 6, 7, 43, 44, 46] rfl rfl pcT (of_decide_eq_true rfl) rfl rfl rfl fun st' hr => ?_
      simp only [go_sem] at hr
      subst hr
      replace hK := chk_some hK
      obtain ⟨h4, hK⟩ := hK
      refine AWPL_rn tab_ok 2 [0, 1, 5, 6, 7] fun c st' hr => ?_
      simp only [go_sem] at hr
      obtain ⟨rfl, rfl⟩ := hr
      refine ⟨vc, ?_⟩
      refine AWPL_nil ?_
      with_reducible refine thenC_normal ?_
      refine AWP_rg tab_ok [0, 1, 5, 6, 7] fun c st' hr => ?_
      simp only [go_sem] at hr
      obtain ⟨rfl, rfl⟩ := hr
      refine ⟨vc, ?_⟩
      with_reducible refine inBlockA_normal (thenC_normal ?_)
      refine AWP_facts (by simp) fun hfx => ?_
      simp only [factS, factV, fact1, fact0, factL0, lo, hi, maxLen, and_true, true_and] at hfx
      refine AWP_rg tab_ok [0, 1, 5, 6, 7] fun c st' hr => ?_
      simp only [go_sem] at hr
      obtain ⟨rfl, rfl⟩ := hr
      refine ⟨vc, ?_⟩
      clear hfx
      refine again_n (r1.set i.toNat (IntKind.wrap .u32 (c + (a1.getD i.toNat 0))), (c + (a1.getD i.toNat 0)) / 2 ^ 32, i + 1) [0] hK mkWk
    ·replace hK := ite_f hK hb1
     refine AWP_exit ?_
     with_reducible refine thenC_exit (again_x ?_)
     refine cutX_here (r1, c) [0] (by have hq := hpost1 _ hK; exact hq) mkWk
   ·clear hK; rintro ⟨r2, c1⟩ hK
    try dsimp only at hK
    refine exS ⟨58, [(0, .ints .u32 a1), (5, .own 0 r2.length), (6, .int .u64 c1)], [some (.ints 186 .u32 r2)]⟩ rfl ?_
    with_reducible refine inBlockA_exit (thenC_normal ?_)
    refine AWP_seq ?_
    refine AWP_rl ?_
    refine AWPL_rn tab_ok 4 [5, 50, 52, 53] fun c st' hr => ?_
    simp only [go_sem] at hr
    obtain ⟨rfl, rfl⟩ := hr
    refine ⟨vc, ?_⟩
    refine AWPL_wconv tab_ok [5, 50, 52, 54] rfl rfl pcT (of_decide_eq_true rfl) rfl rfl rfl fun st' hr => ?_
    simp only [go_sem] at hr
    subst hr
    replace hK := chk_some hK
    obtain ⟨h5, hK⟩ := hK
    refine AWPL_rn tab_ok 2 [5] fun c st' hr => ?_
    simp only [go_sem] at hr
    obtain ⟨rfl, rfl⟩ := hr
    refine ⟨vc, ?_⟩
    refine AWPL_nil ?_
    with_reducible refine thenC_normal ?_
    refine AWP_seq ?_
    refine AWP_rl ?_
    refine AWPL_rn tab_ok 1 [56] fun c st' hr => ?_
    simp only [go_sem] at hr
    obtain ⟨rfl, rfl⟩ := hr
    refine ⟨vc, ?_⟩
    refine AWPL_stP [(56, .own 0 ((r2.set (a1.length : Int).toNat (IntKind.wrap .u32 c1)).length))] (by simp [SameS, AX.look]) ?_
    replace hK := bind_s hK
    obtain ⟨y, hy, hK⟩ := hK
    refine AWPL_gR [57] [0] [.own 0 ((r2.set (a1.length : Int).toNat (IntKind.wrap .u32 c1)).length)] [none, some (.ints 186 .u32 y)] (r' := .own 1 y.length) (W_rotabig_trim hy) rfl rfl pcT rfl Try.call167 (of_decide_eq_true rfl) ⟨rfl, trivial⟩ rfl (hscG trivial) (of_decide_eq_true rfl) rfl rfl rfl (of_decide_eq_true rfl) rfl fun st' hr => ?_
    simp only [go_sem] at hr
    subst hr
    clear hy
    refine AWPL_rn tab_ok 1 [4] fun c st' hr => ?_
    simp only [go_sem] at hr
    obtain ⟨rfl, rfl⟩ := hr
    refine ⟨vc, ?_⟩
    refine AWPL_nil ?_
    with_reducible refine thenC_normal ?_
    refine AWP_ret ?_
    cases hK
    refine EndsRW [1] (.inl rfl) (of_decide_eq_true rfl) (by simp) rfl (fun c x hr => ?_) endH
    simp only [go_sem] at hr
    obtain ⟨rfl, rfl⟩ := hr
    exact ⟨rfl, endR⟩


theorem W_rotabig_sub {a : List Int} {b : List Int} {r : List Int} (hK : rotabig_sub a b = some r) : Pure Try.prog 166 [.ints .u32 a, .ints .u32 b] (.own 0 r.length) [(.ints 186 .u32 r)] := by
  refine Pure_introF tab_ok (n := 45) (l := [.tmp 4]) Try.func166 rfl rfl rfl (by simp) fun hfact w0 => ?_
  simp only [factL1, fact1, fact0, factL0, lo, hi, maxLen, and_true] at hfact
  unfold rotabig_sub at hK
  refine AWP_seq ?_
  refine AWP_rg tab_ok [0, 1] fun c st' hr => ?_
  simp only [go_sem] at hr
  obtain ⟨rfl, rfl⟩ := hr
  refine ⟨vc, ?_⟩
  with_reducible refine thenC_normal ?_
  refine AWP_seq ?_
  replace hK := chk_some hK
  obtain ⟨h, hK⟩ := hK
  refine AWP_rg tab_ok [0, 1, 5] fun c st' hr => ?_
  simp only [go_sem] at hr
  obtain ⟨rfl, rfl⟩ := hr
  refine ⟨vc, ?_⟩
  with_reducible refine thenC_normal ?_
  refine AWP_seq ?_
  refine AWP_rg tab_ok [0, 1, 5, 6] fun c st' hr => ?_
  simp only [go_sem] at hr
  obtain ⟨rfl, rfl⟩ := hr
  refine ⟨vc, ?_⟩
  with_reducible refine thenC_normal ?_
  refine AWP_seq ?_
  refine AWP_seq ?_
  refine AWP_rg tab_ok [0, 1, 5, 6, 7] fun c st' hr => ?_
  simp only [go_sem] at hr
  obtain ⟨rfl, rfl⟩ := hr
  refine ⟨vc, ?_⟩
  with_reducible refine thenC_normal ?_
  refine AWP_block ?_
  refine AWP_loopX 0 (fun ((r1, c, i) : List Int × Int × Int) => ⟨45, [(0, .ints .u32 a), (1, .ints .u32 b), (5, .own 0 r1.length), (6, .int .u64 c), (7, .int .i64 i)], [some (.ints 186 .u32 r1)]⟩) (fun (r2 : List Int) => ⟨45, [(5, .own 0 r2.length)], [some (.ints 186 .u32 r2)]⟩) (fun v => v) (List.replicate (a.length : Int).toNat 0, 0, 0) [0] hK mkWk ?_ ?_
  ·clear hK; rintro ⟨r1, c, i⟩ b1 hK hpost1
   try dsimp only at hK
   change AWP _ _ _ _ ⟨45, [(0, .ints .u32 a), (1, .ints .u32 b), (5, .own 0 r1.length), (6, .int .u64 c), (7, .int .i64 i)], [some (.ints 186 .u32 r1)]⟩
   refine AWP_seq ?_
   refine AWP_seq ?_
   refine AWP_rg tab_ok [0, 1, 5, 6, 7, 15] fun c st' hr => ?_
   simp only [go_sem] at hr
   obtain ⟨rfl, rfl⟩ := hr
   refine ⟨vc, ?_⟩
   with_reducible refine thenC_normal ?_
   refine AWP_condP (i < (a.length : Int)) rfl bd (fun hb => ?_) (fun hb => ?_)
   ·replace hK := ite_t hK hb
    refine AWP_skip ?_
    with_reducible refine thenC_normal ?_
    refine AWP_seq ?_
    refine AWP_block ?_
    refine AWP_seq ?_
    refine AWP_rl ?_
    replace hK := chk_some hK
    obtain ⟨h1, hK⟩ := hK
    refine AWPL_rn tab_ok 6 [0, 1, 5, 7, 22, 23] fun c st' hr => ?_
    simp only [go_sem] at hr
    obtain ⟨rfl, rfl⟩ := hr
    refine ⟨vc, ?_⟩
    refine AWPL_wsub [0, 1, 5, 7, 24] rfl rfl pcT (of_decide_eq_true rfl) rfl rfl fun st' hr => ?_
    simp only [go_sem] at hr
    subst hr
    refine AWPL_rn tab_ok 1 [0, 1, 5, 7, 8] fun c st' hr => ?_
    simp only [go_sem] at hr
    obtain ⟨rfl, rfl⟩ := hr
    refine ⟨vc, ?_⟩
    refine AWPL_nil ?_
    with_reducible refine thenC_normal ?_
    refine AWP_seq ?_
    refine AWP_seq ?_
    refine AWP_rg tab_ok [0, 1, 5, 7, 8, 28] fun c st' hr => ?_
    simp only [go_sem] at hr
    obtain ⟨rfl, rfl⟩ := hr
    refine ⟨vc, ?_⟩
    with_reducible refine thenC_normal ?_
    refine AWP_condP (i < (b.length : Int)) rfl bd (fun hb1 => ?_) (fun hb1 => ?_)
    ·replace hK := ite_t hK hb1
     refine AWP_rl ?_
     replace hK := chk_some hK
     obtain ⟨h2, hK⟩ := hK
     refine AWPL_rn tab_ok 6 [0, 1, 5, 7, 29, 34] fun c st' hr => ?_
     simp only [go_sem] at hr
     obtain ⟨rfl, rfl⟩ := hr
     refine ⟨vc, ?_⟩
     refine AWPL_wsub [0, 1, 5, 7, 35] rfl rfl pcT (of_decide_eq_true rfl) rfl rfl fun st' hr => ?_
     simp only [go_sem] at hr
     subst hr
     refine AWPL_rn tab_ok 1 [0, 1, 5, 7, 8] fun c st' hr => ?_
     simp only [go_sem] at hr
     obtain ⟨rfl, rfl⟩ := hr
     refine ⟨vc, ?_⟩
     refine AWPL_nil ?_
     with_reducible refine thenC_normal ?_
     refine AWP_seq ?_
     refine AWP_rl ?_
     refine AWPL_rn tab_ok 3 [0, 1, 5, 7, 8, 36, 37, 38] fun c st' hr => ?_
     simp only [go_sem] at hr
     obtain ⟨rfl, rfl⟩ := hr
     refine ⟨vc, ?_⟩
     refine AWPL_wconv tab_ok [0, 1, 5, 7, 8, 36, 37, 39] rfl rfl pcT (of_decide_eq_true rfl) rfl rfl rfl fun st' hr => ?_
     simp only [go_sem] at hr
     subst hr
     replace hK := chk_some hK
     obtain ⟨h3, hK⟩ := hK
     refine AWPL_rn tab_ok 2 [0, 1, 5, 7, 8] fun c st' hr => ?_
     simp only [go_sem] at hr
     obtain ⟨rfl, rfl⟩ := hr
     refine ⟨vc, ?_⟩
     refine AWPL_nil ?_
     with_reducible refine thenC_normal ?_
     refine AWP_rg tab_ok [0, 1, 5, 6, 7] fun c st' hr => ?_
     simp only [go_sem] at hr
     obtain ⟨rfl, rfl⟩ := hr
     refine ⟨vc, ?_⟩
     with_reducible refine inBlockA_normal (thenC_normal ?_)
     refine AWP_facts (by simp) fun hfx => ?_
     simp only [factS, factV, fact1, fact0, factL0, lo, hi, maxLen, and_true, true_and] at hfx
     refine AWP_rg tab_ok [0, 1, 5, 6, 7] fun c st' hr => ?_
     simp only [go_sem] at hr
     obtain ⟨rfl, rfl⟩ := hr
     refine ⟨vc, ?_⟩
     clear hfx
     refine again_n (r1.set i.toNat (IntKind.wrap .u32 (IntKind.wrap .u64 ((IntKind.wrap .u64 ((a.getD i.toNat 0) - c)) - (b.getD i.toNat 0)))), (IntKind.wrap .u64 ((IntKind.wrap .u64 ((a.getD i.toNat 0) - c)) - (b.getD i.toNat 0))) / 2 ^ 63, i + 1) [0] hK mkWk
    ·replace hK := ite_f hK hb1
     refine AWP_skip ?_
     with_reducible refine thenC_normal ?_
     refine AWP_seq ?_
     refine AWP_rl ?_
     refine AWPL_rn tab_ok 3 [0, 1, 5, 7, 8, 36, 37, 38] fun c st' hr => ?_
     simp only [go_sem] at hr
     obtain ⟨rfl, rfl⟩ := hr
     refine ⟨vc, ?_⟩
     refine AWPL_wconv tab_ok [0, 1, 5, 7, 8, 36, 37, 39] rfl rfl pcT (of_decide_eq_true rfl) rfl rfl rfl fun st' hr => ?_
     simp only [go_sem] at hr
     subst hr
     replace hK := chk_some hK
     obtain ⟨h4, hK⟩ := hK
     refine AWPL_rn tab_ok 2 [0, 1, 5, 7, 8] fun c st' hr => ?_
     simp only [go_sem] at hr
     obtain ⟨rfl, rfl⟩ := hr
     refine ⟨vc, ?_⟩
     refine AWPL_nil ?_
     with_reducible refine thenC_normal ?_
     refine AWP_rg tab_ok [0, 1, 5, 6, 7] fun c st' hr => ?_
     simp only [go_sem] at hr
     obtain ⟨rfl, rfl⟩ := hr
     refine ⟨vc, ?_⟩
     with_reducible refine inBlockA_normal (thenC_normal ?_)
     refine AWP_facts (by simp) fun hfx => ?_
     simp only [factS, factV, fact1, fact0, factL0, lo, hi, maxLen, and_true, true_and] at hfx
     refine AWP_rg tab_ok [0, 1, 5, 6, 7] fun c st' hr => ?_
     simp only [go_sem] at hr
     obtain ⟨rfl, rfl⟩ := hr
     refine ⟨vc, ?_⟩
     clear hfx
     refine again_n (r1.set i.toNat (IntKind.wrap .u32 (IntKind.wrap .u64 ((a.getD i.toNat 0) - c))), (IntKind.wrap .u64 ((a.getD i.toNat 0) - c)) / 2 ^ 63, i + 1) [0] hK mkWk
   ·replace hK := ite_f hK hb
    refine AWP_exit ?_
    with_reducible refine thenC_exit (again_x ?_)
    refine cutX_here r1 [0] (by have hq := hpost1 _ hK; exact hq) mkWk
  ·clear hK; rintro r2 hK
   try dsimp only at hK
   refine exS ⟨45, [(5, .own 0 r2.length)], [some (.ints 186 .u32 r2)]⟩ rfl ?_
   with_reducible refine inBlockA_exit (thenC_normal ?_)
   refine AWP_seq ?_
   refine AWP_rl ?_
   refine AWPL_rn tab_ok 1 [43] fun c st' hr => ?_
   simp only [go_sem] at hr
   obtain ⟨rfl, rfl⟩ := hr
   refine ⟨vc, ?_⟩
   replace hK := bind_s hK
   obtain ⟨y, hy, hK⟩ := hK
   refine AWPL_gR [44] [0] [.own 0 r2.length] [none, some (.ints 186 .u32 y)] (r' := .own 1 y.length) (W_rotabig_trim hy) rfl rfl pcT rfl Try.call167 (of_decide_eq_true rfl) ⟨rfl, trivial⟩ rfl (hscG trivial) (of_decide_eq_true rfl) rfl rfl rfl (of_decide_eq_true rfl) rfl fun st' hr => ?_
   simp only [go_sem] at hr
   subst hr
   clear hy
   refine AWPL_rn tab_ok 1 [4] fun c st' hr => ?_
   simp only [go_sem] at hr
   obtain ⟨rfl, rfl⟩ := hr
   refine ⟨vc, ?_⟩
   refine AWPL_nil ?_
   with_reducible refine thenC_normal ?_
   refine AWP_ret ?_
   cases hK
   refine EndsRW [1] (.inl rfl) (of_decide_eq_true rfl) (by simp) rfl (fun c x hr => ?_) endH
   simp only [go_sem] at hr
   obtain ⟨rfl, rfl⟩ := hr
   exact ⟨rfl, endR⟩


theorem W_rotabig_sum {xn : Bool} {xa : List Int} {yn : Bool} {ya : List Int} {r : Bool × List Int} (hK : rotabig_sum xn xa yn ya = some r) : Pure Try.prog 126 [.bool xn, .ints .u32 xa, .bool yn, .ints .u32 ya] (.tup [.bool r.1, .own 0 r.2.length]) [(.ints 186 .u32 r.2)] := by
  refine Pure_introF tab_ok (n := 29) (l := [.tmp 8, .tmp 9]) Try.func126 rfl rfl rfl (by simp) fun hfact w0 => ?_
  simp only [factL1, fact1, fact0, factL0, lo, hi, maxLen, and_true] at hfact
  unfold rotabig_sum at hK
  refine AWP_seq ?_
  refine AWP_rg tab_ok [0, 1, 2, 3] fun c st' hr => ?_
  simp only [go_sem] at hr
  obtain ⟨rfl, rfl⟩ := hr
  refine ⟨vc, ?_⟩
  with_reducible refine thenC_normal ?_
  refine AWP_seq ?_
  refine AWP_seq ?_
  refine AWP_rg tab_ok [0, 1, 2, 3, 12] fun c st' hr => ?_
  simp only [go_sem] at hr
  obtain ⟨rfl, rfl⟩ := hr
  refine ⟨vc, ?_⟩
  with_reducible refine thenC_normal ?_
  refine AWP_condP ((xn = true ↔ yn = true)) rfl bd (fun hb => ?_) (fun hb => ?_)
  ·replace hK := ite_t hK hb
   refine AWP_seq ?_
   refine AWP_rl ?_
   refine AWPL_rn tab_ok 3 [13, 14, 15] fun c st' hr => ?_
   simp only [go_sem] at hr
   obtain ⟨rfl, rfl⟩ := hr
   refine ⟨vc, ?_⟩
   replace hK := bind_s hK
   obtain ⟨y, hy, hK⟩ := hK
   refine AWPL_callK [13, 16] (W_rotabig_add hy) rfl rfl pcT rfl Try.call165 (.cons (.atom _ rfl) (.cons (.atom _ rfl) .nil)) (hscG trivial) (of_decide_eq_true rfl) (by first | rfl | simp [nI, nI1, nI0]) (by first | rfl | simp [nIB, nI0]) fun st' hr => ?_
   simp only [go_sem] at hr
   subst hr
   clear hy
   refine AWPL_rn tab_ok 2 [8, 9] fun c st' hr => ?_
   simp only [go_sem] at hr
   obtain ⟨rfl, rfl⟩ := hr
   refine ⟨vc, ?_⟩
   refine AWPL_nil ?_
   with_reducible refine thenC_normal ?_
   refine AWP_ret ?_
   with_reducible refine thenC_ret ?_
   cases hK
   refine EndsRW [0] (.inl rfl) (of_decide_eq_true rfl) (by simp) rfl (fun c x hr => ?_) endH
   simp only [go_sem] at hr
   obtain ⟨rfl, rfl⟩ := hr
   exact ⟨rfl, endR⟩
  ·replace hK := ite_f hK hb
   refine AWP_skip ?_
   with_reducible refine thenC_normal ?_
   refine AWP_seq ?_
   refine AWP_seq ?_
   refine AWP_rl ?_
   refine AWPL_rn tab_ok 2 [0, 1, 2, 3, 17, 18] fun c st' hr => ?_
   simp only [go_sem] at hr
   obtain ⟨rfl, rfl⟩ := hr
   refine ⟨vc, ?_⟩
   replace hK := bind_s hK
   obtain ⟨y1, hy, hK⟩ := hK
   refine AWPL_callK [0, 1, 2, 3, 19] (W_rotabig_cmp hy) rfl rfl pcT rfl Try.call131 (.cons (.atom _ rfl) (.cons (.atom _ rfl) .nil)) (hscG trivial) (of_decide_eq_true rfl) (by first | rfl | simp [nI, nI1, nI0]) (by first | rfl | simp [nIB, nI0]) fun st' hr => ?_
   simp only [go_sem] at hr
   subst hr
   clear hy
   refine AWPL_rn tab_ok 1 [0, 1, 2, 3, 20] fun c st' hr => ?_
   simp only [go_sem] at hr
   obtain ⟨rfl, rfl⟩ := hr
   refine ⟨vc, ?_⟩
   refine AWPL_nil ?_
   with_reducible refine thenC_normal ?_
   refine AWP_condP (0 ≤ y1) rfl bd (fun hb1 => ?_) (fun hb1 => ?_)
   ·replace hK := ite_t hK hb1
    refine AWP_seq ?_
    refine AWP_rl ?_
    refine AWPL_rn tab_ok 3 [21, 22, 23] fun c st' hr => ?_
    simp only [go_sem] at hr
    obtain ⟨rfl, rfl⟩ := hr
    refine ⟨vc, ?_⟩
    replace hK := bind_s hK
    obtain ⟨y2, hy, hK⟩ := hK
    refine AWPL_callK [21, 24] (W_rotabig_sub hy) rfl rfl pcT rfl Try.call166 (.cons (.atom _ rfl) (.cons (.atom _ rfl) .nil)) (hscG trivial) (of_decide_eq_true rfl) (by first | rfl | simp [nI, nI1, nI0]) (by first | rfl | simp [nIB, nI0]) fun st' hr => ?_
    simp only [go_sem] at hr
    subst hr
    clear hy
    refine AWPL_rn tab_ok 2 [8, 9] fun c st' hr => ?_
    simp only [go_sem] at hr
    obtain ⟨rfl, rfl⟩ := hr
    refine ⟨vc, ?_⟩
    refine AWPL_nil ?_
    with_reducible refine thenC_normal ?_
    refine AWP_ret ?_
    with_reducible refine thenC_ret ?_
    cases hK
    refine EndsRW [0] (.inl rfl) (of_decide_eq_true rfl) (by simp) rfl (fun c x hr => ?_) endH
    simp only [go_sem] at hr
    obtain ⟨rfl, rfl⟩ := hr
    exact ⟨rfl, endR⟩
   ·replace hK := ite_f hK hb1
    refine AWP_skip ?_
    with_reducible refine thenC_normal ?_
    refine AWP_seq ?_
    refine AWP_rl ?_
    refine AWPL_rn tab_ok 3 [25, 26, 27] fun c st' hr => ?_
    simp only [go_sem] at hr
    obtain ⟨rfl, rfl⟩ := hr
    refine ⟨vc, ?_⟩
    replace hK := bind_s hK
    obtain ⟨y3, hy, hK⟩ := hK
    refine AWPL_callK [25, 28] (W_rotabig_sub hy) rfl rfl pcT rfl Try.call166 (.cons (.atom _ rfl) (.cons (.atom _ rfl) .nil)) (hscG trivial) (of_decide_eq_true rfl) (by first | rfl | simp [nI, nI1, nI0]) (by first | rfl | simp [nIB, nI0]) fun st' hr => ?_
    simp only [go_sem] at hr
    subst hr
    clear hy
    refine AWPL_rn tab_ok 2 [8, 9] fun c st' hr => ?_
    simp only [go_sem] at hr
    obtain ⟨rfl, rfl⟩ := hr
    refine ⟨vc, ?_⟩
    refine AWPL_nil ?_
    with_reducible refine thenC_normal ?_
    refine AWP_ret ?_
    cases hK
    refine EndsRW [0] (.inl rfl) (of_decide_eq_true rfl) (by simp) rfl (fun c x hr => ?_) endH
    simp only [go_sem] at hr
    obtain ⟨rfl, rfl⟩ := hr
    exact ⟨rfl, endR⟩

/-- The operations of a drawn region. -/
def reg_rotabig_Int_Add_r_1 : List Oper := (⟨_, rfl⟩ : { l : List Oper // (Try.f64.body.bind (regIn 1)) = some l }).1

theorem ceg_rotabig_Int_Add_r_1_1 : firstOk reg_rotabig_Int_Add_r_1.toArray #[false, false, false, false, false, false, false, false, false, false, false, false, false, false, false, false, false, false, false, false, false, false] 1 [2, 3, 4, 17, 18, 19, 20, 21] = true := by kernel_rfl

theorem ceg_rotabig_Int_Add_r_1_2 : firstOk reg_rotabig_Int_Add_r_1.toArray #[false, true, false, false, false, false, false, false, false, false, false, false, false, false, false, false, false, false, false, false, false, false] 2 [3, 4, 17, 18, 19, 20, 21] = true := by kernel_rfl

theorem ceg_rotabig_Int_Add_r_1_3 : firstOk reg_rotabig_Int_Add_r_1.toArray #[false, true, true, false, false, false, false, false, false, false, false, false, false, false, false, false, false, false, false, false, false, false] 3 [4, 17, 18, 19, 20, 21] = true := by kernel_rfl

theorem ceg_rotabig_Int_Add_r_1_4 : firstOk reg_rotabig_Int_Add_r_1.toArray #[false, true, true, true, false, false, false, false, false, false, false, false, false, false, false, false, false, false, false, false, false, false] 4 [17, 18, 19, 20, 21] = true := by kernel_rfl

theorem ceg_rotabig_Int_Add_r_1_5 : firstOk reg_rotabig_Int_Add_r_1.toArray #[false, true, true, true, true, false, false, false, false, false, false, false, false, false, false, false, false, false, false, false, false, false] 5 [6, 7, 8, 17, 18, 19, 20, 21] = true := by kernel_rfl

theorem ceg_rotabig_Int_Add_r_1_6 : firstOk reg_rotabig_Int_Add_r_1.toArray #[false, true, true, true, true, true, false, false, false, false, false, false, false, false, false, false, false, false, false, false, false, false] 6 [7, 8, 17, 18, 19, 20, 21] = true := by kernel_rfl

theorem ceg_rotabig_Int_Add_r_1_7 : firstOk reg_rotabig_Int_Add_r_1.toArray #[false, true, true, true, true, true, true, false, false, false, false, false, false, false, false, false, false, false, false, false, false, false] 7 [8, 17, 18, 19, 20, 21] = true := by kernel_rfl

theorem ceg_rotabig_Int_Add_r_1_8 : firstOk reg_rotabig_Int_Add_r_1.toArray #[false, true, true, true, true, true, true, true, false, false, false, false, false, false, false, false, false, false, false, false, false, false] 8 [17, 18, 19, 20, 21] = true := by kernel_rfl

theorem ceg_rotabig_Int_Add_r_1_9 : firstOk reg_rotabig_Int_Add_r_1.toArray #[false, true, true, true, true, true, true, true, true, false, false, false, false, false, false, false, false, false, false, false, false, false] 9 [10, 11, 12, 17, 18, 19, 20, 21] = true := by kernel_rfl

theorem ceg_rotabig_Int_Add_r_1_10 : firstOk reg_rotabig_Int_Add_r_1.toArray #[false, true, true, true, true, true, true, true, true, true, false, false, false, false, false, false, false, false, false, false, false, false] 10 [11, 12, 17, 18, 19, 20, 21] = true := by kernel_rfl

theorem ceg_rotabig_Int_Add_r_1_11 : firstOk reg_rotabig_Int_Add_r_1.toArray #[false, true, true, true, true, true, true, true, true, true, true, false, false, false, false, false, false, false, false, false, false, false] 11 [12, 17, 18, 19, 20, 21] = true := by kernel_rfl

theorem ceg_rotabig_Int_Add_r_1_12 : firstOk reg_rotabig_Int_Add_r_1.toArray #[false, true, true, true, true, true, true, true, true, true, true, true, false, false, false, false, false, false, false, false, false, false] 12 [17, 18, 19, 20, 21] = true := by kernel_rfl

theorem ceg_rotabig_Int_Add_r_1_13 : firstOk reg_rotabig_Int_Add_r_1.toArray #[false, true, true, true, true, true, true, true, true, true, true, true, true, false, false, false, false, false, false, false, false, false] 13 [14, 15, 16, 17, 18, 19, 20, 21] = true := by kernel_rfl

theorem ceg_rotabig_Int_Add_r_1_14 : firstOk reg_rotabig_Int_Add_r_1.toArray #[false, true, true, true, true, true, true, true, true, true, true, true, true, true, false, false, false, false, false, false, false, false] 14 [15, 16, 17, 18, 19, 20, 21] = true := by kernel_rfl

theorem ceg_rotabig_Int_Add_r_1_15 : firstOk reg_rotabig_Int_Add_r_1.toArray #[false, true, true, true, true, true, true, true, true, true, true, true, true, true, true, false, false, false, false, false, false, false] 15 [16, 17, 18, 19, 20, 21] = true := by kernel_rfl

theorem ceg_rotabig_Int_Add_r_1_16 : firstOk reg_rotabig_Int_Add_r_1.toArray #[false, true, true, true, true, true, true, true, true, true, true, true, true, true, true, true, false, false, false, false, false, false] 16 [17, 18, 19, 20, 21] = true := by kernel_rfl

theorem ceg_rotabig_Int_Add_r_1_17 : firstOk reg_rotabig_Int_Add_r_1.toArray #[true, true, true, true, true, true, true, true, true, true, true, true, true, true, true, true, true, true, false, false, false, false] 18 [20, 21] = true := by kernel_rfl

theorem ceg_rotabig_Int_Add_r_1_18 : firstOk reg_rotabig_Int_Add_r_1.toArray #[true, true, true, true, true, true, true, true, true, true, true, true, true, true, true, true, true, true, true, false, false, false] 19 [20, 21] = true := by kernel_rfl

theorem ceg_rotabig_Int_Add_r_1_19 : firstOk reg_rotabig_Int_Add_r_1.toArray #[true, true, true, true, true, true, true, true, true, true, true, true, true, true, true, true, true, true, true, true, true, false] 21 [] = true := by kernel_rfl

theorem ceg_rotabig_Int_Add_r_1_20 : (Region.ready .any reg_rotabig_Int_Add_r_1.toArray #[true, true, true, true, true, true, true, true, true, true, true, true, true, true, true, true, true, true, true, true, true, true] == []) = true := by kernel_rfl

theorem J_rotabig_Int_Add_r_1_hn1 {x_0 : Bool} {x_1 : List Int} {y_0 : Bool} {y_1 : List Int} {q0 : Bool × List Int} {y1 : Bool × List Int} {y2 : Bool × List Int} {pl0 : AX.Loc} (hy : rotabig_sum x_0 x_1 y_0 y_1 = some y1) (hy1 : rotabig_Int_give y1.1 (q0.1, q0.2) y1.2 = some y2) {w0 : World} {Q : Exit → St → Prop} {AA : Nat → Array Bool → St → Prop} (hAA : ∀ g L st, AA g L st ↔ AWPB Try.prog w0 reg_rotabig_Int_Add_r_1.toArray Q g L st) (hn : AA 0 #[true, true, true, true, true, true, true, true, true, true, true, true, true, true, true, true, true, true, true, true, true, true] ⟨28, [(6, .ptr 0 0 0)], [some (.gen 31 2 [[.bool y2.1, .own 4 y2.2.length]]), none, some (.pin 0 pl0), none, some (.ints 186 .u32 y2.2)]⟩) : AA 1 #[true, true, true, true, true, true, true, true, true, true, true, true, true, true, true, true, true, true, true, true, true, false] ⟨28, [(27, .ptr 0 0 0)], [some (.gen 31 2 [[.bool y2.1, .own 4 y2.2.length]]), none, some (.pin 0 pl0), none, some (.ints 186 .u32 y2.2)]⟩ := (hAA _ _ _).2 (by
  refine AWPB_takeB tab_ok [6] 21 [] _ rfl ceg_rotabig_Int_Add_r_1_19 fun c st' hr => ?_
  simp only [go_sem] at hr
  obtain ⟨rfl, rfl⟩ := hr
  refine ⟨vc, ?_⟩
  exact AWPB_wk [0, 1, 2, 3, 4] mkWk ((hAA _ _ _).1 hn))

theorem ceg_rotabig_Int_Add_r_1_22 : (Region.ready .any reg_rotabig_Int_Add_r_1.toArray #[true, true, true, true, true, true, true, true, true, true, true, true, true, true, true, true, true, true, true, true, false, false] == [20]) = true := by kernel_rfl

theorem J_rotabig_Int_Add_r_1_hn2 {x_0 : Bool} {x_1 : List Int} {y_0 : Bool} {y_1 : List Int} {q0 : Bool × List Int} {y1 : Bool × List Int} {y2 : Bool × List Int} {pl0 : AX.Loc} (hy : rotabig_sum x_0 x_1 y_0 y_1 = some y1) (hy1 : rotabig_Int_give y1.1 (q0.1, q0.2) y1.2 = some y2) {w0 : World} {Q : Exit → St → Prop} {AA : Nat → Array Bool → St → Prop} (hAA : ∀ g L st, AA g L st ↔ AWPB Try.prog w0 reg_rotabig_Int_Add_r_1.toArray Q g L st) (hn1 : AA 1 #[true, true, true, true, true, true, true, true, true, true, true, true, true, true, true, true, true, true, true, true, true, false] ⟨28, [(27, .ptr 0 0 0)], [some (.gen 31 2 [[.bool y2.1, .own 4 y2.2.length]]), none, some (.pin 0 pl0), none, some (.ints 186 .u32 y2.2)]⟩) : AA 2 #[true, true, true, true, true, true, true, true, true, true, true, true, true, true, true, true, true, true, true, true, false, false] ⟨28, [(7, .ptr 0 0 0), (25, .bool y1.1), (26, .own 3 y1.2.length)], [some (.gen 31 2 [[.bool q0.1, .own 1 q0.2.length]]), some (.ints 186 .u32 q0.2), some (.pin 0 pl0), some (.ints 186 .u32 y1.2)]⟩ := (hAA _ _ _).2 (by
  refine AWPB_one 20 _ ceg_rotabig_Int_Add_r_1_22 rfl ?_
  refine AWPL_gR [6, 27] [0, 1, 3] [.ptr 0 0 0, .bool y1.1, .own 2 y1.2.length] [some (.gen 31 2 [[.bool y2.1, .own 4 y2.2.length]]), none, some (.pin 0 pl0), none, some (.ints 186 .u32 y2.2)] (r' := .ptr 0 0 0) (W_rotabig_Int_give hy1) rfl rfl pcT rfl Try.call125 (of_decide_eq_true rfl) ⟨rfl, rfl, rfl, trivial⟩ rfl (hscG trivial) (of_decide_eq_true rfl) rfl rfl rfl (of_decide_eq_true rfl) rfl fun st' hr => ?_
  simp only [go_sem] at hr
  subst hr
  refine AWPL_nil ?_
  refine QB_normal ?_
  exact AWPB_wk [0, 1, 2, 3, 4] mkWk ((hAA _ _ _).1 hn1))

theorem J_rotabig_Int_Add_r_1_hn3 {x_0 : Bool} {x_1 : List Int} {y_0 : Bool} {y_1 : List Int} {q0 : Bool × List Int} {y1 : Bool × List Int} {y2 : Bool × List Int} {pl0 : AX.Loc} (hy : rotabig_sum x_0 x_1 y_0 y_1 = some y1) (hy1 : rotabig_Int_give y1.1 (q0.1, q0.2) y1.2 = some y2) {w0 : World} {Q : Exit → St → Prop} {AA : Nat → Array Bool → St → Prop} (hAA : ∀ g L st, AA g L st ↔ AWPB Try.prog w0 reg_rotabig_Int_Add_r_1.toArray Q g L st) (hn2 : AA 2 #[true, true, true, true, true, true, true, true, true, true, true, true, true, true, true, true, true, true, true, true, false, false] ⟨28, [(7, .ptr 0 0 0), (25, .bool y1.1), (26, .own 3 y1.2.length)], [some (.gen 31 2 [[.bool q0.1, .own 1 q0.2.length]]), some (.ints 186 .u32 q0.2), some (.pin 0 pl0), some (.ints 186 .u32 y1.2)]⟩) : AA 4 #[true, true, true, true, true, true, true, true, true, true, true, true, true, true, true, true, true, true, false, false, false, false] ⟨28, [(7, .ptr 0 0 0), (24, .tup [.bool y1.1, .own 3 y1.2.length])], [some (.gen 31 2 [[.bool q0.1, .own 1 q0.2.length]]), some (.ints 186 .u32 q0.2), some (.pin 0 pl0), some (.ints 186 .u32 y1.2)]⟩ := (hAA _ _ _).2 (by
  refine AWPB_takeB tab_ok [6, 7, 24, 25, 26, 27] 18 [20, 21] _ rfl ceg_rotabig_Int_Add_r_1_17 fun c st' hr => ?_
  simp only [go_sem] at hr
  obtain ⟨rfl, rfl⟩ := hr
  refine ⟨vc, ?_⟩
  refine AWPB_takeB tab_ok [6, 7, 25, 26, 27] 19 [20, 21] _ rfl ceg_rotabig_Int_Add_r_1_18 fun c st' hr => ?_
  simp only [go_sem] at hr
  obtain ⟨rfl, rfl⟩ := hr
  refine ⟨vc, ?_⟩
  exact AWPB_wk [0, 1, 2, 3] mkWk ((hAA _ _ _).1 hn2))

theorem ceg_rotabig_Int_Add_r_1_25 : (Region.ready .any reg_rotabig_Int_Add_r_1.toArray #[true, true, true, true, true, true, true, true, true, true, true, true, true, true, true, true, true, false, false, false, false, false] == [17]) = true := by kernel_rfl

theorem J_rotabig_Int_Add_r_1_hn4 {x_0 : Bool} {x_1 : List Int} {y_0 : Bool} {y_1 : List Int} {q0 : Bool × List Int} {y1 : Bool × List Int} {y2 : Bool × List Int} {pl0 : AX.Loc} (hy : rotabig_sum x_0 x_1 y_0 y_1 = some y1) (hy1 : rotabig_Int_give y1.1 (q0.1, q0.2) y1.2 = some y2) {w0 : World} {Q : Exit → St → Prop} {AA : Nat → Array Bool → St → Prop} (hAA : ∀ g L st, AA g L st ↔ AWPB Try.prog w0 reg_rotabig_Int_Add_r_1.toArray Q g L st) (hn3 : AA 4 #[true, true, true, true, true, true, true, true, true, true, true, true, true, true, true, true, true, true, false, false, false, false] ⟨28, [(7, .ptr 0 0 0), (24, .tup [.bool y1.1, .own 3 y1.2.length])], [some (.gen 31 2 [[.bool q0.1, .own 1 q0.2.length]]), some (.ints 186 .u32 q0.2), some (.pin 0 pl0), some (.ints 186 .u32 y1.2)]⟩) : AA 5 #[true, true, true, true, true, true, true, true, true, true, true, true, true, true, true, true, true, false, false, false, false, false] ⟨28, [(7, .ptr 0 0 0), (11, .bool x_0), (15, .ints .u32 x_1), (19, .bool y_0), (23, .ints .u32 y_1)], [some (.gen 31 2 [[.bool q0.1, .own 1 q0.2.length]]), some (.ints 186 .u32 q0.2), some (.pin 0 pl0)]⟩ := (hAA _ _ _).2 (by
  refine AWPB_one 17 _ ceg_rotabig_Int_Add_r_1_25 rfl ?_
  refine AWPL_callK [6, 7, 24, 25, 26, 27] (W_rotabig_sum hy) rfl rfl pcT rfl Try.call126 (.cons (.atom _ rfl) (.cons (.atom _ rfl) (.cons (.atom _ rfl) (.cons (.atom _ rfl) .nil)))) (hscG trivial) (of_decide_eq_true rfl) (by first | rfl | simp [nI, nI1, nI0]) (by first | rfl | simp [nIB, nI0]) fun st' hr => ?_
  simp only [go_sem] at hr
  subst hr
  refine AWPL_nil ?_
  refine QB_normal ?_
  exact AWPB_wk [0, 1, 2, 3] mkWk ((hAA _ _ _).1 hn3))

theorem ceg_rotabig_Int_Add_r_1_27 : (Region.noSelect reg_rotabig_Int_Add_r_1.toArray && Region.free .any reg_rotabig_Int_Add_r_1.toArray #[false, true, true, true, true, true, true, true, true, true, true, true, true, true, true, true, true, false, false, false, false, false] 0 && (Region.ready .any reg_rotabig_Int_Add_r_1.toArray #[false, true, true, true, true, true, true, true, true, true, true, true, true, true, true, true, true, false, false, false, false, false]).contains 0) = true := by kernel_rfl

theorem J_rotabig_Int_Add_r_1_hn5 {x_0 : Bool} {x_1 : List Int} {y_0 : Bool} {y_1 : List Int} {q0 : Bool × List Int} {y1 : Bool × List Int} {y2 : Bool × List Int} {pl0 : AX.Loc} (hy : rotabig_sum x_0 x_1 y_0 y_1 = some y1) (hy1 : rotabig_Int_give y1.1 (q0.1, q0.2) y1.2 = some y2) {w0 : World} {Q : Exit → St → Prop} {AA : Nat → Array Bool → St → Prop} (hAA : ∀ g L st, AA g L st ↔ AWPB Try.prog w0 reg_rotabig_Int_Add_r_1.toArray Q g L st) (hn4 : AA 5 #[true, true, true, true, true, true, true, true, true, true, true, true, true, true, true, true, true, false, false, false, false, false] ⟨28, [(7, .ptr 0 0 0), (11, .bool x_0), (15, .ints .u32 x_1), (19, .bool y_0), (23, .ints .u32 y_1)], [some (.gen 31 2 [[.bool q0.1, .own 1 q0.2.length]]), some (.ints 186 .u32 q0.2), some (.pin 0 pl0)]⟩) : AA 6 #[false, true, true, true, true, true, true, true, true, true, true, true, true, true, true, true, true, false, false, false, false, false] ⟨28, [(0, .ptr 0 0 0), (11, .bool x_0), (15, .ints .u32 x_1), (19, .bool y_0), (23, .ints .u32 y_1)], [some (.gen 31 2 [[.bool q0.1, .own 1 q0.2.length]]), some (.ints 186 .u32 q0.2), some (.pin 0 pl0)]⟩ := (hAA _ _ _).2 (by
  refine AWPB_take2 tab_ok [6, 7, 11, 15, 19, 23, 24, 25, 26, 27] 0 _ rfl rfl rfl ceg_rotabig_Int_Add_r_1_27 fun c st' hr => ?_
  simp only [go_sem] at hr
  obtain ⟨rfl, rfl⟩ := hr
  refine ⟨vc, ?_⟩
  exact AWPB_wk [0, 1, 2] mkWk ((hAA _ _ _).1 hn4))

theorem J_rotabig_Int_Add_r_1_hn6 {x_0 : Bool} {x_1 : List Int} {y_0 : Bool} {y_1 : List Int} {q0 : Bool × List Int} {y1 : Bool × List Int} {y2 : Bool × List Int} {pl0 : AX.Loc} (hy : rotabig_sum x_0 x_1 y_0 y_1 = some y1) (hy1 : rotabig_Int_give y1.1 (q0.1, q0.2) y1.2 = some y2) {w0 : World} {Q : Exit → St → Prop} {AA : Nat → Array Bool → St → Prop} (hAA : ∀ g L st, AA g L st ↔ AWPB Try.prog w0 reg_rotabig_Int_Add_r_1.toArray Q g L st) (hn5 : AA 6 #[false, true, true, true, true, true, true, true, true, true, true, true, true, true, true, true, true, false, false, false, false, false] ⟨28, [(0, .ptr 0 0 0), (11, .bool x_0), (15, .ints .u32 x_1), (19, .bool y_0), (23, .ints .u32 y_1)], [some (.gen 31 2 [[.bool q0.1, .own 1 q0.2.length]]), some (.ints 186 .u32 q0.2), some (.pin 0 pl0)]⟩) : AA 22 #[false, false, false, false, false, false, false, false, false, false, false, false, false, false, false, false, false, false, false, false, false, false] ⟨28, [(0, .ptr 0 0 0), (1, .immp [.bool x_0, .ints .u32 x_1]), (2, .immp [.bool y_0, .ints .u32 y_1])], [some (.gen 31 2 [[.bool q0.1, .own 1 q0.2.length]]), some (.ints 186 .u32 q0.2), some (.pin 0 pl0)]⟩ := (hAA _ _ _).2 (by
  refine AWPB_takeB tab_ok [0, 1, 2, 6, 7, 8, 9, 10, 11, 12, 13, 14, 15, 16, 17, 18, 19, 20, 21, 22, 23, 24, 25, 26, 27] 1 [2, 3, 4, 17, 18, 19, 20, 21] _ rfl ceg_rotabig_Int_Add_r_1_1 fun c st' hr => ?_
  simp only [go_sem] at hr
  obtain ⟨rfl, rfl⟩ := hr
  refine ⟨vc, ?_⟩
  refine AWPB_takeB tab_ok [0, 1, 2, 6, 7, 9, 10, 11, 12, 13, 14, 15, 16, 17, 18, 19, 20, 21, 22, 23, 24, 25, 26, 27] 2 [3, 4, 17, 18, 19, 20, 21] _ rfl ceg_rotabig_Int_Add_r_1_2 fun c st' hr => ?_
  simp only [go_sem] at hr
  obtain ⟨rfl, rfl⟩ := hr
  refine ⟨vc, ?_⟩
  refine AWPB_takeB tab_ok [0, 1, 2, 6, 7, 10, 11, 12, 13, 14, 15, 16, 17, 18, 19, 20, 21, 22, 23, 24, 25, 26, 27] 3 [4, 17, 18, 19, 20, 21] _ rfl ceg_rotabig_Int_Add_r_1_3 fun c st' hr => ?_
  simp only [go_sem] at hr
  obtain ⟨rfl, rfl⟩ := hr
  refine ⟨vc, ?_⟩
  refine AWPB_takeB tab_ok [0, 1, 2, 6, 7, 11, 12, 13, 14, 15, 16, 17, 18, 19, 20, 21, 22, 23, 24, 25, 26, 27] 4 [17, 18, 19, 20, 21] _ rfl ceg_rotabig_Int_Add_r_1_4 fun c st' hr => ?_
  simp only [go_sem] at hr
  obtain ⟨rfl, rfl⟩ := hr
  refine ⟨vc, ?_⟩
  refine AWPB_takeB tab_ok [0, 2, 6, 7, 11, 12, 13, 14, 15, 16, 17, 18, 19, 20, 21, 22, 23, 24, 25, 26, 27] 5 [6, 7, 8, 17, 18, 19, 20, 21] _ rfl ceg_rotabig_Int_Add_r_1_5 fun c st' hr => ?_
  simp only [go_sem] at hr
  obtain ⟨rfl, rfl⟩ := hr
  refine ⟨vc, ?_⟩
  refine AWPB_takeB tab_ok [0, 2, 6, 7, 11, 13, 14, 15, 16, 17, 18, 19, 20, 21, 22, 23, 24, 25, 26, 27] 6 [7, 8, 17, 18, 19, 20, 21] _ rfl ceg_rotabig_Int_Add_r_1_6 fun c st' hr => ?_
  simp only [go_sem] at hr
  obtain ⟨rfl, rfl⟩ := hr
  refine ⟨vc, ?_⟩
  refine AWPB_takeB tab_ok [0, 2, 6, 7, 11, 14, 15, 16, 17, 18, 19, 20, 21, 22, 23, 24, 25, 26, 27] 7 [8, 17, 18, 19, 20, 21] _ rfl ceg_rotabig_Int_Add_r_1_7 fun c st' hr => ?_
  simp only [go_sem] at hr
  obtain ⟨rfl, rfl⟩ := hr
  refine ⟨vc, ?_⟩
  refine AWPB_takeB tab_ok [0, 2, 6, 7, 11, 15, 16, 17, 18, 19, 20, 21, 22, 23, 24, 25, 26, 27] 8 [17, 18, 19, 20, 21] _ rfl ceg_rotabig_Int_Add_r_1_8 fun c st' hr => ?_
  simp only [go_sem] at hr
  obtain ⟨rfl, rfl⟩ := hr
  refine ⟨vc, ?_⟩
  refine AWPB_takeB tab_ok [0, 2, 6, 7, 11, 15, 16, 17, 18, 19, 20, 21, 22, 23, 24, 25, 26, 27] 9 [10, 11, 12, 17, 18, 19, 20, 21] _ rfl ceg_rotabig_Int_Add_r_1_9 fun c st' hr => ?_
  simp only [go_sem] at hr
  obtain ⟨rfl, rfl⟩ := hr
  refine ⟨vc, ?_⟩
  refine AWPB_takeB tab_ok [0, 2, 6, 7, 11, 15, 17, 18, 19, 20, 21, 22, 23, 24, 25, 26, 27] 10 [11, 12, 17, 18, 19, 20, 21] _ rfl ceg_rotabig_Int_Add_r_1_10 fun c st' hr => ?_
  simp only [go_sem] at hr
  obtain ⟨rfl, rfl⟩ := hr
  refine ⟨vc, ?_⟩
  refine AWPB_takeB tab_ok [0, 2, 6, 7, 11, 15, 18, 19, 20, 21, 22, 23, 24, 25, 26, 27] 11 [12, 17, 18, 19, 20, 21] _ rfl ceg_rotabig_Int_Add_r_1_11 fun c st' hr => ?_
  simp only [go_sem] at hr
  obtain ⟨rfl, rfl⟩ := hr
  refine ⟨vc, ?_⟩
  refine AWPB_takeB tab_ok [0, 2, 6, 7, 11, 15, 19, 20, 21, 22, 23, 24, 25, 26, 27] 12 [17, 18, 19, 20, 21] _ rfl ceg_rotabig_Int_Add_r_1_12 fun c st' hr => ?_
  simp only [go_sem] at hr
  obtain ⟨rfl, rfl⟩ := hr
  refine ⟨vc, ?_⟩
  refine AWPB_takeB tab_ok [0, 6, 7, 11, 15, 19, 20, 21, 22, 23, 24, 25, 26, 27] 13 [14, 15, 16, 17, 18, 19, 20, 21] _ rfl ceg_rotabig_Int_Add_r_1_13 fun c st' hr => ?_
  simp only [go_sem] at hr
  obtain ⟨rfl, rfl⟩ := hr
  refine ⟨vc, ?_⟩
  refine AWPB_takeB tab_ok [0, 6, 7, 11, 15, 19, 21, 22, 23, 24, 25, 26, 27] 14 [15, 16, 17, 18, 19, 20, 21] _ rfl ceg_rotabig_Int_Add_r_1_14 fun c st' hr => ?_
  simp only [go_sem] at hr
  obtain ⟨rfl, rfl⟩ := hr
  refine ⟨vc, ?_⟩
  refine AWPB_takeB tab_ok [0, 6, 7, 11, 15, 19, 22, 23, 24, 25, 26, 27] 15 [16, 17, 18, 19, 20, 21] _ rfl ceg_rotabig_Int_Add_r_1_15 fun c st' hr => ?_
  simp only [go_sem] at hr
  obtain ⟨rfl, rfl⟩ := hr
  refine ⟨vc, ?_⟩
  refine AWPB_takeB tab_ok [0, 6, 7, 11, 15, 19, 23, 24, 25, 26, 27] 16 [17, 18, 19, 20, 21] _ rfl ceg_rotabig_Int_Add_r_1_16 fun c st' hr => ?_
  simp only [go_sem] at hr
  obtain ⟨rfl, rfl⟩ := hr
  refine ⟨vc, ?_⟩
  exact AWPB_wk [0, 1, 2] mkWk ((hAA _ _ _).1 hn5))


theorem W_rotabig_Int_Add_r {x_0 : Bool} {x_1 : List Int} {y_0 : Bool} {y_1 : List Int} {q0 : Bool × List Int} {r : Bool × List Int} (hK : rotabig_Int_Add_r x_0 x_1 y_0 y_1 q0 = some r) : InG Try.prog 64 [(.gen 31 2 [[.bool q0.1, .own 1 q0.2.length]]), (.ints 186 .u32 q0.2)] 1 (fun _ => [.ptr 0 0 0, .immp [.bool x_0, .ints .u32 x_1], .immp [.bool y_0, .ints .u32 y_1]]) (.ptr 0 0 0) [(.gen 31 2 [[.bool r.1, .own 1 r.2.length]]), (.ints 186 .u32 r.2)] := by
  refine InG_intro tab_ok (n := 28) (l := [.tmp 6]) Try.func64 rfl rfl rfl (fun ls => by first | (split <;> simp) | simp) (of_decide_eq_true rfl) (of_decide_eq_true rfl) rfl rfl rfl (by simp [renB, ren0, renI, List.range, List.range.loop]) (of_decide_eq_true rfl) (of_decide_eq_true rfl) fun w0 ls hls => ?_
  obtain ⟨pl0, rfl⟩ : ∃ pl0, ls = [pl0] := by
    match ls, hls with
    | [a], _ => exact ⟨a, rfl⟩
  simp only [pinL, List.map_cons, List.map_nil, List.cons_append, List.nil_append, Nat.zero_add, Nat.reduceAdd]
  unfold rotabig_Int_Add_r at hK
  refine AWP_seq ?_
  refine AWP_rg tab_ok [0, 1, 2] fun c st' hr => ?_
  simp only [go_sem] at hr
  obtain ⟨rfl, rfl⟩ := hr
  refine ⟨vc, ?_⟩
  with_reducible refine thenC_normal ?_
  refine AWP_seq ?_
  replace hK := bind_s hK
  obtain ⟨y1, hy, hK⟩ := hK
  replace hK := bind_s hK
  obtain ⟨y2, hy1, hK⟩ := hK
  refine AWP_drawJ ⟨28, [(6, .ptr 0 0 0)], [some (.gen 31 2 [[.bool y2.1, .own 4 y2.2.length]]), none, some (.pin 0 pl0), none, some (.ints 186 .u32 y2.2)]⟩ mixed ?_ ?_
  ·change AWPB _ _ reg_rotabig_Int_Add_r_1.toArray _ _ _ _
   refine AWPB_memo fun AA hAA => ?_
   have hn : AA 0 #[true, true, true, true, true, true, true, true, true, true, true, true, true, true, true, true, true, true, true, true, true, true] ⟨28, [(6, .ptr 0 0 0)], [some (.gen 31 2 [[.bool y2.1, .own 4 y2.2.length]]), none, some (.pin 0 pl0), none, some (.ints 186 .u32 y2.2)]⟩ := (hAA _ _ _).2 (by
    exact AWPB_end [0, 1, 2, 3, 4] ceg_rotabig_Int_Add_r_1_20 mkWk)
   have hn1 := J_rotabig_Int_Add_r_1_hn1 hy hy1 hAA hn
   have hn2 := J_rotabig_Int_Add_r_1_hn2 hy hy1 hAA hn1
   have hn3 := J_rotabig_Int_Add_r_1_hn3 hy hy1 hAA hn2
   have hn4 := J_rotabig_Int_Add_r_1_hn4 hy hy1 hAA hn3
   have hn5 := J_rotabig_Int_Add_r_1_hn5 hy hy1 hAA hn4
   have hn6 := J_rotabig_Int_Add_r_1_hn6 hy hy1 hAA hn5
   exact (hAA _ _ _).2 (AWPB_wk [0, 1, 2] mkWk ((hAA _ _ _).1 hn6))
  with_reducible refine thenC_normal ?_
  refine AWP_ret ?_
  cases hK
  refine EndsRW [0, 4, 2] (.inl rfl) (of_decide_eq_true rfl) (by simp) rfl (fun c x hr => ?_) endH
  simp only [go_sem] at hr
  obtain ⟨rfl, rfl⟩ := hr
  exact ⟨rfl, endR⟩

/-- The operations of a drawn region. -/
def reg_rotabig_Rat_Add_A_1 : List Oper := (⟨_, rfl⟩ : { l : List Oper // (Try.f16.body.bind (regIn 1)) = some l }).1

theorem ceg_rotabig_Rat_Add_A_1_1 : firstOk reg_rotabig_Rat_Add_A_1.toArray #[false, false, false, false, false, false, false, false, false, false, false, false, false, false, false, false, false] 5 [6, 7, 13, 14, 15, 16] = true := by kernel_rfl

theorem ceg_rotabig_Rat_Add_A_1_2 : firstOk reg_rotabig_Rat_Add_A_1.toArray #[true, true, true, true, true, true, true, true, true, true, true, true, true, true, true, true, false] 16 [] = true := by kernel_rfl

theorem ceg_rotabig_Rat_Add_A_1_3 : (Region.ready .any reg_rotabig_Rat_Add_A_1.toArray #[true, true, true, true, true, true, true, true, true, true, true, true, true, true, true, true, true] == []) = true := by kernel_rfl

theorem J_rotabig_Rat_Add_A_1_hn1 {q0 : (Bool × List Int) × (Bool × List Int)} {q1 : (Bool × List Int) × (Bool × List Int)} {y1 : (Bool × List Int) × (Bool × List Int)} {y2 : Bool × List Int} {y3 : (Bool × List Int) × ((Bool × List Int) × (Bool × List Int))} {y4 : Bool × List Int} {y5 : Bool × List Int} {pl0 : AX.Loc} {pl1 : AX.Loc} (hy : rotabig_Rat_den_B ((q1.1.1, q1.1.2), (q1.2.1, q1.2.2)) = some y1) (hy1 : rotabig_Int_Mul_r q0.1.1 q0.1.2 y1.2.1 y1.2.2 (false, []) = some y2) (hy2 : rotabig_Rat_den_A ((q0.1.1, q0.1.2), (q0.2.1, q0.2.2)) = some y3) (hy3 : rotabig_Int_Mul_r y1.1.1 y1.1.2 y3.1.1 y3.1.2 (false, []) = some y4) (hy4 : rotabig_Int_Add_r y2.1 y2.2 y4.1 y4.2 (false, []) = some y5) {w0 : World} {Q : Exit → St → Prop} {AA : Nat → Array Bool → St → Prop} (hAA : ∀ g L st, AA g L st ↔ AWPB Try.prog w0 reg_rotabig_Rat_Add_A_1.toArray Q g L st) (hn : AA 0 #[true, true, true, true, true, true, true, true, true, true, true, true, true, true, true, true, true] ⟨33, [(0, .ptr 0 0 0), (1, .ptr 0 0 0), (2, .ptr 1 0 0), (7, .ptr 8 0 0)], [some (.gen 33 4 [[.bool y3.2.1.1, .own 15 y3.2.1.2.length, .bool y3.2.2.1, .own 16 y3.2.2.2.length]]), some (.gen 33 4 [[.bool y1.1.1, .own 10 y1.1.2.length, .bool y1.2.1, .own 11 y1.2.2.length]]), none, none, none, none, some (.pin 0 pl0), some (.pin 1 pl1), some (.gen 31 2 [[.bool y5.1, .own 22 y5.2.length]]), some (.gen 31 2 [[.bool y2.1, .own 13 y2.2.length]]), some (.ints 186 .u32 y1.1.2), some (.ints 186 .u32 y1.2.2), none, some (.ints 186 .u32 y2.2), some (.gen 31 2 [[.bool y4.1, .own 20 y4.2.length]]), some (.ints 186 .u32 y3.2.1.2), some (.ints 186 .u32 y3.2.2.2), some (.gen 31 2 [[.bool y3.1.1, .own 18 y3.1.2.length]]), some (.ints 186 .u32 y3.1.2), none, some (.ints 186 .u32 y4.2), none, some (.ints 186 .u32 y5.2)]⟩) : AA 1 #[true, true, true, true, true, true, true, true, true, true, true, true, true, true, true, true, false] ⟨33, [(0, .ptr 0 0 0), (1, .ptr 0 0 0), (2, .ptr 1 0 0), (23, .ptr 8 0 0)], [some (.gen 33 4 [[.bool y3.2.1.1, .own 15 y3.2.1.2.length, .bool y3.2.2.1, .own 16 y3.2.2.2.length]]), some (.gen 33 4 [[.bool y1.1.1, .own 10 y1.1.2.length, .bool y1.2.1, .own 11 y1.2.2.length]]), none, none, none, none, some (.pin 0 pl0), some (.pin 1 pl1), some (.gen 31 2 [[.bool y5.1, .own 22 y5.2.length]]), some (.gen 31 2 [[.bool y2.1, .own 13 y2.2.length]]), some (.ints 186 .u32 y1.1.2), some (.ints 186 .u32 y1.2.2), none, some (.ints 186 .u32 y2.2), some (.gen 31 2 [[.bool y4.1, .own 20 y4.2.length]]), some (.ints 186 .u32 y3.2.1.2), some (.ints 186 .u32 y3.2.2.2), some (.gen 31 2 [[.bool y3.1.1, .own 18 y3.1.2.length]]), some (.ints 186 .u32 y3.1.2), none, some (.ints 186 .u32 y4.2), none, some (.ints 186 .u32 y5.2)]⟩ := (hAA _ _ _).2 (by
  refine AWPB_takeB tab_ok [0, 1, 2, 7] 16 [] _ rfl ceg_rotabig_Rat_Add_A_1_2 fun c st' hr => ?_
  simp only [go_sem] at hr
  obtain ⟨rfl, rfl⟩ := hr
  refine ⟨vc, ?_⟩
  exact AWPB_wk [0, 1, 2, 3, 4, 5, 6, 7, 8, 9, 10, 11, 12, 13, 14, 15, 16, 17, 18, 19, 20, 21, 22] mkWk ((hAA _ _ _).1 hn))

theorem ceg_rotabig_Rat_Add_A_1_5 : (Region.ready .any reg_rotabig_Rat_Add_A_1.toArray #[true, true, true, true, true, true, true, true, true, true, true, true, true, true, true, false, false] == [15]) = true := by kernel_rfl

theorem J_rotabig_Rat_Add_A_1_hn2 {q0 : (Bool × List Int) × (Bool × List Int)} {q1 : (Bool × List Int) × (Bool × List Int)} {y1 : (Bool × List Int) × (Bool × List Int)} {y2 : Bool × List Int} {y3 : (Bool × List Int) × ((Bool × List Int) × (Bool × List Int))} {y4 : Bool × List Int} {y5 : Bool × List Int} {pl0 : AX.Loc} {pl1 : AX.Loc} (hy : rotabig_Rat_den_B ((q1.1.1, q1.1.2), (q1.2.1, q1.2.2)) = some y1) (hy1 : rotabig_Int_Mul_r q0.1.1 q0.1.2 y1.2.1 y1.2.2 (false, []) = some y2) (hy2 : rotabig_Rat_den_A ((q0.1.1, q0.1.2), (q0.2.1, q0.2.2)) = some y3) (hy3 : rotabig_Int_Mul_r y1.1.1 y1.1.2 y3.1.1 y3.1.2 (false, []) = some y4) (hy4 : rotabig_Int_Add_r y2.1 y2.2 y4.1 y4.2 (false, []) = some y5) {w0 : World} {Q : Exit → St → Prop} {AA : Nat → Array Bool → St → Prop} (hAA : ∀ g L st, AA g L st ↔ AWPB Try.prog w0 reg_rotabig_Rat_Add_A_1.toArray Q g L st) (hn1 : AA 1 #[true, true, true, true, true, true, true, true, true, true, true, true, true, true, true, true, false] ⟨33, [(0, .ptr 0 0 0), (1, .ptr 0 0 0), (2, .ptr 1 0 0), (23, .ptr 8 0 0)], [some (.gen 33 4 [[.bool y3.2.1.1, .own 15 y3.2.1.2.length, .bool y3.2.2.1, .own 16 y3.2.2.2.length]]), some (.gen 33 4 [[.bool y1.1.1, .own 10 y1.1.2.length, .bool y1.2.1, .own 11 y1.2.2.length]]), none, none, none, none, some (.pin 0 pl0), some (.pin 1 pl1), some (.gen 31 2 [[.bool y5.1, .own 22 y5.2.length]]), some (.gen 31 2 [[.bool y2.1, .own 13 y2.2.length]]), some (.ints 186 .u32 y1.1.2), some (.ints 186 .u32 y1.2.2), none, some (.ints 186 .u32 y2.2), some (.gen 31 2 [[.bool y4.1, .own 20 y4.2.length]]), some (.ints 186 .u32 y3.2.1.2), some (.ints 186 .u32 y3.2.2.2), some (.gen 31 2 [[.bool y3.1.1, .own 18 y3.1.2.length]]), some (.ints 186 .u32 y3.1.2), none, some (.ints 186 .u32 y4.2), none, some (.ints 186 .u32 y5.2)]⟩) : AA 2 #[true, true, true, true, true, true, true, true, true, true, true, true, true, true, true, false, false] ⟨33, [(0, .ptr 0 0 0), (1, .ptr 0 0 0), (2, .ptr 1 0 0), (8, .ptr 8 0 0), (15, .ptr 9 0 0), (22, .ptr 14 0 0)], [some (.gen 33 4 [[.bool y3.2.1.1, .own 15 y3.2.1.2.length, .bool y3.2.2.1, .own 16 y3.2.2.2.length]]), some (.gen 33 4 [[.bool y1.1.1, .own 10 y1.1.2.length, .bool y1.2.1, .own 11 y1.2.2.length]]), none, none, none, none, some (.pin 0 pl0), some (.pin 1 pl1), some (.gen 31 2 [[.bool false, .nil]]), some (.gen 31 2 [[.bool y2.1, .own 13 y2.2.length]]), some (.ints 186 .u32 y1.1.2), some (.ints 186 .u32 y1.2.2), none, some (.ints 186 .u32 y2.2), some (.gen 31 2 [[.bool y4.1, .own 20 y4.2.length]]), some (.ints 186 .u32 y3.2.1.2), some (.ints 186 .u32 y3.2.2.2), some (.gen 31 2 [[.bool y3.1.1, .own 18 y3.1.2.length]]), some (.ints 186 .u32 y3.1.2), none, some (.ints 186 .u32 y4.2)]⟩ := (hAA _ _ _).2 (by
  refine AWPB_one 15 _ ceg_rotabig_Rat_Add_A_1_5 rfl ?_
  refine AWPL_gs' (gs_ownH 8 1 (.ints 186 .u32 []) rfl rfl rfl) fun st' hr => ?_
  simp only [go_sem, List.cons_append, List.nil_append, List.set_cons_zero, List.set_cons_succ] at hr
  subst hr
  refine AWPL_gS [0, 1, 2, 7, 23] [8, 21] [.ptr 0 0 0, .immp [.bool y2.1, .ints .u32 y2.2], .immp [.bool y4.1, .ints .u32 y4.2]] [some (.gen 33 4 [[.bool y3.2.1.1, .own 15 y3.2.1.2.length, .bool y3.2.2.1, .own 16 y3.2.2.2.length]]), some (.gen 33 4 [[.bool y1.1.1, .own 10 y1.1.2.length, .bool y1.2.1, .own 11 y1.2.2.length]]), none, none, none, none, some (.pin 0 pl0), some (.pin 1 pl1), some (.gen 31 2 [[.bool y5.1, .own 22 y5.2.length]]), some (.gen 31 2 [[.bool y2.1, .own 13 y2.2.length]]), some (.ints 186 .u32 y1.1.2), some (.ints 186 .u32 y1.2.2), none, some (.ints 186 .u32 y2.2), some (.gen 31 2 [[.bool y4.1, .own 20 y4.2.length]]), some (.ints 186 .u32 y3.2.1.2), some (.ints 186 .u32 y3.2.2.2), some (.gen 31 2 [[.bool y3.1.1, .own 18 y3.1.2.length]]), some (.ints 186 .u32 y3.1.2), none, some (.ints 186 .u32 y4.2), none, some (.ints 186 .u32 y5.2)] (r' := .ptr 8 0 0) (W_rotabig_Int_Add_r hy4) rfl rfl pcT rfl Try.call64 (of_decide_eq_true rfl) ⟨rfl, rfl, trivial⟩ (.ptr 0 rfl (.cons (ArgOk.part (j0 := 0) rfl rfl (of_decide_eq_true rfl) (.cons (.atom _ rfl) (.cons (.ownI _ _ _ _ _ y2.2 rfl (by simp) (by first | simp | exact List.take_of_length_le (by simp))) .nil))) (.cons (ArgOk.part (j0 := 0) rfl rfl (of_decide_eq_true rfl) (.cons (.atom _ rfl) (.cons (.ownI _ _ _ _ _ y4.2 rfl (by simp) (by first | simp | exact List.take_of_length_le (by simp))) .nil))) .nil))) (hscG trivial) (of_decide_eq_true rfl) rfl rfl rfl (of_decide_eq_true rfl) rfl fun st' hr => ?_
  simp only [go_sem] at hr
  subst hr
  refine AWPL_nil ?_
  refine QB_normal ?_
  exact AWPB_wk [0, 1, 2, 3, 4, 5, 6, 7, 8, 9, 10, 11, 12, 13, 14, 15, 16, 17, 18, 19, 20, 21, 22] mkWk ((hAA _ _ _).1 hn1))

theorem ceg_rotabig_Rat_Add_A_1_7 : (Region.ready .any reg_rotabig_Rat_Add_A_1.toArray #[true, true, true, true, true, true, true, true, true, true, true, true, true, true, false, false, false] == [14]) = true := by kernel_rfl

theorem J_rotabig_Rat_Add_A_1_hn3 {q0 : (Bool × List Int) × (Bool × List Int)} {q1 : (Bool × List Int) × (Bool × List Int)} {y1 : (Bool × List Int) × (Bool × List Int)} {y2 : Bool × List Int} {y3 : (Bool × List Int) × ((Bool × List Int) × (Bool × List Int))} {y4 : Bool × List Int} {y5 : Bool × List Int} {pl0 : AX.Loc} {pl1 : AX.Loc} (hy : rotabig_Rat_den_B ((q1.1.1, q1.1.2), (q1.2.1, q1.2.2)) = some y1) (hy1 : rotabig_Int_Mul_r q0.1.1 q0.1.2 y1.2.1 y1.2.2 (false, []) = some y2) (hy2 : rotabig_Rat_den_A ((q0.1.1, q0.1.2), (q0.2.1, q0.2.2)) = some y3) (hy3 : rotabig_Int_Mul_r y1.1.1 y1.1.2 y3.1.1 y3.1.2 (false, []) = some y4) (hy4 : rotabig_Int_Add_r y2.1 y2.2 y4.1 y4.2 (false, []) = some y5) {w0 : World} {Q : Exit → St → Prop} {AA : Nat → Array Bool → St → Prop} (hAA : ∀ g L st, AA g L st ↔ AWPB Try.prog w0 reg_rotabig_Rat_Add_A_1.toArray Q g L st) (hn2 : AA 2 #[true, true, true, true, true, true, true, true, true, true, true, true, true, true, true, false, false] ⟨33, [(0, .ptr 0 0 0), (1, .ptr 0 0 0), (2, .ptr 1 0 0), (8, .ptr 8 0 0), (15, .ptr 9 0 0), (22, .ptr 14 0 0)], [some (.gen 33 4 [[.bool y3.2.1.1, .own 15 y3.2.1.2.length, .bool y3.2.2.1, .own 16 y3.2.2.2.length]]), some (.gen 33 4 [[.bool y1.1.1, .own 10 y1.1.2.length, .bool y1.2.1, .own 11 y1.2.2.length]]), none, none, none, none, some (.pin 0 pl0), some (.pin 1 pl1), some (.gen 31 2 [[.bool false, .nil]]), some (.gen 31 2 [[.bool y2.1, .own 13 y2.2.length]]), some (.ints 186 .u32 y1.1.2), some (.ints 186 .u32 y1.2.2), none, some (.ints 186 .u32 y2.2), some (.gen 31 2 [[.bool y4.1, .own 20 y4.2.length]]), some (.ints 186 .u32 y3.2.1.2), some (.ints 186 .u32 y3.2.2.2), some (.gen 31 2 [[.bool y3.1.1, .own 18 y3.1.2.length]]), some (.ints 186 .u32 y3.1.2), none, some (.ints 186 .u32 y4.2)]⟩) : AA 3 #[true, true, true, true, true, true, true, true, true, true, true, true, true, true, false, false, false] ⟨33, [(0, .ptr 0 0 0), (1, .ptr 0 0 0), (2, .ptr 1 0 0), (8, .ptr 8 0 0), (15, .ptr 9 0 0), (16, .ptr 14 0 0), (19, .ptr 1 0 0), (21, .ptr 17 0 0)], [some (.gen 33 4 [[.bool y3.2.1.1, .own 15 y3.2.1.2.length, .bool y3.2.2.1, .own 16 y3.2.2.2.length]]), some (.gen 33 4 [[.bool y1.1.1, .own 10 y1.1.2.length, .bool y1.2.1, .own 11 y1.2.2.length]]), none, none, none, none, some (.pin 0 pl0), some (.pin 1 pl1), some (.gen 31 2 [[.bool false, .nil]]), some (.gen 31 2 [[.bool y2.1, .own 13 y2.2.length]]), some (.ints 186 .u32 y1.1.2), some (.ints 186 .u32 y1.2.2), none, some (.ints 186 .u32 y2.2), some (.gen 31 2 [[.bool false, .nil]]), some (.ints 186 .u32 y3.2.1.2), some (.ints 186 .u32 y3.2.2.2), some (.gen 31 2 [[.bool y3.1.1, .own 18 y3.1.2.length]]), some (.ints 186 .u32 y3.1.2)]⟩ := (hAA _ _ _).2 (by
  refine AWPB_one 14 _ ceg_rotabig_Rat_Add_A_1_7 rfl ?_
  refine AWPL_gs' (gs_ownH 14 1 (.ints 186 .u32 []) rfl rfl rfl) fun st' hr => ?_
  simp only [go_sem, List.cons_append, List.nil_append, List.set_cons_zero, List.set_cons_succ] at hr
  subst hr
  refine AWPL_gS [0, 1, 2, 7, 8, 15, 22, 23] [14, 19] [.ptr 0 0 0, .immp [.bool y1.1.1, .ints .u32 y1.1.2], .immp [.bool y3.1.1, .ints .u32 y3.1.2]] [some (.gen 33 4 [[.bool y3.2.1.1, .own 15 y3.2.1.2.length, .bool y3.2.2.1, .own 16 y3.2.2.2.length]]), some (.gen 33 4 [[.bool y1.1.1, .own 10 y1.1.2.length, .bool y1.2.1, .own 11 y1.2.2.length]]), none, none, none, none, some (.pin 0 pl0), some (.pin 1 pl1), some (.gen 31 2 [[.bool false, .nil]]), some (.gen 31 2 [[.bool y2.1, .own 13 y2.2.length]]), some (.ints 186 .u32 y1.1.2), some (.ints 186 .u32 y1.2.2), none, some (.ints 186 .u32 y2.2), some (.gen 31 2 [[.bool y4.1, .own 20 y4.2.length]]), some (.ints 186 .u32 y3.2.1.2), some (.ints 186 .u32 y3.2.2.2), some (.gen 31 2 [[.bool y3.1.1, .own 18 y3.1.2.length]]), some (.ints 186 .u32 y3.1.2), none, some (.ints 186 .u32 y4.2)] (r' := .ptr 14 0 0) (W_rotabig_Int_Mul_r hy3) rfl rfl pcT rfl Try.call65 (of_decide_eq_true rfl) ⟨rfl, rfl, trivial⟩ (.ptr 0 rfl (.cons (ArgOk.part (j0 := 0) rfl rfl (of_decide_eq_true rfl) (.cons (.atom _ rfl) (.cons (.ownI _ _ _ _ _ y1.1.2 rfl (by simp) (by first | simp | exact List.take_of_length_le (by simp))) .nil))) (.cons (ArgOk.part (j0 := 0) rfl rfl (of_decide_eq_true rfl) (.cons (.atom _ rfl) (.cons (.ownI _ _ _ _ _ y3.1.2 rfl (by simp) (by first | simp | exact List.take_of_length_le (by simp))) .nil))) .nil))) (hscG trivial) (of_decide_eq_true rfl) rfl rfl rfl (of_decide_eq_true rfl) rfl fun st' hr => ?_
  simp only [go_sem] at hr
  subst hr
  refine AWPL_nil ?_
  refine QB_normal ?_
  exact AWPB_wk [0, 1, 2, 3, 4, 5, 6, 7, 8, 9, 10, 11, 12, 13, 14, 15, 16, 17, 18, 19, 20] mkWk ((hAA _ _ _).1 hn2))

theorem ceg_rotabig_Rat_Add_A_1_9 : (Region.ready .any reg_rotabig_Rat_Add_A_1.toArray #[true, true, true, true, true, true, true, true, true, true, true, true, true, false, false, false, false] == [13]) = true := by kernel_rfl

theorem J_rotabig_Rat_Add_A_1_hn4 {q0 : (Bool × List Int) × (Bool × List Int)} {q1 : (Bool × List Int) × (Bool × List Int)} {y1 : (Bool × List Int) × (Bool × List Int)} {y2 : Bool × List Int} {y3 : (Bool × List Int) × ((Bool × List Int) × (Bool × List Int))} {y4 : Bool × List Int} {y5 : Bool × List Int} {pl0 : AX.Loc} {pl1 : AX.Loc} (hy : rotabig_Rat_den_B ((q1.1.1, q1.1.2), (q1.2.1, q1.2.2)) = some y1) (hy1 : rotabig_Int_Mul_r q0.1.1 q0.1.2 y1.2.1 y1.2.2 (false, []) = some y2) (hy2 : rotabig_Rat_den_A ((q0.1.1, q0.1.2), (q0.2.1, q0.2.2)) = some y3) (hy3 : rotabig_Int_Mul_r y1.1.1 y1.1.2 y3.1.1 y3.1.2 (false, []) = some y4) (hy4 : rotabig_Int_Add_r y2.1 y2.2 y4.1 y4.2 (false, []) = some y5) {w0 : World} {Q : Exit → St → Prop} {AA : Nat → Array Bool → St → Prop} (hAA : ∀ g L st, AA g L st ↔ AWPB Try.prog w0 reg_rotabig_Rat_Add_A_1.toArray Q g L st) (hn3 : AA 3 #[true, true, true, true, true, true, true, true, true, true, true, true, true, true, false, false, false] ⟨33, [(0, .ptr 0 0 0), (1, .ptr 0 0 0), (2, .ptr 1 0 0), (8, .ptr 8 0 0), (15, .ptr 9 0 0), (16, .ptr 14 0 0), (19, .ptr 1 0 0), (21, .ptr 17 0 0)], [some (.gen 33 4 [[.bool y3.2.1.1, .own 15 y3.2.1.2.length, .bool y3.2.2.1, .own 16 y3.2.2.2.length]]), some (.gen 33 4 [[.bool y1.1.1, .own 10 y1.1.2.length, .bool y1.2.1, .own 11 y1.2.2.length]]), none, none, none, none, some (.pin 0 pl0), some (.pin 1 pl1), some (.gen 31 2 [[.bool false, .nil]]), some (.gen 31 2 [[.bool y2.1, .own 13 y2.2.length]]), some (.ints 186 .u32 y1.1.2), some (.ints 186 .u32 y1.2.2), none, some (.ints 186 .u32 y2.2), some (.gen 31 2 [[.bool false, .nil]]), some (.ints 186 .u32 y3.2.1.2), some (.ints 186 .u32 y3.2.2.2), some (.gen 31 2 [[.bool y3.1.1, .own 18 y3.1.2.length]]), some (.ints 186 .u32 y3.1.2)]⟩) : AA 4 #[true, true, true, true, true, true, true, true, true, true, true, true, true, false, false, false, false] ⟨33, [(0, .ptr 0 0 0), (1, .ptr 0 0 0), (2, .ptr 1 0 0), (8, .ptr 8 0 0), (15, .ptr 9 0 0), (16, .ptr 14 0 0), (19, .ptr 1 0 0), (20, .ptr 0 0 0)], [some (.gen 33 4 [[.bool q0.1.1, .own 2 q0.1.2.length, .bool q0.2.1, .own 3 q0.2.2.length]]), some (.gen 33 4 [[.bool y1.1.1, .own 10 y1.1.2.length, .bool y1.2.1, .own 11 y1.2.2.length]]), some (.ints 186 .u32 q0.1.2), some (.ints 186 .u32 q0.2.2), none, none, some (.pin 0 pl0), some (.pin 1 pl1), some (.gen 31 2 [[.bool false, .nil]]), some (.gen 31 2 [[.bool y2.1, .own 13 y2.2.length]]), some (.ints 186 .u32 y1.1.2), some (.ints 186 .u32 y1.2.2), none, some (.ints 186 .u32 y2.2), some (.gen 31 2 [[.bool false, .nil]])]⟩ := (hAA _ _ _).2 (by
  refine AWPB_one 13 _ ceg_rotabig_Rat_Add_A_1_9 rfl ?_
  refine AWPL_gR [0, 1, 2, 7, 8, 15, 16, 19, 21, 22, 23] [0, 2, 3] [.ptr 0 0 0] [some (.gen 33 4 [[.bool y3.2.1.1, .own 15 y3.2.1.2.length, .bool y3.2.2.1, .own 16 y3.2.2.2.length]]), some (.gen 33 4 [[.bool y1.1.1, .own 10 y1.1.2.length, .bool y1.2.1, .own 11 y1.2.2.length]]), none, none, none, none, some (.pin 0 pl0), some (.pin 1 pl1), some (.gen 31 2 [[.bool false, .nil]]), some (.gen 31 2 [[.bool y2.1, .own 13 y2.2.length]]), some (.ints 186 .u32 y1.1.2), some (.ints 186 .u32 y1.2.2), none, some (.ints 186 .u32 y2.2), some (.gen 31 2 [[.bool false, .nil]]), some (.ints 186 .u32 y3.2.1.2), some (.ints 186 .u32 y3.2.2.2), some (.gen 31 2 [[.bool y3.1.1, .own 18 y3.1.2.length]]), some (.ints 186 .u32 y3.1.2)] (r' := .ptr 17 0 0) (W_rotabig_Rat_den_A hy2) rfl rfl pcT rfl Try.call66 (of_decide_eq_true rfl) ⟨rfl, rfl, rfl, trivial⟩ rfl (hscG trivial) (of_decide_eq_true rfl) rfl rfl rfl (of_decide_eq_true rfl) rfl fun st' hr => ?_
  simp only [go_sem] at hr
  subst hr
  refine AWPL_nil ?_
  refine QB_normal ?_
  exact AWPB_wk [0, 1, 2, 3, 4, 5, 6, 7, 8, 9, 10, 11, 12, 13, 14, 15, 16, 17, 18] mkWk ((hAA _ _ _).1 hn3))

theorem ceg_rotabig_Rat_Add_A_1_11 : (Region.ready .any reg_rotabig_Rat_Add_A_1.toArray #[true, true, true, true, true, true, true, true, false, true, true, true, true, true, false, false, false] == [8]) = true := by kernel_rfl

theorem J_rotabig_Rat_Add_A_1_hn5 {q0 : (Bool × List Int) × (Bool × List Int)} {q1 : (Bool × List Int) × (Bool × List Int)} {y1 : (Bool × List Int) × (Bool × List Int)} {y2 : Bool × List Int} {y3 : (Bool × List Int) × ((Bool × List Int) × (Bool × List Int))} {y4 : Bool × List Int} {y5 : Bool × List Int} {pl0 : AX.Loc} {pl1 : AX.Loc} (hy : rotabig_Rat_den_B ((q1.1.1, q1.1.2), (q1.2.1, q1.2.2)) = some y1) (hy1 : rotabig_Int_Mul_r q0.1.1 q0.1.2 y1.2.1 y1.2.2 (false, []) = some y2) (hy2 : rotabig_Rat_den_A ((q0.1.1, q0.1.2), (q0.2.1, q0.2.2)) = some y3) (hy3 : rotabig_Int_Mul_r y1.1.1 y1.1.2 y3.1.1 y3.1.2 (false, []) = some y4) (hy4 : rotabig_Int_Add_r y2.1 y2.2 y4.1 y4.2 (false, []) = some y5) {w0 : World} {Q : Exit → St → Prop} {AA : Nat → Array Bool → St → Prop} (hAA : ∀ g L st, AA g L st ↔ AWPB Try.prog w0 reg_rotabig_Rat_Add_A_1.toArray Q g L st) (hn3 : AA 3 #[true, true, true, true, true, true, true, true, true, true, true, true, true, true, false, false, false] ⟨33, [(0, .ptr 0 0 0), (1, .ptr 0 0 0), (2, .ptr 1 0 0), (8, .ptr 8 0 0), (15, .ptr 9 0 0), (16, .ptr 14 0 0), (19, .ptr 1 0 0), (21, .ptr 17 0 0)], [some (.gen 33 4 [[.bool y3.2.1.1, .own 15 y3.2.1.2.length, .bool y3.2.2.1, .own 16 y3.2.2.2.length]]), some (.gen 33 4 [[.bool y1.1.1, .own 10 y1.1.2.length, .bool y1.2.1, .own 11 y1.2.2.length]]), none, none, none, none, some (.pin 0 pl0), some (.pin 1 pl1), some (.gen 31 2 [[.bool false, .nil]]), some (.gen 31 2 [[.bool y2.1, .own 13 y2.2.length]]), some (.ints 186 .u32 y1.1.2), some (.ints 186 .u32 y1.2.2), none, some (.ints 186 .u32 y2.2), some (.gen 31 2 [[.bool false, .nil]]), some (.ints 186 .u32 y3.2.1.2), some (.ints 186 .u32 y3.2.2.2), some (.gen 31 2 [[.bool y3.1.1, .own 18 y3.1.2.length]]), some (.ints 186 .u32 y3.1.2)]⟩) : AA 4 #[true, true, true, true, true, true, true, true, false, true, true, true, true, true, false, false, false] ⟨33, [(0, .ptr 0 0 0), (1, .ptr 0 0 0), (2, .ptr 1 0 0), (8, .ptr 8 0 0), (15, .ptr 9 0 0), (19, .ptr 1 0 0), (21, .ptr 16 0 0)], [some (.gen 33 4 [[.bool y3.2.1.1, .own 14 y3.2.1.2.length, .bool y3.2.2.1, .own 15 y3.2.2.2.length]]), some (.gen 33 4 [[.bool y1.1.1, .own 10 y1.1.2.length, .bool y1.2.1, .own 11 y1.2.2.length]]), none, none, none, none, some (.pin 0 pl0), some (.pin 1 pl1), some (.gen 31 2 [[.bool false, .nil]]), some (.gen 31 2 [[.bool y2.1, .own 13 y2.2.length]]), some (.ints 186 .u32 y1.1.2), some (.ints 186 .u32 y1.2.2), none, some (.ints 186 .u32 y2.2), some (.ints 186 .u32 y3.2.1.2), some (.ints 186 .u32 y3.2.2.2), some (.gen 31 2 [[.bool y3.1.1, .own 17 y3.1.2.length]]), some (.ints 186 .u32 y3.1.2)]⟩ := (hAA _ _ _).2 (by
  refine AWPB_one 8 _ ceg_rotabig_Rat_Add_A_1_11 rfl ?_
  refine AWPL_rn tab_ok 1 [0, 1, 2, 7, 8, 15, 16, 19, 21, 22, 23] fun c st' hr => ?_
  simp only [go_sem] at hr
  obtain ⟨rfl, rfl⟩ := hr
  refine ⟨vc, ?_⟩
  refine AWPL_nil ?_
  refine QB_normal ?_
  exact AWPB_wk [0, 1, 2, 3, 4, 5, 6, 7, 8, 9, 10, 11, 12, 13, 18, 14, 15, 16, 17] mkWk ((hAA _ _ _).1 hn3))

theorem ceg_rotabig_Rat_Add_A_1_13 : (Region.ready .any reg_rotabig_Rat_Add_A_1.toArray #[true, true, true, true, true, true, true, true, false, true, true, true, true, false, false, false, false] == [8, 13]) = true := by kernel_rfl

theorem J_rotabig_Rat_Add_A_1_hn6 {q0 : (Bool × List Int) × (Bool × List Int)} {q1 : (Bool × List Int) × (Bool × List Int)} {y1 : (Bool × List Int) × (Bool × List Int)} {y2 : Bool × List Int} {y3 : (Bool × List Int) × ((Bool × List Int) × (Bool × List Int))} {y4 : Bool × List Int} {y5 : Bool × List Int} {pl0 : AX.Loc} {pl1 : AX.Loc} (hy : rotabig_Rat_den_B ((q1.1.1, q1.1.2), (q1.2.1, q1.2.2)) = some y1) (hy1 : rotabig_Int_Mul_r q0.1.1 q0.1.2 y1.2.1 y1.2.2 (false, []) = some y2) (hy2 : rotabig_Rat_den_A ((q0.1.1, q0.1.2), (q0.2.1, q0.2.2)) = some y3) (hy3 : rotabig_Int_Mul_r y1.1.1 y1.1.2 y3.1.1 y3.1.2 (false, []) = some y4) (hy4 : rotabig_Int_Add_r y2.1 y2.2 y4.1 y4.2 (false, []) = some y5) {w0 : World} {Q : Exit → St → Prop} {AA : Nat → Array Bool → St → Prop} (hAA : ∀ g L st, AA g L st ↔ AWPB Try.prog w0 reg_rotabig_Rat_Add_A_1.toArray Q g L st) (hn4 : AA 4 #[true, true, true, true, true, true, true, true, true, true, true, true, true, false, false, false, false] ⟨33, [(0, .ptr 0 0 0), (1, .ptr 0 0 0), (2, .ptr 1 0 0), (8, .ptr 8 0 0), (15, .ptr 9 0 0), (16, .ptr 14 0 0), (19, .ptr 1 0 0), (20, .ptr 0 0 0)], [some (.gen 33 4 [[.bool q0.1.1, .own 2 q0.1.2.length, .bool q0.2.1, .own 3 q0.2.2.length]]), some (.gen 33 4 [[.bool y1.1.1, .own 10 y1.1.2.length, .bool y1.2.1, .own 11 y1.2.2.length]]), some (.ints 186 .u32 q0.1.2), some (.ints 186 .u32 q0.2.2), none, none, some (.pin 0 pl0), some (.pin 1 pl1), some (.gen 31 2 [[.bool false, .nil]]), some (.gen 31 2 [[.bool y2.1, .own 13 y2.2.length]]), some (.ints 186 .u32 y1.1.2), some (.ints 186 .u32 y1.2.2), none, some (.ints 186 .u32 y2.2), some (.gen 31 2 [[.bool false, .nil]])]⟩) (hn5 : AA 4 #[true, true, true, true, true, true, true, true, false, true, true, true, true, true, false, false, false] ⟨33, [(0, .ptr 0 0 0), (1, .ptr 0 0 0), (2, .ptr 1 0 0), (8, .ptr 8 0 0), (15, .ptr 9 0 0), (19, .ptr 1 0 0), (21, .ptr 16 0 0)], [some (.gen 33 4 [[.bool y3.2.1.1, .own 14 y3.2.1.2.length, .bool y3.2.2.1, .own 15 y3.2.2.2.length]]), some (.gen 33 4 [[.bool y1.1.1, .own 10 y1.1.2.length, .bool y1.2.1, .own 11 y1.2.2.length]]), none, none, none, none, some (.pin 0 pl0), some (.pin 1 pl1), some (.gen 31 2 [[.bool false, .nil]]), some (.gen 31 2 [[.bool y2.1, .own 13 y2.2.length]]), some (.ints 186 .u32 y1.1.2), some (.ints 186 .u32 y1.2.2), none, some (.ints 186 .u32 y2.2), some (.ints 186 .u32 y3.2.1.2), some (.ints 186 .u32 y3.2.2.2), some (.gen 31 2 [[.bool y3.1.1, .own 17 y3.1.2.length]]), some (.ints 186 .u32 y3.1.2)]⟩) : AA 5 #[true, true, true, true, true, true, true, true, false, true, true, true, true, false, false, false, false] ⟨33, [(0, .ptr 0 0 0), (1, .ptr 0 0 0), (2, .ptr 1 0 0), (8, .ptr 8 0 0), (15, .ptr 9 0 0), (19, .ptr 1 0 0), (20, .ptr 0 0 0)], [some (.gen 33 4 [[.bool q0.1.1, .own 2 q0.1.2.length, .bool q0.2.1, .own 3 q0.2.2.length]]), some (.gen 33 4 [[.bool y1.1.1, .own 10 y1.1.2.length, .bool y1.2.1, .own 11 y1.2.2.length]]), some (.ints 186 .u32 q0.1.2), some (.ints 186 .u32 q0.2.2), none, none, some (.pin 0 pl0), some (.pin 1 pl1), some (.gen 31 2 [[.bool false, .nil]]), some (.gen 31 2 [[.bool y2.1, .own 13 y2.2.length]]), some (.ints 186 .u32 y1.1.2), some (.ints 186 .u32 y1.2.2), none, some (.ints 186 .u32 y2.2)]⟩ := (hAA _ _ _).2 (by
  refine AWPB_two 8 13 _ _ ceg_rotabig_Rat_Add_A_1_13 rfl rfl ?_ ?_
  ·skip
   refine AWPL_rn tab_ok 1 [0, 1, 2, 7, 8, 15, 16, 19, 20, 21, 22, 23] fun c st' hr => ?_
   simp only [go_sem] at hr
   obtain ⟨rfl, rfl⟩ := hr
   refine ⟨vc, ?_⟩
   refine AWPL_nil ?_
   refine QB_normal ?_
   exact AWPB_wk [0, 1, 2, 3, 4, 5, 6, 7, 8, 9, 10, 11, 12, 13, 14] mkWk ((hAA _ _ _).1 hn4)
  ·skip
   refine AWPL_gR [0, 1, 2, 7, 8, 15, 16, 19, 21, 22, 23] [0, 2, 3] [.ptr 0 0 0] [some (.gen 33 4 [[.bool y3.2.1.1, .own 14 y3.2.1.2.length, .bool y3.2.2.1, .own 15 y3.2.2.2.length]]), some (.gen 33 4 [[.bool y1.1.1, .own 10 y1.1.2.length, .bool y1.2.1, .own 11 y1.2.2.length]]), none, none, none, none, some (.pin 0 pl0), some (.pin 1 pl1), some (.gen 31 2 [[.bool false, .nil]]), some (.gen 31 2 [[.bool y2.1, .own 13 y2.2.length]]), some (.ints 186 .u32 y1.1.2), some (.ints 186 .u32 y1.2.2), none, some (.ints 186 .u32 y2.2), some (.ints 186 .u32 y3.2.1.2), some (.ints 186 .u32 y3.2.2.2), some (.gen 31 2 [[.bool y3.1.1, .own 17 y3.1.2.length]]), some (.ints 186 .u32 y3.1.2)] (r' := .ptr 16 0 0) (W_rotabig_Rat_den_A hy2) rfl rfl pcT rfl Try.call66 (of_decide_eq_true rfl) ⟨rfl, rfl, rfl, trivial⟩ rfl (hscG trivial) (of_decide_eq_true rfl) rfl rfl rfl (of_decide_eq_true rfl) rfl fun st' hr => ?_
   simp only [go_sem] at hr
   subst hr
   refine AWPL_nil ?_
   refine QB_normal ?_
   exact AWPB_wk [0, 1, 2, 3, 4, 5, 6, 7, 8, 9, 10, 11, 12, 13, 14, 15, 16, 17] mkWk ((hAA _ _ _).1 hn5))

theorem ceg_rotabig_Rat_Add_A_1_15 : (Region.ready .any reg_rotabig_Rat_Add_A_1.toArray #[true, true, true, true, true, true, true, false, true, true, true, true, true, false, false, false, false] == [7]) = true := by kernel_rfl

theorem J_rotabig_Rat_Add_A_1_hn7 {q0 : (Bool × List Int) × (Bool × List Int)} {q1 : (Bool × List Int) × (Bool × List Int)} {y1 : (Bool × List Int) × (Bool × List Int)} {y2 : Bool × List Int} {y3 : (Bool × List Int) × ((Bool × List Int) × (Bool × List Int))} {y4 : Bool × List Int} {y5 : Bool × List Int} {pl0 : AX.Loc} {pl1 : AX.Loc} (hy : rotabig_Rat_den_B ((q1.1.1, q1.1.2), (q1.2.1, q1.2.2)) = some y1) (hy1 : rotabig_Int_Mul_r q0.1.1 q0.1.2 y1.2.1 y1.2.2 (false, []) = some y2) (hy2 : rotabig_Rat_den_A ((q0.1.1, q0.1.2), (q0.2.1, q0.2.2)) = some y3) (hy3 : rotabig_Int_Mul_r y1.1.1 y1.1.2 y3.1.1 y3.1.2 (false, []) = some y4) (hy4 : rotabig_Int_Add_r y2.1 y2.2 y4.1 y4.2 (false, []) = some y5) {w0 : World} {Q : Exit → St → Prop} {AA : Nat → Array Bool → St → Prop} (hAA : ∀ g L st, AA g L st ↔ AWPB Try.prog w0 reg_rotabig_Rat_Add_A_1.toArray Q g L st) (hn4 : AA 4 #[true, true, true, true, true, true, true, true, true, true, true, true, true, false, false, false, false] ⟨33, [(0, .ptr 0 0 0), (1, .ptr 0 0 0), (2, .ptr 1 0 0), (8, .ptr 8 0 0), (15, .ptr 9 0 0), (16, .ptr 14 0 0), (19, .ptr 1 0 0), (20, .ptr 0 0 0)], [some (.gen 33 4 [[.bool q0.1.1, .own 2 q0.1.2.length, .bool q0.2.1, .own 3 q0.2.2.length]]), some (.gen 33 4 [[.bool y1.1.1, .own 10 y1.1.2.length, .bool y1.2.1, .own 11 y1.2.2.length]]), some (.ints 186 .u32 q0.1.2), some (.ints 186 .u32 q0.2.2), none, none, some (.pin 0 pl0), some (.pin 1 pl1), some (.gen 31 2 [[.bool false, .nil]]), some (.gen 31 2 [[.bool y2.1, .own 13 y2.2.length]]), some (.ints 186 .u32 y1.1.2), some (.ints 186 .u32 y1.2.2), none, some (.ints 186 .u32 y2.2), some (.gen 31 2 [[.bool false, .nil]])]⟩) : AA 5 #[true, true, true, true, true, true, true, false, true, true, true, true, true, false, false, false, false] ⟨33, [(0, .ptr 0 0 0), (1, .ptr 0 0 0), (2, .ptr 1 0 0), (8, .ptr 8 0 0), (9, .ptr 9 0 0), (12, .ptr 0 0 0), (14, .ptr 1 0 2), (16, .ptr 12 0 0), (19, .ptr 1 0 0), (20, .ptr 0 0 0)], [some (.gen 33 4 [[.bool q0.1.1, .own 2 q0.1.2.length, .bool q0.2.1, .own 3 q0.2.2.length]]), some (.gen 33 4 [[.bool y1.1.1, .own 10 y1.1.2.length, .bool y1.2.1, .own 11 y1.2.2.length]]), some (.ints 186 .u32 q0.1.2), some (.ints 186 .u32 q0.2.2), none, none, some (.pin 0 pl0), some (.pin 1 pl1), some (.gen 31 2 [[.bool false, .nil]]), some (.gen 31 2 [[.bool false, .nil]]), some (.ints 186 .u32 y1.1.2), some (.ints 186 .u32 y1.2.2), some (.gen 31 2 [[.bool false, .nil]])]⟩ := (hAA _ _ _).2 (by
  refine AWPB_one 7 _ ceg_rotabig_Rat_Add_A_1_15 rfl ?_
  refine AWPL_gs' (gs_ownH 9 1 (.ints 186 .u32 []) rfl rfl rfl) fun st' hr => ?_
  simp only [go_sem, List.cons_append, List.nil_append, List.set_cons_zero, List.set_cons_succ] at hr
  subst hr
  refine AWPL_gS [0, 1, 2, 7, 8, 15, 16, 19, 20, 21, 22, 23] [9, 13] [.ptr 0 0 0, .immp [.bool q0.1.1, .ints .u32 q0.1.2], .immp [.bool y1.2.1, .ints .u32 y1.2.2]] [some (.gen 33 4 [[.bool q0.1.1, .own 2 q0.1.2.length, .bool q0.2.1, .own 3 q0.2.2.length]]), some (.gen 33 4 [[.bool y1.1.1, .own 10 y1.1.2.length, .bool y1.2.1, .own 11 y1.2.2.length]]), some (.ints 186 .u32 q0.1.2), some (.ints 186 .u32 q0.2.2), none, none, some (.pin 0 pl0), some (.pin 1 pl1), some (.gen 31 2 [[.bool false, .nil]]), some (.gen 31 2 [[.bool y2.1, .own 14 y2.2.length]]), some (.ints 186 .u32 y1.1.2), some (.ints 186 .u32 y1.2.2), some (.gen 31 2 [[.bool false, .nil]]), none, some (.ints 186 .u32 y2.2)] (r' := .ptr 9 0 0) (W_rotabig_Int_Mul_r hy1) rfl rfl pcT rfl Try.call65 (of_decide_eq_true rfl) ⟨rfl, rfl, trivial⟩ (.ptr 0 rfl (.cons (ArgOk.part (j0 := 0) rfl rfl (of_decide_eq_true rfl) (.cons (.atom _ rfl) (.cons (.ownI _ _ _ _ _ q0.1.2 rfl (by simp) (by first | simp | exact List.take_of_length_le (by simp))) .nil))) (.cons (ArgOk.part (j0 := 2) rfl rfl (of_decide_eq_true rfl) (.cons (.atom _ rfl) (.cons (.ownI _ _ _ _ _ y1.2.2 rfl (by simp) (by first | simp | exact List.take_of_length_le (by simp))) .nil))) .nil))) (hscG trivial) (of_decide_eq_true rfl) rfl rfl rfl (of_decide_eq_true rfl) rfl fun st' hr => ?_
  simp only [go_sem] at hr
  subst hr
  refine AWPL_nil ?_
  refine QB_normal ?_
  exact AWPB_wk [0, 1, 2, 3, 4, 5, 6, 7, 8, 9, 10, 11, 13, 14, 12] mkWk ((hAA _ _ _).1 hn4))

theorem ceg_rotabig_Rat_Add_A_1_17 : (Region.ready .any reg_rotabig_Rat_Add_A_1.toArray #[true, true, true, true, true, true, true, false, false, true, true, true, true, false, false, false, false] == [7, 8]) = true := by kernel_rfl

theorem J_rotabig_Rat_Add_A_1_hn8 {q0 : (Bool × List Int) × (Bool × List Int)} {q1 : (Bool × List Int) × (Bool × List Int)} {y1 : (Bool × List Int) × (Bool × List Int)} {y2 : Bool × List Int} {y3 : (Bool × List Int) × ((Bool × List Int) × (Bool × List Int))} {y4 : Bool × List Int} {y5 : Bool × List Int} {pl0 : AX.Loc} {pl1 : AX.Loc} (hy : rotabig_Rat_den_B ((q1.1.1, q1.1.2), (q1.2.1, q1.2.2)) = some y1) (hy1 : rotabig_Int_Mul_r q0.1.1 q0.1.2 y1.2.1 y1.2.2 (false, []) = some y2) (hy2 : rotabig_Rat_den_A ((q0.1.1, q0.1.2), (q0.2.1, q0.2.2)) = some y3) (hy3 : rotabig_Int_Mul_r y1.1.1 y1.1.2 y3.1.1 y3.1.2 (false, []) = some y4) (hy4 : rotabig_Int_Add_r y2.1 y2.2 y4.1 y4.2 (false, []) = some y5) {w0 : World} {Q : Exit → St → Prop} {AA : Nat → Array Bool → St → Prop} (hAA : ∀ g L st, AA g L st ↔ AWPB Try.prog w0 reg_rotabig_Rat_Add_A_1.toArray Q g L st) (hn6 : AA 5 #[true, true, true, true, true, true, true, true, false, true, true, true, true, false, false, false, false] ⟨33, [(0, .ptr 0 0 0), (1, .ptr 0 0 0), (2, .ptr 1 0 0), (8, .ptr 8 0 0), (15, .ptr 9 0 0), (19, .ptr 1 0 0), (20, .ptr 0 0 0)], [some (.gen 33 4 [[.bool q0.1.1, .own 2 q0.1.2.length, .bool q0.2.1, .own 3 q0.2.2.length]]), some (.gen 33 4 [[.bool y1.1.1, .own 10 y1.1.2.length, .bool y1.2.1, .own 11 y1.2.2.length]]), some (.ints 186 .u32 q0.1.2), some (.ints 186 .u32 q0.2.2), none, none, some (.pin 0 pl0), some (.pin 1 pl1), some (.gen 31 2 [[.bool false, .nil]]), some (.gen 31 2 [[.bool y2.1, .own 13 y2.2.length]]), some (.ints 186 .u32 y1.1.2), some (.ints 186 .u32 y1.2.2), none, some (.ints 186 .u32 y2.2)]⟩) (hn7 : AA 5 #[true, true, true, true, true, true, true, false, true, true, true, true, true, false, false, false, false] ⟨33, [(0, .ptr 0 0 0), (1, .ptr 0 0 0), (2, .ptr 1 0 0), (8, .ptr 8 0 0), (9, .ptr 9 0 0), (12, .ptr 0 0 0), (14, .ptr 1 0 2), (16, .ptr 12 0 0), (19, .ptr 1 0 0), (20, .ptr 0 0 0)], [some (.gen 33 4 [[.bool q0.1.1, .own 2 q0.1.2.length, .bool q0.2.1, .own 3 q0.2.2.length]]), some (.gen 33 4 [[.bool y1.1.1, .own 10 y1.1.2.length, .bool y1.2.1, .own 11 y1.2.2.length]]), some (.ints 186 .u32 q0.1.2), some (.ints 186 .u32 q0.2.2), none, none, some (.pin 0 pl0), some (.pin 1 pl1), some (.gen 31 2 [[.bool false, .nil]]), some (.gen 31 2 [[.bool false, .nil]]), some (.ints 186 .u32 y1.1.2), some (.ints 186 .u32 y1.2.2), some (.gen 31 2 [[.bool false, .nil]])]⟩) : AA 6 #[true, true, true, true, true, true, true, false, false, true, true, true, true, false, false, false, false] ⟨33, [(0, .ptr 0 0 0), (1, .ptr 0 0 0), (2, .ptr 1 0 0), (8, .ptr 8 0 0), (9, .ptr 9 0 0), (12, .ptr 0 0 0), (14, .ptr 1 0 2), (19, .ptr 1 0 0), (20, .ptr 0 0 0)], [some (.gen 33 4 [[.bool q0.1.1, .own 2 q0.1.2.length, .bool q0.2.1, .own 3 q0.2.2.length]]), some (.gen 33 4 [[.bool y1.1.1, .own 10 y1.1.2.length, .bool y1.2.1, .own 11 y1.2.2.length]]), some (.ints 186 .u32 q0.1.2), some (.ints 186 .u32 q0.2.2), none, none, some (.pin 0 pl0), some (.pin 1 pl1), some (.gen 31 2 [[.bool false, .nil]]), some (.gen 31 2 [[.bool false, .nil]]), some (.ints 186 .u32 y1.1.2), some (.ints 186 .u32 y1.2.2)]⟩ := (hAA _ _ _).2 (by
  refine AWPB_two 7 8 _ _ ceg_rotabig_Rat_Add_A_1_17 rfl rfl ?_ ?_
  ·skip
   refine AWPL_gs' (gs_ownH 9 1 (.ints 186 .u32 []) rfl rfl rfl) fun st' hr => ?_
   simp only [go_sem, List.cons_append, List.nil_append, List.set_cons_zero, List.set_cons_succ] at hr
   subst hr
   refine AWPL_gS [0, 1, 2, 7, 8, 15, 16, 19, 20, 21, 22, 23] [9, 12] [.ptr 0 0 0, .immp [.bool q0.1.1, .ints .u32 q0.1.2], .immp [.bool y1.2.1, .ints .u32 y1.2.2]] [some (.gen 33 4 [[.bool q0.1.1, .own 2 q0.1.2.length, .bool q0.2.1, .own 3 q0.2.2.length]]), some (.gen 33 4 [[.bool y1.1.1, .own 10 y1.1.2.length, .bool y1.2.1, .own 11 y1.2.2.length]]), some (.ints 186 .u32 q0.1.2), some (.ints 186 .u32 q0.2.2), none, none, some (.pin 0 pl0), some (.pin 1 pl1), some (.gen 31 2 [[.bool false, .nil]]), some (.gen 31 2 [[.bool y2.1, .own 13 y2.2.length]]), some (.ints 186 .u32 y1.1.2), some (.ints 186 .u32 y1.2.2), none, some (.ints 186 .u32 y2.2)] (r' := .ptr 9 0 0) (W_rotabig_Int_Mul_r hy1) rfl rfl pcT rfl Try.call65 (of_decide_eq_true rfl) ⟨rfl, rfl, trivial⟩ (.ptr 0 rfl (.cons (ArgOk.part (j0 := 0) rfl rfl (of_decide_eq_true rfl) (.cons (.atom _ rfl) (.cons (.ownI _ _ _ _ _ q0.1.2 rfl (by simp) (by first | simp | exact List.take_of_length_le (by simp))) .nil))) (.cons (ArgOk.part (j0 := 2) rfl rfl (of_decide_eq_true rfl) (.cons (.atom _ rfl) (.cons (.ownI _ _ _ _ _ y1.2.2 rfl (by simp) (by first | simp | exact List.take_of_length_le (by simp))) .nil))) .nil))) (hscG trivial) (of_decide_eq_true rfl) rfl rfl rfl (of_decide_eq_true rfl) rfl fun st' hr => ?_
   simp only [go_sem] at hr
   subst hr
   refine AWPL_nil ?_
   refine QB_normal ?_
   exact AWPB_wk [0, 1, 2, 3, 4, 5, 6, 7, 8, 9, 10, 11, 12, 13] mkWk ((hAA _ _ _).1 hn6)
  ·skip
   refine AWPL_rn tab_ok 1 [0, 1, 2, 7, 8, 9, 12, 14, 15, 16, 19, 20, 21, 22, 23] fun c st' hr => ?_
   simp only [go_sem] at hr
   obtain ⟨rfl, rfl⟩ := hr
   refine ⟨vc, ?_⟩
   refine AWPL_nil ?_
   refine QB_normal ?_
   exact AWPB_wk [0, 1, 2, 3, 4, 5, 6, 7, 8, 9, 10, 11, 12] mkWk ((hAA _ _ _).1 hn7))

theorem ceg_rotabig_Rat_Add_A_1_19 : (Region.ready .any reg_rotabig_Rat_Add_A_1.toArray #[true, true, true, true, true, true, false, false, true, true, true, true, true, false, false, false, false] == [6]) = true := by kernel_rfl

theorem J_rotabig_Rat_Add_A_1_hn9 {q0 : (Bool × List Int) × (Bool × List Int)} {q1 : (Bool × List Int) × (Bool × List Int)} {y1 : (Bool × List Int) × (Bool × List Int)} {y2 : Bool × List Int} {y3 : (Bool × List Int) × ((Bool × List Int) × (Bool × List Int))} {y4 : Bool × List Int} {y5 : Bool × List Int} {pl0 : AX.Loc} {pl1 : AX.Loc} (hy : rotabig_Rat_den_B ((q1.1.1, q1.1.2), (q1.2.1, q1.2.2)) = some y1) (hy1 : rotabig_Int_Mul_r q0.1.1 q0.1.2 y1.2.1 y1.2.2 (false, []) = some y2) (hy2 : rotabig_Rat_den_A ((q0.1.1, q0.1.2), (q0.2.1, q0.2.2)) = some y3) (hy3 : rotabig_Int_Mul_r y1.1.1 y1.1.2 y3.1.1 y3.1.2 (false, []) = some y4) (hy4 : rotabig_Int_Add_r y2.1 y2.2 y4.1 y4.2 (false, []) = some y5) {w0 : World} {Q : Exit → St → Prop} {AA : Nat → Array Bool → St → Prop} (hAA : ∀ g L st, AA g L st ↔ AWPB Try.prog w0 reg_rotabig_Rat_Add_A_1.toArray Q g L st) (hn7 : AA 5 #[true, true, true, true, true, true, true, false, true, true, true, true, true, false, false, false, false] ⟨33, [(0, .ptr 0 0 0), (1, .ptr 0 0 0), (2, .ptr 1 0 0), (8, .ptr 8 0 0), (9, .ptr 9 0 0), (12, .ptr 0 0 0), (14, .ptr 1 0 2), (16, .ptr 12 0 0), (19, .ptr 1 0 0), (20, .ptr 0 0 0)], [some (.gen 33 4 [[.bool q0.1.1, .own 2 q0.1.2.length, .bool q0.2.1, .own 3 q0.2.2.length]]), some (.gen 33 4 [[.bool y1.1.1, .own 10 y1.1.2.length, .bool y1.2.1, .own 11 y1.2.2.length]]), some (.ints 186 .u32 q0.1.2), some (.ints 186 .u32 q0.2.2), none, none, some (.pin 0 pl0), some (.pin 1 pl1), some (.gen 31 2 [[.bool false, .nil]]), some (.gen 31 2 [[.bool false, .nil]]), some (.ints 186 .u32 y1.1.2), some (.ints 186 .u32 y1.2.2), some (.gen 31 2 [[.bool false, .nil]])]⟩) : AA 6 #[true, true, true, true, true, true, false, false, true, true, true, true, true, false, false, false, false] ⟨33, [(0, .ptr 0 0 0), (1, .ptr 0 0 0), (2, .ptr 1 0 0), (8, .ptr 8 0 0), (9, .ptr 9 0 0), (12, .ptr 0 0 0), (13, .ptr 1 0 0), (16, .ptr 10 0 0), (19, .ptr 1 0 0), (20, .ptr 0 0 0)], [some (.gen 33 4 [[.bool q0.1.1, .own 2 q0.1.2.length, .bool q0.2.1, .own 3 q0.2.2.length]]), some (.gen 33 4 [[.bool q1.1.1, .own 4 q1.1.2.length, .bool q1.2.1, .own 5 q1.2.2.length]]), some (.ints 186 .u32 q0.1.2), some (.ints 186 .u32 q0.2.2), some (.ints 186 .u32 q1.1.2), some (.ints 186 .u32 q1.2.2), some (.pin 0 pl0), some (.pin 1 pl1), some (.gen 31 2 [[.bool false, .nil]]), some (.gen 31 2 [[.bool false, .nil]]), some (.gen 31 2 [[.bool false, .nil]])]⟩ := (hAA _ _ _).2 (by
  refine AWPB_one 6 _ ceg_rotabig_Rat_Add_A_1_19 rfl ?_
  refine AWPL_gR [0, 1, 2, 7, 8, 9, 12, 14, 15, 16, 19, 20, 21, 22, 23] [1, 4, 5] [.ptr 0 0 0] [some (.gen 33 4 [[.bool q0.1.1, .own 2 q0.1.2.length, .bool q0.2.1, .own 3 q0.2.2.length]]), some (.gen 33 4 [[.bool y1.1.1, .own 11 y1.1.2.length, .bool y1.2.1, .own 12 y1.2.2.length]]), some (.ints 186 .u32 q0.1.2), some (.ints 186 .u32 q0.2.2), none, none, some (.pin 0 pl0), some (.pin 1 pl1), some (.gen 31 2 [[.bool false, .nil]]), some (.gen 31 2 [[.bool false, .nil]]), some (.gen 31 2 [[.bool false, .nil]]), some (.ints 186 .u32 y1.1.2), some (.ints 186 .u32 y1.2.2)] (r' := .ptr 1 0 2) (W_rotabig_Rat_den_B hy) rfl rfl pcT rfl Try.call66 (of_decide_eq_true rfl) ⟨rfl, rfl, rfl, trivial⟩ rfl (hscG trivial) (of_decide_eq_true rfl) rfl rfl rfl (of_decide_eq_true rfl) rfl fun st' hr => ?_
  simp only [go_sem] at hr
  subst hr
  refine AWPL_nil ?_
  refine QB_normal ?_
  exact AWPB_wk [0, 1, 2, 3, 4, 5, 6, 7, 8, 9, 11, 12, 10] mkWk ((hAA _ _ _).1 hn7))

theorem ceg_rotabig_Rat_Add_A_1_21 : (Region.ready .any reg_rotabig_Rat_Add_A_1.toArray #[true, true, true, true, true, true, false, false, false, true, true, true, true, false, false, false, false] == [6, 8]) = true := by kernel_rfl

theorem J_rotabig_Rat_Add_A_1_hn10 {q0 : (Bool × List Int) × (Bool × List Int)} {q1 : (Bool × List Int) × (Bool × List Int)} {y1 : (Bool × List Int) × (Bool × List Int)} {y2 : Bool × List Int} {y3 : (Bool × List Int) × ((Bool × List Int) × (Bool × List Int))} {y4 : Bool × List Int} {y5 : Bool × List Int} {pl0 : AX.Loc} {pl1 : AX.Loc} (hy : rotabig_Rat_den_B ((q1.1.1, q1.1.2), (q1.2.1, q1.2.2)) = some y1) (hy1 : rotabig_Int_Mul_r q0.1.1 q0.1.2 y1.2.1 y1.2.2 (false, []) = some y2) (hy2 : rotabig_Rat_den_A ((q0.1.1, q0.1.2), (q0.2.1, q0.2.2)) = some y3) (hy3 : rotabig_Int_Mul_r y1.1.1 y1.1.2 y3.1.1 y3.1.2 (false, []) = some y4) (hy4 : rotabig_Int_Add_r y2.1 y2.2 y4.1 y4.2 (false, []) = some y5) {w0 : World} {Q : Exit → St → Prop} {AA : Nat → Array Bool → St → Prop} (hAA : ∀ g L st, AA g L st ↔ AWPB Try.prog w0 reg_rotabig_Rat_Add_A_1.toArray Q g L st) (hn8 : AA 6 #[true, true, true, true, true, true, true, false, false, true, true, true, true, false, false, false, false] ⟨33, [(0, .ptr 0 0 0), (1, .ptr 0 0 0), (2, .ptr 1 0 0), (8, .ptr 8 0 0), (9, .ptr 9 0 0), (12, .ptr 0 0 0), (14, .ptr 1 0 2), (19, .ptr 1 0 0), (20, .ptr 0 0 0)], [some (.gen 33 4 [[.bool q0.1.1, .own 2 q0.1.2.length, .bool q0.2.1, .own 3 q0.2.2.length]]), some (.gen 33 4 [[.bool y1.1.1, .own 10 y1.1.2.length, .bool y1.2.1, .own 11 y1.2.2.length]]), some (.ints 186 .u32 q0.1.2), some (.ints 186 .u32 q0.2.2), none, none, some (.pin 0 pl0), some (.pin 1 pl1), some (.gen 31 2 [[.bool false, .nil]]), some (.gen 31 2 [[.bool false, .nil]]), some (.ints 186 .u32 y1.1.2), some (.ints 186 .u32 y1.2.2)]⟩) (hn9 : AA 6 #[true, true, true, true, true, true, false, false, true, true, true, true, true, false, false, false, false] ⟨33, [(0, .ptr 0 0 0), (1, .ptr 0 0 0), (2, .ptr 1 0 0), (8, .ptr 8 0 0), (9, .ptr 9 0 0), (12, .ptr 0 0 0), (13, .ptr 1 0 0), (16, .ptr 10 0 0), (19, .ptr 1 0 0), (20, .ptr 0 0 0)], [some (.gen 33 4 [[.bool q0.1.1, .own 2 q0.1.2.length, .bool q0.2.1, .own 3 q0.2.2.length]]), some (.gen 33 4 [[.bool q1.1.1, .own 4 q1.1.2.length, .bool q1.2.1, .own 5 q1.2.2.length]]), some (.ints 186 .u32 q0.1.2), some (.ints 186 .u32 q0.2.2), some (.ints 186 .u32 q1.1.2), some (.ints 186 .u32 q1.2.2), some (.pin 0 pl0), some (.pin 1 pl1), some (.gen 31 2 [[.bool false, .nil]]), some (.gen 31 2 [[.bool false, .nil]]), some (.gen 31 2 [[.bool false, .nil]])]⟩) : AA 7 #[true, true, true, true, true, true, false, false, false, true, true, true, true, false, false, false, false] ⟨33, [(0, .ptr 0 0 0), (1, .ptr 0 0 0), (2, .ptr 1 0 0), (8, .ptr 8 0 0), (9, .ptr 9 0 0), (12, .ptr 0 0 0), (13, .ptr 1 0 0), (19, .ptr 1 0 0), (20, .ptr 0 0 0)], [some (.gen 33 4 [[.bool q0.1.1, .own 2 q0.1.2.length, .bool q0.2.1, .own 3 q0.2.2.length]]), some (.gen 33 4 [[.bool q1.1.1, .own 4 q1.1.2.length, .bool q1.2.1, .own 5 q1.2.2.length]]), some (.ints 186 .u32 q0.1.2), some (.ints 186 .u32 q0.2.2), some (.ints 186 .u32 q1.1.2), some (.ints 186 .u32 q1.2.2), some (.pin 0 pl0), some (.pin 1 pl1), some (.gen 31 2 [[.bool false, .nil]]), some (.gen 31 2 [[.bool false, .nil]])]⟩ := (hAA _ _ _).2 (by
  refine AWPB_two 6 8 _ _ ceg_rotabig_Rat_Add_A_1_21 rfl rfl ?_ ?_
  ·skip
   refine AWPL_gR [0, 1, 2, 7, 8, 9, 12, 14, 15, 16, 19, 20, 21, 22, 23] [1, 4, 5] [.ptr 0 0 0] [some (.gen 33 4 [[.bool q0.1.1, .own 2 q0.1.2.length, .bool q0.2.1, .own 3 q0.2.2.length]]), some (.gen 33 4 [[.bool y1.1.1, .own 10 y1.1.2.length, .bool y1.2.1, .own 11 y1.2.2.length]]), some (.ints 186 .u32 q0.1.2), some (.ints 186 .u32 q0.2.2), none, none, some (.pin 0 pl0), some (.pin 1 pl1), some (.gen 31 2 [[.bool false, .nil]]), some (.gen 31 2 [[.bool false, .nil]]), some (.ints 186 .u32 y1.1.2), some (.ints 186 .u32 y1.2.2)] (r' := .ptr 1 0 2) (W_rotabig_Rat_den_B hy) rfl rfl pcT rfl Try.call66 (of_decide_eq_true rfl) ⟨rfl, rfl, rfl, trivial⟩ rfl (hscG trivial) (of_decide_eq_true rfl) rfl rfl rfl (of_decide_eq_true rfl) rfl fun st' hr => ?_
   simp only [go_sem] at hr
   subst hr
   refine AWPL_nil ?_
   refine QB_normal ?_
   exact AWPB_wk [0, 1, 2, 3, 4, 5, 6, 7, 8, 9, 10, 11] mkWk ((hAA _ _ _).1 hn8)
  ·skip
   refine AWPL_rn tab_ok 1 [0, 1, 2, 7, 8, 9, 12, 13, 14, 15, 16, 19, 20, 21, 22, 23] fun c st' hr => ?_
   simp only [go_sem] at hr
   obtain ⟨rfl, rfl⟩ := hr
   refine ⟨vc, ?_⟩
   refine AWPL_nil ?_
   refine QB_normal ?_
   exact AWPB_wk [0, 1, 2, 3, 4, 5, 6, 7, 8, 9, 10] mkWk ((hAA _ _ _).1 hn9))

theorem ceg_rotabig_Rat_Add_A_1_23 : (Region.ready .any reg_rotabig_Rat_Add_A_1.toArray #[true, false, true, true, true, true, true, false, true, true, true, true, true, false, false, false, false] == [1]) = true := by kernel_rfl

theorem J_rotabig_Rat_Add_A_1_hn11 {q0 : (Bool × List Int) × (Bool × List Int)} {q1 : (Bool × List Int) × (Bool × List Int)} {y1 : (Bool × List Int) × (Bool × List Int)} {y2 : Bool × List Int} {y3 : (Bool × List Int) × ((Bool × List Int) × (Bool × List Int))} {y4 : Bool × List Int} {y5 : Bool × List Int} {pl0 : AX.Loc} {pl1 : AX.Loc} (hy : rotabig_Rat_den_B ((q1.1.1, q1.1.2), (q1.2.1, q1.2.2)) = some y1) (hy1 : rotabig_Int_Mul_r q0.1.1 q0.1.2 y1.2.1 y1.2.2 (false, []) = some y2) (hy2 : rotabig_Rat_den_A ((q0.1.1, q0.1.2), (q0.2.1, q0.2.2)) = some y3) (hy3 : rotabig_Int_Mul_r y1.1.1 y1.1.2 y3.1.1 y3.1.2 (false, []) = some y4) (hy4 : rotabig_Int_Add_r y2.1 y2.2 y4.1 y4.2 (false, []) = some y5) {w0 : World} {Q : Exit → St → Prop} {AA : Nat → Array Bool → St → Prop} (hAA : ∀ g L st, AA g L st ↔ AWPB Try.prog w0 reg_rotabig_Rat_Add_A_1.toArray Q g L st) (hn7 : AA 5 #[true, true, true, true, true, true, true, false, true, true, true, true, true, false, false, false, false] ⟨33, [(0, .ptr 0 0 0), (1, .ptr 0 0 0), (2, .ptr 1 0 0), (8, .ptr 8 0 0), (9, .ptr 9 0 0), (12, .ptr 0 0 0), (14, .ptr 1 0 2), (16, .ptr 12 0 0), (19, .ptr 1 0 0), (20, .ptr 0 0 0)], [some (.gen 33 4 [[.bool q0.1.1, .own 2 q0.1.2.length, .bool q0.2.1, .own 3 q0.2.2.length]]), some (.gen 33 4 [[.bool y1.1.1, .own 10 y1.1.2.length, .bool y1.2.1, .own 11 y1.2.2.length]]), some (.ints 186 .u32 q0.1.2), some (.ints 186 .u32 q0.2.2), none, none, some (.pin 0 pl0), some (.pin 1 pl1), some (.gen 31 2 [[.bool false, .nil]]), some (.gen 31 2 [[.bool false, .nil]]), some (.ints 186 .u32 y1.1.2), some (.ints 186 .u32 y1.2.2), some (.gen 31 2 [[.bool false, .nil]])]⟩) : AA 6 #[true, false, true, true, true, true, true, false, true, true, true, true, true, false, false, false, false] ⟨33, [(0, .ptr 0 0 0), (1, .ptr 0 0 0), (2, .ptr 1 0 0), (8, .ptr 8 0 0), (12, .ptr 0 0 0), (14, .ptr 1 0 2), (16, .ptr 11 0 0), (19, .ptr 1 0 0), (20, .ptr 0 0 0)], [some (.gen 33 4 [[.bool q0.1.1, .own 2 q0.1.2.length, .bool q0.2.1, .own 3 q0.2.2.length]]), some (.gen 33 4 [[.bool y1.1.1, .own 9 y1.1.2.length, .bool y1.2.1, .own 10 y1.2.2.length]]), some (.ints 186 .u32 q0.1.2), some (.ints 186 .u32 q0.2.2), none, none, some (.pin 0 pl0), some (.pin 1 pl1), some (.gen 31 2 [[.bool false, .nil]]), some (.ints 186 .u32 y1.1.2), some (.ints 186 .u32 y1.2.2), some (.gen 31 2 [[.bool false, .nil]])]⟩ := (hAA _ _ _).2 (by
  refine AWPB_one 1 _ ceg_rotabig_Rat_Add_A_1_23 rfl ?_
  refine AWPL_rn tab_ok 1 [0, 1, 2, 7, 8, 9, 12, 14, 15, 16, 19, 20, 21, 22, 23] fun c st' hr => ?_
  simp only [go_sem] at hr
  obtain ⟨rfl, rfl⟩ := hr
  refine ⟨vc, ?_⟩
  refine AWPL_nil ?_
  refine QB_normal ?_
  exact AWPB_wk [0, 1, 2, 3, 4, 5, 6, 7, 8, 12, 9, 10, 11] mkWk ((hAA _ _ _).1 hn7))

theorem ceg_rotabig_Rat_Add_A_1_25 : (Region.ready .any reg_rotabig_Rat_Add_A_1.toArray #[true, false, true, true, true, true, true, false, false, true, true, true, true, false, false, false, false] == [1, 8]) = true := by kernel_rfl


end Go.SH
