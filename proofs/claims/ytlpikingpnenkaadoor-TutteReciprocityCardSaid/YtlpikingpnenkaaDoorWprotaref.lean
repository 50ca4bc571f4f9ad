/-
  That the code computes these functions: rotaref_Pick, rotaref_In, rotaref_All. By a program of mine (shal.py). Conditions: none.
-/
import Derived.Test.YtlpikingpnenkaaDoorAxT
import Derived.Test.YtlpikingpnenkaaDoorAxR
import Derived.Test.YtlpikingpnenkaaDoorSp
set_option linter.unusedVariables false
set_option linter.unusedSimpArgs false
set_option maxRecDepth 8000
set_option maxHeartbeats 4000000
namespace Go.SH
open Go Go.AX Go.AX.Tryd Go.Proofs


theorem W_rotaref_Pick {k : Int} {n : Int} {r : Int} (hK : rotaref_Pick k n = some r) : Pure Tryd.prog 7 [.int .i64 k, .int .i64 n] (.int .i64 r) [] := by
  refine Pure_introF tab_ok (n := 13) (l := [.tmp 4]) Tryd.func7 rfl rfl rfl (by simp) fun hfact w0 => ?_
  simp only [factL1, fact1, fact0, factL0, lo, hi, maxLen, and_true] at hfact
  unfold rotaref_Pick at hK
  refine AWP_seq ?_
  refine AWP_rg tab_ok [0, 1] fun c st' hr => ?_
  simp only [go_sem] at hr
  obtain ⟨rfl, rfl⟩ := hr
  refine ⟨vc, ?_⟩
  with_reducible refine thenC_normal ?_
  refine AWP_seq ?_
  refine AWP_seq ?_
  refine AWP_rg tab_ok [0, 1, 6] fun c st' hr => ?_
  simp only [go_sem] at hr
  obtain ⟨rfl, rfl⟩ := hr
  refine ⟨vc, ?_⟩
  with_reducible refine thenC_normal ?_
  refine AWP_condP (k < 0) rfl bd (fun hb => ?_) (fun hb => ?_)
  ·replace hK := ite_t hK hb
   refine AWP_facts (by simp) fun hfx => ?_
   simp only [factS, factV, fact1, fact0, factL0, lo, hi, maxLen, and_true, true_and] at hfx
   replace hK := chk_some hK
   obtain ⟨h, hK⟩ := hK
   refine AWP_rg tab_ok [0, 1] fun c st' hr => ?_
   simp only [go_sem] at hr
   obtain ⟨rfl, rfl⟩ := hr
   refine ⟨vc, ?_⟩
   clear hfx
   with_reducible refine thenC_normal ?_
   refine AWP_seq ?_
   replace hK := chk_some hK
   obtain ⟨h1, hK⟩ := hK
   refine AWP_rg tab_ok [4] fun c st' hr => ?_
   simp only [go_sem] at hr
   obtain ⟨rfl, rfl⟩ := hr
   refine ⟨vc, ?_⟩
   with_reducible refine thenC_normal ?_
   refine AWP_ret ?_
   cases hK
   refine EndsRW [] (.inl rfl) (of_decide_eq_true rfl) (by simp) rfl (fun c x hr => ?_) trivial
   simp only [go_sem] at hr
   obtain ⟨rfl, rfl⟩ := hr
   exact ⟨rfl, endR⟩
  ·replace hK := ite_f hK hb
   refine AWP_skip ?_
   with_reducible refine thenC_normal ?_
   refine AWP_seq ?_
   replace hK := chk_some hK
   obtain ⟨h2, hK⟩ := hK
   refine AWP_rg tab_ok [4] fun c st' hr => ?_
   simp only [go_sem] at hr
   obtain ⟨rfl, rfl⟩ := hr
   refine ⟨vc, ?_⟩
   with_reducible refine thenC_normal ?_
   refine AWP_ret ?_
   cases hK
   refine EndsRW [] (.inl rfl) (of_decide_eq_true rfl) (by simp) rfl (fun c x hr => ?_) trivial
   simp only [go_sem] at hr
   obtain ⟨rfl, rfl⟩ := hr
   exact ⟨rfl, endR⟩


theorem W_rotaref_In {s : Int} {i : Int} {r : Bool} (hK : rotaref_In s i = some r) : Pure Tryd.prog 8 [.int .i64 s, .int .i64 i] (.bool r) [] := by
  refine Pure_introF tab_ok (n := 10) (l := [.tmp 4]) Tryd.func8 rfl rfl rfl (by simp) fun hfact w0 => ?_
  simp only [factL1, fact1, fact0, factL0, lo, hi, maxLen, and_true] at hfact
  unfold rotaref_In at hK
  refine AWP_seq ?_
  refine AWP_rg tab_ok [0, 1] fun c st' hr => ?_
  simp only [go_sem] at hr
  obtain ⟨rfl, rfl⟩ := hr
  refine ⟨vc, ?_⟩
  with_reducible refine thenC_normal ?_
  refine AWP_seq ?_
  replace hK := chk_some hK
  obtain ⟨h, hK⟩ := hK
  refine AWP_rg tab_ok [4] fun c st' hr => ?_
  simp only [go_sem] at hr
  obtain ⟨rfl, rfl⟩ := hr
  refine ⟨vc, ?_⟩
  with_reducible refine thenC_normal ?_
  refine AWP_ret ?_
  cases hK
  refine EndsRW [] (.inl rfl) (of_decide_eq_true rfl) (by simp) rfl (fun c x hr => ?_) trivial
  simp only [go_sem] at hr
  obtain ⟨rfl, rfl⟩ := hr
  exact ⟨rfl, endR⟩


theorem W_rotaref_All {n : Int} {r : Int} (hK : rotaref_All n = some r) : Pure Tryd.prog 21 [.int .i64 n] (.int .i64 r) [] := by
  refine Pure_introF tab_ok (n := 6) (l := [.tmp 2]) Tryd.func21 rfl rfl rfl (by simp) fun hfact w0 => ?_
  simp only [factL1, fact1, fact0, factL0, lo, hi, maxLen, and_true] at hfact
  unfold rotaref_All at hK
  refine AWP_seq ?_
  refine AWP_rg tab_ok [0] fun c st' hr => ?_
  simp only [go_sem] at hr
  obtain ⟨rfl, rfl⟩ := hr
  refine ⟨vc, ?_⟩
  with_reducible refine thenC_normal ?_
  refine AWP_seq ?_
  replace hK := chk_some hK
  obtain ⟨h, hK⟩ := hK
  refine AWP_rg tab_ok [2] fun c st' hr => ?_
  simp only [go_sem] at hr
  obtain ⟨rfl, rfl⟩ := hr
  refine ⟨vc, ?_⟩
  with_reducible refine thenC_normal ?_
  refine AWP_ret ?_
  cases hK
  refine EndsRW [] (.inl rfl) (of_decide_eq_true rfl) (by simp) rfl (fun c x hr => ?_) trivial
  simp only [go_sem] at hr
  obtain ⟨rfl, rfl⟩ := hr
  exact ⟨rfl, endR⟩

end Go.SH
