/-
  slices.Contains on a list of structs of two ints, by the library's contract (a list without elements: by the walk). Conditions: none.
-/
import Derived.Test.YtlpikingpnenkaaAxT
import Derived.Test.YtlpikingpnenkaaAxR
import Derived.Test.YtlpikingpnenkaaAxN
import Derived.Test.YtlpikingpnenkaaAxW
import Derived.Test.YtlpikingpnenkaaShelfE
import Derived.Laws.StructEq
set_option linter.unusedSimpArgs false
set_option linter.unusedVariables false
set_option maxRecDepth 8000
namespace Go.SH
open Go Go.AX Go.AX.Try Go.Proofs

noncomputable def ixE_cut (s : List (Int × Int)) (v_0 : Int) (v_1 : Int) : Option (Int) :=
  (loopM (ρ := Unit) (fun (_ : Unit) =>
  if 0 < (s.length : Int) then
  none
 else
  some (.inr ())) ()).bind fun (_ : Unit) =>
  some (-1)

noncomputable def conE_cut (s : List (Int × Int)) (v_0 : Int) (v_1 : Int) : Option (Bool) :=
  (ixE_cut s v_0 v_1).bind fun y =>
  some (decide (0 ≤ y))


theorem W_ixE_cut {s : List (Int × Int)} {v_0 : Int} {v_1 : Int} {r : Int} (hK : ixE_cut s v_0 v_1 = some r) : Pure Try.prog 77 [.fn 2 s.length (fun i => [.int .i64 ((s.getD i (0, 0)).1), .int .i64 ((s.getD i (0, 0)).2)]), .agg [.int .i64 v_0, .int .i64 v_1]] (.int .i64 r) [] := by
  refine Pure_introF tab_ok (n := 19) (l := [.tmp 4]) Try.func77 rfl rfl rfl (by simp) fun hfact w0 => ?_
  simp only [factL1, fact1, fact0, factL0, lo, hi, maxLen, and_true] at hfact
  unfold ixE_cut at hK
  refine AWP_seq ?_
  refine AWP_rg tab_ok [0, 3] fun c st' hr => ?_
  simp only [go_sem] at hr
  obtain ⟨rfl, rfl⟩ := hr
  refine ⟨vc, ?_⟩
  with_reducible refine thenC_normal ?_
  refine AWP_seq ?_
  refine AWP_seq ?_
  refine AWP_rg tab_ok [0, 3, 7, 8] fun c st' hr => ?_
  simp only [go_sem] at hr
  obtain ⟨rfl, rfl⟩ := hr
  refine ⟨vc, ?_⟩
  with_reducible refine thenC_normal ?_
  refine AWP_block ?_
  refine AWP_loopX 0 (fun (_ : Unit) => ⟨19, [(0, .fn 2 s.length (fun i => [.int .i64 ((s.getD i (0, 0)).1), .int .i64 ((s.getD i (0, 0)).2)])), (3, .ptr 0 0 0), (7, .int .i64 (s.length : Int)), (8, .int .i64 0)], [some (.gen 46 2 [[.int .i64 v_0, .int .i64 v_1]])]⟩) (fun (_ : Unit) => ⟨19, [], []⟩) (fun v => v) () [0] hK mkWk ?_ ?_
  ·clear hK; rintro _ b hK hpost1
   try dsimp only at hK
   change AWP _ _ _ _ ⟨19, [(0, .fn 2 s.length (fun i => [.int .i64 ((s.getD i (0, 0)).1), .int .i64 ((s.getD i (0, 0)).2)])), (3, .ptr 0 0 0), (7, .int .i64 (s.length : Int)), (8, .int .i64 0)], [some (.gen 46 2 [[.int .i64 v_0, .int .i64 v_1]])]⟩
   refine AWP_seq ?_
   refine AWP_rg tab_ok [0, 3, 7, 8, 9] fun c st' hr => ?_
   simp only [go_sem] at hr
   obtain ⟨rfl, rfl⟩ := hr
   refine ⟨vc, ?_⟩
   with_reducible refine thenC_normal ?_
   refine AWP_seq ?_
   refine AWP_condP (0 < (s.length : Int)) rfl bd (fun hb => ?_) (fun hb => ?_)
   ·replace hK := ite_t hK hb
    refine AWP_skip ?_
    with_reducible refine thenC_normal ?_
    refine AWP_seq ?_
    refine AWP_block ?_
    refine AWP_seq ?_
    refine AWP_rg tab_ok [0, 3, 5, 7, 8] fun c st' hr => ?_
    simp only [go_sem] at hr
    obtain ⟨rfl, rfl⟩ := hr
    refine ⟨vc, ?_⟩
    with_reducible refine thenC_normal ?_
    refine AWP_seq ?_
    cases hK
   ·replace hK := ite_f hK hb
    refine AWP_exit ?_
    with_reducible refine thenC_exit (again_x ?_)
    refine cutX_here () [] (by have hq := hpost1 _ hK; exact hq) mkWk
  ·clear hK; rintro _ hK
   try dsimp only at hK
   refine exS ⟨19, [], []⟩ rfl ?_
   with_reducible refine inBlockA_exit (thenC_normal ?_)
   refine AWP_seq ?_
   refine AWP_rg tab_ok [4] fun c st' hr => ?_
   simp only [go_sem] at hr
   obtain ⟨rfl, rfl⟩ := hr
   refine ⟨vc, ?_⟩
   with_reducible refine thenC_normal ?_
   refine AWP_ret ?_
   cases hK
   refine EndsRW [] (.inl rfl) (of_decide_eq_true rfl) (by simp) rfl (fun c x hr => ?_) trivial
   simp only [go_sem] at hr
   obtain ⟨rfl, rfl⟩ := hr
   exact ⟨rfl, endR⟩


theorem W_conE_cut {s : List (Int × Int)} {v_0 : Int} {v_1 : Int} {r : Bool} (hK : conE_cut s v_0 v_1 = some r) : Pure Try.prog 27 [.fn 2 s.length (fun i => [.int .i64 ((s.getD i (0, 0)).1), .int .i64 ((s.getD i (0, 0)).2)]), .agg [.int .i64 v_0, .int .i64 v_1]] (.bool r) [] := by
  refine Pure_introF tab_ok (n := 9) (l := [.tmp 4]) Try.func27 rfl rfl rfl (by simp) fun hfact w0 => ?_
  simp only [factL1, fact1, fact0, factL0, lo, hi, maxLen, and_true] at hfact
  unfold conE_cut at hK
  refine AWP_seq ?_
  refine AWP_rg tab_ok [0, 3] fun c st' hr => ?_
  simp only [go_sem] at hr
  obtain ⟨rfl, rfl⟩ := hr
  refine ⟨vc, ?_⟩
  with_reducible refine thenC_normal ?_
  refine AWP_seq ?_
  refine AWP_rl ?_
  refine AWPL_rn tab_ok 2 [5, 6] fun c st' hr => ?_
  simp only [go_sem] at hr
  obtain ⟨rfl, rfl⟩ := hr
  refine ⟨vc, ?_⟩
  replace hK := bind_s hK
  obtain ⟨y, hy, hK⟩ := hK
  refine AWPL_callK [7] (W_ixE_cut hy) rfl rfl pcT rfl Try.call77 (.cons (.atom _ rfl) (.cons (.agg _ _ rfl (ArgsOk.get (.cons (.atom _ rfl) (.cons (.atom _ rfl) .nil))).2) .nil)) (hscG trivial) (of_decide_eq_true rfl) (by first | rfl | simp [nI, nI1, nI0]) (by first | rfl | simp [nIB, nI0]) fun st' hr => ?_
  simp only [go_sem] at hr
  subst hr
  clear hy
  refine AWPL_rn tab_ok 2 [4] fun c st' hr => ?_
  simp only [go_sem] at hr
  obtain ⟨rfl, rfl⟩ := hr
  refine ⟨vc, ?_⟩
  refine AWPL_nil ?_
  with_reducible refine thenC_normal ?_
  refine AWP_ret ?_
  cases hK
  refine EndsRW [] (.inl rfl) (of_decide_eq_true rfl) (by simp) rfl (fun c x hr => ?_) trivial
  simp only [go_sem] at hr
  obtain ⟨rfl, rfl⟩ := hr
  exact ⟨rfl, endR⟩

end Go.SH
namespace Go.AX
open Go Go.RowKit Go.Proofs

def pairV (q : Int × Int) : List Value := [.int .i64 q.1, .int .i64 q.2]
theorem Try.eqE : EqlAt Try.prog 46 (fun x : Int × Int => .agg (pairV x).toArray) (fun x y => decide (x = y)) := by
  refine ⟨fun x y w => ?_, fun op a b x y w => ?_⟩
  · obtain ⟨x1, x2⟩ := x
    obtain ⟨y1, y2⟩ := y
    have hu : Try.prog.underlying 46 = some (.struct (Try.prog.fieldsOf 46)) := by kernel_rfl
    have hs : Try.prog.stoodInHeld 46 = false := by kernel_rfl
    have hf : (Try.prog.fieldsOf 46).toList.map (fun f => (f.name != "_", f.type, f.offset)) = [(true, 3, 0), (true, 3, 1)] := by kernel_rfl
    have hi : Try.prog.underlying 3 = some (.int .i64) := Try.underlying3
    show (binOp .eql 46 (.agg (pairV (x1, x2)).toArray) (.agg (pairV (y1, y2)).toArray)).run Try.prog w = _
    rw [run_eql_struct, run_equalIn_agg w 9999 46 _ _ hu hs]
    generalize (Try.prog.fieldsOf 46).toList = l at hf
    have hl : l.length = 2 := by have := congrArg List.length hf; simpa using this
    match l, hl, hf with
    | [f1, f2], _, hf =>
      simp only [List.map_cons, List.map_nil, List.cons.injEq, Prod.mk.injEq, and_true, bne_iff_ne, ne_eq] at hf
      obtain ⟨⟨n1, t1, o1⟩, n2, t2, o2⟩ := hf
      have ag : (isAgg 3).run Try.prog w = .ok false w := Try.isAgg3 w
      simp [Op.eqFields, n1, n2, t1, t2, o1, o2, part, pairV, ag, run_equalIn_int w _ 3 .i64 .i64 _ _ hi]
      by_cases c1 : x1 = y1 <;> by_cases c2 : x2 = y2 <;> simp [c1, c2, Result.andThen, ag, run_equalIn_int w _ 3 .i64 .i64 _ _ hi]
  · exact run_eqGuard_agg w op 46 a b _ _ (by kernel_rfl)
theorem Try.containsE {s : List (Int × Int)} {a b : Int} : Pure Try.prog 27 [.fn 2 s.length (fun i => [.int .i64 ((s.getD i (0, 0)).1), .int .i64 ((s.getD i (0, 0)).2)]), .agg [.int .i64 a, .int .i64 b]] (.bool (decide ((a, b) ∈ s))) [] := by
  rcases Classical.em (s = []) with hs | hs
  · subst hs
    exact Go.SH.W_conE_cut (s := []) (r := decide ((a, b) ∈ ([] : List (Int × Int)))) (by
      unfold Go.SH.conE_cut Go.SH.ixE_cut
      rw [loopM_inr (r := ()) (by rw [if_neg (by simp)])]; simp)
  · intro w F vs hag hlen hargs
    obtain ⟨l⟩ := vs
    match l, hlen with
    | [v1, v2], _ =>
      have r1 := hargs 0 _ v1 rfl rfl
      have r2 := hargs 1 _ v2 rfl rfl
      have e2 : v2 = .agg (pairV (a, b)).toArray := by
        cases r2 with
        | agg _ vs2 q1 q2 q3 =>
          obtain ⟨l2⟩ := vs2
          match l2, q1 with
          | [x, y], _ =>
            rw [(int_inv (q3 0 _ x rfl rfl)).1, (int_inv (q3 1 _ y rfl rfl)).1]; rfl
      subst e2
      have hs0 : 0 < s.length := by cases s <;> simp_all
      cases r1 with | fn _ _ _ _ h1 => ?_
      cases h1 with | imm _ _ A n c u k1 k2 k3 k4 k5 k6 k7 => ?_
      have hn : n = s.length := by rw [k1]; simp [fnEs]
      subst hn
      cases A with
      | none => exact absurd rfl (k5 hs0)
      | some ad =>
        have get : ∀ i, i < s.length → (fnEs s.length (fun i => [AVal.int .i64 ((s.getD i (0, 0)).1), .int .i64 ((s.getD i (0, 0)).2)]))[i]? = some [AVal.int .i64 ((s.getD i (0, 0)).1), .int .i64 ((s.getD i (0, 0)).2)] := fun i hi => by
          unfold fnEs
          rw [List.getElem?_map, List.getElem?_range hi]; rfl
        have hcell : ∀ i, i < s.length → w.cell? (ad.add (i * 2 + 0)) = some (.int .i64 (s.getD i (0, 0)).1) ∧ w.cell? (ad.add (i * 2 + 1)) = some (.int .i64 (s.getD i (0, 0)).2) := fun i hi => by
          have c0 := k6 ad i _ 0 _ rfl (get i hi) rfl
          have c1 := k6 ad i _ 1 _ rfl (get i hi) rfl
          have u0 := (int_inv (k7 i _ 0 _ (get i hi) rfl)).1
          have u1 := (int_inv (k7 i _ 1 _ (get i hi) rfl)).1
          rw [u0] at c0
          rw [u1] at c1
          have hr : RelH F φ0 w.heap.size [] w := ⟨hag.1, fun _ _ => rfl, fun id b hb => by simp at hb, fun i j bi bj g hi => by simp at hi, hag.2, fun j i l hj => by simp at hj⟩
          exact ⟨agree_cell hr c0.1, agree_cell hr c1.1⟩
        have hsp : ad.spot = none := by
          have c0 := (k6 ad 0 _ 0 _ rfl (get 0 hs0) rfl).1
          unfold cellF at c0
          split at c0
          · have : (ad.add (0 * 2 + 0)).spot = ad.spot := rfl
            rw [this] at c0
            cases hq : ad.spot with
            | none => rfl
            | some z => rw [hq] at c0; simp at c0
          · cases c0
        obtain ⟨b0, off, sp⟩ := ad
        simp only at hsp
        subst hsp
        have hE : ∀ j, j < s.length → s[j]! = s.getD j (0, 0) := fun j hj => by
          rw [getElem!_pos s j hj, List.getD_eq_getElem?_getD, List.getElem?_eq_getElem hj]; rfl
        have hmax : s.length ≤ 9223372036854775807 := Nat.le_trans (Nat.le_trans k2 k3) (by decide)
        have hC := AnyQ.slices_Contains Try.laysConE 2 (fun w => Try.isAgg46 w) (fun w => Try.sizeOf46 w) pairV (fun _ => rfl) (fun x y => decide (x = y)) Try.eqE b0 off s.length c s (a, b) w (Nat.le_refl _) hmax (fun j hj i v hi => by
          rw [hE j hj] at hi
          obtain ⟨h0, h1⟩ := hcell j hj
          match i, hi with
          | 0, hi => cases hi; rw [Addr.add_lit, Nat.add_zero] at h0; exact h0
          | 1, hi => cases hi; rw [Addr.add_lit] at h1; exact h1)
        refine hC.mono fun e w' he => ?_
        obtain ⟨he, hb⟩ := he
        have hlt : ∀ {b : Nat} {o : Obj}, w.heap[b]? = some o → b < w.heap.size := fun h => (Array.getElem?_eq_some_iff.1 h).1
        refine ⟨_, F, φ0, he, FLn.refl F, ⟨fun b o hb' => ?_, fun _ _ => rfl, fun id b hb => by simp at hb, fun i j bi bj g hi => by simp at hi, hag.2, fun j i l hj => by simp at hj⟩, ?_, hb⟩
        · rw [hb.block b (hlt (hag.1 b o hb'))]; exact hag.1 b o hb'
        · have : (s.take s.length).any (fun y => decide ((a, b) = y)) = decide ((a, b) ∈ s) := by
            rw [List.take_length, Bool.eq_iff_iff, List.any_eq_true, decide_eq_true_eq]
            constructor
            · rintro ⟨y, h1, h2⟩; rw [of_decide_eq_true h2]; exact h1
            · intro h; exact ⟨_, h, decide_eq_true rfl⟩
          rw [this]
          exact .bool _
end Go.AX
