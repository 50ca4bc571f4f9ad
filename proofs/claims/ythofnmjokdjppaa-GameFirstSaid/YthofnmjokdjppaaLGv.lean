/-
  The statement GameLehman as a plain law. Conditions: none.
-/
import Derived.Test.YthofnmjokdjppaaLGu
import Derived.Test.YthofnmjokdjppaaSprotaref
import Derived.Test.YthofnmjokdjppaaSpbits
import Derived.Test.YthofnmjokdjppaaSkGameLehman
import Derived.KernelRfl
set_option linter.unusedSimpArgs false
set_option linter.unusedVariables false
namespace Go.SH
open Go Go.AX

theorem oc_tabG : ∀ a : Fin 256, oc (a.val : Int) = ((cnt 8 a.val : Nat) : Int) := of_decide_eq_true (by kernel_rfl)
theorem oc_cnt {a : Nat} (h : a < 256) : oc (a : Int) = ((cnt 8 a : Nat) : Int) := oc_tabG ⟨a, h⟩

theorem gSize (s : Nat) : rotaref_Size s = some ((cnt 8 s : Nat) : Int) := by
  refine Gets.eq ?_
  unfold rotaref_Size
  refine gBind (R := fun o : List Int => o.length = cnt 8 s) ?_ fun o ho => gSome (by rw [ho])
  unfold rotaref_Elements
  refine gBind (R := fun o : List Int => o.length = cnt 8 s) (gFor 8 (k0 := 0) (fun k x => x.2 = (k : Int) ∧ x.1.length = cnt k s) (by omega) ⟨rfl, rfl⟩ ?_) fun o ho => gSome ho
  rintro k ⟨o, i⟩ hk ⟨h1, h2⟩
  simp only at h1 h2 ⊢
  subst h1
  have hc := cnt_le k s
  refine gIte (fun l1 => ?_) fun l1 => gSome (by have : k = 8 := by omega
                                                 subst this; exact h2)
  rw [gIn_nat]
  refine gBindE rfl (gIte (fun l2 => gChk (by simp; omega) (gSome ⟨by omega, by simp, ?_⟩)) fun l2 => gSome ⟨by omega, by simp, ?_⟩)
  · simp [cnt, h2, l2]
  · simp [cnt, h2, l2]

section
variable {N : Nat} {E : List (Int × Int)}

theorem gJoined (hG : Gra N E) {s t : Nat} (hs : s < N) (J : Nat) : Gets (rotaref_Joined N E J s t) (fun r => r = true ↔ Hang N E s t J) := by
  have h7 := hG.n7
  unfold rotaref_Joined
  refine gChk (by omega) ?_
  refine gBind (R := fun r => r = ((hrn E J (2 ^ s) N : Nat) : Int)) (gFor N (fun k st => st = (((hrn E J (2 ^ s) k : Nat) : Int), (k : Int))) (Nat.zero_le _) (by simp [hrn, shl_nat]) ?_) ?_
  · rintro k ⟨a, b⟩ hk hst
    simp only [Prod.mk.injEq] at hst
    obtain ⟨rfl, rfl⟩ := hst
    simp only
    refine gIte (fun h1 => ?_) fun h1 => gSome ?_
    · refine gBind (R := fun r => r = ((hps E J (hrn E J (2 ^ s) k) E.length : Nat) : Int)) (gFor E.length (fun i st => st = (((hps E J (hrn E J (2 ^ s) k) i : Nat) : Int), (i : Int))) (Nat.zero_le _) rfl ?_) ?_
      · rintro i ⟨c, d⟩ hi hst
        simp only [Prod.mk.injEq] at hst
        obtain ⟨rfl, rfl⟩ := hst
        simp only
        refine gIte (fun h2 => ?_) fun h2 => gSome ?_
        · have hi2 : i < E.length := by omega
          have h8 := hG.e8
          obtain ⟨eA, lA⟩ := hG.eA hi2
          obtain ⟨eB, lB⟩ := hG.eB hi2
          simp only [show ((i : Int)).toNat = i from rfl, eA, eB, gIn_nat]
          generalize hu : hps E J (hrn E J (2 ^ s) k) i = u
          refine gChk (by omega) (gBindE rfl ?_)
          refine gBind (R := fun y1 => y1 = (J.testBit i && u.testBit (hA E i))) (gIte (fun q => gSome (by rw [q]; rfl)) fun q => gSome (by rw [bool_ne q]; rfl)) ?_
          rintro _ rfl
          refine gBind (R := fun y2 => y2 = (J.testBit i && !u.testBit (hA E i) && u.testBit (hB E i))) (gIte (fun q => gSome ?_) fun q => gSome ?_) ?_
          · obtain ⟨q1, q2⟩ := q
            rw [q1] at q2 ⊢
            simp only [Bool.true_and] at q2 ⊢
            rw [bool_ne q2]; rfl
          · cases c1 : J.testBit i <;> cases c2 : u.testBit (hA E i) <;> simp [c1, c2] at q ⊢
          · rintro _ rfl
            have cond : (J.testBit i = true ∧ ((J.testBit i && u.testBit (hA E i)) = true ∨ (J.testBit i && !u.testBit (hA E i) && u.testBit (hB E i)) = true)) ↔ (J.testBit i = true ∧ (u.testBit (hA E i) = true ∨ u.testBit (hB E i) = true)) := by
              cases J.testBit i <;> cases u.testBit (hA E i) <;> cases u.testBit (hB E i) <;> simp
            refine gIte (fun h3 => gChk (by omega) (gChk (by omega) (gSome ⟨by omega, ?_⟩))) fun h3 => gChk (by omega) (gSome ⟨by omega, ?_⟩)
            · rw [cond] at h3
              simp only [Prod.mk.injEq]
              refine ⟨?_, by simp⟩
              simp only [hps, hu, hst, if_pos h3]
              rw [shl_nat, shl_nat, or_nat, or_nat]
            · rw [cond] at h3
              simp only [Prod.mk.injEq]
              refine ⟨?_, by simp⟩
              simp only [hps, hu, hst, if_neg h3]
        · have : i = E.length := by omega
          subst this; rfl
      · rintro _ rfl
        exact gChk (by omega) (gSome ⟨by omega, by simp [hrn]⟩)
    · have : k = N := by omega
      subst this; rfl
  · rintro _ rfl
    rw [gIn_nat]
    exact gBindE rfl (gSome Iff.rfl)

theorem and_ne (a b u : Nat) : (2 ^ a ||| 2 ^ b) &&& u ≠ 0 ↔ u.testBit a = true ∨ u.testBit b = true := by
  constructor
  · intro h
    obtain ⟨j, hj⟩ := exists_bit h
    rw [Nat.testBit_and, Nat.testBit_or, testBit_pow, testBit_pow, Bool.and_eq_true, Bool.or_eq_true, decide_eq_true_eq, decide_eq_true_eq] at hj
    obtain ⟨rfl | rfl, h2⟩ := hj
    · exact .inl h2
    · exact .inr h2
  · intro h e
    have z : ∀ j, ((2 ^ a ||| 2 ^ b) &&& u).testBit j = false := fun j => by rw [e, Nat.zero_testBit]
    rcases h with h | h
    · have := z a
      rw [Nat.testBit_and, Nat.testBit_or, testBit_pow, h] at this
      simp at this
    · have := z b
      rw [Nat.testBit_and, Nat.testBit_or, testBit_pow, testBit_pow, h] at this
      simp at this

/-- So many edges as make a tree of those vertices, and all hangs together. -/
def SP (N : Nat) (E : List (Int × Int)) (e V : Nat) : Prop := cnt 8 e + 1 = cnt 8 V ∧ hrn E e (2 ^ lo1 V) N = V

theorem gSpans (hG : Gra N E) {e V : Nat} (he : e < 256) (hV : V < 256) (hV0 : V ≠ 0) : Gets (game_spans N E e V) (fun r => r = true ↔ SP N E e V) := by
  have h7 := hG.n7
  have L := low_spec hV hV0
  have c1 := cnt_le 8 e
  have c2 := cnt_le 8 V
  unfold game_spans
  refine gChk (by omega) (gBindE (a := ((cnt 8 V : Nat) : Int)) (by rw [bits_OnesCount, oc_cnt hV]) ?_)
  refine gChk (by omega) (gBindE (a := ((cnt 8 e : Nat) : Int)) (by rw [bits_OnesCount, oc_cnt he]) ?_)
  refine gChk (by omega) (gIte (fun h => gSome ⟨fun q => absurd q (by simp), fun q => absurd q.1 (by omega)⟩) fun h => ?_)
  refine gChk (by omega) ?_
  rw [L.neg]
  generalize hl : lo1 V = l
  refine gBind (R := fun r => r = ((hrn E e (2 ^ l) N : Nat) : Int)) (gFor N (fun k st => st = (((hrn E e (2 ^ l) k : Nat) : Int), (k : Int))) (Nat.zero_le _) rfl ?_) ?_
  · rintro k ⟨a, b⟩ hk hst
    simp only [Prod.mk.injEq] at hst
    obtain ⟨rfl, rfl⟩ := hst
    simp only
    refine gIte (fun h1 => ?_) fun h1 => gSome ?_
    · refine gBind (R := fun r => r = ((hps E e (hrn E e (2 ^ l) k) E.length : Nat) : Int)) (gFor E.length (fun i st => st = (((hps E e (hrn E e (2 ^ l) k) i : Nat) : Int), (i : Int))) (Nat.zero_le _) rfl ?_) ?_
      · rintro i ⟨c, d⟩ hi hst
        simp only [Prod.mk.injEq] at hst
        obtain ⟨rfl, rfl⟩ := hst
        simp only
        refine gIte (fun h2 => ?_) fun h2 => gSome ?_
        · have hi2 : i < E.length := by omega
          obtain ⟨eA, lA⟩ := hG.eA hi2
          obtain ⟨eB, lB⟩ := hG.eB hi2
          simp only [show ((i : Int)).toNat = i from rfl, eA, eB]
          refine gChk (by omega) (gChk (by omega) (gChk (by omega) ?_))
          rw [shl_nat, shl_nat, or_nat, and_nat]
          have cc : iand ((e : Int) / 2 ^ i) 1 = 1 ↔ e.testBit i = true := bit_iff e i
          have cond : ∀ u : Nat, (iand ((e : Int) / 2 ^ i) 1 = 1 ∧ (((2 ^ hA E i ||| 2 ^ hB E i) &&& u : Nat) : Int) ≠ 0) ↔ (e.testBit i = true ∧ (u.testBit (hA E i) = true ∨ u.testBit (hB E i) = true)) := fun u => by
            rw [cc, ← and_ne]
            exact and_congr Iff.rfl (not_congr (by omega))
          refine gIte (fun h3 => gSome ⟨by omega, ?_⟩) fun h3 => gSome ⟨by omega, ?_⟩
          · rw [cond] at h3
            simp only [Prod.mk.injEq]
            refine ⟨?_, by simp⟩
            simp only [hps, hst, if_pos h3]
            rw [or_nat]
          · rw [cond] at h3
            simp only [Prod.mk.injEq]
            refine ⟨?_, by simp⟩
            simp only [hps, hst, if_neg h3]
        · have : i = E.length := by omega
          subst this; rfl
      · rintro _ rfl
        exact gSome ⟨by omega, by simp [hrn]⟩
    · have : k = N := by omega
      subst this; rfl
  · rintro _ rfl
    subst hl
    refine gSome ?_
    rw [decide_eq_true_eq]
    constructor
    · intro q
      have : hrn E e (2 ^ lo1 V) N = V := by
        have := q
        omega
      exact ⟨by omega, this⟩
    · intro q
      have := q.2
      omega
end
end Go.SH
