/-
  math/bits.Len and TrailingZeros by the library's contracts. Conditions: the table lies as the initialiser laid it ('GoodF').
-/
import Derived.Test.YtobpcecpfojpmaaDoorAxN
import Derived.Test.YtobpcecpfojpmaaDoorShelfT
import Derived.Shelf.Small.Bits
import Derived.Shelf.Spec.TrailingZeros
set_option linter.unusedSimpArgs false
set_option linter.unusedVariables false
namespace Go.AX
open Go Go.RowKit Go.Proofs

theorem cell_agree {F : Fz} {W : World} (h : ∀ b o, F b = some o → W.heap[b]? = some o) {a : Addr} {v : Value} (hc : cellF F a = some v) : W.cell? a = some v := by
  unfold cellF at hc
  split at hc
  · rename_i c u z hF
    unfold World.cell?
    rw [h _ _ hF]
    exact hc
  · cases hc
theorem Pure_lib1 {P : Program} {f : FuncId} {x y : Int} (h : ∀ w F, Agree F w → Calls P f #[.int .u64 x] w fun e w' => e = .returned (.int .i64 y) ∧ w' = w) (hy : lo .i64 ≤ y ∧ y ≤ hi .i64) : Pure P f [.int .u64 x] (.int .i64 y) [] := by
  intro w F vs hag hlen hargs
  have hv : vs = #[.int .u64 x] := by
    obtain ⟨l⟩ := vs
    match l, hlen with
    | [v], _ =>
      have := int_inv (hargs 0 _ v rfl rfl)
      rw [this.1]
  subst hv
  refine (h w F hag).mono fun e w' ⟨he, hw⟩ => ⟨_, F, φ0, he, FLe.refl F, ?_, .int _ _ hy.1 hy.2, by rw [hw]; exact Below.refl _ _⟩
  rw [hw]
  exact ⟨hag.1, fun _ _ => rfl, fun id b hb => by simp at hb, fun i j bi bj g c s t c' s' t' hi => by simp at hi, hag.2, fun j i l hj => by simp at hj⟩
theorem ctz_le (x : Nat) : Go.Lib.ctz 64 x ≤ 64 := by
  unfold Go.Lib.ctz
  split
  · exact Nat.le_refl _
  · have : ∀ (f x : Nat), Go.Lib.ctzFrom f x ≤ f := by
      intro f
      induction f with
      | zero => intro x; exact Nat.le_refl _
      | succ f ih =>
        intro x
        unfold Go.Lib.ctzFrom
        split
        · exact Nat.zero_le _
        · have := ih (x / 2); omega
    exact this 64 x
theorem bitLen_le (x : Nat) : Go.Lib.bitLen x ≤ 64 := by
  have : ∀ (f x : Nat), Go.Lib.bitLenAux f x ≤ f := by
    intro f
    induction f with
    | zero => intro x; simp [Go.Lib.bitLenAux]
    | succ f ih =>
      intro x
      unfold Go.Lib.bitLenAux
      split
      · exact Nat.zero_le _
      · have := ih (x / 2); omega
  exact this 64 x
theorem Tryd.bitsLen {x : Int} (h0 : 0 ≤ x) (h1 : x ≤ 18446744073709551615) : Pure Tryd.prog 48 [.int .u64 x] (.int .i64 (Go.Lib.bitLen x.toNat : Nat)) [] :=
  Pure_lib1 (fun w F _ => Any.bits_Len Tryd.lays125 x w h0 h1) (by have := bitLen_le x.toNat; simp only [lo, hi]; omega)
theorem Tryd.bitsTz {x : Int} (h0 : 0 ≤ x) (h1 : x ≤ 18446744073709551615) : Pure Tryd.prog 49 [.int .u64 x] (.int .i64 (Go.Lib.ctz 64 x.toNat : Nat)) [] := by
  refine Pure_lib1 (fun w F hag => ?_) (by have := ctz_le x.toNat; simp only [lo, hi]; omega)
  have e : ((x.toNat : Nat) : Int) = x := by omega
  have := Any7.bits_TrailingZeros Tryd.laysTz x.toNat (by omega) w fun _ j hj => cell_agree hag.1 (hag.2 j hj)
  rw [e] at this
  exact this
end Go.AX
