/-
  strconv.Itoa by the library's contract. Conditions: the table of powers of ten lies as the initialiser laid it ('GoodF').
-/
import Derived.Test.YtlpikingpnenkaaDoorAxT
import Derived.Test.YtlpikingpnenkaaDoorAxN
import Derived.Test.YtlpikingpnenkaaDoorShelfI
import Derived.Shelf.Strconv.Itoa3
set_option linter.unusedSimpArgs false
set_option linter.unusedVariables false
namespace Go.AX
open Go Go.RowKit Go.Proofs

theorem decDigits_len : ∀ (u : Nat), u < 10 ^ 40 → (Go.Lib.decDigits u).length ≤ 40 := by
  have key : ∀ (k u : Nat), u < 10 ^ (k + 1) → (Go.Lib.decDigits u).length ≤ k + 1 := by
    intro k
    induction k with
    | zero =>
      intro u hu
      unfold Go.Lib.decDigits
      rw [dif_pos (by simpa using hu)]; simp
    | succ k ih =>
      intro u hu
      unfold Go.Lib.decDigits
      split
      · simp
      · have := ih (u / 10) (by rw [Nat.pow_succ] at hu; exact Nat.div_lt_of_lt_mul (by omega))
        simp; omega
  exact fun u hu => key 39 u hu
theorem itoa_len {n : Int} (h0 : -9223372036854775808 ≤ n) (h1 : n ≤ 9223372036854775807) : (Go.Lib.itoa n).length ≤ maxLen := by
  have h40 : (9223372036854775808 : Nat) < 10 ^ 40 := by decide
  have e : 41 ≤ maxLen := by decide
  unfold Go.Lib.itoa
  split
  · have := decDigits_len n.natAbs (by omega)
    simp only [List.length_cons]; omega
  · have := decDigits_len n.toNat (by omega)
    omega
theorem Tryd.itoaP {x : Int} (h0 : -9223372036854775808 ≤ x) (h1 : x ≤ 9223372036854775807) : Pure Tryd.prog 14 [.int .i64 x] (.str (Go.Lib.itoa x)) [] := by
  intro w F vs hag hlen hargs
  have hv : vs = #[.int .i64 x] := by
    obtain ⟨l⟩ := vs
    match l, hlen with
    | [v], _ =>
      have := int_inv (hargs 0 _ v rfl rfl)
      rw [this.1]
  subst hv
  have htab : Go.Lib.TabIs Tryd.prog w "internal/strconv.uint64pow10" .u64 Go.Lib.pow10Tab := by
    obtain ⟨et, z, hF⟩ := hag.2
    have hw := hag.1 _ _ hF
    unfold Go.Lib.TabIs World.var?
    have hg : Tryd.prog.globalNamed "internal/strconv.uint64pow10" = some 0 := by kernel_rfl
    rw [hg]
    simp [hw]
  refine (Any.strconv_Itoa Tryd.laysIt x h0 h1 w htab).mono fun e w' ⟨he, k, os, hw⟩ => ?_
  have hsz : w'.heap.size = w.heap.size + os.size := by rw [hw]; simp [Go.Sort.grow, World.drewN]
  have hblk : ∀ b, b < w.heap.size → w'.heap[b]? = w.heap[b]? := fun b hb => by
    rw [hw]
    simp only [Go.Sort.grow, World.drewN]
    rw [Array.getElem?_append_left hb]
  have hlt : ∀ {b : Nat} {o : Obj}, w.heap[b]? = some o → b < w.heap.size := fun h => (Array.getElem?_eq_some_iff.1 h).1
  refine ⟨_, F, φ0, he, FLn.refl F, ⟨fun b o hb => ?_, fun _ _ => rfl, fun id b hb => by simp at hb, fun i j bi bj g hi => by simp at hi, hag.2, fun j i l hj => by simp at hj⟩, .str _ _ (by simp) (itoa_len h0 h1), ?_⟩
  · have := hag.1 b o hb
    rw [hblk b (hlt this)]; exact this
  · refine ⟨?_, ?_, ?_, by omega, fun b hb => hblk b hb⟩ <;> (rw [hw]; simp [Go.Sort.grow, World.drewN])
end Go.AX
