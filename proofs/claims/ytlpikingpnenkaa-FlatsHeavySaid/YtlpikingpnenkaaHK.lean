/-
 Plain functions that may have no answer: what they give ('Gets'), loops by what holds in them; sets as numbers. Conditions: none.
-/
import Derived.Test.YtlpikingpnenkaaAxN
set_option linter.unusedSimpArgs false
set_option linter.unusedVariables false
namespace Go.SH
open Go Go.AX Go.RowKit
section
variable {α β σ ρ κ : Type}
/-- It has an answer, and of the answer this holds. -/
def Gets (x : Option α) (Q : α → Prop) : Prop := ∃ a, x = some a ∧ Q a
theorem Gets.eq {x : Option α} {a : α} (h : Gets x (fun b => b = a)) : x = some a := by obtain ⟨b, h1, rfl⟩ := h; exact h1
theorem Gets.mono {x : Option α} {Q R : α → Prop} (h : Gets x Q) (hq : ∀ a, Q a → R a) : Gets x R := by obtain ⟨b, h1, h2⟩ := h; exact ⟨b, h1, hq b h2⟩
theorem gSome {a : α} {Q : α → Prop} (h : Q a) : Gets (some a) Q := ⟨a, rfl, h⟩
theorem gChk {c : Prop} [Decidable c] {x : Option α} {Q : α → Prop} (hc : c) (h : Gets x Q) : Gets (chk c x) Q := by rw [chk_pos hc]; exact h
theorem gIte {c : Prop} [Decidable c] {x y : Option α} {Q : α → Prop} (h1 : c → Gets x Q) (h2 : ¬ c → Gets y Q) : Gets (if c then x else y) Q := by
 by_cases h : c
 ·rw [if_pos h]; exact h1 h
 ·rw [if_neg h]; exact h2 h
theorem gBind {x : Option α} {f : α → Option β} {R : α → Prop} {Q : β → Prop} (h : Gets x R) (h2 : ∀ a, R a → Gets (f a) Q) : Gets (x.bind f) Q := by
 obtain ⟨a, rfl, ha⟩ := h; exact h2 a ha
theorem gBindE {x : Option α} {f : α → Option β} {a : α} {Q : β → Prop} (h : x = some a) (h2 : Gets (f a) Q) : Gets (x.bind f) Q := by subst h; exact h2
/-- What holds behind a round. -/
def Rnd (I : σ → Prop) (μ : σ → Nat) (s : σ) (Q : ρ → Prop) : σ ⊕ ρ → Prop
 | .inl s' => I s' ∧ μ s' < μ s
 | .inr r => Q r
theorem gLoop (I : σ → Prop) (μ : σ → Nat) {f : σ → Option (σ ⊕ ρ)} {Q : ρ → Prop} {s0 : σ} (h0 : I s0) (h : ∀ s, I s → Gets (f s) (Rnd I μ s Q)) : Gets (loopM f s0) Q := by
 have key : ∀ (m : Nat) (s : σ), μ s = m → I s → Gets (loopM f s) Q := by
  intro m
  induction m using Nat.strongRecOn with
  | ind m ih =>
   intro s hm hI
   obtain ⟨b, h1, h2⟩ := h s hI
   cases b with
   | inr r => exact ⟨r, loopM_inr h1, h2⟩
   | inl s' =>
    rw [loopM_inl h1]
    exact ih (μ s') (by have := h2.2; omega) s' rfl h2.1
 exact key _ _ rfl h0
/-- A loop that counts from k on: its states by the count. -/
theorem gFor (N : Nat) (S : Nat → σ → Prop) {f : σ → Option (σ ⊕ ρ)} {Q : ρ → Prop} {s0 : σ} {k0 : Nat} (hk : k0 ≤ N) (h0 : S k0 s0) (h : ∀ k s, k ≤ N → S k s → Gets (f s) (fun b => match b with | .inl s' => k < N ∧ S (k + 1) s' | .inr r => Q r)) : Gets (loopM f s0) Q := by
 have key : ∀ (m k : Nat) (s : σ), N - k = m → k ≤ N → S k s → Gets (loopM f s) Q := by
  intro m
  induction m with
  | zero =>
   intro k s hm hk hS
   obtain ⟨b, h1, h2⟩ := h k s hk hS
   cases b with
   | inr r => exact ⟨r, loopM_inr h1, h2⟩
   | inl s' => have := h2.1; omega
  | succ m ih =>
   intro k s hm hk hS
   obtain ⟨b, h1, h2⟩ := h k s hk hS
   cases b with
   | inr r => exact ⟨r, loopM_inr h1, h2⟩
   | inl s' =>
    rw [loopM_inl h1]
    exact ih (k + 1) s' (by omega) (by have := h2.1; omega) h2.2
 exact key _ _ _ rfl hk h0
/-- What is known of the arguments may be used. -/
theorem Pure_of_facts {P : Program} {f : FuncId} {args : List AVal} {r : AVal} {H : List Blk} (h : factL1 args → Pure P f args r H) : Pure P f args r H := by
 intro w F vs hag hlen hargs
 refine h (factL1_of fun i x hx => ?_) w F vs hag hlen hargs
 have hi : i < vs.size := by
  rw [← hlen]
  rcases Nat.lt_or_ge i args.length with q | q
  ·exact q
  ·rw [List.getElem?_eq_none q] at hx; cases hx
 exact fact1_rep (hargs i x _ hx (Array.getElem?_eq_getElem hi))
end
/-! ### numbers as sets -/
theorem shl_nat' (i : Nat) : (2 : Int) ^ i = ((2 ^ i : Nat) : Int) := by simp
theorem shr_nat (a i : Nat) : (a : Int) / 2 ^ ((i : Int)).toNat = ((a / 2 ^ i : Nat) : Int) := by simp
theorem bit_nat (a i : Nat) : iand ((a : Int) / 2 ^ ((i : Int)).toNat) 1 = if a.testBit i then 1 else 0 := by
 rw [shr_nat, show (1 : Int) = ((1 : Nat) : Int) from rfl, iand_nn, Nat.and_one_is_mod]
 have := Nat.testBit_eq_decide_div_mod_eq (x := a) (i := i)
 rw [this]
 by_cases h : a / 2 ^ i % 2 = 1
 ·simp [h]
 ·have : a / 2 ^ i % 2 = 0 := by omega
  simp [this]
theorem and_nat (a b : Nat) : iand (a : Int) (b : Int) = ((a &&& b : Nat) : Int) := rfl
theorem or_nat (a b : Nat) : ior (a : Int) (b : Int) = ((a ||| b : Nat) : Int) := ior_nn a b
/-- a without b. -/
def dif (a b : Nat) : Nat := a ^^^ (a &&& b)
theorem dif_nat (a b : Nat) : iandnot (a : Int) (b : Int) = ((dif a b : Nat) : Int) := iandnot_nn a b
theorem testBit_dif (a b i : Nat) : (dif a b).testBit i = (a.testBit i && !b.testBit i) := by
 unfold dif; rw [Nat.testBit_xor, Nat.testBit_and]; cases a.testBit i <;> cases b.testBit i <;> rfl
theorem toNat_nat (a : Nat) : ((a : Int)).toNat = a := rfl
theorem or_lt {a b n : Nat} (ha : a < 2 ^ n) (hb : b < 2 ^ n) : a ||| b < 2 ^ n := Nat.or_lt_two_pow ha hb
theorem pow_lt {i n : Nat} (h : i < n) : 2 ^ i < 2 ^ n := Nat.pow_lt_pow_right (by omega) h
theorem dif_lt {a b n : Nat} (ha : a < 2 ^ n) : dif a b < 2 ^ n := Nat.xor_lt_two_pow ha (Nat.lt_of_le_of_lt Nat.and_le_left ha)
theorem and_lt {a b n : Nat} (ha : a < 2 ^ n) : a &&& b < 2 ^ n := Nat.lt_of_le_of_lt Nat.and_le_left ha
theorem pow_le8 {n : Nat} (h : n ≤ 8) : 2 ^ n ≤ 256 := Nat.pow_le_pow_right (by omega) h
end Go.SH
