/-
 Several blocks of the call's own that are written no more: all at once.  Conditions: none.
-/
import Derived.Test.YtlpikingpnenkaaAxOp
import Derived.Test.YtlpikingpnenkaaAxUn
set_option linter.unusedSimpArgs false
set_option linter.unusedVariables false
namespace Go.AX
open Go Go.RowKit
variable {P : Program} {T : Tab} {F : Fz} {φ : Phi} {w0 w : World} {st : St}
/-- These blocks alone. -/
def keepJ (H : List (Option Blk)) (J : List Nat) : List (Option Blk) := H.mapIdx fun i b => if J.contains i then b else none
/-- All but these blocks. -/
def dropJ (H : List (Option Blk)) (J : List Nat) : List (Option Blk) := H.mapIdx fun i b => if J.contains i then none else b
theorem keepJ_at {H : List (Option Blk)} {J : List Nat} {i : Nat} {b : Blk} (h : (keepJ H J)[i]? = some (some b)) : i ∈ J ∧ H[i]? = some (some b) := by
 unfold keepJ at h
 rw [List.getElem?_mapIdx] at h
 cases e : H[i]? with
 | none => rw [e] at h; cases h
 | some x =>
  rw [e] at h
  simp only [Option.map_some, Option.some.injEq] at h
  split at h
  ·rename_i c
   exact ⟨by simpa using c, by rw [h]⟩
  ·cases h
theorem dropJ_at {H : List (Option Blk)} {J : List Nat} {i : Nat} {b : Blk} (h : (dropJ H J)[i]? = some (some b)) : i ∉ J ∧ H[i]? = some (some b) := by
 unfold dropJ at h
 rw [List.getElem?_mapIdx] at h
 cases e : H[i]? with
 | none => rw [e] at h; cases h
 | some x =>
  rw [e] at h
  simp only [Option.map_some, Option.some.injEq] at h
  split at h
  ·cases h
  ·rename_i c
   exact ⟨by simpa using c, by rw [h]⟩
theorem RelH.keepJ {base : Nat} {H : List (Option Blk)} (h : RelH F φ base H w) (J : List Nat) : RelH F φ base (keepJ H J) w :=
 ⟨h.agree, fun i hi => h.unused i (by simpa [AX.keepJ] using hi), fun i b' hi => h.blk i b' (keepJ_at hi).2, fun i j bi bj g hi hj => h.sep i j bi bj g (keepJ_at hi).2 (keepJ_at hj).2, h.good, fun j i l hj => h.pins j i l (keepJ_at hj).2⟩
theorem RelH.freezeJ {base : Nat} {H : List (Option Blk)} (h : RelH F φ base H w) (J : List Nat) : RelH (addOwn F φ (AX.keepJ H J) w) φ base (dropJ H J) w := by
 have hle : FLe F (addOwn F φ (AX.keepJ H J) w) := fun b o h => by simp [addOwn, h]
 have hold := fun i b' hi => dropJ_at (H := H) (J := J) (i := i) (b := b') hi
 refine ⟨(addOwn_agree (h.keepJ J)).1, fun i hi => h.unused i (by simpa [dropJ] using hi), fun i b' hi => ?_, fun i j bi bj g hi hj h1 h2 => h.sep i j _ _ g (hold i bi hi).2 (hold j bj hj).2 h1 h2, (addOwn_agree (h.keepJ J)).2, fun j i l hj => h.pins j i l (hold j _ hj).2⟩
 obtain ⟨hne, hi'⟩ := hold i b' hi
 refine (h.blk i b' hi').leO hle (PLe.refl φ) (fun g ho _ hg _ => ?_) fun _ _ => rfl
 unfold addOwn
 rw [hg]
 simp only
 refine if_neg ?_
 rintro ⟨id', b2, q1, q2⟩
 obtain ⟨k1, k2⟩ := keepJ_at q1
 exact hne (h.sep i id' _ _ _ hi' k2 ho q2 ▸ k1)
theorem AWP_stE {c : Code} {Q : Exit → St → Prop} {st : St} (st' : St) (he : st = st') (h : AWP P w0 c Q st') : AWP P w0 c Q st := he ▸ h
theorem agg_any {F : Fz} {φ φ' : Phi} {l : List AVal} {v : Value} (hl : l.all atomB = true) (h : RepV F φ (.agg l) v) : RepV F φ' (.agg l) v := by
 cases h with
 | agg _ vs h1 h2 h3 => exact .agg l vs h1 h2 fun i x u hx hu => atom_any (List.all_eq_true.1 hl x (List.mem_of_getElem? hx)) (h3 i x u hx hu)
end Go.AX
