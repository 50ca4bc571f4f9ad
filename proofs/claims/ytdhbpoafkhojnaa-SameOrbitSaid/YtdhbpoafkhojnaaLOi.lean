/-
  As many unlike Renames as all orders over those that leave it as it is: the statement SameOrbit as a plain law. Conditions: lists are no longer than 2^63 - 1.
-/
import Derived.Test.YtdhbpoafkhojnaaLOf
import Derived.Test.YtdhbpoafkhojnaaLUd
import Derived.Test.YtdhbpoafkhojnaaSkSameOrbit
set_option linter.unusedSimpArgs false
set_option linter.unusedVariables false
namespace Go.SH
open Go Go.AX

theorem Same_spec (a b : List Int) : rotalaw_Same_int a b = some (decide (a = b)) := by
  refine Gets.eq ?_
  unfold rotalaw_Same_int
  refine gIte (fun q => gSome ?_) fun q => ?_
  · have : a ≠ b := fun e => q (by rw [e])
    simp [this]
  have hl : a.length = b.length := by omega
  refine gBind (R := fun z => match z with | .inl _ => a = b | .inr r => r = false ∧ a ≠ b) (gFor a.length (fun k (x : Int) => x = (k : Int) ∧ ∀ j, j < k → a.getD j 0 = b.getD j 0) (Nat.zero_le _) ⟨rfl, none_all⟩ ?_) ?_
  · rintro k _ hk ⟨rfl, hI⟩
    simp only [toNat_nat]
    refine gIte (fun h1 => gChk (by omega) (gIte (fun q => gSome ⟨rfl, fun e => q (by rw [e])⟩) fun q => gSome ⟨by omega, by simp, step_all hI (by omega)⟩)) fun h1 => gSome ?_
    refine list_ext_getD hl fun i hi => hI i (by omega)
  · rintro (u | r) hz
    · exact gSome (by simp [show a = b from hz])
    · exact gSome (by rw [hz.1]; simp [hz.2])
theorem ContainsR (L : List (List Nat)) (hl : L.length < 2 ^ 60) (f : List Int → Option Bool) (K : List Nat) (hf : ∀ x, f x = some (decide (cs K = x))) : Gets (slices_ContainsFunc_rows_int (L.map cs) f) (fun r => r = true ↔ K ∈ L) := by
  unfold slices_ContainsFunc_rows_int slices_IndexFunc_rows_int
  simp only [List.length_map, hf]
  have hg : ∀ k, k < L.length → ((L.map cs).getD k [] = cs (L.getD k [])) := fun k hk => by
    rw [List.getD_eq_getElem?_getD, List.getD_eq_getElem?_getD, List.getElem?_map, List.getElem?_eq_getElem hk]; rfl
  refine gBind (R := fun r => 0 ≤ r ↔ K ∈ L) ?_ fun r hr => gSome (by rw [decide_eq_true_eq]; exact hr)
  refine gBind (R := fun z => match z with | .inl _ => K ∉ L | .inr r => 0 ≤ r ∧ K ∈ L) (gFor L.length (fun k (x : Int) => x = (k : Int) ∧ ∀ j, j < k → K ≠ L.getD j []) (Nat.zero_le _) ⟨rfl, none_all⟩ ?_) ?_
  · rintro k _ hk ⟨rfl, hI⟩
    simp only [toNat_nat]
    refine gIte (fun h1 => gChk (by omega) ?_) fun h1 => gSome fun hK => ?_
    · have hk' : k < L.length := by omega
      rw [Option.bind_some]
      simp only [hg k hk']
      refine gIte (fun q => gSome ⟨by omega, ?_⟩) fun q => gSome ⟨hk', by simp, step_all hI fun e => q ?_⟩
      · have := cs_inj (of_decide_eq_true q)
        rw [this, List.getD_eq_getElem?_getD, List.getElem?_eq_getElem hk']; exact List.getElem_mem hk'
      · exact decide_eq_true (by rw [e])
    · obtain ⟨j, hj, e⟩ := List.getElem_of_mem hK
      exact hI j (by omega) (by rw [List.getD_eq_getElem?_getD, List.getElem?_eq_getElem hj]; exact e.symm)
  · rintro (u | r) hz
    · exact gSome ⟨fun z => absurd z (by omega), fun z => absurd z hz⟩
    · exact gSome ⟨fun _ => hz.2, fun _ => hz.1⟩
/-- An order that begins so. -/
def Pfx (n : Nat) (P Q : List Nat) : Prop := Q ∈ ords n ∧ ∀ i, i < P.length → pf Q i = pf P i
section
variable {n : Nat} {B : List Nat} {P Q : List Nat} {used : Nat}
theorem pfx_end (h : PreO n P used) (hl : P.length = n) : Pfx n P Q ↔ Q = P := by
  have := goo_end (X := fun _ => 0) (Y := fun _ => 0) (Q := Q) h hl
  rw [← this]
  exact ⟨fun z => ⟨z.1, z.2, fun _ _ _ => rfl⟩, fun z => ⟨z.1, z.2.1⟩⟩
theorem pfx_step (h : PreO n P used) (hl : P.length < n) {k : Nat} (hk : k < n) : (Pfx n P Q ∧ pf Q P.length = k) ↔ used.testBit k = false ∧ Pfx n (P ++ [k]) Q := by
  have := goo_step (X := fun _ => 0) (Y := fun _ => 0) (Q := Q) h hl hk
  constructor
  · rintro ⟨⟨a, b⟩, c⟩
    have := this.1 ⟨⟨a, b, fun _ _ _ => rfl⟩, c⟩
    exact ⟨this.1, this.2.2.1, this.2.2.2.1⟩
  · rintro ⟨a, b, c⟩
    have := this.2 ⟨a, fun _ _ _ => rfl, b, c, fun _ _ _ => rfl⟩
    exact ⟨⟨this.1.1, this.1.2.1⟩, this.2⟩
/-- What has been gathered. -/
def Gath (n : Nat) (B : List Nat) (L L' : List (List Nat)) (p : List Nat → Prop) : Prop := L'.Nodup ∧ ∀ K, K ∈ L' ↔ K ∈ L ∨ ∃ Q, p Q ∧ ren n Q B = K
theorem Gath.none {L : List (List Nat)} {p : List Nat → Prop} (hL : L.Nodup) (h : ∀ Q, ¬ p Q) : Gath n B L L p := ⟨hL, fun K => ⟨.inl, fun z => z.elim id fun ⟨Q, q, _⟩ => absurd q (h Q)⟩⟩
theorem Gath.congr {L L' : List (List Nat)} {p q : List Nat → Prop} (h : Gath n B L L' p) (e : ∀ Q, p Q ↔ q Q) : Gath n B L L' q := ⟨h.1, fun K => by rw [h.2]; simp only [e]⟩
theorem Gath.trans {L L' L'' : List (List Nat)} {p q r : List Nat → Prop} (h : Gath n B L L' p) (k : Gath n B L' L'' q) (e : ∀ Q, r Q ↔ p Q ∨ q Q) : Gath n B L L'' r := ⟨k.1, fun K => by
  rw [k.2, h.2]
  constructor
  · rintro ((z | ⟨Q, q1, q2⟩) | ⟨Q, q1, q2⟩)
    · exact .inl z
    · exact .inr ⟨Q, (e Q).2 (.inl q1), q2⟩
    · exact .inr ⟨Q, (e Q).2 (.inr q1), q2⟩
  · rintro (z | ⟨Q, q1, q2⟩)
    · exact .inl (.inl z)
    · rcases (e Q).1 q1 with c | c
      · exact .inl (.inr ⟨Q, c, q2⟩)
      · exact .inr ⟨Q, c, q2⟩⟩
theorem gath_len {L L' : List (List Nat)} {p : List Nat → Prop} (hL : Gath n B [] L' p) (hp : ∀ Q, p Q → Q ∈ ords n) : L'.length ≤ (ords n).length := by
  have h1 : ∀ K, K ∈ L' → K ∈ (ords n).map fun Q => ren n Q B := fun K hK => by
    rcases (hL.2 K).1 hK with z | ⟨Q, q1, q2⟩
    · simp at z
    · exact List.mem_map.2 ⟨Q, hp Q q1, q2⟩
  have := inj_lenG (g := id) L' ((ords n).map fun Q => ren n Q B) hL.1 (fun _ _ _ _ e => e) h1
  rwa [List.length_map] at this
theorem orbit1 (hB : Mat n B) : ∀ (fuel : Nat) (P : List Nat) (used a : Nat) (L : List (List Nat)) (p0 : List Nat → Prop), PreO n P used → n < fuel + P.length → a + cntP (ords n) (fun Q => Pfx n P Q) ≤ 100000 → Gath n B [] L p0 → (∀ Q, p0 Q → Q ∈ ords n) →
    Gets (rotakeep_SameOrbit_1 fuel (n : Int) (cs B) (cs P) (a : Int) (L.map cs)) (fun r => ∃ L', r = (true, cs P, ((a + cntP (ords n) (fun Q => Pfx n P Q) : Nat) : Int), L'.map cs) ∧ Gath n B L L' (fun Q => Pfx n P Q))
  | 0, P, used, a, L, p0, hP, hf, _, _, _ => absurd hP.len (by omega)
  | fuel + 1, P, used, a, L, p0, hP, hf, ha, hL, hp0 => by
    have h8 := hB.m8
    have hlen := hB.toFam.len
    have hPl := hP.len
    have hoL : (ords n).length ≤ 40320 := by rw [ext_all]; exact fact8 n h8
    rw [rotakeep_SameOrbit_1.eq_2]
    simp only [cs_len]
    refine gIte (fun e => ?_) fun e => ?_
    · have hl : P.length = n := by omega
      have hPo : P ∈ ords n := ((pfx_end hP hl).2 rfl).1
      have h1 : cntP (ords n) (fun Q => Pfx n P Q) = 1 := cntP_one (ext_nodup n n) hPo fun Q _ => pfx_end hP hl
      rw [h1] at ha ⊢
      have hLl := gath_len (L := []) hL hp0
      refine gChk (by omega) (gBindE (Rename_ok hB hPo) (gIte (fun q => absurd rfl q) fun _ => ?_))
      refine gJoin (R := fun v => ∃ L', v = L'.map cs ∧ Gath n B L L' (fun Q => Pfx n P Q)) ?_ fun j hj => ?_
      · rintro _ ⟨L', rfl, hL'⟩
        exact gSome ⟨L', by simp, hL'⟩
      · refine gBind (ContainsR L (by omega) _ (ren n P B) fun x => ?_) fun y hy => gIte (fun q => gChk ?_ (hj _ ⟨L ++ [ren n P B], by simp, ?_⟩)) fun q => hj _ ⟨L, rfl, ?_⟩
        · unfold rotakeep_SameOrbit_1_1
          rw [Same_spec]; rfl
        · simp; omega
        · have hn : ren n P B ∉ L := fun z => q (hy.2 z)
          refine ⟨?_, fun K => ?_⟩
          · rw [List.nodup_append]
            refine ⟨hL.1, List.pairwise_singleton _ _, fun x hx y hy e => ?_⟩
            rw [List.mem_singleton] at hy
            subst hy; subst e; exact hn hx
          · rw [List.mem_append, List.mem_singleton]
            refine or_congr Iff.rfl ⟨fun e => ⟨P, (pfx_end hP hl).2 rfl, e.symm⟩, fun ⟨Q, q1, q2⟩ => ?_⟩
            rw [(pfx_end hP hl).1 q1] at q2; exact q2.symm
        · have hy' : ren n P B ∈ L := hy.1 (by simpa using q)
          refine ⟨hL.1, fun K => ⟨.inl, fun z => z.elim id fun ⟨Q, q1, q2⟩ => ?_⟩⟩
          rw [(pfx_end hP hl).1 q1] at q2
          rw [← q2]; exact hy'
    have hl : P.length < n := by omega
    have hsp : ∀ k, cntP (ords n) (fun Q => Pfx n P Q ∧ pf Q P.length < k + 1) = cntP (ords n) (fun Q => Pfx n P Q ∧ pf Q P.length < k) + cntP (ords n) (fun Q => Pfx n P Q ∧ pf Q P.length = k) := fun k => cntP_split (fun Q _ => by
      constructor
      · rintro ⟨z1, z2⟩
        rcases Nat.lt_succ_iff_lt_or_eq.1 z2 with c | c
        · exact .inl ⟨z1, c⟩
        · exact .inr ⟨z1, c⟩
      · rintro (⟨z1, z2⟩ | ⟨z1, z2⟩) <;> exact ⟨z1, by omega⟩) fun Q _ z1 z2 => by have := z1.2; have := z2.2; omega
    have hall : cntP (ords n) (fun Q => Pfx n P Q ∧ pf Q P.length < n) = cntP (ords n) (fun Q => Pfx n P Q) := cntP_congr fun Q hQ => ⟨fun z => z.1, fun z => ⟨z, (ords_pla hQ).lt _ hl⟩⟩
    have hmono : ∀ k, cntP (ords n) (fun Q => Pfx n P Q ∧ pf Q P.length < k) ≤ cntP (ords n) (fun Q => Pfx n P Q) := fun k => cntP_inj (ext_nodup n n) id (fun a ha z => ⟨ha, z.1⟩) fun _ _ _ _ z => z
    have hpsp : ∀ k Q, (Pfx n P Q ∧ pf Q P.length < k + 1) ↔ (Pfx n P Q ∧ pf Q P.length < k) ∨ (Pfx n P Q ∧ pf Q P.length = k) := fun k Q => by
      constructor
      · rintro ⟨z1, z2⟩
        rcases Nat.lt_succ_iff_lt_or_eq.1 z2 with c | c
        · exact .inl ⟨z1, c⟩
        · exact .inr ⟨z1, c⟩
      · rintro (⟨z1, z2⟩ | ⟨z1, z2⟩) <;> exact ⟨z1, by omega⟩
    refine gBind (R := fun z => match z with | .inl c => ∃ L', c = (cs P, ((a + cntP (ords n) (fun Q => Pfx n P Q) : Nat) : Int), L'.map cs) ∧ Gath n B L L' (fun Q => Pfx n P Q) | .inr r => False)
      (gFor n (fun k (x : List Int × Int × List (List Int) × Int) => x.2.2.2 = (k : Int) ∧ x.1 = cs P ∧ x.2.1 = ((a + cntP (ords n) (fun Q => Pfx n P Q ∧ pf Q P.length < k) : Nat) : Int) ∧ ∃ L', x.2.2.1 = L'.map cs ∧ Gath n B L L' (fun Q => Pfx n P Q ∧ pf Q P.length < k)) (Nat.zero_le _) ⟨rfl, rfl, by rw [cntP_none fun Q _ z => absurd z.2 (by omega)]; simp, L, rfl, Gath.none hL.1 fun Q z => by have := z.2; omega⟩ ?_) ?_
    · rintro k ⟨_, _, _, _⟩ hk ⟨rfl, rfl, rfl, L', rfl, hI⟩
      dsimp only
      refine gIte (fun h1 => ?_) fun h1 => gSome ⟨L', ?_, hI.congr fun Q => ⟨fun z => z.1, fun z => ⟨z, ?_⟩⟩⟩
      rotate_left
      · obtain rfl : k = n := by omega
        rw [hall]
      · have := (ords_pla z.1).lt _ hl; omega
      have hk' : k < n := by omega
      refine gBind (Contains_spec (cs P) (k : Int) (by rw [cs_len]; omega)) fun y hy => ?_
      rw [cs_mem, ← hP.ub] at hy
      have hz : ¬ used.testBit k = false → ∀ Q, ¬ (Pfx n P Q ∧ pf Q P.length = k) := fun hno Q z => hno ((pfx_step hP hl hk').1 z).1
      refine gIte (fun h2 => gSome ⟨hk', by simp, rfl, ?_, L', rfl, ?_⟩) fun h2 => ?_
      · have hu : ¬ used.testBit k = false := by rw [hy.1 h2]; simp
        dsimp only
        rw [hsp k, cntP_none fun Q _ => hz hu Q]; rfl
      · have hu : ¬ used.testBit k = false := by rw [hy.1 h2]; simp
        exact hI.congr fun Q => by rw [hpsp]; exact ⟨.inl, fun z => z.elim id fun z => absurd z (hz hu Q)⟩
      have hb : used.testBit k = false := bool_ne fun z => h2 (hy.2 z)
      have hP2 := hP.more hk' hb hl
      have elen := app_lenS P k
      have e1 : cntP (ords n) (fun Q => Pfx n P Q ∧ pf Q P.length = k) = cntP (ords n) (fun Q => Pfx n (P ++ [k]) Q) := cntP_congr fun Q _ => ⟨fun z => ((pfx_step hP hl hk').1 z).2, fun z => (pfx_step hP hl hk').2 ⟨hb, z⟩⟩
      have e3 := hmono (k + 1)
      rw [hsp k, e1] at e3
      rw [cs_app]
      refine gChk (by rw [cs_len, elen]; omega) ?_
      refine gBind (orbit1 hB fuel (P ++ [k]) (used ||| 2 ^ k) _ L' (fun Q => p0 Q ∨ (Pfx n P Q ∧ pf Q P.length < k)) hP2 (by rw [elen]; omega) (by omega) ?_ ?_) ?_
      · exact hL.trans hI fun Q => Iff.rfl
      · rintro Q (z | z)
        · exact hp0 Q z
        · exact z.1.1
      rintro _ ⟨L'', rfl, hL''⟩
      dsimp only
      simp only [cs_len, elen]
      have e4 : ((((P.length + 1 : Nat) : Int) - 1)).toNat = P.length := by omega
      rw [e4, take_app]
      refine gChk (by omega) (gIte (fun z => absurd trivial z) fun _ => gSome ⟨hk', by simp, rfl, ?_, L'', rfl, ?_⟩)
      · dsimp only
        rw [hsp k, e1]; omega
      · exact hI.trans hL'' fun Q => by rw [hpsp]; exact or_congr Iff.rfl ⟨fun z => ((pfx_step hP hl hk').1 z).2, fun z => (pfx_step hP hl hk').2 ⟨hb, z⟩⟩
    · rintro (⟨c0, c1, c2⟩ | r) hz
      · obtain ⟨L', e, h⟩ := hz
        cases e
        exact gSome ⟨L', rfl, h⟩
      · exact absurd hz id
end
theorem aut_one : aut 2 [1] = 1 := by
  have hf : Fam 2 [1] := ⟨by omega, fun s hs => by simp at hs; omega, fun i j h1 h2 => by simp at h2; omega⟩
  refine cntP_one (ext_nodup 2 2) (a := [0, 1]) (by decide) fun Q hQ => ?_
  have hq : Q = [0, 1] ∨ Q = [1, 0] := by
    have : ∀ Q, Q ∈ ords 2 → Q = [0, 1] ∨ Q = [1, 0] := by decide
    exact this Q hQ
  have hr : ∀ s, s ∈ ren 2 Q [1] ↔ s = im 2 2 (pf Q) 1 := fun s => by rw [mem_ren]; simp
  rcases hq with rfl | rfl
  · refine ⟨fun _ => rfl, fun _ => ?_⟩
    refine (ren_fam (by omega) _).ext hf fun s => ?_
    rw [hr, show im 2 2 (pf [0, 1]) 1 = 1 from by decide]; simp
  · refine ⟨fun h => ?_, fun h => by simp at h⟩
    have := (hr 1).1 (by rw [h]; simp)
    exact absurd this (by decide)
/-- SameOrbit. -/
theorem rotakeep_SameOrbit_law (n : Int) (l : List Int) (hl : l.length ≤ 9223372036854775807) : rotakeep_SameOrbit n l = some true := by
  refine Gets.eq ?_
  have hM : Mat 2 [1] := {
    toFam := ⟨by omega, fun s hs => by simp at hs; omega, fun i j h1 h2 => by simp at h2; omega⟩
    ne := by simp
    eqc := fun a ha b hb => by simp at ha hb; rw [ha, hb]
    ex := fun a ha b hb x h1 h2 => by simp at ha hb; subst ha hb; rw [h1] at h2; cases h2 }
  have hG := Group_spec hM
  rw [aut_one] at hG
  unfold rotakeep_SameOrbit
  refine gBindE (a := (1, 0)) hG (gIte (fun q => absurd q (by decide)) fun _ => ?_)
  obtain ⟨c1, e1, g1⟩ := axioms_Check_spec n l hl
  rcases g1 with ⟨rfl, m, B, rfl, rfl, hB⟩ | ⟨z1, _⟩
  rotate_left
  · have hb : same_Group n l = some (0, c1) := by
      unfold same_Group
      rw [e1, Option.bind_some, if_pos z1]
    exact gBindE hb (gIte (fun _ => gSome (by simp)) fun q => absurd (.inl z1) q)
  refine gBindE (Group_spec hB) (gIte (fun _ => gSome (by simp)) fun q => ?_)
  have h8 := hB.m8
  have hle : cntP (ords m) (fun Q => Pfx m [] Q) ≤ 40320 := Nat.le_trans cntP_le (by rw [ext_all]; exact fact8 m h8)
  have hle2 : aut m B ≤ 40320 := Nat.le_trans cntP_le (by rw [ext_all]; exact fact8 m h8)
  refine gBind (orbit1 hB 12 [] 0 0 [] (fun _ => False) pre0 (by simp only [List.length_nil]; omega) (by omega) (Gath.none List.nodup_nil fun _ h => h) (fun _ h => absurd h id)) ?_
  rintro _ ⟨L', rfl, hL'⟩
  have hpx : ∀ Q, Pfx m [] Q ↔ Q ∈ ords m := fun Q => ⟨fun z => z.1, fun z => ⟨z, fun i hi => absurd hi (by simp)⟩⟩
  have hlg := lagrange hB.toFam hL'.1 fun K => by
    rw [hL'.2]
    constructor
    · rintro (z | ⟨Q, q1, q2⟩)
      · simp at z
      · exact ⟨Q, (hpx Q).1 q1, q2⟩
    · rintro ⟨Q, q1, q2⟩
      exact .inr ⟨Q, (hpx Q).2 q1, q2⟩
  have hca : cntP (ords m) (fun Q => Pfx m [] Q) = fact m := by
    rw [cntP_all fun Q hQ => (hpx Q).2 hQ, ext_all]
  have hf8 := fact8 m h8
  have hmul : ((L'.length : Nat) : Int) * ((aut m B : Nat) : Int) = ((fact m : Nat) : Int) := by rw [hlg]; simp
  dsimp only
  rw [hca, List.length_map, hmul, Nat.zero_add]
  refine gChk (fun _ => by omega) (gSome ?_)
  simp
end Go.SH
