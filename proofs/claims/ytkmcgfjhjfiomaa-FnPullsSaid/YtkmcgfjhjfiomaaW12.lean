/- The plain law of FnPulls, part 12: the whole. -/
import Derived.Test.YtkmcgfjhjfiomaaW11
namespace Go.Proofs.Ytkmcgfjhjfiomaa
set_option linter.unusedVariables false
set_option linter.unusedSimpArgs false

theorem SmallI_of {P : Vec} (h : SmallI P.X ∧ SmallI P.Y ∧ SmallI P.Z) : SmallI P.X ∧ SmallI P.Y ∧ SmallI P.Z := h

theorem drop_ok {l : List Body} (h : ∀ j, j < l.length → okB (l.getD j default) = true) : ∀ j, j < (l.drop 1).length → okB ((l.drop 1).getD j default) = true := by
  intro j hj
  rw [List.length_drop] at hj
  have := h (1 + j) (by omega)
  rw [List.getD_eq_getElem?_getD] at this ⊢
  rw [List.getElem?_drop]
  exact this

theorem pulls_true (a0 a1 : List Int) (h0 : ∀ x ∈ a0, 0 ≤ x ∧ x ≤ 255) (h1 : ∀ x ∈ a1, 0 ≤ x ∧ x ≤ 255) : laws_FnPulls_need a0 a1 = true ∧ laws_FnPulls a0 a1 = true := by
  suffices hg : (laws_FnPulls_tree a0 a1).get = some true from DT.of_get hg
  cases hlong : laws_r8Long a0 a1 with
  | true =>
    unfold laws_FnPulls_tree
    simp only [hlong]
    rfl
  | false =>
    have hlen : a0.length ≤ 48 ∧ a1.length ≤ 48 := by
      unfold laws_r8Long laws_r8Long_tree at hlong
      simp only [DT.val] at hlong
      by_cases g : ((a0.length : Nat) : Int) > 48
      · rw [decide_eq_true g] at hlong
        cases hlong
      · rw [decide_eq_false g] at hlong
        by_cases g2 : ((a1.length : Nat) : Int) > 48
        · rw [decide_eq_true g2] at hlong
          cases hlong
        · omega
    have hb0 : Bytes a0 := ⟨by omega, h0⟩
    have hb1 : Bytes a1 := ⟨by omega, h1⟩
    obtain ⟨n1, n2, n3⟩ := at_eq hb1 0 3 (by decide) (by decide) (by decide)
    obtain ⟨n4, n5, n6⟩ := at_eq hb1 7 16 (by decide) (by decide) (by decide)
    obtain ⟨k, hk⟩ := fin_of (n := 16) n5 n6
    obtain ⟨n, hn⟩ : ∃ n : Nat, 2 + laws_r8At a1 0 3 = (n : Int) ∧ 2 ≤ n ∧ n ≤ 4 := ⟨(2 + laws_r8At a1 0 3).toNat, by omega, by omega, by omega⟩
    obtain ⟨b1, b2, nx, b3⟩ := bodies_eq hb0 n hn.2.2
    have hw : IntKind.wrap .i64 (2 + laws_r8At a1 0 3) = ((n : Nat) : Int) := by rw [hn.1]; exact wrap_small (by omega) (by omega)
    obtain ⟨f, hB⟩ := base_of b2 hn.2.1 hn.2.2 b3
    obtain ⟨v1, v1'⟩ := vector_eq hb1 1 (by decide) (by decide)
    obtain ⟨v2, v2'⟩ := vector_eq hb1 4 (by decide) (by decide)
    obtain ⟨v3, v3'⟩ := vector_eq hb1 8 (by decide) (by decide)
    obtain ⟨ms, ts, P1, P2, a, b, c, a', b', c', ⟨p1, p2⟩, ⟨p3, p4⟩, ⟨p5, p6⟩, ⟨p7, p8⟩, ⟨p9, p10⟩, ⟨q1, q2⟩, ⟨q3, q4⟩, ⟨q5, q6⟩, ⟨q7, q8⟩, q9, q10, q11⟩ :=
      pulls_law a1 (spec_R8Bodies a0 ((n : Nat) : Int)) hB _ _ _ v1' v2' v3' (turnN k.val) (turns_ok k)
    generalize hl : spec_R8Bodies a0 ((n : Nat) : Int) = l at *
    generalize hV1 : spec_R8Vector a1 1 = V1 at *
    generalize hV2 : spec_R8Vector a1 4 = V2 at *
    generalize hV3 : spec_R8Vector a1 8 = V3 at *
    have ht : fdiv .f32 (fofInt .f32 (laws_r8At a1 7 16)) 1098907648 = turnN k.val := by rw [hk]; rfl
    have hf3 : finV V3 = true := by unfold finV; rw [v3'.1.bd.1, v3'.2.1.bd.1, v3'.2.2.bd.1]; rfl
    obtain ⟨r1, r2⟩ := none_at V3 hf3
    have hok : ∀ j, j < l.length → okB (l.getD j default) = true := fun j hj => (hB.each j hj).ok
    have n16 : l.length ≤ 16 := by have := hB.n4; omega
    obtain ⟨m1, m2, m3⟩ := mirror_twice l n16 hok
    obtain ⟨m4, m5⟩ := mirror_all l n16 hB.okL m1
    obtain ⟨m6, m7⟩ := mirror_all (mapB impl_MirrorBodies_1 l) (by rw [mapB_len]; exact n16) m1 m2
    rw [m3] at m7
    obtain ⟨d1, d2⟩ := drop_first l n16 hB.n2 hB.okL
    obtain ⟨s1, s2⟩ := SameBodies_self l n16 hok
    obtain ⟨s3, s4⟩ := SameBodies_self (l.drop 1) (by rw [List.length_drop]; omega) (drop_ok hok)
    have htake : List.take (l.length - 1) (List.drop 1 l) = l.drop 1 := by
      have : l.length - 1 = (l.drop 1).length := by rw [List.length_drop]
      rw [this, List.take_length]
    have w1 : IntKind.wrap .i64 (((l.length : Nat) : Int) - 1) = ((l.length - 1 : Nat) : Int) := by
      have := hB.n2
      rw [wrap_small (by omega) (by omega)]; omega
    have g1 : (decide ((0 : Nat) ≤ 1) && decide ((1 : Int) ≤ (((List.length l) : Nat) : Int))) = true := by
      have := hB.n2
      rw [Bool.and_eq_true]; exact ⟨rfl, decide_eq_true (by omega)⟩
    have g2 : decide (1 + (l.length - 1) ≤ l.length) = true := by
      have := hB.n2
      exact decide_eq_true (by omega)
    obtain ⟨z1, z2⟩ := zero_size
    unfold limN at q11
    have e1 : (⟨V1.X, V1.Y, V1.Z⟩ : Vec) = V1 := rfl
    have e2 : (⟨V2.X, V2.Y, V2.Z⟩ : Vec) = V2 := rfl
    have e3 : (⟨V3.X, V3.Y, V3.Z⟩ : Vec) = V3 := rfl
    have e4 : (⟨(pullA l V3).X, (pullA l V3).Y, (pullA l V3).Z⟩ : Vec) = pullA l V3 := rfl
    unfold laws_FnPulls_tree
    simp only [hlong, n1, n4, hw, b1, hl, p1, p2, v1, v2, v3, hV1, hV2, hV3, e1, e2, e3, e4, p3, p4, p5, p6, ht, p7, p8, p9, p10, isL, leftD, rightD, List.length_map, List.length_range, bne_self_eq_false, q1, q2, q3, q4, q5, q6, r1, r2, m4, m5, m6, m7, d1, d2, s1, s2, s3, s4, htake, w1, g1, g2, List.length_drop, q7, q8, q9, q10, q11, fconvOk_up, z1, z2, Bool.not_true]
    simp only [DT.get]

theorem u8_fit {x : Int} (h : (UC.int .u8).fit x) : 0 ≤ x ∧ x ≤ 255 := by
  have h : (decide (IntKind.min .u8 ≤ x) && decide (x ≤ IntKind.max .u8)) = true := h
  rw [show IntKind.min .u8 = 0 from rfl, show IntKind.max .u8 = 255 from rfl, Bool.and_eq_true, decide_eq_true_eq, decide_eq_true_eq] at h
  exact h

theorem plain4 (c : List Int) (_ : c.length ≤ maxLen) (hc : ∀ x ∈ c, (UC.int .u8).fit x) (d : List Int) (_ : d.length ≤ maxLen) (hd : ∀ x ∈ d, (UC.int .u8).fit x) : laws_FnPulls_need c d = true ∧ laws_FnPulls c d = true :=
  pulls_true c d (fun x h => u8_fit (hc x h)) (fun x h => u8_fit (hd x h))

end Go.Proofs.Ytkmcgfjhjfiomaa
