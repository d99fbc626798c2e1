/- The plain law of FnRounds, part 7: pairs on circles, polygons. -/
import Derived.Test.YtilfdpllleninaaCirc
namespace Go.Proofs.Ytilfdpllleninaa
open Ieee
set_option linter.unusedVariables false
set_option linter.unusedSimpArgs false

/-! ## Pairs -/

def pairM (m o : Nat) : Nat → Nat
  | 0 => m
  | _ => o
def pairX (M O : Rat) : Nat → Rat
  | 0 => p0 M O
  | _ => p1 M O

theorem two_cases {j : Nat} (h : j < 2) : j = 0 ∨ j = 1 := by omega

theorem pair_ring {m o : Nat} (hm : I .f32 m (some (1 / 4, 2))) (ho : I .f32 o (some (1 / 4, 2))) : Ring 2 (pairM m o) (pairX (R .f32 m) (R .f32 o)) (fun _ => 0) (fun _ _ => 1) (R .f32 m + R .f32 o) 2 2 := by
  have m2 := hm.2
  have o2 := ho.2
  generalize hM : R .f32 m = M at *
  generalize hO : R .f32 o = O at *
  have hT : M + O ≠ 0 := by grind
  have e1 : p1 M O - p0 M O = 1 := by
    unfold p0 p1
    have := Rat.div_mul_cancel (a := M) hT
    have := Rat.div_mul_cancel (a := O) hT
    generalize M / (M + O) = u at *
    generalize O / (M + O) = v at *
    have h : (u + v) * (M + O) = 1 * (M + O) := by grind
    have : u + v = 1 := by
      have h2 := congrArg (fun t => t / (M + O)) h
      simp only [Rat.mul_div_cancel hT] at h2
      exact h2
    grind
  have e0 : (M + O) * p0 M O = -O := by
    unfold p0
    have := Rat.div_mul_cancel (a := O) hT
    grind
  have e2 : (M + O) * p1 M O = M := by
    unfold p1
    have := Rat.div_mul_cancel (a := M) hT
    grind
  have pb : ∀ j, Bd (pairX M O j) 1 := by
    have hT0 : 0 < M + O := by grind
    have b0 : Bd (p0 M O) 1 := by
      constructor
      · refine Rat.le_of_mul_le_mul_left (c := M + O) ?_ hT0
        rw [e0]
        grind
      · refine Rat.le_of_mul_le_mul_left (c := M + O) ?_ hT0
        rw [e0]
        grind
    have b1 : Bd (p1 M O) 1 := by
      constructor
      · refine Rat.le_of_mul_le_mul_left (c := M + O) ?_ hT0
        rw [e2]
        grind
      · refine Rat.le_of_mul_le_mul_left (c := M + O) ?_ hT0
        rw [e2]
        grind
    intro j
    cases j
    · exact b0
    · exact b1
  have sq : ∀ i j, i < 2 → j < 2 → j ≠ i → (pairX M O j - pairX M O i) * (pairX M O j - pairX M O i) + (0 - 0) * (0 - 0) = 1 := fun i j hi hj hij => by
    rcases two_cases hi with rfl | rfl <;> rcases two_cases hj with rfl | rfl
    · exact absurd rfl hij
    · show (p1 M O - p0 M O) * (p1 M O - p0 M O) + _ = _
      rw [e1]; decide +kernel
    · show (p0 M O - p1 M O) * (p0 M O - p1 M O) + _ = _
      have : p0 M O - p1 M O = -1 := by grind
      rw [this]; decide +kernel
    · exact absurd rfl hij
  refine ⟨by decide, fun j hj => ?_, fun j _ => ⟨(pb j).mono (by decide +kernel), by unfold Bd; constructor <;> decide +kernel⟩, fun _ _ _ _ _ => by decide +kernel, fun i j hi hj hij => ?_, fun i j hi hj hij => ?_, fun i j hi hj hij => ?_, fun i hi => ?_, fun i hi => ?_, fun i hi => ?_, fun i hi => ?_⟩
  · rcases two_cases hj with rfl | rfl
    · show isNum .f32 m = true ∧ _ ≤ R .f32 m ∧ R .f32 m ≤ _
      rw [hM]; exact ⟨hm.1, by grind, by grind⟩
    · show isNum .f32 o = true ∧ _ ≤ R .f32 o ∧ R .f32 o ≤ _
      rw [hO]; exact ⟨ho.1, by grind, by grind⟩
  · rw [sq i j hi hj hij]; decide +kernel
  · rw [sq i j hi hj hij]; decide +kernel
  · rw [sq i j hi hj hij]; unfold Nr; constructor <;> decide +kernel
  · rcases two_cases hi with rfl | rfl
    · show Nr (0 + 0 + R .f32 o * 1 * (p1 M O - p0 M O)) (-((M + O) * p0 M O)) _
      rw [e1, e0, hO]
      unfold Nr; constructor <;> grind
    · show Nr (0 + R .f32 m * 1 * (p0 M O - p1 M O) + 0) (-((M + O) * p1 M O)) _
      have : p0 M O - p1 M O = -1 := by grind
      rw [this, e2, hM]
      unfold Nr; constructor <;> grind
  · rcases two_cases hi with rfl | rfl
    · show Nr (0 + 0 + R .f32 o * 1 * (0 - 0)) (-((M + O) * 0)) _
      unfold Nr; constructor <;> grind
    · show Nr (0 + R .f32 m * 1 * (0 - 0) + 0) (-((M + O) * 0)) _
      unfold Nr; constructor <;> grind
  · rcases two_cases hi with rfl | rfl
    · show 0 + 0 + R .f32 o * 1 ≤ _
      rw [hO]; grind
    · show 0 + R .f32 m * 1 + 0 ≤ _
      rw [hM]; grind
  · rcases two_cases hi with rfl | rfl
    · show 0 + 0 + R .f32 o * (1 * (1 * (((p1 M O - p0 M O) * (p1 M O - p0 M O) + (0 - 0) * (0 - 0)) * ((p1 M O - p0 M O) * (p1 M O - p0 M O) + (0 - 0) * (0 - 0))))) ≤ _
      rw [hO, e1]; grind
    · show 0 + R .f32 m * (1 * (1 * (((p0 M O - p1 M O) * (p0 M O - p1 M O) + (0 - 0) * (0 - 0)) * ((p0 M O - p1 M O) * (p0 M O - p1 M O) + (0 - 0) * (0 - 0))))) + 0 ≤ _
      have : p0 M O - p1 M O = -1 := by grind
      rw [hM, this]; grind

/-- What is known of a pair. -/
structure PairK (m o A : Nat) : Prop where
  hm : I .f32 m (some (1 / 4, 2))
  ho : I .f32 o (some (1 / 4, 2))
  hA : I .f32 A (some (1, 11 / 4))
  circ : circB m o A = true
  rest : restB m o A = true

theorem Circ_eq {m o A : Nat} (h : PairK m o A) : impl_CircleBodies_need m o A = true ∧ impl_CircleBodies m o A = .inr (pairL m o A) ∧ okL (pairL m o A) = true := by
  have hc := h.circ
  unfold circB at hc
  simp only [Bool.and_eq_true] at hc
  obtain ⟨⟨t, x0, x1, v0, v1, w⟩, -⟩ := hc
  have hT := I.at t
  obtain ⟨a1, a2⟩ := aLength_I h.hA (by decide +kernel)
  obtain ⟨t1, t2⟩ := aLength_I hT (by decide +kernel)
  have bm := aMass_eq m
  have bo := aMass_eq o
  rw [leastB_I h.hm (by decide +kernel)] at bm
  rw [leastB_I h.ho (by decide +kernel)] at bo
  have z := zero32.1
  have hok : okL (pairL m o A) = true := by
    refine okL_of (by show 2 ≤ 16; decide) fun j hj => ?_
    rcases two_cases hj with rfl | rfl
    · show okB ⟨⟨x0W m o A, 0, 0⟩, ⟨0, fmul .f32 (wW m o A) (x0W m o A), 0⟩, m⟩ = true
      unfold okB finV
      simp only [x0, v0, z, h.hm.1, I.ge h.hm k_zero32 (by decide +kernel), Bool.and_self]
    · show okB ⟨⟨x1W m o A, 0, 0⟩, ⟨0, fmul .f32 (wW m o A) (x1W m o A), 0⟩, o⟩ = true
      unfold okB finV
      simp only [x1, v1, z, h.ho.1, I.ge h.ho k_zero32 (by decide +kernel), Bool.and_self]
  obtain ⟨b1, b2⟩ := asBodies_any (pairL m o A) (by show 2 ≤ 2 ^ 62; decide)
  rw [hok] at b2
  have key : (impl_CircleBodies_tree m o A).get = some (.inr (pairL m o A)) := by
    unfold impl_CircleBodies_tree
    have e : ∀ y : Nat, impl_RootNumber y = rootN y := fun _ => Root_val
    unfold pairL x0W x1W wW at b1 b2 ⊢
    simp only [DT.get, bm.1, bm.2, bo.1, bo.2, a1, a2, t1, t2, Root_need, e, b1, b2, isL, Bool.not_true]
  obtain ⟨k1, k2⟩ := DT.of_get key
  exact ⟨k1, k2, hok⟩

theorem one_ne {A : Rat} (h : 1 ≤ A) : 1 / (A * A * A) * (A * A * A) = 1 ∧ 0 ≤ 1 / (A * A * A) := by
  have a1 : 1 ≤ A * A := by have := sq_le (a := 1) (b := A) (by decide +kernel) h; grind
  have a2 : 1 ≤ A * A * A := by have := Rat.mul_le_mul_of_nonneg_right a1 (show 0 ≤ A by grind); grind
  have h1 : 1 / (A * A * A) * (A * A * A) = 1 := Rat.div_mul_cancel (by grind)
  refine ⟨h1, ?_⟩
  refine Rat.le_of_mul_le_mul_right (c := A * A * A) ?_ (by grind)
  rw [h1]
  grind

/-- The number of a ring's push. -/
theorem kappa {σ A w : Rat} (hw : 1 / 100 ≤ w) : σ / (A * A * A) / (64 * w) * w * 64 = 1 / (A * A * A) * σ := by
  have h := Rat.div_mul_cancel (a := σ / (A * A * A)) (b := 64 * w) (by grind)
  have e : 1 / (A * A * A) * σ = σ / (A * A * A) := by
    rw [Rat.div_def, Rat.div_def, Rat.one_mul, Rat.mul_comm]
  rw [e]
  grind

theorem z_small {E : Rat} (hE : 0 ≤ E) : Nr (R .f32 0) 0 E ∧ Bd (R .f32 0) E := by
  rw [zero32.2]
  unfold Nr Bd
  exact ⟨by constructor <;> grind, by constructor <;> grind⟩

theorem pair_run {m o A : Nat} (h : PairK m o A) : ∃ r, stateP (pairL m o A) 0 1023410176 8 = .inr r ∧ r.length = 2 ∧ isNum .f32 (sizeP r 1 0) = true ∧ Nr (R .f32 (sizeP r 1 0)) (R .f32 A) (R .f32 A * (1 / 100)) := by
  have hc := h.circ
  unfold circB at hc
  simp only [Bool.and_eq_true, decide_eq_true_eq] at hc
  obtain ⟨⟨t, x0, x1, v0, v1, w⟩, ⟨n1, n2, n3, n4⟩, w1, w2, w3, n5⟩ := hc
  have n1 := nearB_of n1
  have n2 := nearB_of n2
  have n3 := nearB_of n3
  have n4 := nearB_of n4
  have n5 := nearB_of n5
  have hA := h.hA.2
  obtain ⟨B1, B0⟩ := one_ne hA.1
  have G := pair_ring h.hm h.ho
  have hs : RingAt 2 (pairM m o) (pairX (R .f32 m) (R .f32 o)) (fun _ => 0) (R .f32 A) (R .f32 (wW m o A)) (pairL m o A) bnd0 := by
    refine ⟨1, 0, 0, 1, ⟨rfl, fun j hj => ?_, fun j hj => ?_, fun j hj => ?_⟩, ⟨by unfold Nr bnd0; constructor <;> decide +kernel, by unfold Bd bnd0; constructor <;> decide +kernel, by unfold Nr bnd0; constructor <;> decide +kernel, by decide +kernel, by decide +kernel, by decide +kernel⟩⟩
    · rcases two_cases hj with rfl | rfl <;> rfl
    · have zE := z_small (E := bnd0.E) (by decide +kernel)
      rcases two_cases hj with rfl | rfl
      · refine ⟨of3 x0 zero32.1 zero32.1, ?_, ?_, zE.2⟩
        · show Nr (R .f32 (x0W m o A)) (R .f32 A * (1 * p0 (R .f32 m) (R .f32 o) - 0 * 0)) (2 / 1000000)
          have e : R .f32 A * (1 * p0 (R .f32 m) (R .f32 o) - 0 * 0) = R .f32 A * p0 (R .f32 m) (R .f32 o) := by grind
          rw [e]; exact n1
        · show Nr (R .f32 0) (R .f32 A * (1 * 0 + 0 * p0 (R .f32 m) (R .f32 o))) bnd0.E
          have e : R .f32 A * (1 * 0 + 0 * p0 (R .f32 m) (R .f32 o)) = 0 := by grind
          rw [e]; exact zE.1
      · refine ⟨of3 x1 zero32.1 zero32.1, ?_, ?_, zE.2⟩
        · show Nr (R .f32 (x1W m o A)) (R .f32 A * (1 * p1 (R .f32 m) (R .f32 o) - 0 * 0)) (2 / 1000000)
          have e : R .f32 A * (1 * p1 (R .f32 m) (R .f32 o) - 0 * 0) = R .f32 A * p1 (R .f32 m) (R .f32 o) := by grind
          rw [e]; exact n2
        · show Nr (R .f32 0) (R .f32 A * (1 * 0 + 0 * p1 (R .f32 m) (R .f32 o))) bnd0.E
          have e : R .f32 A * (1 * 0 + 0 * p1 (R .f32 m) (R .f32 o)) = 0 := by grind
          rw [e]; exact zE.1
    · have zF := z_small (E := bnd0.F) (by decide +kernel)
      rcases two_cases hj with rfl | rfl
      · refine ⟨of3 zero32.1 v0 zero32.1, ?_, ?_, zF.2⟩
        · show Nr (R .f32 0) (R .f32 A * R .f32 (wW m o A) * (0 * p0 (R .f32 m) (R .f32 o) - 1 * 0)) bnd0.F
          have e : R .f32 A * R .f32 (wW m o A) * (0 * p0 (R .f32 m) (R .f32 o) - 1 * 0) = 0 := by grind
          rw [e]; exact zF.1
        · show Nr (R .f32 (fmul .f32 (wW m o A) (x0W m o A))) (R .f32 A * R .f32 (wW m o A) * (0 * 0 + 1 * p0 (R .f32 m) (R .f32 o))) (4 / 1000000)
          have e : R .f32 A * R .f32 (wW m o A) * (0 * 0 + 1 * p0 (R .f32 m) (R .f32 o)) = R .f32 A * R .f32 (wW m o A) * p0 (R .f32 m) (R .f32 o) := by grind
          rw [e]; exact n3
      · refine ⟨of3 zero32.1 v1 zero32.1, ?_, ?_, zF.2⟩
        · show Nr (R .f32 0) (R .f32 A * R .f32 (wW m o A) * (0 * p1 (R .f32 m) (R .f32 o) - 1 * 0)) bnd0.F
          have e : R .f32 A * R .f32 (wW m o A) * (0 * p1 (R .f32 m) (R .f32 o) - 1 * 0) = 0 := by grind
          rw [e]; exact zF.1
        · show Nr (R .f32 (fmul .f32 (wW m o A) (x1W m o A))) (R .f32 A * R .f32 (wW m o A) * (0 * 0 + 1 * p1 (R .f32 m) (R .f32 o))) (4 / 1000000)
          have e : R .f32 A * R .f32 (wW m o A) * (0 * 0 + 1 * p1 (R .f32 m) (R .f32 o)) = R .f32 A * R .f32 (wW m o A) * p1 (R .f32 m) (R .f32 o) := by grind
          rw [e]; exact n4
  obtain ⟨r, hr, x, y, p, q, hR, hC⟩ := ring_run G hs hA.1 (by grind) B0 B1 (by grind) w2 w3 (kappa w1) n5 8 (fun k hk => pair_bnds ⟨k, hk⟩)
  refine ⟨r, hr, hR.len, ?_⟩
  have hend := pair_end
  have hE0 : 0 ≤ (bnd0.after 2 2 8).E := (hR.at' 0 (by decide)).2.2.2.nonneg
  obtain ⟨a1, a2, a3, a4⟩ := hR.at' 0 (by decide)
  obtain ⟨b1, b2, b3, b4⟩ := hR.at' 1 (by decide)
  obtain ⟨c1, c2, c3⟩ := fin3 a1
  obtain ⟨d1, d2, d3⟩ := fin3 b1
  have hp : pairX (R .f32 m) (R .f32 o) 1 - pairX (R .f32 m) (R .f32 o) 0 = 1 := by
    have q1 := G.p1 0 1 (by decide) (by decide) (by decide)
    have m2 := h.hm.2
    have o2 := h.ho.2
    have hT : R .f32 m + R .f32 o ≠ 0 := by grind
    show p1 _ _ - p0 _ _ = 1
    unfold p0 p1
    have := Rat.div_mul_cancel (a := R .f32 m) hT
    have := Rat.div_mul_cancel (a := R .f32 o) hT
    generalize R .f32 m / (R .f32 m + R .f32 o) = u at *
    generalize R .f32 o / (R .f32 m + R .f32 o) = v at *
    have h : (u + v) * (R .f32 m + R .f32 o) = 1 * (R .f32 m + R .f32 o) := by grind
    have : u + v = 1 := by
      have h2 := congrArg (fun t => t / (R .f32 m + R .f32 o)) h
      simp only [Rat.mul_div_cancel hT] at h2
      exact h2
    grind
  generalize hX1 : pairX (R .f32 m) (R .f32 o) 1 = X1 at *
  generalize hX0 : pairX (R .f32 m) (R .f32 o) 0 = X0 at *
  have hu := hC.u
  have sx := sq_nonneg x
  have sy := sq_nonneg y
  have hu' : x * x + y * y ≤ 101 / 100 := by have := hC.a1; unfold Nr at hu; grind
  have bx : Bd x (101 / 100) := bd_sq (u := 101 / 100) (by grind) (by decide +kernel)
  have by' : Bd y (101 / 100) := bd_sq (u := 101 / 100) (by grind) (by decide +kernel)
  have bA : Bd (R .f32 A) 3 := by unfold Bd; constructor <;> grind
  have eX : R .f32 A * (x * X1 - y * 0) - R .f32 A * (x * X0 - y * 0) = R .f32 A * x := by
    have : X1 = X0 + 1 := by grind
    rw [this]; grind
  have eY : R .f32 A * (x * 0 + y * X1) - R .f32 A * (x * 0 + y * X0) = R .f32 A * y := by
    have : X1 = X0 + 1 := by grind
    rw [this]; grind
  have bX := (Bd.mul bA bx).mono (N := 14) (by decide +kernel)
  have bY := (Bd.mul bA by').mono (N := 14) (by decide +kernel)
  obtain ⟨y1, y2⟩ := sub_near d1 c1 b2 a2 (by rw [eX]; exact bX) (by grind)
  obtain ⟨y3, y4⟩ := sub_near d2 c2 b3 a3 (by rw [eY]; exact bY) (by grind)
  have z0 : ∀ {t e : Rat}, Bd t e → Nr t 0 e := fun {t e} ht => by unfold Nr Bd at *; constructor <;> grind
  obtain ⟨y5, y6⟩ := sub_near d3 c3 (z0 b4) (z0 a4) (by unfold Bd; constructor <;> decide +kernel) (by grind)
  rw [eX] at y2
  rw [eY] at y4
  have y6' : Bd (R .f32 (fsub .f32 (r.getD 1 default).At.Z (r.getD 0 default).At.Z)) (2 * (bnd0.after 2 2 8).E + 1 / 1000000) := by unfold Nr at y6; unfold Bd; constructor <;> grind
  have ed : impl_LessVectors (r.getD 1 default).At (r.getD 0 default).At = ⟨fsub .f32 (r.getD 1 default).At.X (r.getD 0 default).At.X, fsub .f32 (r.getD 1 default).At.Y (r.getD 0 default).At.Y, fsub .f32 (r.getD 1 default).At.Z (r.getD 0 default).At.Z⟩ := rfl
  unfold sizeP
  rw [ed]
  refine long_near (E := 2 * (bnd0.after 2 2 8).E + 1 / 1000000) (of3 y1 y3 y5) y2 y4 y6' (by grind) hA.1 (by grind) ?_
  have e : R .f32 A * x * (R .f32 A * x) + R .f32 A * y * (R .f32 A * y) - R .f32 A * R .f32 A = R .f32 A * R .f32 A * (x * x + y * y - 1) := by grind
  unfold Nr
  rw [e]
  have AA := sq_nonneg (R .f32 A)
  have bAA : Bd (R .f32 A * R .f32 A) (R .f32 A * R .f32 A) := by unfold Bd; constructor <;> grind
  have := Bd.mul bAA (Nr.bd.1 (hu.mono (F := 3 / 1000) hend.1))
  unfold Bd at this
  constructor <;> grind

end Go.Proofs.Ytilfdpllleninaa
