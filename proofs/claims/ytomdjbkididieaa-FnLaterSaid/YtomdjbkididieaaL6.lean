/- The plain law of FnLater, part 6: draws, and what is computed. -/
import Derived.Test.YtomdjbkididieaaL5
namespace Go.Proofs.Ytomdjbkididieaa
set_option linter.unusedVariables false
set_option linter.unusedSimpArgs false

/-! ## Draws -/

def loN (k : Nat) : Nat := fdiv .f32 (fofInt .f32 (IntKind.wrap .i64 (2 + (k : Int)))) 1082130432
def roN (j : Nat) : Nat := fdiv .f32 (fofInt .f32 (j : Int)) 1090519040
def msN (m : Nat) : Nat := fdiv .f32 (fofInt .f32 (IntKind.wrap .i64 (1 + (m : Int)))) 1073741824
theorem e_long : ∀ k : Fin 15, atI .f32 (loN k.val) (1 / 2) 4 = true := by decide +kernel
theorem e_round : ∀ k : Fin 7, atI .f32 (roN k.val) 0 (3 / 4) = true := by decide +kernel
theorem e_tilt : ∀ k : Fin 17, atI .f32 (fdiv .f32 (fofInt .f32 (k.val : Int)) 1107296256) 0 (1 / 2) = true := by decide +kernel
theorem e_turn : ∀ k : Fin 32, (atI .f32 (fdiv .f32 (fofInt .f32 (k.val : Int)) 1107296256) 0 1 && turnB (fdiv .f32 (fofInt .f32 (k.val : Int)) 1107296256)) = true := by decide +kernel
theorem e_phase : ∀ k : Fin 64, (atI .f32 (fdiv .f32 (fofInt .f32 (k.val : Int)) 1115684864) 0 1 && turnB (fdiv .f32 (fofInt .f32 (k.val : Int)) 1115684864)) = true := by decide +kernel
theorem e_mass : ∀ k : Fin 8, atI .f32 (msN k.val) (1 / 2) 4 = true := by decide +kernel

theorem ellipse_eq {c : List Int} (hc : Bytes c) : spec_B10Ellipse_need c = true ∧ OrbE (spec_B10Ellipse c) ∧ ∃ k : Fin 15, ∃ j : Fin 7, (spec_B10Ellipse c).Long = loN k.val ∧ (spec_B10Ellipse c).Round = roN j.val := by
  obtain ⟨v1, a1, s1, m1, e1, l1, u1, q1, r1⟩ := pick_eq hc 0 (a := 0) (n := 15) (by omega) (by omega) (by omega) (by omega)
  obtain ⟨v2, a2, s2, m2, e2, l2, u2, q2, r2⟩ := pick_eq hc s1 (a := a1) (n := 7) (by omega) (by omega) (by omega) (by omega)
  obtain ⟨v3, a3, s3, m3, e3, l3, u3, q3, r3⟩ := pick_eq hc s2 (a := a2) (n := 17) (by omega) (by omega) (by omega) (by omega)
  obtain ⟨v4, a4, s4, m4, e4, l4, u4, q4, r4⟩ := pick_eq hc s3 (a := a3) (n := 32) (by omega) (by omega) (by omega) (by omega)
  obtain ⟨v5, a5, s5, m5, e5, l5, u5, q5, r5⟩ := pick_eq hc s4 (a := a4) (n := 32) (by omega) (by omega) (by omega) (by omega)
  obtain ⟨v6, a6, s6, m6, e6, l6, u6, q6, r6⟩ := pick_eq hc s5 (a := a5) (n := 64) (by omega) (by omega) (by omega) (by omega)
  obtain ⟨k1, rfl⟩ := fin_of (n := 15) l1 u1
  obtain ⟨k2, rfl⟩ := fin_of (n := 7) l2 u2
  obtain ⟨k3, rfl⟩ := fin_of (n := 17) l3 u3
  obtain ⟨k4, rfl⟩ := fin_of (n := 32) l4 u4
  obtain ⟨k5, rfl⟩ := fin_of (n := 32) l5 u5
  obtain ⟨k6, rfl⟩ := fin_of (n := 64) l6 u6
  have f1 := I.at (e_long k1)
  have f2 := I.at (e_round k2)
  have f3 := I.at (e_tilt k3)
  have f4 := e_turn k4
  have f5 := e_turn k5
  have f6 := e_phase k6
  rw [Bool.and_eq_true] at f4 f5 f6
  obtain ⟨f4, t4⟩ := f4
  obtain ⟨f5, t5⟩ := f5
  obtain ⟨f6, t6⟩ := f6
  have f4 := I.at f4
  have f5 := I.at f5
  have f6 := I.at f6
  have hA : fdiv .f32 (fofInt .f32 (IntKind.wrap .i64 (2 + (k1.val : Int)))) 1082130432 = loN k1.val := rfl
  have hB : fdiv .f32 (fofInt .f32 (k2.val : Int)) 1090519040 = roN k2.val := rfl
  generalize loN k1.val = A at *
  generalize roN k2.val = B at *
  generalize hC : fdiv .f32 (fofInt .f32 (k3.val : Int)) 1107296256 = C at *
  generalize hD : fdiv .f32 (fofInt .f32 (k4.val : Int)) 1107296256 = D at *
  generalize hE : fdiv .f32 (fofInt .f32 (k5.val : Int)) 1107296256 = E at *
  generalize hF : fdiv .f32 (fofInt .f32 (k6.val : Int)) 1115684864 = F at *
  have hb : spec_B10Ellipse_need c = true ∧ spec_B10Ellipse c = ⟨A, B, C, D, E, F⟩ := by
    unfold spec_B10Ellipse_need spec_B10Ellipse spec_B10Ellipse_tree
    simp only [m1, e1, m2, e2, m3, e3, m4, e4, m5, e5, m6, e6, hA, hB, hC, hD, hE, hF]
    simp only [DT.ok, DT.val]
    exact ⟨trivial, trivial⟩
  rw [hb.2]
  refine ⟨hb.1, ⟨f1, f2, f3, f4, f5, f6, ?_⟩, k1, k2, by rw [← hA]; rfl, by rw [← hB]; rfl⟩
  have hgt : fgt .f32 A 0 = true := I.gt f1 k_zero32 (by decide +kernel)
  have h1 : fge .f32 B 0 = true := I.ge f2 k_zero32 (by decide +kernel)
  have h2 : flt .f32 B 1065353216 = true := I.lt f2 k_one32 (by decide +kernel)
  have h3 : fge .f32 C 0 = true := I.ge f3 k_zero32 (by decide +kernel)
  have h4 : fle .f32 C 1056964608 = true := I.le f3 k_half32 (by decide +kernel)
  unfold validO
  simp only [f1.1, f2.1, h3, h4, t4, t5, hgt, h1, h2, t6, Bool.and_self]

theorem mass_eq {c : List Int} (hc : Bytes c) : spec_B10Mass_need c = true ∧ ∃ m : Fin 8, spec_B10Mass c = msN m.val := by
  obtain ⟨v1, a1, s1, m1, e1, l1, u1, q1, r1⟩ := pick_eq hc 0 (a := 0) (n := 8) (by omega) (by omega) (by omega) (by omega)
  obtain ⟨k1, rfl⟩ := fin_of (n := 8) l1 u1
  refine ⟨?_, k1, ?_⟩
  · unfold spec_B10Mass_need spec_B10Mass_tree
    simp only [m1, e1]
    simp only [DT.ok]
  · unfold spec_B10Mass spec_B10Mass_tree
    simp only [m1, e1]
    simp only [DT.val]
    rfl

theorem at10_eq {c : List Int} (hc : Bytes c) : laws_b10At_need c 3 12 = true ∧ ∃ x : Fin 12, laws_b10At c 3 12 = (x.val : Int) := by
  have key : ∃ v, (laws_b10At_tree c 3 12).get = some v ∧ 0 ≤ v ∧ v < 12 := by
    unfold laws_b10At_tree
    by_cases g : (3 : Int) < ((c.length : Nat) : Int)
    · have hb := hc.at 3 (by omega)
      have e : Int.toNat 3 = 3 := rfl
      simp only [DT.get, decide_eq_true g, show decide ((12 : Int) ≤ 1) = false from rfl, show decide ((0 : Int) ≤ 3) = true from rfl, Bool.and_self, show ((12 : Int) != 0) = true from rfl, e]
      rw [wrap_small (by omega) (by omega)]
      exact ⟨_, rfl, Int.tmod_nonneg _ hb.1, Int.tmod_lt_of_pos _ (by omega)⟩
    · simp only [DT.get, decide_eq_false g, show decide ((12 : Int) ≤ 1) = false from rfl, show ((12 : Int) != 0) = true from rfl]
      exact ⟨_, rfl, by decide +kernel, by decide +kernel⟩
  obtain ⟨v, h, h0, h1⟩ := key
  obtain ⟨k1, k2⟩ := DT.of_get h
  obtain ⟨x, hx⟩ := fin_of (n := 12) h0 h1
  have k2 : laws_b10At c 3 12 = v := k2
  exact ⟨k1, x, by rw [k2, hx]⟩

/-! ## What is computed -/

noncomputable def raN (k m : Nat) : Nat := impl_Orbit_rate ⟨loN k, 0, 0, 0, 0, 0⟩ (fconv .f32 (msN m) .f64)
noncomputable def peN (k m : Nat) : Nat := fconv .f64 (fdiv .f64 4618760256179416344 (raN k m)) .f32
noncomputable def rtN (k m : Nat) : Nat := fconv .f64 (raN k m) .f32
noncomputable def xN (k m t : Nat) : Nat := fdiv .f64 (fmul .f64 (raN k m) (fconv .f32 t .f64)) 4618760256179416344
theorem rate_of (o : Orbit) (m : Nat) : impl_Orbit_rate o m = impl_Orbit_rate ⟨o.Long, 0, 0, 0, 0, 0⟩ m := rfl
noncomputable def perB (k m : Nat) : Bool :=
  (fconvOk .f64 (fdiv .f64 4618760256179416344 (raN k m)) .f32 && (isNum .f32 (peN k m) && (fconvOk .f64 (raN k m) .f32 && isNum .f32 (rtN k m)))) &&
  ((atI .f64 (xN k m (peN k m)) (999999 / 1000000) (1000001 / 1000000) &&
  (atI .f64 (xN k m (fdiv .f32 (peN k m) 1073741824)) (499999 / 1000000) (500001 / 1000000) && isNum .f32 (fdiv .f32 (peN k m) 1073741824))) &&
  ((atI .f64 (xN k m (fdiv .f32 (fneg .f32 (peN k m)) 1073741824)) (-500001 / 1000000) (-499999 / 1000000) && isNum .f32 (fdiv .f32 (fneg .f32 (peN k m)) 1073741824)) &&
  !fgt .f64 (laws_b10Gap (fmul .f64 (fconv .f32 (peN k m) .f64) (fconv .f32 (rtN k m) .f64)) 4618760256396512830) 4562254508917369340))
theorem c_per0 : ∀ k : Fin 5, ∀ m : Fin 8, perB k.val m.val = true := by decide +kernel
theorem c_per1 : ∀ k : Fin 5, ∀ m : Fin 8, perB (k.val + 5) m.val = true := by decide +kernel
theorem c_per2 : ∀ k : Fin 5, ∀ m : Fin 8, perB (k.val + 10) m.val = true := by decide +kernel
theorem per_all (k : Fin 15) (m : Fin 8) : perB k.val m.val = true := by
  have hk := k.isLt
  by_cases h1 : k.val < 5
  · exact c_per0 ⟨k.val, h1⟩ m
  · by_cases h2 : k.val < 10
    · have := c_per1 ⟨k.val - 5, by omega⟩ m
      rwa [show k.val - 5 + 5 = k.val by omega] at this
    · have := c_per2 ⟨k.val - 10, by omega⟩ m
      rwa [show k.val - 10 + 10 = k.val by omega] at this

/-! ## The nearest and the farthest place -/

def neN (k j : Nat) : Nat := fconv .f64 (fmul .f64 (fconv .f32 (loN k) .f64) (fsub .f64 4607182418800017408 (fconv .f32 (roN j) .f64))) .f32
def faN (k j : Nat) : Nat := fconv .f64 (fmul .f64 (fconv .f32 (loN k) .f64) (fadd .f64 4607182418800017408 (fconv .f32 (roN j) .f64))) .f32
def nfB (k j : Nat) : Bool := (fconvOk .f64 (fmul .f64 (fconv .f32 (loN k) .f64) (fsub .f64 4607182418800017408 (fconv .f32 (roN j) .f64))) .f32 && (isNum .f32 (neN k j) && decide (R .f32 (neN k j) = R .f32 (loN k) * (1 - R .f32 (roN j))))) &&
  (fconvOk .f64 (fmul .f64 (fconv .f32 (loN k) .f64) (fadd .f64 4607182418800017408 (fconv .f32 (roN j) .f64))) .f32 && (isNum .f32 (faN k j) && decide (R .f32 (faN k j) = R .f32 (loN k) * (1 + R .f32 (roN j)))))
theorem c_nf : ∀ k : Fin 15, ∀ j : Fin 7, nfB k.val j.val = true := by decide +kernel

end Go.Proofs.Ytomdjbkididieaa
