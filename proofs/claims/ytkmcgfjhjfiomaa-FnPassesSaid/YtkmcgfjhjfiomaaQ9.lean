/- The plain law of FnPasses, part 9: balls, orbits and marks that are drawn. -/
import Derived.Test.YtkmcgfjhjfiomaaQ8
import Derived.Test.YtkmcgfjhjfiomaaQ7
namespace Go.Proofs.Ytkmcgfjhjfiomaa
set_option linter.unusedVariables false
set_option linter.unusedSimpArgs false

theorem d_mass : ∀ k : Fin 8, atI .f32 (fdiv .f32 (fofInt .f32 (IntKind.wrap .i64 (1 + (k.val : Int)))) 1073741824) (1 / 2) 4 = true := by decide +kernel
theorem d_spin : ∀ k : Fin 17, atI .f32 (fdiv .f32 (fofInt .f32 (IntKind.wrap .i64 ((k.val : Int) - 8))) 1115684864) (-1 / 8) (1 / 8) = true := by decide +kernel
theorem d_start : ∀ k : Fin 17, atI .f32 (fdiv .f32 (fofInt .f32 (IntKind.wrap .i64 ((k.val : Int) - 8))) 1098907648) (-1 / 2) (1 / 2) = true := by decide +kernel

theorem ball_eq {c : List Int} (hc : Bytes c) : spec_R8Ball_need c = true ∧ BallS (spec_R8Ball c) ∧ ∃ r : Fin 8, (spec_R8Ball c).Radius = radN r.val := by
  obtain ⟨v1, a1, s1, m1, e1, l1, u1, q1, r1⟩ := pick_eq hc 0 (a := 0) (n := 8) (by omega) (by omega) (by omega) (by omega)
  obtain ⟨v2, a2, s2, m2, e2, l2, u2, q2, r2⟩ := pick_eq hc s1 (a := a1) (n := 8) (by omega) (by omega) (by omega) (by omega)
  obtain ⟨v3, a3, s3, m3, e3, l3, u3, q3, r3⟩ := pick_eq hc s2 (a := a2) (n := 17) (by omega) (by omega) (by omega) (by omega)
  obtain ⟨v4, a4, s4, m4, e4, l4, u4, q4, r4⟩ := pick_eq hc s3 (a := a3) (n := 17) (by omega) (by omega) (by omega) (by omega)
  obtain ⟨k1, rfl⟩ := fin_of (n := 8) l1 u1
  obtain ⟨k2, rfl⟩ := fin_of (n := 8) l2 u2
  obtain ⟨k3, rfl⟩ := fin_of (n := 17) l3 u3
  obtain ⟨k4, rfl⟩ := fin_of (n := 17) l4 u4
  have f1 := I.at (d_mass k1)
  have f2 := I.at (rad_I k2)
  have f3 := I.at (d_spin k3)
  have f4 := I.at (d_start k4)
  have hr : fdiv .f32 (fofInt .f32 (IntKind.wrap .i64 (1 + (k2.val : Int)))) 1090519040 = radN k2.val := rfl
  generalize hA : fdiv .f32 (fofInt .f32 (IntKind.wrap .i64 (1 + (k1.val : Int)))) 1073741824 = A at *
  generalize hB : radN k2.val = B at *
  generalize hC : fdiv .f32 (fofInt .f32 (IntKind.wrap .i64 ((k3.val : Int) - 8))) 1115684864 = C at *
  generalize hD : fdiv .f32 (fofInt .f32 (IntKind.wrap .i64 ((k4.val : Int) - 8))) 1098907648 = D at *
  have key : spec_l06DrawOk_need c 0 0 = true ∧ spec_l06DrawOk c 0 0 = (⟨A, B, C, D⟩, a4, s4) := by
    unfold spec_l06DrawOk_need spec_l06DrawOk spec_l06DrawOk_tree
    simp only [m1, e1, m2, e2, m3, e3, m4, e4, hA, hr, hC, hD]
    simp only [DT.ok, DT.val]
    exact ⟨trivial, trivial⟩
  have hb : spec_R8Ball_need c = true ∧ spec_R8Ball c = ⟨A, B, C, D⟩ := by
    unfold spec_R8Ball_need spec_R8Ball spec_R8Ball_tree
    simp only [key.1, key.2]
    simp only [DT.ok, DT.val]
    exact ⟨trivial, trivial⟩
  rw [hb.2]
  exact ⟨hb.1, ⟨f1, f2, f3, f4⟩, k2, hB.symm⟩

theorem d_long : ∀ k : Fin 9, atI .f32 (fdiv .f32 (fofInt .f32 (IntKind.wrap .i64 (4 + (k.val : Int)))) 1082130432) 1 3 = true := by decide +kernel
theorem d_round : ∀ k : Fin 6, atI .f32 (fdiv .f32 (fofInt .f32 (k.val : Int)) 1090519040) 0 (5 / 8) = true := by decide +kernel
theorem d_tilt : ∀ k : Fin 9, atI .f32 (fdiv .f32 (fofInt .f32 (k.val : Int)) 1098907648) 0 (1 / 2) = true := by decide +kernel
theorem d_turn : ∀ k : Fin 16, (atI .f32 (fdiv .f32 (fofInt .f32 (k.val : Int)) 1098907648) 0 1 && turnB (fdiv .f32 (fofInt .f32 (k.val : Int)) 1098907648)) = true := by decide +kernel

theorem orbit_eq {c : List Int} (hc : Bytes c) : spec_R8Orbit_need c = true ∧ OrbS (spec_R8Orbit c) := by
  obtain ⟨v1, a1, s1, m1, e1, l1, u1, q1, r1⟩ := pick_eq hc 0 (a := 0) (n := 9) (by omega) (by omega) (by omega) (by omega)
  obtain ⟨v2, a2, s2, m2, e2, l2, u2, q2, r2⟩ := pick_eq hc s1 (a := a1) (n := 6) (by omega) (by omega) (by omega) (by omega)
  obtain ⟨v3, a3, s3, m3, e3, l3, u3, q3, r3⟩ := pick_eq hc s2 (a := a2) (n := 9) (by omega) (by omega) (by omega) (by omega)
  obtain ⟨v4, a4, s4, m4, e4, l4, u4, q4, r4⟩ := pick_eq hc s3 (a := a3) (n := 16) (by omega) (by omega) (by omega) (by omega)
  obtain ⟨v5, a5, s5, m5, e5, l5, u5, q5, r5⟩ := pick_eq hc s4 (a := a4) (n := 16) (by omega) (by omega) (by omega) (by omega)
  obtain ⟨v6, a6, s6, m6, e6, l6, u6, q6, r6⟩ := pick_eq hc s5 (a := a5) (n := 16) (by omega) (by omega) (by omega) (by omega)
  obtain ⟨k1, rfl⟩ := fin_of (n := 9) l1 u1
  obtain ⟨k2, rfl⟩ := fin_of (n := 6) l2 u2
  obtain ⟨k3, rfl⟩ := fin_of (n := 9) l3 u3
  obtain ⟨k4, rfl⟩ := fin_of (n := 16) l4 u4
  obtain ⟨k5, rfl⟩ := fin_of (n := 16) l5 u5
  obtain ⟨k6, rfl⟩ := fin_of (n := 16) l6 u6
  have f1 := I.at (d_long k1)
  have f2 := I.at (d_round k2)
  have f3 := I.at (d_tilt k3)
  have f4 := d_turn k4
  have f5 := d_turn k5
  have f6 := d_turn k6
  rw [Bool.and_eq_true] at f4 f5 f6
  obtain ⟨f4, t4⟩ := f4
  obtain ⟨f5, t5⟩ := f5
  obtain ⟨f6, t6⟩ := f6
  have f4 := I.at f4
  have f5 := I.at f5
  have f6 := I.at f6
  generalize hA : fdiv .f32 (fofInt .f32 (IntKind.wrap .i64 (4 + (k1.val : Int)))) 1082130432 = A at *
  generalize hB : fdiv .f32 (fofInt .f32 (k2.val : Int)) 1090519040 = B at *
  generalize hC : fdiv .f32 (fofInt .f32 (k3.val : Int)) 1098907648 = C at *
  generalize hD : fdiv .f32 (fofInt .f32 (k4.val : Int)) 1098907648 = D at *
  generalize hE : fdiv .f32 (fofInt .f32 (k5.val : Int)) 1098907648 = E at *
  generalize hF : fdiv .f32 (fofInt .f32 (k6.val : Int)) 1098907648 = F at *
  have hb : spec_R8Orbit_need c = true ∧ spec_R8Orbit c = ⟨A, B, C, D, E, F⟩ := by
    unfold spec_R8Orbit_need spec_R8Orbit spec_R8Orbit_tree
    simp only [m1, e1, m2, e2, m3, e3, m4, e4, m5, e5, m6, e6, hA, hB, hC, hD, hE, hF]
    simp only [DT.ok, DT.val]
    exact ⟨trivial, trivial⟩
  rw [hb.2]
  refine ⟨hb.1, f1, f2, f3, f4, f5, f6, ?_⟩
  have hgt : fgt .f32 A 0 = true := I.gt f1 k_zero32 (by decide +kernel)
  have h1 : fge .f32 B 0 = true := I.ge f2 k_zero32 (by decide +kernel)
  have h2 : flt .f32 B 1065353216 = true := I.lt f2 k_one32 (by decide +kernel)
  have h3 : fge .f32 C 0 = true := I.ge f3 k_zero32 (by decide +kernel)
  have h4 : fle .f32 C 1056964608 = true := I.le f3 k_half32 (by decide +kernel)
  unfold validO
  simp only [f1.1, f2.1, h3, h4, t4, t5, hgt, h1, h2, t6, Bool.and_self]

theorem d_north : ∀ k : Fin 29, atI .f32 (fdiv .f32 (fofInt .f32 (IntKind.wrap .i64 ((k.val : Int) - 14))) 1115684864) (-1 / 4) (1 / 4) = true := by decide +kernel
theorem d_east : ∀ k : Fin 31, atI .f32 (fdiv .f32 (fofInt .f32 (IntKind.wrap .i64 ((k.val : Int) - 15))) 1107296256) (-1 / 2) (49 / 100) = true := by decide +kernel
theorem d_high : ∀ k : Fin 5, atI .f32 (fdiv .f32 (fofInt .f32 (k.val : Int)) 1082130432) 0 1 = true := by decide +kernel

theorem mark_eq {c : List Int} (hc : Bytes c) : spec_R8Mark_need c = true ∧ MarkS (spec_R8Mark c) := by
  obtain ⟨v1, a1, s1, m1, e1, l1, u1, q1, r1⟩ := pick_eq hc 0 (a := 0) (n := 29) (by omega) (by omega) (by omega) (by omega)
  obtain ⟨v2, a2, s2, m2, e2, l2, u2, q2, r2⟩ := pick_eq hc s1 (a := a1) (n := 31) (by omega) (by omega) (by omega) (by omega)
  obtain ⟨v3, a3, s3, m3, e3, l3, u3, q3, r3⟩ := pick_eq hc s2 (a := a2) (n := 5) (by omega) (by omega) (by omega) (by omega)
  obtain ⟨k1, rfl⟩ := fin_of (n := 29) l1 u1
  obtain ⟨k2, rfl⟩ := fin_of (n := 31) l2 u2
  obtain ⟨k3, rfl⟩ := fin_of (n := 5) l3 u3
  have f1 := I.at (d_north k1)
  have f2 := I.at (d_east k2)
  have f3 := I.at (d_high k3)
  generalize hA : fdiv .f32 (fofInt .f32 (IntKind.wrap .i64 ((k1.val : Int) - 14))) 1115684864 = A at *
  generalize hB : fdiv .f32 (fofInt .f32 (IntKind.wrap .i64 ((k2.val : Int) - 15))) 1107296256 = B at *
  generalize hC : fdiv .f32 (fofInt .f32 (k3.val : Int)) 1082130432 = C at *
  have hb : spec_R8Mark_need c = true ∧ spec_R8Mark c = ⟨A, B, C⟩ := by
    unfold spec_R8Mark_need spec_R8Mark spec_R8Mark_tree
    simp only [m1, e1, m2, e2, m3, e3, hA, hB, hC]
    simp only [DT.ok, DT.val]
    exact ⟨trivial, trivial⟩
  rw [hb.2]
  refine ⟨hb.1, f1, f2.to (by decide +kernel), f3, ?_⟩
  have h1 : fge .f32 A 3196059648 = true := I.ge f1 k_mquart32 (by decide +kernel)
  have h2 : fle .f32 A 1048576000 = true := I.le f1 k_quart32 (by decide +kernel)
  have h3 : fge .f32 B 3204448256 = true := I.ge f2 k_mhalf32 (by decide +kernel)
  have h4 : flt .f32 B 1056964608 = true := I.lt f2 k_half32 (by decide +kernel)
  unfold markB
  simp only [h1, h2, h3, h4, f3.1, Bool.and_self]

/-! ## The same mark -/

theorem same_mark {m : Mark} (h : markB m = true) : impl_SameMark_need m m = true ∧ impl_SameMark m m = true := by
  unfold markB at h
  simp only [Bool.and_eq_true] at h
  obtain ⟨h1, h2, h3, h4, h5⟩ := h
  have n1 := num_between k_mquart32.1 k_quart32.1 h1 (.inr h2)
  have n2 := num_between k_mhalf32.1 k_half32.1 h3 (.inl h4)
  have hget : ∀ k, k < 3 → isNum .f32 (List.getD [m.North, m.East, m.High] k default) = true := by
    intro k hk
    match k, hk with
    | 0, _ => exact n1
    | 1, _ => exact n2
    | 2, _ => exact h5
  obtain ⟨e1, e2⟩ := loop_post (step := slices_EqualFunc___float32___float32_float32_float32__impl_SameNumber_loop0_step ([m.North, m.East, m.High], [m.North, m.East, m.High], 3)) (fun s => ∃ k : Nat, k ≤ 3 ∧ s = (k : Int)) (fun s => (3 - s).toNat) (fun r => r = .inr ()) (by
    rintro s ⟨k, hk, rfl⟩
    rcases Nat.lt_or_ge k 3 with h | h
    · obtain ⟨g1, g2⟩ := SameNumber_self (hget k h)
      refine ⟨.inl ((k + 1 : Nat) : Int), [], ?_, ⟨k + 1, h, rfl⟩, by omega⟩
      have hl : decide (((k : Nat) : Int) < 3) = true := decide_eq_true (by omega)
      have hl2 : decide (((k : Nat) : Int) < ((List.length [m.North, m.East, m.High] : Nat) : Int)) = true := hl
      unfold slices_EqualFunc___float32___float32_float32_float32__impl_SameNumber_loop0_step
      simp only [DT.get, hl, hl2, nat_ge, Bool.and_true, Int.toNat_natCast, g1, g2, Bool.not_true, nat_next h (by decide)]
    · have : k = 3 := by omega
      subst this
      refine ⟨.inr (.inr ()), [], ?_, rfl⟩
      unfold slices_EqualFunc___float32___float32_float32_float32__impl_SameNumber_loop0_step
      simp only [DT.get]
      rfl) 0 ⟨0, by omega, rfl⟩
  have e1 : slices_EqualFunc___float32___float32_float32_float32__impl_SameNumber_loop0_ends ([m.North, m.East, m.High], [m.North, m.East, m.High], 3) 0 = true := e1
  have e2 : slices_EqualFunc___float32___float32_float32_float32__impl_SameNumber_loop0 ([m.North, m.East, m.High], [m.North, m.East, m.High], 3) 0 = .inr () := e2
  have key : slices_EqualFunc___float32___float32_float32_float32__impl_SameNumber_need [m.North, m.East, m.High] [m.North, m.East, m.High] = true ∧ slices_EqualFunc___float32___float32_float32_float32__impl_SameNumber [m.North, m.East, m.High] [m.North, m.East, m.High] = true := by
    have e : ((List.length [m.North, m.East, m.High] : Nat) : Int) = 3 := rfl
    unfold slices_EqualFunc___float32___float32_float32_float32__impl_SameNumber_need slices_EqualFunc___float32___float32_float32_float32__impl_SameNumber slices_EqualFunc___float32___float32_float32_float32__impl_SameNumber_tree
    simp only [DT.ok, DT.val, e, bne_self_eq_false, e1, e2, isL]
    exact ⟨trivial, trivial⟩
  have key2 : impl_sameNumbers_need [m.North, m.East, m.High] [m.North, m.East, m.High] = true ∧ impl_sameNumbers [m.North, m.East, m.High] [m.North, m.East, m.High] = true := by
    unfold impl_sameNumbers_need impl_sameNumbers impl_sameNumbers_tree
    simp only [DT.ok, DT.val, key.1, key.2]
    exact ⟨trivial, trivial⟩
  unfold impl_SameMark_need impl_SameMark impl_SameMark_tree
  simp only [DT.ok, DT.val, key2.1, key2.2]
  exact ⟨trivial, trivial⟩

/-! ## The law's loop over the track -/

theorem loop3_all (a0 a1 : List Int) {o : Orbit} {b : Ball} {m : Mark} (ho : OrbS o) (hb : BallS b) (hm : MarkS m) (hd : spec_R8Mark_need a0 = true ∧ spec_R8Mark a0 = m) (hs : ∀ k : Nat, k < 4 → (sawN o b m (k : Int)).2 = true) :
    laws_FnPasses_loop3_ends (a0, a1, b.Mass, b.Radius, b.Spin, b.Start, o.Long, o.Round, o.Tilt, o.Node, o.Peri, o.Phase, (List.range 4).map fun k : Nat => mrkN o b (k : Int), (List.range 4).map fun k : Nat => fge .f32 (sawN o b m (k : Int)).1 0) 0 = true ∧
    laws_FnPasses_loop3 (a0, a1, b.Mass, b.Radius, b.Spin, b.Start, o.Long, o.Round, o.Tilt, o.Node, o.Peri, o.Phase, (List.range 4).map fun k : Nat => mrkN o b (k : Int), (List.range 4).map fun k : Nat => fge .f32 (sawN o b m (k : Int)).1 0) 0 = .inr () := by
  refine loop_post (step := laws_FnPasses_loop3_step (a0, a1, b.Mass, b.Radius, b.Spin, b.Start, o.Long, o.Round, o.Tilt, o.Node, o.Peri, o.Phase, (List.range 4).map fun k : Nat => mrkN o b (k : Int), (List.range 4).map fun k : Nat => fge .f32 (sawN o b m (k : Int)).1 0)) (fun s => ∃ k : Nat, k ≤ 4 ∧ s = (k : Int)) (fun s => (4 - s).toNat) (fun r => r = .inr ()) ?_ 0 ⟨0, by decide, rfl⟩
  rintro s ⟨k, hk, rfl⟩
  rcases Nat.lt_or_ge k 4 with hlt | hge
  · have hK := known ho hb hlt
    have hd4 : decide (((k : Nat) : Int) < 4) = true := decide_eq_true (by omega)
    have hdk : decide (k < 4) = true := decide_eq_true hlt
    have hd4' : decide (((k : Nat) : Int) < ((4 : Nat) : Int)) = true := hd4
    have ht : fadd .f32 1056964608 (fmul .f32 (fofInt .f32 ((k : Nat) : Int)) 1048576000) = tmN (k : Int) := rfl
    have eo : (⟨o.Long, o.Round, o.Tilt, o.Node, o.Peri, o.Phase⟩ : Orbit) = o := rfl
    have eb : (⟨b.Mass, b.Radius, b.Spin, b.Start⟩ : Ball) = b := rfl
    have em : (⟨m.North, m.East, m.High⟩ : Mark) = m := rfl
    have el : (⟨(latN o b (k : Int)).Long, (latN o b (k : Int)).Round, (latN o b (k : Int)).Tilt, (latN o b (k : Int)).Node, (latN o b (k : Int)).Peri, (latN o b (k : Int)).Phase⟩ : Orbit) = latN o b (k : Int) := rfl
    have ev : (⟨(plcN o b (k : Int)).X, (plcN o b (k : Int)).Y, (plcN o b (k : Int)).Z⟩ : Vec) = plcN o b (k : Int) := rfl
    have ek : (⟨(mrkN o b (k : Int)).North, (mrkN o b (k : Int)).East, (mrkN o b (k : Int)).High⟩ : Mark) = mrkN o b (k : Int) := rfl
    have g1 : ((List.range 4).map fun k : Nat => mrkN o b (k : Int)).getD k default = mrkN o b (k : Int) := getD_range hlt
    have g2 : ((List.range 4).map fun k : Nat => fge .f32 (sawN o b m (k : Int)).1 0).getD k default = fge .f32 (sawN o b m (k : Int)).1 0 := getD_range hlt
    obtain ⟨q1, q2⟩ := same_mark hK.ok
    have hr := rise_need hb hm hK.fin (tmI hlt)
    have hsaw : impl_RiseAt b m (plcN o b (k : Int)) (tmN (k : Int)) = sawN o b m (k : Int) := rfl
    have hsk := hs k hlt
    refine ⟨.inl ((k + 1 : Nat) : Int), [0, 1, 2, 3], ?_, ⟨k + 1, hlt, rfl⟩, by omega⟩
    unfold laws_FnPasses_loop3_step
    simp only [hd4, ht, eo, eb, hK.l1, hK.l2, el, hK.s1, hK.s2, hK.s3, ev, hK.m1, hK.m2, ek, List.length_map, List.length_range, hd4', hdk, nat_ge, Bool.and_true, Int.toNat_natCast, g1, g2, q1, q2, hd.1, hd.2, em, hr, hsaw, hsk, Bool.not_true, beq_self_eq_true, nat_next hlt (show 4 ≤ 2 ^ 62 by decide)]
    simp only [DT.get]
  · have : k = 4 := by omega
    subst this
    exact ⟨.inr (.inr ()), [0, 1], rfl, rfl⟩

end Go.Proofs.Ytkmcgfjhjfiomaa
