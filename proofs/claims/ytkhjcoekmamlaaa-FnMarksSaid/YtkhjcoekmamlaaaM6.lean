/- The plain law of FnMarks, part 6: what is computed. -/
import Derived.Test.YtkhjcoekmamlaaaM5
namespace Go.Proofs.Ytkhjcoekmamlaaa
set_option linter.unusedVariables false
set_option linter.unusedSimpArgs false

def tmN (j : Nat) : Nat := fdiv .f32 (fofInt .f32 (IntKind.wrap .i64 ((j : Int) - 32))) 1090519040
def wrN (j : Nat) : Nat := fdiv .f32 (fofInt .f32 (IntKind.wrap .i64 ((j : Int) - 64))) 1098907648
def qB (x : Nat) (n : Int) : Bool := isNum .f32 x && decide (R .f32 x = (n : Rat) / 512)
def whB (j : Int) (x : Nat) (n : Int) : Bool := isNum .f32 x && decide (V .f32 x = n * ((2 ^ (j - lplace .f32).toNat : Nat) : Int))
theorem q_B {x : Nat} {n : Int} (h : qB x n = true) : Q .f32 x n := by
  unfold qB at h
  rw [Bool.and_eq_true, decide_eq_true_eq] at h
  exact h
theorem wh_B {j : Int} {x : Nat} {n : Int} (h : whB j x n = true) : Wh .f32 j x n := by
  unfold whB at h
  rw [Bool.and_eq_true, decide_eq_true_eq] at h
  exact h
theorem c_no : ∀ k : Fin 29, qB (noN k.val) (8 * ((k.val : Int) - 14)) = true := by decide +kernel
theorem c_ea : ∀ k : Fin 31, qB (eaN k.val) (16 * ((k.val : Int) - 15)) = true := by decide +kernel
theorem c_st : ∀ k : Fin 17, qB (stN k.val) (32 * ((k.val : Int) - 8)) = true := by decide +kernel
theorem c_sp : ∀ k : Fin 17, whB (-6) (spN k.val) ((k.val : Int) - 8) = true := by decide +kernel
theorem c_tm : ∀ k : Fin 65, whB (-3) (tmN k.val) ((k.val : Int) - 32) = true := by decide +kernel
theorem c_cos : ∀ k : Fin 29, decide (1 / 10 ≤ sgn (partX ((8 * ((k.val : Int) - 14)) % 512).toNat) (S (128 - partJ ((8 * ((k.val : Int) - 14)) % 512).toNat))) = true := by decide +kernel

def phiN (s j t : Nat) : Int := 32 * ((j : Int) - 8) + ((s : Int) - 8) * ((t : Int) - 32)
theorem phi_bd {s j t : Nat} (hs : s < 17) (hj : j < 17) (ht : t < 65) : (phiN s j t).natAbs ≤ 512 := by
  have h1 : (((s : Int) - 8) * ((t : Int) - 32)).natAbs ≤ 8 * 32 := by
    rw [Int.natAbs_mul]
    exact Nat.mul_le_mul (by omega) (by omega)
  unfold phiN
  generalize ((s : Int) - 8) * ((t : Int) - 32) = w at *
  omega

theorem face_Q (m r : Fin 8) (s j : Fin 17) (t : Fin 65) : Q .f32 (impl_Ball_face (balN m.val r.val s.val j.val) (tmN t.val)) (phiN s.val j.val t.val) := by
  have e : impl_Ball_face (balN m.val r.val s.val j.val) (tmN t.val) = fadd .f32 (stN j.val) (fmul .f32 (spN s.val) (tmN t.val)) := rfl
  rw [e]
  have hb := phi_bd s.isLt j.isLt t.isLt
  have h1 : (((s.val : Int) - 8) * ((t.val : Int) - 32)).natAbs ≤ 8 * 32 := by
    rw [Int.natAbs_mul]
    exact Nat.mul_le_mul (by have := s.isLt; omega) (by have := t.isLt; omega)
  have p := mul_at (k := .f32) (i := -6) (j := -3) (by decide) (by decide) (by decide) (by decide) (wh_B (c_sp s)) (wh_B (c_tm t)) (Nat.lt_of_le_of_lt h1 (by decide))
  have q : Q .f32 (fmul .f32 (spN s.val) (tmN t.val)) (((s.val : Int) - 8) * ((t.val : Int) - 32)) := Q_wh.1 p
  exact (q_B (c_st j)).add q (by unfold phiN at hb; omega)

def lonN (r h : Nat) : Rat := ((r : Rat) + 1) / 8 + (h : Rat) / 4
def lonB (x : Nat) (q : Rat) : Bool := isNum .f32 x && decide (R .f32 x = q)
theorem lon_B {x : Nat} {q : Rat} (h : lonB x q = true) : isNum .f32 x = true ∧ R .f32 x = q := by
  unfold lonB at h
  rw [Bool.and_eq_true, decide_eq_true_eq] at h
  exact h
theorem c_lon : ∀ r : Fin 8, ∀ h : Fin 5, (lonB (fadd .f32 (radN r.val) (hiN h.val)) (lonN r.val h.val) && lonB (fadd .f32 (radN r.val) (fadd .f32 (hiN h.val) 1065353216)) (lonN r.val (h.val + 4))) = true := by decide +kernel
theorem c_rad : ∀ r : Fin 8, (lonB (fadd .f32 (radN r.val) 0) (lonN r.val 0) && lonB (radN r.val) (lonN r.val 0)) = true := by decide +kernel
theorem c_hi : ∀ h : Fin 5, ((fadd .f32 (hiN h.val) 1065353216 == hiN (h.val + 4)) && (lonB (hiN h.val) ((h.val : Rat) / 4) && lonB (hiN (h.val + 4)) (((h.val + 4 : Nat) : Rat) / 4))) = true := by decide +kernel
theorem c_one : lonB (fadd .f32 1065353216 0) 1 = true ∧ qB (impl_Ball_face ⟨1065353216, 1065353216, 0, 0⟩ 0) 0 = true := by decide +kernel

theorem lon_bd {r h : Nat} (hr : r < 8) (hh : h < 9) : 1 / 8 ≤ lonN r h ∧ lonN r h ≤ 3 ∧ lonN r 0 + (h : Rat) / 4 = lonN r h ∧ lonN r 0 ≤ 1 := by
  have a : (0 : Rat) ≤ (r : Rat) := by exact_mod_cast Nat.zero_le r
  have b : (r : Rat) ≤ 7 := by exact_mod_cast (show r ≤ 7 by omega)
  have c : (0 : Rat) ≤ (h : Rat) := by exact_mod_cast Nat.zero_le h
  have d : (h : Rat) ≤ 8 := by exact_mod_cast (show h ≤ 8 by omega)
  have z : ((0 : Nat) : Rat) = 0 := rfl
  unfold lonN
  rw [z]
  refine ⟨by grind, by grind, by grind, by grind⟩

/-! ## Horizons -/

def horTab : List (List Nat) := [[0, 1044946301, 1046425355, 1047044947, 1047386799, 1047603684, 1047753595, 1047863424, 1047947360], [0, 1042983595, 1044946301, 1045877196, 1046425355, 1046787536, 1047044947, 1047237410, 1047386799], [0, 1041702953, 1043845397, 1044946301, 1045625704, 1046088803, 1046425355, 1046681247, 1046882485], [0, 1040781992, 1042983595, 1044180709, 1044946301, 1045481247, 1045877196, 1046182527, 1046425355], [0, 1039969404, 1042284733, 1043536182, 1044359352, 1044946301, 1045387465, 1045731792, 1046008313], [0, 1038848802, 1041702953, 1042983594, 1043845397, 1044470370, 1044946301, 1045321667, 1045625704], [0, 1037928970, 1041208715, 1042502840, 1043390323, 1044043218, 1044546062, 1044946301, 1045272952], [0, 1037156270, 1040781992, 1042079507, 1042983595, 1043656958, 1044180709, 1044600977, 1044946301]]
def horT (r h : Nat) : Nat := (horTab.getD r []).getD h 0
noncomputable def horN (R hi : Nat) : Nat := impl_AngleTurns (impl_RootNumber (fmul .f32 hi (fadd .f32 (fmul .f32 1073741824 R) hi))) R
theorem c_hor0 : ∀ h : Fin 9, (horN (radN 0) (hiN h.val) == horT 0 h.val) = true := by decide +kernel
theorem c_hor1 : ∀ h : Fin 9, (horN (radN 1) (hiN h.val) == horT 1 h.val) = true := by decide +kernel
theorem c_hor2 : ∀ h : Fin 9, (horN (radN 2) (hiN h.val) == horT 2 h.val) = true := by decide +kernel
theorem c_hor3 : ∀ h : Fin 9, (horN (radN 3) (hiN h.val) == horT 3 h.val) = true := by decide +kernel
theorem c_hor4 : ∀ h : Fin 9, (horN (radN 4) (hiN h.val) == horT 4 h.val) = true := by decide +kernel
theorem c_hor5 : ∀ h : Fin 9, (horN (radN 5) (hiN h.val) == horT 5 h.val) = true := by decide +kernel
theorem c_hor6 : ∀ h : Fin 9, (horN (radN 6) (hiN h.val) == horT 6 h.val) = true := by decide +kernel
theorem c_hor7 : ∀ h : Fin 9, (horN (radN 7) (hiN h.val) == horT 7 h.val) = true := by decide +kernel
theorem hor_eq {r h : Nat} (hr : r < 8) (hh : h < 9) : horN (radN r) (hiN h) = horT r h := by
  have c : (horN (radN r) (hiN h) == horT r h) = true := by
    match r, hr with
    | 0, _ => exact c_hor0 ⟨h, hh⟩
    | 1, _ => exact c_hor1 ⟨h, hh⟩
    | 2, _ => exact c_hor2 ⟨h, hh⟩
    | 3, _ => exact c_hor3 ⟨h, hh⟩
    | 4, _ => exact c_hor4 ⟨h, hh⟩
    | 5, _ => exact c_hor5 ⟨h, hh⟩
    | 6, _ => exact c_hor6 ⟨h, hh⟩
    | 7, _ => exact c_hor7 ⟨h, hh⟩
  exact beq_iff_eq.1 c
def hor2B (r h : Nat) : Bool := isNum .f32 (horT r h) && (isNum .f32 (horT r (h + 4)) && (fge .f32 (horT r h) 0 && (fgt .f32 (horT r (h + 4)) (horT r h) && flt .f64 (fconv .f32 (horT r (h + 4)) .f64) 4598175219545276416)))
theorem c_hor : ∀ r : Fin 8, ∀ h : Fin 5, hor2B r.val h.val = true := by decide +kernel
noncomputable def rooB (r h : Nat) : Bool := isNum .f32 (impl_RootNumber (fmul .f32 (hiN h) (fadd .f32 (fmul .f32 1073741824 (radN r)) (hiN h)))) && decide (0 ≤ R .f32 (impl_RootNumber (fmul .f32 (hiN h) (fadd .f32 (fmul .f32 1073741824 (radN r)) (hiN h)))))
theorem c_roo : ∀ r : Fin 8, ∀ h : Fin 9, rooB r.val h.val = true := by decide +kernel

theorem aMass_eq {x : Nat} (hx : isNum .f32 x = true) (h0 : 0 ≤ R .f32 x) : impl_aMass_need x = true ∧ impl_aMass x = true := by
  have z0 : isNum .f32 0 = true ∧ R .f32 0 = 0 := by decide +kernel
  have h : fge .f32 x 0 = true := by
    rw [fge_R hx z0.1, z0.2]
    exact decide_eq_true h0
  unfold impl_aMass_need impl_aMass impl_aMass_tree
  simp only [DT.ok, DT.val, IsFinite_need, IsFinite_eq, hx, h]
  exact ⟨trivial, trivial⟩

theorem horizon_eq {b : Ball} {r : Fin 8} {h : Fin 9} (hb : BallS b) (hr : b.Radius = radN r.val) (hn : isNum .f32 (hiN h.val) = true) (h0 : 0 ≤ R .f32 (hiN h.val)) (ht : isNum .f32 (horT r.val h.val) = true) : impl_HorizonOf_need b (hiN h.val) = true ∧ impl_HorizonOf b (hiN h.val) = (horT r.val h.val, true) := by
  obtain ⟨v1, v2⟩ := hb.valid
  obtain ⟨a1, a2⟩ := aMass_eq hn h0
  have eb : (⟨b.Mass, radN r.val, b.Spin, b.Start⟩ : Ball) = b := by rw [← hr]
  have c := c_roo r h
  unfold rooB at c
  rw [Bool.and_eq_true, decide_eq_true_eq] at c
  have hrn : isNum .f32 (radN r.val) = true := (I.at (rad_I r)).1
  obtain ⟨g1, -⟩ := angle_pos c.1 hrn c.2
  have e : impl_AngleTurns (impl_RootNumber (fmul .f32 (hiN h.val) (fadd .f32 (fmul .f32 1073741824 (radN r.val)) (hiN h.val)))) (radN r.val) = horT r.val h.val := hor_eq r.isLt h.isLt
  unfold impl_HorizonOf_need impl_HorizonOf impl_HorizonOf_tree
  simp only [eb, v1, v2, a1, a2, hr, Root_need, g1, e, told_need, told_num ht, Bool.not_true]
  simp only [DT.ok, DT.val]
  exact ⟨trivial, trivial⟩

/-! ## Wrapped turns -/

noncomputable def wrB (k : Nat) : Bool := (impl_WrapTurn_need (wrN k) && (impl_WrapTurn (wrN k)).2) && ((impl_WrapTurn_need (fadd .f32 (wrN k) 1065353216) && (impl_WrapTurn (fadd .f32 (wrN k) 1065353216)).2) &&
  (fge .f32 (impl_WrapTurn (wrN k)).1 3204448256 && (flt .f32 (impl_WrapTurn (wrN k)).1 1056964608 && feq .f32 (impl_WrapTurn (wrN k)).1 (impl_WrapTurn (fadd .f32 (wrN k) 1065353216)).1)))
theorem c_wr0 : ∀ k : Fin 43, wrB k.val = true := by decide +kernel
theorem c_wr1 : ∀ k : Fin 43, wrB (k.val + 43) = true := by decide +kernel
theorem c_wr2 : ∀ k : Fin 43, wrB (k.val + 86) = true := by decide +kernel
theorem wr_all (k : Fin 129) : wrB k.val = true := by
  have hk := k.isLt
  by_cases h1 : k.val < 43
  · exact c_wr0 ⟨k.val, h1⟩
  · by_cases h2 : k.val < 86
    · have := c_wr1 ⟨k.val - 43, by omega⟩
      rwa [show k.val - 43 + 43 = k.val by omega] at this
    · have := c_wr2 ⟨k.val - 86, by omega⟩
      rwa [show k.val - 86 + 86 = k.val by omega] at this

end Go.Proofs.Ytkhjcoekmamlaaa

