/- The plain law of FnCovers, part 8: the cells of a drawn ball, seen from a drawn place. -/
import Derived.Test.YtkhjcoekmamlaaaV5
import Derived.Test.YtkhjcoekmamlaaaV7
import Derived.Test.YtkhjcoekmamlaaaVa
import Derived.Test.YtkhjcoekmamlaaaVb
namespace Go.Proofs.Ytkhjcoekmamlaaa
set_option linter.unusedVariables false
set_option linter.unusedSimpArgs false

def balN (m r s j : Nat) : Ball := ⟨maN m, radN r, spN s, stN j⟩
theorem balS (m r : Fin 8) (s j : Fin 17) : BallS (balN m.val r.val s.val j.val) := ⟨I.at (d_mass m), I.at (rad_I r), I.at (d_spin s), I.at (d_start j)⟩
noncomputable def atP (b : Ball) (n e h : Nat) : Vec := impl_Ball_place b ⟨noN n, eaN e, h⟩ 0
noncomputable def celP (b : Ball) (x y : Nat) : Vec := impl_Ball_place b ⟨gN (y : Int), gE (x : Int), 0⟩ 0
noncomputable def risN (b : Ball) (v : Vec) (x y : Nat) : Nat := fdiv .f32 (impl_InnerOf (celP b x y) (impl_LessVectors v (celP b x y))) (fmul .f32 (impl_SizeOfVector (celP b x y)) (impl_SizeOfVector (impl_LessVectors v (celP b x y))))

theorem face_eq (m r : Fin 8) (s j : Fin 17) : impl_Ball_face (balN m.val r.val s.val j.val) 0 = stN j.val := f_face s j

theorem c_cell : ∀ x : Fin 6, ∀ y : Fin 5, markB ⟨gN (y.val : Int), gE (x.val : Int), 0⟩ = true := by decide +kernel

theorem mark_ok (n : Fin 29) (e : Fin 31) {h : Nat} (hh : isNum .f32 h = true) : markB ⟨noN n.val, eaN e.val, h⟩ = true := by
  have f1 := I.at (d_north n)
  have f2 := I.at (d_east e)
  have h1 : fge .f32 (noN n.val) 3196059648 = true := I.ge f1 k_mquart32 (by decide +kernel)
  have h2 : fle .f32 (noN n.val) 1048576000 = true := I.le f1 k_quart32 (by decide +kernel)
  have h3 : fge .f32 (eaN e.val) 3204448256 = true := I.ge f2 k_mhalf32 (by decide +kernel)
  have h4 : flt .f32 (eaN e.val) 1056964608 = true := I.lt f2 k_half32 (by decide +kernel)
  unfold markB
  simp only [h1, h2, h3, h4, hh, Bool.and_self]

structure Tr (v : Vec) (Λ e1 e2 e3 : Rat) : Prop where
  all : isNum .f32 v.X = true ∧ isNum .f32 v.Y = true ∧ isNum .f32 v.Z = true ∧ Nr (R .f32 v.X) (Λ * e1) (6 / 10000000) ∧ Nr (R .f32 v.Y) (Λ * e2) (6 / 10000000) ∧ Nr (R .f32 v.Z) (Λ * e3) (6 / 10000000)

theorem Tr.fin {v : Vec} {Λ e1 e2 e3 : Rat} (h : Tr v Λ e1 e2 e3) : finV v = true := by
  unfold finV
  rw [h.all.1, h.all.2.1, h.all.2.2.1]
  rfl

theorem c_ge' {x y : Nat} (hx : x < 6) (j : Fin 17) : Circ (fadd .f32 (gE (x : Int)) (stN j.val)) := circ_of (c_ge ⟨x, hx⟩ j)
theorem c_gn' {y : Nat} (hy : y < 5) : Circ (gN (y : Int)) := circ_of (c_gn ⟨y, hy⟩)

theorem at_R (m r : Fin 8) (s j : Fin 17) (n : Fin 29) (e : Fin 31) {h : Nat} {Λ : Rat} (hl : longB (fadd .f32 (radN r.val) h) Λ = true) (hΛ : Bd Λ 4) :
    impl_Ball_place_need (balN m.val r.val s.val j.val) ⟨noN n.val, eaN e.val, h⟩ 0 = true ∧ Tr (atP (balN m.val r.val s.val j.val) n.val e.val h) Λ (dX (noN n.val) (tuN (e.val + 2 * j.val))) (dY (noN n.val) (tuN (e.val + 2 * j.val))) (dZ (noN n.val) (tuN (e.val + 2 * j.val))) := by
  unfold longB at hl
  rw [Bool.and_eq_true, decide_eq_true_eq] at hl
  have hN := circ_of (c_no n)
  have hF := circ_of (c_tu ⟨e.val + 2 * j.val, by have := e.isLt; have := j.isLt; omega⟩)
  obtain ⟨p1, p2⟩ := place_R (b := balN m.val r.val s.val j.val) (m := ⟨noN n.val, eaN e.val, h⟩) (t := 0) (f := tuN (e.val + 2 * j.val)) hl.1 hl.2 hΛ (by rw [face_eq]; exact f_tu e j) hN hF
  exact ⟨p1, ⟨p2⟩⟩

theorem ρ_bd (r : Fin 8) : 1 / 8 ≤ ρN r.val ∧ ρN r.val ≤ 1 := by
  have f := f_tab r
  unfold tabB at f
  simp only [Bool.and_eq_true, decide_eq_true_eq] at f
  exact ⟨f.1, f.2.1⟩

theorem long_of (r : Fin 8) : longB (fadd .f32 (radN r.val) 0) (ρN r.val) = true ∧ longB (fadd .f32 (radN r.val) 1061158912) (ρN r.val + 3 / 4) = true ∧ longB (fadd .f32 (radN r.val) 1077936128) (ρN r.val + 3) = true := by
  have f := f_long r
  simp only [Bool.and_eq_true] at f
  exact f

theorem cel_R (m r : Fin 8) (s j : Fin 17) {x y : Nat} (hx : x < 6) (hy : y < 5) :
    impl_Ball_place_need (balN m.val r.val s.val j.val) ⟨gN (y : Int), gE (x : Int), 0⟩ 0 = true ∧ Tr (celP (balN m.val r.val s.val j.val) x y) (ρN r.val) (dX (gN (y : Int)) (fadd .f32 (gE (x : Int)) (stN j.val))) (dY (gN (y : Int)) (fadd .f32 (gE (x : Int)) (stN j.val))) (dZ (gN (y : Int)) (fadd .f32 (gE (x : Int)) (stN j.val))) := by
  have hl := (long_of r).1
  unfold longB at hl
  rw [Bool.and_eq_true, decide_eq_true_eq] at hl
  have hb := ρ_bd r
  obtain ⟨p1, p2⟩ := place_R (b := balN m.val r.val s.val j.val) (m := ⟨gN (y : Int), gE (x : Int), 0⟩) (t := 0) (f := fadd .f32 (gE (x : Int)) (stN j.val)) hl.1 hl.2 (by unfold Bd; constructor <;> grind) (by rw [face_eq]) (c_gn' hy) (c_ge' (y := y) hx j)
  exact ⟨p1, ⟨p2⟩⟩

/-- How high the place stands over the cell. -/
noncomputable def gamC (j n e x y : Nat) : Rat := dot (gN (y : Int)) (fadd .f32 (gE (x : Int)) (stN j)) (noN n) (tuN (e + 2 * j))

theorem ris_R (m r : Fin 8) (s j : Fin 17) (n : Fin 29) (e : Fin 31) {h : Nat} {H : Rat} (hl : longB (fadd .f32 (radN r.val) h) H = true) (h1 : ρN r.val + 3 / 4 ≤ H) (h2 : H ≤ 4) {x y : Nat} (hx : x < 6) (hy : y < 5) :
    isNum .f32 (risN (balN m.val r.val s.val j.val) (atP (balN m.val r.val s.val j.val) n.val e.val h) x y) = true ∧ Rise (ρN r.val) H (gamC j.val n.val e.val x y) (R .f32 (risN (balN m.val r.val s.val j.val) (atP (balN m.val r.val s.val j.val) n.val e.val h) x y)) := by
  have hb := ρ_bd r
  obtain ⟨-, a⟩ := at_R m r s j n e hl (by unfold Bd; constructor <;> grind)
  obtain ⟨-, c⟩ := cel_R m r s j hx hy
  have hN := circ_of (c_no n)
  have hF := circ_of (c_tu ⟨e.val + 2 * j.val, by have := e.isLt; have := j.isLt; omega⟩)
  exact rise_of c.all a.all (dir_bd (c_gn' hy) (c_ge' (y := y) hx j)) (dir_bd hN hF) (dir_one (c_gn' hy) (c_ge' (y := y) hx j)) (dir_one hN hF) hb.1 hb.2 h1 h2

theorem place_ok (m r : Fin 8) (s j : Fin 17) (n : Fin 29) (e : Fin 31) {h : Nat} {H : Rat} (hh : isNum .f32 h = true) (hl : longB (fadd .f32 (radN r.val) h) H = true) (hH : Bd H 4) :
    impl_PlaceOf_need (balN m.val r.val s.val j.val) ⟨noN n.val, eaN e.val, h⟩ 0 = true ∧ impl_PlaceOf (balN m.val r.val s.val j.val) ⟨noN n.val, eaN e.val, h⟩ 0 = (atP (balN m.val r.val s.val j.val) n.val e.val h, true) := by
  obtain ⟨v1, v2⟩ := (balS m r s j).valid
  have hmk := ValidMark_eq ⟨noN n.val, eaN e.val, h⟩
  rw [mark_ok n e hh] at hmk
  obtain ⟨p, t⟩ := at_R m r s j n e hl hH
  have hf := isFiniteVector_eq (atP (balN m.val r.val s.val j.val) n.val e.val h)
  rw [t.fin] at hf
  have hz : isNum .f32 0 = true := by decide +kernel
  have ea : impl_Ball_place (balN m.val r.val s.val j.val) ⟨noN n.val, eaN e.val, h⟩ 0 = atP (balN m.val r.val s.val j.val) n.val e.val h := rfl
  generalize atP (balN m.val r.val s.val j.val) n.val e.val h = v at *
  generalize balN m.val r.val s.val j.val = b at *
  have eb : (⟨b.Mass, b.Radius, b.Spin, b.Start⟩ : Ball) = b := rfl
  have ev : (⟨v.X, v.Y, v.Z⟩ : Vec) = v := rfl
  have ht : impl_toldVector_need v = true ∧ impl_toldVector v = (v, true) := by
    unfold impl_toldVector_need impl_toldVector impl_toldVector_tree
    simp only [ev, hf.1, hf.2, Bool.not_true]
    simp only [DT.ok, DT.val]
    exact ⟨trivial, trivial⟩
  unfold impl_PlaceOf_need impl_PlaceOf impl_PlaceOf_tree
  simp only [eb, v1, v2, hmk.1, hmk.2, IsFinite_need, IsFinite_eq, hz, p, ea, ev, ht.1, ht.2, Bool.not_true]
  simp only [DT.ok, DT.val]
  exact ⟨trivial, trivial⟩

theorem rises (m r : Fin 8) (s j : Fin 17) (n : Fin 29) (e : Fin 31) {h : Nat} {H : Rat} (hl : longB (fadd .f32 (radN r.val) h) H = true) (h1 : ρN r.val + 3 / 4 ≤ H) (h2 : H ≤ 4) :
    Rises (balN m.val r.val s.val j.val) (atP (balN m.val r.val s.val j.val) n.val e.val h) (risN (balN m.val r.val s.val j.val) (atP (balN m.val r.val s.val j.val) n.val e.val h)) := by
  refine ⟨fun x y hx hy => ?_⟩
  have hb := ρ_bd r
  obtain ⟨v1, v2⟩ := (balS m r s j).valid
  have hmk := ValidMark_eq ⟨gN (y : Int), gE (x : Int), 0⟩
  rw [c_cell ⟨x, hx⟩ ⟨y, hy⟩] at hmk
  obtain ⟨-, t⟩ := at_R m r s j n e hl (by unfold Bd; constructor <;> grind)
  obtain ⟨p, -⟩ := cel_R m r s j hx hy
  obtain ⟨q, -⟩ := ris_R m r s j n e hl h1 h2 hx hy
  have hf := isFiniteVector_eq (atP (balN m.val r.val s.val j.val) n.val e.val h)
  rw [t.fin] at hf
  have hz : isNum .f32 0 = true := by decide +kernel
  rw [grid_eq]
  generalize atP (balN m.val r.val s.val j.val) n.val e.val h = v at *
  generalize balN m.val r.val s.val j.val = b at *
  have eb : (⟨b.Mass, b.Radius, b.Spin, b.Start⟩ : Ball) = b := rfl
  have ev : (⟨v.X, v.Y, v.Z⟩ : Vec) = v := rfl
  have ec : impl_Ball_place b ⟨gN (y : Int), gE (x : Int), 0⟩ 0 = celP b x y := rfl
  have ep : (⟨(celP b x y).X, (celP b x y).Y, (celP b x y).Z⟩ : Vec) = celP b x y := rfl
  have el : (⟨(impl_LessVectors v (celP b x y)).X, (impl_LessVectors v (celP b x y)).Y, (impl_LessVectors v (celP b x y)).Z⟩ : Vec) = impl_LessVectors v (celP b x y) := rfl
  have er : fdiv .f32 (impl_InnerOf (celP b x y) (impl_LessVectors v (celP b x y))) (fmul .f32 (impl_SizeOfVector (celP b x y)) (impl_SizeOfVector (impl_LessVectors v (celP b x y)))) = risN b v x y := rfl
  have hr : impl_Ball_rise_need b ⟨gN (y : Int), gE (x : Int), 0⟩ v 0 = true ∧ impl_Ball_rise b ⟨gN (y : Int), gE (x : Int), 0⟩ v 0 = risN b v x y := by
    unfold impl_Ball_rise_need impl_Ball_rise impl_Ball_rise_tree
    simp only [eb, ev, p, ec, ep, el, er, Size_need]
    simp only [DT.ok, DT.val]
    exact ⟨trivial, trivial⟩
  unfold impl_RiseAt_need impl_RiseAt impl_RiseAt_tree
  simp only [eb, ev, v1, v2, hmk.1, hmk.2, hf.1, hf.2, IsFinite_need, IsFinite_eq, hz, hr.1, hr.2, told_need, told_num q, Bool.not_true]
  simp only [DT.ok, DT.val]
  exact ⟨trivial, trivial⟩

end Go.Proofs.Ytkhjcoekmamlaaa
