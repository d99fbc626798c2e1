/- The plain law of FnPulls, part 6: lists that are turned or moved, and their pulls. -/
import Derived.Test.YtkmcgfjhjfiomaaW5
namespace Go.Proofs.Ytkmcgfjhjfiomaa
set_option linter.unusedVariables false
set_option linter.unusedSimpArgs false

/-! ## The bodies that are drawn -/

/-- A list of bodies that was drawn, with its numbers in quarters. -/
structure Base (l : List Body) (f : Nat → Int × Int × Int × Int) : Prop where
  n2 : 2 ≤ l.length
  n4 : l.length ≤ 4
  each : ∀ j, j < l.length → QBody (l.getD j default) (f j).1 (f j).2.1 (f j).2.2.1 (f j).2.2.2
  lo : ∀ j, j < l.length → -16 ≤ (f j).1 ∧ (f j).1 ≤ 28
  up : ∀ i j, i < j → j < l.length → (f i).1 + 4 ≤ (f j).1

theorem base_of {l : List Body} {n : Nat} (hn : l.length = n) (h2 : 2 ≤ n) (h4 : n ≤ 4) {nx : Int} (h : Drawn l nx) : ∃ f, Base l f := by
  obtain ⟨a1, a2, f, a3, a4⟩ := h
  exact ⟨f, by omega, by omega, fun j hj => (a3 j hj).1, fun j hj => ⟨(a3 j hj).2.1, by have := (a3 j hj).2.2; omega⟩, a4⟩

theorem Base.okL {l : List Body} {f : Nat → Int × Int × Int × Int} (h : Base l f) : okL l = true := okL_of (by have := h.n4; omega) fun j hj => (h.each j hj).ok

/-- A list that is near to the turned and moved list. -/
structure Img (l l' : List Body) (C S u v : Rat) : Prop where
  len : l'.length = l.length
  x : ∀ j, j < l.length → isNum .f32 (l'.getD j default).At.X = true ∧ Nr (R .f32 (l'.getD j default).At.X) (C * R .f32 (l.getD j default).At.X - S * R .f32 (l.getD j default).At.Y + u) (10 / 10000000)
  y : ∀ j, j < l.length → isNum .f32 (l'.getD j default).At.Y = true ∧ Nr (R .f32 (l'.getD j default).At.Y) (S * R .f32 (l.getD j default).At.X + C * R .f32 (l.getD j default).At.Y + v) (10 / 10000000)
  z : ∀ i j, i < l.length → j < l.length → isNum .f32 (fsub .f32 (l'.getD j default).At.Z (l'.getD i default).At.Z) = true ∧ R .f32 (fsub .f32 (l'.getD j default).At.Z (l'.getD i default).At.Z) = R .f32 (l.getD j default).At.Z - R .f32 (l.getD i default).At.Z
  m : ∀ j, j < l.length → (l'.getD j default).Mass = (l.getD j default).Mass

/-- The ways between the bodies of the list itself are exact. -/
theorem Base.way {l : List Body} {f : Nat → Int × Int × Int × Int} (h : Base l f) {i j : Nat} (hi : i < l.length) (hj : j < l.length) :
    Qt (wayV l (l.getD i default).At j).X ((f j).1 - (f i).1) ∧ Qt (wayV l (l.getD i default).At j).Y ((f j).2.1 - (f i).2.1) ∧ Qt (wayV l (l.getD i default).At j).Z ((f j).2.2.1 - (f i).2.2.1) := by
  have a := h.each i hi
  have b := h.each j hj
  have a1 := a.y4
  have a2 := a.z4
  have b1 := b.y4
  have b2 := b.z4
  have c1 := h.lo i hi
  have c2 := h.lo j hj
  refine ⟨?_, ?_, ?_⟩
  · exact b.x.sub a.x (by omega)
  · exact b.y.sub a.y (by omega)
  · exact b.z.sub a.z (by omega)

theorem Base.far {l : List Body} {f : Nat → Int × Int × Int × Int} (h : Base l f) {i j : Nat} (hi : i < l.length) (hj : j < l.length) (hij : (j : Int) ≠ (i : Int)) :
    (4 ≤ (f j).1 - (f i).1 ∨ (f j).1 - (f i).1 ≤ -4) ∧ (f j).1 - (f i).1 ≤ 44 ∧ -44 ≤ (f j).1 - (f i).1 := by
  have c1 := h.lo i hi
  have c2 := h.lo j hj
  refine ⟨?_, by omega, by omega⟩
  rcases Nat.lt_or_gt_of_ne (show j ≠ i from fun e => hij (by rw [e])) with g | g
  · have := h.up j i g hi; omega
  · have := h.up i j g hj; omega

/-- What is known of the way between two bodies of the list. -/
theorem Base.nums {l : List Body} {f : Nat → Int × Int × Int × Int} (h : Base l f) {i j : Nat} (hi : i < l.length) (hj : j < l.length) (hij : (j : Int) ≠ (i : Int)) :
    Bd (R .f32 (wayV l (l.getD i default).At j).X) 11 ∧ Bd (R .f32 (wayV l (l.getD i default).At j).Y) 2 ∧ Bd (R .f32 (wayV l (l.getD i default).At j).Z) 2 ∧ 1 ≤ R .f32 (wayV l (l.getD i default).At j).X * R .f32 (wayV l (l.getD i default).At j).X := by
  obtain ⟨q1, q2, q3⟩ := h.way hi hj
  obtain ⟨g1, g2, g3⟩ := h.far hi hj hij
  have a1 := (h.each i hi).y4
  have a2 := (h.each i hi).z4
  have b1 := (h.each j hj).y4
  have b2 := (h.each j hj).z4
  rw [q1.R, q2.R, q3.R]
  refine ⟨(quarter_bd (M := 44) g2 g3).mono (by decide +kernel), (quarter_bd (M := 8) (by omega) (by omega)).mono (by decide +kernel), (quarter_bd (M := 8) (by omega) (by omega)).mono (by decide +kernel), ?_⟩
  rcases g1 with g | g
  · have : ((4 : Int) : Rat) ≤ (((f j).1 - (f i).1 : Int) : Rat) := by exact_mod_cast g
    have h4 : ((4 : Int) : Rat) = 4 := rfl
    rw [h4] at this
    have := sq_le (a := 1) (by decide +kernel) (show (1 : Rat) ≤ (((f j).1 - (f i).1 : Int) : Rat) / 4 by grind)
    grind
  · have : (((f j).1 - (f i).1 : Int) : Rat) ≤ ((-4 : Int) : Rat) := by exact_mod_cast g
    have h4 : ((-4 : Int) : Rat) = -4 := rfl
    rw [h4] at this
    have := sq_le (a := 1) (by decide +kernel) (show (1 : Rat) ≤ -((((f j).1 - (f i).1 : Int) : Rat) / 4) by grind)
    grind

theorem Base.mass {l : List Body} {f : Nat → Int × Int × Int × Int} (h : Base l f) {j : Nat} (hj : j < l.length) : isNum .f32 (l.getD j default).Mass = true ∧ 1 / 4 ≤ R .f32 (l.getD j default).Mass ∧ R .f32 (l.getD j default).Mass ≤ 2 := by
  have a := h.each j hj
  have b1 : ((1 : Int) : Rat) ≤ ((f j).2.2.2 : Rat) := by exact_mod_cast a.m1
  have b2 : ((f j).2.2.2 : Rat) ≤ ((8 : Int) : Rat) := by exact_mod_cast a.m8
  have c1 : ((1 : Int) : Rat) = 1 := rfl
  have c2 : ((8 : Int) : Rat) = 8 := rfl
  rw [a.w.R]
  refine ⟨a.w.num, by grind, by grind⟩

theorem Base.pull {l : List Body} {f : Nat → Int × Int × Int × Int} (h : Base l f) : AllP l := by
  intro i hi j hj hij
  obtain ⟨q1, q2, q3⟩ := h.way hi hj
  obtain ⟨b1, b2, b3, b4⟩ := h.nums hi hj hij
  obtain ⟨m1, m2, m3⟩ := h.mass hj
  have s1 := sq_bd b1
  have s2 := sq_bd b2
  have s3 := sq_bd b3
  exact ⟨q1.num, q2.num, q3.num, by grind, m1, m2, m3⟩

/-- The ways between the bodies of a near list. -/
theorem Img.way {l l' : List Body} {f : Nat → Int × Int × Int × Int} {C S u v : Rat} (h : Base l f) (g : Img l l' C S u v) (hC : Bd C 1) (hS : Bd S 1) {i j : Nat} (hi : i < l.length) (hj : j < l.length) (hij : (j : Int) ≠ (i : Int)) :
    isNum .f32 (wayV l' (l'.getD i default).At j).X = true ∧ isNum .f32 (wayV l' (l'.getD i default).At j).Y = true ∧ isNum .f32 (wayV l' (l'.getD i default).At j).Z = true ∧
    Nr (R .f32 (wayV l' (l'.getD i default).At j).X) (C * R .f32 (wayV l (l.getD i default).At j).X - S * R .f32 (wayV l (l.getD i default).At j).Y) (31 / 10000000) ∧
    Nr (R .f32 (wayV l' (l'.getD i default).At j).Y) (S * R .f32 (wayV l (l.getD i default).At j).X + C * R .f32 (wayV l (l.getD i default).At j).Y) (31 / 10000000) ∧
    R .f32 (wayV l' (l'.getD i default).At j).Z = R .f32 (wayV l (l.getD i default).At j).Z := by
  obtain ⟨q1, q2, q3⟩ := h.way hi hj
  obtain ⟨b1, b2, b3, b4⟩ := h.nums hi hj hij
  have hT := T_pos
  have hT1 := T_le
  have hG := Gr_ge
  obtain ⟨x1, x2⟩ := g.x i hi
  obtain ⟨x3, x4⟩ := g.x j hj
  obtain ⟨y1, y2⟩ := g.y i hi
  obtain ⟨y3, y4⟩ := g.y j hj
  obtain ⟨z1, z2⟩ := g.z i j hi hj
  have a := h.each i hi
  have b := h.each j hj
  have ex : R .f32 (wayV l (l.getD i default).At j).X = R .f32 (l.getD j default).At.X - R .f32 (l.getD i default).At.X := by
    rw [q1.R, b.x.R, a.x.R]; push_cast; grind
  have ey : R .f32 (wayV l (l.getD i default).At j).Y = R .f32 (l.getD j default).At.Y - R .f32 (l.getD i default).At.Y := by
    rw [q2.R, b.y.R, a.y.R]; push_cast; grind
  have ez : R .f32 (wayV l (l.getD i default).At j).Z = R .f32 (l.getD j default).At.Z - R .f32 (l.getD i default).At.Z := by
    rw [q3.R, b.z.R, a.z.R]; push_cast; grind
  have p1 := hC.mul b1
  have p2 := hS.mul b2
  have p3 := hS.mul b1
  have p4 := hC.mul b2
  have ix : Nr (R .f32 (l'.getD j default).At.X - R .f32 (l'.getD i default).At.X) (C * R .f32 (wayV l (l.getD i default).At j).X - S * R .f32 (wayV l (l.getD i default).At j).Y) (20 / 10000000) := by
    rw [ex, ey]
    unfold Nr at x2 x4 ⊢
    constructor <;> grind
  have iy : Nr (R .f32 (l'.getD j default).At.Y - R .f32 (l'.getD i default).At.Y) (S * R .f32 (wayV l (l.getD i default).At j).X + C * R .f32 (wayV l (l.getD i default).At j).Y) (20 / 10000000) := by
    rw [ex, ey]
    unfold Nr at y2 y4 ⊢
    constructor <;> grind
  have bx : Bd (R .f32 (l'.getD j default).At.X - R .f32 (l'.getD i default).At.X) 14 := by
    unfold Nr at ix; unfold Bd at p1 p2 ⊢
    constructor <;> grind
  have by' : Bd (R .f32 (l'.getD j default).At.Y - R .f32 (l'.getD i default).At.Y) 14 := by
    unfold Nr at iy; unfold Bd at p3 p4 ⊢
    constructor <;> grind
  have fx := fsub_fl x3 x1 (bx.mono (by grind))
  have fy := fsub_fl y3 y1 (by'.mono (by grind))
  refine ⟨fx.1, fy.1, z1, ?_, ?_, by rw [ez]; exact z2⟩
  · exact ((fx.err bx).trans ix).mono (by grind)
  · exact ((fy.err by').trans iy).mono (by grind)

theorem Img.pull {l l' : List Body} {f : Nat → Int × Int × Int × Int} {C S u v : Rat} (h : Base l f) (g : Img l l' C S u v) (hC : Bd C 1) (hS : Bd S 1) : AllP l' := by
  intro i hi j hj hij
  rw [g.len] at hi hj
  obtain ⟨w1, w2, w3, w4, w5, w6⟩ := g.way h hC hS hi hj hij
  obtain ⟨b1, b2, b3, b4⟩ := h.nums hi hj hij
  obtain ⟨m1, m2, m3⟩ := h.mass hj
  have p1 := hC.mul b1
  have p2 := hS.mul b2
  have p3 := hS.mul b1
  have p4 := hC.mul b2
  have bx : Bd (R .f32 (wayV l' (l'.getD i default).At j).X) 14 := by
    unfold Nr at w4; unfold Bd at p1 p2 ⊢
    constructor <;> grind
  have by' : Bd (R .f32 (wayV l' (l'.getD i default).At j).Y) 14 := by
    unfold Nr at w5; unfold Bd at p3 p4 ⊢
    constructor <;> grind
  have s1 := sq_bd bx
  have s2 := sq_bd by'
  have s3 := sq_bd b3
  refine ⟨w1, w2, w3, ?_, ?_, ?_, ?_⟩
  · rw [w6]; grind
  all_goals rw [g.m j hj]; assumption

/-- A term of a near list's pull. -/
theorem Img.term {l l' : List Body} {f : Nat → Int × Int × Int × Int} {C S u v : Rat} (h : Base l f) (g : Img l l' C S u v) (hC : Bd C 1) (hS : Bd S 1) (hk : Nr (C * C + S * S) 1 (1 / 4000000)) {i j : Nat} (hi : i < l.length) (hj : j < l.length) :
    Nr (termV l' (l'.getD i default).At i Vec.X j) (C * termV l (l.getD i default).At i Vec.X j - S * termV l (l.getD i default).At i Vec.Y j) (9 / 100000) ∧
    Nr (termV l' (l'.getD i default).At i Vec.Y j) (S * termV l (l.getD i default).At i Vec.X j + C * termV l (l.getD i default).At i Vec.Y j) (9 / 100000) ∧
    Nr (termV l' (l'.getD i default).At i Vec.Z j) (termV l (l.getD i default).At i Vec.Z j) (9 / 100000) := by
  unfold termV
  by_cases hij : (j : Int) = (i : Int)
  · simp only [if_pos hij]
    refine ⟨?_, ?_, ?_⟩ <;> unfold Nr <;> constructor <;> grind
  · simp only [if_neg hij]
    obtain ⟨w1, w2, w3, w4, w5, w6⟩ := g.way h hC hS hi hj hij
    obtain ⟨b1, b2, b3, b4⟩ := h.nums hi hj hij
    obtain ⟨m1, m2, m3⟩ := h.mass hj
    have hp := h.pull i hi j hj hij
    have hp' := g.pull h hC hS i (by rw [g.len]; exact hi) j (by rw [g.len]; exact hj) hij
    obtain ⟨_, _, _, _, _, pf⟩ := hp.pair
    obtain ⟨_, _, _, _, _, pf'⟩ := hp'.pair
    rw [g.m j hj] at pf' ⊢
    unfold sqV at pf pf'
    rw [w6] at pf' ⊢
    have sy := sq_nonneg (R .f32 (wayV l (l.getD i default).At j).Y)
    have sz := sq_nonneg (R .f32 (wayV l (l.getD i default).At j).Z)
    exact share_near w4 w5 hk (by grind) m3 pf pf'

theorem tsum_near {F F' G : Nat → Rat} {C S e : Rat} : ∀ n : Nat, (∀ j, j < n → Nr (F' j) (C * F j + S * G j) e) → Nr (tsum F' n) (C * tsum F n + S * tsum G n) ((n : Rat) * e)
  | 0, _ => by unfold Nr tsum; constructor <;> simp <;> grind
  | n + 1, h => by
    have h1 := tsum_near n fun j hj => h j (by omega)
    have h2 := h n (by omega)
    unfold Nr at h1 h2 ⊢
    simp only [tsum]
    push_cast
    constructor <;> grind

/-- The pulls of a near list are near to the turned pulls. -/
theorem Img.pulls {l l' : List Body} {f : Nat → Int × Int × Int × Int} {C S u v : Rat} (h : Base l f) (g : Img l l' C S u v) (hC : Bd C 1) (hS : Bd S 1) (hk : Nr (C * C + S * S) 1 (1 / 4000000)) {i : Nat} (hi : i < l.length) :
    Nr (R .f32 (pullV l' i).X) (C * R .f32 (pullV l i).X - S * R .f32 (pullV l i).Y) (51 / 100000) ∧
    Nr (R .f32 (pullV l' i).Y) (S * R .f32 (pullV l i).X + C * R .f32 (pullV l i).Y) (51 / 100000) ∧
    Nr (R .f32 (pullV l' i).Z) (R .f32 (pullV l i).Z) (51 / 100000) := by
  have n4 := h.n4
  obtain ⟨_, a1, a2, a3⟩ := pullV_ok n4 h.pull hi
  obtain ⟨_, b1, b2, b3⟩ := pullV_ok (l := l') (by rw [g.len]; exact n4) (g.pull h hC hS) (i := i) (by rw [g.len]; exact hi)
  rw [g.len] at b1 b2 b3
  have t1 := tsum_near (C := C) (S := -S) l.length fun j hj => show Nr (termV l' (l'.getD i default).At i Vec.X j) (C * termV l (l.getD i default).At i Vec.X j + -S * termV l (l.getD i default).At i Vec.Y j) (9 / 100000) by
    have := (g.term h hC hS hk hi hj).1
    unfold Nr at this ⊢
    constructor <;> grind
  have t2 := tsum_near (C := S) (S := C) l.length fun j hj => (g.term h hC hS hk hi hj).2.1
  have t3 := tsum_near (C := 1) (S := 0) (G := fun _ => 0) l.length fun j hj => show Nr (termV l' (l'.getD i default).At i Vec.Z j) (1 * termV l (l.getD i default).At i Vec.Z j + 0 * 0) (9 / 100000) by
    have := (g.term h hC hS hk hi hj).2.2
    unfold Nr at this ⊢
    constructor <;> grind
  have hn : (l.length : Rat) ≤ 4 := by exact_mod_cast n4
  obtain ⟨_, a1, _⟩ := a1
  obtain ⟨_, a2, _⟩ := a2
  obtain ⟨_, a3, _⟩ := a3
  obtain ⟨_, b1, _⟩ := b1
  obtain ⟨_, b2, _⟩ := b2
  obtain ⟨_, b3, _⟩ := b3
  generalize (l.length : Rat) = n at *
  have c1 := hC.mul (b := R .f32 (pullV l i).X - tsum (termV l (l.getD i default).At i Vec.X) l.length) a1
  have c2 := hS.mul (b := R .f32 (pullV l i).Y - tsum (termV l (l.getD i default).At i Vec.Y) l.length) a2
  have c3 := hS.mul (b := R .f32 (pullV l i).X - tsum (termV l (l.getD i default).At i Vec.X) l.length) a1
  have c4 := hC.mul (b := R .f32 (pullV l i).Y - tsum (termV l (l.getD i default).At i Vec.Y) l.length) a2
  generalize tsum (termV l (l.getD i default).At i Vec.X) l.length = X at *
  generalize tsum (termV l (l.getD i default).At i Vec.Y) l.length = Y at *
  generalize tsum (termV l (l.getD i default).At i Vec.Z) l.length = Z at *
  generalize tsum (termV l' (l'.getD i default).At i Vec.X) l.length = X' at *
  generalize tsum (termV l' (l'.getD i default).At i Vec.Y) l.length = Y' at *
  generalize tsum (termV l' (l'.getD i default).At i Vec.Z) l.length = Z' at *
  refine ⟨?_, ?_, ?_⟩
  · unfold Nr at *; unfold Bd at *
    constructor <;> grind
  · unfold Nr at *; unfold Bd at *
    constructor <;> grind
  · unfold Nr at *
    constructor <;> grind

end Go.Proofs.Ytkmcgfjhjfiomaa
