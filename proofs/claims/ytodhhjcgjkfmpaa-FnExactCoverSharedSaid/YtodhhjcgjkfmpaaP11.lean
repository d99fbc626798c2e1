/- Plain law, part 11: places and rises on a ball; marks of a grid. -/
import Derived.Test.YtodhhjcgjkfmpaaP10
namespace Go.Proofs.Ytodhhjcgjkfmpaa
set_option linter.unusedVariables false
set_option linter.unusedSimpArgs false
set_option exponentiation.threshold 3000
open Ieee

/-! ## What is no number stays none -/

theorem inf_bad (k : FloatKind) (s : Bool) : isNum k (canon k (k.format.write (.infinity s))) = false := by
  cases k <;> cases s <;> decide +kernel
theorem qnan_bad (k : FloatKind) : isNum k (qnan k) = false := by
  cases k <;> decide +kernel

theorem fopt_bad {k : FloatKind} {o : Option Datum} (h : ∀ d, o = some d → ∃ s, d = .infinity s) : isNum k (fopt k (o.map k.format.write)) = false := by
  cases o with
  | none => exact qnan_bad k
  | some d =>
    obtain ⟨s, rfl⟩ := h d rfl
    exact inf_bad k s

theorem not_num {k : FloatKind} {x : Nat} (h : isNum k x = false) : (∃ s, k.format.read x = .infinity s) ∨ ∃ s t, k.format.read x = .nan s t := by
  rcases kinds k x with ⟨s, m, p, hd, h1, h2⟩ | ⟨s, hd, h1, h2⟩ | ⟨s, t, hd, h1, h2⟩
  · rw [h1] at h; cases h
  · exact .inl ⟨s, hd⟩
  · exact .inr ⟨s, t, hd⟩

theorem product_bad {a b d : Datum} (h : (∃ s, a = .infinity s) ∨ ∃ s t, a = .nan s t) (hd : a.product b = some d) : ∃ s, d = .infinity s := by
  rcases h with ⟨s, rfl⟩ | ⟨s, t, rfl⟩
  · cases b with
    | nan u v => simp [Datum.product] at hd
    | infinity u =>
      simp only [Datum.product, Option.some.injEq] at hd
      exact ⟨_, hd.symm⟩
    | number u m p =>
      simp only [Datum.product] at hd
      split at hd
      · cases hd
      · cases hd
        exact ⟨_, rfl⟩
  · cases b <;> simp [Datum.product] at hd

theorem sum_bad {a b d : Datum} (h : (∃ s, a = .infinity s) ∨ ∃ s t, a = .nan s t) : (a.sum b = some d → ∃ s, d = .infinity s) ∧ (b.sum a = some d → ∃ s, d = .infinity s) := by
  rcases h with ⟨s, rfl⟩ | ⟨s, t, rfl⟩
  · constructor
    · intro hd
      cases b with
      | nan u v => simp [Datum.sum] at hd
      | infinity u =>
        simp only [Datum.sum] at hd
        split at hd
        · cases hd
          exact ⟨_, rfl⟩
        · cases hd
      | number u m p =>
        simp only [Datum.sum, Option.some.injEq] at hd
        exact ⟨_, hd.symm⟩
    · intro hd
      cases b with
      | nan u v => simp [Datum.sum] at hd
      | infinity u =>
        simp only [Datum.sum] at hd
        split at hd
        · cases hd
          exact ⟨_, rfl⟩
        · cases hd
      | number u m p =>
        simp only [Datum.sum, Option.some.injEq] at hd
        exact ⟨_, hd.symm⟩
  · constructor <;> intro hd <;> cases b <;> simp [Datum.sum] at hd

theorem quotient_bad {g : Nat} {a b d : Datum} (h : (∃ s, a = .infinity s) ∨ ∃ s t, a = .nan s t) (hd : a.quotient g b = some d) : ∃ s, d = .infinity s := by
  rcases h with ⟨s, rfl⟩ | ⟨s, t, rfl⟩
  · cases b with
    | nan u v => simp [Datum.quotient] at hd
    | infinity u => simp [Datum.quotient] at hd
    | number u m p =>
      simp only [Datum.quotient, Option.some.injEq] at hd
      exact ⟨_, hd.symm⟩
  · cases b <;> simp [Datum.quotient] at hd

theorem fmul_bad {k : FloatKind} {x y : Nat} (h : isNum k x = false) : isNum k (fmul k x y) = false :=
  fopt_bad (o := (k.format.read x).product (k.format.read y)) (fun d hd => product_bad (not_num h) hd)
theorem fadd_bad {k : FloatKind} {x y : Nat} (h : isNum k x = false) : isNum k (fadd k x y) = false ∧ isNum k (fadd k y x) = false :=
  ⟨fopt_bad (o := (k.format.read x).sum (k.format.read y)) (fun d hd => (sum_bad (not_num h)).1 hd), fopt_bad (o := (k.format.read y).sum (k.format.read x)) (fun d hd => (sum_bad (not_num h)).2 hd)⟩
theorem fdiv_bad {k : FloatKind} {x y : Nat} (h : isNum k x = false) : isNum k (fdiv k x y) = false :=
  fopt_bad (o := (k.format.read x).quotient (k.format.fractionBits + 2) (k.format.read y)) (fun d hd => quotient_bad (not_num h) hd)

theorem inner_bad {a b : Vec} (h : finV a = false) : isNum .f32 (spec_l01VInner a b) = false := by
  have e : spec_l01VInner a b = fadd .f32 (fadd .f32 (fmul .f32 a.X b.X) (fmul .f32 a.Y b.Y)) (fmul .f32 a.Z b.Z) := rfl
  rw [e]
  unfold finV at h
  cases hx : isNum .f32 a.X with
  | false => exact (fadd_bad (fadd_bad (fmul_bad hx)).1).1
  | true =>
    cases hy : isNum .f32 a.Y with
    | false => exact (fadd_bad (fadd_bad (fmul_bad hy)).2).1
    | true =>
      rw [hx, hy] at h
      exact (fadd_bad (fmul_bad h)).2

/-! ## Places -/

theorem cosine_same (x : Nat) : impl_cos_need x = true ∧ spec_l06Cosine_need x = true ∧ impl_cos x = spec_l06Cosine x := by
  have h1 : impl_cos x = (DT.need (impl_SineTurns_need (fadd .f32 x 1048576000)) (.leaf (impl_SineTurns (fadd .f32 x 1048576000)))).val := rfl
  have h2 : impl_cos_need x = (DT.need (impl_SineTurns_need (fadd .f32 x 1048576000)) (.leaf (impl_SineTurns (fadd .f32 x 1048576000)))).ok := rfl
  have h3 : spec_l06Cosine x = (DT.need (spec_l01Sine_need (fadd .f32 x 1048576000)) (.leaf (spec_l01Sine (fadd .f32 x 1048576000)))).val := rfl
  have h4 : spec_l06Cosine_need x = (DT.need (spec_l01Sine_need (fadd .f32 x 1048576000)) (.leaf (spec_l01Sine (fadd .f32 x 1048576000)))).ok := rfl
  rw [h1.trans (val_nl3 _ _), h2.trans (ok_nl3 _ _), h3.trans (val_nl3 _ _), h4.trans (ok_nl3 _ _)]
  exact sine_same _

/-- The place of a mark, in plain words. -/
def placeP (b : Ball) (m : Mark) (t : Nat) : Vec :=
  let h := fadd .f32 b.Radius m.High
  let r := fmul .f32 h (spec_l06Cosine m.North)
  let e := fadd .f32 m.East (spec_l06Face b t)
  ⟨fmul .f32 r (spec_l06Cosine e), fmul .f32 r (spec_l01Sine e), fmul .f32 h (spec_l01Sine m.North)⟩

theorem ok_n4 {α : Type} [Inhabited α] (a b c d : Bool) (x : α) (ha : a = true) (hb : b = true) (hc : c = true) (hd : d = true) : (DT.need a (.need b (.need c (.need d (.leaf x))))).ok = true := by subst ha hb hc hd; rfl
theorem val_n4 {α : Type} [Inhabited α] (a b c d : Bool) (x : α) : (DT.need a (.need b (.need c (.need d (.leaf x))))).val = x := rfl

theorem place_impl (b : Ball) (m : Mark) (t : Nat) : impl_Ball_place_need b m t = true ∧ impl_Ball_place b m t = placeP b m t := by
  obtain ⟨ma, ra, sp, st⟩ := b
  obtain ⟨n, e, hi⟩ := m
  unfold impl_Ball_place_need impl_Ball_place impl_Ball_place_tree placeP
  simp only [(cosine_same _).1, (cosine_same _).2.2, (sine_same _).1, (sine_same _).2.2, face_same]
  generalize spec_l06Face ⟨ma, ra, sp, st⟩ t = F
  generalize spec_l06Cosine n = c1
  generalize spec_l06Cosine (fadd .f32 e F) = c2
  generalize spec_l01Sine (fadd .f32 e F) = s2
  generalize spec_l01Sine n = s1
  exact ⟨ok_n4 _ _ _ _ _ rfl rfl rfl rfl, val_n4 _ _ _ _ _⟩

theorem place_spec (b : Ball) (m : Mark) (t : Nat) : spec_l06Place_need b m t = true ∧ spec_l06Place b m t = match finV (placeP b m t) with
    | true => (placeP b m t, true)
    | false => (⟨0, 0, 0⟩, false) := by
  obtain ⟨ma, ra, sp, st⟩ := b
  obtain ⟨n, e, hi⟩ := m
  have hv : ∀ v : Vec, spec_l02Vector v = match finV v with
    | true => (v, true)
    | false => (⟨0, 0, 0⟩, false) := fun v => by
    unfold spec_l02Vector spec_l02Vector_tree
    simp only [l01VFinite_eq]
    cases hq : finV v <;> simp only [DT.val, Bool.not_false, Bool.not_true]
  unfold spec_l06Place_need spec_l06Place spec_l06Place_tree placeP
  simp only [(cosine_same _).2.1, (sine_same _).2.1]
  generalize spec_l06Face ⟨ma, ra, sp, st⟩ t = F
  generalize spec_l06Cosine n = c1
  generalize spec_l06Cosine (fadd .f32 e F) = c2
  generalize spec_l01Sine (fadd .f32 e F) = s2
  generalize spec_l01Sine n = s1
  generalize (⟨fmul .f32 (fmul .f32 (fadd .f32 ra hi) c1) c2, fmul .f32 (fmul .f32 (fadd .f32 ra hi) c1) s2, fmul .f32 (fadd .f32 ra hi) s1⟩ : Vec) = P
  refine ⟨ok_n4 _ _ _ _ _ rfl rfl rfl rfl, (val_n4 _ _ _ _ _).trans ?_⟩
  exact hv P

/-! ## Rises -/

/-- The sine of a rise, in plain words. -/
def riseP (P v : Vec) : Nat := fdiv .f32 (spec_l01VInner P (spec_l01VLess v P)) (fmul .f32 (spec_l01VLong P) (spec_l01VLong (spec_l01VLess v P)))

def numP (x : Nat) : Nat × Bool := match isNum .f32 x with
  | true => (x, true)
  | false => (0, false)

theorem told_eq (x : Nat) : impl_told_need x = true ∧ impl_told x = numP x := by
  unfold impl_told_need impl_told impl_told_tree numP
  simp only [IsFinite_need, IsFinite_eq]
  cases isNum .f32 x <;> simp only [DT.ok, DT.val, Bool.not_false, Bool.not_true] <;> exact ⟨trivial, trivial⟩

theorem number_eq (x : Nat) : spec_l02Number x = numP x := by
  unfold spec_l02Number spec_l02Number_tree numP
  simp only [l01Finite_eq]
  cases isNum .f32 x <;> simp only [DT.val, Bool.not_false, Bool.not_true]

theorem LessV3 (a b : Vec) : impl_LessVectors a b = spec_l01VLess a b := rfl

theorem rise_impl (b : Ball) (m : Mark) (v : Vec) (t : Nat) : impl_Ball_rise_need b m v t = true ∧ impl_Ball_rise b m v t = riseP (placeP b m t) v := by
  obtain ⟨p1, p2⟩ := place_impl b m t
  have e : impl_Ball_rise_tree b m v t = .need (impl_Ball_place_need b m t) (.need (impl_SizeOfVector_need (impl_Ball_place b m t)) (.need (impl_SizeOfVector_need (impl_LessVectors v (impl_Ball_place b m t))) (.leaf (fdiv .f32 (impl_InnerOf (impl_Ball_place b m t) (impl_LessVectors v (impl_Ball_place b m t))) (fmul .f32 (impl_SizeOfVector (impl_Ball_place b m t)) (impl_SizeOfVector (impl_LessVectors v (impl_Ball_place b m t)))))))) := rfl
  have v1 : impl_Ball_rise_need b m v t = (impl_Ball_rise_tree b m v t).ok := rfl
  have v2 : impl_Ball_rise b m v t = (impl_Ball_rise_tree b m v t).val := rfl
  rw [v1, v2, e]
  refine ⟨ok_nnn _ _ _ _ p1 (size3_same _).1 (size3_same _).1, (val_nnn _ _ _ _).trans ?_⟩
  unfold riseP
  rw [p2, InnerV3, LessV3, (size3_same _).2.2, (size3_same _).2.2]

theorem rise_spec (b : Ball) (m : Mark) (v : Vec) (t : Nat) : spec_l06Rise_need b m v t = true ∧ spec_l06Rise b m v t = numP (riseP (placeP b m t) v) := by
  obtain ⟨p1, p2⟩ := place_spec b m t
  have e : spec_l06Rise_tree b m v t = .need (spec_l06Place_need b m t) (.ask (!(spec_l06Place b m t).2) (.leaf (0, false)) (.need (spec_l01VLong_need (spec_l06Place b m t).1) (.need (spec_l01VLong_need (spec_l01VLess v (spec_l06Place b m t).1)) (.leaf (spec_l02Number (riseP (spec_l06Place b m t).1 v)))))) := rfl
  have v1 : spec_l06Rise_need b m v t = (spec_l06Rise_tree b m v t).ok := rfl
  have v2 : spec_l06Rise b m v t = (spec_l06Rise_tree b m v t).val := rfl
  rw [v1, v2, e, p1, (size3_same _).2.1, (size3_same _).2.1, number_eq, p2]
  cases hf : finV (placeP b m t) with
  | true => exact ⟨rfl, rfl⟩
  | false =>
    refine ⟨rfl, ?_⟩
    have hb : isNum .f32 (riseP (placeP b m t) v) = false := fdiv_bad (inner_bad hf)
    unfold numP
    rw [hb]
    rfl

theorem riseAt_same (b : Ball) (m : Mark) (v : Vec) (t : Nat) (hb : spec_l06Ball b = true) (hm : spec_l06Mark m = true) (hv : finV v = true) (ht : isNum .f32 t = true) : impl_RiseAt_need b m v t = true ∧ impl_RiseAt b m v t = numP (riseP (placeP b m t) v) := by
  obtain ⟨r1, r2⟩ := rise_impl b m v t
  obtain ⟨ma, ra, sp, st⟩ := b
  obtain ⟨n, e, hi⟩ := m
  obtain ⟨X, Y, Z⟩ := v
  unfold impl_RiseAt_need impl_RiseAt impl_RiseAt_tree
  simp only [(ValidBall_eq _).1, (ValidBall_eq _).2, (ValidMark_eq _).1, (ValidMark_eq _).2, (isFiniteVector_eq _).1, (isFiniteVector_eq _).2, IsFinite_need, IsFinite_eq, hb, hm, hv, ht, r1, r2, (told_eq _).1, (told_eq _).2]
  generalize numP _ = w
  exact ⟨rfl, rfl⟩

/-! ## Grids -/

def northN (r R : Nat) : Nat := fsub .f32 (fdiv .f32 (fofInt .f32 (IntKind.wrap .i64 (IntKind.wrap .i64 (2 * ((r : Nat) : Int)) + 1))) (fofInt .f32 (IntKind.wrap .i64 (4 * ((R : Nat) : Int))))) 1048576000
def eastN (j c : Nat) : Nat := fsub .f32 (fdiv .f32 (fofInt .f32 (IntKind.wrap .i64 (IntKind.wrap .i64 (2 * ((j : Nat) : Int)) + 1))) (fofInt .f32 (IntKind.wrap .i64 (2 * ((c : Nat) : Int))))) 1056964608

theorem north_all : ((List.range 17).all fun R => (List.range R).all fun r => fge .f32 (northN r R) 3196059648 && fle .f32 (northN r R) 1048576000) = true := by decide +kernel
theorem east_all : ((List.range 17).all fun c => (List.range c).all fun j => fge .f32 (eastN j c) 3204448256 && flt .f32 (eastN j c) 1056964608) = true := by decide +kernel

theorem grid_eq (j r c R : Nat) : impl_gridMark j r c R = ⟨northN r R, eastN j c, 0⟩ := rfl

theorem grid_mark {j r c R : Nat} (hj : j < c) (hc : c ≤ 16) (hr : r < R) (hR : R ≤ 16) : spec_l06Mark (impl_gridMark j r c R) = true := by
  have h1 := List.all_eq_true.1 (List.all_eq_true.1 north_all R (List.mem_range.2 (by omega))) r (List.mem_range.2 hr)
  have h2 := List.all_eq_true.1 (List.all_eq_true.1 east_all c (List.mem_range.2 (by omega))) j (List.mem_range.2 hj)
  rw [Bool.and_eq_true] at h1 h2
  rw [grid_eq]
  generalize northN r R = n at *
  generalize eastN j c = e at *
  have h0 : spec_l01Finite 0 = true := by rw [l01Finite_eq]; decide +kernel
  unfold spec_l06Mark spec_l06Mark_tree
  simp only [DT.val, h1.1, h1.2, h2.1, h2.2, h0]

theorem spot_eq {i j r c R : Nat} (hj : j < c) (hc : c ≤ 16) (hr : r < R) (hR : R ≤ 16) (hi : i = r * c + j) : spec_l06Spot_need i c R = true ∧ spec_l06Spot i c R = impl_gridMark j r c R := by
  have hd : i / c = r := by
    rw [hi, Nat.mul_comm, Nat.mul_add_div (by omega), Nat.div_eq_of_lt hj, Nat.add_zero]
  have hm : i % c = j := by
    rw [hi, Nat.mul_comm, Nat.mul_add_mod, Nat.mod_eq_of_lt hj]
  have t1 : Int.tdiv ((i : Nat) : Int) ((c : Nat) : Int) = ((r : Nat) : Int) := by
    rw [← hd]; rfl
  have t2 : Int.tmod ((i : Nat) : Int) ((c : Nat) : Int) = ((j : Nat) : Int) := by
    rw [← hm]; rfl
  have hw : IntKind.wrap .i64 ((r : Nat) : Int) = ((r : Nat) : Int) := wrap_small (by omega) (by omega)
  have h0 : ((((c : Nat) : Int)) != 0) = true := bne_iff_ne.2 (by omega)
  rw [grid_eq]
  unfold spec_l06Spot_need spec_l06Spot spec_l06Spot_tree
  simp only [t1, t2, hw, h0]
  exact ⟨rfl, rfl⟩

end Go.Proofs.Ytodhhjcgjkfmpaa
