/- The sine of any number of turns: how it is folded; sine and cosine lie on the circle, nearly (numbers alone). -/
import Derived.Test.YtfbnehkbialkaaaGreatArc
namespace Go.Proofs.YtfbnehkbialkaaaGreat
set_option linter.unusedVariables false
set_option linter.unusedSimpArgs false

/-! ## Polynomials as lists -/

def ev : List Rat → Rat → Rat
  | [], _ => 0
  | a :: l, x => a + x * ev l x
def padd : List Rat → List Rat → List Rat
  | [], m => m
  | l, [] => l
  | a :: l, b :: m => (a + b) :: padd l m
def pscale (c : Rat) : List Rat → List Rat
  | [] => []
  | a :: l => (c * a) :: pscale c l
def pmul : List Rat → List Rat → List Rat
  | [], _ => []
  | a :: l, m => padd (pscale a m) (0 :: pmul l m)
/-- What is put in place of the unknown. -/
def pcomp (m : List Rat) : List Rat → List Rat
  | [] => []
  | a :: l => padd [a] (pmul m (pcomp m l))
def absR (a : Rat) : Rat := if a ≤ 0 then -a else a
/-- How great a polynomial is at most between -B and B. -/
def pbd (B : Rat) : List Rat → Rat
  | [] => 0
  | a :: l => absR a + B * pbd B l

theorem ev_add (x : Rat) : ∀ l m, ev (padd l m) x = ev l x + ev m x
  | [], m => by show ev m x = 0 + ev m x; grind
  | a :: l, [] => by show ev (a :: l) x = ev (a :: l) x + 0; grind
  | a :: l, b :: m => by
    show a + b + x * ev (padd l m) x = a + x * ev l x + (b + x * ev m x)
    rw [ev_add x l m]
    grind
theorem ev_scale (x c : Rat) : ∀ l, ev (pscale c l) x = c * ev l x
  | [] => by show 0 = c * 0; grind
  | a :: l => by
    show c * a + x * ev (pscale c l) x = c * (a + x * ev l x)
    rw [ev_scale x c l]
    grind
theorem ev_mul (x : Rat) : ∀ l m, ev (pmul l m) x = ev l x * ev m x
  | [], m => by show 0 = 0 * ev m x; grind
  | a :: l, m => by
    show ev (padd (pscale a m) (0 :: pmul l m)) x = (a + x * ev l x) * ev m x
    rw [ev_add, ev_scale]
    show a * ev m x + (0 + x * ev (pmul l m) x) = (a + x * ev l x) * ev m x
    rw [ev_mul x l m]
    grind
theorem ev_comp (x : Rat) (m : List Rat) : ∀ l, ev (pcomp m l) x = ev l (ev m x)
  | [] => rfl
  | a :: l => by
    show ev (padd [a] (pmul m (pcomp m l))) x = a + ev m x * ev l (ev m x)
    rw [ev_add, ev_mul, ev_comp x m l]
    show a + x * 0 + ev m x * ev l (ev m x) = a + ev m x * ev l (ev m x)
    grind
theorem abs_bd (a : Rat) : -absR a ≤ a ∧ a ≤ absR a := by
  unfold absR
  split <;> constructor <;> grind
theorem pbd_nn {B : Rat} (hB : 0 ≤ B) : ∀ l, 0 ≤ pbd B l
  | [] => Rat.le_refl
  | a :: l => by
    have h := abs_bd a
    have q := Rat.mul_nonneg hB (pbd_nn hB l)
    show 0 ≤ absR a + B * pbd B l
    grind
theorem ev_bd {B x : Rat} (hB : 0 ≤ B) (hx : Bd x B) : ∀ l, Bd (ev l x) (pbd B l)
  | [] => ⟨by show -(0 : Rat) ≤ 0; decide +kernel, by show (0 : Rat) ≤ 0; decide +kernel⟩
  | a :: l => by
    have h := abs_bd a
    have m := Bd.mul hx (ev_bd hB hx l)
    show Bd (a + x * ev l x) (absR a + B * pbd B l)
    unfold Bd at *
    constructor <;> grind

/-! ## The sine's polynomial -/

/-- One round: 1 less u p over c. -/
def rnd8 (u p c : Rat) : Rat := 1 - u * p / c
def polR (z : Rat) : Rat := z * rnd8 (z * z) (rnd8 (z * z) (rnd8 (z * z) (rnd8 (z * z) (rnd8 (z * z) (rnd8 (z * z) (rnd8 (z * z) (rnd8 (z * z) 1 272) 210) 156) 110) 72) 42) 20) 6
def rndL (p : List Rat) (c : Rat) : List Rat := padd [1] (pscale (-(1 / c)) (0 :: 0 :: p))
def polL : List Rat := 0 :: rndL (rndL (rndL (rndL (rndL (rndL (rndL (rndL [1] 272) 210) 156) 110) 72) 42) 20) 6

theorem ev_rnd {p : List Rat} {z c : Rat} : ev (rndL p c) z = rnd8 (z * z) (ev p z) c := by
  unfold rndL rnd8
  rw [ev_add, ev_scale]
  show 1 + z * 0 + -(1 / c) * (0 + z * (0 + z * ev p z)) = 1 - z * z * ev p z / c
  rw [Rat.div_def, Rat.div_def]
  grind

theorem ev_pol (z : Rat) : ev polL z = polR z := by
  unfold polL polR
  show 0 + z * ev (rndL _ 6) z = _
  rw [ev_rnd, ev_rnd, ev_rnd, ev_rnd, ev_rnd, ev_rnd, ev_rnd, ev_rnd]
  have e : ev [1] z = 1 := by show 1 + z * 0 = 1; grind
  rw [e]
  grind

/-- A quarter of a turn. -/
def qT : Rat := 15707963267948966 / 10000000000000000
def circL : List Rat := padd [-1] (padd (pmul polL polL) (pmul (pcomp [qT, -1] polL) (pcomp [qT, -1] polL)))
theorem circ_bd : pbd (15708 / 10000) circL ≤ 1 / 2000000 := by decide +kernel

theorem pol_circ {z : Rat} (h : Bd z (15708 / 10000)) : Nr (polR z * polR z + polR (qT - z) * polR (qT - z)) 1 (1 / 2000000) := by
  have b := (ev_bd (by decide +kernel) h circL).mono circ_bd
  have e : ev circL z = polR z * polR z + polR (qT - z) * polR (qT - z) - 1 := by
    unfold circL
    rw [ev_add, ev_add, ev_mul, ev_mul, ev_comp, ev_pol]
    have e2 : ev [qT, -1] z = qT - z := by
      show qT + z * (-1 + z * 0) = qT - z
      grind
    rw [e2, ev_pol]
    show -1 + z * 0 + _ = _
    grind
  rw [e] at b
  exact b

/-- The polynomial's slope. -/
def lipB (B : Rat) : List Rat → Rat
  | [] => 0
  | a :: l => pbd B l + B * lipB B l
theorem ev_lip {B z z' : Rat} (hB : 0 ≤ B) (h : Bd z B) (h' : Bd z' B) : ∀ l : List Rat, ∃ q : Rat, ev l z - ev l z' = (z - z') * q ∧ Bd q (lipB B l)
  | [] => ⟨0, by show (0 : Rat) - 0 = (z - z') * 0; grind, by show -(0 : Rat) ≤ 0; decide +kernel, by show (0 : Rat) ≤ 0; decide +kernel⟩
  | a :: l => by
    obtain ⟨q, q1, q2⟩ := ev_lip hB h h' l
    have b := ev_bd hB h' l
    have m := Bd.mul h q2
    refine ⟨ev l z' + z * q, ?_, ?_⟩
    · show a + z * ev l z - (a + z' * ev l z') = (z - z') * (ev l z' + z * q)
      have e : ev l z = ev l z' + (z - z') * q := by grind
      rw [e]
      grind
    · show Bd (ev l z' + z * q) (pbd B l + B * lipB B l)
      unfold Bd at *
      constructor <;> grind

theorem lip_bd : lipB (16 / 10) polL ≤ 3 := by decide +kernel
theorem pol_bd : pbd (16 / 10) polL ≤ 3 := by decide +kernel

theorem pol_lip {z z' e : Rat} (h : Bd z (16 / 10)) (h' : Bd z' (16 / 10)) (hn : Nr z z' e) : Nr (polR z) (polR z') (3 * e) := by
  obtain ⟨q, q1, q2⟩ := ev_lip (by decide +kernel) h h' polL
  rw [ev_pol, ev_pol] at q1
  have m := (Bd.mul hn (q2.mono lip_bd))
  rw [← q1] at m
  exact m.mono (by grind)

/-! ## The sine's polynomial in floats -/

theorem round8_near {u p n : Nat} {v P c : Rat} (hu : I .f64 u (some (-1 / 1000000, 25 / 10))) (nu : Nr (R .f64 u) v (1 / 100000000000000)) (hp : isNum .f64 p = true) (np : Nr (R .f64 p) P (1 / 10000000000000)) (bP : Bd P 2) (hc : I .f64 n (some (c, c))) (h6 : 6 ≤ c) (h3 : c ≤ 300) :
    isNum .f64 (round8 u p n) = true ∧ Nr (R .f64 (round8 u p n)) (rnd8 v P c) (1 / 10000000000000) ∧ Bd (rnd8 v P c) 2 := by
  have hT := T_le
  have hG := Gr_ge
  have bu : Bd (R .f64 u) (25 / 10) := by have := hu.2; unfold Bd; constructor <;> grind
  have bv : Bd v (251 / 100) := by unfold Nr Bd at *; constructor <;> grind
  have m := Nr.mul nu np bv (np.toBd bP)
  have bvP := Bd.mul bv bP
  have b1 : Bd (R .f64 u * R .f64 p) (51 / 10) := (m.toBd bvP).mono (by grind)
  have f1 := fmul_fl hu.1 hp (b1.mono (by grind))
  have e1 := f1.err64 b1
  have rc : R .f64 n = c := by have := hc.2; grind
  have hc0 : c ≠ 0 := by grind
  have X1 : R .f64 (fmul .f64 u p) * c⁻¹ * c = R .f64 (fmul .f64 u p) := by rw [Rat.mul_assoc, Rat.inv_mul_cancel _ hc0, Rat.mul_one]
  have i0 : 0 < c⁻¹ := Rat.inv_pos.2 (by grind)
  have i1 : c⁻¹ ≤ 17 / 100 := by
    rw [← Rat.not_lt]
    intro hl
    have q := Rat.mul_le_mul_of_nonneg_right (Rat.le_of_lt hl) (c := c) (by grind)
    rw [Rat.inv_mul_cancel _ hc0] at q
    grind
  have bi : Bd c⁻¹ (17 / 100) := by unfold Bd; constructor <;> grind
  have n1 : Nr (R .f64 (fmul .f64 u p)) (v * P) (3 / 10000000000000) := by unfold Nr at *; constructor <;> grind
  have b2 := Bd.mul (n1.toBd bvP) bi
  have b2' : Bd (R .f64 (fmul .f64 u p) * c⁻¹) 1 := b2.mono (by grind)
  obtain ⟨q1, q2⟩ := quot_fl f1.1 hc.1 (by rw [rc]; exact hc0) (by rw [rc]; exact X1) (b2'.mono (by grind))
  have q3 := q2 1 b2'
  have hU : U .f64 = 1 / 9007199254740992 := rfl
  rw [hU] at q3
  have n2 := Bd.mul (Nr.bd.1 n1) bi
  have e2 : (R .f64 (fmul .f64 u p) - v * P) * c⁻¹ = R .f64 (fmul .f64 u p) * c⁻¹ - v * P / c := by rw [Rat.div_def]; grind
  rw [e2] at n2
  have k1 := k_one.2
  have b3 : Bd (R .f64 4607182418800017408 - R .f64 (fdiv .f64 (fmul .f64 u p) n)) 3 := by unfold Nr Bd at *; constructor <;> grind
  have f3 := fsub_fl k_one.1 q1 (b3.mono (by grind))
  have e3 := f3.err64 b3
  have b4 : Bd (v * P / c) 1 := by
    have := Bd.mul bvP bi
    rw [Rat.div_def]
    exact this.mono (by grind)
  unfold round8 rnd8
  refine ⟨f3.1, ?_, ?_⟩
  · unfold Nr Bd at *; constructor <;> grind
  · unfold Bd at *; constructor <;> grind

theorem poly8_near {z : Nat} (h : I .f64 z (some (-1 / 1000000, 15708 / 10000))) : isNum .f64 (poly8 z) = true ∧ Nr (R .f64 (poly8 z)) (polR (R .f64 z)) (1 / 1000000000000) := by
  have hT := T_le
  have hG := Gr_ge
  have hu := (I.sq h).to (lo := -1 / 1000000) (hi := 25 / 10) (by decide +kernel)
  have bz : Bd (R .f64 z) (15708 / 10000) := by have := h.2; unfold Bd; constructor <;> grind
  have bzz : Bd (R .f64 z * R .f64 z) (25 / 10) := (Bd.mul bz bz).mono (by grind)
  have fu := fmul_fl h.1 h.1 (bzz.mono (by grind))
  have nu : Nr (R .f64 (fmul .f64 z z)) (R .f64 z * R .f64 z) (1 / 100000000000000) := (fu.err64 bzz).mono (by grind)
  have c1 : I .f64 (fofInt .f64 272) (some (272, 272)) := I.at (by decide +kernel)
  have c2 : I .f64 (fofInt .f64 210) (some (210, 210)) := I.at (by decide +kernel)
  have c3 : I .f64 (fofInt .f64 156) (some (156, 156)) := I.at (by decide +kernel)
  have c4 : I .f64 (fofInt .f64 110) (some (110, 110)) := I.at (by decide +kernel)
  have c5 : I .f64 (fofInt .f64 72) (some (72, 72)) := I.at (by decide +kernel)
  have c6 : I .f64 (fofInt .f64 42) (some (42, 42)) := I.at (by decide +kernel)
  have c7 : I .f64 (fofInt .f64 20) (some (20, 20)) := I.at (by decide +kernel)
  have c8 : I .f64 (fofInt .f64 6) (some (6, 6)) := I.at (by decide +kernel)
  have r1 : R .f64 4607182418800017408 = 1 := by have := k_one.2; grind
  obtain ⟨a1, n1, b1⟩ := round8_near hu nu k_one.1 (P := 1) (by rw [r1]; unfold Nr; constructor <;> grind) (by unfold Bd; constructor <;> decide +kernel) c1 (by decide +kernel) (by decide +kernel)
  obtain ⟨a2, n2, b2⟩ := round8_near hu nu a1 n1 b1 c2 (by decide +kernel) (by decide +kernel)
  obtain ⟨a3, n3, b3⟩ := round8_near hu nu a2 n2 b2 c3 (by decide +kernel) (by decide +kernel)
  obtain ⟨a4, n4, b4⟩ := round8_near hu nu a3 n3 b3 c4 (by decide +kernel) (by decide +kernel)
  obtain ⟨a5, n5, b5⟩ := round8_near hu nu a4 n4 b4 c5 (by decide +kernel) (by decide +kernel)
  obtain ⟨a6, n6, b6⟩ := round8_near hu nu a5 n5 b5 c6 (by decide +kernel) (by decide +kernel)
  obtain ⟨a7, n7, b7⟩ := round8_near hu nu a6 n6 b6 c7 (by decide +kernel) (by decide +kernel)
  obtain ⟨a8, n8, b8⟩ := round8_near hu nu a7 n7 b7 c8 (by decide +kernel) (by decide +kernel)
  unfold poly8 polR
  simp only
  generalize round8 (fmul .f64 z z) _ (fofInt .f64 6) = p at a8 n8 ⊢
  generalize rnd8 (R .f64 z * R .f64 z) _ 6 = P at n8 b8 ⊢
  have m := Bd.mul bz (Nr.bd.1 n8)
  have i : R .f64 z * (R .f64 p - P) = R .f64 z * R .f64 p - R .f64 z * P := by grind
  rw [i] at m
  have bp := (Bd.mul bz (n8.toBd b8)).mono (N := 4) (by grind)
  have f := fmul_fl h.1 a8 (bp.mono (by grind))
  have e := f.err64 bp
  exact ⟨f.1, by unfold Nr Bd at *; constructor <;> grind⟩

def tau : Rat := R .f64 4618760256179416344
theorem tau_bd : Nr tau (4 * qT) (1 / 1000000000000000) ∧ Bd tau (62832 / 10000) ∧ 62831 / 10000 ≤ tau := ⟨⟨by decide +kernel, by decide +kernel⟩, ⟨by decide +kernel, by decide +kernel⟩, by decide +kernel⟩

/-- How a part of a turn is folded. -/
def Fold (F g : Rat) (s : Bool) : Prop :=
  (s = false ∧ F ≤ 1 / 4 ∧ Nr g F (1 / 100000000000000)) ∨ (s = false ∧ 1 / 4 ≤ F ∧ F ≤ 1 / 2 ∧ Nr g (1 / 2 - F) (1 / 100000000000000)) ∨
  (s = true ∧ 1 / 2 ≤ F ∧ F ≤ 3 / 4 + 1 / 100000000000000 ∧ Nr g (F - 1 / 2) (1 / 100000000000000)) ∨ (s = true ∧ 3 / 4 - 1 / 100000000000000 ≤ F ∧ Nr g (1 - F) (1 / 100000000000000))

theorem pol_turn {g : Nat} (h : I .f64 g (some (-1 / 100000000000, 1 / 4 + 1 / 100000000000))) : isNum .f64 (poly8 (fmul .f64 g 4618760256179416344)) = true ∧ Nr (R .f64 (poly8 (fmul .f64 g 4618760256179416344))) (polR (tau * R .f64 g)) (2 / 1000000000000) := by
  have hT := T_le
  have hG := Gr_ge
  have bg : Bd (R .f64 g) (26 / 100) := by have := h.2; unfold Bd; constructor <;> grind
  obtain ⟨t1, t2, t3⟩ := tau_bd
  have hz := (I.mul h k_turn).to (lo := -1 / 1000000) (hi := 15708 / 10000) (by decide +kernel)
  have bm := (Bd.mul bg t2).mono (N := 17 / 10) (by grind)
  have f := fmul_fl h.1 k_turn.1 (bm.mono (by grind))
  have e := f.err64 bm
  obtain ⟨p1, p2⟩ := poly8_near hz
  have e2 : Nr (R .f64 (fmul .f64 g 4618760256179416344)) (tau * R .f64 g) (1 / 1000000000000000) := by
    have i : tau * R .f64 g = R .f64 g * R .f64 4618760256179416344 := by unfold tau; grind
    rw [i]
    exact e.mono (by grind)
  have l := pol_lip (by have := hz.2; unfold Bd; constructor <;> grind) (by
    have bm2 := Bd.mul t2 bg
    have a := e2
    have b := hz.2
    unfold Nr Bd at *
    constructor <;> grind) e2
  exact ⟨p1, (p2.trans l).mono (by grind)⟩

theorem sine_fold {f : Nat} (h : I .f64 f (some (-1 / 1000000000000, 1 + 1 / 1000000000000))) :
    isNum .f64 (sineOf f) = true ∧ ∃ (g : Rat) (s : Bool), Fold (R .f64 f) g s ∧ Bd g (251 / 1000) ∧ Nr (R .f64 (sineOf f)) (sgn s (polR (tau * g))) (2 / 1000000000000) := by
  have hT := T_le
  have hG := Gr_ge
  have kh := k_half.2
  have kq := k_quarter.2
  have h2 := h.2
  have neg : ∀ {v : Nat} {q : Rat}, isNum .f64 v = true → Nr (R .f64 v) q (2 / 1000000000000) → isNum .f64 (fneg .f64 v) = true ∧ Nr (R .f64 (fneg .f64 v)) (sgn true q) (2 / 1000000000000) := fun {v q} hv hn => by
    obtain ⟨n1, n2⟩ := R_neg hv
    refine ⟨n1, ?_⟩
    rw [n2]
    show Nr (-R .f64 v) (-q) _
    unfold Nr at *
    constructor <;> grind
  unfold sineOf
  cases h1 : fge .f64 f 4602678819172646912 with
  | true =>
    rw [fge_R h.1 k_half.1] at h1
    have h1 := of_decide_eq_true h1
    have b1 : Bd (R .f64 f - R .f64 4602678819172646912) (51 / 100) := by unfold Bd; constructor <;> grind
    have f1 := fsub_fl h.1 k_half.1 (b1.mono (by grind))
    have e1 := f1.err64 b1
    have g1 := f1.1
    simp only
    generalize fsub .f64 f 4602678819172646912 = d at *
    cases h3 : fgt .f64 d 4598175219545276416 with
    | true =>
      rw [fgt_R g1 k_quarter.1] at h3
      have h3 := of_decide_eq_true h3
      have b2 : Bd (R .f64 4602678819172646912 - R .f64 d) (26 / 100) := by unfold Nr at e1; unfold Bd; constructor <;> grind
      have f2 := fsub_fl k_half.1 g1 (b2.mono (by grind))
      have e2 := f2.err64 b2
      simp only
      generalize fsub .f64 4602678819172646912 d = w at *
      obtain ⟨p1, p2⟩ := pol_turn (g := w) ⟨f2.1, by unfold Nr at *; grind, by unfold Nr at *; grind⟩
      obtain ⟨n1, n2⟩ := neg p1 p2
      exact ⟨n1, R .f64 w, true, .inr (.inr (.inr ⟨rfl, by unfold Nr at *; grind, by unfold Nr at *; constructor <;> grind⟩)), by unfold Nr Bd at *; constructor <;> grind, n2⟩
    | false =>
      rw [fgt_R g1 k_quarter.1] at h3
      have h3 := of_decide_eq_false h3
      simp only
      obtain ⟨p1, p2⟩ := pol_turn (g := d) ⟨g1, by unfold Nr at *; grind, by grind⟩
      obtain ⟨n1, n2⟩ := neg p1 p2
      exact ⟨n1, R .f64 d, true, .inr (.inr (.inl ⟨rfl, by grind, by unfold Nr at *; grind, by unfold Nr at *; constructor <;> grind⟩)), by unfold Nr Bd at *; constructor <;> grind, n2⟩
  | false =>
    rw [fge_R h.1 k_half.1] at h1
    have h1 := of_decide_eq_false h1
    simp only
    cases h3 : fgt .f64 f 4598175219545276416 with
    | true =>
      rw [fgt_R h.1 k_quarter.1] at h3
      have h3 := of_decide_eq_true h3
      have b2 : Bd (R .f64 4602678819172646912 - R .f64 f) (26 / 100) := by unfold Bd; constructor <;> grind
      have f2 := fsub_fl k_half.1 h.1 (b2.mono (by grind))
      have e2 := f2.err64 b2
      simp only
      generalize fsub .f64 4602678819172646912 f = w at *
      obtain ⟨p1, p2⟩ := pol_turn (g := w) ⟨f2.1, by unfold Nr at *; grind, by unfold Nr at *; grind⟩
      exact ⟨p1, R .f64 w, false, .inr (.inl ⟨rfl, by grind, by grind, by unfold Nr at *; constructor <;> grind⟩), by unfold Nr Bd at *; constructor <;> grind, p2⟩
    | false =>
      rw [fgt_R h.1 k_quarter.1] at h3
      have h3 := of_decide_eq_false h3
      simp only
      obtain ⟨p1, p2⟩ := pol_turn (g := f) ⟨h.1, by grind, by grind⟩
      exact ⟨p1, R .f64 f, false, .inl ⟨rfl, by grind, by unfold Nr; constructor <;> grind⟩, by unfold Bd; constructor <;> grind, p2⟩

theorem fold_quarter {F F' g g' : Rat} {s s' : Bool} {w : Int} (h : Fold F g s) (h' : Fold F' g' s') (b : -1 / 1000000000000 ≤ F ∧ F ≤ 1 + 1 / 1000000000000) (b' : -1 / 1000000000000 ≤ F' ∧ F' ≤ 1 + 1 / 1000000000000) (hn : Nr F' (F + 1 / 4 + w) (1 / 1000000000000)) :
    Nr (g + g') (1 / 4) (5 / 1000000000000) := by
  have hw : w = 0 ∨ w = -1 := by
    have c1 : -2 < w := by
      refine Rat.intCast_lt_intCast.1 ?_
      rw [show (((-2 : Int)) : Rat) = -2 by decide +kernel]
      unfold Nr at hn
      grind
    have c2 : w < 1 := by
      refine Rat.intCast_lt_intCast.1 ?_
      rw [show (((1 : Int)) : Rat) = 1 by decide +kernel]
      unfold Nr at hn
      grind
    omega
  unfold Fold at h h'
  unfold Nr at *
  rcases hw with rfl | rfl
  · rw [show ((0 : Int) : Rat) = 0 from rfl] at hn
    rcases h with ⟨-, h1, h2⟩ | ⟨-, h1, h2, h3⟩ | ⟨-, h1, h2, h3⟩ | ⟨-, h1, h2⟩ <;> rcases h' with ⟨-, k1, k2⟩ | ⟨-, k1, k2, k3⟩ | ⟨-, k1, k2, k3⟩ | ⟨-, k1, k2⟩ <;> constructor <;> grind
  · rw [show ((-1 : Int) : Rat) = -1 by decide +kernel] at hn
    rcases h with ⟨-, h1, h2⟩ | ⟨-, h1, h2, h3⟩ | ⟨-, h1, h2, h3⟩ | ⟨-, h1, h2⟩ <;> rcases h' with ⟨-, k1, k2⟩ | ⟨-, k1, k2, k3⟩ | ⟨-, k1, k2, k3⟩ | ⟨-, k1, k2⟩ <;> constructor <;> grind

theorem sgn_bd' {b : Bool} {a M : Rat} (h : Bd a M) : Bd (sgn b a) M := by
  unfold sgn
  cases b
  · exact h
  · exact h.neg
theorem sgn_sq' (b : Bool) (a : Rat) : sgn b a * sgn b a = a * a := by
  unfold sgn
  cases b
  · rfl
  · show -a * -a = a * a
    grind

theorem circ_any {f f' : Nat} {w : Int} (h : I .f64 f (some (-1 / 1000000000000, 1 + 1 / 1000000000000))) (h' : I .f64 f' (some (-1 / 1000000000000, 1 + 1 / 1000000000000))) (hn : Nr (R .f64 f') (R .f64 f + 1 / 4 + w) (1 / 1000000000000)) :
    isNum .f64 (sineOf f) = true ∧ isNum .f64 (sineOf f') = true ∧ Nr (R .f64 (sineOf f) * R .f64 (sineOf f) + R .f64 (sineOf f') * R .f64 (sineOf f')) 1 (1 / 1000000) := by
  obtain ⟨a1, g, s, a2, a3, a4⟩ := sine_fold h
  obtain ⟨b1, g', s', b2, b3, b4⟩ := sine_fold h'
  have hq := fold_quarter a2 b2 h.2 h'.2 hn
  obtain ⟨t1, t2, t3⟩ := tau_bd
  have z1 := Bd.mul t2 a3
  have z2 := Bd.mul t2 b3
  have y1 := Bd.mul t2 (Nr.bd.1 hq)
  have i1 : tau * (g + g' - 1 / 4) = tau * g + tau * g' - tau * (1 / 4) := by grind
  rw [i1] at y1
  have hzz : Nr (tau * g') (qT - tau * g) (4 / 100000000000) := by
    unfold Nr Bd at *
    constructor <;> grind
  have hg : Bd (tau * g) (15708 / 10000) ∨ Bd (tau * g') (15708 / 10000) := by
    have gu : g ≤ 25 / 100 ∨ g' ≤ 25 / 100 := by
      rcases (Rat.le_total : (g : Rat) ≤ 1 / 8 ∨ 1 / 8 ≤ g) with q | q
      · left; grind
      · right; unfold Nr at hq; grind
    have lo : ∀ {F x : Rat} {b : Bool}, Fold F x b → -1 / 1000000000000 ≤ F ∧ F ≤ 1 + 1 / 1000000000000 → -2 / 1000000000000 ≤ x := fun {F x b} hf hF => by
      unfold Fold Nr at hf
      rcases hf with ⟨-, k1, k2⟩ | ⟨-, k1, k2, k3⟩ | ⟨-, k1, k2, k3⟩ | ⟨-, k1, k2⟩ <;> grind
    have l1 := lo a2 h.2
    have l2 := lo b2 h'.2
    rcases gu with gu | gu
    · left
      have := (Bd.mul t2 (N := 25 / 100) (b := g) (by unfold Bd; constructor <;> grind)).mono (N := 15708 / 10000) (by grind)
      exact this
    · right
      have := (Bd.mul t2 (N := 25 / 100) (b := g') (by unfold Bd; constructor <;> grind)).mono (N := 15708 / 10000) (by grind)
      exact this
  have bpol : ∀ {z : Rat}, Bd z (16 / 10) → Bd (polR z) 3 := fun {z} hz => by
    have := ev_bd (by decide +kernel) hz polL
    rw [ev_pol] at this
    exact this.mono pol_bd
  have B1 : Bd (tau * g) (16 / 10) := z1.mono (by grind)
  have B2 : Bd (tau * g') (16 / 10) := z2.mono (by grind)
  have P1 := bpol B1
  have P2 := bpol B2
  have key : Nr (polR (tau * g) * polR (tau * g) + polR (tau * g') * polR (tau * g')) 1 (6 / 10000000) := by
    rcases hg with hg | hg
    · have c := pol_circ hg
      have hb : Bd (qT - tau * g) (16 / 10) := by
        unfold Nr Bd at *
        unfold qT at *
        constructor <;> grind
      have l := pol_lip B2 hb hzz
      have m := Nr.mul l l (bpol hb) P2
      unfold Nr at *
      constructor <;> grind
    · have c := pol_circ hg
      have hzz2 : Nr (tau * g) (qT - tau * g') (4 / 100000000000) := by unfold Nr at *; constructor <;> grind
      have hb : Bd (qT - tau * g') (16 / 10) := by
        unfold Nr Bd at *
        unfold qT at *
        constructor <;> grind
      have l := pol_lip B1 hb hzz2
      have m := Nr.mul l l (bpol hb) P1
      unfold Nr at *
      constructor <;> grind
  have m1 := Nr.mul a4 a4 (sgn_bd' P1) (a4.toBd (sgn_bd' P1))
  have m2 := Nr.mul b4 b4 (sgn_bd' P2) (b4.toBd (sgn_bd' P2))
  rw [sgn_sq'] at m1 m2
  refine ⟨a1, b1, ?_⟩
  unfold Nr at *
  constructor <;> grind

/-- What is left of turns. -/
theorem left_near {x : Nat} (h : I .f64 x (some (-1000, 1000))) : I .f64 (leftOf x) (some (-1 / 1000000000000, 1 + 1 / 1000000000000)) ∧ ∃ i : Int, Nr (R .f64 (leftOf x)) (R .f64 x + i) (1 / 10000000000000) := by
  have hT := T_le
  have hG := Gr_ge
  have hx := h.2
  obtain ⟨-, w2, w3, w4, w5⟩ := whole_R h.1 (by unfold Bd; constructor <;> grind)
  have b1 : Bd (R .f64 x - R .f64 (fofInt .f64 (ftoInt .f64 x))) 1 := by rw [w3]; unfold Bd; constructor <;> grind
  have f1 := fsub_fl h.1 w2 (b1.mono (by grind))
  have e1 := f1.err64 b1
  rw [w3] at e1
  have k1 := k_one.2
  unfold leftOf
  generalize fsub .f64 x (fofInt .f64 (ftoInt .f64 x)) = d at *
  generalize ftoInt .f64 x = i at *
  have r0 : R .f64 0 = 0 := by decide +kernel
  cases hc : flt .f64 d 0 with
  | true =>
    rw [flt_R f1.1 k_zero.1, r0] at hc
    have hc := of_decide_eq_true hc
    have b2 : Bd (R .f64 d + R .f64 4607182418800017408) 2 := by unfold Nr at e1; unfold Bd; constructor <;> grind
    have f2 := fadd_fl f1.1 k_one.1 (b2.mono (by grind))
    have e2 := f2.err64 b2
    refine ⟨⟨f2.1, by unfold Nr at *; grind, by unfold Nr at *; grind⟩, 1 - i, ?_⟩
    have c : ((1 - i : Int) : Rat) = 1 - (i : Rat) := by push_cast; rfl
    rw [c]
    unfold Nr at *
    constructor <;> grind
  | false =>
    rw [flt_R f1.1 k_zero.1, r0] at hc
    have hc := of_decide_eq_false hc
    refine ⟨⟨f1.1, by grind, by unfold Nr at *; grind⟩, -i, ?_⟩
    have c : ((-i : Int) : Rat) = -(i : Rat) := by push_cast; rfl
    rw [c]
    unfold Nr at *
    constructor <;> grind

/-- The sine and the cosine of any number of turns lie on the circle, nearly. -/
theorem circle_any {x : Nat} (h : I .f64 x (some (-900, 900))) : isNum .f64 (sineOf (leftOf x)) = true ∧ isNum .f64 (sineOf (leftOf (fadd .f64 x 4598175219545276416))) = true ∧
    Nr (R .f64 (sineOf (leftOf x)) * R .f64 (sineOf (leftOf x)) + R .f64 (sineOf (leftOf (fadd .f64 x 4598175219545276416))) * R .f64 (sineOf (leftOf (fadd .f64 x 4598175219545276416)))) 1 (1 / 1000000) ∧
    Bd (R .f64 (sineOf (leftOf x))) (1000001 / 1000000) ∧ Bd (R .f64 (sineOf (leftOf (fadd .f64 x 4598175219545276416)))) (1000001 / 1000000) := by
  have hT := T_le
  have hG := Gr_ge
  have hx := h.2
  have kq := k_quarter.2
  have y := (I.add h k_quarter).to (lo := -1000) (hi := 1000) (by decide +kernel)
  obtain ⟨l1, i, l2⟩ := left_near (h.mono (by decide +kernel) (by decide +kernel))
  obtain ⟨l3, j, l4⟩ := left_near y
  have b : Bd (R .f64 x + R .f64 4598175219545276416) 901 := by unfold Bd; constructor <;> grind
  have e := (fadd_fl h.1 k_quarter.1 (b.mono (by grind))).err64 b
  have c : ((j - i : Int) : Rat) = (j : Rat) - (i : Rat) := by push_cast; rfl
  obtain ⟨a1, a2, a3⟩ := circ_any (w := j - i) l1 l3 (by rw [c]; unfold Nr at *; constructor <;> grind)
  have s1 := sq_nonneg (R .f64 (sineOf (leftOf x)))
  have s2 := sq_nonneg (R .f64 (sineOf (leftOf (fadd .f64 x 4598175219545276416))))
  have bd : ∀ {a : Rat}, a * a ≤ 1 + 1 / 1000000 → Bd a (1000001 / 1000000) := fun {a} ha => by
    constructor
    · have : -a ≤ 1000001 / 1000000 := le_of_sq (by decide +kernel) (by grind)
      grind
    · exact le_of_sq (by decide +kernel) (by grind)
  exact ⟨a1, a2, a3, bd (by unfold Nr at a3; grind), bd (by unfold Nr at a3; grind)⟩

end Go.Proofs.YtfbnehkbialkaaaGreat
