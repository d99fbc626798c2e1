/- The plain law of FnRounds, part 6: a ring's steps one behind the other. -/
import Derived.Test.YtilfdpllleninaaR1
import Derived.Test.YtilfdpllleninaaPull
namespace Go.Proofs.Ytilfdpllleninaa
open Ieee
set_option linter.unusedVariables false
set_option linter.unusedSimpArgs false

/-- A sum over all but one. -/
def rs (i : Nat) (f : Nat → Rat) : Nat → Rat
  | 0 => 0
  | k + 1 => rs i f k + if k = i then 0 else f k

theorem rs_lin (i : Nat) (a b : Rat) (f h : Nat → Rat) : ∀ n, rs i (fun k => a * f k + b * h k) n = a * rs i f n + b * rs i h n
  | 0 => by simp only [rs]; grind
  | n + 1 => by
    simp only [rs, rs_lin i a b f h n]
    split <;> grind

theorem rs_mono {i : Nat} {f h : Nat → Rat} : ∀ {n : Nat}, (∀ k, k < n → k ≠ i → f k ≤ h k) → rs i f n ≤ rs i h n
  | 0, _ => Rat.le_refl
  | n + 1, H => by
    have ih := rs_mono (n := n) fun k hk hi => H k (by omega) hi
    simp only [rs]
    split
    · grind
    · rename_i hne
      have := H n (by omega) hne
      grind

theorem rs_congr {i : Nat} {f h : Nat → Rat} : ∀ {n : Nat}, (∀ k, k < n → k ≠ i → f k = h k) → rs i f n = rs i h n
  | 0, _ => rfl
  | n + 1, H => by
    have ih := rs_congr (n := n) fun k hk hi => H k (by omega) hi
    simp only [rs, ih]
    split
    · rfl
    · rename_i hne
      rw [H n (by omega) hne]

/-- Places of a ring: all pulls on one are so much of it, towards the centre. -/
structure Ring (n : Nat) (ms : Nat → Nat) (px py : Nat → Rat) (ω : Nat → Nat → Rat) (σ Ω Ψ : Rat) : Prop where
  n7 : n ≤ 7
  mass : ∀ j, j < n → isNum .f32 (ms j) = true ∧ 1 / 5 ≤ R .f32 (ms j) ∧ R .f32 (ms j) ≤ 2
  place : ∀ j, j < n → Bd (px j) (101 / 100) ∧ Bd (py j) (101 / 100)
  ω0 : ∀ i j, i < n → j < n → j ≠ i → 0 ≤ ω i j
  p1 : ∀ i j, i < n → j < n → j ≠ i → 3 / 4 ≤ (px j - px i) * (px j - px i) + (py j - py i) * (py j - py i)
  p2 : ∀ i j, i < n → j < n → j ≠ i → (px j - px i) * (px j - px i) + (py j - py i) * (py j - py i) ≤ 42 / 10
  cube : ∀ i j, i < n → j < n → j ≠ i → Nr (ω i j * ω i j * (((px j - px i) * (px j - px i) + (py j - py i) * (py j - py i)) * ((px j - px i) * (px j - px i) + (py j - py i) * (py j - py i)) * ((px j - px i) * (px j - px i) + (py j - py i) * (py j - py i)))) 1 (1 / 1000000)
  fx : ∀ i, i < n → Nr (rs i (fun k => R .f32 (ms k) * ω i k * (px k - px i)) n) (-(σ * px i)) (5 / 1000000)
  fy : ∀ i, i < n → Nr (rs i (fun k => R .f32 (ms k) * ω i k * (py k - py i)) n) (-(σ * py i)) (5 / 1000000)
  sΩ : ∀ i, i < n → rs i (fun k => R .f32 (ms k) * ω i k) n ≤ Ω
  sΨ : ∀ i, i < n → rs i (fun k => R .f32 (ms k) * (ω i k * (ω i k * (((px k - px i) * (px k - px i) + (py k - py i) * (py k - py i)) * ((px k - px i) * (px k - px i) + (py k - py i) * (py k - py i)))))) n ≤ Ψ

/-- Bodies near places of a ring that is turned and scaled, and as fast. -/
structure RS (n : Nat) (ms : Nat → Nat) (px py : Nat → Rat) (l : List Body) (A w x y p q E F : Rat) : Prop where
  len : l.length = n
  mass : ∀ j, j < n → (l.getD j default).Mass = ms j
  at' : ∀ j, j < n → finV (l.getD j default).At = true ∧ Nr (R .f32 (l.getD j default).At.X) (A * (x * px j - y * py j)) E ∧ Nr (R .f32 (l.getD j default).At.Y) (A * (x * py j + y * px j)) E ∧ Bd (R .f32 (l.getD j default).At.Z) E
  speed : ∀ j, j < n → finV (l.getD j default).Speed = true ∧ Nr (R .f32 (l.getD j default).Speed.X) (A * w * (p * px j - q * py j)) F ∧ Nr (R .f32 (l.getD j default).Speed.Y) (A * w * (p * py j + q * px j)) F ∧ Bd (R .f32 (l.getD j default).Speed.Z) F

theorem fin3 {v : Vec} (h : finV v = true) : isNum .f32 v.X = true ∧ isNum .f32 v.Y = true ∧ isNum .f32 v.Z = true := by
  unfold finV at h
  simp only [Bool.and_eq_true] at h
  exact ⟨h.1.1, h.1.2, h.2⟩
theorem of3 {v : Vec} (h1 : isNum .f32 v.X = true) (h2 : isNum .f32 v.Y = true) (h3 : isNum .f32 v.Z = true) : finV v = true := by unfold finV; rw [h1, h2, h3]; rfl

theorem RS.ok {n : Nat} {ms : Nat → Nat} {px py : Nat → Rat} {ω : Nat → Nat → Rat} {σ Ω Ψ : Rat} (G : Ring n ms px py ω σ Ω Ψ) {l : List Body} {A w x y p q E F : Rat} (h : RS n ms px py l A w x y p q E F) : okL l = true := by
  refine okL_of (by rw [h.len]; have := G.n7; omega) fun j hj => ?_
  rw [h.len] at hj
  obtain ⟨m1, m2, m3⟩ := G.mass j hj
  have hm : I .f32 (ms j) (some (1 / 5, 2)) := ⟨m1, m2, m3⟩
  unfold okB
  rw [h.mass j hj, (h.at' j hj).1, (h.speed j hj).1, m1, I.ge hm k_zero32 (by decide +kernel)]
  rfl

/-- How far a difference of two floats is from what is meant. -/
theorem sub_near {a b : Nat} {x y E : Rat} (ha : isNum .f32 a = true) (hb : isNum .f32 b = true) (h1 : Nr (R .f32 a) x E) (h2 : Nr (R .f32 b) y E) (bx : Bd (x - y) 14) (hE : E ≤ 1 / 1000) : isNum .f32 (fsub .f32 a b) = true ∧ Nr (R .f32 (fsub .f32 a b)) (x - y) (2 * E + 1 / 1000000) := by
  have hG := Gr_ge
  have hT := T_le
  have b1 : Bd (R .f32 a - R .f32 b) 15 := by unfold Nr Bd at *; constructor <;> grind
  have f := fsub_fl ha hb (b1.mono (by grind))
  have e := f.err b1
  exact ⟨f.1, by unfold Nr at *; constructor <;> grind⟩

/-- A share of a ring's body, and what it is worth for the difference of places. -/
theorem ring_term {n : Nat} {ms : Nat → Nat} {px py : Nat → Rat} {ω : Nat → Nat → Rat} {σ Ω Ψ : Rat} (G : Ring n ms px py ω σ Ω Ψ) {l : List Body} {A w x y p q E F g B : Rat} (h : RS n ms px py l A w x y p q E F)
    (hA : 1 ≤ A) (hA2 : A ≤ 3) (hB0 : 0 ≤ B) (hB : B * (A * A * A) = 1) (hE : E ≤ 1 / 5000) (hg : 0 ≤ g) (hu : Nr (x * x + y * y) 1 (1 / 100)) (hgu : Nr (g * g * ((x * x + y * y) * (x * x + y * y) * (x * x + y * y))) 1 (1 / 1000000))
    {i k : Nat} (hi : i < n) (hk : k < n) (hik : k ≠ i) :
    isNum .f32 (impl_softened (impl_LessVectors (l.getD k default).At (l.getD i default).At) 0) = true ∧ 0 < R .f32 (impl_softened (impl_LessVectors (l.getD k default).At (l.getD i default).At) 0) ∧
    ∃ d : Vec, ∃ s : Nat, impl_LessVectors (l.getD k default).At (l.getD i default).At = d ∧ fdiv .f32 (l.getD k default).Mass (fmul .f32 (impl_softened d 0) (rootN (impl_softened d 0))) = s ∧ finV d = true ∧ isNum .f32 s = true ∧
      Nr (R .f32 d.X * R .f32 s) (A * (x * (px k - px i) - y * (py k - py i)) * (R .f32 (ms k) * ω i k * g * B)) (103 / 100 * (R .f32 (ms k) * ω i k) * (6 * (2 * E + 1 / 1000000)) + 21 / 1000000 * (R .f32 (ms k) * (ω i k * (ω i k * (((px k - px i) * (px k - px i) + (py k - py i) * (py k - py i)) * ((px k - px i) * (px k - px i) + (py k - py i) * (py k - py i))))))) ∧
      Nr (R .f32 d.Y * R .f32 s) (A * (x * (py k - py i) + y * (px k - px i)) * (R .f32 (ms k) * ω i k * g * B)) (103 / 100 * (R .f32 (ms k) * ω i k) * (6 * (2 * E + 1 / 1000000)) + 21 / 1000000 * (R .f32 (ms k) * (ω i k * (ω i k * (((px k - px i) * (px k - px i) + (py k - py i) * (py k - py i)) * ((px k - px i) * (px k - px i) + (py k - py i) * (py k - py i))))))) ∧
      Bd (R .f32 d.Z * R .f32 s) (103 / 100 * (R .f32 (ms k) * ω i k) * (6 * (2 * E + 1 / 1000000)) + 21 / 1000000 * (R .f32 (ms k) * (ω i k * (ω i k * (((px k - px i) * (px k - px i) + (py k - py i) * (py k - py i)) * ((px k - px i) * (px k - px i) + (py k - py i) * (py k - py i))))))) ∧
      Bd (A * (x * (px k - px i) - y * (py k - py i)) * (R .f32 (ms k) * ω i k * g * B)) 3 ∧ Bd (A * (x * (py k - py i) + y * (px k - px i)) * (R .f32 (ms k) * ω i k * g * B)) 3 ∧
      103 / 100 * (R .f32 (ms k) * ω i k) * (6 * (2 * E + 1 / 1000000)) + 21 / 1000000 * (R .f32 (ms k) * (ω i k * (ω i k * (((px k - px i) * (px k - px i) + (py k - py i) * (py k - py i)) * ((px k - px i) * (px k - px i) + (py k - py i) * (py k - py i)))))) ≤ 1 / 100 := by
  have hE0 : 0 ≤ E := (h.at' i hi).2.2.2.nonneg
  obtain ⟨ai1, ai2, ai3, ai4⟩ := h.at' i hi
  obtain ⟨ak1, ak2, ak3, ak4⟩ := h.at' k hk
  obtain ⟨i1, i2, i3⟩ := fin3 ai1
  obtain ⟨k1, k2, k3⟩ := fin3 ak1
  obtain ⟨m1, m2, m3⟩ := G.mass k hk
  have om := G.ω0 i k hi hk hik
  have P1 := G.p1 i k hi hk hik
  have P2 := G.p2 i k hi hk hik
  have P3 := G.cube i k hi hk hik
  have hmass := h.mass k hk
  generalize hω : ω i k = o at *
  generalize hX : px k - px i = X at *
  generalize hY : py k - py i = Y at *
  generalize hP : X * X + Y * Y = P at *
  generalize hM : R .f32 (ms k) = M at *
  obtain ⟨u, hU⟩ : ∃ u, u = x * x + y * y := ⟨_, rfl⟩
  rw [← hU] at hu hgu
  have u0 : 99 / 100 ≤ u := by unfold Nr at hu; grind
  have u1 : u ≤ 101 / 100 := by unfold Nr at hu; grind
  -- the ideal difference
  have sX : A * (x * px k - y * py k) - A * (x * px i - y * py i) = A * (x * X - y * Y) := by rw [← hX, ← hY]; grind
  have sY : A * (x * py k + y * px k) - A * (x * py i + y * px i) = A * (x * Y + y * X) := by rw [← hX, ← hY]; grind
  have D2 : A * (x * X - y * Y) * (A * (x * X - y * Y)) + A * (x * Y + y * X) * (A * (x * Y + y * X)) = A * A * (u * P) := by rw [← hP, hU]; grind
  have AA1 : 1 ≤ A * A := by have := sq_le (a := 1) (b := A) (by decide +kernel) hA; grind
  have AA9 : A * A ≤ 9 := by have := sq_le (show 0 ≤ A by grind) hA2; grind
  have uP1 : 74 / 100 ≤ u * P := by have := Rat.mul_le_mul_of_nonneg_right u0 (show 0 ≤ P by grind); grind
  have uP2 : u * P ≤ 425 / 100 := by have := Rat.mul_le_mul_of_nonneg_right u1 (show 0 ≤ P by grind); grind
  have DD1 : 74 / 100 ≤ A * A * (u * P) := by have := Rat.mul_le_mul_of_nonneg_right AA1 (show 0 ≤ u * P by grind); grind
  have DD2 : A * A * (u * P) ≤ 39 := by have := Rat.mul_le_mul_of_nonneg_right AA9 (show 0 ≤ u * P by grind); grind
  have sdx := sq_nonneg (A * (x * X - y * Y))
  have sdy := sq_nonneg (A * (x * Y + y * X))
  have bd7 : ∀ {t : Rat}, t * t ≤ 39 → Bd t 7 := fun {t} ht => by
    constructor
    · have := le_of_sq (a := -t) (b := 7) (by decide +kernel) (by grind)
      grind
    · exact le_of_sq (by decide +kernel) (by grind)
  have bDx := bd7 (t := A * (x * X - y * Y)) (by grind)
  have bDy := bd7 (t := A * (x * Y + y * X)) (by grind)
  obtain ⟨x1, x2⟩ := sub_near k1 i1 ak2 ai2 (by rw [sX]; exact bDx.mono (by decide +kernel)) (by grind)
  obtain ⟨y1, y2⟩ := sub_near k2 i2 ak3 ai3 (by rw [sY]; exact bDy.mono (by decide +kernel)) (by grind)
  have z0 : ∀ {t : Rat}, Bd t E → Nr t 0 E := fun {t} ht => by unfold Nr Bd at *; constructor <;> grind
  obtain ⟨z1, z2⟩ := sub_near k3 i3 (z0 ak4) (z0 ai4) (by unfold Bd; constructor <;> grind) (by grind)
  rw [sX] at x2
  rw [sY] at y2
  have z3 : Bd (R .f32 (fsub .f32 (l.getD k default).At.Z (l.getD i default).At.Z)) (2 * E + 1 / 1000000) := by unfold Nr at z2; unfold Bd; constructor <;> grind
  -- the share
  have es : ∀ d : Vec, impl_softened d 0 = soft0 d.X d.Y d.Z := fun d => by
    unfold impl_softened impl_softened_tree
    have : fmul .f32 0 0 = 0 := by decide +kernel
    simp only [DT.val, this]
    rfl
  have ed : impl_LessVectors (l.getD k default).At (l.getD i default).At = ⟨fsub .f32 (l.getD k default).At.X (l.getD i default).At.X, fsub .f32 (l.getD k default).At.Y (l.getD i default).At.Y, fsub .f32 (l.getD k default).At.Z (l.getD i default).At.Z⟩ := rfl
  rw [ed]
  generalize fsub .f32 (l.getD k default).At.X (l.getD i default).At.X = dx at *
  generalize fsub .f32 (l.getD k default).At.Y (l.getD i default).At.Y = dy at *
  generalize fsub .f32 (l.getD k default).At.Z (l.getD i default).At.Z = dz at *
  rw [es, hmass]
  show isNum .f32 (soft0 dx dy dz) = true ∧ 0 < R .f32 (soft0 dx dy dz) ∧ _
  clear ak1 ak2 ak3 ak4 ai1 ai2 ai3 ai4 ed es hmass k1 k2 k3 i1 i2 i3 z2 bd7 sX sY
  -- its square is between 1/2 and 100
  obtain ⟨e, he⟩ : ∃ e, e = 2 * E + 1 / 1000000 := ⟨_, rfl⟩
  rw [← he] at x2 y2 z3 ⊢
  have e0 : 0 ≤ e := by grind
  have e1 : e ≤ 1 / 1000 := by grind
  have dxx : Nr (R .f32 dx * R .f32 dx) (A * (x * X - y * Y) * (A * (x * X - y * Y))) (16 * e) := by
    have b2 : Bd (R .f32 dx) 8 := by unfold Nr Bd at *; constructor <;> grind
    refine (Nr.mul x2 x2 (bDx.mono (N := 8) (by decide +kernel)) b2).mono ?_
    grind
  have dyy : Nr (R .f32 dy * R .f32 dy) (A * (x * Y + y * X) * (A * (x * Y + y * X))) (16 * e) := by
    have b2 : Bd (R .f32 dy) 8 := by unfold Nr Bd at *; constructor <;> grind
    refine (Nr.mul y2 y2 (bDy.mono (N := 8) (by decide +kernel)) b2).mono ?_
    grind
  have dzz := sq_bd z3
  have dz0 := sq_nonneg (R .f32 dz)
  have ee : e * e ≤ e := by have := Rat.mul_le_mul_of_nonneg_right (show e ≤ 1 by grind) e0; grind
  obtain ⟨t1, t2, t3, t4, t5⟩ := pull0_fl (Q := R .f32 dx * R .f32 dx + R .f32 dy * R .f32 dy + R .f32 dz * R .f32 dz) x1 y1 z1 m1 rfl (by unfold Nr at dxx dyy; grind) (by unfold Nr at dxx dyy; grind) (by rw [hM]; exact m2) (by rw [hM]; grind)
  rw [hM] at t5
  refine ⟨t1, t2, _, _, rfl, rfl, of3 x1 y1 z1, t3, ?_⟩
  show Nr (R .f32 dx * R .f32 (share0 dx dy dz (ms k))) _ _ ∧ Nr (R .f32 dy * R .f32 (share0 dx dy dz (ms k))) _ _ ∧ Bd (R .f32 dz * R .f32 (share0 dx dy dz (ms k))) _ ∧ _
  generalize R .f32 (share0 dx dy dz (ms k)) = s at *
  generalize R .f32 dx = rx at *
  generalize R .f32 dy = ry at *
  generalize R .f32 dz = rz at *
  clear t1 t2 t3 dxx dyy dzz dz0 x1 y1 z1 m1
  -- the ideal share
  have hM0 : 0 < M := by grind
  have hw0 : 0 ≤ M * o * g * B := Rat.mul_nonneg (Rat.mul_nonneg (Rat.mul_nonneg (by grind) om) hg) hB0
  have hcube : Nr (M * o * g * B * (M * o * g * B) * ((A * (x * X - y * Y) * (A * (x * X - y * Y)) + A * (x * Y + y * X) * (A * (x * Y + y * X))) * (A * (x * X - y * Y) * (A * (x * X - y * Y)) + A * (x * Y + y * X) * (A * (x * Y + y * X))) * (A * (x * X - y * Y) * (A * (x * X - y * Y)) + A * (x * Y + y * X) * (A * (x * Y + y * X))))) (M * M) (M * M * (1 / 100000)) := by
    rw [D2]
    have c1 : M * o * g * B * (M * o * g * B) * (A * A * (u * P) * (A * A * (u * P)) * (A * A * (u * P))) = M * M * (o * o * (P * P * P) * (g * g * (u * u * u))) * (B * (A * A * A) * (B * (A * A * A))) := by grind
    rw [c1, hB]
    have c2 := Nr.mul P3 hgu (show Bd 1 1 by unfold Bd; constructor <;> decide +kernel) (hgu.toBd (show Bd 1 1 by unfold Bd; constructor <;> decide +kernel))
    have MM := sq_nonneg M
    generalize o * o * (P * P * P) * (g * g * (u * u * u)) = K at *
    have k1 : K ≤ 1 + 1 / 100000 := by unfold Nr at c2; grind
    have k2 : 1 - 1 / 100000 ≤ K := by unfold Nr at c2; grind
    have n1 := Rat.mul_le_mul_of_nonneg_left k1 MM
    have n2 := Rat.mul_le_mul_of_nonneg_left k2 MM
    unfold Nr
    constructor <;> grind
  -- the distance
  have oP0 : 0 ≤ o * (P * P) := Rat.mul_nonneg om (sq_nonneg P)
  have rr : o * (P * P) * (o * (P * P)) = o * o * (P * P * P) * P := by grind
  have k1 := Rat.mul_le_mul_of_nonneg_right (show o * o * (P * P * P) ≤ 1 + 1 / 1000000 by unfold Nr at P3; grind) (show 0 ≤ P by grind)
  have k2 := Rat.mul_le_mul_of_nonneg_right (show 1 - 1 / 1000000 ≤ o * o * (P * P * P) by unfold Nr at P3; grind) (show 0 ≤ P by grind)
  rw [← rr] at k1 k2
  obtain ⟨ρ, hρ⟩ : ∃ ρ, ρ = o * (P * P) := ⟨_, rfl⟩
  rw [← hρ] at oP0 k1 k2
  have ρ1 : 86 / 100 ≤ ρ := le_of_sq oP0 (by grind)
  have r0 : 7 / 10 ≤ A * ρ * (1006 / 1000) := by have := Rat.mul_le_mul_of_nonneg_right hA oP0; grind
  have rA : A * ρ * (1006 / 1000) * (A * ρ * (1006 / 1000)) = A * A * (ρ * ρ) * (1012036 / 1000000) := by grind
  have m1 := Rat.mul_le_mul_of_nonneg_left k1 (show 0 ≤ A * A by grind)
  have m2 := Rat.mul_le_mul_of_nonneg_left k2 (show 0 ≤ A * A by grind)
  have AP0 : 0 ≤ A * A * P := Rat.mul_nonneg (by grind) (by grind)
  have uAP1 := Rat.mul_le_mul_of_nonneg_right u1 AP0
  have uAP0 := Rat.mul_le_mul_of_nonneg_right u0 AP0
  have hr1 : A * (x * X - y * Y) * (A * (x * X - y * Y)) + A * (x * Y + y * X) * (A * (x * Y + y * X)) ≤ A * ρ * (1006 / 1000) * (A * ρ * (1006 / 1000)) * (1001 / 1000) := by
    rw [D2, rA]
    grind
  have hr2 : A * ρ * (1006 / 1000) * (A * ρ * (1006 / 1000)) ≤ (A * (x * X - y * Y) * (A * (x * X - y * Y)) + A * (x * Y + y * X) * (A * (x * Y + y * X))) * (103 / 100) := by
    rw [D2, rA]
    grind
  obtain ⟨T1, T2, T3⟩ := term_near (r := A * ρ * (1006 / 1000)) (M := M) x2 y2 z3 e1 (by rw [D2]; grind) r0 hr1 hr2 t4 hw0 hM0 t5 hcube
  -- sizes
  obtain ⟨-, bg, -⟩ := pull_unit hg hu (by decide +kernel) (hgu.mono (by decide +kernel))
  have g1 : g ≤ 103 / 100 := bg.2
  have AAA : 1 ≤ A * A * A := by have := Rat.mul_le_mul_of_nonneg_right AA1 (show 0 ≤ A by grind); grind
  have B1 : B ≤ 1 := by have := Rat.mul_le_mul_of_nonneg_left AAA hB0; grind
  have AB1 : A * B ≤ 1 := by
    have h3 := Rat.mul_le_mul_of_nonneg_left AA1 (Rat.mul_nonneg hB0 (show 0 ≤ A by grind))
    grind
  have AB0 : 0 ≤ A * B := Rat.mul_nonneg (by grind) hB0
  have Mo0 : 0 ≤ M * o := Rat.mul_nonneg (by grind) om
  have gB : g * B ≤ 103 / 100 := by
    have a1 := Rat.mul_le_mul_of_nonneg_left B1 hg
    grind
  have gB0 : 0 ≤ g * B := Rat.mul_nonneg hg hB0
  have gAB : g * (A * B) ≤ 103 / 100 := by
    have a1 := Rat.mul_le_mul_of_nonneg_left AB1 hg
    grind
  have W1 : M * o * g * B * (6 * e) ≤ 103 / 100 * (M * o) * (6 * e) := by
    have a1 := Rat.mul_le_mul_of_nonneg_left gB Mo0
    have a2 := Rat.mul_le_mul_of_nonneg_right (show M * o * (g * B) ≤ M * o * (103 / 100) from a1) (show 0 ≤ 6 * e by grind)
    grind
  have Mor0 : 0 ≤ M * (o * ρ) := Rat.mul_nonneg (by grind) (Rat.mul_nonneg om oP0)
  have W2 : M * o * g * B * (A * ρ * (1006 / 1000)) ≤ 104 / 100 * (M * (o * ρ)) := by
    have a1 := Rat.mul_le_mul_of_nonneg_left gAB Mor0
    have e2 : M * o * g * B * (A * ρ * (1006 / 1000)) = M * (o * ρ) * (g * (A * B)) * (1006 / 1000) := by grind
    rw [e2]
    grind
  have hE3 : M * o * g * B * (6 * e + 2 / 100000 * (A * ρ * (1006 / 1000))) ≤ 103 / 100 * (M * o) * (6 * e) + 21 / 1000000 * (M * (o * ρ)) := by
    have e2 : M * o * g * B * (6 * e + 2 / 100000 * (A * ρ * (1006 / 1000))) = M * o * g * B * (6 * e) + 2 / 100000 * (M * o * g * B * (A * ρ * (1006 / 1000))) := by grind
    rw [e2]
    grind
  rw [hρ] at W2
  -- each part is small
  have oρ : o * ρ * P ≤ 1 + 1 / 1000000 := by
    have : o * ρ * P = o * o * (P * P * P) := by rw [hρ]; grind
    rw [this]
    unfold Nr at P3
    grind
  have oρ1 : o * ρ ≤ 1334 / 1000 := by
    have o0 : 0 ≤ o * ρ := Rat.mul_nonneg om oP0
    have := Rat.mul_le_mul_of_nonneg_left P1 o0
    grind
  have Mor1 : M * (o * (o * (P * P))) ≤ 2668 / 1000 := by
    rw [hρ] at oρ1
    have a1 := Rat.mul_le_mul_of_nonneg_right m3 (show 0 ≤ o * (o * (P * P)) by rw [← hρ]; exact Rat.mul_nonneg om oP0)
    grind
  have small : ∀ {t : Rat}, t * t ≤ A * ρ * (1006 / 1000) * (A * ρ * (1006 / 1000)) * (1001 / 1000) → Bd (t * (M * o * g * B)) 3 := fun {t} ht => by
    have r00 : 0 ≤ A * ρ * (1006 / 1000) := by grind
    have hq : t * t ≤ A * ρ * (1006 / 1000) * (1001 / 1000) * (A * ρ * (1006 / 1000) * (1001 / 1000)) := by
      have := sq_nonneg (A * ρ * (1006 / 1000))
      grind
    have bt : Bd t (A * ρ * (1006 / 1000) * (1001 / 1000)) := by
      constructor
      · have := le_of_sq (a := -t) (b := A * ρ * (1006 / 1000) * (1001 / 1000)) (by grind) (by grind)
        grind
      · exact le_of_sq (by grind) hq
    have bw : Bd (M * o * g * B) (M * o * g * B) := by unfold Bd; constructor <;> grind
    refine (Bd.mul bt bw).mono ?_
    rw [hρ]
    grind
  rw [← hρ]
  refine ⟨T1.mono hE3, T2.mono hE3, T3.mono hE3, small (by grind), small (by grind), ?_⟩
  have o1 : o ≤ 1552 / 1000 := by have := Rat.mul_le_mul_of_nonneg_left ρ1 om; grind
  have Mo1 : M * o ≤ 3104 / 1000 := by
    have a1 := Rat.mul_le_mul_of_nonneg_right m3 om
    grind
  have a2 := Rat.mul_le_mul_of_nonneg_right Mo1 e0
  rw [← hρ] at Mor1
  grind

/-- The error of a ring's pull. -/
def errK (M o P E : Rat) : Rat := 103 / 100 * (M * o) * (6 * (2 * E + 1 / 1000000)) + 21 / 1000000 * (M * (o * (o * (P * P))))
def CE (Ω Ψ E : Rat) : Rat := 103 / 100 * (6 * (2 * E + 1 / 1000000)) * Ω + 21 / 1000000 * Ψ + 4 / 100000

theorem acc_near {a x s k : Nat} {t I e : Rat} (ha : isNum .f32 a = true) (hx : isNum .f32 x = true) (hs : isNum .f32 s = true) {err : Rat} (h : Nr (R .f32 a) t err) (g : Nr (R .f32 x * R .f32 s) I e) (bt : Bd t ((k : Rat) * 3)) (hk : k ≤ 7) (bI : Bd I 3) (he : e ≤ 1 / 100) (herr : err ≤ 1) :
    isNum .f32 (fadd .f32 a (fmul .f32 x s)) = true ∧ Nr (R .f32 (fadd .f32 a (fmul .f32 x s))) (t + I) (err + e + 3 / 1000000) := by
  have hT := T_le
  have hG := Gr_ge
  have k7 : (k : Rat) ≤ 7 := by exact_mod_cast hk
  have b1 : Bd (R .f32 x * R .f32 s) 4 := by unfold Nr Bd at *; constructor <;> grind
  have f1 := fmul_fl hx hs (b1.mono (by grind))
  have e1 := f1.err b1
  have b2 : Bd (R .f32 a + R .f32 (fmul .f32 x s)) 28 := by unfold Nr Bd at *; constructor <;> grind
  have f2 := fadd_fl ha f1.1 (b2.mono (by grind))
  have e2 := f2.err b2
  exact ⟨f2.1, by unfold Nr at *; constructor <;> grind⟩

theorem ring_pull {n : Nat} {ms : Nat → Nat} {px py : Nat → Rat} {ω : Nat → Nat → Rat} {σ Ω Ψ : Rat} (G : Ring n ms px py ω σ Ω Ψ) {l : List Body} {A w x y p q E F g B : Rat} (h : RS n ms px py l A w x y p q E F)
    (hA : 1 ≤ A) (hA2 : A ≤ 3) (hB0 : 0 ≤ B) (hB : B * (A * A * A) = 1) (hE : E ≤ 1 / 5000) (hg : 0 ≤ g) (hu : Nr (x * x + y * y) 1 (1 / 100)) (hgu : Nr (g * g * ((x * x + y * y) * (x * x + y * y) * (x * x + y * y))) 1 (1 / 1000000))
    {i : Nat} (hi : i < n) : ∀ j, j ≤ n →
      finV (pullF l ((i : Nat) : Int) (l.getD i default).At 0 j) = true ∧
      Nr (R .f32 (pullF l ((i : Nat) : Int) (l.getD i default).At 0 j).X) (rs i (fun k => A * (x * (px k - px i) - y * (py k - py i)) * (R .f32 (ms k) * ω i k * g * B)) j) (rs i (fun k => errK (R .f32 (ms k)) (ω i k) ((px k - px i) * (px k - px i) + (py k - py i) * (py k - py i)) E) j + (j : Rat) * (3 / 1000000)) ∧
      Nr (R .f32 (pullF l ((i : Nat) : Int) (l.getD i default).At 0 j).Y) (rs i (fun k => A * (x * (py k - py i) + y * (px k - px i)) * (R .f32 (ms k) * ω i k * g * B)) j) (rs i (fun k => errK (R .f32 (ms k)) (ω i k) ((px k - px i) * (px k - px i) + (py k - py i) * (py k - py i)) E) j + (j : Rat) * (3 / 1000000)) ∧
      Nr (R .f32 (pullF l ((i : Nat) : Int) (l.getD i default).At 0 j).Z) 0 (rs i (fun k => errK (R .f32 (ms k)) (ω i k) ((px k - px i) * (px k - px i) + (py k - py i) * (py k - py i)) E) j + (j : Rat) * (3 / 1000000)) ∧
      Bd (rs i (fun k => A * (x * (px k - px i) - y * (py k - py i)) * (R .f32 (ms k) * ω i k * g * B)) j) ((j : Rat) * 3) ∧ Bd (rs i (fun k => A * (x * (py k - py i) + y * (px k - px i)) * (R .f32 (ms k) * ω i k * g * B)) j) ((j : Rat) * 3) ∧
      rs i (fun k => errK (R .f32 (ms k)) (ω i k) ((px k - px i) * (px k - px i) + (py k - py i) * (py k - py i)) E) j ≤ (j : Rat) / 100
  | 0, _ => by
    have z := zero32
    have b0 : Bd (0 : Rat) (((0 : Nat) : Rat) * 3) := by unfold Bd; constructor <;> decide +kernel
    have n0 : Nr (R .f32 0) 0 (0 + ((0 : Nat) : Rat) * (3 / 1000000)) := by rw [z.2]; unfold Nr; constructor <;> decide +kernel
    exact ⟨of3 z.1 z.1 z.1, n0, n0, n0, b0, b0, by simp only [rs]; decide +kernel⟩
  | j + 1, hj => by
    obtain ⟨f, hx, hy, hz, bx, by', be⟩ := ring_pull G h hA hA2 hB0 hB hE hg hu hgu hi j (by omega)
    have hn := G.n7
    have ej : (((j + 1 : Nat) : Rat)) = (j : Rat) + 1 := by push_cast; rfl
    have j7 : (j : Rat) ≤ 7 := by exact_mod_cast (show j ≤ 7 by omega)
    have j0 : (0 : Rat) ≤ j := by exact_mod_cast Nat.zero_le j
    by_cases hij : j = i
    · have hne : (((j : Nat) : Int) != ((i : Nat) : Int)) = false := by rw [hij]; simp
      have e : pullF l ((i : Nat) : Int) (l.getD i default).At 0 (j + 1) = pullF l ((i : Nat) : Int) (l.getD i default).At 0 j := by
        show (match (((j : Nat) : Int) != ((i : Nat) : Int)) && _ with | true => _ | false => _) = _
        rw [hne]
        rfl
      rw [e, ej]
      simp only [rs, if_pos hij, Rat.add_zero]
      exact ⟨f, hx.mono (by grind), hy.mono (by grind), hz.mono (by grind), bx.mono (by grind), by'.mono (by grind), by grind⟩
    · have hne : (((j : Nat) : Int) != ((i : Nat) : Int)) = true := by rw [bne_iff_ne]; omega
      obtain ⟨t1, t2, d, s, hd, hs, t3, t4, t5, t6, t7, t8, t9, t10⟩ := ring_term G h hA hA2 hB0 hB hE hg hu hgu hi (show j < n by omega) hij
      rw [hd] at t1 t2
      have hg' : fgt .f32 (impl_softened d 0) 0 = true := by rw [fgt_R t1 zero32.1, zero32.2]; exact decide_eq_true t2
      have e : pullF l ((i : Nat) : Int) (l.getD i default).At 0 (j + 1) = impl_AddVectors (pullF l ((i : Nat) : Int) (l.getD i default).At 0 j) (impl_ScaleVector d s) := by
        show (match (((j : Nat) : Int) != ((i : Nat) : Int)) && fgt .f32 (impl_softened (impl_LessVectors (l.getD j default).At (l.getD i default).At) 0) 0 with | true => impl_AddVectors (pullF l ((i : Nat) : Int) (l.getD i default).At 0 j) (impl_ScaleVector (impl_LessVectors (l.getD j default).At (l.getD i default).At) (fdiv .f32 (l.getD j default).Mass (fmul .f32 (impl_softened (impl_LessVectors (l.getD j default).At (l.getD i default).At) 0) (rootN (impl_softened (impl_LessVectors (l.getD j default).At (l.getD i default).At) 0))))) | false => _) = _
        rw [hne, hd, hg', hs]
        rfl
      rw [e, ej]
      simp only [rs, if_neg hij]
      obtain ⟨fx, fy, fz⟩ := fin3 f
      obtain ⟨dx, dy, dz⟩ := fin3 t3
      generalize pullF l ((i : Nat) : Int) (l.getD i default).At 0 j = P at *
      have t10' : errK (R .f32 (ms j)) (ω i j) ((px j - px i) * (px j - px i) + (py j - py i) * (py j - py i)) E ≤ 1 / 100 := t10
      obtain ⟨x1, x2⟩ := acc_near fx dx t4 hx t5 bx (by omega) t8 t10 (by grind)
      obtain ⟨y1, y2⟩ := acc_near fy dy t4 hy t6 by' (by omega) t9 t10 (by grind)
      have t7' : Nr (R .f32 d.Z * R .f32 s) 0 (errK (R .f32 (ms j)) (ω i j) ((px j - px i) * (px j - px i) + (py j - py i) * (py j - py i)) E) := by
        have t7 : Bd (R .f32 d.Z * R .f32 s) (errK (R .f32 (ms j)) (ω i j) ((px j - px i) * (px j - px i) + (py j - py i) * (py j - py i)) E) := t7
        unfold Bd at t7
        unfold Nr
        constructor <;> grind
      obtain ⟨z1, z2⟩ := acc_near (k := 0) fz dz t4 hz t7' (by unfold Bd; constructor <;> decide +kernel) (by omega) (by unfold Bd; constructor <;> decide +kernel) t10 (by grind)
      have e0 : (0 : Rat) + 0 = 0 := by decide +kernel
      rw [e0] at z2
      refine ⟨of3 x1 y1 z1, x2.mono ?_, y2.mono ?_, z2.mono ?_, (Bd.add bx t8).mono (by grind), (Bd.add by' t9).mono (by grind), by grind⟩
      all_goals
        show _ ≤ rs i _ j + errK (R .f32 (ms j)) (ω i j) ((px j - px i) * (px j - px i) + (py j - py i) * (py j - py i)) E + ((j : Rat) + 1) * (3 / 1000000)
        unfold errK at *
        grind

theorem ring_force {n : Nat} {ms : Nat → Nat} {px py : Nat → Rat} {ω : Nat → Nat → Rat} {σ Ω Ψ : Rat} (G : Ring n ms px py ω σ Ω Ψ) {l : List Body} {A w x y p q E F g B : Rat} (h : RS n ms px py l A w x y p q E F)
    (hA : 1 ≤ A) (hA2 : A ≤ 3) (hB0 : 0 ≤ B) (hB : B * (A * A * A) = 1) (hE : E ≤ 1 / 5000) (hg : 0 ≤ g) (hu : Nr (x * x + y * y) 1 (1 / 100)) (hgu : Nr (g * g * ((x * x + y * y) * (x * x + y * y) * (x * x + y * y))) 1 (1 / 1000000))
    {i : Nat} (hi : i < n) : finV (forceV l 0 i) = true ∧
      Nr (R .f32 (forceV l 0 i).X) (-(A * g * B * σ * (x * px i - y * py i))) (CE Ω Ψ E) ∧ Nr (R .f32 (forceV l 0 i).Y) (-(A * g * B * σ * (x * py i + y * px i))) (CE Ω Ψ E) ∧ Bd (R .f32 (forceV l 0 i).Z) (CE Ω Ψ E) ∧ Bd (R .f32 (forceV l 0 i).X) 25 ∧ Bd (R .f32 (forceV l 0 i).Y) 25 ∧ Bd (R .f32 (forceV l 0 i).Z) 25 := by
  have hE0 : 0 ≤ E := (h.at' i hi).2.2.2.nonneg
  obtain ⟨f, hx, hy, hz, bx, by', be⟩ := ring_pull G h hA hA2 hB0 hB hE hg hu hgu hi n (Nat.le_refl _)
  have n7 : (n : Rat) ≤ 7 := by exact_mod_cast G.n7
  have n0 : (0 : Rat) ≤ n := by exact_mod_cast Nat.zero_le n
  have FX := G.fx i hi
  have FY := G.fy i hi
  have SΩ := G.sΩ i hi
  have SΨ := G.sΨ i hi
  have eF : forceV l 0 i = pullF l ((i : Nat) : Int) (l.getD i default).At 0 n := by unfold forceV; rw [h.len]
  rw [eF]
  have c1 : rs i (fun k => A * (x * (px k - px i) - y * (py k - py i)) * (R .f32 (ms k) * ω i k * g * B)) n = A * g * B * x * rs i (fun k => R .f32 (ms k) * ω i k * (px k - px i)) n + -(A * g * B * y) * rs i (fun k => R .f32 (ms k) * ω i k * (py k - py i)) n := by
    rw [← rs_lin]
    exact rs_congr fun k _ _ => by grind
  have c2 : rs i (fun k => A * (x * (py k - py i) + y * (px k - px i)) * (R .f32 (ms k) * ω i k * g * B)) n = A * g * B * x * rs i (fun k => R .f32 (ms k) * ω i k * (py k - py i)) n + A * g * B * y * rs i (fun k => R .f32 (ms k) * ω i k * (px k - px i)) n := by
    rw [← rs_lin]
    exact rs_congr fun k _ _ => by grind
  have c3 : rs i (fun k => errK (R .f32 (ms k)) (ω i k) ((px k - px i) * (px k - px i) + (py k - py i) * (py k - py i)) E) n = 103 / 100 * (6 * (2 * E + 1 / 1000000)) * rs i (fun k => R .f32 (ms k) * ω i k) n + 21 / 1000000 * rs i (fun k => R .f32 (ms k) * (ω i k * (ω i k * (((px k - px i) * (px k - px i) + (py k - py i) * (py k - py i)) * ((px k - px i) * (px k - px i) + (py k - py i) * (py k - py i)))))) n := by
    rw [← rs_lin]
    exact rs_congr fun k _ _ => by unfold errK; grind
  rw [c1] at hx bx
  rw [c2] at hy by'
  have e0 : 0 ≤ 103 / 100 * (6 * (2 * E + 1 / 1000000)) := by grind
  have m1 := Rat.mul_le_mul_of_nonneg_left SΩ e0
  have hcE : rs i (fun k => errK (R .f32 (ms k)) (ω i k) ((px k - px i) * (px k - px i) + (py k - py i) * (py k - py i)) E) n + (n : Rat) * (3 / 1000000) ≤ CE Ω Ψ E - 11 / 1000000 := by
    rw [c3]
    unfold CE
    grind
  have be' : rs i (fun k => errK (R .f32 (ms k)) (ω i k) ((px k - px i) * (px k - px i) + (py k - py i) * (py k - py i)) E) n + (n : Rat) * (3 / 1000000) ≤ 1 := by grind
  generalize rs i (fun k => errK (R .f32 (ms k)) (ω i k) ((px k - px i) * (px k - px i) + (py k - py i) * (py k - py i)) E) n + (n : Rat) * (3 / 1000000) = ε at *
  generalize rs i (fun k => R .f32 (ms k) * ω i k * (px k - px i)) n = fx at *
  generalize rs i (fun k => R .f32 (ms k) * ω i k * (py k - py i)) n = fy at *
  -- how great A g B is
  obtain ⟨-, bg, -⟩ := pull_unit hg hu (by decide +kernel) (hgu.mono (by decide +kernel))
  have AA1 : 1 ≤ A * A := by have := sq_le (a := 1) (b := A) (by decide +kernel) hA; grind
  have AB1 : A * B ≤ 1 := by
    have h3 := Rat.mul_le_mul_of_nonneg_left AA1 (Rat.mul_nonneg hB0 (show 0 ≤ A by grind))
    grind
  have AB0 : 0 ≤ A * B := Rat.mul_nonneg (by grind) hB0
  have bAB : Bd (A * B) 1 := by unfold Bd; constructor <;> grind
  have bAgB : Bd (A * B * g) (1 * (103 / 100)) := Bd.mul bAB bg
  have sx := sq_nonneg x
  have sy := sq_nonneg y
  have bxx : Bd x (101 / 100) := bd_sq (u := 101 / 100) (by unfold Nr at hu; grind) (by decide +kernel)
  have byy : Bd y (101 / 100) := bd_sq (u := 101 / 100) (by unfold Nr at hu; grind) (by decide +kernel)
  have k1 := Bd.mul (Bd.mul bAgB bxx) (Nr.bd.1 FX)
  have k2 := Bd.mul (Bd.mul bAgB byy) (Nr.bd.1 FY)
  have k3 := Bd.mul (Bd.mul bAgB bxx) (Nr.bd.1 FY)
  have k4 := Bd.mul (Bd.mul bAgB byy) (Nr.bd.1 FX)
  have i1 : A * g * B * x * fx + -(A * g * B * y) * fy - -(A * g * B * σ * (x * px i - y * py i)) = A * B * g * x * (fx - -(σ * px i)) - A * B * g * y * (fy - -(σ * py i)) := by grind
  have i2 : A * g * B * x * fy + A * g * B * y * fx - -(A * g * B * σ * (x * py i + y * px i)) = A * B * g * x * (fy - -(σ * py i)) + A * B * g * y * (fx - -(σ * px i)) := by grind
  have N1 : Nr (A * g * B * x * fx + -(A * g * B * y) * fy) (-(A * g * B * σ * (x * px i - y * py i))) (11 / 1000000) := by unfold Nr; rw [i1]; unfold Bd at *; constructor <;> grind
  have N2 : Nr (A * g * B * x * fy + A * g * B * y * fx) (-(A * g * B * σ * (x * py i + y * px i))) (11 / 1000000) := by unfold Nr; rw [i2]; unfold Bd at *; constructor <;> grind
  refine ⟨f, (hx.trans N1).mono (by grind), (hy.trans N2).mono (by grind), ?_, ?_, ?_, ?_⟩
  · unfold Nr at hz; unfold Bd; constructor <;> grind
  · unfold Nr Bd at *; constructor <;> grind
  · unfold Nr Bd at *; constructor <;> grind
  · unfold Nr at hz; unfold Bd; constructor <;> grind

/-! ## Pushes and moves -/

theorem tick_ring : halfT 1023410176 = 1015021568 ∧ isNum .f32 1015021568 = true ∧ R .f32 1015021568 = 1 / 64 ∧ isNum .f32 1023410176 = true ∧ R .f32 1023410176 = 1 / 32 := by decide +kernel

theorem madd {a b h : Nat} {x y E F c : Rat} (ha : isNum .f32 a = true) (hb : isNum .f32 b = true) (hh : isNum .f32 h = true) (hc : R .f32 h = c) (h0 : 0 ≤ c) (h1 : c ≤ 1 / 32) (na : Nr (R .f32 a) x E) (nb : Nr (R .f32 b) y F) (bx : Bd x 8) (hE : E ≤ 1 / 1000) (bb : Bd (R .f32 b) 25) {K : Rat} (hK : E + c * F + 1 / 1000000 ≤ K) : isNum .f32 (fadd .f32 a (fmul .f32 b h)) = true ∧ Nr (R .f32 (fadd .f32 a (fmul .f32 b h))) (x + c * y) K := by
  have hT := T_le
  have hG := Gr_ge
  have b1 : Bd (R .f32 b * R .f32 h) 1 := by
    rw [hc]
    have := Bd.mul bb (show Bd c (1 / 32) by unfold Bd; constructor <;> grind)
    exact this.mono (by decide +kernel)
  have f1 := fmul_fl hb hh (b1.mono (by grind))
  have e1 := f1.err b1
  rw [hc] at e1 b1
  have b2 : Bd (R .f32 a + R .f32 (fmul .f32 b h)) 10 := by unfold Nr Bd at *; constructor <;> grind
  have f2 := fadd_fl ha f1.1 (b2.mono (by grind))
  have e2 := f2.err b2
  have m1 := Rat.mul_le_mul_of_nonneg_left nb.1 h0
  have m2 := Rat.mul_le_mul_of_nonneg_left nb.2 h0
  refine ⟨f2.1, ?_⟩
  unfold Nr at *
  constructor <;> grind

theorem kick_R {n : Nat} {ms : Nat → Nat} {px py : Nat → Rat} {ω : Nat → Nat → Rat} {σ Ω Ψ : Rat} (G : Ring n ms px py ω σ Ω Ψ) {l : List Body} {A w x y p q E F g B κ F' : Rat} (h : RS n ms px py l A w x y p q E F)
    (hA : 1 ≤ A) (hA2 : A ≤ 3) (hB0 : 0 ≤ B) (hB : B * (A * A * A) = 1) (hE : E ≤ 1 / 5000) (hg : 0 ≤ g) (hu : Nr (x * x + y * y) 1 (1 / 100)) (hgu : Nr (g * g * ((x * x + y * y) * (x * x + y * y) * (x * x + y * y))) 1 (1 / 1000000))
    (hw : 0 ≤ A * w) (hw1 : A * w ≤ 23 / 10) (bp : Bd p (105 / 100)) (bq : Bd q (105 / 100)) (hF : F ≤ 1 / 1000) (hκ : κ * w * 64 = B * σ) (hF' : F + 1 / 64 * CE Ω Ψ E + 1 / 1000000 ≤ F') :
    (∀ j, j < l.length → finV (forceV l 0 j) = true) ∧ RS n ms px py (kickL l (forceL l 0) 1015021568) A w x y (p - κ * g * x) (q - κ * g * y) E F' := by
  have hl := kickL_len l (forceL l 0) 1015021568
  obtain ⟨-, t2, t3, -, -⟩ := tick_ring
  refine ⟨fun j hj => (ring_force G h hA hA2 hB0 hB hE hg hu hgu (by rw [← h.len]; exact hj)).1, ⟨by rw [hl]; exact h.len, fun j hj => ?_, fun j hj => ?_, fun j hj => ?_⟩⟩
  · rw [kickL_get (by rw [h.len]; exact hj)]
    exact h.mass j hj
  · rw [kickL_get (by rw [h.len]; exact hj)]
    exact h.at' j hj
  · rw [kickL_get (by rw [h.len]; exact hj), forceL_get (by rw [h.len]; exact hj)]
    obtain ⟨f1, f2, f3, f4, f5, f6, f7⟩ := ring_force G h hA hA2 hB0 hB hE hg hu hgu hj
    obtain ⟨s1, s2, s3, s4⟩ := h.speed j hj
    obtain ⟨px1, py1⟩ := G.place j hj
    obtain ⟨a1, a2, a3⟩ := fin3 f1
    obtain ⟨b1, b2, b3⟩ := fin3 s1
    have bAw : Bd (A * w) (23 / 10) := by unfold Bd; constructor <;> grind
    have v1 : Bd (A * w * (p * px j - q * py j)) 8 := (Bd.mul bAw (Bd.sub (Bd.mul bp px1) (Bd.mul bq py1))).mono (by decide +kernel)
    have v2 : Bd (A * w * (p * py j + q * px j)) 8 := (Bd.mul bAw (Bd.add (Bd.mul bp py1) (Bd.mul bq px1))).mono (by decide +kernel)
    obtain ⟨x1, x2⟩ := madd b1 a1 t2 t3 (by decide +kernel) (by decide +kernel) s2 f2 v1 hF f5 hF'
    obtain ⟨y1, y2⟩ := madd b2 a2 t2 t3 (by decide +kernel) (by decide +kernel) s3 f3 v2 hF f6 hF'
    have z0 : ∀ {t e : Rat}, Bd t e → Nr t 0 e := fun {t e} ht => by unfold Nr Bd at *; constructor <;> grind
    obtain ⟨z1, z2⟩ := madd b3 a3 t2 t3 (by decide +kernel) (by decide +kernel) (z0 s4) (z0 f4) (by unfold Bd; constructor <;> decide +kernel) hF f7 hF'
    refine ⟨of3 x1 y1 z1, ?_, ?_, ?_⟩
    · have e : A * w * (p * px j - q * py j) + 1 / 64 * -(A * g * B * σ * (x * px j - y * py j)) = A * w * ((p - κ * g * x) * px j - (q - κ * g * y) * py j) := by
        have : A * g * B * σ = A * g * (B * σ) := by grind
        rw [this, ← hκ]
        grind
      rw [← e]
      exact x2
    · have e : A * w * (p * py j + q * px j) + 1 / 64 * -(A * g * B * σ * (x * py j + y * px j)) = A * w * ((p - κ * g * x) * py j + (q - κ * g * y) * px j) := by
        have : A * g * B * σ = A * g * (B * σ) := by grind
        rw [this, ← hκ]
        grind
      rw [← e]
      exact y2
    · show Bd (R .f32 (fadd .f32 (l.getD j default).Speed.Z (fmul .f32 (forceV l 0 j).Z 1015021568))) F'
      unfold Nr at z2
      unfold Bd
      constructor <;> grind

theorem move_R {n : Nat} {ms : Nat → Nat} {px py : Nat → Rat} {ω : Nat → Nat → Rat} {σ Ω Ψ : Rat} (G : Ring n ms px py ω σ Ω Ψ) {l : List Body} {A w x y p q E F E' : Rat} (h : RS n ms px py l A w x y p q E F)
    (hA : 1 ≤ A) (hA2 : A ≤ 3) (bx : Bd x (105 / 100)) (by' : Bd y (105 / 100)) (hw : 0 ≤ A * w) (hw1 : A * w ≤ 23 / 10) (bp : Bd p (105 / 100)) (bq : Bd q (105 / 100)) (hE : E ≤ 1 / 1000) (hF : F ≤ 1 / 1000) (hE' : E + 1 / 32 * F + 1 / 1000000 ≤ E') :
    RS n ms px py (moveL l 1023410176) A w (x + 2 * (w / 64) * p) (y + 2 * (w / 64) * q) p q E' F := by
  have hl := moveL_len l 1023410176
  obtain ⟨-, -, -, t2, t3⟩ := tick_ring
  refine ⟨by rw [hl]; exact h.len, fun j hj => ?_, fun j hj => ?_, fun j hj => ?_⟩
  · rw [moveL_get (by rw [h.len]; exact hj)]
    exact h.mass j hj
  · rw [moveL_get (by rw [h.len]; exact hj)]
    obtain ⟨f1, f2, f3, f4⟩ := h.at' j hj
    obtain ⟨s1, s2, s3, s4⟩ := h.speed j hj
    obtain ⟨px1, py1⟩ := G.place j hj
    obtain ⟨a1, a2, a3⟩ := fin3 f1
    obtain ⟨b1, b2, b3⟩ := fin3 s1
    have bA : Bd A 3 := by unfold Bd; constructor <;> grind
    have bAw : Bd (A * w) (23 / 10) := by unfold Bd; constructor <;> grind
    have v1 : Bd (A * w * (p * px j - q * py j)) 8 := (Bd.mul bAw (Bd.sub (Bd.mul bp px1) (Bd.mul bq py1))).mono (by decide +kernel)
    have v2 : Bd (A * w * (p * py j + q * px j)) 8 := (Bd.mul bAw (Bd.add (Bd.mul bp py1) (Bd.mul bq px1))).mono (by decide +kernel)
    have u1 : Bd (A * (x * px j - y * py j)) 8 := (Bd.mul bA (Bd.sub (Bd.mul bx px1) (Bd.mul by' py1))).mono (by decide +kernel)
    have u2 : Bd (A * (x * py j + y * px j)) 8 := (Bd.mul bA (Bd.add (Bd.mul bx py1) (Bd.mul by' px1))).mono (by decide +kernel)
    have z0 : ∀ {t e : Rat}, Bd t e → Nr t 0 e := fun {t e} ht => by unfold Nr Bd at *; constructor <;> grind
    obtain ⟨x1, x2⟩ := madd a1 b1 t2 t3 (by decide +kernel) (by decide +kernel) f2 s2 u1 hE (by unfold Nr Bd at *; constructor <;> grind) hE'
    obtain ⟨y1, y2⟩ := madd a2 b2 t2 t3 (by decide +kernel) (by decide +kernel) f3 s3 u2 hE (by unfold Nr Bd at *; constructor <;> grind) hE'
    obtain ⟨z1, z2⟩ := madd a3 b3 t2 t3 (by decide +kernel) (by decide +kernel) (z0 f4) (z0 s4) (by unfold Bd; constructor <;> decide +kernel) hE (by unfold Bd at *; constructor <;> grind) hE'
    refine ⟨of3 x1 y1 z1, ?_, ?_, ?_⟩
    · have e : A * (x * px j - y * py j) + 1 / 32 * (A * w * (p * px j - q * py j)) = A * ((x + 2 * (w / 64) * p) * px j - (y + 2 * (w / 64) * q) * py j) := by grind
      rw [← e]
      exact x2
    · have e : A * (x * py j + y * px j) + 1 / 32 * (A * w * (p * py j + q * px j)) = A * ((x + 2 * (w / 64) * p) * py j + (y + 2 * (w / 64) * q) * px j) := by grind
      rw [← e]
      exact y2
    · show Bd (R .f32 (fadd .f32 (l.getD j default).At.Z (fmul .f32 (l.getD j default).Speed.Z 1023410176))) E'
      unfold Nr at z2
      unfold Bd
      constructor <;> grind
  · rw [moveL_get (by rw [h.len]; exact hj)]
    exact h.speed j hj

/-- A number whose square times a cube is nearly one. -/
theorem inv_root {u : Rat} (hu : Nr u 1 (1 / 100)) : ∃ g, 0 ≤ g ∧ Nr (g * g * (u * u * u)) 1 (1 / 1000000) := by
  obtain ⟨d, hd⟩ : ∃ d, d = u - 1 := ⟨_, rfl⟩
  have bd : Bd d (1 / 100) := by rw [hd]; exact hu
  have hu' : u = 1 + d := by grind
  subst hu'
  clear hd hu
  have d2 := sq_bd bd
  have d20 := sq_nonneg d
  have d3 := Bd.mul (show Bd (d * d) (1 / 10000) by unfold Bd; constructor <;> grind) bd
  have d4 := Bd.mul (show Bd (d * d) (1 / 10000) by unfold Bd; constructor <;> grind) (show Bd (d * d) (1 / 10000) by unfold Bd; constructor <;> grind)
  have d5 := Bd.mul d4 bd
  obtain ⟨e, he⟩ : ∃ e, e = (1 - 3 / 2 * d) * (1 - 3 / 2 * d) * ((1 + d) * (1 + d) * (1 + d)) - 1 := ⟨_, rfl⟩
  have be : Bd e (1 / 1000) := by
    have i : e = -(15 / 4) * (d * d) - 5 / 4 * (d * d * d) + 15 / 4 * (d * d * (d * d)) + 9 / 4 * (d * d * (d * d) * d) := by rw [he]; grind
    rw [i]
    unfold Bd at *
    constructor <;> grind
  have e2 := sq_bd be
  have e20 := sq_nonneg e
  have e3 := Bd.mul (show Bd (e * e) (1 / 1000000) by unfold Bd; constructor <;> grind) be
  refine ⟨(1 - 3 / 2 * d) * (1 - e / 2), ?_, ?_⟩
  · refine Rat.mul_nonneg ?_ ?_
    · unfold Bd at bd; grind
    · unfold Bd at be; grind
  · have i : (1 - 3 / 2 * d) * (1 - e / 2) * ((1 - 3 / 2 * d) * (1 - e / 2)) * ((1 + d) * (1 + d) * (1 + d)) = (1 + e) * ((1 - e / 2) * (1 - e / 2)) := by
      have : (1 - 3 / 2 * d) * (1 - e / 2) * ((1 - 3 / 2 * d) * (1 - e / 2)) * ((1 + d) * (1 + d) * (1 + d)) = ((1 - 3 / 2 * d) * (1 - 3 / 2 * d) * ((1 + d) * (1 + d) * (1 + d)) - 1 + 1) * ((1 - e / 2) * (1 - e / 2)) := by grind
      rw [this, ← he]
      grind
    have i2 : (1 + e) * ((1 - e / 2) * (1 - e / 2)) - 1 = -(3 / 4) * (e * e) + 1 / 4 * (e * e * e) := by grind
    rw [i]
    unfold Nr
    rw [i2]
    unfold Bd at e3
    constructor <;> grind

/-- Bounds, and those behind a step. -/
structure Bnd where
  (a b c E F : Rat)

def Bnd.a' (s : Bnd) : Rat := s.a + 14 / 100 * s.b + s.c / 200 + s.a / 200 + 1 / 10000
def Bnd.b' (s : Bnd) : Rat := s.b + 7 / 100 * s.c + s.b / 200 + 2 / 100 * (s.a + s.a') + 1 / 5000
def Bnd.c' (s : Bnd) : Rat := s.c + 145 / 1000 * s.b + 2 / 100 * s.a' + s.a / 100 + s.c / 100 + 1 / 5000
def Bnd.F1 (Ω Ψ : Rat) (s : Bnd) : Rat := s.F + 1 / 64 * CE Ω Ψ s.E + 1 / 1000000
def Bnd.E1 (Ω Ψ : Rat) (s : Bnd) : Rat := s.E + 1 / 32 * s.F1 Ω Ψ + 1 / 1000000
def Bnd.F2 (Ω Ψ : Rat) (s : Bnd) : Rat := s.F1 Ω Ψ + 1 / 64 * CE Ω Ψ (s.E1 Ω Ψ) + 1 / 1000000
def Bnd.next (Ω Ψ : Rat) (s : Bnd) : Bnd := ⟨s.a', s.b', s.c', s.E1 Ω Ψ, s.F2 Ω Ψ⟩
def Bnd.ok (Ω Ψ : Rat) (s : Bnd) : Bool := decide (s.a ≤ 1 / 100) && (decide (s.b ≤ 1 / 100) && (decide (s.c ≤ 1 / 100) && (decide (s.E ≤ 1 / 5000) && decide (s.F ≤ 1 / 1000) && (decide (s.E1 Ω Ψ ≤ 1 / 5000) && (decide (s.F1 Ω Ψ ≤ 1 / 1000) && (decide (s.a' ≤ 1 / 100) && (decide (s.b' ≤ 1 / 100) && decide (s.c' ≤ 1 / 100))))))))

/-- A ring that is so and so near. -/
def RingAt (n : Nat) (ms : Nat → Nat) (px py : Nat → Rat) (A w : Rat) (l : List Body) (s : Bnd) : Prop :=
  ∃ x y p q, RS n ms px py l A w x y p q s.E s.F ∧ Circ x y p q s.a s.b s.c

theorem ring_step {n : Nat} {ms : Nat → Nat} {px py : Nat → Rat} {ω : Nat → Nat → Rat} {σ Ω Ψ : Rat} (G : Ring n ms px py ω σ Ω Ψ) {l : List Body} {A w B κ : Rat} {s : Bnd} (h : RingAt n ms px py A w l s) (hs : s.ok Ω Ψ = true)
    (hA : 1 ≤ A) (hA2 : A ≤ 3) (hB0 : 0 ≤ B) (hB : B * (A * A * A) = 1) (hw0 : 0 ≤ w) (hw : w ≤ 2176 / 1000) (hw1 : A * w ≤ 23 / 10) (hκ : κ * w * 64 = B * σ) (hκn : Nr κ (w / 64) (4 / 1000000)) :
    ∃ r, stepP l 0 1023410176 = .inr r ∧ RingAt n ms px py A w r (s.next Ω Ψ) := by
  unfold Bnd.ok at hs
  simp only [Bool.and_eq_true, decide_eq_true_eq] at hs
  obtain ⟨ha, hb, hc, ⟨hE, hF⟩, hE1, hF1, ha', hb', hc'⟩ := hs
  obtain ⟨x, y, p, q, hR, hC⟩ := h
  obtain ⟨bx, by', bp, bq⟩ := hC.bds
  have hAw0 : 0 ≤ A * w := Rat.mul_nonneg (by grind) hw0
  have bκ : Bd (w / 64 - κ) (4 / 1000000) := by unfold Nr at hκn; unfold Bd; constructor <;> grind
  have hu1 : Nr (x * x + y * y) 1 (1 / 100) := hC.u.mono hC.a1
  obtain ⟨g, hg, hgu⟩ := inv_root hu1
  obtain ⟨-, bg, -⟩ := pull_unit hg hu1 (by decide +kernel) (hgu.mono (by decide +kernel))
  have hw64 : w / 64 ≤ 34 / 1000 := by grind
  have hw64' : 0 ≤ w / 64 := by grind
  -- the first push
  obtain ⟨f1, R1⟩ := kick_R (F' := s.F1 Ω Ψ) G hR hA hA2 hB0 hB hE hg hu1 hgu hAw0 hw1 (bp.mono (by decide +kernel)) (bq.mono (by decide +kernel)) hF hκ Rat.le_refl
  have err : ∀ {g z : Rat}, Bd g (103 / 100) → Bd z (101 / 100) → Bd ((w / 64 - κ) * g * z) (1 / 200000) := fun h1 h2 => (Bd.mul (Bd.mul bκ h1) h2).mono (by decide +kernel)
  have he1 := err bg bx
  have he2 := err bg by'
  have ep : p - κ * g * x = p - w / 64 * g * x + (w / 64 - κ) * g * x := by grind
  have eq' : q - κ * g * y = q - w / 64 * g * y + (w / 64 - κ) * g * y := by grind
  have z0 : Bd (0 : Rat) (1 / 200000) := by unfold Bd; constructor <;> decide +kernel
  obtain ⟨U2, bp1, bq1⟩ := circ_mid (a' := s.a') (e3 := 0) (e4 := 0) hC hw64' hw64 hg (hgu.mono (by decide +kernel)) he1 he2 z0 z0 ep eq' rfl rfl Rat.le_refl
  -- the move
  have R2 := move_R (E' := s.E1 Ω Ψ) G R1 hA hA2 (bx.mono (by decide +kernel)) (by'.mono (by decide +kernel)) hAw0 hw1 (bp1.mono (by decide +kernel)) (bq1.mono (by decide +kernel)) (by grind) hF1 Rat.le_refl
  have ez : ∀ t v : Rat, t + 2 * (w / 64) * v + 0 = t + 2 * (w / 64) * v := fun _ _ => Rat.add_zero _
  rw [ez, ez] at U2
  generalize hp1 : p - κ * g * x = p1 at *
  generalize hq1 : q - κ * g * y = q1 at *
  generalize hx2 : x + 2 * (w / 64) * p1 = x2 at *
  generalize hy2 : y + 2 * (w / 64) * q1 = y2 at *
  have hu2 : Nr (x2 * x2 + y2 * y2) 1 (1 / 100) := U2.mono ha'
  obtain ⟨g', hg', hgu'⟩ := inv_root hu2
  obtain ⟨-, bg', -⟩ := pull_unit hg' hu2 (by decide +kernel) (hgu'.mono (by decide +kernel))
  have sx2 := sq_nonneg x2
  have sy2 := sq_nonneg y2
  have bx2 : Bd x2 (101 / 100) := bd_sq (u := 101 / 100) (by unfold Nr at hu2; grind) (by decide +kernel)
  have by2 : Bd y2 (101 / 100) := bd_sq (u := 101 / 100) (by unfold Nr at hu2; grind) (by decide +kernel)
  -- the second push
  obtain ⟨f2, R3⟩ := kick_R (F' := s.F2 Ω Ψ) G R2 hA hA2 hB0 hB hE1 hg' hu2 hgu' hAw0 hw1 (bp1.mono (by decide +kernel)) (bq1.mono (by decide +kernel)) hF1 hκ Rat.le_refl
  have he5 := err bg' bx2
  have he6 := err bg' by2
  have C3 := circ_step (e3 := 0) (e4 := 0) (g' := g') (p3 := p1 - κ * g' * x2) (q3 := q1 - κ * g' * y2) (x2 := x2) (y2 := y2) (a' := s.a') (b' := s.b') (c' := s.c') hC hw64' hw64 hg (hgu.mono (by decide +kernel)) he1 he2 z0 z0 he5 he6 ep eq' (by rw [ez]; exact hx2.symm) (by rw [ez]; exact hy2.symm) hg' (hgu'.mono (by decide +kernel)) (by grind) (by grind) Rat.le_refl ha' Rat.le_refl hb' Rat.le_refl hc'
  have t1 := tick_ring.1
  have e1 : (l.length : Nat) = n := hR.len
  have hn := G.n7
  refine ⟨_, stepP_good (l := l) (c := 0) (t := 1023410176) (by omega) f1 (by rw [t1]; exact R2.ok G) (fun j hj => by rw [t1]; exact f2 j (by rw [moveL_len, kickL_len]; exact hj)) (by rw [t1]; exact R3.ok G), ?_⟩
  rw [t1]
  exact ⟨x2, y2, _, _, R3, C3⟩

/-- Bounds behind so many steps. -/
def Bnd.after (Ω Ψ : Rat) (s : Bnd) : Nat → Bnd
  | 0 => s
  | k + 1 => (s.after Ω Ψ k).next Ω Ψ

theorem ring_run {n : Nat} {ms : Nat → Nat} {px py : Nat → Rat} {ω : Nat → Nat → Rat} {σ Ω Ψ : Rat} (G : Ring n ms px py ω σ Ω Ψ) {l : List Body} {A w B κ : Rat} {s : Bnd} (h : RingAt n ms px py A w l s)
    (hA : 1 ≤ A) (hA2 : A ≤ 3) (hB0 : 0 ≤ B) (hB : B * (A * A * A) = 1) (hw0 : 0 ≤ w) (hw : w ≤ 2176 / 1000) (hw1 : A * w ≤ 23 / 10) (hκ : κ * w * 64 = B * σ) (hκn : Nr κ (w / 64) (4 / 1000000)) :
    ∀ K, (∀ k, k < K → (s.after Ω Ψ k).ok Ω Ψ = true) → ∃ r, stateP l 0 1023410176 K = .inr r ∧ RingAt n ms px py A w r (s.after Ω Ψ K)
  | 0, _ => ⟨l, rfl, h⟩
  | K + 1, H => by
    obtain ⟨r, hr, hA'⟩ := ring_run G h hA hA2 hB0 hB hw0 hw hw1 hκ hκn K fun k hk => H k (by omega)
    obtain ⟨r', hr', hA''⟩ := ring_step G hA' (H K (by omega)) hA hA2 hB0 hB hw0 hw hw1 hκ hκn
    refine ⟨r', ?_, hA''⟩
    show (match stateP l 0 1023410176 K with | .inl _ => (.inl () : Unit ⊕ List Body) | .inr r => stepP r 0 1023410176) = _
    rw [hr]
    exact hr'

def bnd0 : Bnd := ⟨0, 0, 0, 2 / 1000000, 4 / 1000000⟩
theorem pair_bnds : ∀ k : Fin 8, (bnd0.after 2 2 k.val).ok 2 2 = true := by decide +kernel
theorem pair_end : (bnd0.after 2 2 8).a ≤ 3 / 1000 ∧ (bnd0.after 2 2 8).E ≤ 1 / 10000 := by decide +kernel
theorem poly_bnds : ∀ k : Fin 4, (bnd0.after (775 / 100) (81 / 10) k.val).ok (775 / 100) (81 / 10) = true := by decide +kernel
theorem poly_end : (bnd0.after (775 / 100) (81 / 10) 4).a ≤ 3 / 1000 ∧ (bnd0.after (775 / 100) (81 / 10) 4).E ≤ 1 / 10000 := by decide +kernel

/-- How long a vector is that is nearly so long. -/
theorem long_near {v : Vec} {X Y A E : Rat} (hv : finV v = true) (hx : Nr (R .f32 v.X) X E) (hy : Nr (R .f32 v.Y) Y E) (hz : Bd (R .f32 v.Z) E) (hE : E ≤ 3 / 10000) (hA : 1 ≤ A) (hA2 : A ≤ 3) (h : Nr (X * X + Y * Y) (A * A) (A * A * (4 / 1000))) : isNum .f32 (impl_SizeOfVector v) = true ∧ Nr (R .f32 (impl_SizeOfVector v)) A (A * (1 / 100)) := by
  have hT := T_le
  have hT0 := T_pos
  obtain ⟨v1, v2, v3⟩ := fin3 hv
  have hE0 := hz.nonneg
  have AA1 : 1 ≤ A * A := by have := sq_le (a := 1) (b := A) (by decide +kernel) hA; grind
  have AA9 : A * A ≤ 9 := by have := sq_le (show 0 ≤ A by grind) hA2; grind
  have sX := sq_nonneg X
  have sY := sq_nonneg Y
  have hA0 : 0 ≤ A := by grind
  have bd : ∀ {t : Rat}, t * t ≤ A * A * (1004 / 1000) → Bd t (A * (1002 / 1000)) := fun {t} ht => by
    have hq : A * A * (1004 / 1000) ≤ A * (1002 / 1000) * (A * (1002 / 1000)) := by grind
    constructor
    · have := le_of_sq (a := -t) (b := A * (1002 / 1000)) (by grind) (by grind)
      grind
    · exact le_of_sq (by grind) (by grind)
  have bX := bd (t := X) (by unfold Nr at h; grind)
  have bY := bd (t := Y) (by unfold Nr at h; grind)
  have AE := Rat.mul_le_mul_of_nonneg_left hE hA0
  have bx2 : Bd (R .f32 v.X) (A * (1003 / 1000)) := by unfold Nr Bd at *; constructor <;> grind
  have by2 : Bd (R .f32 v.Y) (A * (1003 / 1000)) := by unfold Nr Bd at *; constructor <;> grind
  have m1 := Nr.mul hx hx bX bx2
  have m2 := Nr.mul hy hy bY by2
  have m3 := sq_bd hz
  have m30 := sq_nonneg (R .f32 v.Z)
  have EE : E * E ≤ 1 / 10000 := by have := sq_le hE0 hE; grind
  have AE' : A * E ≤ A * A * (3 / 10000) := by
    have a1 := Rat.mul_le_mul_of_nonneg_left hA hA0
    grind
  have hQ : Nr (R .f32 v.X * R .f32 v.X + R .f32 v.Y * R .f32 v.Y + R .f32 v.Z * R .f32 v.Z) (A * A) (A * A * (6 / 1000)) := by
    unfold Nr at *
    constructor <;> grind
  obtain ⟨-, -, n, ρ, r1, r2, r3⟩ := size_fl v1 v2 v3 (B := 10) (by unfold Nr at hQ; grind) (by decide +kernel)
  rw [Size_eq]
  refine ⟨n, ?_⟩
  generalize R .f32 v.X * R .f32 v.X + R .f32 v.Y * R .f32 v.Y + R .f32 v.Z * R .f32 v.Z = S at *
  have h1 : ρ ≤ A * (1005 / 1000) := le_of_sq (by grind) (by unfold Nr at *; grind)
  have h2 : A * (995 / 1000) ≤ ρ := le_of_sq r1 (by unfold Nr at *; grind)
  unfold Nr at *
  constructor <;> grind

end Go.Proofs.Ytilfdpllleninaa
