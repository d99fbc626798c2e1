/- Pulls on bodies that are turned or moved: near to the turned pulls. -/
import Derived.Test.YtilfdpllleninaaPair
namespace Go.Proofs.Ytilfdpllleninaa
open Ieee
set_option linter.unusedVariables false
set_option linter.unusedSimpArgs false

theorem pair_r {Q r s m X : Rat} (h : PairF Q r s m) (hX : X * X ≤ Q) : Bd X (r * (1 + 1 / 1000000)) := by
  obtain ⟨r0, s0, q0, rr, ss⟩ := h
  have h1 : ∀ Y : Rat, Y * Y ≤ Q → Y ≤ r * (1 + 1 / 1000000) := fun Y hY => by
    refine le_of_sq (by grind) ?_
    unfold Nr at rr
    grind
  have h2 := h1 X hX
  have h3 := h1 (-X) (by grind)
  unfold Bd
  constructor <;> grind

/-- A product with a small factor, by squares. -/
theorem cross_bd {p α t e : Rat} (ht : 0 < t) (hα : α * α ≤ e * t) : Bd (2 * (p * α)) (t * (p * p) + e) := by
  have h1 := sq_nonneg (α - t * p)
  have h2 := sq_nonneg (α + t * p)
  have key : ∀ x : Rat, x * t ≤ (t * (p * p) + e) * t → x ≤ t * (p * p) + e := fun x hx => Rat.le_of_mul_le_mul_right hx ht
  unfold Bd
  constructor
  · have := key (-(2 * (p * α))) (by grind)
    grind
  · exact key _ (by grind)

theorem sq_bd {a e : Rat} (h : Bd a e) : a * a ≤ e * e := by
  obtain ⟨h1, h2⟩ := h
  rcases Rat.le_total (a := 0) (b := a) with g | g
  · exact sq_le g h2
  · have := sq_le (show 0 ≤ -a by grind) (show -a ≤ e by grind)
    grind

/-- The square of a way that is turned. -/
theorem geo {a b c C S X Y : Rat} (hx : Nr X (C * a - S * b) (31 / 10000000)) (hy : Nr Y (S * a + C * b) (31 / 10000000)) (hk : Nr (C * C + S * S) 1 (1 / 4000000)) (hQ : 1 ≤ a * a + b * b + c * c) :
    Nr (X * X + Y * Y + c * c + 1 / 16) (a * a + b * b + c * c + 1 / 16) ((a * a + b * b + c * c + 1 / 16) / 90000) := by
  obtain ⟨α, hα⟩ : ∃ α, X = (C * a - S * b) + α := ⟨X - (C * a - S * b), by grind⟩
  obtain ⟨β, hβ⟩ : ∃ β, Y = (S * a + C * b) + β := ⟨Y - (S * a + C * b), by grind⟩
  subst hα hβ
  have ba : Bd α (31 / 10000000) := by unfold Nr at hx; unfold Bd; constructor <;> grind
  have bb : Bd β (31 / 10000000) := by unfold Nr at hy; unfold Bd; constructor <;> grind
  have sa := sq_bd ba
  have sb := sq_bd bb
  have ta := sq_nonneg α
  have tb := sq_nonneg β
  obtain ⟨ca1, ca2⟩ := cross_bd (p := C * a - S * b) (t := 31 / 10000000) (e := 31 / 10000000) (by grind) (by grind : α * α ≤ _)
  obtain ⟨cb1, cb2⟩ := cross_bd (p := S * a + C * b) (t := 31 / 10000000) (e := 31 / 10000000) (by grind) (by grind : β * β ≤ _)
  have saa := sq_nonneg a
  have sbb := sq_nonneg b
  have scc := sq_nonneg c
  have hturn : (C * a - S * b) * (C * a - S * b) + (S * a + C * b) * (S * a + C * b) = (C * C + S * S) * (a * a + b * b) := by grind
  obtain ⟨k1, k2⟩ := hk
  have m1 := Rat.mul_le_mul_of_nonneg_right k1 (show 0 ≤ a * a + b * b by grind)
  have m2 := Rat.mul_le_mul_of_nonneg_right k2 (show 0 ≤ a * a + b * b by grind)
  generalize hP : (C * a - S * b) = P at *
  generalize hR : (S * a + C * b) = R' at *
  generalize hK : C * C + S * S = K at *
  clear hP hR hK hx hy ba bb
  unfold Nr
  constructor <;> grind

/-- The share of a body that is turned, times the way to it. -/
theorem share_near {a b c C S X Y r s r' s' m : Rat} (hx : Nr X (C * a - S * b) (31 / 10000000)) (hy : Nr Y (S * a + C * b) (31 / 10000000)) (hk : Nr (C * C + S * S) 1 (1 / 4000000)) (hQ : 1 ≤ a * a + b * b + c * c) (hm : m ≤ 2)
    (h : PairF (a * a + b * b + c * c + 1 / 16) r s m) (h' : PairF (X * X + Y * Y + c * c + 1 / 16) r' s' m) :
    Nr (X * s') (C * (a * s) - S * (b * s)) (9 / 100000) ∧ Nr (Y * s') (S * (a * s) + C * (b * s)) (9 / 100000) ∧ Nr (c * s') (c * s) (9 / 100000) := by
  have hg := geo hx hy hk hQ
  have n1 := pair_near h h' (hg.mono (by have := h.q0; grind))
  have n2 := pair_near h' h (by
    have := h.q0
    unfold Nr at hg ⊢
    constructor <;> grind)
  have sX := sq_nonneg X
  have sY := sq_nonneg Y
  have sc := sq_nonneg c
  have bX := pair_r h' (X := X) (by grind)
  have bY := pair_r h' (X := Y) (by grind)
  have bc := pair_r h' (X := c) (by grind)
  have s0 := h.s0
  have s0' := h'.s0
  have r0' := h'.r0
  have r0 := h.r0
  -- r' s' is at most 2
  have hQ' : 1 ≤ X * X + Y * Y + c * c + 1 / 16 := by unfold Nr at hg; grind
  have hrs : r' * s' ≤ 200001 / 100000 := by
    have := h'.ss
    unfold Nr at this
    have h0 : 0 ≤ r' * s' := Rat.mul_nonneg (by grind) s0'
    have h1 := Rat.mul_le_mul_of_nonneg_right hQ' h0
    grind
  have hs : s ≤ 201 / 100 := by
    have hr1 : 99 / 100 ≤ r := le_of_sq (by grind) (by have := h.rr; unfold Nr at this; grind)
    have h2 : 105 / 100 ≤ (a * a + b * b + c * c + 1 / 16) * r := by
      have := Rat.mul_le_mul_of_nonneg_right (show 17 / 16 ≤ a * a + b * b + c * c + 1 / 16 by grind) (show 0 ≤ r by grind)
      grind
    have h3 := Rat.mul_le_mul_of_nonneg_left h2 s0
    have := h.ss
    unfold Nr at this
    grind
  -- the shares differ by little
  have hd : Bd (s' - s) (s' * (4 / 100000)) := by unfold Bd; constructor <;> grind
  have key : ∀ Z P : Rat, Bd Z (r' * (1 + 1 / 1000000)) → Nr Z P (31 / 10000000) → Nr (Z * s') (P * s) (9 / 100000) := fun Z P hZ hP => by
    have p1 := hZ.mul hd
    have p2 : Bd ((Z - P) * s) (31 / 10000000 * s) := Bd.mul (M := 31 / 10000000) (N := s) hP ⟨by grind, by grind⟩
    have p3 : r' * (1 + 1 / 1000000) * (s' * (4 / 100000)) ≤ 801 / 10000000 := by grind
    unfold Bd at p1 p2
    unfold Nr
    constructor <;> grind
  refine ⟨?_, ?_, ?_⟩
  · have := key X _ bX hx
    unfold Nr at this ⊢
    constructor <;> grind
  · have := key Y _ bY hy
    unfold Nr at this ⊢
    constructor <;> grind
  · exact key c c bc ((Nr.refl c).mono (by grind))

end Go.Proofs.Ytilfdpllleninaa
