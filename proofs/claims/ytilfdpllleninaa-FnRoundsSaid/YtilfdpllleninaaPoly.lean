/- The polygons: sines, sums, inverse cubes of their sides (tables, checked by computation). -/
import Derived.Test.YtilfdpllleninaaR6
namespace Go.Proofs.Ytilfdpllleninaa
open Ieee
set_option linter.unusedVariables false
set_option linter.unusedSimpArgs false

def polyC : List (List Nat) := [[], [], [1065353216, 3212836864], [1065353216, 3204448260, 3204448252], [1065353216, 2147483648, 3212836864, 0], [1065353216, 1050556284, 3209632699, 3209632699, 1050556272], [1065353216, 1056964604, 3204448260, 3212836864, 3204448252, 1056964593], [1065353216, 1059036424, 3194215552, 3211175399, 3211175396, 3194215552, 1059036429]]
def polyS : List (List Nat) := [[], [], [0, 2147483648], [0, 1063105495, 3210589144], [0, 1065353216, 2147483648, 3212836864], [0, 1064532081, 1058437400, 3205921050, 3212015728], [0, 1063105496, 1063105495, 2147483648, 3210589144, 3210589144], [0, 1061692956, 1064932576, 1054746114, 3202229767, 3212416225, 3209176603]]
def polySum : List Nat := [0, 0, 1065353216, 1075039546, 1081410804, 1085287752, 1089070748, 1091797316]
def polyO : List (List (List Rat)) := [[], [], [[0, 125000000000 / 1000000000000], [125000000000 / 1000000000000, 0]],
  [[0, 192450023495 / 1000000000000, 192450116799 / 1000000000000], [192450023495 / 1000000000000, 0, 192450080224 / 1000000000000], [192450116799 / 1000000000000, 192450080224 / 1000000000000, 0]],
  [[0, 353553390593 / 1000000000000, 125000000000 / 1000000000000, 353553390593 / 1000000000000], [353553390593 / 1000000000000, 0, 353553390593 / 1000000000000, 125000000000 / 1000000000000], [125000000000 / 1000000000000, 353553390593 / 1000000000000, 0, 353553390593 / 1000000000000], [353553390593 / 1000000000000, 125000000000 / 1000000000000, 353553390593 / 1000000000000, 0]],
  [[0, 615536739906 / 1000000000000, 145308530383 / 1000000000000, 145308521941 / 1000000000000, 615536485453 / 1000000000000], [615536739906 / 1000000000000, 0, 615536756414 / 1000000000000, 145308486459 / 1000000000000, 145308508390 / 1000000000000], [145308530383 / 1000000000000, 615536756414 / 1000000000000, 0, 615536546268 / 1000000000000, 145308567788 / 1000000000000], [145308521941 / 1000000000000, 145308486459 / 1000000000000, 615536546268 / 1000000000000, 0, 615537377487 / 1000000000000], [615536485453 / 1000000000000, 145308508390 / 1000000000000, 145308567788 / 1000000000000, 615537377487 / 1000000000000, 0]],
  [[0, 999999706712 / 1000000000000, 192450023495 / 1000000000000, 125000000000 / 1000000000000, 192450116799 / 1000000000000, 999999214974 / 1000000000000], [999999706712 / 1000000000000, 0, 999999642372 / 1000000000000, 192450116799 / 1000000000000, 125000008043 / 1000000000000, 192450060356 / 1000000000000], [192450023495 / 1000000000000, 999999642372 / 1000000000000, 0, 1000000398011 / 1000000000000, 192450080224 / 1000000000000, 125000014927 / 1000000000000], [125000000000 / 1000000000000, 192450116799 / 1000000000000, 1000000398011 / 1000000000000, 0, 999999706712 / 1000000000000, 192450211434 / 1000000000000], [192450116799 / 1000000000000, 125000008043 / 1000000000000, 192450080224 / 1000000000000, 999999706712 / 1000000000000, 0, 1000001698734 / 1000000000000], [999999214974 / 1000000000000, 192450060356 / 1000000000000, 125000014927 / 1000000000000, 192450211434 / 1000000000000, 1000001698734 / 1000000000000, 0]],
  [[0, 1530346936964 / 1000000000000, 261559575426 / 1000000000000, 134893938776 / 1000000000000, 134893968075 / 1000000000000, 261559556777 / 1000000000000, 1530347905200 / 1000000000000], [1530346936964 / 1000000000000, 0, 1530347206561 / 1000000000000, 261559450918 / 1000000000000, 134893942049 / 1000000000000, 134893950100 / 1000000000000, 261559540226 / 1000000000000], [261559575426 / 1000000000000, 1530347206561 / 1000000000000, 0, 1530346045157 / 1000000000000, 261559467562 / 1000000000000, 134893950391 / 1000000000000, 134893945554 / 1000000000000], [134893938776 / 1000000000000, 261559450918 / 1000000000000, 1530346045157 / 1000000000000, 0, 1530346252610 / 1000000000000, 261559469051 / 1000000000000, 134893891670 / 1000000000000], [134893968075 / 1000000000000, 134893942049 / 1000000000000, 261559467562 / 1000000000000, 1530346252610 / 1000000000000, 0, 1530347079722 / 1000000000000, 261559415891 / 1000000000000], [261559556777 / 1000000000000, 134893950100 / 1000000000000, 134893950391 / 1000000000000, 261559469051 / 1000000000000, 1530347079722 / 1000000000000, 0, 1530345529019 / 1000000000000], [1530347905200 / 1000000000000, 261559540226 / 1000000000000, 134893945554 / 1000000000000, 134893891670 / 1000000000000, 261559415891 / 1000000000000, 1530345529019 / 1000000000000, 0]]]
def cN (n k : Nat) : Nat := (polyC.getD n []).getD k 0
def sN (n k : Nat) : Nat := (polyS.getD n []).getD k 0
def sumN (n : Nat) : Nat := polySum.getD n 0
def oN (n i k : Nat) : Rat := ((polyO.getD n []).getD i []).getD k 0
def pxN (n k : Nat) : Rat := R .f32 (cN n k)
def pyN (n k : Nat) : Rat := R .f32 (sN n k)
def chordN (n i k : Nat) : Rat := (pxN n k - pxN n i) * (pxN n k - pxN n i) + (pyN n k - pyN n i) * (pyN n k - pyN n i)

def nearB (a b E : Rat) : Bool := decide (-E ≤ a - b) && decide (a - b ≤ E)
theorem nearB_of {a b E : Rat} (h : nearB a b E = true) : Nr a b E := by
  unfold nearB at h
  rw [Bool.and_eq_true, decide_eq_true_eq, decide_eq_true_eq] at h
  exact h

def pairC (n i k : Nat) : Bool := decide (0 ≤ oN n i k) && (decide (3 / 4 ≤ chordN n i k) && (decide (chordN n i k ≤ 42 / 10) && nearB (oN n i k * oN n i k * (chordN n i k * chordN n i k * chordN n i k)) 1 (1 / 1000000)))
def rowC (n i : Nat) : Bool := (List.range n).all fun k => k == i || pairC n i k
def sumC (n i : Nat) : Bool :=
  nearB (rs i (fun k => oN n i k * (pxN n k - pxN n i)) n) (-(R .f32 (sumN n) / 4 * pxN n i)) (22 / 10000000) &&
  (nearB (rs i (fun k => oN n i k * (pyN n k - pyN n i)) n) (-(R .f32 (sumN n) / 4 * pyN n i)) (22 / 10000000) &&
  (decide (rs i (fun k => oN n i k) n ≤ 387 / 100) && (decide (rs i (fun k => oN n i k * (oN n i k * (chordN n i k * chordN n i k))) n ≤ 405 / 100) &&
  (nearB (pxN n i * pxN n i + pyN n i * pyN n i) 1 (1 / 1000000) && (isNum .f32 (cN n i) && isNum .f32 (sN n i))))))

theorem row_2 : ∀ i : Fin 2, rowC 2 i.val = true := by decide +kernel
theorem sum_2 : ∀ i : Fin 2, sumC 2 i.val = true := by decide +kernel
theorem row_3 : ∀ i : Fin 3, rowC 3 i.val = true := by decide +kernel
theorem sum_3 : ∀ i : Fin 3, sumC 3 i.val = true := by decide +kernel
theorem row_4 : ∀ i : Fin 4, rowC 4 i.val = true := by decide +kernel
theorem sum_4 : ∀ i : Fin 4, sumC 4 i.val = true := by decide +kernel
theorem row_5 : ∀ i : Fin 5, rowC 5 i.val = true := by decide +kernel
theorem sum_5 : ∀ i : Fin 5, sumC 5 i.val = true := by decide +kernel
theorem row_6 : ∀ i : Fin 6, rowC 6 i.val = true := by decide +kernel
theorem sum_6 : ∀ i : Fin 6, sumC 6 i.val = true := by decide +kernel
theorem row_7 : ∀ i : Fin 7, rowC 7 i.val = true := by decide +kernel
theorem sum_7 : ∀ i : Fin 7, sumC 7 i.val = true := by decide +kernel
theorem rows_ok {n i : Nat} (h2 : 2 ≤ n) (h7 : n ≤ 7) (hi : i < n) : rowC n i = true := by
  have : n = 2 ∨ n = 3 ∨ n = 4 ∨ n = 5 ∨ n = 6 ∨ n = 7 := by omega
  rcases this with rfl | rfl | rfl | rfl | rfl | rfl
  · exact row_2 ⟨i, hi⟩
  · exact row_3 ⟨i, hi⟩
  · exact row_4 ⟨i, hi⟩
  · exact row_5 ⟨i, hi⟩
  · exact row_6 ⟨i, hi⟩
  · exact row_7 ⟨i, hi⟩
theorem sums_ok {n i : Nat} (h2 : 2 ≤ n) (h7 : n ≤ 7) (hi : i < n) : sumC n i = true := by
  have : n = 2 ∨ n = 3 ∨ n = 4 ∨ n = 5 ∨ n = 6 ∨ n = 7 := by omega
  rcases this with rfl | rfl | rfl | rfl | rfl | rfl
  · exact sum_2 ⟨i, hi⟩
  · exact sum_3 ⟨i, hi⟩
  · exact sum_4 ⟨i, hi⟩
  · exact sum_5 ⟨i, hi⟩
  · exact sum_6 ⟨i, hi⟩
  · exact sum_7 ⟨i, hi⟩

/-! ## What the program's sines answer -/

def argN (n k : Nat) : Nat := fdiv .f32 (fofInt .f32 (k : Int)) (fofInt .f32 (n : Int))
def sineB (n k : Nat) : Prop := (impl_SineTurns_need (fadd .f32 (argN n k) 1048576000) = true ∧ impl_SineTurns (fadd .f32 (argN n k) 1048576000) = cN n k) ∧ impl_SineTurns_need (argN n k) = true ∧ impl_SineTurns (argN n k) = sN n k
def halfB (n k : Nat) : Prop := impl_SineTurns_need (argN (2 * n) k) = true
/-- The sum of the inverse sines. -/
noncomputable def sumF (n : Nat) : Nat → Nat
  | 0 => 0
  | k + 1 => fadd .f32 (sumF n k) (fdiv .f32 1065353216 (impl_SineTurns (argN (2 * n) (k + 1))))

theorem sine_2 : ∀ k : Fin 2, sineB 2 k.val := by unfold sineB; decide +kernel
theorem half_2 : ∀ k : Fin 2, halfB 2 k.val := by unfold halfB; decide +kernel
theorem sumF_2 : sumF 2 1 = sumN 2 := by decide +kernel
theorem sine_3 : ∀ k : Fin 3, sineB 3 k.val := by unfold sineB; decide +kernel
theorem half_3 : ∀ k : Fin 3, halfB 3 k.val := by unfold halfB; decide +kernel
theorem sumF_3 : sumF 3 2 = sumN 3 := by decide +kernel
theorem sine_4 : ∀ k : Fin 4, sineB 4 k.val := by unfold sineB; decide +kernel
theorem half_4 : ∀ k : Fin 4, halfB 4 k.val := by unfold halfB; decide +kernel
theorem sumF_4 : sumF 4 3 = sumN 4 := by decide +kernel
theorem sine_5 : ∀ k : Fin 5, sineB 5 k.val := by unfold sineB; decide +kernel
theorem half_5 : ∀ k : Fin 5, halfB 5 k.val := by unfold halfB; decide +kernel
theorem sumF_5 : sumF 5 4 = sumN 5 := by decide +kernel
theorem sine_6 : ∀ k : Fin 6, sineB 6 k.val := by unfold sineB; decide +kernel
theorem half_6 : ∀ k : Fin 6, halfB 6 k.val := by unfold halfB; decide +kernel
theorem sumF_6 : sumF 6 5 = sumN 6 := by decide +kernel
theorem sine_7 : ∀ k : Fin 7, sineB 7 k.val := by unfold sineB; decide +kernel
theorem half_7 : ∀ k : Fin 7, halfB 7 k.val := by unfold halfB; decide +kernel
theorem sumF_7 : sumF 7 6 = sumN 7 := by decide +kernel
theorem sines_ok {n k : Nat} (h2 : 2 ≤ n) (h7 : n ≤ 7) (hk : k < n) : sineB n k ∧ halfB n k ∧ sumF n (n - 1) = sumN n := by
  have : n = 2 ∨ n = 3 ∨ n = 4 ∨ n = 5 ∨ n = 6 ∨ n = 7 := by omega
  rcases this with rfl | rfl | rfl | rfl | rfl | rfl
  · exact ⟨sine_2 ⟨k, hk⟩, half_2 ⟨k, hk⟩, sumF_2⟩
  · exact ⟨sine_3 ⟨k, hk⟩, half_3 ⟨k, hk⟩, sumF_3⟩
  · exact ⟨sine_4 ⟨k, hk⟩, half_4 ⟨k, hk⟩, sumF_4⟩
  · exact ⟨sine_5 ⟨k, hk⟩, half_5 ⟨k, hk⟩, sumF_5⟩
  · exact ⟨sine_6 ⟨k, hk⟩, half_6 ⟨k, hk⟩, sumF_6⟩
  · exact ⟨sine_7 ⟨k, hk⟩, half_7 ⟨k, hk⟩, sumF_7⟩

/-! ## A polygon is a ring -/

theorem rs_scale (i : Nat) (a : Rat) (f : Nat → Rat) (n : Nat) : rs i (fun k => a * f k) n = a * rs i f n := by
  have h := rs_lin i a 0 f f n
  have e : rs i (fun k => a * f k) n = rs i (fun k => a * f k + 0 * f k) n := rs_congr fun k _ _ => by grind
  rw [e, h]
  grind

theorem poly_ring {n : Nat} (h2 : 2 ≤ n) (h7 : n ≤ 7) {m : Nat} (hm : I .f32 m (some (1 / 4, 2))) : Ring n (fun _ => m) (pxN n) (pyN n) (oN n) (R .f32 m * (R .f32 (sumN n) / 4)) (775 / 100) (81 / 10) := by
  have hm2 := hm.2
  have row : ∀ i k, i < n → k < n → k ≠ i → pairC n i k = true := fun i k hi hk hik => by
    have h := rows_ok h2 h7 hi
    unfold rowC at h
    rw [List.all_eq_true] at h
    have h := h k (List.mem_range.2 hk)
    rw [Bool.or_eq_true] at h
    rcases h with h | h
    · exact absurd (by simpa using h) hik
    · exact h
  have sm : ∀ i, i < n → sumC n i = true := fun i hi => sums_ok h2 h7 hi
  refine ⟨h7, fun j _ => ⟨hm.1, by grind, by grind⟩, fun j hj => ?_, fun i j hi hj hij => ?_, fun i j hi hj hij => ?_, fun i j hi hj hij => ?_, fun i j hi hj hij => ?_, fun i hi => ?_, fun i hi => ?_, fun i hi => ?_, fun i hi => ?_⟩
  · have h := sm j hj
    unfold sumC at h
    simp only [Bool.and_eq_true] at h
    have q := nearB_of h.2.2.2.2.1
    have s1 := sq_nonneg (pxN n j)
    have s2 := sq_nonneg (pyN n j)
    unfold Nr at q
    exact ⟨bd_sq (u := 101 / 100) (by grind) (by decide +kernel), bd_sq (u := 101 / 100) (by grind) (by decide +kernel)⟩
  · have h := row i j hi hj hij
    unfold pairC at h
    simp only [Bool.and_eq_true, decide_eq_true_eq] at h
    exact h.1
  · have h := row i j hi hj hij
    unfold pairC at h
    simp only [Bool.and_eq_true, decide_eq_true_eq] at h
    exact h.2.1
  · have h := row i j hi hj hij
    unfold pairC at h
    simp only [Bool.and_eq_true, decide_eq_true_eq] at h
    exact h.2.2.1
  · have h := row i j hi hj hij
    unfold pairC at h
    simp only [Bool.and_eq_true] at h
    exact nearB_of h.2.2.2
  · have h := sm i hi
    unfold sumC at h
    simp only [Bool.and_eq_true] at h
    have q := nearB_of h.1
    have e : rs i (fun k => R .f32 m * oN n i k * (pxN n k - pxN n i)) n = R .f32 m * rs i (fun k => oN n i k * (pxN n k - pxN n i)) n := by
      rw [← rs_scale]
      exact rs_congr fun k _ _ => by grind
    rw [e]
    have b := Bd.mul (show Bd (R .f32 m) 2 by unfold Bd; constructor <;> grind) (Nr.bd.1 q)
    unfold Nr
    unfold Bd at b
    constructor <;> grind
  · have h := sm i hi
    unfold sumC at h
    simp only [Bool.and_eq_true] at h
    have q := nearB_of h.2.1
    have e : rs i (fun k => R .f32 m * oN n i k * (pyN n k - pyN n i)) n = R .f32 m * rs i (fun k => oN n i k * (pyN n k - pyN n i)) n := by
      rw [← rs_scale]
      exact rs_congr fun k _ _ => by grind
    rw [e]
    have b := Bd.mul (show Bd (R .f32 m) 2 by unfold Bd; constructor <;> grind) (Nr.bd.1 q)
    unfold Nr
    unfold Bd at b
    constructor <;> grind
  · have h := sm i hi
    unfold sumC at h
    simp only [Bool.and_eq_true, decide_eq_true_eq] at h
    rw [rs_scale]
    have h3 := h.2.2.1
    have := Rat.mul_le_mul_of_nonneg_left h3 (show 0 ≤ R .f32 m by grind)
    grind
  · have h := sm i hi
    unfold sumC at h
    simp only [Bool.and_eq_true, decide_eq_true_eq] at h
    have h3 := h.2.2.2.1
    show rs i (fun k => R .f32 m * (oN n i k * (oN n i k * (chordN n i k * chordN n i k)))) n ≤ _
    rw [rs_scale]
    have := Rat.mul_le_mul_of_nonneg_left h3 (show 0 ≤ R .f32 m by grind)
    grind

end Go.Proofs.Ytilfdpllleninaa
