/- Plain facts on floats: sums, differences and products of numbers that have few digits are exact. -/
import Derived.Test.YtilfdpllleninaaEngX
namespace Go.Proofs.Ytilfdpllleninaa
open Ieee
set_option linter.unusedVariables false
set_option linter.unusedSimpArgs false

theorem nearest_same {k : FloatKind} {s : Bool} {M N : Nat} {p j : Int} (h : M * 2 ^ (p - min p j).toNat = N * 2 ^ (j - min p j).toNat) : k.format.nearest s M p = k.format.nearest s N j := by
  have a := nearest_scale (k := k) (neg := s) (m := M) (s := (p - min p j).toNat) (p := min p j)
  have b := nearest_scale (k := k) (neg := s) (m := N) (s := (j - min p j).toNat) (p := min p j)
  rw [show min p j + (((p - min p j).toNat : Nat) : Int) = p from by omega] at a
  rw [show min p j + (((j - min p j).toNat : Nat) : Int) = j from by omega] at b
  rw [← a, ← b, h]

theorem zero_num (k : FloatKind) (s : Bool) (j : Int) : isNum k (k.format.nearest s 0 j) = true ∧ V k (k.format.nearest s 0 j) = 0 := by
  have : k.format.nearest s 0 j = k.format.word s 0 := by unfold Format.nearest; rw [if_pos rfl]
  rw [this]
  cases k <;> cases s <;> decide +kernel

/-- A number that has few digits is written as it is. -/
theorem nearest_at {k : FloatKind} {s : Bool} {m : Nat} {j : Int} (hj : lplace k + fbits k ≤ j) (hj2 : j + fbits k ≤ emax k) (h : m < 2 ^ (fbits k + 1)) :
    isNum k (k.format.nearest s m j) = true ∧ V k (k.format.nearest s m j) = signed s m (j - lplace k).toNat := by
  by_cases h0 : m = 0
  · subst h0
    obtain ⟨a, b⟩ := zero_num k s j
    exact ⟨a, by rw [b]; cases s <;> simp [signed]⟩
  have hlog : m.log2 ≤ fbits k := by
    have := (Nat.log2_lt h0).2 h
    omega
  have e : k.format.nearest s m j = k.format.nearest s (m * 2 ^ (fbits k - m.log2)) (j - ((fbits k - m.log2 : Nat) : Int)) := by
    rw [nearest_scale]
    congr 1
    omega
  have hd : k.format.read (k.format.nearest s m j) = .number s (m * 2 ^ (fbits k - m.log2)) (j - ((fbits k - m.log2 : Nat) : Int)) := by
    rw [e]
    refine read_nearest ?_ ?_ (by omega) (by omega)
    · calc 2 ^ fbits k = 2 ^ m.log2 * 2 ^ (fbits k - m.log2) := by rw [← Nat.pow_add]; congr 1; omega
        _ ≤ _ := Nat.mul_le_mul_right _ (Nat.log2_self_le h0)
    · calc m * 2 ^ (fbits k - m.log2) < 2 ^ (m.log2 + 1) * 2 ^ (fbits k - m.log2) := Nat.mul_lt_mul_of_pos_right Nat.lt_log2_self (Nat.pow_pos (by decide))
        _ = _ := by rw [← Nat.pow_add]; congr 1; omega
  refine ⟨isNum_iff.2 ⟨_, _, _, hd⟩, ?_⟩
  unfold V
  rw [hd]
  simp only [vd]
  unfold signed
  have e2 : (m * 2 ^ (fbits k - m.log2)) <<< (j - ((fbits k - m.log2 : Nat) : Int) - lplace k).toNat = m <<< (j - lplace k).toNat := by
    rw [Nat.shiftLeft_eq, Nat.shiftLeft_eq, Nat.mul_assoc, ← Nat.pow_add]
    congr 2
    omega
  rw [e2]

/-- A number whose value is n times two to the j. -/
def Wh (k : FloatKind) (j : Int) (x : Nat) (n : Int) : Prop := isNum k x = true ∧ V k x = n * ((2 ^ (j - lplace k).toNat : Nat) : Int)

theorem signed_of (t : Int) (u : Nat) : signed (decide (t < 0)) t.natAbs u = t * ((2 ^ u : Nat) : Int) := by
  unfold signed
  rw [Nat.shiftLeft_eq]
  by_cases h : t < 0
  · simp only [h, decide_true, if_true]
    push_cast
    rw [← Int.neg_mul]
    congr 1
    omega
  · simp only [h, decide_false, Bool.false_eq_true, if_false]
    push_cast
    congr 1
    omega

/-- What is written of t times two to the b, where that is n times two to the j. -/
theorem write_at {k : FloatKind} {j b : Int} {s : Bool} {t n : Int} (hj : lplace k + fbits k ≤ j) (hj2 : j + fbits k ≤ emax k) (hn : n.natAbs < 2 ^ (fbits k + 1)) (hs : t ≠ 0 → s = decide (t < 0))
    (h : t * ((2 ^ (b - min b j).toNat : Nat) : Int) = n * ((2 ^ (j - min b j).toNat : Nat) : Int)) : Wh k j (canon k (k.format.nearest s t.natAbs b)) n := by
  have habs : t.natAbs * 2 ^ (b - min b j).toNat = n.natAbs * 2 ^ (j - min b j).toNat := by
    have := congrArg Int.natAbs h
    rw [Int.natAbs_mul, Int.natAbs_mul, Int.natAbs_natCast, Int.natAbs_natCast] at this
    exact this
  rw [nearest_same habs]
  obtain ⟨h1, h2⟩ := nearest_at (s := s) hj hj2 hn
  obtain ⟨_, _, _, hd⟩ := isNum_iff.1 h1
  rw [canon_num hd]
  refine ⟨h1, ?_⟩
  rw [h2]
  by_cases h0 : t = 0
  · subst h0
    have hn0 : n = 0 := by
      rw [Int.zero_mul] at h
      rcases Int.mul_eq_zero.1 h.symm with h | h
      · exact h
      · have : 0 < 2 ^ (j - min b j).toNat := Nat.pow_pos (by decide)
        omega
    subst hn0
    cases s <;> simp [signed]
  · have hp1 : (0 : Int) < ((2 ^ (b - min b j).toNat : Nat) : Int) := by exact_mod_cast Nat.pow_pos (by decide)
    have hp2 : (0 : Int) < ((2 ^ (j - min b j).toNat : Nat) : Int) := by exact_mod_cast Nat.pow_pos (by decide)
    have hsg : s = decide (n < 0) := by
      rw [hs h0]
      congr 1
      apply propext
      constructor
      · intro ht
        have : t * ((2 ^ (b - min b j).toNat : Nat) : Int) < 0 := Int.mul_neg_of_neg_of_pos ht hp1
        rw [h] at this
        rcases Int.lt_or_le n 0 with hlt | hge
        · exact hlt
        · have := Int.mul_nonneg hge (Int.le_of_lt hp2)
          omega
      · intro ht
        have : n * ((2 ^ (j - min b j).toNat : Nat) : Int) < 0 := Int.mul_neg_of_neg_of_pos ht hp2
        rw [← h] at this
        rcases Int.lt_or_le t 0 with hlt | hge
        · exact hlt
        · have := Int.mul_nonneg hge (Int.le_of_lt hp1)
          omega
    rw [hsg]
    exact signed_of n _

theorem scale_down {t n : Int} {b j l : Int} (hb : l ≤ b) (hj : l ≤ j) (h : t * ((2 ^ (b - l).toNat : Nat) : Int) = n * ((2 ^ (j - l).toNat : Nat) : Int)) :
    t * ((2 ^ (b - min b j).toNat : Nat) : Int) = n * ((2 ^ (j - min b j).toNat : Nat) : Int) := by
  have e1 : (b - l).toNat = (b - min b j).toNat + (min b j - l).toNat := by omega
  have e2 : (j - l).toNat = (j - min b j).toNat + (min b j - l).toNat := by omega
  have hp : (0 : Int) < ((2 ^ (min b j - l).toNat : Nat) : Int) := by exact_mod_cast Nat.pow_pos (by decide)
  rw [e1, e2, Nat.pow_add, Nat.pow_add] at h
  push_cast at h ⊢
  rw [← Int.mul_assoc, ← Int.mul_assoc] at h
  push_cast at hp
  exact Int.eq_of_mul_eq_mul_right (by omega) h

theorem sum_core {k : FloatKind} {j : Int} {s u : Bool} {a c : Nat} {p q : Int} {m n : Int} {sg : Bool} (hj : lplace k + fbits k ≤ j) (hj2 : j + fbits k ≤ emax k) (hn : (m + n).natAbs < 2 ^ (fbits k + 1))
    (hp : lplace k ≤ p) (hq : lplace k ≤ q) (h1 : signed s a (p - lplace k).toNat = m * ((2 ^ (j - lplace k).toNat : Nat) : Int)) (h2 : signed u c (q - lplace k).toNat = n * ((2 ^ (j - lplace k).toNat : Nat) : Int))
    (hs : signed s a (p - min p q).toNat + signed u c (q - min p q).toNat ≠ 0 → sg = decide (signed s a (p - min p q).toNat + signed u c (q - min p q).toNat < 0)) :
    Wh k j (canon k (k.format.nearest sg (signed s a (p - min p q).toNat + signed u c (q - min p q).toNat).natAbs (min p q))) (m + n) := by
  have hl : (0 : Int) ≤ fbits k := by omega
  refine write_at hj hj2 hn hs (scale_down (l := lplace k) (by omega) (by omega) ?_)
  have e1 : (p - lplace k).toNat = (p - min p q).toNat + (min p q - lplace k).toNat := by omega
  have e2 : (q - lplace k).toNat = (q - min p q).toNat + (min p q - lplace k).toNat := by omega
  rw [e1, signed_up] at h1
  rw [e2, signed_up] at h2
  rw [Int.add_mul, Int.add_mul, h1, h2]

theorem add_at {k : FloatKind} {j : Int} {x y : Nat} {m n : Int} (hj : lplace k + fbits k ≤ j) (hj2 : j + fbits k ≤ emax k) (hx : Wh k j x m) (hy : Wh k j y n) (h : (m + n).natAbs < 2 ^ (fbits k + 1)) : Wh k j (fadd k x y) (m + n) := by
  obtain ⟨hx, vx⟩ := hx
  obtain ⟨hy, vy⟩ := hy
  obtain ⟨s, a, p, hx⟩ := isNum_iff.1 hx
  obtain ⟨u, c, q, hy⟩ := isNum_iff.1 hy
  have h1 := place_ge hx
  have h2 := place_ge hy
  rw [lp_eq] at h1 h2
  unfold V at vx vy
  rw [hx] at vx
  rw [hy] at vy
  simp only [vd] at vx vy
  unfold fadd Format.add
  rw [hx, hy]
  simp only [Datum.sum, Option.map_some, fopt, Format.write]
  refine sum_core hj hj2 h h1 h2 vx vy fun hne => ?_
  rw [if_neg hne]

theorem sub_at {k : FloatKind} {j : Int} {x y : Nat} {m n : Int} (hj : lplace k + fbits k ≤ j) (hj2 : j + fbits k ≤ emax k) (hx : Wh k j x m) (hy : Wh k j y n) (h : (m - n).natAbs < 2 ^ (fbits k + 1)) : Wh k j (fsub k x y) (m - n) := by
  obtain ⟨hx, vx⟩ := hx
  obtain ⟨hy, vy⟩ := hy
  obtain ⟨s, a, p, hx⟩ := isNum_iff.1 hx
  obtain ⟨u, c, q, hy⟩ := isNum_iff.1 hy
  have h1 := place_ge hx
  have h2 := place_ge hy
  rw [lp_eq] at h1 h2
  unfold V at vx vy
  rw [hx] at vx
  rw [hy] at vy
  simp only [vd] at vx vy
  have hneg : signed (!u) c (q - lplace k).toNat = (-n) * ((2 ^ (j - lplace k).toNat : Nat) : Int) := by
    rw [Int.neg_mul, ← vy]
    unfold signed
    cases u <;> simp
  unfold fsub Format.sub
  rw [hx, hy]
  simp only [Datum.opposite, Datum.sum, Option.map_some, fopt, Format.write]
  rw [show m - n = m + -n from Int.sub_eq_add_neg] at h ⊢
  refine sum_core hj hj2 h h1 h2 vx hneg fun hne => ?_
  rw [if_neg hne]

theorem mul_at {k : FloatKind} {i j : Int} {x y : Nat} {m n : Int} (hi : lplace k ≤ i) (hj0 : lplace k ≤ j) (hj : lplace k + fbits k ≤ i + j) (hj2 : i + j + fbits k ≤ emax k) (hx : Wh k i x m) (hy : Wh k j y n) (h : (m * n).natAbs < 2 ^ (fbits k + 1)) : Wh k (i + j) (fmul k x y) (m * n) := by
  obtain ⟨hx, vx⟩ := hx
  obtain ⟨hy, vy⟩ := hy
  obtain ⟨s, a, p, hx⟩ := isNum_iff.1 hx
  obtain ⟨u, c, q, hy⟩ := isNum_iff.1 hy
  have h1 := place_ge hx
  have h2 := place_ge hy
  rw [lp_eq] at h1 h2
  unfold V at vx vy
  rw [hx] at vx
  rw [hy] at vy
  simp only [vd] at vx vy
  unfold fmul Format.mul
  rw [hx, hy]
  simp only [Datum.product, Option.map_some, fopt, Format.write]
  have hprod : signed (s != u) (a * c) ((p - lplace k).toNat + (q - lplace k).toNat) = (m * n) * ((2 ^ ((i - lplace k).toNat + (j - lplace k).toNat) : Nat) : Int) := by
    have e : signed (s != u) (a * c) ((p - lplace k).toNat + (q - lplace k).toNat) = signed s a (p - lplace k).toNat * signed u c (q - lplace k).toNat := by
      unfold signed
      simp only [Nat.shiftLeft_eq, Nat.pow_add]
      have e2 : a * c * (2 ^ (p - lplace k).toNat * 2 ^ (q - lplace k).toNat) = a * 2 ^ (p - lplace k).toNat * (c * 2 ^ (q - lplace k).toNat) := by
        simp only [Nat.mul_assoc, Nat.mul_left_comm]
      rw [e2]
      cases s <;> cases u <;> simp [Int.natCast_mul, Int.neg_mul, Int.mul_neg]
    rw [e, vx, vy, Nat.pow_add]
    push_cast
    simp only [Int.mul_assoc, Int.mul_left_comm]
  have hT : ∀ u0 : Nat, signed (s != u) (a * c) u0 = signed (s != u) (a * c) 0 * ((2 ^ u0 : Nat) : Int) := fun u0 => by
    have := signed_up (s != u) (a * c) 0 u0
    rw [Nat.zero_add] at this
    exact this
  have habs : (signed (s != u) (a * c) 0).natAbs = a * c := by rw [signed_abs, Nat.pow_zero, Nat.mul_one]
  have := write_at (k := k) (j := i + j) (b := p + q) (s := s != u) (t := signed (s != u) (a * c) 0) (n := m * n) hj hj2 h (fun hne => by
    have hac : a * c ≠ 0 := fun e => hne (by rw [e]; cases (s != u) <;> simp [signed])
    exact (signed_neg hac).symm) (scale_down (l := lplace k + lplace k) (by omega) (by omega) (by
      have e1 : (p + q - (lplace k + lplace k)).toNat = (p - lplace k).toNat + (q - lplace k).toNat := by omega
      have e2 : (i + j - (lplace k + lplace k)).toNat = (i - lplace k).toNat + (j - lplace k).toNat := by omega
      rw [e1, e2, ← hT]
      exact hprod))
  rw [habs] at this
  exact this

theorem Wh.eq {k : FloatKind} {j : Int} {x y : Nat} {m n : Int} (hx : Wh k j x m) (hy : Wh k j y n) : feq k x y = decide (m = n) := by
  rw [feq_num hx.1 hy.1, hx.2, hy.2]
  congr 1
  apply propext
  have hp : (0 : Int) < ((2 ^ (j - lplace k).toNat : Nat) : Int) := by exact_mod_cast Nat.pow_pos (by decide)
  exact ⟨fun h => Int.eq_of_mul_eq_mul_right (by omega) h, fun h => by rw [h]⟩

theorem Wh.ne {k : FloatKind} {j : Int} {x y : Nat} {m n : Int} (hx : Wh k j x m) (hy : Wh k j y n) : fne k x y = !decide (m = n) := by
  rw [fne_feq, hx.eq hy]

/-! ## Whole numbers in single precision -/

def WI (x : Nat) (n : Int) : Prop := Wh .f32 0 x n

theorem WI.of {n : Int} (h : n.natAbs < 16777216) : WI (fofInt .f32 n) n := by
  have := fofInt_whole (k := .f32) (n := n) h
  exact this
theorem WI.add {x y : Nat} {m n : Int} (hx : WI x m) (hy : WI y n) (h : (m + n).natAbs < 16777216) : WI (fadd .f32 x y) (m + n) := add_at (k := .f32) (by decide) (by decide) hx hy h
theorem WI.sub {x y : Nat} {m n : Int} (hx : WI x m) (hy : WI y n) (h : (m - n).natAbs < 16777216) : WI (fsub .f32 x y) (m - n) := sub_at (k := .f32) (by decide) (by decide) hx hy h
theorem WI.mul {x y : Nat} {m n : Int} (hx : WI x m) (hy : WI y n) (h : (m * n).natAbs < 16777216) : WI (fmul .f32 x y) (m * n) := mul_at (k := .f32) (i := 0) (j := 0) (by decide) (by decide) (by decide) (by decide) hx hy h
theorem WI.eq {x y : Nat} {m n : Int} (hx : WI x m) (hy : WI y n) : feq .f32 x y = decide (m = n) := Wh.eq hx hy
theorem WI.ne {x y : Nat} {m n : Int} (hx : WI x m) (hy : WI y n) : fne .f32 x y = !decide (m = n) := Wh.ne hx hy
theorem WI.to {x : Nat} {m n : Int} (hx : WI x m) (h : m = n) : WI x n := h ▸ hx

end Go.Proofs.Ytilfdpllleninaa
