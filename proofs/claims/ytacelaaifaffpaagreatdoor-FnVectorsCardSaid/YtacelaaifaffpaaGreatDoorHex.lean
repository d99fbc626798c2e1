/- Plain facts on hexadecimal texts: the digits of a number, as few as it has, or as many as told. -/
namespace Go.Proofs.YtacelaaifaffpaaGreatDoor

def hexD (d : Nat) : UInt8 := ([48, 49, 50, 51, 52, 53, 54, 55, 56, 57, 97, 98, 99, 100, 101, 102] : List UInt8).getD d 0
/-- The last k digits. -/
def hexTail : Nat → Nat → List UInt8
  | 0, _ => []
  | k + 1, u => hexD (u / 16 ^ k % 16) :: hexTail k u
def hexLen (u : Nat) : Nat := if h : u < 16 then 1 else hexLen (u / 16) + 1
termination_by u
decreasing_by omega
def hexText (u : Nat) : List UInt8 := hexTail (hexLen u) u

theorem hexLen_lt {u : Nat} (h : u < 16) : hexLen u = 1 := by rw [hexLen, dif_pos h]
theorem hexLen_ge {u : Nat} (h : ¬ u < 16) : hexLen u = hexLen (u / 16) + 1 := by rw [hexLen, dif_neg h]
theorem hexTail_length : ∀ (k u : Nat), (hexTail k u).length = k
  | 0, _ => rfl
  | k + 1, u => by simp [hexTail, hexTail_length k u]
theorem hexText_length (u : Nat) : (hexText u).length = hexLen u := hexTail_length _ _

theorem hexLen_pos (u : Nat) : 1 ≤ hexLen u := by
  by_cases h : u < 16
  · rw [hexLen_lt h]; exact Nat.le_refl _
  · rw [hexLen_ge h]; omega

theorem hexLen_le : ∀ (k : Nat) {u : Nat}, u < 16 ^ (k + 1) → hexLen u ≤ k + 1
  | 0, u, h => by rw [hexLen_lt (by simpa using h)]; exact Nat.le_refl _
  | k + 1, u, h => by
    by_cases h' : u < 16
    · rw [hexLen_lt h']; omega
    · rw [hexLen_ge h']
      have : u / 16 < 16 ^ (k + 1) := by
        rw [Nat.div_lt_iff_lt_mul (by decide)]
        rw [Nat.pow_succ] at h
        exact h
      have := hexLen_le k this
      omega

/-- In front of its digits, a number has noughts. -/
theorem lt_pow_hexLen (u : Nat) : u < 16 ^ hexLen u := by
  induction u using Nat.strongRecOn with
  | _ u ih =>
    by_cases h : u < 16
    · rw [hexLen_lt h]; simpa using h
    · rw [hexLen_ge h, Nat.pow_succ]
      have := ih (u / 16) (by omega)
      omega

theorem hexTail_add {m : Nat} (u : Nat) (hu : u < 16 ^ m) : ∀ k : Nat, hexTail (k + m) u = List.replicate k 48 ++ hexTail m u
  | 0 => by simp
  | k + 1 => by
    rw [show k + 1 + m = (k + m) + 1 from by omega, hexTail, hexTail_add u hu k, List.replicate_succ]
    have hp : u < 16 ^ (k + m) := Nat.lt_of_lt_of_le hu (Nat.pow_le_pow_right (by decide) (by omega))
    have h0 : u / 16 ^ (k + m) = 0 := Nat.div_eq_of_lt hp
    rw [h0]
    rfl

/-- Eight digits. -/
theorem hex_pad {u : Nat} (h : u < 4294967296) : hexLen u ≤ 8 ∧ List.replicate (8 - hexLen u) 48 ++ hexText u = hexTail 8 u := by
  have h8 : hexLen u ≤ 8 := hexLen_le 7 (by simpa using h)
  refine ⟨h8, ?_⟩
  have := hexTail_add u (lt_pow_hexLen u) (8 - hexLen u)
  rw [Nat.sub_add_cancel h8] at this
  exact this.symm

/-- A walk from the last digit on: k digits are written, what is left is 'u / 16 ^ k'. -/
theorem hexLen_step {u k : Nat} (h : hexLen u = hexLen (u / 16 ^ k) + k) (hb : ¬ u / 16 ^ k < 16) : hexLen u = hexLen (u / 16 ^ (k + 1)) + (k + 1) := by
  rw [hexLen_ge hb, Nat.div_div_eq_div_mul, ← Nat.pow_succ, Nat.succ_eq_add_one] at h
  omega
theorem hexLen_end {u k : Nat} (h : hexLen u = hexLen (u / 16 ^ k) + k) (hb : u / 16 ^ k < 16) : hexLen u = k + 1 := by
  rw [hexLen_lt hb] at h
  omega

end Go.Proofs.YtacelaaifaffpaaGreatDoor
