/- The plain law of FnCovers, part 7: shares. -/
import Derived.Test.YtkhjcoekmamlaaaV4
import Derived.Test.YtkhjcoekmamlaaaV6
namespace Go.Proofs.Ytkhjcoekmamlaaa
set_option linter.unusedVariables false
set_option linter.unusedSimpArgs false

noncomputable def wt (k : Nat) : Nat := impl_cos (gN ((k / 6 : Nat) : Int))
noncomputable def sumN (f : Nat → Bool) : Nat → Nat
  | 0 => 0
  | k + 1 => match f k with
    | true => fadd .f32 (sumN f k) (wt k)
    | false => sumN f k
noncomputable def partR (f : Nat → Bool) (k : Nat) : Rat := match f k with
  | true => R .f32 (wt k)
  | false => 0
noncomputable def sumR (f : Nat → Bool) : Nat → Rat
  | 0 => 0
  | k + 1 => sumR f k + partR f k

def loW : Nat → Rat
  | 0 => 309 / 1000
  | 1 => 809 / 1000
  | 2 => 9999 / 10000
  | 3 => 809 / 1000
  | _ => 309 / 1000
def hiW : Nat → Rat
  | 0 => 3091 / 10000
  | 1 => 8091 / 10000
  | 2 => 10001 / 10000
  | 3 => 8091 / 10000
  | _ => 3091 / 10000
theorem c_wt : ∀ y : Fin 5, (impl_cos_need (gN (y.val : Int)) && atI .f32 (impl_cos (gN (y.val : Int))) (loW y.val) (hiW y.val)) = true := by decide +kernel
theorem c_all : atI .f32 (sumN (fun _ => true) 30) (194 / 10) (1943 / 100) = true := by decide +kernel
theorem c_none : fdiv .f32 0 (sumN (fun _ => true) 30) = 0 := by decide +kernel
theorem c_whole : fdiv .f32 (sumN (fun _ => true) 30) (sumN (fun _ => true) 30) = 1065353216 := by decide +kernel

theorem wt_I {k : Nat} (hk : k < 30) : impl_cos_need (gN ((k / 6 : Nat) : Int)) = true ∧ I .f32 (wt k) (some (loW (k / 6), hiW (k / 6))) := by
  have h := c_wt ⟨k / 6, by omega⟩
  rw [Bool.and_eq_true] at h
  exact ⟨h.1, I.at h.2⟩

theorem lohi : ∀ y : Nat, 3 / 10 ≤ loW y ∧ hiW y ≤ 10001 / 10000
  | 0 => by decide +kernel
  | 1 => by decide +kernel
  | 2 => by decide +kernel
  | 3 => by decide +kernel
  | y + 4 => by show (3 : Rat) / 10 ≤ 309 / 1000 ∧ (3091 : Rat) / 10000 ≤ 10001 / 10000; decide +kernel

theorem sum_R (f : Nat → Bool) : ∀ k : Nat, k ≤ 30 → isNum .f32 (sumN f k) = true ∧ Nr (R .f32 (sumN f k)) (sumR f k) ((k : Rat) * (2 / 1000000)) ∧ 0 ≤ sumR f k ∧ sumR f k ≤ (k : Rat) * (10001 / 10000)
  | 0, _ => by
    have hz : isNum .f32 0 = true ∧ R .f32 0 = 0 := by decide +kernel
    refine ⟨hz.1, ?_, ?_, ?_⟩
    · show Nr (R .f32 0) 0 _
      rw [hz.2]; unfold Nr; constructor <;> grind
    · show (0 : Rat) ≤ 0; grind
    · show (0 : Rat) ≤ _; grind
  | k + 1, hk => by
    obtain ⟨i1, i2, i3, i4⟩ := sum_R f k (by omega)
    have hk30 : (k : Rat) ≤ 29 := by exact_mod_cast (by omega : k ≤ 29)
    have hk0 : (0 : Rat) ≤ k := by exact_mod_cast Nat.zero_le k
    have hG := Gr_ge
    have hT := T_le
    obtain ⟨-, w1, w2, w3⟩ := wt_I (k := k) (by omega)
    obtain ⟨l1, l2⟩ := lohi (k / 6)
    cases hf : f k with
    | true =>
      have e1 : sumN f (k + 1) = fadd .f32 (sumN f k) (wt k) := by show (match f k with | true => _ | false => _) = _; rw [hf]
      have e2 : sumR f (k + 1) = sumR f k + R .f32 (wt k) := by show sumR f k + partR f k = _; unfold partR; rw [hf]
      rw [e1, e2]
      have b : Bd (R .f32 (sumN f k) + R .f32 (wt k)) 31 := by unfold Nr at i2; unfold Bd; constructor <;> grind
      have g := fadd_fl i1 w1 (b.mono (by grind))
      have ge := g.err b
      refine ⟨g.1, ?_, by grind, by push_cast; grind⟩
      push_cast
      unfold Nr at *
      constructor <;> grind
    | false =>
      have e1 : sumN f (k + 1) = sumN f k := by show (match f k with | true => _ | false => _) = _; rw [hf]
      have e2 : sumR f (k + 1) = sumR f k + 0 := by show sumR f k + partR f k = _; unfold partR; rw [hf]
      rw [e1, e2]
      refine ⟨i1, ?_, by grind, by push_cast; grind⟩
      push_cast
      unfold Nr at *
      constructor <;> grind

/-- A list that tells no more sums to no more; to less where it tells less. -/
theorem sum_le {f g : Nat → Bool} : ∀ k : Nat, k ≤ 30 → (∀ j, j < k → f j = true → g j = true) → ((∀ j, j < k → f j = g j) ∨ sumR f k + 3 / 10 ≤ sumR g k) ∧ sumR f k ≤ sumR g k
  | 0, _, _ => ⟨.inl fun j hj => absurd hj (Nat.not_lt_zero j), by show (0 : Rat) ≤ 0; grind⟩
  | k + 1, hk, h => by
    obtain ⟨i1, i2⟩ := sum_le k (by omega) (fun j hj => h j (by omega))
    obtain ⟨-, w1, w2, w3⟩ := wt_I (k := k) (by omega)
    obtain ⟨l1, l2⟩ := lohi (k / 6)
    have ef : sumR f (k + 1) = sumR f k + partR f k := rfl
    have eg : sumR g (k + 1) = sumR g k + partR g k := rfl
    rw [ef, eg]
    cases hf : f k with
    | true =>
      have hg := h k (by omega) hf
      have e1 : partR f k = R .f32 (wt k) := by unfold partR; rw [hf]
      have e2 : partR g k = R .f32 (wt k) := by unfold partR; rw [hg]
      rw [e1, e2]
      refine ⟨?_, by grind⟩
      rcases i1 with i1 | i1
      · refine .inl fun j hj => ?_
        rcases Nat.lt_or_ge j k with hl | hl
        · exact i1 j hl
        · have : j = k := by omega
          subst this
          rw [hf, hg]
      · exact .inr (by grind)
    | false =>
      have e1 : partR f k = 0 := by unfold partR; rw [hf]
      rw [e1]
      cases hg : g k with
      | true =>
        have e2 : partR g k = R .f32 (wt k) := by unfold partR; rw [hg]
        rw [e2]
        exact ⟨.inr (by grind), by grind⟩
      | false =>
        have e2 : partR g k = 0 := by unfold partR; rw [hg]
        rw [e2]
        refine ⟨?_, by grind⟩
        rcases i1 with i1 | i1
        · refine .inl fun j hj => ?_
          rcases Nat.lt_or_ge j k with hl | hl
          · exact i1 j hl
          · have : j = k := by omega
            subst this
            rw [hf, hg]
        · exact .inr (by grind)

theorem sumN_congr {f g : Nat → Bool} : ∀ k : Nat, (∀ j, j < k → f j = g j) → sumN f k = sumN g k
  | 0, _ => rfl
  | k + 1, h => by
    have i := sumN_congr k (fun j hj => h j (by omega))
    show (match f k with | true => fadd .f32 (sumN f k) (wt k) | false => sumN f k) = (match g k with | true => fadd .f32 (sumN g k) (wt k) | false => sumN g k)
    rw [h k (by omega), i]

theorem sumN_none : ∀ k : Nat, sumN (fun _ => false) k = 0
  | 0 => rfl
  | k + 1 => sumN_none k

/-! ## The loop -/

theorem share_loop {l : List Bool} {f : Nat → Bool} (hl : l.length = 30) (h : ∀ k, k < 30 → l.getD k default = f k) :
    impl_CoverShare_loop0_ends (6, 5, l, 30) (0, 0, 0) = true ∧ impl_CoverShare_loop0 (6, 5, l, 30) (0, 0, 0) = (sumN f 30, sumN (fun _ => true) 30) := by
  refine loop_post (step := impl_CoverShare_loop0_step (6, 5, l, 30)) (fun s => ∃ k : Nat, k ≤ 30 ∧ s = (sumN f k, sumN (fun _ => true) k, (k : Int))) (fun s => (30 - s.2.2).toNat) (fun r => r = (sumN f 30, sumN (fun _ => true) 30)) ?_ _ ⟨0, by omega, rfl⟩
  rintro s ⟨k, hk, rfl⟩
  rcases Nat.lt_or_ge k 30 with h30 | h30
  · have hd : decide (((k : Nat) : Int) < 30) = true := decide_eq_true (by omega)
    have hw : IntKind.wrap .i64 (((k : Nat) : Int) + 1) = ((k + 1 : Nat) : Int) := nat_next h30 (by decide)
    have hlen : decide (((k : Nat) : Int) < ((List.length l : Nat) : Int)) = true := decide_eq_true (by omega)
    have hm : Int.tmod ((k : Nat) : Int) 6 = ((k % 6 : Nat) : Int) := by rw [Int.tmod_eq_emod_of_nonneg (by omega)]; omega
    have hq : IntKind.wrap .i64 (Int.tdiv ((k : Nat) : Int) 6) = ((k / 6 : Nat) : Int) := by
      rw [Int.tdiv_eq_ediv_of_nonneg (by omega), wrap_small (by omega) (by omega)]
      omega
    have h6 : ((6 : Int) != 0) = true := rfl
    have hgm : (impl_gridMark ((k % 6 : Nat) : Int) ((k / 6 : Nat) : Int) 6 5).North = gN ((k / 6 : Nat) : Int) := rfl
    obtain ⟨wn, -⟩ := wt_I h30
    have hc : impl_cos (gN ((k / 6 : Nat) : Int)) = wt k := rfl
    cases hf : f k with
    | true =>
      have e1 : sumN f (k + 1) = fadd .f32 (sumN f k) (wt k) := by show (match f k with | true => _ | false => _) = _; rw [hf]
      refine ⟨.inl (sumN f (k + 1), sumN (fun _ => true) (k + 1), ((k + 1 : Nat) : Int)), [], ?_, ⟨k + 1, h30, rfl⟩, ?_⟩
      · rw [e1]
        have e2 : sumN (fun _ => true) (k + 1) = fadd .f32 (sumN (fun _ => true) k) (wt k) := rfl
        rw [e2]
        unfold impl_CoverShare_loop0_step
        simp only [hd, hlen, nat_ge, Bool.and_true, Int.toNat_natCast, h k h30, hf, h6, hm, hq, hgm, wn, hc, hw]
        simp only [DT.get]
      · show (30 - ((k + 1 : Nat) : Int)).toNat < (30 - ((k : Nat) : Int)).toNat
        omega
    | false =>
      have e1 : sumN f (k + 1) = sumN f k := by show (match f k with | true => _ | false => _) = _; rw [hf]
      refine ⟨.inl (sumN f (k + 1), sumN (fun _ => true) (k + 1), ((k + 1 : Nat) : Int)), [], ?_, ⟨k + 1, h30, rfl⟩, ?_⟩
      · rw [e1]
        have e2 : sumN (fun _ => true) (k + 1) = fadd .f32 (sumN (fun _ => true) k) (wt k) := rfl
        rw [e2]
        unfold impl_CoverShare_loop0_step
        simp only [hd, hlen, nat_ge, Bool.and_true, Int.toNat_natCast, h k h30, hf, h6, hm, hq, hgm, wn, hc, hw]
        simp only [DT.get]
      · show (30 - ((k + 1 : Nat) : Int)).toNat < (30 - ((k : Nat) : Int)).toNat
        omega
  · have : k = 30 := by omega
    subst this
    refine ⟨.inr (sumN f 30, sumN (fun _ => true) 30), [], ?_, rfl⟩
    unfold impl_CoverShare_loop0_step
    simp only [DT.get]
    rfl

theorem told_need (x : Nat) : impl_told_need x = true := by
  unfold impl_told_need impl_told_tree
  cases hi : impl_IsFinite x <;> simp only [DT.ok, IsFinite_need, hi, Bool.not_true, Bool.not_false]
theorem told_num {x : Nat} (h : isNum .f32 x = true) : impl_told x = (x, true) := by
  unfold impl_told impl_told_tree
  simp only [DT.val, IsFinite_eq, h, Bool.not_true]

noncomputable def covN (f : Nat → Bool) : Nat := fdiv .f32 (sumN f 30) (sumN (fun _ => true) 30)

theorem share_R (f : Nat → Bool) : isNum .f32 (covN f) = true ∧ ∃ X, X * R .f32 (sumN (fun _ => true) 30) = R .f32 (sumN f 30) ∧ Nr (R .f32 (covN f)) X (1 / 100000) := by
  obtain ⟨s1, s2, s3, s4⟩ := sum_R f 30 (by omega)
  obtain ⟨a1, a2, a3⟩ := I.at c_all
  have hT := T_le
  unfold covN
  generalize sumN (fun _ => true) 30 = A at *
  have hA : R .f32 A ≠ 0 := by grind
  have hX : R .f32 (sumN f 30) * (R .f32 A)⁻¹ * R .f32 A = R .f32 (sumN f 30) := by rw [Rat.mul_assoc, Rat.inv_mul_cancel _ hA, Rat.mul_one]
  have hb : Bd (R .f32 (sumN f 30) * (R .f32 A)⁻¹) 3 := by
    generalize R .f32 (sumN f 30) * (R .f32 A)⁻¹ = X at *
    push_cast at s4 s2
    unfold Nr at s2
    constructor
    · rw [← Rat.not_lt]
      intro h
      have q := Rat.mul_le_mul_of_nonneg_right (Rat.le_of_lt h) (c := R .f32 A) (by grind)
      grind
    · rw [← Rat.not_lt]
      intro h
      have q := Rat.mul_le_mul_of_nonneg_right (Rat.le_of_lt h) (c := R .f32 A) (by grind)
      grind
  obtain ⟨k1, k2⟩ := quot_fl s1 a1 hA hX (hb.mono (by grind))
  refine ⟨k1, _, hX, (k2 3 hb).mono ?_⟩
  unfold U
  grind

theorem share_eq {l : List Bool} {f : Nat → Bool} (hl : l.length = 30) (h : ∀ k, k < 30 → l.getD k default = f k) : impl_CoverShare_need l 6 5 = true ∧ impl_CoverShare l 6 5 = (covN f, true) := by
  obtain ⟨r1, r2⟩ := share_loop hl h
  have hn := (share_R f).1
  have hg : impl_isGrid 6 5 = true := by decide +kernel
  have h30 : IntKind.wrap .i64 (6 * 5) = 30 := by decide
  have hll : ((List.length l : Nat) : Int) = 30 := by omega
  have hs : fdiv .f32 (sumN f 30) (sumN (fun _ => true) 30) = covN f := rfl
  unfold impl_CoverShare_need impl_CoverShare impl_CoverShare_tree
  simp only [hg, hll, h30, bne_self_eq_false, r1, r2, hs, told_need, told_num hn, Bool.not_true]
  simp only [DT.ok, DT.val]
  exact ⟨trivial, trivial⟩

end Go.Proofs.Ytkhjcoekmamlaaa
