/- The plain law of FnPulls, part 9: the law's first loop. -/
import Derived.Test.YtkmcgfjhjfiomaaW8
namespace Go.Proofs.Ytkmcgfjhjfiomaa
set_option linter.unusedVariables false
set_option linter.unusedSimpArgs false

theorem consts_R : isNum .f64 4607182418800017408 = true ∧ R .f64 4607182418800017408 = 1 ∧ isNum .f64 4562254508917369340 = true ∧ Nr (R .f64 4562254508917369340) (1 / 1000) (1 / 1000000000000) ∧ isNum .f32 1008981770 = true ∧ 99 / 10000 ≤ R .f32 1008981770 := by decide +kernel

/-- The law's bound: a thousandth of one more than a size. -/
def limN (x : Nat) : Nat := fmul .f64 4562254508917369340 (fadd .f64 4607182418800017408 x)

theorem lim_fl {x : Nat} (hx : isNum .f64 x = true) (h1 : -1 / 1000 ≤ R .f64 x) (h2 : R .f64 x ≤ 3000) : isNum .f64 (limN x) = true ∧ 999 / 1000000 * (1 + R .f64 x) ≤ R .f64 (limN x) := by
  have hT := T_pos
  have hT1 := T_le
  have hG := Gr_ge
  obtain ⟨c1, c2, c3, c4, _⟩ := consts_R
  have f1 := fadd_fl c1 hx (by rw [c2]; unfold Bd; constructor <;> grind)
  rw [c2] at f1
  have e1 := f1.err64 (M := 1 + R .f64 x) (by unfold Bd; constructor <;> grind)
  have b1 : Bd (R .f64 (fadd .f64 4607182418800017408 x)) 3002 := by unfold Nr at e1; unfold Bd; constructor <;> grind
  have b2 := (c4.toBd (M := 1 / 1000) (by unfold Bd; constructor <;> grind)).mul b1
  have f2 := fmul_fl c3 f1.1 (b2.mono (by grind))
  have n0 : 0 ≤ R .f64 (fadd .f64 4607182418800017408 x) := by unfold Nr at e1; grind
  have k1 := Rat.mul_le_mul_of_nonneg_right (show 1 / 1000 - 1 / 1000000000000 ≤ R .f64 4562254508917369340 by unfold Nr at c4; grind) n0
  have k2 := Rat.mul_le_mul_of_nonneg_right (show R .f64 4562254508917369340 ≤ 1 / 1000 + 1 / 1000000000000 by unfold Nr at c4; grind) n0
  have e2 := f2.err64 (M := (1 / 1000 + 1 / 1000000000000) * R .f64 (fadd .f64 4607182418800017408 x)) (by unfold Bd; constructor <;> grind)
  refine ⟨f2.1, ?_⟩
  unfold limN
  unfold Nr at e1 e2
  grind

theorem fgt_false {k : FloatKind} {x y : Nat} (hx : isNum k x = true) (hy : isNum k y = true) (h : R k x ≤ R k y) : fgt k x y = false := by
  rw [fgt_R hx hy]
  exact decide_eq_false (by grind)

/-- What a pull is: numbers, of bounded size. -/
theorem pull_bd {l : List Body} (hl : l.length ≤ 4) (H : AllP l) {i : Nat} (hi : i < l.length) : finV (pullV l i) = true ∧ Bd (R .f32 (pullV l i).X) 133 ∧ Bd (R .f32 (pullV l i).Y) 133 ∧ Bd (R .f32 (pullV l i).Z) 133 := by
  obtain ⟨_, a, b, c⟩ := pullV_ok hl H hi
  have hn : (l.length : Rat) ≤ 4 := by exact_mod_cast hl
  have hn0 : (0 : Rat) ≤ l.length := by exact_mod_cast Nat.zero_le _
  refine ⟨?_, ?_, ?_, ?_⟩
  · unfold finV
    rw [a.1, b.1, c.1]
    rfl
  · exact (a.2.1.toBd a.2.2).mono (by grind)
  · exact (b.2.1.toBd b.2.2).mono (by grind)
  · exact (c.2.1.toBd c.2.2).mono (by grind)

theorem bd_sq3 {a b c M : Rat} (h1 : Bd a M) (h2 : Bd b M) (h3 : Bd c M) : a * a + b * b + c * c ≤ 3 * (M * M) := by
  have := sq_bd h1
  have := sq_bd h2
  have := sq_bd h3
  grind

/-- What the law asks of one body's pulls. -/
structure Asks (P P1 P2 : Vec) : Prop where
  n1 : impl_SizeOfVector_need P = true
  n2 : laws_r8Far_need P P1 = true
  c1 : fgt .f64 (laws_r8Far P P1) (limN (fconv .f32 (impl_SizeOfVector P) .f64)) = false
  n3 : impl_SizeOfVector_need P2 = true
  n4 : laws_r8Gap_need (fconv .f32 (impl_SizeOfVector P) .f64) (fconv .f32 (impl_SizeOfVector P2) .f64) = true
  c2 : fgt .f64 (laws_r8Gap (fconv .f32 (impl_SizeOfVector P) .f64) (fconv .f32 (impl_SizeOfVector P2) .f64)) (limN (fconv .f32 (impl_SizeOfVector P) .f64)) = false
  n5 : laws_r8Gap_need (fconv .f32 P.Z .f64) (fconv .f32 P2.Z .f64) = true
  c3 : fgt .f64 (laws_r8Gap (fconv .f32 P.Z .f64) (fconv .f32 P2.Z .f64)) (limN (fconv .f32 (impl_SizeOfVector P) .f64)) = false

theorem asks {P P1 P2 : Vec} {C S : Rat} (hP : finV P = true) (hP1 : finV P1 = true) (hP2 : finV P2 = true)
    (b : Bd (R .f32 P.X) 133 ∧ Bd (R .f32 P.Y) 133 ∧ Bd (R .f32 P.Z) 133) (b2 : Bd (R .f32 P2.X) 133 ∧ Bd (R .f32 P2.Y) 133 ∧ Bd (R .f32 P2.Z) 133)
    (hk : Nr (C * C + S * S) 1 (1 / 4000000))
    (h1 : Nr (R .f32 P1.X) (R .f32 P.X) (51 / 100000) ∧ Nr (R .f32 P1.Y) (R .f32 P.Y) (51 / 100000) ∧ Nr (R .f32 P1.Z) (R .f32 P.Z) (51 / 100000))
    (h2 : Nr (R .f32 P2.X) (C * R .f32 P.X - S * R .f32 P.Y) (51 / 100000) ∧ Nr (R .f32 P2.Y) (S * R .f32 P.X + C * R .f32 P.Y) (51 / 100000) ∧ Nr (R .f32 P2.Z) (R .f32 P.Z) (51 / 100000)) : Asks P P1 P2 := by
  have hT := T_pos
  have hT1 := T_le
  obtain ⟨s1, s2, ρ, s3, s4, s5, s6⟩ := size_ok hP (bd_sq3 b.1 b.2.1 b.2.2) (by decide +kernel)
  obtain ⟨t1, t2, σ, t3, t4, t5, t6⟩ := size_ok hP2 (bd_sq3 b2.1 b2.2.1 b2.2.2) (by decide +kernel)
  obtain ⟨f1, f2, f3⟩ := far_fl (E := 884 / 1000000) hP hP1 h1.1.symm h1.2.1.symm h1.2.2.symm (by decide +kernel) (by decide +kernel) (by decide +kernel)
  have hn := size_near s3 t3 hk s5 t5 h2.1 h2.2.1 h2.2.2
  obtain ⟨u1, u2⟩ := up_R s2
  obtain ⟨v1, v2⟩ := up_R t2
  obtain ⟨l1, l2⟩ := lim_fl u1 (by rw [u2]; unfold Nr at s6; grind) (by rw [u2]; unfold Nr at s6; grind)
  rw [u2] at l2
  have hlow : 9989 / 10000000 * (1 + ρ) ≤ R .f64 (limN (fconv .f32 (impl_SizeOfVector P) .f64)) := by unfold Nr at s6; grind
  obtain ⟨g1, g2, g3⟩ := gap_fl (M := ρ / 90000 + 91 / 100000) u1 v1 (by rw [u2, v2]; unfold Nr at s6 t6 hn; unfold Bd; constructor <;> grind) (by grind)
  have hz : isNum .f32 P.Z = true ∧ isNum .f32 P2.Z = true := by
    unfold finV at hP hP2
    simp only [Bool.and_eq_true] at hP hP2
    exact ⟨hP.2, hP2.2⟩
  obtain ⟨w1, w2⟩ := up_R hz.1
  obtain ⟨x1, x2⟩ := up_R hz.2
  obtain ⟨k1, k2, k3⟩ := gap_fl (M := 51 / 100000) w1 x1 (by rw [w2, x2]; have := h2.2.2; unfold Nr at this; unfold Bd; constructor <;> grind) (by decide +kernel)
  exact ⟨s1, f1, fgt_false f2 l1 (by grind), t1, g1, fgt_false g2 l1 (by grind), k1, fgt_false k2 l1 (by grind)⟩

/-- A sum of masses times pulls, as the law adds them. -/
def SumN (a : Nat) (t : Rat) (k : Nat) : Prop := isNum .f32 a = true ∧ Nr (R .f32 a) t ((k : Rat) * (1 / 10000)) ∧ Bd t ((k : Rat) * 270)

theorem sumN_zero : SumN 0 0 0 := by
  have h : isNum .f32 0 = true ∧ R .f32 0 = 0 := by decide +kernel
  refine ⟨h.1, ?_, ?_⟩
  · rw [h.2]; unfold Nr; constructor <;> simp <;> grind
  · unfold Bd; constructor <;> simp <;> grind

theorem sumN_add {a x m k : Nat} {t : Rat} (h : SumN a t k) (hk : k < 4) (hx : isNum .f32 x = true) (hm : isNum .f32 m = true) (bx : Bd (R .f32 x) 133) (bm : Bd (R .f32 m) 2) : SumN (fadd .f32 a (fmul .f32 x m)) (t + R .f32 m * R .f32 x) (k + 1) := by
  obtain ⟨h1, h2, h3⟩ := h
  have hT := T_pos
  have hT1 := T_le
  have hG := Gr_ge
  have hkr : (k : Rat) ≤ 3 := by exact_mod_cast (show k ≤ 3 by omega)
  have hk0 : (0 : Rat) ≤ k := by exact_mod_cast Nat.zero_le k
  have hb := bx.mul bm
  have f1 := fmul_fl hx hm (hb.mono (by grind))
  have e1 := f1.err hb
  have b2 : Bd (R .f32 a + R .f32 (fmul .f32 x m)) 1100 := by unfold Nr at h2 e1; unfold Bd at h3 hb ⊢; constructor <;> grind
  have f2 := fadd_fl h1 f1.1 (b2.mono (by grind))
  have e2 := f2.err b2
  refine ⟨f2.1, ?_, ?_⟩
  · push_cast
    unfold Nr at h2 e1 e2 ⊢
    constructor <;> grind
  · push_cast
    unfold Bd at h3 hb ⊢
    constructor <;> grind

theorem parts_of {P : Vec} (h : finV P = true) : isNum .f32 P.X = true ∧ isNum .f32 P.Y = true ∧ isNum .f32 P.Z = true := by
  unfold finV at h
  simp only [Bool.and_eq_true] at h
  exact ⟨h.1.1, h.1.2, h.2⟩

/-- The law's first loop. -/
theorem loop0_all (a1 : List Int) {l : List Body} {f : Nat → Int × Int × Int × Int} (h : Base l f) (Q Q2 : Nat → Vec) (ha : ∀ i, i < l.length → Asks (pullV l i) (Q i) (Q2 i)) :
    laws_FnPulls_loop0_ends (a1, l, (List.range l.length).map (pullV l), (List.range l.length).map Q, (List.range l.length).map Q2) (0, 0, 0, 0) = true ∧
    ∃ a b c, laws_FnPulls_loop0 (a1, l, (List.range l.length).map (pullV l), (List.range l.length).map Q, (List.range l.length).map Q2) (0, 0, 0, 0) = .inr (a, b, c) ∧
      SumN a (tsum (fun i => R .f32 (l.getD i default).Mass * R .f32 (pullV l i).X) l.length) l.length ∧ SumN b (tsum (fun i => R .f32 (l.getD i default).Mass * R .f32 (pullV l i).Y) l.length) l.length ∧ SumN c (tsum (fun i => R .f32 (l.getD i default).Mass * R .f32 (pullV l i).Z) l.length) l.length := by
  have n4 := h.n4
  obtain ⟨h1, h2⟩ := loop_post (step := laws_FnPulls_loop0_step (a1, l, (List.range l.length).map (pullV l), (List.range l.length).map Q, (List.range l.length).map Q2))
    (fun s => ∃ k : Nat, k ≤ l.length ∧ s.1 = (k : Int) ∧ SumN s.2.1 (tsum (fun i => R .f32 (l.getD i default).Mass * R .f32 (pullV l i).X) k) k ∧ SumN s.2.2.1 (tsum (fun i => R .f32 (l.getD i default).Mass * R .f32 (pullV l i).Y) k) k ∧ SumN s.2.2.2 (tsum (fun i => R .f32 (l.getD i default).Mass * R .f32 (pullV l i).Z) k) k)
    (fun s => ((l.length : Int) - s.1).toNat)
    (fun r => ∃ a b c, r = .inr (a, b, c) ∧ SumN a (tsum (fun i => R .f32 (l.getD i default).Mass * R .f32 (pullV l i).X) l.length) l.length ∧ SumN b (tsum (fun i => R .f32 (l.getD i default).Mass * R .f32 (pullV l i).Y) l.length) l.length ∧ SumN c (tsum (fun i => R .f32 (l.getD i default).Mass * R .f32 (pullV l i).Z) l.length) l.length) (by
    rintro ⟨k', a, b, c⟩ ⟨k, hk, rfl, sa, sb, sc⟩
    rcases Nat.lt_or_ge k l.length with hlt | hge
    · obtain ⟨n1, n2, c1, n3, n4', c2, n5, c3⟩ := ha k hlt
      obtain ⟨p1, p2, p3, p4⟩ := pull_bd n4 h.pull hlt
      obtain ⟨x1, x2, x3⟩ := parts_of p1
      obtain ⟨m1, m2, m3⟩ := h.mass hlt
      have bm : Bd (R .f32 (l.getD k default).Mass) 2 := ⟨by grind, m3⟩
      have e1 : ((List.range l.length).map (pullV l)).getD k default = pullV l k := getD_range hlt
      have e2 : ((List.range l.length).map Q).getD k default = Q k := getD_range hlt
      have e3 : ((List.range l.length).map Q2).getD k default = Q2 k := getD_range hlt
      have v1 : (⟨(pullV l k).X, (pullV l k).Y, (pullV l k).Z⟩ : Vec) = pullV l k := rfl
      have v2 : (⟨(Q k).X, (Q k).Y, (Q k).Z⟩ : Vec) = Q k := rfl
      have v3 : (⟨(Q2 k).X, (Q2 k).Y, (Q2 k).Z⟩ : Vec) = Q2 k := rfl
      have d1 : decide (k < l.length) = true := decide_eq_true hlt
      unfold limN at c1 c2 c3
      refine ⟨.inl (((k + 1 : Nat) : Int), fadd .f32 a (fmul .f32 (pullV l k).X (l.getD k default).Mass), fadd .f32 b (fmul .f32 (pullV l k).Y (l.getD k default).Mass), fadd .f32 c (fmul .f32 (pullV l k).Z (l.getD k default).Mass)), [0, 1, 2, 3, 4], ?_, ⟨k + 1, hlt, rfl, ?_, ?_, ?_⟩, by show ((l.length : Int) - ((k + 1 : Nat) : Int)).toNat < ((l.length : Int) - (k : Int)).toNat; omega⟩
      · unfold laws_FnPulls_loop0_step
        simp only [List.length_map, List.length_range, nat_dec hlt, nat_ge, Bool.and_true, Int.toNat_natCast, e1, e2, e3, v1, v2, v3, d1, n1, n2, c1, n3, n4', c2, n5, c3, fconvOk_up, nat_next hlt (show l.length ≤ 2 ^ 62 by omega)]
        simp only [DT.get]
        rfl
      · exact sumN_add sa (by omega) x1 m1 p2 bm
      · exact sumN_add sb (by omega) x2 m1 p3 bm
      · exact sumN_add sc (by omega) x3 m1 p4 bm
    · have hk' : k = l.length := by omega
      subst hk'
      refine ⟨.inr (.inr (a, b, c)), [0, 4], ?_, a, b, c, rfl, sa, sb, sc⟩
      unfold laws_FnPulls_loop0_step
      simp only [nat_not]
      simp only [DT.get]) (0, 0, 0, 0) ⟨0, Nat.zero_le _, rfl, sumN_zero, sumN_zero, sumN_zero⟩
  exact ⟨h1, h2⟩

end Go.Proofs.Ytkmcgfjhjfiomaa
