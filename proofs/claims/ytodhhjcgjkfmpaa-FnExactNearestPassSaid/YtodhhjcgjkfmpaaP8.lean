/- Plain law, part 8: halved steps; nearest passes. -/
import Derived.Test.YtodhhjcgjkfmpaaP7
namespace Go.Proofs.Ytodhhjcgjkfmpaa
set_option linter.unusedVariables false
set_option linter.unusedSimpArgs false
set_option exponentiation.threshold 3000
open Ieee

/-- A quotient by a power of two that is at least one. -/
theorem fdiv_pow {x y : Nat} {j : Int} (hy : FloatKind.f32.format.read y = .number false 8388608 j) (hj : -23 ≤ j) (hx : isNum .f32 x = true) : isNum .f32 (fdiv .f32 x y) = true := by
  obtain ⟨s, m, p, hd⟩ := isNum_iff.1 hx
  have hm := mag_lt hd
  have e1 : FloatKind.f32.format.div x y = some (FloatKind.f32.format.nearest s m (p - 23 - j)) := by
    unfold Format.div
    rw [hd, hy]
    have hfb : FloatKind.f32.format.fractionBits + 2 = 25 := by decide
    rw [hfb]
    have hl : Nat.log2 8388608 = 23 := by decide
    simp only [Datum.quotient, hl, Bool.xor_false]
    rw [if_neg (by decide)]
    simp only [Option.map_some, Format.write, Option.some.injEq]
    by_cases hm0 : m = 0
    · subst hm0
      simp [Format.nearest]
    · have hlog : m.log2 ≤ 23 := by
        have := (Nat.log2_lt hm0).2 hm
        simp only [fbits] at this
        omega
      generalize hmore : 25 + 23 - m.log2 = more
      have hge : 23 ≤ more := by omega
      have e8 : (8388608 : Nat) = 2 ^ 23 := by decide
      have hD : m <<< more = m * 2 ^ (more - 23) * 8388608 := by
        rw [Nat.shiftLeft_eq, e8, Nat.mul_assoc, ← Nat.pow_add]
        congr 2
        omega
      rw [hD, Nat.mul_div_cancel _ (by decide), Nat.mul_mod_left]
      have e9 : 2 * (m * 2 ^ (more - 23)) + ((0 : Nat) != 0).toNat = m * 2 ^ (more - 22) := by
        have : more - 22 = more - 23 + 1 := by omega
        rw [this, Nat.pow_succ]
        simp
        rw [Nat.mul_comm 2, Nat.mul_assoc]
      rw [e9, nearest_scale]
      congr 1
      omega
  have hnum : isNum .f32 (FloatKind.f32.format.nearest s m (p - 23 - j)) = true := by
    by_cases hj0 : j = -23
    · have e : p - 23 - j = p := by omega
      rw [e]
      obtain ⟨r1, r2⟩ := read_mod (k := .f32) (x := x)
      have hw : Wd .f32 (x % (FloatKind.f32.format.signWeight * 2)) := by
        unfold Wd
        rw [Nat.mul_comm 2]
        exact Nat.mod_lt _ (by decide +kernel)
      have := write_read hw (r1.trans hd)
      rw [this]
      unfold isNum
      rw [r1, hd]
    · have ha := read_max hd
      rw [hd] at ha
      have ha' : m = 0 ∨ ∃ h : Nat, m ≤ 2 ^ h ∧ (h : Int) + p ≤ ((emax .f32 + 1 : Nat) : Int) := ha
      refine sm_num (e := 127) (by decide +kernel) (nearest_sm (by decide +kernel) ?_)
      rcases ha' with h0 | ⟨h, h1, h2⟩
      · exact .inl h0
      · refine .inr ⟨h, h1, ?_⟩
        simp only [emax] at h2
        omega
  unfold fdiv
  rw [e1]
  show isNum .f32 (canon .f32 _) = true
  rw [canon_num' hnum]
  exact hnum

theorem val_nl {α : Type} [Inhabited α] (c : Bool) (x : α) : (DT.need c (.leaf x)).val = x := rfl
theorem ok_nl {α : Type} [Inhabited α] (c : Bool) (x : α) : (DT.need c (.leaf x)).ok = c := by cases c <;> rfl

theorem size_impl (v : Vec) : impl_SizeOfVector v = impl_RootNumber (impl_InnerOf v v) ∧ impl_SizeOfVector_need v = impl_RootNumber_need (impl_InnerOf v v) := by
  have h1 : impl_SizeOfVector v = (DT.need (impl_RootNumber_need (impl_InnerOf v v)) (.leaf (impl_RootNumber (impl_InnerOf v v)))).val := rfl
  have h2 : impl_SizeOfVector_need v = (DT.need (impl_RootNumber_need (impl_InnerOf v v)) (.leaf (impl_RootNumber (impl_InnerOf v v)))).ok := rfl
  exact ⟨h1.trans (val_nl _ _), h2.trans (ok_nl _ _)⟩

theorem size_spec (v : Vec) : spec_l01VLong v = spec_l01Sqrt (spec_l01VInner v v) ∧ spec_l01VLong_need v = spec_l01Sqrt_need (spec_l01VInner v v) := by
  have h1 : spec_l01VLong v = (DT.need (spec_l01Sqrt_need (spec_l01VInner v v)) (.leaf (spec_l01Sqrt (spec_l01VInner v v)))).val := rfl
  have h2 : spec_l01VLong_need v = (DT.need (spec_l01Sqrt_need (spec_l01VInner v v)) (.leaf (spec_l01Sqrt (spec_l01VInner v v)))).ok := rfl
  exact ⟨h1.trans (val_nl _ _), h2.trans (ok_nl _ _)⟩

theorem apart_spec (a b : Vec) : spec_l02Apart a b = spec_l01VLong (spec_l01VLess a b) ∧ spec_l02Apart_need a b = spec_l01VLong_need (spec_l01VLess a b) := by
  have h1 : spec_l02Apart a b = (DT.need (spec_l01VLong_need (spec_l01VLess a b)) (.leaf (spec_l01VLong (spec_l01VLess a b)))).val := rfl
  have h2 : spec_l02Apart_need a b = (DT.need (spec_l01VLong_need (spec_l01VLess a b)) (.leaf (spec_l01VLong (spec_l01VLess a b)))).ok := rfl
  exact ⟨h1.trans (val_nl _ _), h2.trans (ok_nl _ _)⟩

theorem size_same (v : Vec) : impl_SizeOfVector_need v = true ∧ spec_l01VLong_need v = true ∧ impl_SizeOfVector v = spec_l01VLong v := by
  rw [(size_impl v).1, (size_impl v).2, (size_spec v).1, (size_spec v).2, InnerV]
  exact root_same _

theorem apart_same (a b : Vec) : spec_l02Apart_need a b = true ∧ spec_l02Apart a b = impl_SizeOfVector (impl_LessVectors a b) := by
  rw [(apart_spec a b).1, (apart_spec a b).2, LessV, (size_same _).2.2]
  exact ⟨(size_same _).2.1, rfl⟩

/-- The first pair of bodies too far apart. -/
noncomputable def nearG (a b : List Body) (x : Nat) (i : Nat) : Option Unit := match fgt .f32 (impl_SizeOfVector (impl_LessVectors (a.getD i default).At (b.getD i default).At)) x with
  | true => some ()
  | false => none

theorem nearG_t {a b : List Body} {x i : Nat} (h : fgt .f32 (impl_SizeOfVector (impl_LessVectors (a.getD i default).At (b.getD i default).At)) x = true) : nearG a b x i = some () := by
  unfold nearG
  rw [h]

theorem nearG_f {a b : List Body} {x i : Nat} (h : fgt .f32 (impl_SizeOfVector (impl_LessVectors (a.getD i default).At (b.getD i default).At)) x = false) : nearG a b x i = none := by
  unfold nearG
  rw [h]

theorem near_same (a b : List Body) (x : Nat) (ha : a.length ≤ 2 ^ 40) (hab : b.length = a.length) : impl_areNear_need a b x = true ∧ spec_l02Near_need a b x = true ∧ impl_areNear a b x = spec_l02Near a b x := by
  obtain ⟨h1, h2⟩ := scan_loop (α := Unit) (β := Unit) (step := impl_areNear_loop0_step (a, b, x, ((a.length : Nat) : Int))) a.length (nearG a b x) () (fun i hi => by
    refine ⟨[], ?_⟩
    have hb : i < b.length := by omega
    unfold impl_areNear_loop0_step
    simp only [DT.get, nat_dec hi, nat_dec hb, nat_ge, Bool.and_self, Int.toNat_natCast, (size_same _).1, nat_next hi (by omega)]
    split
    · rename_i h
      rw [nearG_t h]
    · rename_i h
      rw [nearG_f h]) ⟨[], by
    unfold impl_areNear_loop0_step
    simp only [DT.get, nat_not]⟩
  obtain ⟨k1, k2⟩ := scan_loop (α := Unit) (β := Unit) (step := spec_l02Near_loop0_step (a, b, x)) a.length (nearG a b x) () (fun i hi => by
    refine ⟨[], ?_⟩
    have hb : i < b.length := by omega
    unfold spec_l02Near_loop0_step
    simp only [DT.get, nat_dec hi, nat_dec hb, nat_ge, Bool.and_self, Int.toNat_natCast, (apart_same _ _).1, (apart_same _ _).2, nat_next hi (by omega)]
    split
    · rename_i h
      rw [nearG_t h]
    · rename_i h
      rw [nearG_f h]) ⟨[], by
    unfold spec_l02Near_loop0_step
    simp only [DT.get, nat_not]⟩
  have h1 : impl_areNear_loop0_ends (a, b, x, ((a.length : Nat) : Int)) 0 = true := h1
  have k1 : spec_l02Near_loop0_ends (a, b, x) 0 = true := k1
  have hv : impl_areNear_loop0 (a, b, x, ((a.length : Nat) : Int)) 0 = spec_l02Near_loop0 (a, b, x) 0 := h2.trans k2.symm
  unfold impl_areNear_need spec_l02Near_need impl_areNear spec_l02Near impl_areNear_tree spec_l02Near_tree
  simp only [DT.ok, DT.val, h1, k1, hv]
  cases spec_l02Near_loop0 (a, b, x) 0 <;> simp only [isL] <;> exact ⟨trivial, trivial, trivial⟩

/-! ## Halved steps -/

/-- The powers of two that a halved step is tried with. -/
def isP (m : Int) : Prop := m = 1 ∨ m = 2 ∨ m = 4 ∨ m = 8 ∨ m = 16 ∨ m = 32

theorem isP_read {m : Int} (h : isP m) : ∃ j, FloatKind.f32.format.read (fofInt .f32 m) = .number false 8388608 j ∧ -23 ≤ j := by
  rcases h with rfl | rfl | rfl | rfl | rfl | rfl
  · exact ⟨-23, by decide +kernel, by decide⟩
  · exact ⟨-22, by decide +kernel, by decide⟩
  · exact ⟨-21, by decide +kernel, by decide⟩
  · exact ⟨-20, by decide +kernel, by decide⟩
  · exact ⟨-19, by decide +kernel, by decide⟩
  · exact ⟨-18, by decide +kernel, by decide⟩

theorem isP_in {m : Int} (h : isP m) : spec_l00In m 0 64 = true := by
  rcases h with rfl | rfl | rfl | rfl | rfl | rfl <;> rfl

theorem half_part (l : List Body) (c t : Nat) (m : Int) (hok : okL l = true) (hc : spec_l02Least c = true) (ht : isNum .f32 t = true) (hm : isP m) : impl_RunBodies_need l c (fdiv .f32 t (fofInt .f32 m)) m = true ∧ spec_l02Run_need l c (fdiv .f32 t (fofInt .f32 m)) m = true ∧ impl_RunBodies l c (fdiv .f32 t (fofInt .f32 m)) m = spec_l02Run l c (fdiv .f32 t (fofInt .f32 m)) m ∧ ∀ r, spec_l02Run l c (fdiv .f32 t (fofInt .f32 m)) m = .inr r → r.length = l.length := by
  have h16 := okL_len hok
  obtain ⟨j, hj1, hj2⟩ := isP_read hm
  have hn := fdiv_pow hj1 hj2 ht
  obtain ⟨a1, a2⟩ := run_same l c (fdiv .f32 t (fofInt .f32 m)) m (by omega)
  have hin := isP_in hm
  obtain ⟨s1, s2, s3⟩ := run_spec l c (fdiv .f32 t (fofInt .f32 m)) m hok (by have := in_range hin; omega)
  rw [hn, hok, hc, hin] at a2
  exact ⟨a1, s1, a2, fun r hr => (s3 r hr).2⟩

/-- A round of the halving. -/
noncomputable def halfRound (l : List Body) (c t x : Nat) (m : Int) : Int ⊕ ((Int × List Body) ⊕ Unit) := match decide (m < 32) with
  | true => match spec_l02Run l c (fdiv .f32 t (fofInt .f32 m)) m, spec_l02Run l c (fdiv .f32 t (fofInt .f32 (2 * m))) (2 * m) with
    | .inr a, .inr b => match spec_l02Near a b x with
      | true => .inr (.inl (m, b))
      | false => .inl (2 * m)
    | _, _ => .inl (2 * m)
  | false => .inr (.inr ())

theorem half_impl_round (l : List Body) (c t x : Nat) (hok : okL l = true) (hc : spec_l02Least c = true) (ht : isNum .f32 t = true) {m : Int} (hm : isP m) : ∃ fl, (impl_HalvedBodies_loop0_step (l, c, t, x) m).get = some (halfRound l c t x m, fl) := by
  have h16 := okL_len hok
  unfold halfRound
  cases hd : decide (m < 32) with
  | false =>
    refine ⟨[], ?_⟩
    unfold impl_HalvedBodies_loop0_step
    simp only [DT.get, hd]
  | true =>
    have hlt := of_decide_eq_true hd
    have hm2 : isP (2 * m) := by
      unfold isP at *
      omega
    have hb : 1 ≤ m ∧ m ≤ 16 := by
      unfold isP at *
      omega
    have w1 : IntKind.wrap .i64 (2 * m) = 2 * m := wrap_small (by omega) (by omega)
    have w2 : IntKind.wrap .i64 (m * 2) = 2 * m := by rw [wrap_small (by omega) (by omega), Int.mul_comm]
    obtain ⟨a1, a2, a3, a4⟩ := half_part l c t m hok hc ht hm
    obtain ⟨b1, b2, b3, b4⟩ := half_part l c t (2 * m) hok hc ht hm2
    cases ha : spec_l02Run l c (fdiv .f32 t (fofInt .f32 m)) m with
    | inl u =>
      cases hb : spec_l02Run l c (fdiv .f32 t (fofInt .f32 (2 * m))) (2 * m) with
      | inl u =>
        refine ⟨[], ?_⟩
        unfold impl_HalvedBodies_loop0_step
        simp only [DT.get, hd, a1, a3, ha, isL, w1, w2, b1, b3, hb]
      | inr b =>
        refine ⟨[], ?_⟩
        unfold impl_HalvedBodies_loop0_step
        simp only [DT.get, hd, a1, a3, ha, isL, w1, w2, b1, b3, hb]
    | inr a =>
      cases hb : spec_l02Run l c (fdiv .f32 t (fofInt .f32 (2 * m))) (2 * m) with
      | inl u =>
        refine ⟨[], ?_⟩
        unfold impl_HalvedBodies_loop0_step
        simp only [DT.get, hd, a1, a3, ha, isL, w1, w2, b1, b3, hb]
      | inr b =>
        have la := a4 a ha
        have lb := b4 b hb
        obtain ⟨n1, n2, n3⟩ := near_same a b x (by omega) (by omega)
        cases hn : spec_l02Near a b x with
        | true =>
          refine ⟨[192], ?_⟩
          unfold impl_HalvedBodies_loop0_step
          simp only [DT.get, hd, a1, a3, ha, isL, rightD, w1, w2, b1, b3, hb, n1, n3, hn]
        | false =>
          refine ⟨[], ?_⟩
          unfold impl_HalvedBodies_loop0_step
          simp only [DT.get, hd, a1, a3, ha, isL, rightD, w1, w2, b1, b3, hb, n1, n3, hn]

theorem half_spec_round (l : List Body) (c t x : Nat) (hok : okL l = true) (hc : spec_l02Least c = true) (ht : isNum .f32 t = true) {m : Int} (hm : isP m) : ∃ fl, (spec_HalvedBodies_loop0_step (l, c, t, x) m).get = some (halfRound l c t x m, fl) := by
  have h16 := okL_len hok
  unfold halfRound
  cases hd : decide (m < 32) with
  | false =>
    refine ⟨[], ?_⟩
    unfold spec_HalvedBodies_loop0_step
    simp only [DT.get, hd]
  | true =>
    have hlt := of_decide_eq_true hd
    have hm2 : isP (2 * m) := by
      unfold isP at *
      omega
    have hb : 1 ≤ m ∧ m ≤ 16 := by
      unfold isP at *
      omega
    have w1 : IntKind.wrap .i64 (2 * m) = 2 * m := wrap_small (by omega) (by omega)
    have w2 : IntKind.wrap .i64 (m * 2) = 2 * m := by rw [wrap_small (by omega) (by omega), Int.mul_comm]
    obtain ⟨a1, a2, a3, a4⟩ := half_part l c t m hok hc ht hm
    obtain ⟨b1, b2, b3, b4⟩ := half_part l c t (2 * m) hok hc ht hm2
    cases ha : spec_l02Run l c (fdiv .f32 t (fofInt .f32 m)) m with
    | inl u =>
      cases hb : spec_l02Run l c (fdiv .f32 t (fofInt .f32 (2 * m))) (2 * m) with
      | inl u =>
        refine ⟨[], ?_⟩
        unfold spec_HalvedBodies_loop0_step
        simp only [DT.get, hd, a2, ha, isL, w1, w2, b2, hb]
      | inr b =>
        refine ⟨[], ?_⟩
        unfold spec_HalvedBodies_loop0_step
        simp only [DT.get, hd, a2, ha, isL, w1, w2, b2, hb]
    | inr a =>
      cases hb : spec_l02Run l c (fdiv .f32 t (fofInt .f32 (2 * m))) (2 * m) with
      | inl u =>
        refine ⟨[], ?_⟩
        unfold spec_HalvedBodies_loop0_step
        simp only [DT.get, hd, a2, ha, isL, w1, w2, b2, hb]
      | inr b =>
        have la := a4 a ha
        have lb := b4 b hb
        obtain ⟨n1, n2, n3⟩ := near_same a b x (by omega) (by omega)
        cases hn : spec_l02Near a b x with
        | true =>
          refine ⟨[192], ?_⟩
          unfold spec_HalvedBodies_loop0_step
          simp only [DT.get, hd, a2, ha, isL, rightD, w1, w2, b2, hb, n2, hn]
        | false =>
          refine ⟨[], ?_⟩
          unfold spec_HalvedBodies_loop0_step
          simp only [DT.get, hd, a2, ha, isL, rightD, w1, w2, b2, hb, n2, hn]

theorem half_next {l : List Body} {c t x : Nat} {m k : Int} (hm : isP m) (h : halfRound l c t x m = .inl k) : isP k ∧ (32 - k).toNat < (32 - m).toNat := by
  unfold halfRound at h
  cases hd : decide (m < 32) with
  | false => rw [hd] at h; cases h
  | true =>
    have hlt := of_decide_eq_true hd
    rw [hd] at h
    simp only at h
    have hk : k = 2 * m := by
      split at h
      · split at h
        · cases h
        · cases h; rfl
      · cases h; rfl
    subst hk
    unfold isP at *
    omega

theorem half_end {l r : List Body} {c t x : Nat} {m k : Int} (hok : okL l = true) (hm : isP m) (h : halfRound l c t x m = .inr (.inl (k, r))) : r.length ≤ 16 := by
  unfold halfRound at h
  cases hd : decide (m < 32) with
  | false => rw [hd] at h; cases h
  | true =>
    have hlt := of_decide_eq_true hd
    rw [hd] at h
    simp only at h
    have hm2 : 2 * m ≤ 2 ^ 40 := by
      unfold isP at *
      omega
    cases ha : spec_l02Run l c (fdiv .f32 t (fofInt .f32 m)) m with
    | inl u => rw [ha] at h; cases h
    | inr a =>
      cases hb : spec_l02Run l c (fdiv .f32 t (fofInt .f32 (2 * m))) (2 * m) with
      | inl u => rw [ha, hb] at h; cases h
      | inr b =>
        rw [ha, hb] at h
        simp only at h
        cases hn : spec_l02Near a b x with
        | false => rw [hn] at h; cases h
        | true =>
          rw [hn] at h
          simp only [Sum.inr.injEq, Sum.inl.injEq, Prod.mk.injEq] at h
          obtain ⟨_, rfl⟩ := h
          exact okL_len ((run_spec l c _ (2 * m) hok hm2).2.2 b hb).1

theorem half_loops (l : List Body) (c t x : Nat) (hok : okL l = true) (hc : spec_l02Least c = true) (ht : isNum .f32 t = true) : impl_HalvedBodies_loop0_ends (l, c, t, x) 1 = true ∧ spec_HalvedBodies_loop0_ends (l, c, t, x) 1 = true ∧ impl_HalvedBodies_loop0 (l, c, t, x) 1 = spec_HalvedBodies_loop0 (l, c, t, x) 1 ∧ ∀ k r, spec_HalvedBodies_loop0 (l, c, t, x) 1 = .inl (k, r) → r.length ≤ 16 := by
  obtain ⟨h1, h2⟩ := loop_post (step := spec_HalvedBodies_loop0_step (l, c, t, x)) isP (fun m => (32 - m).toNat) (fun r => ∀ k q, r = .inl (k, q) → q.length ≤ 16) (by
    intro m hm
    obtain ⟨fl, hg⟩ := half_spec_round l c t x hok hc ht hm
    refine ⟨_, fl, hg, ?_⟩
    cases hr : halfRound l c t x m with
    | inl k => exact half_next hm hr
    | inr r => exact fun k q hq => half_end hok hm (hr.trans (congrArg _ hq))) 1 (.inl rfl)
  obtain ⟨g1, g2⟩ := val_rel (step := spec_HalvedBodies_loop0_step (l, c, t, x)) (step' := impl_HalvedBodies_loop0_step (l, c, t, x)) (fun s s' => s = s' ∧ isP s) (fun r r' => r' = r) (by
    rintro s s' ⟨rfl, hm⟩ o fl ho
    obtain ⟨fl1, hg1⟩ := half_spec_round l c t x hok hc ht hm
    obtain ⟨fl2, hg2⟩ := half_impl_round l c t x hok hc ht hm
    rw [hg1] at ho
    simp only [Option.some.injEq, Prod.mk.injEq] at ho
    obtain ⟨rfl, rfl⟩ := ho
    refine ⟨_, fl2, hg2, ?_⟩
    cases hr : halfRound l c t x s with
    | inl k => exact ⟨rfl, (half_next hm hr).1⟩
    | inr r => rfl) (s := (1 : Int)) (s' := (1 : Int)) ⟨rfl, .inl rfl⟩ h1
  exact ⟨g1, h1, g2, h2⟩

theorem Halved_same (l : List Body) (c t x : Nat) (hl : l.length ≤ 2 ^ 40) : impl_HalvedBodies_need l c t x = true ∧ spec_HalvedBodies_need l c t x = true ∧ impl_HalvedBodies l c t x = spec_HalvedBodies l c t x ∧ ∀ r k, spec_HalvedBodies l c t x = .inr (r, k) → r.length ≤ 16 := by
  obtain ⟨a1, a2⟩ := AreBodies_eq l (by omega)
  obtain ⟨b1, b2⟩ := can_eq l c t hl
  have hcc : impl_isCore_need c = true ∧ impl_isCore c = spec_l02Least c := aMass_same c
  obtain ⟨f1, f2⟩ := areFinite_eq [t, x] (by show 2 ≤ 2 ^ 62; decide)
  have f2 : impl_areFinite [t, x] = (isNum .f32 t && isNum .f32 x) := by rw [f2]; simp only [List.all_cons, List.all_nil, Bool.and_true]
  unfold impl_HalvedBodies_need spec_HalvedBodies_need impl_HalvedBodies spec_HalvedBodies impl_HalvedBodies_tree spec_HalvedBodies_tree
  cases hok : okL l with
  | false =>
    simp only [DT.ok, DT.val, a1, a2, b1, b2, hok, Bool.not_false, Bool.false_and, Bool.and_false]
    exact ⟨trivial, trivial, trivial, fun r k h => by cases h⟩
  | true =>
    cases hc : spec_l02Least c with
    | false =>
      simp only [DT.ok, DT.val, a1, a2, b1, b2, hok, Bool.not_true, hcc.1, hcc.2, hc, Bool.not_false, Bool.and_false]
      exact ⟨trivial, trivial, trivial, fun r k h => by cases h⟩
    | true =>
      cases ht : isNum .f32 t with
      | false =>
        simp only [DT.ok, DT.val, a1, a2, b1, b2, hok, Bool.not_true, hcc.1, hcc.2, hc, f1, f2, ht, Bool.not_false, Bool.false_and]
        exact ⟨trivial, trivial, trivial, fun r k h => by cases h⟩
      | true =>
        cases hx : isNum .f32 x with
        | false =>
          simp only [DT.ok, DT.val, a1, a2, b1, b2, hok, Bool.not_true, hcc.1, hcc.2, hc, f1, f2, ht, hx, Bool.not_false, Bool.and_false, Bool.and_self, l02Least_eq, Bool.false_and]
          exact ⟨trivial, trivial, trivial, fun r k h => by cases h⟩
        | true =>
          cases hg : fge .f32 x 0 with
          | false =>
            simp only [DT.ok, DT.val, a1, a2, b1, b2, hok, Bool.not_true, hcc.1, hcc.2, hc, f1, f2, ht, hx, flt_fge hx, hg, Bool.not_false, Bool.and_false, Bool.and_self, l02Least_eq]
            exact ⟨trivial, trivial, trivial, fun r k h => by cases h⟩
          | true =>
            obtain ⟨i1, i2, i3, i4⟩ := half_loops l c t x hok hc ht
            have hx2 : spec_l02Least x = true := by rw [l02Least_eq, hx, hg]; rfl
            simp only [DT.ok, DT.val, a1, a2, b1, b2, hok, Bool.not_true, hcc.1, hcc.2, hc, f1, f2, ht, hx, flt_fge hx, hg, Bool.and_self, hx2, i1, i2, i3]
            cases hv : spec_HalvedBodies_loop0 (l, c, t, x) 1 with
            | inl p =>
              simp only [isL, leftD]
              exact ⟨trivial, trivial, trivial, fun r k h => by cases h; exact i4 p.1 p.2 hv⟩
            | inr u =>
              simp only [isL]
              exact ⟨trivial, trivial, trivial, fun r k h => by cases h⟩

/-- The law of halved steps. -/
theorem plain13 (l : List Body) (hl : l.length ≤ maxLen) (c t x : Nat) : laws_FnExactHalvedBodies_need l c t x = true ∧ laws_FnExactHalvedBodies l c t x = true := by
  have hs := sz_eq l hl
  unfold laws_FnExactHalvedBodies_need laws_FnExactHalvedBodies laws_FnExactHalvedBodies_tree
  by_cases hn : l.length ≤ 1048576
  · rw [decide_eq_true hn] at hs
    obtain ⟨t1, t2⟩ := toBodyS_eq l (by omega)
    obtain ⟨a1, a2, a3, a4⟩ := Halved_same l c t x (by omega)
    obtain ⟨m1, m2, m3, m4, m5, m6⟩ := marks l (by omega)
    cases hv : spec_HalvedBodies l c t x with
    | inl u =>
      obtain ⟨z1, z2, z3, z4, z5, z6⟩ := marks0
      simp only [DT.ok, DT.val, hs, Bool.not_true, t1, t2, a1, a2, a3, hv, isL, m1, m2, m3, m4, m5, m6, len_pos, len_ne, z1, z2, z3, z4, z5, z6, one_pos, one_ne, leftD, bne_self_eq_false]
      exact ⟨trivial, trivial⟩
    | inr r =>
      obtain ⟨r, k⟩ := r
      have hr := a4 r k hv
      obtain ⟨z1, z2, z3, z4, z5, z6⟩ := marks r (by omega)
      simp only [DT.ok, DT.val, hs, Bool.not_true, t1, t2, a1, a2, a3, hv, isL, leftD, rightD, m1, m2, m3, m4, m5, m6, len_pos, len_ne, z1, z2, z3, z4, z5, z6, bne_self_eq_false]
      exact ⟨trivial, trivial⟩
  · rw [decide_eq_false hn] at hs
    simp only [DT.ok, DT.val, hs, Bool.not_false]
    exact ⟨trivial, trivial⟩

end Go.Proofs.Ytodhhjcgjkfmpaa
