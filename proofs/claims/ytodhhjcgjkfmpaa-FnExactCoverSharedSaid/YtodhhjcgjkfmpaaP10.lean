/- Plain law, part 10: floors, turns, marks on a ball. -/
import Derived.Test.YtodhhjcgjkfmpaaG3
import Derived.Test.YtodhhjcgjkfmpaaP3
import Derived.Test.YtodhhjcgjkfmpaaP4
namespace Go.Proofs.Ytodhhjcgjkfmpaa
set_option linter.unusedVariables false
set_option linter.unusedSimpArgs false
set_option exponentiation.threshold 3000
open Ieee

/-! ## Widened numbers -/

/-- A number that is not zero, widened: the same digits with zeros behind. -/
theorem up_read {x m : Nat} {s : Bool} {p : Int} (hd : FloatKind.f32.format.read x = .number s m p) (hm : m ≠ 0) : ∃ k : Nat, k ≤ 52 ∧ FloatKind.f64.format.nearest s m p = fconv .f32 x .f64 ∧ FloatKind.f64.format.read (fconv .f32 x .f64) = .number s (m * 2 ^ k) (p - k) ∧ 2 ^ 52 ≤ m * 2 ^ k ∧ m * 2 ^ k < 2 ^ 53 := by
  have hlt := mag_lt hd
  have hlt : m < 2 ^ 24 := hlt
  have hp := place_ge hd
  rw [lp_eq] at hp
  have hp : -149 ≤ p := hp
  have hmax := read_max hd
  rw [hd] at hmax
  have hL : m.log2 < 24 := (Nat.log2_lt hm).2 hlt
  have h1 : 2 ^ m.log2 ≤ m := Nat.log2_self_le hm
  have h2 : m < 2 ^ (m.log2 + 1) := Nat.lt_log2_self
  have hle : (m.log2 : Int) + p ≤ 128 := by
    rcases hmax with h0 | ⟨h, a, b⟩
    · exact absurd h0 hm
    · have := log2_of_le hm a
      simp only [emax] at b
      omega
  obtain ⟨k, hk⟩ : ∃ k, k + m.log2 = 52 := ⟨52 - m.log2, by omega⟩
  have g1 : 2 ^ 52 ≤ m * 2 ^ k := by
    rw [← hk, Nat.add_comm, Nat.pow_add]
    exact Nat.mul_le_mul_right _ h1
  have g2 : m * 2 ^ k < 2 ^ 53 := by
    have : 53 = (m.log2 + 1) + k := by omega
    rw [this, Nat.pow_add]
    exact Nat.mul_lt_mul_of_pos_right h2 (Nat.pow_pos (by decide))
  have hsc : FloatKind.f64.format.nearest s (m * 2 ^ k) (p - k) = FloatKind.f64.format.nearest s m p := by
    rw [nearest_scale]
    congr 1
    omega
  have hr : FloatKind.f64.format.read (FloatKind.f64.format.nearest s m p) = .number s (m * 2 ^ k) (p - k) := by
    rw [← hsc]
    exact read_nearest (k := .f64) g1 g2 (by show (-1074 : Int) ≤ p - k; omega) (by show p - k + ((52 : Nat) : Int) ≤ ((1023 : Nat) : Int); omega)
  have he : FloatKind.f64.format.nearest s m p = fconv .f32 x .f64 := by
    unfold fconv
    rw [show FloatKind.f32.decode x = .number s m p from hd]
    show _ = canon .f64 (FloatKind.f64.format.nearest s m p)
    rw [canon_num' (isNum_iff.2 ⟨_, _, _, hr⟩)]
  exact ⟨k, by omega, he, he ▸ hr, g1, g2⟩

theorem V_zero {k : FloatKind} {x m : Nat} {s : Bool} {p : Int} (hd : k.format.read x = .number s m p) : V k x = 0 ↔ m = 0 := by
  have h := V_abs hd
  have hpos : 0 < 2 ^ (p - lplace k).toNat := Nat.pow_pos (by decide)
  constructor
  · intro h0
    rw [h0] at h
    rcases Nat.mul_eq_zero.1 h.symm with h | h
    · exact h
    · omega
  · intro h0
    rw [h0, Nat.zero_mul] at h
    omega

theorem up_zero {x : Nat} (hx : isNum .f32 x = true) : feq .f64 (fconv .f32 x .f64) 0 = feq .f32 x 0 := by
  have hu := (isNum_up x).trans hx
  rw [feq_num hu zero64.1, feq_num hx consts32.1, zero64.2, show V .f32 0 = 0 from by decide +kernel]
  obtain ⟨s, m, p, hd⟩ := isNum_iff.1 hx
  refine decide_eq_decide.2 ?_
  rw [V_zero hd]
  by_cases hm : m = 0
  · refine ⟨fun _ => hm, fun _ => ?_⟩
    subst hm
    have e : fconv .f32 x .f64 = canon .f64 (FloatKind.f64.format.nearest s 0 p) := by
      unfold fconv
      rw [show FloatKind.f32.decode x = .number s 0 p from hd]
      rfl
    have hn : FloatKind.f64.format.nearest s 0 p = FloatKind.f64.format.word s 0 := by simp [Format.nearest]
    rw [e, hn]
    cases s <;> decide +kernel
  · obtain ⟨k, hk, he, hr, g1, g2⟩ := up_read hd hm
    rw [V_zero hr]
    generalize m * 2 ^ k = a at *
    have : 0 < 2 ^ 52 := by decide
    omega

/-! ## Floors -/

theorem dcut_le {s : Bool} {m h e : Nat} {p : Int} (h1 : m ≤ 2 ^ h) (h2 : (h : Int) + p ≤ e) : Toward.down.cut s (m <<< p.toNat) (-p).toNat ≤ 2 ^ (e + 1) := by
  have hz := zcut_le (s := s) h1 h2
  have hd : Toward.down.cut s (m <<< p.toNat) (-p).toNat ≤ Toward.zero.cut s (m <<< p.toNat) (-p).toNat + 1 := by
    unfold Toward.cut
    simp only [Bool.toNat_false, Nat.add_zero]
    generalize (s && _) = b
    cases b <;> simp
  have hpe : 0 < 2 ^ e := Nat.pow_pos (by decide)
  rw [Nat.pow_succ]
  omega

theorem floor_num {y m : Nat} {s : Bool} {p : Int} (hd : FloatKind.f64.format.read y = .number s m p) : ffloor y = canon .f64 (FloatKind.f64.format.nearest s (Toward.down.cut s (m <<< p.toNat) (-p).toNat) 0) := by
  unfold ffloor ftoward
  rw [show FloatKind.f64.decode y = .number s m p from hd]
  rfl

theorem floor_fits (x : Nat) : fconvOk .f64 (ffloor (fconv .f32 x .f64)) .f32 = true := by
  rcases kinds .f32 x with ⟨s, m, p, hd, h1, h2⟩ | ⟨s, hd, h1, h2⟩ | ⟨s, t, hd, h1, h2⟩
  · by_cases hV : (V .f32 x).natAbs ≤ 2 ^ (24 + 149)
    · have hs : Sm .f32 24 x := sm_V (by decide) h1 hV
      have hs := fconv_sm (s := .f32) (d := .f64) (by decide) (by decide) hs
      generalize fconv .f32 x .f64 = y at *
      obtain ⟨t, n, q, hr, hq⟩ := amp_number (read_amp (k := .f64) (by decide) hs)
      have hf : Sm .f64 25 (FloatKind.f64.format.nearest t (Toward.down.cut t (n <<< q.toNat) (-q).toNat) 0) := by
        refine nearest_sm (by decide) ?_
        rcases hq with rfl | ⟨h, a, b⟩
        · left
          cases t <;> simp [Toward.cut, Nat.shiftLeft_eq]
        · exact .inr ⟨25, dcut_le a b, by decide⟩
      rw [floor_num hr, canon_num' (sm_num (by decide) hf)]
      exact fconvOk_down (by decide) hf
    · have hm24 : m < 2 ^ 24 := mag_lt hd
      rw [V_abs hd] at hV
      have hm0 : m ≠ 0 := fun h => hV (by rw [h, Nat.zero_mul]; exact Nat.zero_le _)
      have hp : 0 ≤ p := by
        refine Int.not_lt.1 fun hlt => hV ?_
        have h3 : (p - lplace .f32).toNat ≤ 149 := by show (p - (-149)).toNat ≤ 149; omega
        rw [Nat.pow_add]
        exact Nat.mul_le_mul (Nat.le_of_lt hm24) (Nat.pow_le_pow_right (by decide) h3)
      obtain ⟨k, hk, he, hr, g1, g2⟩ := up_read hd hm0
      have hyn : isNum .f64 (fconv .f32 x .f64) = true := (isNum_up x).trans h1
      have hfl : ffloor (fconv .f32 x .f64) = fconv .f32 x .f64 := by
        rw [floor_num hr]
        have hw : FloatKind.f64.format.nearest s (Toward.down.cut s ((m * 2 ^ k) <<< (p - k).toNat) (-(p - k)).toNat) 0 = FloatKind.f64.format.nearest s m p := by
          by_cases hq : 0 ≤ p - k
          · have e0 : (-(p - k)).toNat = 0 := by omega
            have ec : Toward.down.cut s ((m * 2 ^ k) <<< (p - k).toNat) 0 = m * 2 ^ k * 2 ^ (p - k).toNat := by
              unfold Toward.cut
              simp [Nat.shiftLeft_eq, Nat.mod_one]
            rw [e0, ec, Nat.mul_assoc, ← Nat.pow_add, nearest_scale]
            congr 1
            omega
          · have e0 : (p - k).toNat = 0 := by omega
            obtain ⟨j, hj⟩ : ∃ j : Nat, p = j := ⟨p.toNat, by omega⟩
            obtain ⟨d, hdd⟩ : ∃ d : Nat, d + j = k := ⟨k - j, by omega⟩
            have e1 : (-(p - k)).toNat = d := by omega
            have e2 : m * 2 ^ k = m * 2 ^ j * 2 ^ d := by rw [← hdd, Nat.mul_assoc, ← Nat.pow_add, Nat.add_comm]
            have hlog : d ≤ (m * 2 ^ k).log2 + 2 := by
              have hne : m * 2 ^ k ≠ 0 := by
                have : 0 < 2 ^ 52 := by decide
                omega
              have := (Nat.le_log2 hne).2 g1
              omega
            have ec : Toward.down.cut s (m * 2 ^ k) d = m * 2 ^ j := by
              have hpos : 0 < 2 ^ d := Nat.pow_pos (by decide)
              unfold Toward.cut
              rw [Nat.min_eq_left hlog]
              simp only [Nat.shiftLeft_eq, Nat.one_mul]
              rw [e2, Nat.mul_div_cancel _ hpos, Nat.mul_mod_left]
              simp
            rw [e0, e1, Nat.shiftLeft_eq, Nat.pow_zero, Nat.mul_one, ec, nearest_scale, hj]
            congr 1
            omega
        rw [hw, he]
        exact canon_num' hyn
      rw [hfl]
      unfold fconvOk
      rw [show FloatKind.f64.decode (fconv .f32 x .f64) = .number s (m * 2 ^ k) (p - k) from hr]
      show (!(FloatKind.f32.format.read (FloatKind.f32.format.nearest s (m * 2 ^ k) (p - k))).isInfinity) = true
      have e3 : FloatKind.f32.format.nearest s (m * 2 ^ k) (p - k) = FloatKind.f32.format.nearest s m p := by
        rw [nearest_scale]
        congr 1
        omega
      obtain ⟨r1, r2⟩ := read_mod (k := .f32) (x := x)
      have hw : Wd .f32 (x % (FloatKind.f32.format.signWeight * 2)) := by
        unfold Wd
        rw [Nat.mul_comm 2]
        exact Nat.mod_lt _ (by decide +kernel)
      rw [e3, write_read hw (r1.trans hd), r1, hd]
      rfl
  · rw [fconv_inf hd]
    cases s <;> decide +kernel
  · rw [fconv_nan h2]
    decide +kernel

/-! ## Turns -/

theorem floor_same (x : Nat) : impl_floor32_need x = true ∧ spec_l06Floor_need x = true ∧ impl_floor32 x = spec_l06Floor x := by
  have h : fconvOk .f64 (math_Floor (fconv .f32 x .f64)) .f32 = true := floor_fits x
  unfold impl_floor32_need spec_l06Floor_need impl_floor32 spec_l06Floor impl_floor32_tree spec_l06Floor_tree
  simp only [DT.ok, DT.val, fconvOk_up, h]
  exact ⟨trivial, trivial, trivial⟩

theorem wrap_same (x : Nat) : impl_wrapTurn_need x = true ∧ spec_l06Wrap_need x = true ∧ impl_wrapTurn x = spec_l06Wrap x := by
  unfold impl_wrapTurn_need spec_l06Wrap_need impl_wrapTurn spec_l06Wrap impl_wrapTurn_tree spec_l06Wrap_tree
  simp only [(floor_same _).1, (floor_same _).2.1, (floor_same _).2.2]
  generalize spec_l06Floor (fadd .f32 x 1056964608) = a
  generalize fsub .f32 x a = b
  generalize fadd .f32 b 1065353216 = c
  refine ⟨?_, ?_, by first | rfl | trivial⟩
  · cases h1 : flt .f32 b 3204448256 <;> cases h2 : flt .f32 b 1056964608 <;> cases h3 : flt .f32 c 1056964608 <;> simp only [DT.ok, h1, h2, h3, Bool.not_true, Bool.not_false]
  · cases h1 : flt .f32 b 3204448256 <;> cases h2 : flt .f32 b 1056964608 <;> cases h3 : flt .f32 c 1056964608 <;> simp only [DT.ok, h1, h2, h3, Bool.not_true, Bool.not_false]

theorem face_same (b : Ball) (t : Nat) : impl_Ball_face b t = spec_l06Face b t := rfl

theorem angle_nan {y x : Nat} (h : (isNum .f64 y && isNum .f64 x) = false) : spec_l01AngleWide y x = math_NaN := by
  cases hy : isNum .f64 y with
  | false =>
    have e1 : fne .f64 (fsub .f64 y y) 0 = true := by rw [finite_not, hy]; rfl
    unfold spec_l01AngleWide spec_l01AngleWide_tree
    generalize math_NaN = v
    simp only [DT.val, e1]
  | true =>
    rw [hy, Bool.true_and] at h
    have e1 : fne .f64 (fsub .f64 y y) 0 = false := by rw [finite_not, hy]; rfl
    have e2 : fne .f64 (fsub .f64 x x) 0 = true := by rw [finite_not, h]; rfl
    unfold spec_l01AngleWide spec_l01AngleWide_tree
    generalize math_NaN = v
    simp only [DT.val, e1, e2]

theorem val_nnn {α : Type} [Inhabited α] (a b c : Bool) (x : α) : (DT.need a (.need b (.need c (.leaf x)))).val = x := rfl
theorem ok_nnn {α : Type} [Inhabited α] (a b c : Bool) (x : α) (ha : a = true) (hb : b = true) (hc : c = true) : (DT.need a (.need b (.need c (.leaf x)))).ok = true := by subst ha hb hc; rfl

theorem angle_spec (y x : Nat) : spec_l01Angle_need y x = true ∧ spec_l01Angle y x = fconv .f64 (spec_l01AngleWide (fconv .f32 y .f64) (fconv .f32 x .f64)) .f32 := by
  obtain ⟨a1, a2⟩ := angleOf_same (fconv .f32 y .f64) (fconv .f32 x .f64)
  obtain ⟨n1, n2⟩ := narrow_eq a2
  have h1 : spec_l01Angle y x = (DT.need (fconvOk .f32 y .f64) (.need (fconvOk .f32 x .f64) (.need (spec_l01Narrow_need (spec_l01AngleWide (fconv .f32 y .f64) (fconv .f32 x .f64))) (.leaf (spec_l01Narrow (spec_l01AngleWide (fconv .f32 y .f64) (fconv .f32 x .f64))))))).val := rfl
  have h2 : spec_l01Angle_need y x = (DT.need (fconvOk .f32 y .f64) (.need (fconvOk .f32 x .f64) (.need (spec_l01Narrow_need (spec_l01AngleWide (fconv .f32 y .f64) (fconv .f32 x .f64))) (.leaf (spec_l01Narrow (spec_l01AngleWide (fconv .f32 y .f64) (fconv .f32 x .f64))))))).ok := rfl
  exact ⟨h2.trans (ok_nnn _ _ _ _ (fconvOk_up _) (fconvOk_up _) n1), (h1.trans (val_nnn _ _ _ _)).trans n2⟩

theorem zero_down : fconv .f64 0 .f32 = 0 := by decide +kernel

def turnsT (n1 c1 n2 c2 zy zx u1 u2 : Bool) (nan w : Nat) : DT Nat :=
  .need n1 (.ask (!c1) (.need (fconvOk .f64 nan .f32) (.leaf (fconv .f64 nan .f32))) (.need n2 (.ask (!c2) (.need (fconvOk .f64 nan .f32) (.leaf (fconv .f64 nan .f32))) (.ask zy (.ask zx (.leaf 0) (.need u1 (.need u2 (.need (fconvOk .f64 w .f32) (.leaf (fconv .f64 w .f32)))))) (.need u1 (.need u2 (.need (fconvOk .f64 w .f32) (.leaf (fconv .f64 w .f32)))))))))

theorem turnsT_law (c1 c2 zy zx : Bool) (nan w : Nat) (hn : fconvOk .f64 nan .f32 = true) (hw : (c1 && c2) = true → (zx && zy) = false → fconvOk .f64 w .f32 = true) : (turnsT true c1 true c2 zy zx true true nan w).ok = true ∧ (turnsT true c1 true c2 zy zx true true nan w).val = match c1 && c2 with
    | false => fconv .f64 nan .f32
    | true => match zx && zy with
      | true => 0
      | false => fconv .f64 w .f32 := by
  unfold turnsT
  cases c1 <;> cases c2 <;> cases zy <;> cases zx <;> simp_all [DT.ok, DT.val]

theorem turns_tree (y x : Nat) : impl_AngleTurns_tree y x = turnsT (impl_IsFinite_need y) (impl_IsFinite y) (impl_IsFinite_need x) (impl_IsFinite x) (feq .f32 y 0) (feq .f32 x 0) (fconvOk .f32 y .f64) (fconvOk .f32 x .f64) math_NaN (impl_angle (fconv .f32 y .f64) (fconv .f32 x .f64)) := rfl

theorem angle_same (y x : Nat) : impl_AngleTurns_need y x = true ∧ spec_l01Angle_need y x = true ∧ impl_AngleTurns y x = spec_l01Angle y x := by
  obtain ⟨s1, s2⟩ := angle_spec y x
  have hfit := (angleOf_same (fconv .f32 y .f64) (fconv .f32 x .f64)).2
  have hs : (isNum .f32 y && isNum .f32 x) = true → spec_l01AngleWide (fconv .f32 y .f64) (fconv .f32 x .f64) = match feq .f32 x 0 && feq .f32 y 0 with
      | true => 0
      | false => impl_angle (fconv .f32 y .f64) (fconv .f32 x .f64) := fun h => by
    rw [Bool.and_eq_true] at h
    have hs := spec_angle_eq (fconv .f32 y .f64) (fconv .f32 x .f64) ((isNum_up y).trans h.1) ((isNum_up x).trans h.2)
    rw [← impl_angle_eq, up_zero h.1, up_zero h.2] at hs
    exact hs
  obtain ⟨t1, t2⟩ := turnsT_law (isNum .f32 y) (isNum .f32 x) (feq .f32 y 0) (feq .f32 x 0) math_NaN (impl_angle (fconv .f32 y .f64) (fconv .f32 x .f64)) nan_fits (fun h1 h2 => by
    have h := hs h1
    rw [h2] at h
    rw [h] at hfit
    exact hfit)
  have e := turns_tree y x
  rw [IsFinite_need, IsFinite_need, IsFinite_eq, IsFinite_eq, fconvOk_up, fconvOk_up] at e
  have v1 : impl_AngleTurns_need y x = (impl_AngleTurns_tree y x).ok := rfl
  have v2 : impl_AngleTurns y x = (impl_AngleTurns_tree y x).val := rfl
  rw [v1, v2, e]
  refine ⟨t1, s1, ?_⟩
  rw [t2, s2]
  cases hq : isNum .f32 y && isNum .f32 x with
  | false =>
    rw [angle_nan (by rw [isNum_up, isNum_up, hq])]
  | true =>
    rw [hs hq]
    cases feq .f32 x 0 && feq .f32 y 0 with
    | false => rfl
    | true => exact zero_down.symm

/-! ## Balls and marks -/

theorem areLengths_eq (l : List Nat) (hl : l.length ≤ 2 ^ 62) : impl_areLengths_need l = true ∧ impl_areLengths l = l.all spec_l02Above := by
  obtain ⟨h1, h2⟩ := scan_loop (α := Unit) (β := Unit) (step := impl_areLengths_loop0_step (l, ((l.length : Nat) : Int))) l.length (fun i => bif spec_l02Above (l.getD i default) then none else some ()) () (fun i hi => by
    refine ⟨[], ?_⟩
    unfold impl_areLengths_loop0_step
    simp only [DT.get, nat_dec hi, nat_in hi, (aLength_same _).1, (aLength_same _).2, Int.toNat_natCast, nat_next hi hl]
    cases spec_l02Above (l.getD i default) <;> rfl) ⟨[], by
    unfold impl_areLengths_loop0_step
    simp only [DT.get, nat_not]⟩
  have hall := firstOf_all spec_l02Above (fun i => ()) default l
  have h1 : impl_areLengths_loop0_ends (l, ((l.length : Nat) : Int)) 0 = true := h1
  have h2 : impl_areLengths_loop0 (l, ((l.length : Nat) : Int)) 0 = _ := h2
  unfold impl_areLengths_need impl_areLengths impl_areLengths_tree
  simp only [DT.ok, DT.val, h1, h2]
  rw [← hall]
  cases hf : firstOf (fun i => bif spec_l02Above (l.getD i default) then none else some ()) l.length with
  | none => constructor <;> first | trivial | rfl
  | some a => constructor <;> first | trivial | rfl

theorem ValidBall_eq (b : Ball) : impl_ValidBall_need b = true ∧ impl_ValidBall b = spec_l06Ball b := by
  obtain ⟨a1, a2⟩ := areLengths_eq [b.Mass, b.Radius] (by show 2 ≤ 2 ^ 62; decide)
  obtain ⟨f1, f2⟩ := areFinite_eq [b.Spin, b.Start] (by show 2 ≤ 2 ^ 62; decide)
  have a2 : impl_areLengths [b.Mass, b.Radius] = (spec_l02Above b.Mass && spec_l02Above b.Radius) := by rw [a2]; simp only [List.all_cons, List.all_nil, Bool.and_true]
  have f2 : impl_areFinite [b.Spin, b.Start] = (isNum .f32 b.Spin && isNum .f32 b.Start) := by rw [f2]; simp only [List.all_cons, List.all_nil, Bool.and_true]
  unfold impl_ValidBall_need impl_ValidBall impl_ValidBall_tree spec_l06Ball spec_l06Ball_tree
  simp only [a1, a2, f1, f2, l01Finite_eq]
  generalize spec_l02Above b.Mass = p
  generalize spec_l02Above b.Radius = q
  generalize isNum .f32 b.Spin = r
  generalize isNum .f32 b.Start = s
  cases p <;> cases q <;> cases r <;> cases s <;> constructor <;> rfl

theorem ValidMark_eq (m : Mark) : impl_ValidMark_need m = true ∧ impl_ValidMark m = spec_l06Mark m := by
  unfold impl_ValidMark_need impl_ValidMark impl_ValidMark_tree spec_l06Mark spec_l06Mark_tree
  simp only [l01Finite_eq, IsFinite_need, IsFinite_eq]
  generalize fge .f32 m.North 3196059648 = p
  generalize fle .f32 m.North 1048576000 = q
  generalize fge .f32 m.East 3204448256 = r
  generalize flt .f32 m.East 1056964608 = s
  generalize isNum .f32 m.High = t
  cases p <;> cases q <;> cases r <;> cases s <;> constructor <;> rfl

theorem val_nl3 {α : Type} [Inhabited α] (c : Bool) (x : α) : (DT.need c (.leaf x)).val = x := rfl
theorem ok_nl3 {α : Type} [Inhabited α] (c : Bool) (x : α) : (DT.need c (.leaf x)).ok = c := by cases c <;> rfl

theorem InnerV3 (a b : Vec) : impl_InnerOf a b = spec_l01VInner a b := rfl

theorem size3_same (v : Vec) : impl_SizeOfVector_need v = true ∧ spec_l01VLong_need v = true ∧ impl_SizeOfVector v = spec_l01VLong v := by
  have h1 : impl_SizeOfVector v = (DT.need (impl_RootNumber_need (impl_InnerOf v v)) (.leaf (impl_RootNumber (impl_InnerOf v v)))).val := rfl
  have h2 : impl_SizeOfVector_need v = (DT.need (impl_RootNumber_need (impl_InnerOf v v)) (.leaf (impl_RootNumber (impl_InnerOf v v)))).ok := rfl
  have h3 : spec_l01VLong v = (DT.need (spec_l01Sqrt_need (spec_l01VInner v v)) (.leaf (spec_l01Sqrt (spec_l01VInner v v)))).val := rfl
  have h4 : spec_l01VLong_need v = (DT.need (spec_l01Sqrt_need (spec_l01VInner v v)) (.leaf (spec_l01Sqrt (spec_l01VInner v v)))).ok := rfl
  rw [h1.trans (val_nl3 _ _), h2.trans (ok_nl3 _ _), h3.trans (val_nl3 _ _), h4.trans (ok_nl3 _ _), InnerV3]
  exact root_same _


def northOf (A : Nat) : Nat := match fgt .f32 A 1048576000 with
  | true => (match flt .f32 1048576000 3196059648 with
    | true => 3196059648
    | false => 1048576000)
  | false => match flt .f32 A 3196059648 with
    | true => 3196059648
    | false => A

def markR (n : Nat) (fin : Bool) (W H : Nat) : Mark × Bool := match fin with
  | false => (⟨0, 0, 0⟩, false)
  | true => match spec_l06Mark ⟨n, W, H⟩ with
    | true => (⟨n, W, H⟩, true)
    | false => (⟨0, 0, 0⟩, false)

/-- A mark, in plain words. -/
def markP (b : Ball) (v : Vec) (t : Nat) : Mark × Bool :=
  markR (northOf (spec_l01Angle v.Z (spec_l01Sqrt (fadd .f32 (fmul .f32 v.X v.X) (fmul .f32 v.Y v.Y))))) (isNum .f32 (fsub .f32 (spec_l01Angle v.Y v.X) (spec_l06Face b t))) (spec_l06Wrap (fsub .f32 (spec_l01Angle v.Y v.X) (spec_l06Face b t))) (fsub .f32 (spec_l01VLong v) b.Radius)

theorem l06MarkOf_eq (b : Ball) (v : Vec) (t : Nat) : spec_l06MarkOf_need b v t = true ∧ spec_l06MarkOf b v t = markP b v t := by
  obtain ⟨ma, ra, sp, st⟩ := b
  obtain ⟨X, Y, Z⟩ := v
  unfold spec_l06MarkOf_need spec_l06MarkOf spec_l06MarkOf_tree markP
  simp only [(root_same _).2.1, (angle_same _ _).2.1, (wrap_same _).2.1, (size3_same _).2.1, l01Finite_eq]
  generalize spec_l01Sqrt (fadd .f32 (fmul .f32 X X) (fmul .f32 Y Y)) = r
  generalize spec_l01Angle Z r = A
  generalize spec_l01Angle Y X = B
  generalize spec_l06Face ⟨ma, ra, sp, st⟩ t = F
  generalize fsub .f32 B F = D
  generalize spec_l06Wrap D = W
  generalize spec_l01VLong ⟨X, Y, Z⟩ = L
  generalize fsub .f32 L ra = H
  unfold northOf
  cases h1 : fgt .f32 A 1048576000 with
  | true =>
    cases h2 : flt .f32 1048576000 3196059648 <;> simp only <;> unfold markR
    · cases h3 : isNum .f32 D <;> cases h4 : spec_l06Mark ⟨1048576000, W, H⟩ <;> simp only [DT.ok, DT.val, h1, h2, h3, h4, Bool.not_true, Bool.not_false] <;> exact ⟨trivial, trivial⟩
    · cases h3 : isNum .f32 D <;> cases h4 : spec_l06Mark ⟨3196059648, W, H⟩ <;> simp only [DT.ok, DT.val, h1, h2, h3, h4, Bool.not_true, Bool.not_false] <;> exact ⟨trivial, trivial⟩
  | false =>
    cases h2 : flt .f32 A 3196059648 <;> simp only <;> unfold markR
    · cases h3 : isNum .f32 D <;> cases h4 : spec_l06Mark ⟨A, W, H⟩ <;> simp only [DT.ok, DT.val, h1, h2, h3, h4, Bool.not_true, Bool.not_false] <;> exact ⟨trivial, trivial⟩
    · cases h3 : isNum .f32 D <;> cases h4 : spec_l06Mark ⟨3196059648, W, H⟩ <;> simp only [DT.ok, DT.val, h1, h2, h3, h4, Bool.not_true, Bool.not_false] <;> exact ⟨trivial, trivial⟩

/-- The mark below a point: the program's and the reference's. -/
theorem MarkOf_same (b : Ball) (v : Vec) (t : Nat) : impl_MarkOf_need b v t = true ∧ spec_MarkOf_need b v t = true ∧ impl_MarkOf b v t = spec_MarkOf b v t := by
  obtain ⟨s1, s2⟩ := l06MarkOf_eq b v t
  obtain ⟨ma, ra, sp, st⟩ := b
  obtain ⟨X, Y, Z⟩ := v
  unfold impl_MarkOf_need spec_MarkOf_need impl_MarkOf spec_MarkOf impl_MarkOf_tree spec_MarkOf_tree
  unfold markP at s2
  simp only [(ValidBall_eq _).1, (ValidBall_eq _).2, (isFiniteVector_eq _).1, (isFiniteVector_eq _).2, l01VFinite_eq, l01Finite_eq, IsFinite_need, IsFinite_eq, (root_same _).1, (root_same _).2.2, (angle_same _ _).1, (angle_same _ _).2.2, (wrap_same _).1, (wrap_same _).2.2, (size3_same _).1, (size3_same _).2.2, face_same, (ValidMark_eq _).1, (ValidMark_eq _).2, s1, s2]
  simp only at s2
  generalize spec_l01Sqrt (fadd .f32 (fmul .f32 X X) (fmul .f32 Y Y)) = r
  generalize spec_l01Angle Z r = A
  generalize spec_l01Angle Y X = B
  generalize spec_l06Face ⟨ma, ra, sp, st⟩ t = F
  generalize fsub .f32 B F = D
  generalize spec_l06Wrap D = W
  generalize spec_l01VLong ⟨X, Y, Z⟩ = L
  generalize fsub .f32 L ra = H
  generalize spec_l06Ball ⟨ma, ra, sp, st⟩ = c1
  generalize finV ⟨X, Y, Z⟩ = c2
  generalize isNum .f32 t = c3
  cases c1 with
  | false => simp only [DT.ok, DT.val, Bool.not_false]; exact ⟨trivial, trivial, trivial⟩
  | true =>
    cases c2 with
    | false => simp only [DT.ok, DT.val, Bool.not_false, Bool.not_true]; exact ⟨trivial, trivial, trivial⟩
    | true =>
      cases c3 with
      | false => simp only [DT.ok, DT.val, Bool.not_false, Bool.not_true]; exact ⟨trivial, trivial, trivial⟩
      | true =>
        unfold northOf
        cases h1 : fgt .f32 A 1048576000 with
        | true =>
          cases h2 : flt .f32 1048576000 3196059648 <;> simp only <;> unfold markR
          · cases h3 : isNum .f32 D <;> cases h4 : spec_l06Mark ⟨1048576000, W, H⟩ <;> simp only [DT.ok, DT.val, h1, h2, h3, h4, Bool.not_true, Bool.not_false] <;> exact ⟨trivial, trivial, trivial⟩
          · cases h3 : isNum .f32 D <;> cases h4 : spec_l06Mark ⟨3196059648, W, H⟩ <;> simp only [DT.ok, DT.val, h1, h2, h3, h4, Bool.not_true, Bool.not_false] <;> exact ⟨trivial, trivial, trivial⟩
        | false =>
          cases h2 : flt .f32 A 3196059648 <;> simp only <;> unfold markR
          · cases h3 : isNum .f32 D <;> cases h4 : spec_l06Mark ⟨A, W, H⟩ <;> simp only [DT.ok, DT.val, h1, h2, h3, h4, Bool.not_true, Bool.not_false] <;> exact ⟨trivial, trivial, trivial⟩
          · cases h3 : isNum .f32 D <;> cases h4 : spec_l06Mark ⟨3196059648, W, H⟩ <;> simp only [DT.ok, DT.val, h1, h2, h3, h4, Bool.not_true, Bool.not_false] <;> exact ⟨trivial, trivial, trivial⟩

theorem eqMark_self (m : Mark) : laws_eqMark_need m m = true ∧ laws_eqMark m m = true := by
  unfold laws_eqMark_need laws_eqMark laws_eqMark_tree
  simp only [DT.ok, DT.val, fconvOk_up, sameFloat_self, Bool.not_true]
  exact ⟨trivial, trivial⟩

/-- The law of marks. -/
theorem plain5 (b : Ball) (v : Vec) (t : Nat) : laws_FnExactMarkOf_need b v t = true ∧ laws_FnExactMarkOf b v t = true := by
  obtain ⟨h1, h2, h3⟩ := MarkOf_same b v t
  have t1 : ∀ o : Ball, laws_toBall o = o := fun o => rfl
  have t2 : ∀ o : Vec, laws_toVector o = o := fun o => rfl
  unfold laws_FnExactMarkOf_need laws_FnExactMarkOf laws_FnExactMarkOf_tree
  simp only [DT.ok, DT.val, t1, t2, h1, h2, h3, (eqMark_self _).1, (eqMark_self _).2, Bool.not_true, beq_self_eq_true]
  exact ⟨trivial, trivial⟩

end Go.Proofs.Ytodhhjcgjkfmpaa
