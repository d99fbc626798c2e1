/- The plain law of FnMarks, part 1: finite numbers, balls, marks, draws. -/
import Derived.Test.YtkhjcoekmamlaaaGMa
import Derived.Test.YtkhjcoekmamlaaaEngY
import Derived.Test.YtkhjcoekmamlaaaFloor
import Derived.Test.YtkhjcoekmamlaaaSize
import Derived.Test.YtkhjcoekmamlaaaExact
import Derived.Test.YtkhjcoekmamlaaaArc
namespace Go.Proofs.Ytkhjcoekmamlaaa
open Ieee
set_option linter.unusedVariables false
set_option linter.unusedSimpArgs false

theorem IsFinite_need (x : Nat) : impl_IsFinite_need x = true := by
  unfold impl_IsFinite_need impl_IsFinite_tree
  simp only [DT.ok, fconvOk_up]

theorem math_Abs_eq {x : Nat} (h : isNaN .f64 x = false) : math_Abs x = fabs x := by
  unfold math_Abs math_Abs_tree
  simp only [DT.val, h]
  rfl

theorem impl_finite_eq (x : Nat) : impl_finite x = isNum .f64 x := by
  unfold impl_finite impl_finite_tree
  have h1 : math_IsNaN x = isNaN .f64 x := fne_self .f64 x
  simp only [DT.val, h1]
  cases hn : isNaN .f64 x with
  | true =>
    rcases kinds .f64 x with ⟨s, m, p, hd, h1, h2⟩ | ⟨s, hd, h1, h2⟩ | ⟨s, t, hd, h1, h2⟩
    · rw [h2] at hn; cases hn
    · rw [h2] at hn; cases hn
    · rw [h1]; rfl
  | false =>
    have h2 : math_IsInf x 0 = fgt .f64 (math_Abs x) 9218868437227405311 := rfl
    rw [h2, math_Abs_eq hn, inf_abs hn]
    simp

theorem IsFinite_eq (x : Nat) : impl_IsFinite x = isNum .f32 x := by
  show impl_finite (fconv .f32 x .f64) = _
  rw [impl_finite_eq, isNum_up]

theorem impl_sine_eq (x : Nat) : impl_sine x = sineOf (impl_behind x) := by
  unfold impl_sine impl_sine_tree sineOf
  generalize impl_behind x = f
  cases h1 : fge .f64 f 4602678819172646912 with
  | true => cases h2 : fgt .f64 (fsub .f64 f 4602678819172646912) 4598175219545276416 <;> simp only [DT.val, h1, h2] <;> rfl
  | false => cases h2 : fgt .f64 f 4598175219545276416 <;> simp only [DT.val, h1, h2] <;> rfl

theorem impl_behind_eq {x : Nat} (hs : Sm .f64 52 x) : impl_behind x = leftOf x := by
  unfold impl_behind impl_behind_tree leftOf
  have h : fadd .f64 (math_Trunc x) 0 = fofInt .f64 (ftoInt .f64 x) := trunc_same (e := 52) (by decide) hs
  simp only [h]
  cases flt .f64 (fsub .f64 x (fofInt .f64 (ftoInt .f64 x))) 0 <;> rfl

def finV (v : Vec) : Bool := isNum .f32 v.X && isNum .f32 v.Y && isNum .f32 v.Z

theorem areFinite_1_eq (i : Nat) : impl_areFinite_1_need i = true ∧ impl_areFinite_1 i = !isNum .f32 i := by
  unfold impl_areFinite_1_need impl_areFinite_1 impl_areFinite_1_tree
  simp only [DT.ok, DT.val, IsFinite_need, IsFinite_eq]
  exact ⟨trivial, trivial⟩

theorem areFinite_eq (l : List Nat) (hl : l.length ≤ 2 ^ 62) : impl_areFinite_need l = true ∧ impl_areFinite l = l.all (isNum .f32) := by
  obtain ⟨h1, h2⟩ := scan_loop (α := Int) (β := Unit) (step := slices_IndexFunc___float32_float32__impl_areFinite_1_loop0_step (l, ((l.length : Nat) : Int))) l.length (fun i => bif isNum .f32 (l.getD i default) then none else some (i : Int)) () (fun i hi => by
    refine ⟨[], ?_⟩
    unfold slices_IndexFunc___float32_float32__impl_areFinite_1_loop0_step
    simp only [DT.get, nat_dec hi, nat_in hi, (areFinite_1_eq _).1, (areFinite_1_eq _).2, Int.toNat_natCast, nat_next hi hl]
    cases isNum .f32 (l.getD i default) <;> rfl) ⟨[], by
    unfold slices_IndexFunc___float32_float32__impl_areFinite_1_loop0_step
    simp only [DT.get, nat_not]⟩
  have hall := firstOf_all (isNum .f32) (fun i => (i : Int)) default l
  have h1 : slices_IndexFunc___float32_float32__impl_areFinite_1_loop0_ends (l, ((l.length : Nat) : Int)) 0 = true := h1
  have h2 : slices_IndexFunc___float32_float32__impl_areFinite_1_loop0 (l, ((l.length : Nat) : Int)) 0 = _ := h2
  have key : slices_IndexFunc___float32_float32__impl_areFinite_1_need l = true ∧ decide (slices_IndexFunc___float32_float32__impl_areFinite_1 l ≥ 0) = !l.all (isNum .f32) := by
    unfold slices_IndexFunc___float32_float32__impl_areFinite_1_need slices_IndexFunc___float32_float32__impl_areFinite_1 slices_IndexFunc___float32_float32__impl_areFinite_1_tree
    simp only [DT.ok, DT.val, h1, h2]
    rw [← hall]
    cases hf : firstOf (fun i => bif isNum .f32 (l.getD i default) then none else some (i : Int)) l.length with
    | none => constructor <;> first | trivial | rfl
    | some a =>
      have ha : 0 ≤ a := by
        unfold firstOf at hf
        obtain ⟨i, _, hi⟩ := List.exists_of_findSome?_eq_some hf
        cases hq : isNum .f32 (l.getD i default) <;> rw [hq] at hi
        · simp only [cond_false, Option.some.injEq] at hi; omega
        · cases hi
      simp only [isL, leftD]
      exact ⟨trivial, decide_eq_true ha⟩
  have key2 : slices_ContainsFunc___float32_float32__impl_areFinite_1_need l = true ∧ slices_ContainsFunc___float32_float32__impl_areFinite_1 l = !l.all (isNum .f32) := by
    unfold slices_ContainsFunc___float32_float32__impl_areFinite_1_need slices_ContainsFunc___float32_float32__impl_areFinite_1 slices_ContainsFunc___float32_float32__impl_areFinite_1_tree
    simp only [DT.ok, DT.val, key.1, key.2]
    exact ⟨trivial, trivial⟩
  unfold impl_areFinite_need impl_areFinite impl_areFinite_tree
  simp only [DT.ok, DT.val, key2.1, key2.2, Bool.not_not]
  exact ⟨trivial, trivial⟩

theorem isFiniteVector_eq (v : Vec) : impl_isFiniteVector_need v = true ∧ impl_isFiniteVector v = finV v := by
  have h := areFinite_eq [v.X, v.Y, v.Z] (by show 3 ≤ 2 ^ 62; decide)
  have ha : [v.X, v.Y, v.Z].all (isNum .f32) = finV v := by
    unfold finV
    simp only [List.all_cons, List.all_nil, Bool.and_true, Bool.and_assoc]
  have e : impl_Vector_numbers (⟨v.X, v.Y, v.Z⟩ : Vec) = [v.X, v.Y, v.Z] := rfl
  unfold impl_isFiniteVector_need impl_isFiniteVector impl_isFiniteVector_tree
  simp only [DT.ok, DT.val, e, h.1, h.2, ha]
  exact ⟨trivial, trivial⟩

def Bytes (c : List Int) : Prop := c.length ≤ 1048576 ∧ ∀ x ∈ c, 0 ≤ x ∧ x ≤ 255

theorem Bytes.at {c : List Int} (h : Bytes c) (i : Nat) (hi : i < c.length) : 0 ≤ c.getD i default ∧ c.getD i default ≤ 255 := by
  rw [List.getD_eq_getElem?_getD, List.getElem?_eq_getElem hi]
  exact h.2 _ (List.getElem_mem hi)

theorem and255 (y : Int) : 0 ≤ IntKind.wrap .i64 (IntKind.wrap .u64 ((BitVec.ofInt (IntKind.bits .u64) y &&& BitVec.ofInt (IntKind.bits .u64) 255).toNat : Int)) ∧ IntKind.wrap .i64 (IntKind.wrap .u64 ((BitVec.ofInt (IntKind.bits .u64) y &&& BitVec.ofInt (IntKind.bits .u64) 255).toNat : Int)) ≤ 255 := by
  have h : (BitVec.ofInt (IntKind.bits .u64) y &&& BitVec.ofInt (IntKind.bits .u64) 255).toNat ≤ 255 := by
    rw [BitVec.toNat_and]
    exact Nat.le_trans Nat.and_le_right (by decide)
  generalize (BitVec.ofInt (IntKind.bits .u64) y &&& BitVec.ofInt (IntKind.bits .u64) 255).toNat = t at *
  have e : IntKind.wrap .u64 ((t : Nat) : Int) = ((t : Nat) : Int) := by
    show ((t : Nat) : Int) % 18446744073709551616 = _
    omega
  rw [e, wrap_small (by omega) (by omega)]
  omega

theorem next_ok {c : List Int} (hc : Bytes c) {a : Int} (s : Int) (h0 : 0 ≤ a) (h1 : a ≤ 2 ^ 40) : ∃ v s', (spec_l00Src_next_tree c a s).get = some (v, a + 1, s') ∧ 0 ≤ v ∧ v ≤ 255 := by
  have hl := hc.1
  have hw : IntKind.wrap .i64 (a + 1) = a + 1 := wrap_small (by omega) (by omega)
  unfold spec_l00Src_next_tree
  simp only [hw]
  by_cases hlt : a < ((c.length : Nat) : Int)
  · have d1 : decide (a < ((c.length : Nat) : Int)) = true := decide_eq_true hlt
    have d2 : decide (0 ≤ a) = true := decide_eq_true h0
    have d3 : decide (a + 1 ≤ ((c.length : Nat) : Int)) = true := decide_eq_true (by omega)
    have hb := hc.at a.toNat (by omega)
    simp only [DT.get, d1, d2, d3, Bool.and_true]
    refine ⟨_, _, rfl, ?_⟩
    rw [wrap_small (by omega) (by omega)]
    exact hb
  · have d1 : decide (a < ((c.length : Nat) : Int)) = false := decide_eq_false hlt
    have d3 : decide (a + 1 ≤ ((c.length : Nat) : Int)) = false := decide_eq_false (by omega)
    simp only [DT.get, d1, d3]
    exact ⟨_, _, rfl, and255 _⟩

theorem next_eq {c : List Int} (hc : Bytes c) {a : Int} (s : Int) (h0 : 0 ≤ a) (h1 : a ≤ 2 ^ 40) : ∃ v s', spec_l00Src_next_need c a s = true ∧ spec_l00Src_next c a s = (v, a + 1, s') ∧ 0 ≤ v ∧ v ≤ 255 := by
  obtain ⟨v, s', h, hv⟩ := next_ok hc s h0 h1
  obtain ⟨k1, k2⟩ := DT.of_get h
  exact ⟨v, s', k1, k2, hv⟩

theorem pick_eq {c : List Int} (hc : Bytes c) {a : Int} (s : Int) {n : Int} (h0 : 0 ≤ a) (h1 : a ≤ 2 ^ 39) (hn : 2 ≤ n) (hn2 : n ≤ 2 ^ 40) :
    ∃ v a' s', spec_l00Src_pick_need c a s n = true ∧ spec_l00Src_pick c a s n = (v, a', s') ∧ 0 ≤ v ∧ v < n ∧ a ≤ a' ∧ a' ≤ a + 2 := by
  obtain ⟨v, s1, n1, n2, hv0, hv1⟩ := next_eq hc s h0 (by omega)
  have d1 : decide (n ≤ 1) = false := decide_eq_false (by omega)
  have d3 : (n != 0) = true := by simp; omega
  have key : ∃ v a' s', (spec_l00Src_pick_tree c a s n).get = some (v, a', s') ∧ 0 ≤ v ∧ v < n ∧ a ≤ a' ∧ a' ≤ a + 2 := by
    unfold spec_l00Src_pick_tree
    by_cases hg : n > 200
    · have d2 : decide (n > 200) = true := decide_eq_true hg
      obtain ⟨v2, s2, m1, m2, hw0, hw1⟩ := next_eq hc s1 (a := a + 1) (by omega) (by omega)
      simp only [DT.get, d1, n1, n2, d2, m1, m2, d3]
      refine ⟨_, _, _, rfl, ?_, ?_, by omega, by omega⟩
      · rw [wrap_small (n := v * 256) (by omega) (by omega), wrap_small (by omega) (by omega)]
        exact Int.tmod_nonneg _ (by omega)
      · exact Int.tmod_lt_of_pos _ (by omega)
    · have d2 : decide (n > 200) = false := decide_eq_false hg
      simp only [DT.get, d1, n1, n2, d2, d3]
      exact ⟨_, _, _, rfl, Int.tmod_nonneg _ hv0, Int.tmod_lt_of_pos _ (by omega), by omega, by omega⟩
  obtain ⟨v, a', s', h, hv⟩ := key
  obtain ⟨k1, k2⟩ := DT.of_get h
  exact ⟨v, a', s', k1, k2, hv⟩

theorem fin_of {v : Int} {n : Nat} (h0 : 0 ≤ v) (h1 : v < (n : Int)) : ∃ k : Fin n, v = (k.val : Int) := ⟨⟨v.toNat, by omega⟩, by show v = ((v.toNat : Nat) : Int); omega⟩

theorem at_eq {c : List Int} (hc : Bytes c) (k n : Int) (h0 : 0 ≤ k) (hn : 2 ≤ n) (hn2 : n ≤ 1000) : laws_r8At_need c k n = true ∧ 0 ≤ laws_r8At c k n ∧ laws_r8At c k n < n := by
  have d1 : decide (n ≤ 1) = false := decide_eq_false (by omega)
  have d2 : decide (0 ≤ k) = true := decide_eq_true h0
  have d3 : (n != 0) = true := by simp; omega
  have key : ∃ v, (laws_r8At_tree c k n).get = some v ∧ 0 ≤ v ∧ v < n := by
    unfold laws_r8At_tree
    by_cases g : k < ((c.length : Nat) : Int)
    · have g1 : decide (k ≥ ((c.length : Nat) : Int)) = false := decide_eq_false (by omega)
      have hb := hc.at k.toNat (by omega)
      simp only [DT.get, d1, g1, d2, decide_eq_true g, d3, Bool.and_true]
      rw [wrap_small (by omega) (by omega)]
      exact ⟨_, rfl, Int.tmod_nonneg _ hb.1, Int.tmod_lt_of_pos _ (by omega)⟩
    · have g1 : decide (k ≥ ((c.length : Nat) : Int)) = true := decide_eq_true (by omega)
      simp only [DT.get, d1, g1]
      exact ⟨_, rfl, by omega, by omega⟩
  obtain ⟨v, h, hv⟩ := key
  obtain ⟨k1, k2⟩ := DT.of_get h
  have k2 : laws_r8At c k n = v := k2
  rw [k2]
  exact ⟨k1, hv⟩

theorem RootN_eq {x : Nat} (h1 : fconvOk .f32 x .f64 = true) (h2 : fconvOk .f64 (fsqrt (fconv .f32 x .f64)) .f32 = true) : impl_RootNumber_need x = true ∧ impl_RootNumber x = rootN x := by
  have e : math_Sqrt (fconv .f32 x .f64) = fsqrt (fconv .f32 x .f64) := rfl
  unfold impl_RootNumber_need impl_RootNumber impl_RootNumber_tree
  simp only [DT.ok, DT.val, h1, h2, e]
  exact ⟨trivial, rfl⟩

theorem abs_R {x : Nat} {a b : Rat} (h : I .f64 x (some (a, b))) (ha : 0 ≤ a) : I .f64 (math_Abs x) (some (a, b)) := by
  have hn : isNaN .f64 x = false := by
    obtain ⟨s, m, p, hd⟩ := isNum_iff.1 h.1
    unfold isNaN; rw [hd]; rfl
  rw [math_Abs_eq hn]
  obtain ⟨f1, f2⟩ := fabs_num h.1
  have h0 : 0 ≤ V .f64 x := by
    rw [← Int.not_lt]
    intro g
    have z : V .f64 0 = 0 := by decide +kernel
    have hz : isNum .f64 0 = true ∧ R .f64 0 = 0 := by decide +kernel
    rw [← z, lt_R h.1 hz.1, hz.2] at g
    have := h.2.1
    grind
  have e : R .f64 (fabs x) = R .f64 x := (eq_R f1 h.1).1 (by rw [f2]; omega)
  exact ⟨f1, by rw [e]; exact h.2.1, by rw [e]; exact h.2.2⟩

theorem sine_I {x : Nat} {a b : Rat} (h : I .f64 x (some (a, b))) (h1 : -1000000 ≤ a) (h2 : b ≤ 1000000) : I .f64 (impl_sine x) (some (-1571 / 1000, 1571 / 1000)) := by
  have hb : Bd (R .f64 x) 4503599627370495 := by have := h.2.1; have := h.2.2; unfold Bd; constructor <;> grind
  rw [impl_sine_eq, impl_behind_eq (sm52 h.1 hb)]
  exact sineOf_bd (leftOf_bd h.1 hb)

theorem k_zero32 : I .f32 0 (some (0, 0)) := I.at (by decide +kernel)

theorem aLength_I {m : Nat} {a b : Rat} (hm : I .f32 m (some (a, b))) (ha : 0 < a) : impl_aLength_need m = true ∧ impl_aLength m = true := by
  have hg := I.gt hm k_zero32 ha
  unfold impl_aLength_need impl_aLength impl_aLength_tree
  simp only [DT.ok, DT.val, IsFinite_need, IsFinite_eq, hm.1, hg]
  exact ⟨trivial, trivial⟩

def VecI (v : Vec) (M : Rat) : Prop := I .f32 v.X (some (-M, M)) ∧ I .f32 v.Y (some (-M, M)) ∧ I .f32 v.Z (some (-M, M))

theorem VecI.fin {v : Vec} {M : Rat} (h : VecI v M) : finV v = true := by unfold finV; rw [h.1.1, h.2.1.1, h.2.2.1]; rfl

theorem k_one32 : I .f32 1065353216 (some (1, 1)) := I.at (by decide +kernel)

theorem num_nan {k : FloatKind} {x : Nat} (h : isNum k x = true) : isNaN k x = false := by
  obtain ⟨s, m, p, hd⟩ := isNum_iff.1 h
  unfold isNaN; rw [hd]; rfl

structure BallS (b : Ball) : Prop where
  mass : I .f32 b.Mass (some (1 / 2, 4))
  radius : I .f32 b.Radius (some (1 / 8, 1))
  spin : I .f32 b.Spin (some (-1 / 8, 1 / 8))
  start : I .f32 b.Start (some (-1 / 2, 1 / 2))

theorem BallS.valid {b : Ball} (h : BallS b) : impl_ValidBall_need b = true ∧ impl_ValidBall b = true := by
  obtain ⟨a1, a2⟩ := aLength_I h.mass (by decide +kernel)
  obtain ⟨a3, a4⟩ := aLength_I h.radius (by decide +kernel)
  obtain ⟨f1, f2⟩ := areFinite_eq [b.Spin, b.Start] (by show 2 ≤ 2 ^ 62; decide)
  have f2 : impl_areFinite [b.Spin, b.Start] = true := by rw [f2]; simp only [List.all_cons, List.all_nil, h.spin.1, h.start.1, Bool.and_self]
  obtain ⟨l1, l2⟩ := loop_post (step := impl_areLengths_loop0_step ([b.Mass, b.Radius], 2)) (fun s => s = 0 ∨ s = 1 ∨ s = 2) (fun s => (2 - s).toNat) (fun r => r = .inr ()) (by
    rintro s (rfl | rfl | rfl)
    · refine ⟨.inl 1, [], ?_, .inr (.inl rfl), by decide⟩
      have e : List.getD [b.Mass, b.Radius] (Int.toNat 0) default = b.Mass := rfl
      unfold impl_areLengths_loop0_step
      simp only [DT.get, e, a1, a2]
      rfl
    · refine ⟨.inl 2, [], ?_, .inr (.inr rfl), by decide⟩
      have e : List.getD [b.Mass, b.Radius] (Int.toNat 1) default = b.Radius := rfl
      unfold impl_areLengths_loop0_step
      simp only [DT.get, e, a3, a4]
      rfl
    · exact ⟨.inr (.inr ()), [], rfl, rfl⟩) 0 (.inl rfl)
  have l1 : impl_areLengths_loop0_ends ([b.Mass, b.Radius], 2) 0 = true := l1
  have l2 : impl_areLengths_loop0 ([b.Mass, b.Radius], 2) 0 = .inr () := l2
  have k : impl_areLengths_need [b.Mass, b.Radius] = true ∧ impl_areLengths [b.Mass, b.Radius] = true := by
    have e : ((List.length [b.Mass, b.Radius] : Nat) : Int) = 2 := rfl
    unfold impl_areLengths_need impl_areLengths impl_areLengths_tree
    simp only [DT.ok, DT.val, e, l1, l2, isL]
    exact ⟨trivial, trivial⟩
  unfold impl_ValidBall_need impl_ValidBall impl_ValidBall_tree
  simp only [DT.ok, DT.val, k.1, k.2, f1, f2]
  exact ⟨trivial, trivial⟩

def markB (m : Mark) : Bool := fge .f32 m.North 3196059648 && (fle .f32 m.North 1048576000 && (fge .f32 m.East 3204448256 && (flt .f32 m.East 1056964608 && isNum .f32 m.High)))

theorem ValidMark_eq (m : Mark) : impl_ValidMark_need m = true ∧ impl_ValidMark m = markB m := by
  unfold impl_ValidMark_need impl_ValidMark impl_ValidMark_tree markB
  simp only [IsFinite_need, IsFinite_eq]
  generalize fge .f32 m.North 3196059648 = p
  generalize fle .f32 m.North 1048576000 = q
  generalize fge .f32 m.East 3204448256 = r
  generalize flt .f32 m.East 1056964608 = s
  generalize isNum .f32 m.High = t
  cases p <;> cases q <;> cases r <;> cases s <;> constructor <;> rfl

theorem k_half32 : I .f32 1056964608 (some (1 / 2, 1 / 2)) := I.at (by decide +kernel)

theorem k_mhalf32 : I .f32 3204448256 (some (-1 / 2, -1 / 2)) := I.at (by decide +kernel)

theorem k_quart32 : I .f32 1048576000 (some (1 / 4, 1 / 4)) := I.at (by decide +kernel)

theorem k_mquart32 : I .f32 3196059648 (some (-1 / 4, -1 / 4)) := I.at (by decide +kernel)

theorem Root_need (x : Nat) : impl_RootNumber_need x = true := by
  have e : math_Sqrt (fconv .f32 x .f64) = fsqrt (fconv .f32 x .f64) := rfl
  unfold impl_RootNumber_need impl_RootNumber_tree
  simp only [DT.ok, fconvOk_up, e, root_fits]

theorem Size_need (v : Vec) : impl_SizeOfVector_need v = true := by
  unfold impl_SizeOfVector_need impl_SizeOfVector_tree
  simp only [DT.ok, Root_need]

theorem fabs_I {x : Nat} {M : Rat} (h : I .f64 x (some (-M, M))) : I .f64 (math_Abs x) (some (0, M)) := by
  rw [math_Abs_eq (num_nan h.1)]
  obtain ⟨f1, f2⟩ := fabs_num h.1
  have hp := two_pos (lplace .f64)
  have hR := R_V h.1
  have hR2 := R_V f1
  rw [f2] at hR2
  have h1 := h.2.1
  have h2 := h.2.2
  rcases Int.natAbs_eq (V .f64 x) with g | g
  · rw [← g, ← hR] at hR2
    have h0 : (0 : Rat) ≤ (V .f64 x : Rat) := by
      have : (0 : Int) ≤ V .f64 x := by omega
      exact_mod_cast this
    have := Rat.mul_nonneg h0 (Rat.le_of_lt hp)
    refine ⟨f1, ?_, ?_⟩ <;> rw [hR2] <;> grind
  · have e : (((V .f64 x).natAbs : Int) : Rat) = -(V .f64 x : Rat) := by
      have : ((V .f64 x).natAbs : Int) = -(V .f64 x) := by omega
      rw [this]
      push_cast
      rfl
    rw [e] at hR2
    have h0 : (V .f64 x : Rat) ≤ 0 := by
      have : V .f64 x ≤ (0 : Int) := by omega
      exact_mod_cast this
    have := Rat.mul_nonneg (show 0 ≤ -(V .f64 x : Rat) by grind) (Rat.le_of_lt hp)
    refine ⟨f1, ?_, ?_⟩ <;> rw [hR2] <;> grind

theorem k_far : I .f64 4841369599423283200 (some (1000000, 10000000000000000)) := I.at (by decide +kernel)

theorem sineT_I {x : Nat} (h : I .f32 x (some (-100, 100))) : impl_SineTurns_need x = true ∧ I .f32 (impl_SineTurns x) (some (-1572 / 1000, 1572 / 1000)) := by
  have ha := fabs_I (M := 100) (h.up.to (by decide +kernel))
  have hfar : fge .f64 (math_Abs (fconv .f32 x .f64)) 4841369599423283200 = false := by
    rw [fge_R ha.1 k_far.1]
    exact decide_eq_false (by have := ha.2.2; have := k_far.2.1; grind)
  have hs := sine_I h.up (by decide +kernel) (by decide +kernel)
  have hf := I.fits hs (by decide +kernel) (by decide +kernel)
  unfold impl_SineTurns_need impl_SineTurns impl_SineTurns_tree
  simp only [DT.ok, DT.val, IsFinite_need, IsFinite_eq, h.1, Bool.not_true, fconvOk_up, hfar, hf]
  exact ⟨trivial, (I.down hs).to (by decide +kernel)⟩

theorem cosT_need {x : Nat} (h : I .f32 x (some (-50, 50))) : impl_cos_need x = true := by
  have hs := (I.add h k_quart32).to (lo := -100) (hi := 100) (by decide +kernel)
  unfold impl_cos_need impl_cos_tree
  simp only [DT.ok, (sineT_I hs).1]

def radN (r : Nat) : Nat := fdiv .f32 (fofInt .f32 (IntKind.wrap .i64 (1 + (r : Int)))) 1090519040

theorem rad_I : ∀ r : Fin 8, atI .f32 (radN r.val) (1 / 8) 1 = true := by decide +kernel

theorem d_mass : ∀ k : Fin 8, atI .f32 (fdiv .f32 (fofInt .f32 (IntKind.wrap .i64 (1 + (k.val : Int)))) 1073741824) (1 / 2) 4 = true := by decide +kernel

theorem d_spin : ∀ k : Fin 17, atI .f32 (fdiv .f32 (fofInt .f32 (IntKind.wrap .i64 ((k.val : Int) - 8))) 1115684864) (-1 / 8) (1 / 8) = true := by decide +kernel

theorem d_start : ∀ k : Fin 17, atI .f32 (fdiv .f32 (fofInt .f32 (IntKind.wrap .i64 ((k.val : Int) - 8))) 1098907648) (-1 / 2) (1 / 2) = true := by decide +kernel

theorem d_north : ∀ k : Fin 29, atI .f32 (fdiv .f32 (fofInt .f32 (IntKind.wrap .i64 ((k.val : Int) - 14))) 1115684864) (-1 / 4) (1 / 4) = true := by decide +kernel

theorem d_east : ∀ k : Fin 31, atI .f32 (fdiv .f32 (fofInt .f32 (IntKind.wrap .i64 ((k.val : Int) - 15))) 1107296256) (-1 / 2) (49 / 100) = true := by decide +kernel

theorem d_high : ∀ k : Fin 5, atI .f32 (fdiv .f32 (fofInt .f32 (k.val : Int)) 1082130432) 0 1 = true := by decide +kernel

theorem Inner_eq (a b : Vec) : impl_InnerOf a b = fadd .f32 (fadd .f32 (fmul .f32 a.X b.X) (fmul .f32 a.Y b.Y)) (fmul .f32 a.Z b.Z) := rfl

theorem Less_eq (a b : Vec) : impl_LessVectors a b = ⟨fsub .f32 a.X b.X, fsub .f32 a.Y b.Y, fsub .f32 a.Z b.Z⟩ := rfl

theorem Root_val {x : Nat} : impl_RootNumber x = rootN x := by
  unfold impl_RootNumber impl_RootNumber_tree
  simp only [DT.val]
  rfl

theorem Size_eq (a : Vec) : impl_SizeOfVector a = rootN (innerN a.X a.Y a.Z) := by
  unfold impl_SizeOfVector impl_SizeOfVector_tree
  simp only [DT.val, Root_val]
  rfl

def maN (k : Nat) : Nat := fdiv .f32 (fofInt .f32 (IntKind.wrap .i64 (1 + (k : Int)))) 1073741824

def spN (k : Nat) : Nat := fdiv .f32 (fofInt .f32 (IntKind.wrap .i64 ((k : Int) - 8))) 1115684864

def stN (k : Nat) : Nat := fdiv .f32 (fofInt .f32 (IntKind.wrap .i64 ((k : Int) - 8))) 1098907648

def noN (k : Nat) : Nat := fdiv .f32 (fofInt .f32 (IntKind.wrap .i64 ((k : Int) - 14))) 1115684864

def eaN (k : Nat) : Nat := fdiv .f32 (fofInt .f32 (IntKind.wrap .i64 ((k : Int) - 15))) 1107296256

theorem told_need (x : Nat) : impl_told_need x = true := by
  unfold impl_told_need impl_told_tree
  cases hi : impl_IsFinite x <;> simp only [DT.ok, IsFinite_need, hi, Bool.not_true, Bool.not_false]

theorem told_num {x : Nat} (h : isNum .f32 x = true) : impl_told x = (x, true) := by
  unfold impl_told impl_told_tree
  simp only [DT.val, IsFinite_eq, h, Bool.not_true]

def balN (m r s j : Nat) : Ball := ⟨maN m, radN r, spN s, stN j⟩

theorem balS (m r : Fin 8) (s j : Fin 17) : BallS (balN m.val r.val s.val j.val) := ⟨I.at (d_mass m), I.at (rad_I r), I.at (d_spin s), I.at (d_start j)⟩

theorem mark_ok (n : Fin 29) (e : Fin 31) {h : Nat} (hh : isNum .f32 h = true) : markB ⟨noN n.val, eaN e.val, h⟩ = true := by
  have f1 := I.at (d_north n)
  have f2 := I.at (d_east e)
  have h1 : fge .f32 (noN n.val) 3196059648 = true := I.ge f1 k_mquart32 (by decide +kernel)
  have h2 : fle .f32 (noN n.val) 1048576000 = true := I.le f1 k_quart32 (by decide +kernel)
  have h3 : fge .f32 (eaN e.val) 3204448256 = true := I.ge f2 k_mhalf32 (by decide +kernel)
  have h4 : flt .f32 (eaN e.val) 1056964608 = true := I.lt f2 k_half32 (by decide +kernel)
  unfold markB
  simp only [h1, h2, h3, h4, hh, Bool.and_self]

theorem ball_eq2 {c : List Int} (hc : Bytes c) : spec_R8Ball_need c = true ∧ ∃ m r : Fin 8, ∃ s j : Fin 17, spec_R8Ball c = balN m.val r.val s.val j.val := by
  obtain ⟨v1, a1, s1, m1, e1, l1, u1, q1, r1⟩ := pick_eq hc 0 (a := 0) (n := 8) (by omega) (by omega) (by omega) (by omega)
  obtain ⟨v2, a2, s2, m2, e2, l2, u2, q2, r2⟩ := pick_eq hc s1 (a := a1) (n := 8) (by omega) (by omega) (by omega) (by omega)
  obtain ⟨v3, a3, s3, m3, e3, l3, u3, q3, r3⟩ := pick_eq hc s2 (a := a2) (n := 17) (by omega) (by omega) (by omega) (by omega)
  obtain ⟨v4, a4, s4, m4, e4, l4, u4, q4, r4⟩ := pick_eq hc s3 (a := a3) (n := 17) (by omega) (by omega) (by omega) (by omega)
  obtain ⟨k1, rfl⟩ := fin_of (n := 8) l1 u1
  obtain ⟨k2, rfl⟩ := fin_of (n := 8) l2 u2
  obtain ⟨k3, rfl⟩ := fin_of (n := 17) l3 u3
  obtain ⟨k4, rfl⟩ := fin_of (n := 17) l4 u4
  have f1 := I.at (d_mass k1)
  have f2 := I.at (rad_I k2)
  have f3 := I.at (d_spin k3)
  have f4 := I.at (d_start k4)
  have hr : fdiv .f32 (fofInt .f32 (IntKind.wrap .i64 (1 + (k2.val : Int)))) 1090519040 = radN k2.val := rfl
  generalize hA : fdiv .f32 (fofInt .f32 (IntKind.wrap .i64 (1 + (k1.val : Int)))) 1073741824 = A at *
  generalize hB : radN k2.val = B at *
  generalize hC : fdiv .f32 (fofInt .f32 (IntKind.wrap .i64 ((k3.val : Int) - 8))) 1115684864 = C at *
  generalize hD : fdiv .f32 (fofInt .f32 (IntKind.wrap .i64 ((k4.val : Int) - 8))) 1098907648 = D at *
  have key : spec_l06DrawOk_need c 0 0 = true ∧ spec_l06DrawOk c 0 0 = (⟨A, B, C, D⟩, a4, s4) := by
    unfold spec_l06DrawOk_need spec_l06DrawOk spec_l06DrawOk_tree
    simp only [m1, e1, m2, e2, m3, e3, m4, e4, hA, hr, hC, hD]
    simp only [DT.ok, DT.val]
    exact ⟨trivial, trivial⟩
  have hb : spec_R8Ball_need c = true ∧ spec_R8Ball c = ⟨A, B, C, D⟩ := by
    unfold spec_R8Ball_need spec_R8Ball spec_R8Ball_tree
    simp only [key.1, key.2]
    simp only [DT.ok, DT.val]
    exact ⟨trivial, trivial⟩
  refine ⟨hb.1, k1, k2, k3, k4, ?_⟩
  rw [hb.2, ← hA, ← hB, ← hC, ← hD]
  rfl

theorem long_no {a0 a1 : List Int} (h : laws_r8Long a0 a1 = false) : a0.length ≤ 48 ∧ a1.length ≤ 48 := by
  unfold laws_r8Long laws_r8Long_tree at h
  simp only [DT.val] at h
  by_cases g : ((a0.length : Nat) : Int) > 48
  · rw [decide_eq_true g] at h
    cases h
  · rw [decide_eq_false g] at h
    by_cases g2 : ((a1.length : Nat) : Int) > 48
    · rw [decide_eq_true g2] at h
      cases h
    · omega

theorem u8_fit {x : Int} (h : (UC.int .u8).fit x) : 0 ≤ x ∧ x ≤ 255 := by
  have h : (decide (IntKind.min .u8 ≤ x) && decide (x ≤ IntKind.max .u8)) = true := h
  rw [show IntKind.min .u8 = 0 from rfl, show IntKind.max .u8 = 255 from rfl, Bool.and_eq_true, decide_eq_true_eq, decide_eq_true_eq] at h
  exact h

def hiN (k : Nat) : Nat := fdiv .f32 (fofInt .f32 (k : Int)) 1082130432

theorem mark_eq2 {c : List Int} (hc : Bytes c) : spec_R8Mark_need c = true ∧ ∃ n : Fin 29, ∃ e : Fin 31, ∃ h : Fin 5, spec_R8Mark c = ⟨noN n.val, eaN e.val, hiN h.val⟩ := by
  obtain ⟨v1, a1, s1, m1, e1, l1, u1, q1, r1⟩ := pick_eq hc 0 (a := 0) (n := 29) (by omega) (by omega) (by omega) (by omega)
  obtain ⟨v2, a2, s2, m2, e2, l2, u2, q2, r2⟩ := pick_eq hc s1 (a := a1) (n := 31) (by omega) (by omega) (by omega) (by omega)
  obtain ⟨v3, a3, s3, m3, e3, l3, u3, q3, r3⟩ := pick_eq hc s2 (a := a2) (n := 5) (by omega) (by omega) (by omega) (by omega)
  obtain ⟨k1, rfl⟩ := fin_of (n := 29) l1 u1
  obtain ⟨k2, rfl⟩ := fin_of (n := 31) l2 u2
  obtain ⟨k3, rfl⟩ := fin_of (n := 5) l3 u3
  have f1 := I.at (d_north k1)
  have f2 := I.at (d_east k2)
  have f3 := I.at (d_high k3)
  generalize hA : fdiv .f32 (fofInt .f32 (IntKind.wrap .i64 ((k1.val : Int) - 14))) 1115684864 = A at *
  generalize hB : fdiv .f32 (fofInt .f32 (IntKind.wrap .i64 ((k2.val : Int) - 15))) 1107296256 = B at *
  generalize hC : fdiv .f32 (fofInt .f32 (k3.val : Int)) 1082130432 = C at *
  have hb : spec_R8Mark_need c = true ∧ spec_R8Mark c = ⟨A, B, C⟩ := by
    unfold spec_R8Mark_need spec_R8Mark spec_R8Mark_tree
    simp only [m1, e1, m2, e2, m3, e3, hA, hB, hC]
    simp only [DT.ok, DT.val]
    exact ⟨trivial, trivial⟩
  refine ⟨hb.1, k1, k2, k3, ?_⟩
  rw [hb.2, ← hA, ← hB, ← hC]
  rfl

theorem impl_angle_eq (y x : Nat) : impl_angle y x = angleC (fgt .f64 (math_Abs y) (math_Abs x)) (flt .f64 x 0) (flt .f64 y 0) (ratio (math_Abs y) (math_Abs x)) := by
  unfold impl_angle impl_angle_tree ratio
  generalize math_Abs y = a
  generalize math_Abs x = b
  cases h1 : fgt .f64 a b <;> cases h2 : flt .f64 x 0 <;> cases h3 : flt .f64 y 0 <;> simp only [DT.val, h1, h2, h3] <;> rfl

theorem zero64 : isNum .f64 0 = true ∧ V .f64 0 = 0 := by decide +kernel

theorem ratio_sm {y x : Nat} (hy : isNum .f64 y = true) (hx : isNum .f64 x = true) (h : (feq .f64 x 0 && feq .f64 y 0) = false) : Sm .f64 0 (ratio (math_Abs y) (math_Abs x)) := by
  rw [math_Abs_eq (num_nan hy), math_Abs_eq (num_nan hx)]
  obtain ⟨n1, v1⟩ := fabs_num hy
  obtain ⟨n2, v2⟩ := fabs_num hx
  rw [feq_num hx zero64.1, feq_num hy zero64.1, zero64.2] at h
  have hne : ¬ (V .f64 x = 0 ∧ V .f64 y = 0) := fun ⟨a, b⟩ => by rw [decide_eq_true a, decide_eq_true b] at h; cases h
  unfold ratio
  cases hg : fgt .f64 (fabs y) (fabs x) with
  | true =>
    rw [fgt_num n1 n2, decide_eq_true_eq] at hg
    exact fdiv_one n2 n1 (by omega) (by omega)
  | false =>
    rw [fgt_num n1 n2, decide_eq_false_iff_not] at hg
    exact fdiv_one n1 n2 (by omega) (by omega)

theorem sm_I {v : Nat} {e : Nat} (he : e ≤ 100) (h : Sm .f64 e v) : isNum .f64 v = true ∧ Bd (R .f64 v) ((2 ^ e : Nat) : Rat) := by
  have hn := sm_num (k := .f64) (by simp only [emax]; omega) h
  refine ⟨hn, ?_⟩
  have hV := V_sm (k := .f64) (by simp only [emax]; omega) h
  rw [R_V hn]
  have hlp : lplace .f64 = -1074 := rfl
  have ee : ((e : Int) - lplace .f64).toNat = e + 1074 := by rw [hlp]; omega
  rw [ee, Nat.pow_add] at hV
  rw [hlp]
  have hp := two_pos (-1074)
  have e1 : ((2 ^ 1074 : Nat) : Rat) * 2 ^ (-1074 : Int) = 1 := by decide +kernel
  generalize (2 : Rat) ^ (-1074 : Int) = w at *
  generalize (2 ^ 1074 : Nat) = N at *
  generalize (2 ^ e : Nat) = E at *
  generalize V .f64 v = n at *
  have h1 : n ≤ ((E * N : Nat) : Int) := by omega
  have h2 : -((E * N : Nat) : Int) ≤ n := by omega
  have h3 : (n : Rat) ≤ (E : Rat) * (N : Rat) := by exact_mod_cast h1
  have h4 : -((E : Rat) * (N : Rat)) ≤ (n : Rat) := by
    have : ((-((E * N : Nat) : Int) : Int) : Rat) ≤ (n : Rat) := by exact_mod_cast h2
    push_cast at this
    exact this
  have h5 := Rat.mul_le_mul_of_nonneg_right h3 (Rat.le_of_lt hp)
  have h6 := Rat.mul_le_mul_of_nonneg_right h4 (Rat.le_of_lt hp)
  have h7 : (E : Rat) * (N : Rat) * w = E := by rw [Rat.mul_assoc, e1, Rat.mul_one]
  unfold Bd
  constructor <;> grind

theorem zero_turns {y x : Nat} : (feq .f64 x 0 && feq .f64 y 0) = false → feq .f64 x 0 = false ∨ feq .f64 y 0 = false := by
  cases feq .f64 x 0 <;> cases feq .f64 y 0 <;> simp

theorem num_not {k : FloatKind} {x : Nat} (h : isNum k x = true) : isNaN k x = false := by
  obtain ⟨s, m, p, hd⟩ := isNum_iff.1 h
  unfold isNaN; rw [hd]; rfl

theorem fmax_le {k : FloatKind} {x y : Nat} {M : Rat} (hx : isNum k x = true) (hy : isNum k y = true) (h1 : R k x ≤ M) (h2 : R k y ≤ M) : ordOk k x y = true ∧ isNum k (fmax k x y) = true ∧ R k (fmax k x y) ≤ M := by
  have ho := order_num hx hy
  refine ⟨?_, ?_, ?_⟩
  · unfold ordOk
    rw [ho, num_not hx, num_not hy]
    rfl
  · unfold fmax
    rw [ho]
    split
    · exact hy
    · exact hx
    · cases (k.decode x).neg <;> assumption
  · unfold fmax
    rw [ho]
    split
    · exact h2
    · exact h1
    · cases (k.decode x).neg <;> assumption

theorem gap_fl {a b : Nat} {M : Rat} (ha : isNum .f64 a = true) (hb : isNum .f64 b = true) (h : Bd (R .f64 a - R .f64 b) M) (hM : M ≤ 1000000000) :
    laws_r8Gap_need a b = true ∧ isNum .f64 (laws_r8Gap a b) = true ∧ R .f64 (laws_r8Gap a b) ≤ M * (1 + 1 / 1000000000) + T := by
  have hT := T_pos
  have hT1 := T_le
  have hG := Gr_ge
  have h' : Bd (R .f64 b - R .f64 a) M := by unfold Bd at *; constructor <;> grind
  have f1 := fsub_fl ha hb (h.mono (by grind))
  have f2 := fsub_fl hb ha (h'.mono (by grind))
  have e1 := f1.err64 h
  have e2 := f2.err64 h'
  have h0 := h.nonneg
  obtain ⟨c1, c2, c3⟩ := fmax_le (M := M * (1 + 1 / 1000000000) + T) f1.1 f2.1 (by unfold Nr at e1; unfold Bd at h; grind) (by unfold Nr at e2; unfold Bd at h'; grind)
  unfold laws_r8Gap_need laws_r8Gap laws_r8Gap_tree
  simp only [DT.ok, DT.val, c1]
  exact ⟨trivial, c2, c3⟩

end Go.Proofs.Ytkhjcoekmamlaaa
