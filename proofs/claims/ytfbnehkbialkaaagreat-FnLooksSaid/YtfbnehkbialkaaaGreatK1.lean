/- The plain law of FnLooks, part 1: finite numbers, valid orbits, draws' source, swings, angles. -/
import Derived.Test.YtfbnehkbialkaaaGreatGLa
import Derived.Test.YtfbnehkbialkaaaGreatEngY
import Derived.Test.YtfbnehkbialkaaaGreatRot
import Derived.Test.YtfbnehkbialkaaaGreatHf
import Derived.Test.YtfbnehkbialkaaaGreatExpo
import Derived.Test.YtfbnehkbialkaaaGreatFloor
namespace Go.Proofs.YtfbnehkbialkaaaGreat
open Ieee
set_option linter.unusedVariables false
set_option linter.unusedSimpArgs false

theorem IsFinite_need (x : Nat) : impl_IsFinite_need x = true := by
  unfold impl_IsFinite_need impl_IsFinite_tree
  simp only [DT.ok, fconvOk_up]

theorem math_Abs_eq {x : Nat} (h : isNaN .f64 x = false) : math_Abs x = fabs x := by
  unfold math_Abs math_Abs_tree
  simp only [DT.val, h]
  rfl

theorem impl_finite_eq (x : Nat) : impl_finite x = isNum .f64 x := by
  unfold impl_finite impl_finite_tree
  have h1 : math_IsNaN x = isNaN .f64 x := fne_self .f64 x
  simp only [DT.val, h1]
  cases hn : isNaN .f64 x with
  | true =>
    rcases kinds .f64 x with ⟨s, m, p, hd, h1, h2⟩ | ⟨s, hd, h1, h2⟩ | ⟨s, t, hd, h1, h2⟩
    · rw [h2] at hn; cases hn
    · rw [h2] at hn; cases hn
    · rw [h1]; rfl
  | false =>
    have h2 : math_IsInf x 0 = fgt .f64 (math_Abs x) 9218868437227405311 := rfl
    rw [h2, math_Abs_eq hn, inf_abs hn]
    simp

theorem IsFinite_eq (x : Nat) : impl_IsFinite x = isNum .f32 x := by
  show impl_finite (fconv .f32 x .f64) = _
  rw [impl_finite_eq, isNum_up]

theorem impl_sine_eq (x : Nat) : impl_sine x = sineOf (impl_behind x) := by
  unfold impl_sine impl_sine_tree sineOf
  generalize impl_behind x = f
  cases h1 : fge .f64 f 4602678819172646912 with
  | true => cases h2 : fgt .f64 (fsub .f64 f 4602678819172646912) 4598175219545276416 <;> simp only [DT.val, h1, h2] <;> rfl
  | false => cases h2 : fgt .f64 f 4598175219545276416 <;> simp only [DT.val, h1, h2] <;> rfl

theorem impl_behind_eq {x : Nat} (hs : Sm .f64 52 x) : impl_behind x = leftOf x := by
  unfold impl_behind impl_behind_tree leftOf
  have h : fadd .f64 (math_Trunc x) 0 = fofInt .f64 (ftoInt .f64 x) := trunc_same (e := 52) (by decide) hs
  simp only [h]
  cases flt .f64 (fsub .f64 x (fofInt .f64 (ftoInt .f64 x))) 0 <;> rfl

def finV (v : Vec) : Bool := isNum .f32 v.X && isNum .f32 v.Y && isNum .f32 v.Z

theorem areFinite_1_eq (i : Nat) : impl_areFinite_1_need i = true ∧ impl_areFinite_1 i = !isNum .f32 i := by
  unfold impl_areFinite_1_need impl_areFinite_1 impl_areFinite_1_tree
  simp only [DT.ok, DT.val, IsFinite_need, IsFinite_eq]
  exact ⟨trivial, trivial⟩

theorem areFinite_eq (l : List Nat) (hl : l.length ≤ 2 ^ 62) : impl_areFinite_need l = true ∧ impl_areFinite l = l.all (isNum .f32) := by
  obtain ⟨h1, h2⟩ := scan_loop (α := Int) (β := Unit) (step := slices_IndexFunc___float32_float32__impl_areFinite_1_loop0_step (l, ((l.length : Nat) : Int))) l.length (fun i => bif isNum .f32 (l.getD i default) then none else some (i : Int)) () (fun i hi => by
    refine ⟨[], ?_⟩
    unfold slices_IndexFunc___float32_float32__impl_areFinite_1_loop0_step
    simp only [DT.get, nat_dec hi, nat_in hi, (areFinite_1_eq _).1, (areFinite_1_eq _).2, Int.toNat_natCast, nat_next hi hl]
    cases isNum .f32 (l.getD i default) <;> rfl) ⟨[], by
    unfold slices_IndexFunc___float32_float32__impl_areFinite_1_loop0_step
    simp only [DT.get, nat_not]⟩
  have hall := firstOf_all (isNum .f32) (fun i => (i : Int)) default l
  have h1 : slices_IndexFunc___float32_float32__impl_areFinite_1_loop0_ends (l, ((l.length : Nat) : Int)) 0 = true := h1
  have h2 : slices_IndexFunc___float32_float32__impl_areFinite_1_loop0 (l, ((l.length : Nat) : Int)) 0 = _ := h2
  have key : slices_IndexFunc___float32_float32__impl_areFinite_1_need l = true ∧ decide (slices_IndexFunc___float32_float32__impl_areFinite_1 l ≥ 0) = !l.all (isNum .f32) := by
    unfold slices_IndexFunc___float32_float32__impl_areFinite_1_need slices_IndexFunc___float32_float32__impl_areFinite_1 slices_IndexFunc___float32_float32__impl_areFinite_1_tree
    simp only [DT.ok, DT.val, h1, h2]
    rw [← hall]
    cases hf : firstOf (fun i => bif isNum .f32 (l.getD i default) then none else some (i : Int)) l.length with
    | none => constructor <;> first | trivial | rfl
    | some a =>
      have ha : 0 ≤ a := by
        unfold firstOf at hf
        obtain ⟨i, _, hi⟩ := List.exists_of_findSome?_eq_some hf
        cases hq : isNum .f32 (l.getD i default) <;> rw [hq] at hi
        · simp only [cond_false, Option.some.injEq] at hi; omega
        · cases hi
      simp only [isL, leftD]
      exact ⟨trivial, decide_eq_true ha⟩
  have key2 : slices_ContainsFunc___float32_float32__impl_areFinite_1_need l = true ∧ slices_ContainsFunc___float32_float32__impl_areFinite_1 l = !l.all (isNum .f32) := by
    unfold slices_ContainsFunc___float32_float32__impl_areFinite_1_need slices_ContainsFunc___float32_float32__impl_areFinite_1 slices_ContainsFunc___float32_float32__impl_areFinite_1_tree
    simp only [DT.ok, DT.val, key.1, key.2]
    exact ⟨trivial, trivial⟩
  unfold impl_areFinite_need impl_areFinite impl_areFinite_tree
  simp only [DT.ok, DT.val, key2.1, key2.2, Bool.not_not]
  exact ⟨trivial, trivial⟩

theorem isFiniteVector_eq (v : Vec) : impl_isFiniteVector_need v = true ∧ impl_isFiniteVector v = finV v := by
  have h := areFinite_eq [v.X, v.Y, v.Z] (by show 3 ≤ 2 ^ 62; decide)
  have ha : [v.X, v.Y, v.Z].all (isNum .f32) = finV v := by
    unfold finV
    simp only [List.all_cons, List.all_nil, Bool.and_true, Bool.and_assoc]
  have e : impl_Vector_numbers (⟨v.X, v.Y, v.Z⟩ : Vec) = [v.X, v.Y, v.Z] := rfl
  unfold impl_isFiniteVector_need impl_isFiniteVector impl_isFiniteVector_tree
  simp only [DT.ok, DT.val, e, h.1, h.2, ha]
  exact ⟨trivial, trivial⟩

def turnB (x : Nat) : Bool := fge .f32 x 0 && flt .f32 x 1065353216

def validO (o : Orbit) : Bool := isNum .f32 o.Long && (isNum .f32 o.Round && ((fge .f32 o.Tilt 0 && fle .f32 o.Tilt 1056964608) && (turnB o.Node && (turnB o.Peri && match fgt .f32 o.Long 0 with
  | true => fge .f32 o.Round 0 && (flt .f32 o.Round 1065353216 && turnB o.Phase)
  | false => flt .f32 o.Long 0 && (fgt .f32 o.Round 1065353216 && (fge .f32 o.Phase 3246391296 && fle .f32 o.Phase 1098907648))))))

theorem isTurn_eq (x : Nat) : impl_isTurn x = turnB x := by
  unfold impl_isTurn impl_isTurn_tree turnB
  cases h : fge .f32 x 0 <;> simp only [DT.val, h] <;> rfl

theorem consts32 : isNum .f32 0 = true ∧ isNum .f32 1065353216 = true ∧ isNum .f32 1056964608 = true ∧ isNum .f32 3246391296 = true ∧ isNum .f32 1098907648 = true := by decide +kernel

theorem turn_num {x : Nat} (h : turnB x = true) : isNum .f32 x = true := by
  unfold turnB at h
  rw [Bool.and_eq_true] at h
  exact num_between consts32.1 consts32.2.1 h.1 (.inl h.2)

theorem fgt_flt {x : Nat} (h : fgt .f32 x 0 = true) : flt .f32 x 0 = false := by
  unfold fgt at h
  unfold flt
  cases hx : FloatKind.f32.format.order x 0 with
  | none => rw [hx] at h; cases h
  | some o => rw [hx] at h; cases o <;> first | rfl | cases h

theorem ValidOrbit_eq (o : Orbit) : impl_ValidOrbit_need o = true ∧ impl_ValidOrbit o = validO o := by
  obtain ⟨a1, a2⟩ := areFinite_eq [o.Long, o.Round, o.Tilt, o.Node, o.Peri, o.Phase] (by show 6 ≤ 2 ^ 62; decide)
  refine ⟨?_, ?_⟩
  · unfold impl_ValidOrbit_need impl_ValidOrbit_tree
    simp only [DT.ok, a1, a2]
    repeat' split
    all_goals rfl
  · have he : impl_Orbit_isEllipse o = (fgt .f32 o.Long 0 && (fge .f32 o.Round 0 && (flt .f32 o.Round 1065353216 && turnB o.Phase))) := by
      unfold impl_Orbit_isEllipse impl_Orbit_isEllipse_tree
      simp only [isTurn_eq]
      cases fgt .f32 o.Long 0 <;> cases fge .f32 o.Round 0 <;> cases flt .f32 o.Round 1065353216 <;> rfl
    have hb : impl_Orbit_isBranch o = (flt .f32 o.Long 0 && (fgt .f32 o.Round 1065353216 && (fge .f32 o.Phase 3246391296 && fle .f32 o.Phase 1098907648))) := by
      unfold impl_Orbit_isBranch impl_Orbit_isBranch_tree
      cases flt .f32 o.Long 0 <;> cases fgt .f32 o.Round 1065353216 <;> cases fge .f32 o.Phase 3246391296 <;> rfl
    cases hv : validO o with
    | true =>
      have hv0 := hv
      unfold validO at hv
      simp only [Bool.and_eq_true] at hv
      obtain ⟨h1, h2, ⟨h3, h4⟩, h5, h6, h7⟩ := hv
      have n3 := num_between consts32.1 consts32.2.2.1 h3 (.inr h4)
      have n6 : isNum .f32 o.Phase = true := by
        cases hg : fgt .f32 o.Long 0 with
        | true =>
          rw [hg] at h7
          simp only [Bool.and_eq_true] at h7
          exact turn_num h7.2.2
        | false =>
          rw [hg] at h7
          simp only [Bool.and_eq_true] at h7
          exact num_between consts32.2.2.2.1 consts32.2.2.2.2 h7.2.2.1 (.inr h7.2.2.2)
      have hall : [o.Long, o.Round, o.Tilt, o.Node, o.Peri, o.Phase].all (isNum .f32) = true := by
        simp only [List.all_cons, List.all_nil, h1, h2, n3, turn_num h5, turn_num h6, n6, Bool.and_self]
      have hor : (impl_Orbit_isEllipse o || impl_Orbit_isBranch o) = true := by
        rw [he, hb]
        cases hg : fgt .f32 o.Long 0 with
        | true =>
          rw [hg] at h7
          have h7 : (fge .f32 o.Round 0 && (flt .f32 o.Round 1065353216 && turnB o.Phase)) = true := h7
          rw [h7]
          rfl
        | false =>
          rw [hg] at h7
          have h7 : (flt .f32 o.Long 0 && (fgt .f32 o.Round 1065353216 && (fge .f32 o.Phase 3246391296 && fle .f32 o.Phase 1098907648))) = true := h7
          rw [h7]
          rfl
      have he' : impl_Orbit_isEllipse (⟨o.Long, o.Round, o.Tilt, o.Node, o.Peri, o.Phase⟩ : Orbit) = impl_Orbit_isEllipse o := rfl
      have hb' : impl_Orbit_isBranch (⟨o.Long, o.Round, o.Tilt, o.Node, o.Peri, o.Phase⟩ : Orbit) = impl_Orbit_isBranch o := rfl
      unfold impl_ValidOrbit impl_ValidOrbit_tree
      simp only [DT.val, a2, hall, h3, h4, isTurn_eq, h5, h6, he', hb']
      cases hq : impl_Orbit_isEllipse o with
      | true => rfl
      | false => rw [hq, Bool.false_or] at hor; exact hor
    | false =>
      have he' : impl_Orbit_isEllipse (⟨o.Long, o.Round, o.Tilt, o.Node, o.Peri, o.Phase⟩ : Orbit) = impl_Orbit_isEllipse o := rfl
      have hb' : impl_Orbit_isBranch (⟨o.Long, o.Round, o.Tilt, o.Node, o.Peri, o.Phase⟩ : Orbit) = impl_Orbit_isBranch o := rfl
      have hform : impl_ValidOrbit o = (([o.Long, o.Round, o.Tilt, o.Node, o.Peri, o.Phase].all (isNum .f32)) && ((fge .f32 o.Tilt 0 && fle .f32 o.Tilt 1056964608) && (turnB o.Node && (turnB o.Peri && (impl_Orbit_isEllipse o || impl_Orbit_isBranch o))))) := by
        unfold impl_ValidOrbit impl_ValidOrbit_tree
        simp only [a2, isTurn_eq, he', hb']
        generalize [o.Long, o.Round, o.Tilt, o.Node, o.Peri, o.Phase].all (isNum .f32) = c
        generalize turnB o.Node = t1
        generalize turnB o.Peri = t2
        cases c <;> cases fge .f32 o.Tilt 0 <;> cases fle .f32 o.Tilt 1056964608 <;> cases t1 <;> cases t2 <;> cases impl_Orbit_isEllipse o <;> rfl
      rw [hform]
      refine Bool.eq_false_iff.2 fun ht => ?_
      simp only [Bool.and_eq_true, List.all_cons] at ht
      obtain ⟨⟨h1, h2, _⟩, ⟨h3, h4⟩, h5, h6, h7⟩ := ht
      rw [he, hb] at h7
      unfold validO at hv
      rw [h1, h2, h3, h4, h5, h6] at hv
      cases hg : fgt .f32 o.Long 0 with
      | true =>
        rw [hg, fgt_flt hg, Bool.false_and, Bool.or_false, Bool.true_and] at h7
        rw [hg] at hv
        simp only [Bool.true_and] at hv
        rw [h7] at hv
        cases hv
      | false =>
        rw [hg, Bool.false_and, Bool.false_or] at h7
        rw [hg] at hv
        simp only [Bool.true_and] at hv
        rw [h7] at hv
        cases hv

def Bytes (c : List Int) : Prop := c.length ≤ 1048576 ∧ ∀ x ∈ c, 0 ≤ x ∧ x ≤ 255

theorem Bytes.at {c : List Int} (h : Bytes c) (i : Nat) (hi : i < c.length) : 0 ≤ c.getD i default ∧ c.getD i default ≤ 255 := by
  rw [List.getD_eq_getElem?_getD, List.getElem?_eq_getElem hi]
  exact h.2 _ (List.getElem_mem hi)

theorem and255 (y : Int) : 0 ≤ IntKind.wrap .i64 (IntKind.wrap .u64 ((BitVec.ofInt (IntKind.bits .u64) y &&& BitVec.ofInt (IntKind.bits .u64) 255).toNat : Int)) ∧ IntKind.wrap .i64 (IntKind.wrap .u64 ((BitVec.ofInt (IntKind.bits .u64) y &&& BitVec.ofInt (IntKind.bits .u64) 255).toNat : Int)) ≤ 255 := by
  have h : (BitVec.ofInt (IntKind.bits .u64) y &&& BitVec.ofInt (IntKind.bits .u64) 255).toNat ≤ 255 := by
    rw [BitVec.toNat_and]
    exact Nat.le_trans Nat.and_le_right (by decide)
  generalize (BitVec.ofInt (IntKind.bits .u64) y &&& BitVec.ofInt (IntKind.bits .u64) 255).toNat = t at *
  have e : IntKind.wrap .u64 ((t : Nat) : Int) = ((t : Nat) : Int) := by
    show ((t : Nat) : Int) % 18446744073709551616 = _
    omega
  rw [e, wrap_small (by omega) (by omega)]
  omega

theorem next_ok {c : List Int} (hc : Bytes c) {a : Int} (s : Int) (h0 : 0 ≤ a) (h1 : a ≤ 2 ^ 40) : ∃ v s', (spec_l00Src_next_tree c a s).get = some (v, a + 1, s') ∧ 0 ≤ v ∧ v ≤ 255 := by
  have hl := hc.1
  have hw : IntKind.wrap .i64 (a + 1) = a + 1 := wrap_small (by omega) (by omega)
  unfold spec_l00Src_next_tree
  simp only [hw]
  by_cases hlt : a < ((c.length : Nat) : Int)
  · have d1 : decide (a < ((c.length : Nat) : Int)) = true := decide_eq_true hlt
    have d2 : decide (0 ≤ a) = true := decide_eq_true h0
    have d3 : decide (a + 1 ≤ ((c.length : Nat) : Int)) = true := decide_eq_true (by omega)
    have hb := hc.at a.toNat (by omega)
    simp only [DT.get, d1, d2, d3, Bool.and_true]
    refine ⟨_, _, rfl, ?_⟩
    rw [wrap_small (by omega) (by omega)]
    exact hb
  · have d1 : decide (a < ((c.length : Nat) : Int)) = false := decide_eq_false hlt
    have d3 : decide (a + 1 ≤ ((c.length : Nat) : Int)) = false := decide_eq_false (by omega)
    simp only [DT.get, d1, d3]
    exact ⟨_, _, rfl, and255 _⟩

theorem next_eq {c : List Int} (hc : Bytes c) {a : Int} (s : Int) (h0 : 0 ≤ a) (h1 : a ≤ 2 ^ 40) : ∃ v s', spec_l00Src_next_need c a s = true ∧ spec_l00Src_next c a s = (v, a + 1, s') ∧ 0 ≤ v ∧ v ≤ 255 := by
  obtain ⟨v, s', h, hv⟩ := next_ok hc s h0 h1
  obtain ⟨k1, k2⟩ := DT.of_get h
  exact ⟨v, s', k1, k2, hv⟩

theorem pick_eq {c : List Int} (hc : Bytes c) {a : Int} (s : Int) {n : Int} (h0 : 0 ≤ a) (h1 : a ≤ 2 ^ 39) (hn : 2 ≤ n) (hn2 : n ≤ 2 ^ 40) :
    ∃ v a' s', spec_l00Src_pick_need c a s n = true ∧ spec_l00Src_pick c a s n = (v, a', s') ∧ 0 ≤ v ∧ v < n ∧ a ≤ a' ∧ a' ≤ a + 2 := by
  obtain ⟨v, s1, n1, n2, hv0, hv1⟩ := next_eq hc s h0 (by omega)
  have d1 : decide (n ≤ 1) = false := decide_eq_false (by omega)
  have d3 : (n != 0) = true := by simp; omega
  have key : ∃ v a' s', (spec_l00Src_pick_tree c a s n).get = some (v, a', s') ∧ 0 ≤ v ∧ v < n ∧ a ≤ a' ∧ a' ≤ a + 2 := by
    unfold spec_l00Src_pick_tree
    by_cases hg : n > 200
    · have d2 : decide (n > 200) = true := decide_eq_true hg
      obtain ⟨v2, s2, m1, m2, hw0, hw1⟩ := next_eq hc s1 (a := a + 1) (by omega) (by omega)
      simp only [DT.get, d1, n1, n2, d2, m1, m2, d3]
      refine ⟨_, _, _, rfl, ?_, ?_, by omega, by omega⟩
      · rw [wrap_small (n := v * 256) (by omega) (by omega), wrap_small (by omega) (by omega)]
        exact Int.tmod_nonneg _ (by omega)
      · exact Int.tmod_lt_of_pos _ (by omega)
    · have d2 : decide (n > 200) = false := decide_eq_false hg
      simp only [DT.get, d1, n1, n2, d2, d3]
      exact ⟨_, _, _, rfl, Int.tmod_nonneg _ hv0, Int.tmod_lt_of_pos _ (by omega), by omega, by omega⟩
  obtain ⟨v, a', s', h, hv⟩ := key
  obtain ⟨k1, k2⟩ := DT.of_get h
  exact ⟨v, a', s', k1, k2, hv⟩

theorem fin_of {v : Int} {n : Nat} (h0 : 0 ≤ v) (h1 : v < (n : Int)) : ∃ k : Fin n, v = (k.val : Int) := ⟨⟨v.toNat, by omega⟩, by show v = ((v.toNat : Nat) : Int); omega⟩

theorem RootN_eq {x : Nat} (h1 : fconvOk .f32 x .f64 = true) (h2 : fconvOk .f64 (fsqrt (fconv .f32 x .f64)) .f32 = true) : impl_RootNumber_need x = true ∧ impl_RootNumber x = rootN x := by
  have e : math_Sqrt (fconv .f32 x .f64) = fsqrt (fconv .f32 x .f64) := rfl
  unfold impl_RootNumber_need impl_RootNumber impl_RootNumber_tree
  simp only [DT.ok, DT.val, h1, h2, e]
  exact ⟨trivial, rfl⟩

theorem range_succ {α : Type} (g : Nat → α) (k : Nat) : (List.range k).map g ++ [g k] = (List.range (k + 1)).map g := by rw [List.range_succ, List.map_append]; rfl

theorem room {n k b : Nat} (h : n + k ≤ 17) (hb : b ≤ 100) : (decide ((n + k) * b ≤ 140737488355328) && decide (n + k ≤ 9223372036854775807)) = true := by
  rw [Bool.and_eq_true]
  refine ⟨decide_eq_true ?_, decide_eq_true (by omega)⟩
  exact Nat.le_trans (Nat.mul_le_mul h hb) (by decide)

theorem map_loop {α ρ : Type} [Inhabited ρ] {step : Int × List α → Round (Int × List α) ρ} (n : Nat) (g : Nat → α) (ret : List α → ρ)
    (hround : ∀ k, k < n → ∀ acc : List α, acc.length = k → ∃ fl, (step (((k : Nat) : Int), acc)).get = some (.inl (((k + 1 : Nat) : Int), acc ++ [g k]), fl))
    (hend : ∀ acc, ∃ fl, (step (((n : Nat) : Int), acc)).get = some (.inr (ret acc), fl)) :
    loopEnds step (0, []) = true ∧ loopVal step (0, []) = ret ((List.range n).map g) := by
  refine loop_post (step := step) (fun s => ∃ k : Nat, k ≤ n ∧ s = (((k : Nat) : Int), (List.range k).map g)) (fun s => ((n : Int) - s.1).toNat) (fun r => r = ret ((List.range n).map g)) ?_ (0, []) ⟨0, Nat.zero_le _, rfl⟩
  rintro s ⟨k, hk, rfl⟩
  rcases Nat.lt_or_ge k n with h | h
  · obtain ⟨fl, he⟩ := hround k h ((List.range k).map g) (by simp)
    refine ⟨_, fl, he, ⟨k + 1, h, ?_⟩, ?_⟩
    · rw [range_succ]
    · show ((n : Int) - ((k + 1 : Nat) : Int)).toNat < ((n : Int) - ((k : Nat) : Int)).toNat
      omega
  · have : k = n := by omega
    subst this
    obtain ⟨fl, he⟩ := hend ((List.range k).map g)
    exact ⟨_, fl, he, rfl⟩

theorem abs_R {x : Nat} {a b : Rat} (h : I .f64 x (some (a, b))) (ha : 0 ≤ a) : I .f64 (math_Abs x) (some (a, b)) := by
  have hn : isNaN .f64 x = false := by
    obtain ⟨s, m, p, hd⟩ := isNum_iff.1 h.1
    unfold isNaN; rw [hd]; rfl
  rw [math_Abs_eq hn]
  obtain ⟨f1, f2⟩ := fabs_num h.1
  have h0 : 0 ≤ V .f64 x := by
    rw [← Int.not_lt]
    intro g
    have z : V .f64 0 = 0 := by decide +kernel
    have hz : isNum .f64 0 = true ∧ R .f64 0 = 0 := by decide +kernel
    rw [← z, lt_R h.1 hz.1, hz.2] at g
    have := h.2.1
    grind
  have e : R .f64 (fabs x) = R .f64 x := (eq_R f1 h.1).1 (by rw [f2]; omega)
  exact ⟨f1, by rw [e]; exact h.2.1, by rw [e]; exact h.2.2⟩

theorem sine_I {x : Nat} {a b : Rat} (h : I .f64 x (some (a, b))) (h1 : -1000000 ≤ a) (h2 : b ≤ 1000000) : I .f64 (impl_sine x) (some (-1571 / 1000, 1571 / 1000)) := by
  have hb : Bd (R .f64 x) 4503599627370495 := by have := h.2.1; have := h.2.2; unfold Bd; constructor <;> grind
  rw [impl_sine_eq, impl_behind_eq (sm52 h.1 hb)]
  exact sineOf_bd (leftOf_bd h.1 hb)

theorem cosine_I {x : Nat} {a b : Rat} (h : I .f64 x (some (a, b))) (h1 : -1000 ≤ a) (h2 : b ≤ 1000) : I .f64 (impl_cosine x) (some (-1571 / 1000, 1571 / 1000)) := by
  have hs : I .f64 (fadd .f64 x 4598175219545276416) (some (-2000, 2000)) := (I.add (h.mono h1 h2) k_quarter).to (by decide +kernel)
  exact sine_I hs (by decide +kernel) (by decide +kernel)

theorem half_R {x y : Nat} (hx : I .f64 x (some (-1, 2))) (hy : I .f64 y (some (-1, 2))) : isNum .f64 (fdiv .f64 (fadd .f64 x y) 4611686018427387904) = true ∧ Nr (R .f64 (fdiv .f64 (fadd .f64 x y) 4611686018427387904)) ((R .f64 x + R .f64 y) / 2) (1 / 1000000000000) := by
  have hG := Gr_ge
  have ht := T_le
  obtain ⟨x1, x2, x3⟩ := hx
  obtain ⟨y1, y2, y3⟩ := hy
  have b1 : Bd (R .f64 x + R .f64 y) 4 := by unfold Bd; constructor <;> grind
  have f := fadd_fl x1 y1 (b1.mono (by grind))
  have e := f.err64 b1
  have k2 := k_two
  have e2 : R .f64 4611686018427387904 = 2 := by have := k2.2.1; have := k2.2.2; grind
  have b2 := e.toBd b1
  obtain ⟨q1, q2⟩ := quot_fl (X := R .f64 (fadd .f64 x y) / 2) f.1 k2.1 (by rw [e2]; decide) (by rw [e2]; grind) (by unfold Bd at b2 ⊢; constructor <;> grind)
  have e3 := q2 3 (by unfold Bd at b2 ⊢; constructor <;> grind)
  have hU : U .f64 = 1 / 9007199254740992 := rfl
  rw [hU] at e3
  refine ⟨q1, ?_⟩
  unfold Nr at e e3 ⊢
  constructor <;> grind

theorem fifty {n : Int} (h : ¬ n < 50) : decide (n < 50) = false := decide_eq_false h

theorem swing_I {e f : Nat} {a b : Rat} (he : I .f64 e (some (0, 1))) (hf : I .f64 f (some (a, b))) (h1 : 0 ≤ a) (h2 : b ≤ 2) : impl_swing_need e f = true ∧ I .f64 (impl_swing e f) (some (-1 / 10000000, 1 + 1 / 10000000)) := by
  have key := loop_post (step := impl_swing_loop0_step (e, impl_wrap f)) (fun s => ∃ k : Nat, k ≤ 50 ∧ s.2.2 = (k : Int) ∧ I .f64 s.1 (some (-((k : Rat) / 1000000000), 1 + (k : Rat) / 1000000000)) ∧ I .f64 s.2.1 (some (-((k : Rat) / 1000000000), 1 + (k : Rat) / 1000000000)))
    (fun s => (50 - s.2.2).toNat) (fun r => I .f64 r (some (-1 / 10000000, 1 + 1 / 10000000))) (by
    rintro ⟨x, y, n⟩ ⟨k, hk, hn, hx, hy⟩
    simp only at hn hx hy
    subst hn
    have hkr : (k : Rat) ≤ 50 := by exact_mod_cast hk
    have hk0 : (0 : Rat) ≤ k := by exact_mod_cast Nat.zero_le k
    rcases Nat.lt_or_ge k 50 with hlt | hge
    · have hd : decide (((k : Nat) : Int) < 50) = true := decide_eq_true (by omega)
      have hw : IntKind.wrap .i64 (((k : Nat) : Int) + 1) = ((k + 1 : Nat) : Int) := nat_next hlt (by decide)
      obtain ⟨m1, m2⟩ := half_R (hx.mono (by grind) (by grind)) (hy.mono (by grind) (by grind))
      have hm : I .f64 (fdiv .f64 (fadd .f64 x y) 4611686018427387904) (some (-(((k + 1 : Nat) : Rat) / 1000000000), 1 + ((k + 1 : Nat) : Rat) / 1000000000)) := by
        have g1 := hx.2.1
        have g2 := hx.2.2
        have g3 := hy.2.1
        have g4 := hy.2.2
        unfold Nr at m2
        push_cast
        exact ⟨m1, by grind, by grind⟩
      have hx' : I .f64 x (some (-(((k + 1 : Nat) : Rat) / 1000000000), 1 + ((k + 1 : Nat) : Rat) / 1000000000)) := hx.mono (by push_cast; grind) (by push_cast; grind)
      have hy' : I .f64 y (some (-(((k + 1 : Nat) : Rat) / 1000000000), 1 + ((k + 1 : Nat) : Rat) / 1000000000)) := hy.mono (by push_cast; grind) (by push_cast; grind)
      cases hg : fgt .f64 (impl_phaseOfSwing e (fdiv .f64 (fadd .f64 x y) 4611686018427387904)) (impl_wrap f) with
      | true =>
        refine ⟨.inl (x, fdiv .f64 (fadd .f64 x y) 4611686018427387904, ((k + 1 : Nat) : Int)), [], ?_, ⟨k + 1, hlt, rfl, hx', hm⟩, by show (50 - ((k + 1 : Nat) : Int)).toNat < (50 - ((k : Nat) : Int)).toNat; omega⟩
        unfold impl_swing_loop0_step
        simp only [DT.get, hd, hg, hw]
      | false =>
        refine ⟨.inl (fdiv .f64 (fadd .f64 x y) 4611686018427387904, y, ((k + 1 : Nat) : Int)), [], ?_, ⟨k + 1, hlt, rfl, hm, hy'⟩, by show (50 - ((k + 1 : Nat) : Int)).toNat < (50 - ((k : Nat) : Int)).toNat; omega⟩
        unfold impl_swing_loop0_step
        simp only [DT.get, hd, hg, hw]
    · have hd : decide (((k : Nat) : Int) < 50) = false := decide_eq_false (by omega)
      refine ⟨.inr x, [], ?_, hx.mono (by grind) (by grind)⟩
      unfold impl_swing_loop0_step
      simp only [DT.get, hd]) (0, 4607182418800017408, 0) ⟨0, by decide, rfl, I.at (by decide +kernel), I.at (by decide +kernel)⟩
  obtain ⟨l1, l2⟩ := key
  have l1 : impl_swing_loop0_ends (e, impl_wrap f) (0, 4607182418800017408, 0) = true := l1
  unfold impl_swing_need impl_swing impl_swing_tree
  simp only [DT.ok, DT.val, l1]
  exact ⟨trivial, l2⟩

theorem k_zero32 : I .f32 0 (some (0, 0)) := I.at (by decide +kernel)

theorem aLength_I {m : Nat} {a b : Rat} (hm : I .f32 m (some (a, b))) (ha : 0 < a) : impl_aLength_need m = true ∧ impl_aLength m = true := by
  have hg := I.gt hm k_zero32 ha
  unfold impl_aLength_need impl_aLength impl_aLength_tree
  simp only [DT.ok, DT.val, IsFinite_need, IsFinite_eq, hm.1, hg]
  exact ⟨trivial, trivial⟩

def VecI (v : Vec) (M : Rat) : Prop := I .f32 v.X (some (-M, M)) ∧ I .f32 v.Y (some (-M, M)) ∧ I .f32 v.Z (some (-M, M))

theorem VecI.fin {v : Vec} {M : Rat} (h : VecI v M) : finV v = true := by unfold finV; rw [h.1.1, h.2.1.1, h.2.2.1]; rfl

theorem k_one32 : I .f32 1065353216 (some (1, 1)) := I.at (by decide +kernel)

theorem narrow_I {x : Nat} (hx : isNum .f64 x = true) (h0 : 0 ≤ R .f64 x) (h1 : R .f64 x ≤ 2) : impl_narrowTurn_need x = true ∧ turnB (impl_narrowTurn x) = true ∧ I .f32 (impl_narrowTurn x) (some (0, 1)) := by
  have hI : I .f64 x (some (0, 2)) := ⟨hx, h0, h1⟩
  have f1 := I.fits hI (by decide +kernel) (by decide +kernel)
  have d1 := (I.down hI).to (lo := -1) (hi := 3) (by decide +kernel)
  have d0 := down_nn hx h0
  have e : impl_narrowTurn_need x = true ∧ impl_narrowTurn x = match fge .f32 (fconv .f64 x .f32) 1065353216 with
    | true => 0
    | false => fconv .f64 x .f32 := by
    unfold impl_narrowTurn_need impl_narrowTurn impl_narrowTurn_tree
    cases hg : fge .f32 (fconv .f64 x .f32) 1065353216 <;> simp only [DT.ok, DT.val, f1, hg] <;> exact ⟨trivial, trivial⟩
  refine ⟨e.1, ?_⟩
  rw [e.2]
  cases hg : fge .f32 (fconv .f64 x .f32) 1065353216 with
  | true => exact ⟨(by decide +kernel : turnB 0 = true), (I.at (by decide +kernel) : I .f32 0 (some (0, 1)))⟩
  | false =>
    rw [fge_R d1.1 k_one32.1] at hg
    have h2 := of_decide_eq_false hg
    have o1 := k_one32.2.1
    have o2 := k_one32.2.2
    have z1 := k_zero32.2.2
    refine ⟨?_, d1.1, d0, by grind⟩
    unfold turnB
    rw [fge_R d1.1 k_zero32.1, flt_R d1.1 k_one32.1, Bool.and_eq_true]
    exact ⟨decide_eq_true (by grind), decide_eq_true (by grind)⟩

theorem valid_I {o : Orbit} (h : validO o = true) : impl_Orbit_valid_need o = true ∧ impl_Orbit_valid o = (o, true) := by
  obtain ⟨v1, v2⟩ := ValidOrbit_eq o
  rw [h] at v2
  have e : (⟨o.Long, o.Round, o.Tilt, o.Node, o.Peri, o.Phase⟩ : Orbit) = o := rfl
  unfold impl_Orbit_valid_need impl_Orbit_valid impl_Orbit_valid_tree
  simp only [DT.ok, DT.val, e, v1, v2]
  exact ⟨rfl, rfl⟩

theorem num_nan {k : FloatKind} {x : Nat} (h : isNum k x = true) : isNaN k x = false := by
  obtain ⟨s, m, p, hd⟩ := isNum_iff.1 h
  unfold isNaN; rw [hd]; rfl

theorem k_half32 : I .f32 1056964608 (some (1 / 2, 1 / 2)) := I.at (by decide +kernel)

theorem told_need (x : Nat) : impl_told_need x = true := by
  unfold impl_told_need impl_told_tree
  cases hi : impl_IsFinite x <;> simp only [DT.ok, IsFinite_need, hi, Bool.not_true, Bool.not_false]

theorem told_num {x : Nat} (h : isNum .f32 x = true) : impl_told x = (x, true) := by
  unfold impl_told impl_told_tree
  simp only [DT.val, IsFinite_eq, h, Bool.not_true]

theorem u8_fit {x : Int} (h : (UC.int .u8).fit x) : 0 ≤ x ∧ x ≤ 255 := by
  have h : (decide (IntKind.min .u8 ≤ x) && decide (x ≤ IntKind.max .u8)) = true := h
  rw [show IntKind.min .u8 = 0 from rfl, show IntKind.max .u8 = 255 from rfl, Bool.and_eq_true, decide_eq_true_eq, decide_eq_true_eq] at h
  exact h

theorem impl_angle_eq (y x : Nat) : impl_angle y x = angleC (fgt .f64 (math_Abs y) (math_Abs x)) (flt .f64 x 0) (flt .f64 y 0) (ratio (math_Abs y) (math_Abs x)) := by
  unfold impl_angle impl_angle_tree ratio
  generalize math_Abs y = a
  generalize math_Abs x = b
  cases h1 : fgt .f64 a b <;> cases h2 : flt .f64 x 0 <;> cases h3 : flt .f64 y 0 <;> simp only [DT.val, h1, h2, h3] <;> rfl

theorem zero64 : isNum .f64 0 = true ∧ V .f64 0 = 0 := by decide +kernel

theorem ratio_sm {y x : Nat} (hy : isNum .f64 y = true) (hx : isNum .f64 x = true) (h : (feq .f64 x 0 && feq .f64 y 0) = false) : Sm .f64 0 (ratio (math_Abs y) (math_Abs x)) := by
  rw [math_Abs_eq (num_nan hy), math_Abs_eq (num_nan hx)]
  obtain ⟨n1, v1⟩ := fabs_num hy
  obtain ⟨n2, v2⟩ := fabs_num hx
  rw [feq_num hx zero64.1, feq_num hy zero64.1, zero64.2] at h
  have hne : ¬ (V .f64 x = 0 ∧ V .f64 y = 0) := fun ⟨a, b⟩ => by rw [decide_eq_true a, decide_eq_true b] at h; cases h
  unfold ratio
  cases hg : fgt .f64 (fabs y) (fabs x) with
  | true =>
    rw [fgt_num n1 n2, decide_eq_true_eq] at hg
    exact fdiv_one n2 n1 (by omega) (by omega)
  | false =>
    rw [fgt_num n1 n2, decide_eq_false_iff_not] at hg
    exact fdiv_one n1 n2 (by omega) (by omega)

theorem sm_I {v : Nat} {e : Nat} (he : e ≤ 100) (h : Sm .f64 e v) : isNum .f64 v = true ∧ Bd (R .f64 v) ((2 ^ e : Nat) : Rat) := by
  have hn := sm_num (k := .f64) (by simp only [emax]; omega) h
  refine ⟨hn, ?_⟩
  have hV := V_sm (k := .f64) (by simp only [emax]; omega) h
  rw [R_V hn]
  have hlp : lplace .f64 = -1074 := rfl
  have ee : ((e : Int) - lplace .f64).toNat = e + 1074 := by rw [hlp]; omega
  rw [ee, Nat.pow_add] at hV
  rw [hlp]
  have hp := two_pos (-1074)
  have e1 : ((2 ^ 1074 : Nat) : Rat) * 2 ^ (-1074 : Int) = 1 := by decide +kernel
  generalize (2 : Rat) ^ (-1074 : Int) = w at *
  generalize (2 ^ 1074 : Nat) = N at *
  generalize (2 ^ e : Nat) = E at *
  generalize V .f64 v = n at *
  have h1 : n ≤ ((E * N : Nat) : Int) := by omega
  have h2 : -((E * N : Nat) : Int) ≤ n := by omega
  have h3 : (n : Rat) ≤ (E : Rat) * (N : Rat) := by exact_mod_cast h1
  have h4 : -((E : Rat) * (N : Rat)) ≤ (n : Rat) := by
    have : ((-((E * N : Nat) : Int) : Int) : Rat) ≤ (n : Rat) := by exact_mod_cast h2
    push_cast at this
    exact this
  have h5 := Rat.mul_le_mul_of_nonneg_right h3 (Rat.le_of_lt hp)
  have h6 := Rat.mul_le_mul_of_nonneg_right h4 (Rat.le_of_lt hp)
  have h7 : (E : Rat) * (N : Rat) * w = E := by rw [Rat.mul_assoc, e1, Rat.mul_one]
  unfold Bd
  constructor <;> grind

theorem fsqrt_nn {x : Nat} (hx : isNum .f64 x = true) (h : 0 ≤ R .f64 x) : 0 ≤ R .f64 (fsqrt x) := by
  obtain ⟨s, m, i, hx⟩ := isNum_iff.1 hx
  have e1 : R .f64 x = rv (.number s m i) := by unfold Proofs.YtfbnehkbialkaaaGreat.R; rw [hx]
  rw [e1] at h
  unfold fsqrt Format.sqrt
  rw [hx]
  unfold Datum.root
  by_cases hm : m = 0
  · subst hm
    simp only [if_true]
    show 0 ≤ R .f64 (canon .f64 (FloatKind.f64.format.nearest s 0 i))
    exact near_nn' h
  · simp only [if_neg hm]
    cases s
    · simp only [Bool.false_eq_true, if_false]
      exact near_nn .f64 _ _
    · exfalso
      have h1 : (0 : Rat) < m := by exact_mod_cast Nat.pos_of_ne_zero hm
      have h2 := Rat.mul_pos h1 (two_pos i)
      rw [rv_sign] at h
      simp only [if_true] at h
      grind

theorem root_nn {x : Nat} (hx : isNum .f32 x = true) (h0 : 0 ≤ R .f32 x) (h : R .f32 x ≤ 1000000000000000000000000000000) : 0 ≤ R .f32 (rootN x) := by
  obtain ⟨u1, u2⟩ := up_R hx
  have n1 := (sqrt_fl u1 (by rw [u2]; exact h0) (by rw [u2]; have := Gr_ge; grind)).1
  exact down_nn n1 (fsqrt_nn u1 (by rw [u2]; exact h0))

theorem fsub_same {k : FloatKind} {x : Nat} (hx : isNum k x = true) : R k (fsub k x x) = 0 := by
  have h := fsub_opp hx hx (by rw [show R k x - R k x = 0 by grind]; have := Gr_ge; unfold Bd; constructor <;> grind)
  grind

theorem half_nn {t : Nat} {b : Rat} (h : I .f64 t (some (0, b))) (hb : b ≤ 101 / 100) : 0 ≤ R .f64 (halfAngle t) := by
  have hI : I .f64 t (some (-1 / 1000000, 101 / 100)) := h.mono (by decide +kernel) hb
  have d := (I.add k_one (I.sqrt (98 / 100) (144 / 100) (I.add k_one (I.sq hI)))).to (lo := 1) (hi := 3) (by decide +kernel)
  exact fdiv_nn h.1 d.1 h.2.1 (by have := d.2.1; grind)

theorem arc_nn {t : Nat} (h : I .f64 t (some (0, 14 / 100))) : I .f64 (arc t) (some (0, 1 / 4)) := by
  have h1 : I .f64 t (some (-1 / 1000000, 14 / 100)) := h.mono (by decide +kernel) (by decide +kernel)
  have hu := (I.sq h1).to (lo := -1 / 1000000) (hi := 2 / 100) (by decide +kernel)
  have st : ∀ {p c : Nat}, I .f64 p (some (-11 / 10, 11 / 10)) → I .f64 (fdiv .f64 4607182418800017408 c) (some (0, 101 / 100)) → I .f64 (round15 (fmul .f64 t t) p c) (some (-11 / 10, 11 / 10)) := fun hp hc => (I.sub hc (I.mul hu hp)).to (by decide +kernel)
  have z : I .f64 0 (some (-11 / 10, 11 / 10)) := I.at (by decide +kernel)
  have q1 := st (c := fofInt .f64 15) z (I.at (by decide +kernel))
  have q2 := st (c := fofInt .f64 13) q1 (I.at (by decide +kernel))
  have q3 := st (c := fofInt .f64 11) q2 (I.at (by decide +kernel))
  have q4 := st (c := fofInt .f64 9) q3 (I.at (by decide +kernel))
  have q5 := st (c := fofInt .f64 7) q4 (I.at (by decide +kernel))
  have q6 := st (c := fofInt .f64 5) q5 (I.at (by decide +kernel))
  have q7 := st (c := fofInt .f64 3) q6 (I.at (by decide +kernel))
  have c1 : I .f64 (fdiv .f64 4607182418800017408 (fofInt .f64 1)) (some (99 / 100, 101 / 100)) := I.at (by decide +kernel)
  unfold arc
  simp only
  generalize round15 (fmul .f64 t t) _ (fofInt .f64 3) = p7 at q7 ⊢
  have q8 : I .f64 (round15 (fmul .f64 t t) p7 (fofInt .f64 1)) (some (9 / 10, 11 / 10)) := (I.sub c1 (I.mul hu q7)).to (by decide +kernel)
  generalize round15 (fmul .f64 t t) p7 (fofInt .f64 1) = p at q8 ⊢
  have k8 : I .f64 4620693217682128896 (some (8, 8)) := I.at (by decide +kernel)
  have w := (I.mul h1 q8).to (lo := -1) (hi := 16 / 100) (by decide +kernel)
  have n1 := fmul_nn h.1 q8.1 (Rat.mul_nonneg h.2.1 (by have := q8.2.1; grind))
  have w2 := (I.mul k8 w).to (lo := -9) (hi := 13 / 10) (by decide +kernel)
  have n2 := fmul_nn k8.1 w.1 (Rat.mul_nonneg (by have := k8.2.1; grind) n1)
  have w3 := (I.div w2 k_turn).to (lo := -2) (hi := 1 / 4) (by decide +kernel)
  have n3 := fdiv_nn w2.1 k_turn.1 n2 (by have := k_turn.2.1; grind)
  exact ⟨w3.1, n3, w3.2.2⟩

theorem Root_val {x : Nat} : impl_RootNumber x = rootN x := by
  unfold impl_RootNumber impl_RootNumber_tree
  simp only [DT.val]
  rfl

theorem Size_eq (a : Vec) : impl_SizeOfVector a = rootN (innerN a.X a.Y a.Z) := by
  unfold impl_SizeOfVector impl_SizeOfVector_tree
  simp only [DT.val, Root_val]
  rfl

theorem Root_need (x : Nat) : impl_RootNumber_need x = true := by
  have e : math_Sqrt (fconv .f32 x .f64) = fsqrt (fconv .f32 x .f64) := rfl
  unfold impl_RootNumber_need impl_RootNumber_tree
  simp only [DT.ok, fconvOk_up, e, root_fits]

theorem Size_need (v : Vec) : impl_SizeOfVector_need v = true := by
  unfold impl_SizeOfVector_need impl_SizeOfVector_tree
  simp only [DT.ok, Root_need]

theorem angle_core {Y X : Nat} (ny : isNum .f64 Y = true) (nx : isNum .f64 X = true) (h : (feq .f64 X 0 && feq .f64 Y 0) = false) :
    ∃ o2, impl_angle Y X = negIf (flt .f64 Y 0) o2 ∧ isNum .f64 o2 = true ∧ 0 ≤ R .f64 o2 ∧ R .f64 o2 ≤ 1 / 2 := by
  have hT := T_le
  have hG := Gr_ge
  have z64 : isNum .f64 0 = true ∧ R .f64 0 = 0 := by decide +kernel
  have hr := ratio_sm ny nx h
  rw [feq_R nx z64.1, feq_R ny z64.1, z64.2] at h
  have hne : ¬ (R .f64 X = 0 ∧ R .f64 Y = 0) := fun ⟨a, b⟩ => by rw [decide_eq_true a, decide_eq_true b] at h; cases h
  rw [impl_angle_eq]
  rw [math_Abs_eq (num_nan ny), math_Abs_eq (num_nan nx)] at hr ⊢
  have ab : ∀ {w : Nat}, isNum .f64 w = true → isNum .f64 (fabs w) = true ∧ 0 ≤ R .f64 (fabs w) ∧ (R .f64 (fabs w) = 0 → R .f64 w = 0) := fun {w} hw => by
    obtain ⟨b1, b2, b3⟩ := fabs_R hw
    refine ⟨b1, ?_⟩
    rcases (Rat.le_total : (0 : Rat) ≤ R .f64 w ∨ R .f64 w ≤ 0) with g | g
    · rw [b2 g]; exact ⟨g, fun h => h⟩
    · rw [b3 g]; exact ⟨by grind, fun h => by grind⟩
  obtain ⟨a1, pa, a0⟩ := ab ny
  obtain ⟨b1, pb, b0⟩ := ab nx
  have tI : I .f64 (ratio (fabs Y) (fabs X)) (some (0, 1)) := by
    obtain ⟨s1, s2⟩ := sm_I (by decide) hr
    refine ⟨s1, ?_, s2.2⟩
    unfold ratio
    cases hg : fgt .f64 (fabs Y) (fabs X) with
    | true =>
      rw [fgt_R a1 b1, decide_eq_true_eq] at hg
      exact fdiv_nn b1 a1 pb (by grind)
    | false =>
      rw [fgt_R a1 b1] at hg
      have hg := of_decide_eq_false hg
      refine fdiv_nn a1 b1 pa ?_
      have hne2 : R .f64 (fabs X) ≠ 0 := fun e => hne ⟨b0 e, a0 (by grind)⟩
      grind
  generalize ratio (fabs Y) (fabs X) = t at *
  have i0 : I .f64 t (some (-1 / 1000000, 101 / 100)) := tI.mono (by decide +kernel) (by decide +kernel)
  have i1 := half_I1 i0
  have n1 := half_nn tI (by decide +kernel)
  have i2 := half_I2 i1
  have n2 := half_nn (t := halfAngle t) (b := 52 / 100) ⟨i1.1, n1, i1.2.2⟩ (by decide +kernel)
  have i3 := half_I3 i2
  have n3 := half_nn (t := halfAngle (halfAngle t)) (b := 27 / 100) ⟨i2.1, n2, i2.2.2⟩ (by decide +kernel)
  have ar := arc_nn (t := halfAngle (halfAngle (halfAngle t))) ⟨i3.1, n3, i3.2.2⟩
  unfold angleC
  generalize arc (halfAngle (halfAngle (halfAngle t))) = w at *
  have o1 : I .f64 (lessIf (fgt .f64 (fabs Y) (fabs X)) 4598175219545276416 w) (some (0, 2501 / 10000)) := by
    unfold lessIf
    cases fgt .f64 (fabs Y) (fabs X)
    · exact ar.mono (by decide +kernel) (by decide +kernel)
    · have q := (I.sub k_quarter ar).to (lo := -1) (hi := 2501 / 10000) (by decide +kernel)
      exact ⟨q.1, fsub_nn k_quarter.1 ar.1 (by have := k_quarter.2.1; have := ar.2.2; grind), q.2.2⟩
  generalize lessIf (fgt .f64 (fabs Y) (fabs X)) 4598175219545276416 w = o at *
  refine ⟨lessIf (flt .f64 X 0) 4602678819172646912 o, rfl, ?_⟩
  unfold lessIf
  have ho := o1.2
  cases flt .f64 X 0
  · exact ⟨o1.1, ho.1, by show R .f64 o ≤ 1 / 2; grind⟩
  · have kh := k_half.2
    have bh : Bd (R .f64 4602678819172646912 - R .f64 o) (1 / 2) := by unfold Bd; constructor <;> grind
    have f := fsub_fl k_half.1 o1.1 (bh.mono (by grind))
    exact ⟨f.1, fsub_nn k_half.1 o1.1 (by grind), le_half f bh⟩

theorem circ_P {x : Nat} (h : I .f64 x (some (-900, 900))) : isNum .f64 (impl_sine x) = true ∧ isNum .f64 (impl_cosine x) = true ∧ Nr (R .f64 (impl_sine x) * R .f64 (impl_sine x) + R .f64 (impl_cosine x) * R .f64 (impl_cosine x)) 1 (1 / 1000000) ∧ Bd (R .f64 (impl_sine x)) (1000001 / 1000000) ∧ Bd (R .f64 (impl_cosine x)) (1000001 / 1000000) := by
  have y := (I.add h k_quarter).to (lo := -1000) (hi := 1000) (by decide +kernel)
  have b1 : Bd (R .f64 x) 4503599627370495 := by have := h.2; unfold Bd; constructor <;> grind
  have b2 : Bd (R .f64 (fadd .f64 x 4598175219545276416)) 4503599627370495 := by have := y.2; unfold Bd; constructor <;> grind
  have e1 : impl_sine x = sineOf (leftOf x) := by rw [impl_sine_eq, impl_behind_eq (sm52 h.1 b1)]
  have e2 : impl_cosine x = sineOf (leftOf (fadd .f64 x 4598175219545276416)) := by
    show impl_sine (fadd .f64 x 4598175219545276416) = _
    rw [impl_sine_eq, impl_behind_eq (sm52 y.1 b2)]
  rw [e1, e2]
  exact circle_any h

theorem spec_angle_eq (y x : Nat) (hy : isNum .f64 y = true) (hx : isNum .f64 x = true) : spec_l01AngleWide y x = match feq .f64 x 0 && feq .f64 y 0 with
    | true => 0
    | false => angleC (fgt .f64 (math_Abs y) (math_Abs x)) (flt .f64 x 0) (flt .f64 y 0) (ratio (math_Abs y) (math_Abs x)) := by
  have e1 : fne .f64 (fsub .f64 y y) 0 = false := by rw [finite_not, hy]; rfl
  have e2 : fne .f64 (fsub .f64 x x) 0 = false := by rw [finite_not, hx]; rfl
  unfold spec_l01AngleWide spec_l01AngleWide_tree ratio
  generalize math_Abs y = a
  generalize math_Abs x = b
  cases g1 : feq .f64 x 0 with
  | true =>
    cases g2 : feq .f64 y 0 with
    | true => simp only [DT.val, e1, e2, g1, g2, Bool.and_self]
    | false => cases h1 : fgt .f64 a b <;> cases h2 : flt .f64 x 0 <;> cases h3 : flt .f64 y 0 <;> simp only [DT.val, e1, e2, g1, g2, h1, h2, h3, Bool.and_false] <;> rfl
  | false => cases h1 : fgt .f64 a b <;> cases h2 : flt .f64 x 0 <;> cases h3 : flt .f64 y 0 <;> simp only [DT.val, e1, e2, g1, h1, h2, h3, Bool.false_and] <;> rfl

theorem l03Turn_eq (x : Nat) : spec_l03Turn x = turnB x := by
  unfold spec_l03Turn spec_l03Turn_tree turnB
  cases h : fge .f32 x 0 <;> simp only [DT.val, h] <;> rfl

theorem l01Finite_eq (x : Nat) : spec_l01Finite x = isNum .f32 x := finite_same .f32 x

theorem l03Is_eq (o : Orbit) : spec_l03Is o = validO o := by
  unfold spec_l03Is spec_l03Is_tree validO
  simp only [l01Finite_eq, l03Turn_eq]
  generalize turnB o.Node = t1
  generalize turnB o.Peri = t2
  generalize turnB o.Phase = t3
  cases isNum .f32 o.Long <;> cases isNum .f32 o.Round <;> try rfl
  cases fge .f32 o.Tilt 0 <;> cases fle .f32 o.Tilt 1056964608 <;> cases t1 <;> cases t2 <;> try rfl
  cases fgt .f32 o.Long 0
  · cases flt .f32 o.Long 0 <;> cases fgt .f32 o.Round 1065353216 <;> cases fge .f32 o.Phase 3246391296 <;> rfl
  · cases fge .f32 o.Round 0 <;> cases flt .f32 o.Round 1065353216 <;> rfl

theorem spec_sine_eq {x : Nat} (hx : isNum .f64 x = true) (h1 : fge .f64 x 4841369599423283200 = false) (h2 : fle .f64 x 14064741636278059008 = false) : spec_l01SineWide_need x = true ∧ spec_l01SineWide x = sineOf (leftOf x) := by
  have h0 : fne .f64 (fsub .f64 x x) 0 = false := by rw [finite_not, hx]; rfl
  have h3 := toInt_ok hx (far_not hx h1 h2)
  unfold spec_l01SineWide_need spec_l01SineWide spec_l01SineWide_tree leftOf
  generalize hf : fsub .f64 x (fofInt .f64 (ftoInt .f64 x)) = f
  cases h4 : flt .f64 f 0 with
  | true =>
    unfold sineOf
    cases h5 : fge .f64 (fadd .f64 f 4607182418800017408) 4602678819172646912 with
    | true => cases h6 : fgt .f64 (fsub .f64 (fadd .f64 f 4607182418800017408) 4602678819172646912) 4598175219545276416 <;> simp only [DT.val, DT.ok, h0, h1, h2, h3, hf, h4, h5, h6] <;> exact ⟨trivial, rfl⟩
    | false => cases h6 : fgt .f64 (fadd .f64 f 4607182418800017408) 4598175219545276416 <;> simp only [DT.val, DT.ok, h0, h1, h2, h3, hf, h4, h5, h6] <;> exact ⟨trivial, rfl⟩
  | false =>
    unfold sineOf
    cases h5 : fge .f64 f 4602678819172646912 with
    | true => cases h6 : fgt .f64 (fsub .f64 f 4602678819172646912) 4598175219545276416 <;> simp only [DT.val, DT.ok, h0, h1, h2, h3, hf, h4, h5, h6] <;> exact ⟨trivial, rfl⟩
    | false => cases h6 : fgt .f64 f 4598175219545276416 <;> simp only [DT.val, DT.ok, h0, h1, h2, h3, hf, h4, h5, h6] <;> exact ⟨trivial, rfl⟩

theorem narrow_eq {v : Nat} (h : fconvOk .f64 v .f32 = true) : spec_l01Narrow_need v = true ∧ spec_l01Narrow v = fconv .f64 v .f32 := by
  unfold spec_l01Narrow_need spec_l01Narrow spec_l01Narrow_tree
  simp only [DT.ok, DT.val, h]
  exact ⟨trivial, trivial⟩

theorem aLength_same (x : Nat) : impl_aLength_need x = true ∧ impl_aLength x = spec_l02Above x := by
  unfold impl_aLength_need impl_aLength impl_aLength_tree spec_l02Above spec_l02Above_tree
  simp only [DT.ok, DT.val, IsFinite_need, IsFinite_eq, l01Finite_eq]
  cases isNum .f32 x <;> constructor <;> first | trivial | rfl

theorem specNarrow_eq {y : Nat} (h : fconvOk .f64 y .f32 = true) : spec_l01Narrow_need y = true ∧ spec_l01Narrow y = fconv .f64 y .f32 := by
  unfold spec_l01Narrow_need spec_l01Narrow spec_l01Narrow_tree
  simp only [DT.ok, DT.val, h]
  exact ⟨trivial, trivial⟩

theorem specSqrt_of {w z y : Nat} (s : math_Sqrt (fconv .f32 w .f64) = z) (n1 : spec_l01Narrow_need z = true) (n2 : spec_l01Narrow z = y) : spec_l01Sqrt_need w = true ∧ spec_l01Sqrt w = y := by
  have g : (spec_l01Sqrt_tree w).get = some y := by
    unfold spec_l01Sqrt_tree
    simp only [s, n1, n2, fconvOk_up]
    simp only [DT.get]
  exact DT.of_get g

theorem specSqrt_eq (w : Nat) : spec_l01Sqrt_need w = true ∧ spec_l01Sqrt w = rootN w :=
  specSqrt_of (w := w) rfl (specNarrow_eq (root_fits w)).1 (specNarrow_eq (root_fits w)).2

theorem specInner_eq (v : Vec) : spec_l01VInner (⟨v.X, v.Y, v.Z⟩ : Vec) (⟨v.X, v.Y, v.Z⟩ : Vec) = innerN v.X v.Y v.Z := rfl

theorem specLong_of {v : Vec} {w y : Nat} (s : spec_l01VInner (⟨v.X, v.Y, v.Z⟩ : Vec) (⟨v.X, v.Y, v.Z⟩ : Vec) = w) (n1 : spec_l01Sqrt_need w = true) (n2 : spec_l01Sqrt w = y) : spec_l01VLong_need v = true ∧ spec_l01VLong v = y := by
  have g : (spec_l01VLong_tree v).get = some y := by
    unfold spec_l01VLong_tree
    simp only [s, n1, n2]
    simp only [DT.get]
  exact DT.of_get g

theorem specSize_of {v : Vec} {y : Nat} (n1 : spec_l01VLong_need (⟨v.X, v.Y, v.Z⟩ : Vec) = true) (n2 : spec_l01VLong (⟨v.X, v.Y, v.Z⟩ : Vec) = y) : spec_SizeOfVector_need v = true ∧ spec_SizeOfVector v = y := by
  have g : (spec_SizeOfVector_tree v).get = some y := by
    unfold spec_SizeOfVector_tree
    simp only [n1, n2]
    simp only [DT.get]
  exact DT.of_get g

theorem specSize_eq (v : Vec) : spec_SizeOfVector_need v = true ∧ spec_SizeOfVector v = rootN (innerN v.X v.Y v.Z) := by
  obtain ⟨n1, n2⟩ := specSqrt_eq (innerN v.X v.Y v.Z)
  obtain ⟨l1, l2⟩ := specLong_of (v := v) (specInner_eq v) n1 n2
  exact specSize_of l1 l2

theorem gap10_le {a b : Nat} {M : Rat} (ha : isNum .f64 a = true) (hb : isNum .f64 b = true) (h : Nr (R .f64 a) (R .f64 b) M) (hM : M ≤ 1) : isNum .f64 (laws_b10Gap a b) = true ∧ R .f64 (laws_b10Gap a b) ≤ M + 1 / 1000000000 := by
  have hT := T_le
  have hG := Gr_ge
  have h' := h.symm
  have f1 := fsub_fl ha hb (by unfold Nr Bd at *; constructor <;> grind)
  have f2 := fsub_fl hb ha (by unfold Nr Bd at *; constructor <;> grind)
  have e1 := f1.err64 (M := 1) (Bd.mono h hM)
  have e2 := f2.err64 (M := 1) (Bd.mono h' hM)
  unfold laws_b10Gap laws_b10Gap_tree
  cases flt .f64 a b <;> simp only [DT.val]
  · exact ⟨f1.1, by unfold Nr at *; grind⟩
  · exact ⟨f2.1, by unfold Nr at *; grind⟩

theorem k_thou : isNum .f64 4562254508917369340 = true ∧ 9 / 10000 ≤ R .f64 4562254508917369340 ∧ R .f64 4562254508917369340 ≤ 11 / 10000 := by decide +kernel

theorem long10 {a0 a1 : List Int} (h : laws_b10Long a0 a1 = false) : a0.length ≤ 1048576 ∧ a1.length ≤ 1048576 := by
  unfold laws_b10Long laws_b10Long_tree at h
  simp only [DT.val] at h
  by_cases g : ((a0.length : Nat) : Int) > 1048576
  · rw [decide_eq_true g] at h
    cases h
  · rw [decide_eq_false g] at h
    by_cases g2 : ((a1.length : Nat) : Int) > 1048576
    · rw [decide_eq_true g2] at h
      cases h
    · omega

theorem num_fne {x : Nat} (h : isNum .f32 x = true) : fne .f32 x x = false := by rw [fne_self, num_nan h]

end Go.Proofs.YtfbnehkbialkaaaGreat
