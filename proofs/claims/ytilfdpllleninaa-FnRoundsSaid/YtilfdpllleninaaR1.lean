/- The plain law of FnRounds, part 1: finite numbers, lists of bodies, steps of bodies in plain words. -/
import Derived.Test.YtilfdpllleninaaGRa
import Derived.Test.YtilfdpllleninaaEngY
import Derived.Test.YtilfdpllleninaaSize
import Derived.Test.YtilfdpllleninaaFloor
import Derived.Test.YtilfdpllleninaaExact
namespace Go.Proofs.Ytilfdpllleninaa
open Ieee
set_option linter.unusedVariables false
set_option linter.unusedSimpArgs false

theorem IsFinite_need (x : Nat) : impl_IsFinite_need x = true := by
  unfold impl_IsFinite_need impl_IsFinite_tree
  simp only [DT.ok, fconvOk_up]

theorem math_Abs_eq {x : Nat} (h : isNaN .f64 x = false) : math_Abs x = fabs x := by
  unfold math_Abs math_Abs_tree
  simp only [DT.val, h]
  rfl

theorem impl_finite_eq (x : Nat) : impl_finite x = isNum .f64 x := by
  unfold impl_finite impl_finite_tree
  have h1 : math_IsNaN x = isNaN .f64 x := fne_self .f64 x
  simp only [DT.val, h1]
  cases hn : isNaN .f64 x with
  | true =>
    rcases kinds .f64 x with ⟨s, m, p, hd, h1, h2⟩ | ⟨s, hd, h1, h2⟩ | ⟨s, t, hd, h1, h2⟩
    · rw [h2] at hn; cases hn
    · rw [h2] at hn; cases hn
    · rw [h1]; rfl
  | false =>
    have h2 : math_IsInf x 0 = fgt .f64 (math_Abs x) 9218868437227405311 := rfl
    rw [h2, math_Abs_eq hn, inf_abs hn]
    simp

theorem IsFinite_eq (x : Nat) : impl_IsFinite x = isNum .f32 x := by
  show impl_finite (fconv .f32 x .f64) = _
  rw [impl_finite_eq, isNum_up]

def finV (v : Vec) : Bool := isNum .f32 v.X && isNum .f32 v.Y && isNum .f32 v.Z

def okB (b : Body) : Bool := finV b.At && finV b.Speed && (isNum .f32 b.Mass && fge .f32 b.Mass 0)

theorem areFinite_1_eq (i : Nat) : impl_areFinite_1_need i = true ∧ impl_areFinite_1 i = !isNum .f32 i := by
  unfold impl_areFinite_1_need impl_areFinite_1 impl_areFinite_1_tree
  simp only [DT.ok, DT.val, IsFinite_need, IsFinite_eq]
  exact ⟨trivial, trivial⟩

theorem areFinite_eq (l : List Nat) (hl : l.length ≤ 2 ^ 62) : impl_areFinite_need l = true ∧ impl_areFinite l = l.all (isNum .f32) := by
  obtain ⟨h1, h2⟩ := scan_loop (α := Int) (β := Unit) (step := slices_IndexFunc___float32_float32__impl_areFinite_1_loop0_step (l, ((l.length : Nat) : Int))) l.length (fun i => bif isNum .f32 (l.getD i default) then none else some (i : Int)) () (fun i hi => by
    refine ⟨[], ?_⟩
    unfold slices_IndexFunc___float32_float32__impl_areFinite_1_loop0_step
    simp only [DT.get, nat_dec hi, nat_in hi, (areFinite_1_eq _).1, (areFinite_1_eq _).2, Int.toNat_natCast, nat_next hi hl]
    cases isNum .f32 (l.getD i default) <;> rfl) ⟨[], by
    unfold slices_IndexFunc___float32_float32__impl_areFinite_1_loop0_step
    simp only [DT.get, nat_not]⟩
  have hall := firstOf_all (isNum .f32) (fun i => (i : Int)) default l
  have h1 : slices_IndexFunc___float32_float32__impl_areFinite_1_loop0_ends (l, ((l.length : Nat) : Int)) 0 = true := h1
  have h2 : slices_IndexFunc___float32_float32__impl_areFinite_1_loop0 (l, ((l.length : Nat) : Int)) 0 = _ := h2
  have key : slices_IndexFunc___float32_float32__impl_areFinite_1_need l = true ∧ decide (slices_IndexFunc___float32_float32__impl_areFinite_1 l ≥ 0) = !l.all (isNum .f32) := by
    unfold slices_IndexFunc___float32_float32__impl_areFinite_1_need slices_IndexFunc___float32_float32__impl_areFinite_1 slices_IndexFunc___float32_float32__impl_areFinite_1_tree
    simp only [DT.ok, DT.val, h1, h2]
    rw [← hall]
    cases hf : firstOf (fun i => bif isNum .f32 (l.getD i default) then none else some (i : Int)) l.length with
    | none => constructor <;> first | trivial | rfl
    | some a =>
      have ha : 0 ≤ a := by
        unfold firstOf at hf
        obtain ⟨i, _, hi⟩ := List.exists_of_findSome?_eq_some hf
        cases hq : isNum .f32 (l.getD i default) <;> rw [hq] at hi
        · simp only [cond_false, Option.some.injEq] at hi; omega
        · cases hi
      simp only [isL, leftD]
      exact ⟨trivial, decide_eq_true ha⟩
  have key2 : slices_ContainsFunc___float32_float32__impl_areFinite_1_need l = true ∧ slices_ContainsFunc___float32_float32__impl_areFinite_1 l = !l.all (isNum .f32) := by
    unfold slices_ContainsFunc___float32_float32__impl_areFinite_1_need slices_ContainsFunc___float32_float32__impl_areFinite_1 slices_ContainsFunc___float32_float32__impl_areFinite_1_tree
    simp only [DT.ok, DT.val, key.1, key.2]
    exact ⟨trivial, trivial⟩
  unfold impl_areFinite_need impl_areFinite impl_areFinite_tree
  simp only [DT.ok, DT.val, key2.1, key2.2, Bool.not_not]
  exact ⟨trivial, trivial⟩

theorem isFiniteVector_eq (v : Vec) : impl_isFiniteVector_need v = true ∧ impl_isFiniteVector v = finV v := by
  have h := areFinite_eq [v.X, v.Y, v.Z] (by show 3 ≤ 2 ^ 62; decide)
  have ha : [v.X, v.Y, v.Z].all (isNum .f32) = finV v := by
    unfold finV
    simp only [List.all_cons, List.all_nil, Bool.and_true, Bool.and_assoc]
  have e : impl_Vector_numbers (⟨v.X, v.Y, v.Z⟩ : Vec) = [v.X, v.Y, v.Z] := rfl
  unfold impl_isFiniteVector_need impl_isFiniteVector impl_isFiniteVector_tree
  simp only [DT.ok, DT.val, e, h.1, h.2, ha]
  exact ⟨trivial, trivial⟩

theorem flt_fge {x : Nat} (h : isNum .f32 x = true) : flt .f32 x 0 = !fge .f32 x 0 := by
  have h0 : isNum .f32 0 = true := by decide +kernel
  rw [flt_num h h0, fge_num h h0, ← decide_not, decide_eq_decide]
  omega

theorem AreBodies_1_eq (b : Body) : impl_AreBodies_1_need b = true ∧ impl_AreBodies_1 b = !okB b := by
  unfold impl_AreBodies_1_need impl_AreBodies_1 impl_AreBodies_1_tree okB
  simp only [DT.ok, DT.val, (isFiniteVector_eq _).1, (isFiniteVector_eq _).2, IsFinite_need, IsFinite_eq]
  cases finV b.At <;> cases finV b.Speed <;> first
    | exact ⟨rfl, rfl⟩
    | (cases h : isNum .f32 b.Mass
       · exact ⟨rfl, rfl⟩
       · simp only [Bool.not_true, Bool.true_and, flt_fge h]
         exact ⟨trivial, trivial⟩)

def okL (l : List Body) : Bool := decide (((l.length : Nat) : Int) ≤ 16) && l.all okB

theorem AreBodies_eq (l : List Body) (hl : l.length ≤ 2 ^ 62) : impl_AreBodies_need l = true ∧ impl_AreBodies l = okL l := by
  obtain ⟨h1, h2⟩ := scan_loop (α := Int) (β := Unit) (step := slices_IndexFunc___impl_Body_impl_Body__impl_AreBodies_1_loop0_step (l, ((l.length : Nat) : Int))) l.length (fun i => bif okB (l.getD i default) then none else some (i : Int)) () (fun i hi => by
    refine ⟨[], ?_⟩
    unfold slices_IndexFunc___impl_Body_impl_Body__impl_AreBodies_1_loop0_step
    simp only [DT.get, nat_dec hi, nat_in hi, (AreBodies_1_eq _).1, (AreBodies_1_eq _).2, Int.toNat_natCast, nat_next hi hl]
    cases okB (l.getD i default) <;> rfl) ⟨[], by
    unfold slices_IndexFunc___impl_Body_impl_Body__impl_AreBodies_1_loop0_step
    simp only [DT.get, nat_not]⟩
  have hall := firstOf_all okB (fun i => (i : Int)) default l
  have h1 : slices_IndexFunc___impl_Body_impl_Body__impl_AreBodies_1_loop0_ends (l, ((l.length : Nat) : Int)) 0 = true := h1
  have h2 : slices_IndexFunc___impl_Body_impl_Body__impl_AreBodies_1_loop0 (l, ((l.length : Nat) : Int)) 0 = _ := h2
  have key : slices_IndexFunc___impl_Body_impl_Body__impl_AreBodies_1_need l = true ∧ decide (slices_IndexFunc___impl_Body_impl_Body__impl_AreBodies_1 l ≥ 0) = !l.all okB := by
    unfold slices_IndexFunc___impl_Body_impl_Body__impl_AreBodies_1_need slices_IndexFunc___impl_Body_impl_Body__impl_AreBodies_1 slices_IndexFunc___impl_Body_impl_Body__impl_AreBodies_1_tree
    simp only [DT.ok, DT.val, h1, h2]
    rw [← hall]
    cases hf : firstOf (fun i => bif okB (l.getD i default) then none else some (i : Int)) l.length with
    | none => constructor <;> first | trivial | rfl
    | some a =>
      have ha : 0 ≤ a := by
        unfold firstOf at hf
        obtain ⟨i, _, hi⟩ := List.exists_of_findSome?_eq_some hf
        cases hq : okB (l.getD i default) <;> rw [hq] at hi
        · simp only [cond_false, Option.some.injEq] at hi; omega
        · cases hi
      simp only [isL, leftD]
      exact ⟨trivial, decide_eq_true ha⟩
  have key2 : slices_ContainsFunc___impl_Body_impl_Body__impl_AreBodies_1_need l = true ∧ slices_ContainsFunc___impl_Body_impl_Body__impl_AreBodies_1 l = !l.all okB := by
    unfold slices_ContainsFunc___impl_Body_impl_Body__impl_AreBodies_1_need slices_ContainsFunc___impl_Body_impl_Body__impl_AreBodies_1 slices_ContainsFunc___impl_Body_impl_Body__impl_AreBodies_1_tree
    simp only [DT.ok, DT.val, key.1, key.2]
    exact ⟨trivial, trivial⟩
  unfold impl_AreBodies_need impl_AreBodies impl_AreBodies_tree okL
  simp only [DT.ok, DT.val, key2.1, key2.2, Bool.not_not]
  cases decide (((l.length : Nat) : Int) ≤ 16) <;> constructor <;> first | trivial | rfl

theorem okL_len {l : List Body} (h : okL l = true) : l.length ≤ 16 := by
  unfold okL at h
  rw [Bool.and_eq_true, decide_eq_true_eq] at h
  omega

theorem okL_get {l : List Body} (h : okL l = true) {j : Nat} (hj : j < l.length) : okB (l.getD j default) = true := by
  unfold okL at h
  rw [Bool.and_eq_true] at h
  have := List.all_eq_true.1 h.2
  rw [List.getD_eq_getElem?_getD, List.getElem?_eq_getElem hj, Option.getD_some]
  exact this _ (List.getElem_mem hj)

theorem okL_of {l : List Body} (h16 : l.length ≤ 16) (h : ∀ j, j < l.length → okB (l.getD j default) = true) : okL l = true := by
  unfold okL
  rw [Bool.and_eq_true, decide_eq_true_eq, List.all_eq_true]
  refine ⟨by omega, fun b hb => ?_⟩
  obtain ⟨j, hj, rfl⟩ := List.mem_iff_getElem.1 hb
  have := h j hj
  rwa [List.getD_eq_getElem?_getD, List.getElem?_eq_getElem hj, Option.getD_some] at this

theorem range_succ {α : Type} (g : Nat → α) (k : Nat) : (List.range k).map g ++ [g k] = (List.range (k + 1)).map g := by rw [List.range_succ, List.map_append]; rfl

theorem room {n k b : Nat} (h : n + k ≤ 17) (hb : b ≤ 100) : (decide ((n + k) * b ≤ 140737488355328) && decide (n + k ≤ 9223372036854775807)) = true := by
  rw [Bool.and_eq_true]
  refine ⟨decide_eq_true ?_, decide_eq_true (by omega)⟩
  exact Nat.le_trans (Nat.mul_le_mul h hb) (by decide)

theorem map_loop {α ρ : Type} [Inhabited ρ] {step : Int × List α → Round (Int × List α) ρ} (n : Nat) (g : Nat → α) (ret : List α → ρ)
    (hround : ∀ k, k < n → ∀ acc : List α, acc.length = k → ∃ fl, (step (((k : Nat) : Int), acc)).get = some (.inl (((k + 1 : Nat) : Int), acc ++ [g k]), fl))
    (hend : ∀ acc, ∃ fl, (step (((n : Nat) : Int), acc)).get = some (.inr (ret acc), fl)) :
    loopEnds step (0, []) = true ∧ loopVal step (0, []) = ret ((List.range n).map g) := by
  refine loop_post (step := step) (fun s => ∃ k : Nat, k ≤ n ∧ s = (((k : Nat) : Int), (List.range k).map g)) (fun s => ((n : Int) - s.1).toNat) (fun r => r = ret ((List.range n).map g)) ?_ (0, []) ⟨0, Nat.zero_le _, rfl⟩
  rintro s ⟨k, hk, rfl⟩
  rcases Nat.lt_or_ge k n with h | h
  · obtain ⟨fl, he⟩ := hround k h ((List.range k).map g) (by simp)
    refine ⟨_, fl, he, ⟨k + 1, h, ?_⟩, ?_⟩
    · rw [range_succ]
    · show ((n : Int) - ((k + 1 : Nat) : Int)).toNat < ((n : Int) - ((k : Nat) : Int)).toNat
      omega
  · have : k = n := by omega
    subst this
    obtain ⟨fl, he⟩ := hend ((List.range k).map g)
    exact ⟨_, fl, he, rfl⟩

theorem getD_set {α : Type} {l : List α} {i : Nat} {x d : α} (h : i < l.length) : List.getD (List.set l i x) i d = x := by
  rw [List.getD_eq_getElem?_getD, List.getElem?_set_self h, Option.getD_some]

theorem getD_set_ne {α : Type} {l : List α} {i j : Nat} {x d : α} (h : i ≠ j) : List.getD (List.set l i x) j d = List.getD l j d := by
  rw [List.getD_eq_getElem?_getD, List.getD_eq_getElem?_getD, List.getElem?_set_ne h]

theorem num_nan {k : FloatKind} {x : Nat} (h : isNum k x = true) : isNaN k x = false := by
  obtain ⟨s, m, p, hd⟩ := isNum_iff.1 h
  unfold isNaN; rw [hd]; rfl

theorem Root_need (x : Nat) : impl_RootNumber_need x = true := by
  have e : math_Sqrt (fconv .f32 x .f64) = fsqrt (fconv .f32 x .f64) := rfl
  unfold impl_RootNumber_need impl_RootNumber_tree
  simp only [DT.ok, fconvOk_up, e, root_fits]

theorem Size_need (v : Vec) : impl_SizeOfVector_need v = true := by
  unfold impl_SizeOfVector_need impl_SizeOfVector_tree
  simp only [DT.ok, Root_need]

theorem Root_val {x : Nat} : impl_RootNumber x = rootN x := by
  unfold impl_RootNumber impl_RootNumber_tree
  simp only [DT.val]
  rfl

theorem Size_eq (a : Vec) : impl_SizeOfVector a = rootN (innerN a.X a.Y a.Z) := by
  unfold impl_SizeOfVector impl_SizeOfVector_tree
  simp only [DT.val, Root_val]
  rfl

theorem feq_self' {k : FloatKind} {x : Nat} (h : isNaN k x = false) : feq k x x = true := by
  have h1 := fne_feq k x x
  have h2 := fne_self k x
  rw [h2, h] at h1
  simpa using h1.symm

theorem k_zero32 : I .f32 0 (some (0, 0)) := I.at (by decide +kernel)

theorem k_one32 : I .f32 1065353216 (some (1, 1)) := I.at (by decide +kernel)

def leastB (c : Nat) : Bool := isNum .f32 c && fge .f32 c 0

theorem isCore_eq (c : Nat) : impl_isCore_need c = true ∧ impl_isCore c = leastB c := by
  unfold impl_isCore_need impl_isCore impl_isCore_tree leastB
  simp only [DT.ok, DT.val, IsFinite_need, IsFinite_eq]
  cases isNum .f32 c <;> exact ⟨rfl, rfl⟩
theorem aMass_eq (c : Nat) : impl_aMass_need c = true ∧ impl_aMass c = leastB c := by
  unfold impl_aMass_need impl_aMass impl_aMass_tree leastB
  simp only [DT.ok, DT.val, IsFinite_need, IsFinite_eq]
  cases isNum .f32 c <;> exact ⟨rfl, rfl⟩

theorem asBodies_any (l : List Body) (hl : l.length ≤ 2 ^ 62) : impl_asBodies_need l = true ∧ impl_asBodies l = match okL l with | true => .inr l | false => .inl () := by
  obtain ⟨a1, a2⟩ := AreBodies_eq l hl
  unfold impl_asBodies_need impl_asBodies impl_asBodies_tree
  cases h : okL l <;> simp only [DT.ok, DT.val, a1, a2, h, Bool.not_true, Bool.not_false] <;> exact ⟨trivial, trivial⟩

/-! ## Pulls -/

theorem vec_eta (v : Vec) : (⟨v.X, v.Y, v.Z⟩ : Vec) = v := rfl
theorem body_eta (b : Body) : (⟨⟨b.At.X, b.At.Y, b.At.Z⟩, ⟨b.Speed.X, b.Speed.Y, b.Speed.Z⟩, b.Mass⟩ : Body) = b := rfl

/-- The pull of the first bodies. -/
noncomputable def pullF (l : List Body) (i : Int) (v : Vec) (c : Nat) : Nat → Vec
  | 0 => ⟨0, 0, 0⟩
  | j + 1 => match (((j : Nat) : Int) != i) && fgt .f32 (impl_softened (impl_LessVectors (l.getD j default).At v) c) 0 with
    | true => impl_AddVectors (pullF l i v c j) (impl_ScaleVector (impl_LessVectors (l.getD j default).At v) (fdiv .f32 (l.getD j default).Mass (fmul .f32 (impl_softened (impl_LessVectors (l.getD j default).At v) c) (rootN (impl_softened (impl_LessVectors (l.getD j default).At v) c)))))
    | false => pullF l i v c j

theorem pull_eq (l : List Body) (hl : l.length ≤ 2 ^ 40) (i : Int) (v : Vec) (c : Nat) : impl_pull_need l i v c = true ∧ impl_pull l i v c = pullF l i v c l.length := by
  obtain ⟨e1, e2⟩ := loop_post (step := impl_pull_loop0_step (i, c, l, ((l.length : Nat) : Int), v.X, v.Y, v.Z, 0, 0, 0)) (fun s => ∃ j : Nat, j ≤ l.length ∧ s = (((j : Nat) : Int), (pullF l i v c j).X, (pullF l i v c j).Y, (pullF l i v c j).Z)) (fun s => l.length - s.1.toNat) (fun r => r = ((pullF l i v c l.length).X, (pullF l i v c l.length).Y, (pullF l i v c l.length).Z)) (by
    rintro s ⟨j, hj, rfl⟩
    rcases Nat.lt_or_ge j l.length with hlt | hge
    · have hm : l.length - ((j + 1 : Nat) : Int).toNat < l.length - ((j : Nat) : Int).toNat := by
        rw [Int.toNat_natCast, Int.toNat_natCast]
        omega
      have hw := nat_next hlt (by omega)
      refine ⟨.inl (((j + 1 : Nat) : Int), (pullF l i v c (j + 1)).X, (pullF l i v c (j + 1)).Y, (pullF l i v c (j + 1)).Z), [0, 1, 2], ?_, ⟨j + 1, hlt, rfl⟩, hm⟩
      unfold impl_pull_loop0_step
      cases h3 : (((j : Nat) : Int) != i) with
      | false =>
        have e : pullF l i v c (j + 1) = pullF l i v c j := by
          show (match (((j : Nat) : Int) != i) && _ with | true => _ | false => _) = _
          rw [h3]
          rfl
        rw [e]
        simp only [DT.get, nat_dec hlt, nat_ge, Bool.and_self, h3, hw]
      | true =>
        cases h4 : fgt .f32 (impl_softened (impl_LessVectors (l.getD j default).At v) c) 0 with
        | false =>
          have e : pullF l i v c (j + 1) = pullF l i v c j := by
            show (match (((j : Nat) : Int) != i) && fgt .f32 (impl_softened (impl_LessVectors (l.getD j default).At v) c) 0 with | true => _ | false => _) = _
            rw [h3, h4]
            rfl
          rw [e]
          simp only [DT.get, nat_dec hlt, nat_ge, Bool.and_self, h3, hw, Int.toNat_natCast, vec_eta, h4]
        | true =>
          have e : pullF l i v c (j + 1) = impl_AddVectors (pullF l i v c j) (impl_ScaleVector (impl_LessVectors (l.getD j default).At v) (fdiv .f32 (l.getD j default).Mass (fmul .f32 (impl_softened (impl_LessVectors (l.getD j default).At v) c) (rootN (impl_softened (impl_LessVectors (l.getD j default).At v) c))))) := by
            show (match (((j : Nat) : Int) != i) && fgt .f32 (impl_softened (impl_LessVectors (l.getD j default).At v) c) 0 with | true => _ | false => _) = _
            rw [h3, h4]
            rfl
          rw [e]
          simp only [DT.get, nat_dec hlt, nat_ge, Bool.and_self, h3, hw, Int.toNat_natCast, vec_eta, h4, Root_need, Root_val]
    · have he : j = l.length := Nat.le_antisymm hj hge
      subst he
      refine ⟨.inr ((pullF l i v c l.length).X, (pullF l i v c l.length).Y, (pullF l i v c l.length).Z), [1, 2], ?_, rfl⟩
      unfold impl_pull_loop0_step
      simp only [DT.get, nat_not]) (0, 0, 0, 0) ⟨0, Nat.zero_le _, rfl⟩
  have e1 : impl_pull_loop0_ends (i, c, l, ((l.length : Nat) : Int), v.X, v.Y, v.Z, 0, 0, 0) (0, 0, 0, 0) = true := e1
  have e2 : impl_pull_loop0 (i, c, l, ((l.length : Nat) : Int), v.X, v.Y, v.Z, 0, 0, 0) (0, 0, 0, 0) = _ := e2
  have key : (impl_pull_tree l i v c).get = some (pullF l i v c l.length) := by
    unfold impl_pull_tree
    simp only [DT.get, e1, e2]
  exact DT.of_get key

noncomputable def forceV (l : List Body) (c : Nat) (j : Nat) : Vec := pullF l ((j : Nat) : Int) (l.getD j default).At c l.length
noncomputable def forceL (l : List Body) (c : Nat) : List Vec := (List.range l.length).map (forceV l c)

theorem forceL_len (l : List Body) (c : Nat) : (forceL l c).length = l.length := by unfold forceL; simp
theorem forceL_get {l : List Body} {c j : Nat} (hj : j < l.length) : (forceL l c).getD j default = forceV l c j := getD_range hj

theorem pulls_eq (l : List Body) (hl : l.length ≤ 2 ^ 40) (c : Nat) : impl_pulls_need l c = true ∧ ((impl_pulls l c = .inl () ∧ ∃ j, j < l.length ∧ finV (forceV l c j) = false) ∨ (impl_pulls l c = .inr (forceL l c) ∧ ∀ j, j < l.length → finV (forceV l c j) = true)) := by
  obtain ⟨e1, e2⟩ := loop_post (step := impl_pulls_loop0_step (l, c, l, ((l.length : Nat) : Int))) (fun s => ∃ j : Nat, j ≤ l.length ∧ s = (((j : Nat) : Int), (List.range j).map (forceV l c)) ∧ ∀ q, q < j → finV (forceV l c q) = true) (fun s => l.length - s.1.toNat) (fun r => (r = .inl () ∧ ∃ j, j < l.length ∧ finV (forceV l c j) = false) ∨ (r = .inr (forceL l c) ∧ ∀ j, j < l.length → finV (forceV l c j) = true)) (by
    rintro s ⟨j, hj, rfl, hq⟩
    rcases Nat.lt_or_ge j l.length with hlt | hge
    · have hm : l.length - ((j + 1 : Nat) : Int).toNat < l.length - ((j : Nat) : Int).toNat := by
        rw [Int.toNat_natCast, Int.toNat_natCast]
        omega
      have hw := nat_next hlt (by omega)
      have hlen : ((List.range j).map (forceV l c)).length = j := by simp
      have hb1 : decide ((j + 1) * 12 ≤ 140737488355328) = true := decide_eq_true (by omega)
      have hb2 : decide (j + 1 ≤ 9223372036854775807) = true := decide_eq_true (by omega)
      have hp : impl_pull l ((j : Nat) : Int) (l.getD j default).At c = forceV l c j := (pull_eq l hl _ _ _).2
      cases h3 : finV (forceV l c j) with
      | false =>
        refine ⟨.inr (.inl ()), [], ?_, .inl ⟨rfl, j, hlt, h3⟩⟩
        unfold impl_pulls_loop0_step
        simp only [DT.get, nat_dec hlt, nat_ge, Bool.and_self, Int.toNat_natCast, vec_eta, (pull_eq l hl _ _ _).1, hp, (isFiniteVector_eq _).1, (isFiniteVector_eq _).2, h3, Bool.not_false]
      | true =>
        refine ⟨.inl (((j + 1 : Nat) : Int), (List.range (j + 1)).map (forceV l c)), [169], ?_, ⟨j + 1, hlt, rfl, fun q hq' => ?_⟩, hm⟩
        · unfold impl_pulls_loop0_step
          simp only [DT.get, nat_dec hlt, nat_ge, Bool.and_self, Int.toNat_natCast, vec_eta, (pull_eq l hl _ _ _).1, hp, (isFiniteVector_eq _).1, (isFiniteVector_eq _).2, h3, Bool.not_true, hlen, List.length_singleton, hb1, hb2, hw]
          rw [range_succ]
        · rcases Nat.lt_or_ge q j with g | g
          · exact hq q g
          · rw [show q = j from by omega]; exact h3
    · have he : j = l.length := Nat.le_antisymm hj hge
      subst he
      refine ⟨.inr (.inr (forceL l c)), [0], ?_, .inr ⟨rfl, hq⟩⟩
      unfold impl_pulls_loop0_step
      simp only [DT.get, nat_not]
      rfl) (0, []) ⟨0, Nat.zero_le _, rfl, fun q hq => absurd hq (Nat.not_lt_zero q)⟩
  have e1 : impl_pulls_loop0_ends (l, c, l, ((l.length : Nat) : Int)) (0, []) = true := e1
  have e2 : (impl_pulls_loop0 (l, c, l, ((l.length : Nat) : Int)) (0, []) = .inl () ∧ ∃ j, j < l.length ∧ finV (forceV l c j) = false) ∨ (impl_pulls_loop0 (l, c, l, ((l.length : Nat) : Int)) (0, []) = .inr (forceL l c) ∧ ∀ j, j < l.length → finV (forceV l c j) = true) := e2
  rcases e2 with ⟨e2, e3⟩ | ⟨e2, e3⟩
  · have key : (impl_pulls_tree l c).get = some (.inl ()) := by
      unfold impl_pulls_tree
      simp only [DT.get, e1, e2, isL]
    obtain ⟨k1, k2⟩ := DT.of_get key
    exact ⟨k1, .inl ⟨k2, e3⟩⟩
  · have key : (impl_pulls_tree l c).get = some (.inr (forceL l c)) := by
      unfold impl_pulls_tree
      simp only [DT.get, e1, e2, isL, rightD]
    obtain ⟨k1, k2⟩ := DT.of_get key
    exact ⟨k1, .inr ⟨k2, e3⟩⟩

theorem pulls_len {l : List Body} (hl : l.length ≤ 2 ^ 40) {c : Nat} {f : List Vec} (h : impl_pulls l c = .inr f) : f = forceL l c ∧ f.length = l.length := by
  obtain ⟨-, ⟨e, -⟩ | ⟨e, -⟩⟩ := pulls_eq l hl c
  · rw [e] at h; cases h
  · rw [e] at h
    cases h
    exact ⟨rfl, forceL_len l c⟩

theorem PullsOf_eq (l : List Body) (c : Nat) (hl : l.length ≤ 2 ^ 40) : impl_PullsOf_need l c = true ∧ impl_PullsOf l c = match okL l && leastB c with
    | false => .inl ()
    | true => impl_pulls l c := by
  obtain ⟨a1, a2⟩ := AreBodies_eq l (by omega)
  obtain ⟨p1, -⟩ := pulls_eq l hl c
  have hc := isCore_eq c
  unfold impl_PullsOf_need impl_PullsOf impl_PullsOf_tree
  cases h1 : okL l with
  | false =>
    simp only [DT.ok, DT.val, a1, a2, h1, Bool.not_false, Bool.false_and]
    exact ⟨trivial, trivial⟩
  | true =>
    cases h2 : leastB c with
    | false =>
      simp only [DT.ok, DT.val, a1, a2, h1, Bool.not_true, hc.1, hc.2, h2, Bool.not_false, Bool.and_false]
      exact ⟨trivial, trivial⟩
    | true =>
      simp only [DT.ok, DT.val, a1, a2, h1, Bool.not_true, hc.1, hc.2, h2, p1, Bool.and_self]
      cases impl_pulls l c <;> simp only [isL, rightD] <;> exact ⟨trivial, trivial⟩

/-! ## Pushes -/

def kicked (b : Body) (f : Vec) (h : Nat) : Body := ⟨b.At, impl_AddVectors b.Speed (impl_ScaleVector f h), b.Mass⟩
def kickL (l : List Body) (f : List Vec) (h : Nat) : List Body := (List.range l.length).map fun j => kicked (l.getD j default) (f.getD j default) h
def moved (b : Body) (t : Nat) : Body := ⟨impl_AddVectors b.At (impl_ScaleVector b.Speed t), b.Speed, b.Mass⟩
def moveL (l : List Body) (t : Nat) : List Body := (List.range l.length).map fun j => moved (l.getD j default) t

theorem kickL_len (l : List Body) (f : List Vec) (h : Nat) : (kickL l f h).length = l.length := by unfold kickL; simp
theorem moveL_len (l : List Body) (t : Nat) : (moveL l t).length = l.length := by unfold moveL; simp
theorem kickL_get {l : List Body} {f : List Vec} {h j : Nat} (hj : j < l.length) : (kickL l f h).getD j default = kicked (l.getD j default) (f.getD j default) h := getD_range hj
theorem moveL_get {l : List Body} {t j : Nat} (hj : j < l.length) : (moveL l t).getD j default = moved (l.getD j default) t := getD_range hj

theorem push_loop (l : List Body) (f : List Vec) (h : Nat) (hl : l.length ≤ 2 ^ 40) (hf : f.length = l.length) : impl_pushed_loop0_ends (h, l, ((l.length : Nat) : Int), f) (0, []) = true ∧ impl_pushed_loop0 (h, l, ((l.length : Nat) : Int), f) (0, []) = kickL l f h := by
  obtain ⟨h1, h2⟩ := loop_post (step := impl_pushed_loop0_step (h, l, ((l.length : Nat) : Int), f)) (fun s => ∃ j : Nat, s.1 = (j : Int) ∧ j ≤ l.length ∧ s.2.length = j ∧ ∀ q, q < j → s.2.getD q default = kicked (l.getD q default) (f.getD q default) h) (fun s => l.length - s.1.toNat) (fun r => r = kickL l f h) (by
    rintro ⟨a, o⟩ ⟨j, hj, hjl, ho, hq⟩
    simp only at hj ho hq
    subst hj
    rcases Nat.lt_or_ge j l.length with hlt | hge
    · have hm : l.length - ((j + 1 : Nat) : Int).toNat < l.length - ((j : Nat) : Int).toNat := by
        rw [Int.toNat_natCast, Int.toNat_natCast]
        omega
      have hw := nat_next hlt (by omega)
      have hlf : j < f.length := by omega
      have hb1 : decide ((List.length o + 1) * 28 ≤ 140737488355328) = true := decide_eq_true (by omega)
      have hb2 : decide (List.length o + 1 ≤ 9223372036854775807) = true := decide_eq_true (by omega)
      refine ⟨.inl (((j + 1 : Nat) : Int), o ++ [kicked (l.getD j default) (f.getD j default) h]), [0, 186], ?_, ⟨j + 1, rfl, hlt, by rw [List.length_append, ho]; rfl, fun q hq' => ?_⟩, hm⟩
      · unfold impl_pushed_loop0_step
        simp only [DT.get, nat_dec hlt, nat_dec hlf, nat_ge, Bool.and_self, Int.toNat_natCast, decide_eq_true hlf, List.length_singleton, hb1, hb2, hw]
        rfl
      · rcases Nat.lt_or_ge q j with g | g
        · rw [List.getD_eq_getElem?_getD, List.getElem?_append_left (by omega), ← List.getD_eq_getElem?_getD]
          exact hq q g
        · have : q = j := by omega
          subst this
          rw [List.getD_eq_getElem?_getD, List.getElem?_append_right (by omega)]
          simp [ho]
    · have he : j = l.length := Nat.le_antisymm hjl hge
      refine ⟨.inr o, [1], ?_, ?_⟩
      · unfold impl_pushed_loop0_step
        simp only [DT.get, he, nat_not]
      · exact eq_of_getD (by omega) (fun q hq' => hq q (by omega))) (0, []) ⟨0, rfl, Nat.zero_le _, rfl, fun q hq => absurd hq (Nat.not_lt_zero q)⟩
  exact ⟨h1, h2⟩

theorem move_loop (l : List Body) (c t h : Nat) (hl : l.length ≤ 2 ^ 40) : impl_StepBodies_loop0_ends (c, t, h, ((l.length : Nat) : Int)) (0, l) = true ∧ impl_StepBodies_loop0 (c, t, h, ((l.length : Nat) : Int)) (0, l) = moveL l t := by
  obtain ⟨h1, h2⟩ := loop_post (step := impl_StepBodies_loop0_step (c, t, h, ((l.length : Nat) : Int))) (fun s => ∃ j : Nat, s.1 = (j : Int) ∧ j ≤ l.length ∧ s.2.length = l.length ∧ (∀ q, q < j → s.2.getD q default = moved (l.getD q default) t) ∧ ∀ q, j ≤ q → s.2.getD q default = l.getD q default) (fun s => l.length - s.1.toNat) (fun r => r = moveL l t) (by
    rintro ⟨a, o⟩ ⟨j, hj, hjl, ho, hq, hr⟩
    simp only at hj ho hq hr
    subst hj
    rcases Nat.lt_or_ge j l.length with hlt | hge
    · have hm : l.length - ((j + 1 : Nat) : Int).toNat < l.length - ((j : Nat) : Int).toNat := by
        rw [Int.toNat_natCast, Int.toNat_natCast]
        omega
      have hw := nat_next hlt (by omega)
      have hlo : j < o.length := by omega
      have hrj := hr j (Nat.le_refl _)
      refine ⟨.inl (((j + 1 : Nat) : Int), List.set o j (moved (l.getD j default) t)), [0], ?_, ⟨j + 1, rfl, hlt, by rw [List.length_set, ho], fun q hq' => ?_, fun q hq' => ?_⟩, hm⟩
      · unfold impl_StepBodies_loop0_step
        simp only [DT.get, nat_dec hlt, nat_dec hlo, nat_ge, Bool.and_self, Int.toNat_natCast, decide_eq_true hlo, hw, hrj]
        rfl
      · rcases Nat.lt_or_ge q j with g | g
        · rw [getD_set_ne (by omega)]
          exact hq q g
        · rw [show q = j from by omega, getD_set hlo]
      · rw [getD_set_ne (by omega)]
        exact hr q (by omega)
    · have he : j = l.length := Nat.le_antisymm hjl hge
      refine ⟨.inr o, [0], ?_, ?_⟩
      · unfold impl_StepBodies_loop0_step
        simp only [DT.get, he, nat_not]
      · exact eq_of_getD ho (fun q hq' => hq q (by omega))) (0, l) ⟨0, rfl, Nat.zero_le _, rfl, fun q hq => absurd hq (Nat.not_lt_zero q), fun q _ => rfl⟩
  exact ⟨h1, h2⟩

/-! ## Steps -/

noncomputable def halfT (t : Nat) : Nat := fdiv .f32 t 1073741824

/-- A step, in plain words. -/
noncomputable def stepP (l : List Body) (c t : Nat) : Unit ⊕ List Body := match impl_pulls l c with
  | .inl _ => .inl ()
  | .inr f =>
    match okL (moveL (kickL l f (halfT t)) t) with
    | false => .inl ()
    | true => match impl_pulls (moveL (kickL l f (halfT t)) t) c with
      | .inl _ => .inl ()
      | .inr g => match okL (kickL (moveL (kickL l f (halfT t)) t) g (halfT t)) with
        | false => .inl ()
        | true => .inr (kickL (moveL (kickL l f (halfT t)) t) g (halfT t))

/-- Bodies that are pushed: nothing, or those. -/
theorem pushed_eq (l : List Body) (c h : Nat) (hl : l.length ≤ 2 ^ 40) : impl_pushed_need l c h = true ∧ match okL l && leastB c with
    | false => impl_pushed l c h = .inl () ∨ impl_pushed l c h = .inr ([], false)
    | true => match impl_pulls l c with
      | .inl _ => impl_pushed l c h = .inl () ∨ impl_pushed l c h = .inr ([], false)
      | .inr f => impl_pushed l c h = .inr (kickL l f h, true) := by
  obtain ⟨u1, u2⟩ := PullsOf_eq l c hl
  have nope : impl_PullsOf l c = .inl () → impl_pushed_need l c h = true ∧ (impl_pushed l c h = .inl () ∨ impl_pushed l c h = .inr ([], false)) := fun hn => by
    unfold impl_pushed_need impl_pushed impl_pushed_tree
    by_cases hpos : 0 < l.length
    · have d1 : decide ((0 : Int) < ((l.length : Nat) : Int)) = true := decide_eq_true (by omega)
      have d2 : decide ((0 : Int) ≤ 0) = true := rfl
      have d3 : decide ((0 : Nat) ≤ 0) = true := rfl
      simp only [DT.ok, DT.val, u1, hn, isL, d1, d2, d3, Bool.and_self]
      exact ⟨trivial, .inl trivial⟩
    · have d1 : decide ((0 : Int) < ((l.length : Nat) : Int)) = false := decide_eq_false (by omega)
      simp only [DT.ok, DT.val, u1, hn, isL, d1]
      exact ⟨trivial, .inr trivial⟩
  cases hc : okL l && leastB c with
  | false =>
    rw [hc] at u2
    exact nope u2
  | true =>
    rw [hc] at u2
    simp only at u2
    cases hp : impl_pulls l c with
    | inl u => exact nope (u2.trans hp)
    | inr f =>
      obtain ⟨k1, k2⟩ := push_loop l f h hl (pulls_len hl hp).2
      rw [hp] at u2
      unfold impl_pushed_need impl_pushed impl_pushed_tree
      simp only [DT.ok, DT.val, u1, u2, isL, rightD, k1, k2]
      exact ⟨trivial, trivial⟩

/-- A step of the program. -/
theorem step_impl (l : List Body) (c t : Nat) (hl : l.length ≤ 2 ^ 40) : impl_StepBodies_need l c t = true ∧ impl_StepBodies l c t = match isNum .f32 t && (okL l && leastB c) with
    | false => .inl ()
    | true => stepP l c t := by
  cases ht : isNum .f32 t with
  | false =>
    unfold impl_StepBodies_need impl_StepBodies impl_StepBodies_tree
    simp only [DT.ok, DT.val, IsFinite_need, IsFinite_eq, ht, Bool.not_false, Bool.false_and]
    exact ⟨trivial, trivial⟩
  | true =>
    obtain ⟨u1, u2⟩ := pushed_eq l c (halfT t) hl
    have eh : fdiv .f32 t 1073741824 = halfT t := rfl
    have bad : (impl_pushed l c (halfT t) = .inl () ∨ impl_pushed l c (halfT t) = .inr ([], false)) → impl_StepBodies_need l c t = true ∧ impl_StepBodies l c t = .inl () := fun hb => by
      unfold impl_StepBodies_need impl_StepBodies impl_StepBodies_tree
      rcases hb with hb | hb
      · simp only [DT.ok, DT.val, IsFinite_need, IsFinite_eq, ht, Bool.not_true, eh, u1, hb, isL]
        exact ⟨trivial, trivial⟩
      · simp only [DT.ok, DT.val, IsFinite_need, IsFinite_eq, ht, Bool.not_true, eh, u1, hb, isL, rightD, Bool.not_false]
        exact ⟨trivial, trivial⟩
    cases hc : okL l && leastB c with
    | false =>
      rw [hc] at u2
      exact bad u2
    | true =>
      rw [hc] at u2
      simp only at u2
      rw [Bool.and_eq_true] at hc
      unfold stepP
      cases hp : impl_pulls l c with
      | inl u =>
        rw [hp] at u2
        exact bad u2
      | inr f =>
        rw [hp] at u2
        simp only at u2
        have hkl : (kickL l f (halfT t)).length ≤ 2 ^ 40 := by rw [kickL_len]; exact hl
        obtain ⟨m1, m2⟩ := move_loop (kickL l f (halfT t)) c t (halfT t) hkl
        have hml : (moveL (kickL l f (halfT t)) t).length ≤ 2 ^ 40 := by rw [moveL_len]; exact hkl
        obtain ⟨v1, v2⟩ := pushed_eq (moveL (kickL l f (halfT t)) t) c (halfT t) hml
        have bad2 : (impl_pushed (moveL (kickL l f (halfT t)) t) c (halfT t) = .inl () ∨ impl_pushed (moveL (kickL l f (halfT t)) t) c (halfT t) = .inr ([], false)) → impl_StepBodies_need l c t = true ∧ impl_StepBodies l c t = .inl () := fun hb => by
          unfold impl_StepBodies_need impl_StepBodies impl_StepBodies_tree
          rcases hb with hb | hb
          · simp only [DT.ok, DT.val, IsFinite_need, IsFinite_eq, ht, Bool.not_true, eh, u1, u2, isL, rightD, m1, m2, v1, hb]
            exact ⟨trivial, trivial⟩
          · simp only [DT.ok, DT.val, IsFinite_need, IsFinite_eq, ht, Bool.not_true, eh, u1, u2, isL, rightD, m1, m2, v1, hb, Bool.not_false]
            exact ⟨trivial, trivial⟩
        simp only [Bool.and_self]
        cases hm : okL (moveL (kickL l f (halfT t)) t) with
        | false =>
          rw [hm, Bool.false_and] at v2
          exact bad2 v2
        | true =>
          rw [hm, hc.2, Bool.and_self] at v2
          simp only at v2
          cases hg : impl_pulls (moveL (kickL l f (halfT t)) t) c with
          | inl u =>
            rw [hg] at v2
            exact bad2 v2
          | inr g =>
            rw [hg] at v2
            simp only at v2
            obtain ⟨g1, g2⟩ := asBodies_any (kickL (moveL (kickL l f (halfT t)) t) g (halfT t)) (by rw [kickL_len]; omega)
            unfold impl_StepBodies_need impl_StepBodies impl_StepBodies_tree
            cases hk : okL (kickL (moveL (kickL l f (halfT t)) t) g (halfT t)) <;> rw [hk] at g2 <;> simp only [DT.ok, DT.val, IsFinite_need, IsFinite_eq, ht, Bool.not_true, eh, u1, u2, isL, rightD, m1, m2, v1, v2, g1, g2, hk] <;> exact ⟨trivial, trivial⟩

theorem stepP_ok {l r : List Body} {c t : Nat} (h : stepP l c t = .inr r) : okL r = true ∧ r.length = l.length := by
  unfold stepP at h
  split at h
  · cases h
  · split at h
    · cases h
    · split at h
      · cases h
      · split at h
        · cases h
        · rename_i hk
          cases h
          exact ⟨hk, by rw [kickL_len, moveL_len, kickL_len]⟩

/-- A step that comes to pass. -/
theorem stepP_good {l : List Body} {c t : Nat} (hl : l.length ≤ 16) (h1 : ∀ j, j < l.length → finV (forceV l c j) = true) (h2 : okL (moveL (kickL l (forceL l c) (halfT t)) t) = true) (h3 : ∀ j, j < l.length → finV (forceV (moveL (kickL l (forceL l c) (halfT t)) t) c j) = true)
    (h4 : okL (kickL (moveL (kickL l (forceL l c) (halfT t)) t) (forceL (moveL (kickL l (forceL l c) (halfT t)) t) c) (halfT t)) = true) : stepP l c t = .inr (kickL (moveL (kickL l (forceL l c) (halfT t)) t) (forceL (moveL (kickL l (forceL l c) (halfT t)) t) c) (halfT t)) := by
  have p1 : impl_pulls l c = .inr (forceL l c) := by
    obtain ⟨-, ⟨-, j, hj, hf⟩ | ⟨e, -⟩⟩ := pulls_eq l (by omega) c
    · rw [h1 j hj] at hf; cases hf
    · exact e
  have p2 : impl_pulls (moveL (kickL l (forceL l c) (halfT t)) t) c = .inr (forceL (moveL (kickL l (forceL l c) (halfT t)) t) c) := by
    obtain ⟨-, ⟨-, j, hj, hf⟩ | ⟨e, -⟩⟩ := pulls_eq (moveL (kickL l (forceL l c) (halfT t)) t) (by rw [moveL_len, kickL_len]; omega) c
    · rw [moveL_len, kickL_len] at hj
      rw [h3 j hj] at hf; cases hf
    · exact e
  unfold stepP
  simp only [p1, h2, p2, h4]

/-! ## Many steps -/

noncomputable def stateP (l : List Body) (c t : Nat) : Nat → Unit ⊕ List Body
  | 0 => .inr l
  | k + 1 => match stateP l c t k with
    | .inl _ => .inl ()
    | .inr r => stepP r c t

theorem stateP_ok {l : List Body} {c t : Nat} (hl : okL l = true) : ∀ {k : Nat} {r : List Body}, stateP l c t k = .inr r → okL r = true ∧ r.length = l.length
  | 0, r, h => by cases h; exact ⟨hl, rfl⟩
  | k + 1, r, h => by
    unfold stateP at h
    cases hk : stateP l c t k with
    | inl u => rw [hk] at h; cases h
    | inr q =>
      rw [hk] at h
      obtain ⟨a, b⟩ := stateP_ok hl hk
      obtain ⟨x, y⟩ := stepP_ok h
      exact ⟨x, y.trans b⟩

theorem stateP_stop {l : List Body} {c t : Nat} {k : Nat} (h : stateP l c t k = .inl ()) : ∀ n, k ≤ n → stateP l c t n = .inl ()
  | 0, hn => by rw [show k = 0 by omega] at h; exact h
  | n + 1, hn => by
    rcases Nat.lt_or_ge n k with g | g
    · rw [show n + 1 = k by omega]; exact h
    · unfold stateP
      rw [stateP_stop h n g]

theorem run_eq (l : List Body) (c t : Nat) (n : Nat) (hn : n ≤ 64) (hl : okL l = true) (hc : leastB c = true) (ht : isNum .f32 t = true) : impl_RunBodies_need l c t ((n : Nat) : Int) = true ∧ impl_RunBodies l c t ((n : Nat) : Int) = stateP l c t n := by
  have h16 := okL_len hl
  obtain ⟨e1, e2⟩ := loop_post (step := impl_RunBodies_loop0_step (c, t, ((n : Nat) : Int))) (fun s => ∃ k : Nat, k ≤ n ∧ s.1 = (k : Int) ∧ stateP l c t k = .inr s.2) (fun s => n - s.1.toNat) (fun r => r = stateP l c t n) (by
    rintro ⟨i, o⟩ ⟨k, hk, hi, ho⟩
    simp only at hi ho
    subst hi
    rcases Nat.lt_or_ge k n with hlt | hge
    · have hm : n - ((k + 1 : Nat) : Int).toNat < n - ((k : Nat) : Int).toNat := by
        rw [Int.toNat_natCast, Int.toNat_natCast]
        omega
      obtain ⟨o1, o2⟩ := stateP_ok hl ho
      obtain ⟨s1, s2⟩ := step_impl o c t (by omega)
      rw [ht, o1, hc] at s2
      have hs : stateP l c t (k + 1) = stepP o c t := by
        show (match stateP l c t k with | .inl _ => (.inl () : Unit ⊕ List Body) | .inr r => stepP r c t) = _
        rw [ho]
      have hd : decide (((k : Nat) : Int) < ((n : Nat) : Int)) = true := nat_dec hlt
      have hw : IntKind.wrap .i64 (((k : Nat) : Int) + 1) = ((k + 1 : Nat) : Int) := nat_next hlt (by omega)
      cases hq : stepP o c t with
      | inl u =>
        rw [hq] at s2 hs
        refine ⟨.inr (.inl ()), [], ?_, (stateP_stop hs n hlt).symm⟩
        unfold impl_RunBodies_loop0_step
        simp only [DT.get, hd, s1, s2, Bool.and_self, isL]
      | inr r =>
        rw [hq] at s2 hs
        refine ⟨.inl (((k + 1 : Nat) : Int), r), [33], ?_, ⟨k + 1, hlt, rfl, hs⟩, hm⟩
        unfold impl_RunBodies_loop0_step
        simp only [DT.get, hd, s1, s2, Bool.and_self, isL, rightD, hw]
    · have he : k = n := Nat.le_antisymm hk hge
      subst he
      refine ⟨.inr (.inr o), [0], ?_, ho.symm⟩
      unfold impl_RunBodies_loop0_step
      simp only [DT.get, nat_not]) (0, l) ⟨0, Nat.zero_le _, rfl, rfl⟩
  have e1 : impl_RunBodies_loop0_ends (c, t, ((n : Nat) : Int)) (0, l) = true := e1
  have e2 : impl_RunBodies_loop0 (c, t, ((n : Nat) : Int)) (0, l) = stateP l c t n := e2
  obtain ⟨a1, a2⟩ := AreBodies_eq l (by omega)
  have hcc := isCore_eq c
  have hwi : impl_within ((n : Nat) : Int) 0 64 = true := by
    unfold impl_within impl_within_tree
    rw [decide_eq_true (show (0 : Int) ≤ ((n : Nat) : Int) by omega), decide_eq_true (show ((n : Nat) : Int) ≤ 64 by omega)]
    rfl
  have hb1 : decide ((0 + List.length l) * 28 ≤ 140737488355328) = true := decide_eq_true (by omega)
  have hb2 : decide (0 + List.length l ≤ 9223372036854775807) = true := decide_eq_true (by omega)
  have key : (impl_RunBodies_tree l c t ((n : Nat) : Int)).get = some (stateP l c t n) := by
    unfold impl_RunBodies_tree
    cases hst : stateP l c t n with
    | inl u => simp only [DT.get, a1, a2, hl, hcc.1, hcc.2, hc, IsFinite_need, IsFinite_eq, ht, hwi, Bool.not_true, List.length_nil, hb1, hb2, Bool.and_self, List.nil_append, e1, e2, hst, isL]
    | inr r => simp only [DT.get, a1, a2, hl, hcc.1, hcc.2, hc, IsFinite_need, IsFinite_eq, ht, hwi, Bool.not_true, List.length_nil, hb1, hb2, Bool.and_self, List.nil_append, e1, e2, hst, isL, rightD]
  exact DT.of_get key

end Go.Proofs.Ytilfdpllleninaa
