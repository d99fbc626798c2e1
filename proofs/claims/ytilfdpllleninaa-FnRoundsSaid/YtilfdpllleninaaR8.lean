/- The plain law of FnRounds, part 8: momentum, bounds, polygons. -/
import Derived.Test.YtilfdpllleninaaR7
import Derived.Test.YtilfdpllleninaaOp2
namespace Go.Proofs.Ytilfdpllleninaa
open Ieee
set_option linter.unusedVariables false
set_option linter.unusedSimpArgs false

/-! ## Momentum -/

noncomputable def momF (l : List Body) : Nat → Vec
  | 0 => ⟨0, 0, 0⟩
  | j + 1 => impl_AddVectors (momF l j) (impl_ScaleVector (l.getD j default).Speed (l.getD j default).Mass)

theorem mom_loop (l : List Body) (hl : l.length ≤ 2 ^ 40) : impl_vectorsOf_impl_MomentumOfBodies_1_need l = true ∧ impl_vectorsOf_impl_MomentumOfBodies_1 l = momF l l.length := by
  obtain ⟨e1, e2⟩ := loop_post (step := impl_vectorsOf_impl_MomentumOfBodies_1_loop0_step (l, ((l.length : Nat) : Int), 0, 0, 0)) (fun s => ∃ j : Nat, j ≤ l.length ∧ s = (((j : Nat) : Int), (momF l j).X, (momF l j).Y, (momF l j).Z)) (fun s => l.length - s.1.toNat) (fun r => r = ((momF l l.length).X, (momF l l.length).Y, (momF l l.length).Z)) (by
    rintro s ⟨j, hj, rfl⟩
    rcases Nat.lt_or_ge j l.length with hlt | hge
    · have hm : l.length - ((j + 1 : Nat) : Int).toNat < l.length - ((j : Nat) : Int).toNat := by
        rw [Int.toNat_natCast, Int.toNat_natCast]
        omega
      refine ⟨.inl (((j + 1 : Nat) : Int), (momF l (j + 1)).X, (momF l (j + 1)).Y, (momF l (j + 1)).Z), [0, 1], ?_, ⟨j + 1, hlt, rfl⟩, hm⟩
      unfold impl_vectorsOf_impl_MomentumOfBodies_1_loop0_step
      have e : ∀ b : Body, impl_MomentumOfBodies_1 b = impl_ScaleVector b.Speed b.Mass := fun _ => rfl
      simp only [DT.get, nat_dec hlt, nat_ge, Bool.and_self, Int.toNat_natCast, e, vec_eta, nat_next hlt (by omega)]
      rfl
    · have he : j = l.length := Nat.le_antisymm hj hge
      subst he
      refine ⟨.inr ((momF l l.length).X, (momF l l.length).Y, (momF l l.length).Z), [0, 1], ?_, rfl⟩
      unfold impl_vectorsOf_impl_MomentumOfBodies_1_loop0_step
      simp only [DT.get, nat_not]) (0, 0, 0, 0) ⟨0, Nat.zero_le _, rfl⟩
  have e1 : impl_vectorsOf_impl_MomentumOfBodies_1_loop0_ends (l, ((l.length : Nat) : Int), 0, 0, 0) (0, 0, 0, 0) = true := e1
  have e2 : impl_vectorsOf_impl_MomentumOfBodies_1_loop0 (l, ((l.length : Nat) : Int), 0, 0, 0) (0, 0, 0, 0) = _ := e2
  have key : (impl_vectorsOf_impl_MomentumOfBodies_1_tree l).get = some (momF l l.length) := by
    unfold impl_vectorsOf_impl_MomentumOfBodies_1_tree
    simp only [DT.get, e1, e2]
  exact DT.of_get key

theorem Mom_eq {m o A : Nat} (h : PairK m o A) : impl_MomentumOfBodies_need (pairL m o A) = true ∧ impl_MomentumOfBodies (pairL m o A) = (momV m o A, true) ∧ fgt .f32 (impl_SizeOfVector (momV m o A)) 981668463 = false := by
  have hr := h.rest
  unfold restB at hr
  simp only [Bool.and_eq_true, Bool.not_eq_true'] at hr
  obtain ⟨⟨f, g⟩, -⟩ := hr
  obtain ⟨-, -, hok⟩ := Circ_eq h
  obtain ⟨a1, a2⟩ := AreBodies_eq (pairL m o A) (by show 2 ≤ 2 ^ 62; decide)
  obtain ⟨m1, m2⟩ := mom_loop (pairL m o A) (by show 2 ≤ 2 ^ 40; decide)
  have em : momF (pairL m o A) (pairL m o A).length = momV m o A := rfl
  rw [em] at m2
  obtain ⟨v1, v2⟩ := isFiniteVector_eq (momV m o A)
  rw [f] at v2
  have t : impl_toldVector_need (momV m o A) = true ∧ impl_toldVector (momV m o A) = (momV m o A, true) := by
    have key : (impl_toldVector_tree (momV m o A)).get = some (momV m o A, true) := by
      unfold impl_toldVector_tree
      simp only [DT.get, vec_eta, v1, v2, Bool.not_true]
    exact DT.of_get key
  have key : (impl_MomentumOfBodies_tree (pairL m o A)).get = some (momV m o A, true) := by
    unfold impl_MomentumOfBodies_tree
    simp only [DT.get, a1, a2, hok, Bool.not_true, m1, m2, vec_eta, t.1, t.2]
  obtain ⟨k1, k2⟩ := DT.of_get key
  exact ⟨k1, k2, by rw [Size_eq]; exact g⟩

/-! ## Bounds -/

theorem indices_eq : impl_areIndices_need 2 [0, 1] = true ∧ impl_areIndices 2 [0, 1] = true := by
  have hin : ∀ i : Nat, i < 2 → impl_areIndices_1 (([0, 1] : List Int).getD i default) 2 = false := fun i hi => by
    rcases two_cases hi with rfl | rfl <;> decide +kernel
  obtain ⟨h1, h2⟩ := scan_loop (α := Int) (β := Unit) (step := slices_IndexFunc___int64_int64__impl_areIndices_1_loop0_step ([0, 1], 2, ((2 : Nat) : Int))) 2 (fun _ => none) () (fun i hi => by
    refine ⟨[], ?_⟩
    unfold slices_IndexFunc___int64_int64__impl_areIndices_1_loop0_step
    have e : decide (((i : Nat) : Int) < (([0, 1] : List Int).length : Nat)) = true := nat_dec hi
    simp only [DT.get, nat_dec hi, nat_ge, e, Bool.and_self, Int.toNat_natCast, hin i hi, nat_next hi (by decide)]) ⟨[], by
    unfold slices_IndexFunc___int64_int64__impl_areIndices_1_loop0_step
    simp only [DT.get, nat_not]⟩
  have hf : firstOf (fun _ : Nat => (none : Option Int)) 2 = none := rfl
  rw [hf] at h2
  have h1 : slices_IndexFunc___int64_int64__impl_areIndices_1_loop0_ends ([0, 1], 2, ((2 : Nat) : Int)) 0 = true := h1
  have h2 : slices_IndexFunc___int64_int64__impl_areIndices_1_loop0 ([0, 1], 2, ((2 : Nat) : Int)) 0 = .inr () := h2
  have el : (([0, 1] : List Int).length : Nat) = 2 := rfl
  have k1 : (slices_IndexFunc___int64_int64__impl_areIndices_1_tree [0, 1] 2).get = some (-1) := by
    unfold slices_IndexFunc___int64_int64__impl_areIndices_1_tree
    simp only [DT.get, el, h1, h2, isL]
  obtain ⟨a1, a2⟩ := DT.of_get k1
  have a1 : slices_IndexFunc___int64_int64__impl_areIndices_1_need [0, 1] 2 = true := a1
  have a2 : slices_IndexFunc___int64_int64__impl_areIndices_1 [0, 1] 2 = -1 := a2
  have d : decide ((-1 : Int) ≥ 0) = false := by decide
  have k2 : (slices_ContainsFunc___int64_int64__impl_areIndices_1_tree [0, 1] 2).get = some false := by
    unfold slices_ContainsFunc___int64_int64__impl_areIndices_1_tree
    simp only [DT.get, a1, a2, d]
  obtain ⟨b1, b2⟩ := DT.of_get k2
  have b1 : slices_ContainsFunc___int64_int64__impl_areIndices_1_need [0, 1] 2 = true := b1
  have b2 : slices_ContainsFunc___int64_int64__impl_areIndices_1 [0, 1] 2 = false := b2
  have k3 : (impl_areIndices_tree 2 [0, 1]).get = some true := by
    unfold impl_areIndices_tree
    simp only [DT.get, b1, b2, Bool.not_false]
  exact DT.of_get k3

theorem Bound_eq {m o A : Nat} (h : PairK m o A) : impl_BoundTo_need (pairL m o A) 0 1 = true ∧ impl_BoundTo (pairL m o A) 0 1 = (true, true) := by
  have hr := h.rest
  unfold restB at hr
  simp only [Bool.and_eq_true, Bool.not_eq_true'] at hr
  obtain ⟨-, n, g⟩ := hr
  obtain ⟨-, -, hok⟩ := Circ_eq h
  obtain ⟨a1, a2⟩ := AreBodies_eq (pairL m o A) (by show 2 ≤ 2 ^ 62; decide)
  have el : (((pairL m o A).length : Nat) : Int) = 2 := rfl
  obtain ⟨i1, i2⟩ := indices_eq
  have d1 : decide ((0 : Int) ≤ 1) = true := by decide
  have d2 : decide ((1 : Int) < 2) = true := by decide
  have d3 : decide ((0 : Int) ≤ 0) = true := by decide
  have d4 : decide ((0 : Int) < 2) = true := by decide
  have d5 : ((0 : Int) == 1) = false := by decide
  have g0 : (pairL m o A).getD (Int.toNat 0) default = ⟨⟨x0W m o A, 0, 0⟩, ⟨0, fmul .f32 (wW m o A) (x0W m o A), 0⟩, m⟩ := rfl
  have g1 : (pairL m o A).getD (Int.toNat 1) default = ⟨⟨x1W m o A, 0, 0⟩, ⟨0, fmul .f32 (wW m o A) (x1W m o A), 0⟩, o⟩ := rfl
  have e1 : impl_LessVectors ⟨x1W m o A, 0, 0⟩ ⟨x0W m o A, 0, 0⟩ = dV m o A := rfl
  have e2 : impl_LessVectors ⟨0, fmul .f32 (wW m o A) (x1W m o A), 0⟩ ⟨0, fmul .f32 (wW m o A) (x0W m o A), 0⟩ = vV m o A := rfl
  have e3 : fsub .f32 (fmul .f32 1056964608 (impl_InnerOf (vV m o A) (vV m o A))) (fdiv .f32 (fadd .f32 m o) (rootN (innerN (dV m o A).X (dV m o A).Y (dV m o A).Z))) = enN m o A := rfl
  have key : (impl_BoundTo_tree (pairL m o A) 0 1).get = some (true, true) := by
    unfold impl_BoundTo_tree
    simp only [a1, a2, hok, Bool.not_true, el, i1, i2, d1, d2, d3, d4, d5, Bool.and_self, g0, g1, e1, e2, vec_eta, Size_need, Size_eq, e3, IsFinite_need, IsFinite_eq, n, g]
    simp only [DT.get]
  exact DT.of_get key

/-! ## Gaps -/

theorem gap8 {x y : Nat} {M : Rat} (hx : isNum .f64 x = true) (hy : isNum .f64 y = true) (h : Nr (R .f64 x) (R .f64 y) M) (hM : M ≤ 1) : laws_r8Gap_need x y = true ∧ isNum .f64 (laws_r8Gap x y) = true ∧ R .f64 (laws_r8Gap x y) ≤ M + 1 / 1000000000 := by
  have hT := T_le
  have hG := Gr_ge
  have h' := h.symm
  have f1 := fsub_fl hx hy (by unfold Nr Bd at *; constructor <;> grind)
  have f2 := fsub_fl hy hx (by unfold Nr Bd at *; constructor <;> grind)
  have e1 := f1.err64 (M := 1) (Bd.mono h hM)
  have e2 := f2.err64 (M := 1) (Bd.mono h' hM)
  obtain ⟨o1, o2, -, -, o3⟩ := fmax_R f1.1 f2.1
  have key : laws_r8Gap_need x y = true ∧ laws_r8Gap x y = fmax .f64 (fsub .f64 x y) (fsub .f64 y x) := by
    have k : (laws_r8Gap_tree x y).get = some (fmax .f64 (fsub .f64 x y) (fsub .f64 y x)) := by
      unfold laws_r8Gap_tree
      simp only [DT.get, o1]
    exact DT.of_get k
  rw [key.2]
  refine ⟨key.1, o2, ?_⟩
  rcases o3 with o3 | o3 <;> rw [o3] <;> unfold Nr at * <;> grind

theorem k_02 : isNum .f64 4581421828931458171 = true ∧ 199 / 10000 ≤ R .f64 4581421828931458171 ∧ R .f64 4581421828931458171 ≤ 201 / 10000 := by decide +kernel

/-- What is near enough. -/
theorem gap_near {x A : Nat} (hx : isNum .f32 x = true) (hA : I .f32 A (some (1, 11 / 4))) (h : Nr (R .f32 x) (R .f32 A) (R .f32 A * (1 / 100))) : laws_r8Gap_need (fconv .f32 x .f64) (fconv .f32 A .f64) = true ∧ fgt .f64 (laws_r8Gap (fconv .f32 x .f64) (fconv .f32 A .f64)) (fmul .f64 4581421828931458171 (fconv .f32 A .f64)) = false := by
  have hT := T_le
  have hG := Gr_ge
  obtain ⟨u1, u2⟩ := up_R hx
  obtain ⟨v1, v2⟩ := up_R hA.1
  have a := hA.2
  obtain ⟨g1, g2, g3⟩ := gap8 (M := R .f32 A * (1 / 100)) u1 v1 (by rw [u2, v2]; exact h) (by grind)
  obtain ⟨c1, c2, c3⟩ := k_02
  have p1 := Rat.mul_le_mul_of_nonneg_right c2 (show 0 ≤ R .f32 A by grind)
  have p2 := Rat.mul_le_mul_of_nonneg_right c3 (show 0 ≤ R .f32 A by grind)
  have b : Bd (R .f64 4581421828931458171 * R .f64 (fconv .f32 A .f64)) 1 := by rw [v2]; unfold Bd; constructor <;> grind
  have f := fmul_fl c1 v1 (b.mono (by grind))
  have e := f.err64 b
  rw [v2] at e
  refine ⟨g1, ?_⟩
  rw [fgt_R g2 f.1]
  exact decide_eq_false (by unfold Nr at e; grind)

/-! ## Polygons -/

def pwW (n A m : Nat) : Nat := rootN (fdiv .f32 (fmul .f32 m (sumN n)) (fmul .f32 (fmul .f32 (fmul .f32 1082130432 A) A) A))
def polyB (n A m : Nat) : Bool := isNum .f32 (pwW n A m) && (decide (1 / 100 ≤ R .f32 (pwW n A m)) && (decide (R .f32 (pwW n A m) ≤ 2176 / 1000) && (decide (R .f32 A * R .f32 (pwW n A m) ≤ 23 / 10) &&
  nearB (R .f32 m * (R .f32 (sumN n) / 4) / (R .f32 A * R .f32 A * R .f32 A) / (64 * R .f32 (pwW n A m))) (R .f32 (pwW n A m) / 64) (4 / 1000000))))
theorem poly_all : ∀ n : Fin 6, ∀ c : Fin 8, ∀ a : Fin 8, polyB (n.val + 2) (aW c.val) (mW a.val) = true := by decide +kernel

def vertex (n A m k : Nat) : Body := ⟨⟨fmul .f32 A (cN n k), fmul .f32 A (sN n k), 0⟩, ⟨fneg .f32 (fmul .f32 (pwW n A m) (fmul .f32 A (sN n k))), fmul .f32 (pwW n A m) (fmul .f32 A (cN n k)), 0⟩, m⟩
def polyL (n A m : Nat) : List Body := (List.range n).map (vertex n A m)

theorem sum_step {n i w2 i' : Int} {A m S q : Nat} (hd : decide (i < n) = true) (hw : IntKind.wrap .i64 (2 * n) = w2) (hq : fdiv .f32 (fofInt .f32 i) (fofInt .f32 w2) = q) (hh : impl_SineTurns_need q = true) (hn : IntKind.wrap .i64 (i + 1) = i') : (impl_PolygonBodies_loop0_step (n, A, m) (S, i)).get = some (.inl (fadd .f32 S (fdiv .f32 1065353216 (impl_SineTurns q)), i'), []) := by
  unfold impl_PolygonBodies_loop0_step
  simp only [DT.get, hd, hw, hq, hh, hn]

theorem vertex_step {n A m w c s : Nat} {acc : List Body} {k k' q : Int} {a : Nat} (hd : decide (k < q) = true) (ha : fdiv .f32 (fofInt .f32 k) (fofInt .f32 (n : Int)) = a) (a1 : impl_SineTurns_need (fadd .f32 a 1048576000) = true) (a2 : impl_SineTurns (fadd .f32 a 1048576000) = c) (a3 : impl_SineTurns_need a = true) (a4 : impl_SineTurns a = s)
    (hr : (decide ((List.length acc + List.length [(⟨⟨fmul .f32 A c, fmul .f32 A s, 0⟩, ⟨fneg .f32 (fmul .f32 w (fmul .f32 A s)), fmul .f32 w (fmul .f32 A c), 0⟩, m⟩ : Body)]) * 28 ≤ 140737488355328) && decide (List.length acc + List.length [(⟨⟨fmul .f32 A c, fmul .f32 A s, 0⟩, ⟨fneg .f32 (fmul .f32 w (fmul .f32 A s)), fmul .f32 w (fmul .f32 A c), 0⟩, m⟩ : Body)] ≤ 9223372036854775807)) = true) (hn : IntKind.wrap .i64 (k + 1) = k') :
    (impl_PolygonBodies_loop1_step ((n : Int), A, m, w, q) (k, acc)).get = some (.inl (k', acc ++ [(⟨⟨fmul .f32 A c, fmul .f32 A s, 0⟩, ⟨fneg .f32 (fmul .f32 w (fmul .f32 A s)), fmul .f32 w (fmul .f32 A c), 0⟩, m⟩ : Body)]), [281]) := by
  unfold impl_PolygonBodies_loop1_step
  simp only [DT.get, hd, ha, a1, a2, a3, a4, hr, hn]

theorem sum_loop {n A m : Nat} (h2 : 2 ≤ n) (h7 : n ≤ 7) : impl_PolygonBodies_loop0_ends (((n : Nat) : Int), A, m) (0, 1) = true ∧ impl_PolygonBodies_loop0 (((n : Nat) : Int), A, m) (0, 1) = sumN n := by
  have hs := (sines_ok h2 h7 (show 0 < n by omega)).2.2
  rw [← hs]
  refine loop_post (step := impl_PolygonBodies_loop0_step (((n : Nat) : Int), A, m)) (fun s => ∃ k : Nat, k + 1 ≤ n ∧ s = (sumF n k, ((k + 1 : Nat) : Int))) (fun s => n - s.2.toNat) (fun r => r = sumF n (n - 1)) ?_ (0, 1) ⟨0, by omega, rfl⟩
  rintro s ⟨k, hk, rfl⟩
  have hw2 : IntKind.wrap .i64 (2 * ((n : Nat) : Int)) = ((2 * n : Nat) : Int) := by rw [wrap_small (by omega) (by omega)]; push_cast; rfl
  rcases Nat.lt_or_ge (k + 1) n with hlt | hge
  · have hm : n - ((k + 1 + 1 : Nat) : Int).toNat < n - ((k + 1 : Nat) : Int).toNat := by
      rw [Int.toNat_natCast, Int.toNat_natCast]
      omega
    have hh : impl_SineTurns_need (argN (2 * n) (k + 1)) = true := (sines_ok h2 h7 hlt).2.1
    have ea : fdiv .f32 (fofInt .f32 ((k + 1 : Nat) : Int)) (fofInt .f32 ((2 * n : Nat) : Int)) = argN (2 * n) (k + 1) := by rw [argN]
    have es : sumF n (k + 1) = fadd .f32 (sumF n k) (fdiv .f32 1065353216 (impl_SineTurns (argN (2 * n) (k + 1)))) := by rw [sumF]
    refine ⟨.inl (sumF n (k + 1), ((k + 1 + 1 : Nat) : Int)), [], ?_, ⟨k + 1, hlt, rfl⟩, hm⟩
    rw [es]
    exact sum_step (nat_dec hlt) hw2 ea hh (nat_next hlt (by omega))
  · have he : k + 1 = n := by omega
    refine ⟨.inr (sumF n (n - 1)), [], ?_, rfl⟩
    unfold impl_PolygonBodies_loop0_step
    have e1 : k = n - 1 := by omega
    rw [e1, show n - 1 + 1 = n by omega]
    simp only [DT.get, nat_not]

theorem vertex_loop {n A m : Nat} (h2 : 2 ≤ n) (h7 : n ≤ 7) : impl_PolygonBodies_loop1_ends (((n : Nat) : Int), A, m, pwW n A m, ((n : Nat) : Int)) (0, []) = true ∧ impl_PolygonBodies_loop1 (((n : Nat) : Int), A, m, pwW n A m, ((n : Nat) : Int)) (0, []) = polyL n A m := by
  refine map_loop (step := impl_PolygonBodies_loop1_step (((n : Nat) : Int), A, m, pwW n A m, ((n : Nat) : Int))) n (vertex n A m) (fun r => r) (fun k hk acc hacc => ?_) (fun acc => ⟨[0], ?_⟩)
  · obtain ⟨⟨⟨a1, a2⟩, a3, a4⟩, -, -⟩ := sines_ok h2 h7 hk
    have ea : fdiv .f32 (fofInt .f32 ((k : Nat) : Int)) (fofInt .f32 ((n : Nat) : Int)) = argN n k := by rw [argN]
    have hroom := room (n := acc.length) (k := [vertex n A m k].length) (b := 28) (by show acc.length + 1 ≤ 17; omega) (by decide)
    exact ⟨[281], vertex_step (nat_dec hk) ea a1 a2 a3 a4 hroom (nat_next hk (by omega))⟩
  · unfold impl_PolygonBodies_loop1_step
    simp only [DT.get, nat_not]

theorem near_mul {a b : Nat} {x y E K : Rat} (ha : isNum .f32 a = true) (hb : isNum .f32 b = true) (h : Nr (R .f32 b) y E) (hx : R .f32 a = x) (bx : Bd x 3) (by' : Bd y 3) (hE : E ≤ 1 / 1000) (hK : 3 * E + 6 / 10000000 ≤ K) : isNum .f32 (fmul .f32 a b) = true ∧ Nr (R .f32 (fmul .f32 a b)) (x * y) K := by
  have hT := T_le
  have hG := Gr_ge
  have b1 : Bd (R .f32 a * R .f32 b) (9 + 1 / 100) := by
    rw [hx]
    have := Bd.mul bx (h.toBd by')
    exact this.mono (by grind)
  have f := fmul_fl ha hb (b1.mono (by grind))
  have e := f.err b1
  rw [hx] at e
  have m1 := Bd.mul bx (Nr.bd.1 h)
  have i : x * (R .f32 b - y) = x * R .f32 b - x * y := by grind
  rw [i] at m1
  exact ⟨f.1, by unfold Nr Bd at *; constructor <;> grind⟩

theorem poly_run {n A m : Nat} (h2 : 2 ≤ n) (h7 : n ≤ 7) (hA : I .f32 A (some (1, 11 / 4))) (hm : I .f32 m (some (1 / 4, 2))) (hB : polyB n A m = true) :
    impl_PolygonBodies_need ((n : Nat) : Int) A m = true ∧ impl_PolygonBodies ((n : Nat) : Int) A m = .inr (polyL n A m) ∧ okL (polyL n A m) = true ∧ ∃ r, stateP (polyL n A m) 0 1023410176 4 = .inr r ∧ r.length = n ∧ ∀ j, j < n → isNum .f32 (impl_SizeOfVector (r.getD j default).At) = true ∧ Nr (R .f32 (impl_SizeOfVector (r.getD j default).At)) (R .f32 A) (R .f32 A * (1 / 100)) := by
  unfold polyB at hB
  simp only [Bool.and_eq_true, decide_eq_true_eq] at hB
  obtain ⟨w, w1, w2, w3, n5⟩ := hB
  have n5 := nearB_of n5
  have hA2 := hA.2
  have hm2 := hm.2
  obtain ⟨B1, B0⟩ := one_ne hA2.1
  have G := poly_ring h2 h7 hm
  have len : (polyL n A m).length = n := by unfold polyL; simp
  have get : ∀ j, j < n → (polyL n A m).getD j default = vertex n A m j := fun j hj => getD_range hj
  have bA : Bd (R .f32 A) 3 := by unfold Bd; constructor <;> grind
  have bW : Bd (R .f32 (pwW n A m)) 3 := by unfold Bd; constructor <;> grind
  have vx : ∀ j, j < n → (finV (vertex n A m j).At = true ∧ Nr (R .f32 (vertex n A m j).At.X) (R .f32 A * (1 * pxN n j - 0 * pyN n j)) (1 / 1000000) ∧ Nr (R .f32 (vertex n A m j).At.Y) (R .f32 A * (1 * pyN n j + 0 * pxN n j)) (1 / 1000000) ∧ Bd (R .f32 (vertex n A m j).At.Z) (1 / 1000000)) ∧
      (finV (vertex n A m j).Speed = true ∧ Nr (R .f32 (vertex n A m j).Speed.X) (R .f32 A * R .f32 (pwW n A m) * (0 * pxN n j - 1 * pyN n j)) (4 / 1000000) ∧ Nr (R .f32 (vertex n A m j).Speed.Y) (R .f32 A * R .f32 (pwW n A m) * (0 * pyN n j + 1 * pxN n j)) (4 / 1000000) ∧ Bd (R .f32 (vertex n A m j).Speed.Z) (4 / 1000000)) := fun j hj => by
    have hs := sums_ok h2 h7 hj
    unfold sumC at hs
    simp only [Bool.and_eq_true] at hs
    obtain ⟨-, -, -, -, -, c1, s1⟩ := hs
    obtain ⟨bx, by'⟩ := G.place j hj
    obtain ⟨x1, x2⟩ := near_mul (K := 6 / 10000000) hA.1 c1 (Nr.refl _) rfl bA (show Bd (R .f32 (cN n j)) 3 from bx.mono (by decide +kernel)) (by decide +kernel) (by decide +kernel)
    obtain ⟨y1, y2⟩ := near_mul (K := 6 / 10000000) hA.1 s1 (Nr.refl _) rfl bA (show Bd (R .f32 (sN n j)) 3 from by'.mono (by decide +kernel)) (by decide +kernel) (by decide +kernel)
    have bAx : Bd (R .f32 A * R .f32 (cN n j)) 3 := (Bd.mul (show Bd (R .f32 A) (11 / 4) by unfold Bd; constructor <;> grind) (show Bd (R .f32 (cN n j)) (101 / 100) from bx)).mono (by decide +kernel)
    have bAy : Bd (R .f32 A * R .f32 (sN n j)) 3 := (Bd.mul (show Bd (R .f32 A) (11 / 4) by unfold Bd; constructor <;> grind) (show Bd (R .f32 (sN n j)) (101 / 100) from by')).mono (by decide +kernel)
    obtain ⟨u1, u2⟩ := near_mul (K := 4 / 1000000) w x1 x2 rfl bW bAx (by decide +kernel) (by decide +kernel)
    obtain ⟨v1, v2⟩ := near_mul (K := 4 / 1000000) w y1 y2 rfl bW bAy (by decide +kernel) (by decide +kernel)
    obtain ⟨q1, q2⟩ := R_neg v1
    have zE := z_small (E := 1 / 1000000) (by decide +kernel)
    have zF := z_small (E := 4 / 1000000) (by decide +kernel)
    refine ⟨⟨of3 x1 y1 zero32.1, ?_, ?_, zE.2⟩, ⟨of3 q1 u1 zero32.1, ?_, ?_, zF.2⟩⟩
    · have e : R .f32 A * (1 * pxN n j - 0 * pyN n j) = R .f32 A * R .f32 (cN n j) := by unfold pxN; grind
      rw [e]; exact x2.mono (by decide +kernel)
    · have e : R .f32 A * (1 * pyN n j + 0 * pxN n j) = R .f32 A * R .f32 (sN n j) := by unfold pyN; grind
      rw [e]; exact y2.mono (by decide +kernel)
    · have e : R .f32 A * R .f32 (pwW n A m) * (0 * pxN n j - 1 * pyN n j) = -(R .f32 (pwW n A m) * (R .f32 A * R .f32 (sN n j))) := by unfold pyN; grind
      rw [e]
      show Nr (R .f32 (fneg .f32 (fmul .f32 (pwW n A m) (fmul .f32 A (sN n j))))) _ _
      rw [q2]
      unfold Nr at v2 ⊢
      constructor <;> grind
    · have e : R .f32 A * R .f32 (pwW n A m) * (0 * pyN n j + 1 * pxN n j) = R .f32 (pwW n A m) * (R .f32 A * R .f32 (cN n j)) := by unfold pxN; grind
      rw [e]; exact u2
  have hs : RingAt n (fun _ => m) (pxN n) (pyN n) (R .f32 A) (R .f32 (pwW n A m)) (polyL n A m) bnd0 := by
    refine ⟨1, 0, 0, 1, ⟨len, fun j hj => by rw [get j hj]; rfl, fun j hj => ?_, fun j hj => ?_⟩, ⟨by unfold Nr bnd0; constructor <;> decide +kernel, by unfold Bd bnd0; constructor <;> decide +kernel, by unfold Nr bnd0; constructor <;> decide +kernel, by decide +kernel, by decide +kernel, by decide +kernel⟩⟩
    · rw [get j hj]
      obtain ⟨⟨a1, a2, a3, a4⟩, -⟩ := vx j hj
      exact ⟨a1, a2.mono (by decide +kernel), a3.mono (by decide +kernel), a4.mono (by decide +kernel)⟩
    · rw [get j hj]
      exact (vx j hj).2
  have hok : okL (polyL n A m) = true := by
    obtain ⟨_, _, _, _, hR, -⟩ := hs
    exact hR.ok G
  obtain ⟨b1, b2⟩ := asBodies_any (polyL n A m) (by rw [len]; omega)
  rw [hok] at b2
  obtain ⟨l1, l2⟩ := sum_loop (A := A) (m := m) h2 h7
  obtain ⟨l3, l4⟩ := vertex_loop (A := A) (m := m) h2 h7
  obtain ⟨a1, a2⟩ := aLength_I hA (by decide +kernel)
  have bm := aMass_eq m
  rw [leastB_I hm (by decide +kernel)] at bm
  have hwi : impl_within ((n : Nat) : Int) 2 16 = true := by
    unfold impl_within impl_within_tree
    rw [decide_eq_true (show (2 : Int) ≤ ((n : Nat) : Int) by omega), decide_eq_true (show ((n : Nat) : Int) ≤ 16 by omega)]
    rfl
  have key : (impl_PolygonBodies_tree ((n : Nat) : Int) A m).get = some (.inr (polyL n A m)) := by
    unfold impl_PolygonBodies_tree
    have e : impl_RootNumber (fdiv .f32 (fmul .f32 m (sumN n)) (fmul .f32 (fmul .f32 (fmul .f32 1082130432 A) A) A)) = pwW n A m := Root_val
    simp only [DT.get, hwi, Bool.not_true, a1, a2, bm.1, bm.2, l1, l2, Root_need, e, l3, l4, b1, b2, isL]
  obtain ⟨k1, k2⟩ := DT.of_get key
  refine ⟨k1, k2, hok, ?_⟩
  obtain ⟨r, hr, x, y, p, q, hR, hC⟩ := ring_run G hs hA2.1 (by grind) B0 B1 (by grind) w2 w3 (kappa w1) n5 4 (fun k hk => poly_bnds ⟨k, hk⟩)
  refine ⟨r, hr, hR.len, fun j hj => ?_⟩
  obtain ⟨a1, a2, a3, a4⟩ := hR.at' j hj
  have hend := poly_end
  have hs := sums_ok h2 h7 hj
  unfold sumC at hs
  simp only [Bool.and_eq_true] at hs
  have hp := nearB_of hs.2.2.2.2.1
  refine long_near a1 a2 a3 a4 (by grind) hA2.1 (by grind) ?_
  have hu := hC.u
  have e : R .f32 A * (x * pxN n j - y * pyN n j) * (R .f32 A * (x * pxN n j - y * pyN n j)) + R .f32 A * (x * pyN n j + y * pxN n j) * (R .f32 A * (x * pyN n j + y * pxN n j)) - R .f32 A * R .f32 A = R .f32 A * R .f32 A * ((x * x + y * y) * (pxN n j * pxN n j + pyN n j * pyN n j) - 1) := by grind
  unfold Nr
  rw [e]
  have AA := sq_nonneg (R .f32 A)
  have bAA : Bd (R .f32 A * R .f32 A) (R .f32 A * R .f32 A) := by unfold Bd; constructor <;> grind
  have b1 : Bd (1 : Rat) 1 := by unfold Bd; constructor <;> decide +kernel
  have pr := Nr.mul (hu.mono (F := 3 / 1000) hend.1) hp b1 (hp.toBd b1)
  have e1 : (1 : Rat) * 1 = 1 := by decide +kernel
  rw [e1] at pr
  have := Bd.mul bAA (Nr.bd.1 (pr.mono (F := 4 / 1000) (by decide +kernel)))
  unfold Bd at this
  constructor <;> grind

end Go.Proofs.Ytilfdpllleninaa
