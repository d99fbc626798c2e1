/- The plain law of FnPulls, part 3: all pulls, the pull at a place, a list without its first body. -/
import Derived.Test.YtkmcgfjhjfiomaaW2
namespace Go.Proofs.Ytkmcgfjhjfiomaa
set_option linter.unusedVariables false
set_option linter.unusedSimpArgs false

theorem core_ok : impl_isCore_need 1048576000 = true ∧ impl_isCore 1048576000 = true := by
  have h1 : isNum .f32 1048576000 = true := by decide +kernel
  have h2 : fge .f32 1048576000 0 = true := by decide +kernel
  unfold impl_isCore_need impl_isCore impl_isCore_tree
  simp only [DT.ok, DT.val, IsFinite_need, IsFinite_eq, h1, h2]
  exact ⟨trivial, trivial⟩

/-- The pull on a body. -/
noncomputable def pullV (l : List Body) (i : Nat) : Vec := impl_pull l ((i : Nat) : Int) (l.getD i default).At 1048576000

def AllP (l : List Body) : Prop := ∀ i, i < l.length → ∀ j : Nat, j < l.length → (j : Int) ≠ (i : Int) → PullH (wayV l (l.getD i default).At j) (l.getD j default).Mass

theorem pullV_ok {l : List Body} (hl : l.length ≤ 4) (H : AllP l) {i : Nat} (hi : i < l.length) :
    impl_pull_need l ((i : Nat) : Int) (l.getD i default).At 1048576000 = true ∧ AccN (pullV l i).X (tsum (termV l (l.getD i default).At i Vec.X) l.length) l.length ∧ AccN (pullV l i).Y (tsum (termV l (l.getD i default).At i Vec.Y) l.length) l.length ∧ AccN (pullV l i).Z (tsum (termV l (l.getD i default).At i Vec.Z) l.length) l.length :=
  pull_sum l hl i _ (H i hi)

theorem pulls_all (l : List Body) (hl : l.length ≤ 4) (hok : okL l = true) (H : AllP l) :
    impl_PullsOf_need l 1048576000 = true ∧ impl_PullsOf l 1048576000 = .inr ((List.range l.length).map (pullV l)) := by
  obtain ⟨e1, e2⟩ := map_loop (step := impl_pulls_loop0_step (l, 1048576000, l, ((l.length : Nat) : Int))) l.length (pullV l) .inr (fun k hk acc ha => by
    obtain ⟨p0, p1, p2, p3⟩ := pullV_ok hl H hk
    have hf : finV (pullV l k) = true := by
      unfold finV
      rw [p1.1, p2.1, p3.1]
      rfl
    have hfin := isFiniteVector_eq (pullV l k)
    rw [hf] at hfin
    have hp : impl_pull l ((k : Nat) : Int) (⟨(l.getD k default).At.X, (l.getD k default).At.Y, (l.getD k default).At.Z⟩ : Vec) 1048576000 = pullV l k := rfl
    have hpn : impl_pull_need l ((k : Nat) : Int) (⟨(l.getD k default).At.X, (l.getD k default).At.Y, (l.getD k default).At.Z⟩ : Vec) 1048576000 = true := p0
    have hv : (⟨(pullV l k).X, (pullV l k).Y, (pullV l k).Z⟩ : Vec) = pullV l k := rfl
    refine ⟨[169], ?_⟩
    unfold impl_pulls_loop0_step
    simp only [DT.get, nat_dec hk, nat_ge, Bool.and_true, Int.toNat_natCast, hp, hpn, hv, hfin.1, hfin.2, Bool.not_true, nat_next hk (show l.length ≤ 2 ^ 62 by omega), ha, List.length_singleton]
    rw [room (by omega) (by decide)]) (fun acc => ⟨[0], by
    unfold impl_pulls_loop0_step
    simp only [DT.get, nat_not]⟩)
  have e1 : impl_pulls_loop0_ends (l, 1048576000, l, ((l.length : Nat) : Int)) (0, []) = true := e1
  have e2 : impl_pulls_loop0 (l, 1048576000, l, ((l.length : Nat) : Int)) (0, []) = .inr ((List.range l.length).map (pullV l)) := e2
  have c : impl_pulls_need l 1048576000 = true ∧ impl_pulls l 1048576000 = .inr ((List.range l.length).map (pullV l)) := by
    unfold impl_pulls_need impl_pulls impl_pulls_tree
    simp only [DT.ok, DT.val, e1, e2, isL, rightD]
    exact ⟨trivial, trivial⟩
  obtain ⟨a1, a2⟩ := AreBodies_eq l (by omega)
  unfold impl_PullsOf_need impl_PullsOf impl_PullsOf_tree
  simp only [DT.ok, DT.val, a1, a2, hok, core_ok.1, core_ok.2, c.1, c.2, isL, rightD]
  exact ⟨rfl, rfl⟩

/-- The pull of all bodies at a place. -/
noncomputable def pullA (l : List Body) (v : Vec) : Vec := impl_pull l (-1) v 1048576000

theorem pullA_all (l : List Body) (hl : l.length ≤ 4) (hok : okL l = true) (v : Vec) (hv : finV v = true) (H : ∀ j : Nat, j < l.length → PullH (wayV l v j) (l.getD j default).Mass) :
    impl_PullAt_need l v 1048576000 = true ∧ impl_PullAt l v 1048576000 = (pullA l v, true) ∧ AccN (pullA l v).X (tsum (termV l v (-1) Vec.X) l.length) l.length ∧ AccN (pullA l v).Y (tsum (termV l v (-1) Vec.Y) l.length) l.length ∧ AccN (pullA l v).Z (tsum (termV l v (-1) Vec.Z) l.length) l.length := by
  obtain ⟨p0, p1, p2, p3⟩ := pull_sum l hl (-1) v (fun j hj _ => H j hj)
  have hf : finV (pullA l v) = true := by
    unfold finV pullA
    rw [p1.1, p2.1, p3.1]
    rfl
  have hfin := isFiniteVector_eq (pullA l v)
  rw [hf] at hfin
  have hfv := isFiniteVector_eq v
  rw [hv] at hfv
  obtain ⟨a1, a2⟩ := AreBodies_eq l (by omega)
  have hp : impl_pull l (-1) (⟨v.X, v.Y, v.Z⟩ : Vec) 1048576000 = pullA l v := rfl
  have hpn : impl_pull_need l (-1) (⟨v.X, v.Y, v.Z⟩ : Vec) 1048576000 = true := p0
  have hvv : (⟨(pullA l v).X, (pullA l v).Y, (pullA l v).Z⟩ : Vec) = pullA l v := rfl
  refine ⟨?_, ?_, p1, p2, p3⟩
  · unfold impl_PullAt_need impl_PullAt_tree
    simp only [DT.ok, a1, a2, hok, core_ok.1, core_ok.2, hfv.1, hfv.2, hpn, hp, hvv, hfin.1, hfin.2, Bool.not_true]
  · unfold impl_PullAt impl_PullAt_tree
    simp only [DT.val, a2, hok, core_ok.2, hfv.2, hp, hvv, hfin.2, Bool.not_true]

theorem none_at (v : Vec) (hv : finV v = true) : impl_PullAt_need [] v 1048576000 = true ∧ impl_PullAt [] v 1048576000 = (⟨0, 0, 0⟩, true) := by
  obtain ⟨h1, h2, _⟩ := pullA_all [] (by decide) (by decide) v hv (fun j hj => absurd hj (Nat.not_lt_zero _))
  refine ⟨h1, ?_⟩
  rw [h2]
  have : pullA [] v = ⟨0, 0, 0⟩ := by
    have e : impl_pull_loop0 (-1, 1048576000, [], 0, v.X, v.Y, v.Z, 0, 0, 0) (0, 0, 0, 0) = (0, 0, 0) := by
      refine (loop_post (step := impl_pull_loop0_step (-1, 1048576000, [], 0, v.X, v.Y, v.Z, 0, 0, 0)) (fun s => s = (0, 0, 0, 0)) (fun _ => 0) (fun r => r = (0, 0, 0)) ?_ (0, 0, 0, 0) rfl).2
      rintro s rfl
      exact ⟨.inr (0, 0, 0), [1, 2], rfl, rfl⟩
    show impl_pull [] (-1) v 1048576000 = _
    unfold impl_pull impl_pull_tree
    show (⟨(impl_pull_loop0 (-1, 1048576000, [], 0, v.X, v.Y, v.Z, 0, 0, 0) (0, 0, 0, 0)).1, _, _⟩ : Vec) = _
    rw [show ((List.length ([] : List Body) : Nat) : Int) = 0 from rfl, e]
  rw [this]

/-- Without the first. -/
theorem drop_first (l : List Body) (hl : l.length ≤ 16) (hl2 : 2 ≤ l.length) (hok : okL l = true) : impl_DropBody_need l 0 = true ∧ impl_DropBody l 0 = .inr (l.drop 1) := by
  obtain ⟨a1, a2⟩ := AreBodies_eq l (by omega)
  have hw : IntKind.wrap .i64 (((l.length : Nat) : Int) - 1) = ((l.length : Nat) : Int) - 1 := wrap_small (by omega) (by omega)
  have hin : impl_areIndices_1 0 ((l.length : Nat) : Int) = false := by
    unfold impl_areIndices_1 impl_areIndices_1_tree
    have hwi : impl_within 0 0 (((l.length : Nat) : Int) - 1) = true := by
      unfold impl_within impl_within_tree
      have h1 : decide ((0 : Int) ≤ 0) = true := rfl
      have h2 : decide ((0 : Int) ≤ ((l.length : Nat) : Int) - 1) = true := decide_eq_true (by omega)
      simp only [DT.val, h1, h2]
    simp only [DT.val, hw, hwi, Bool.not_true]
  obtain ⟨e1, e2⟩ := loop_post (step := slices_IndexFunc___int64_int64__impl_areIndices_1_loop0_step ([0], ((l.length : Nat) : Int), 1)) (fun s => s = 0 ∨ s = 1) (fun s => (1 - s).toNat) (fun r => r = .inr ()) (by
    rintro s (rfl | rfl)
    · refine ⟨.inl 1, [], ?_, .inr rfl, by decide⟩
      unfold slices_IndexFunc___int64_int64__impl_areIndices_1_loop0_step
      have h1 : decide ((0 : Int) < 1) = true := rfl
      have h2 : List.getD ([0] : List Int) (Int.toNat 0) default = 0 := rfl
      simp only [DT.get, h1, h2, hin]
      rfl
    · exact ⟨.inr (.inr ()), [], rfl, rfl⟩) 0 (.inl rfl)
  have e1 : slices_IndexFunc___int64_int64__impl_areIndices_1_loop0_ends ([0], ((l.length : Nat) : Int), 1) 0 = true := e1
  have e2 : slices_IndexFunc___int64_int64__impl_areIndices_1_loop0 ([0], ((l.length : Nat) : Int), 1) 0 = .inr () := e2
  have i1 : slices_IndexFunc___int64_int64__impl_areIndices_1_need [0] ((l.length : Nat) : Int) = true ∧ slices_IndexFunc___int64_int64__impl_areIndices_1 [0] ((l.length : Nat) : Int) = -1 := by
    have h1 : ((List.length ([0] : List Int) : Nat) : Int) = 1 := rfl
    unfold slices_IndexFunc___int64_int64__impl_areIndices_1_need slices_IndexFunc___int64_int64__impl_areIndices_1 slices_IndexFunc___int64_int64__impl_areIndices_1_tree
    simp only [DT.ok, DT.val, h1, e1, e2, isL]
    exact ⟨trivial, trivial⟩
  have i2 : impl_areIndices_need ((l.length : Nat) : Int) [0] = true ∧ impl_areIndices ((l.length : Nat) : Int) [0] = true := by
    unfold impl_areIndices_need impl_areIndices impl_areIndices_tree slices_ContainsFunc___int64_int64__impl_areIndices_1_need slices_ContainsFunc___int64_int64__impl_areIndices_1 slices_ContainsFunc___int64_int64__impl_areIndices_1_tree
    simp only [DT.ok, DT.val, i1.1, i1.2]
    exact ⟨trivial, rfl⟩
  have hx5 : List.drop (Int.toNat (IntKind.wrap .i64 (0 + 1))) (List.take (List.length l) l) = l.drop 1 := by
    rw [List.take_length]
    rfl
  have hx3 : List.drop 0 (List.take (Int.toNat 0) l) = [] := rfl
  have hcat : slices_Concat___impl_Body_impl_Body__need [] (l.drop 1) = true ∧ slices_Concat___impl_Body_impl_Body_ [] (l.drop 1) = .inl (l.drop 1) := by
    have hd : (l.drop 1).length = l.length - 1 := by simp
    have w1 : IntKind.wrap .i64 (0 + ((List.length ([] : List Body) : Nat) : Int)) = 0 := rfl
    have w2 : IntKind.wrap .i64 (0 + ((List.length (l.drop 1) : Nat) : Int)) = ((l.length - 1 : Nat) : Int) := by rw [hd, Int.zero_add]; exact wrap_small (by omega) (by omega)
    have c1 : decide ((0 : Int) < 0) = false := rfl
    have c2 : decide (((l.length - 1 : Nat) : Int) < 0) = false := decide_eq_false (by omega)
    have c3 : (decide ((0 : Int) ≤ ((l.length - 1 : Nat) : Int)) && decide (((l.length - 1 : Nat) : Int) * 28 ≤ 140737488355328)) = true := by
      rw [Bool.and_eq_true]; exact ⟨decide_eq_true (by omega), decide_eq_true (by omega)⟩
    have c4 : decide ((0 : Int) < ((l.length - 1 : Nat) : Int)) = true := decide_eq_true (by omega)
    have c5 : (decide ((List.length ([] : List Body) + List.length ([] : List Body)) * 28 ≤ 140737488355328) && decide (List.length ([] : List Body) + List.length ([] : List Body) ≤ 9223372036854775807)) = true := rfl
    have c6 : ([] : List Body) ++ [] = [] := rfl
    have c7 : (decide ((List.length ([] : List Body) + List.length (l.drop 1)) * 28 ≤ 140737488355328) && decide (List.length ([] : List Body) + List.length (l.drop 1) ≤ 9223372036854775807)) = true := room (by rw [hd]; show 0 + _ ≤ 17; omega) (by decide)
    unfold slices_Concat___impl_Body_impl_Body__need slices_Concat___impl_Body_impl_Body_ slices_Concat___impl_Body_impl_Body__tree
    simp only [DT.ok, DT.val, w1, w2, c1, c2, c3, c4, c5, c6, c7]
    exact ⟨trivial, rfl⟩
  have n1 : (decide ((0 : Int) ≤ 0) && decide ((0 : Int) ≤ ((List.length l : Nat) : Int))) = true := by
    rw [Bool.and_eq_true]; exact ⟨rfl, decide_eq_true (by omega)⟩
  have n2 : (decide ((0 : Int) ≤ IntKind.wrap .i64 (0 + 1)) && decide (IntKind.wrap .i64 (0 + 1) ≤ (((List.length l) : Nat) : Int))) = true := by
    rw [show IntKind.wrap .i64 (0 + 1) = 1 from rfl, Bool.and_eq_true]; exact ⟨rfl, decide_eq_true (by omega)⟩
  unfold impl_DropBody_need impl_DropBody impl_DropBody_tree
  simp only [DT.ok, DT.val, a1, a2, hok, i2.1, i2.2, n1, n2, hx3, hx5, hcat.1, hcat.2, isL, leftD]
  exact ⟨rfl, rfl⟩

end Go.Proofs.Ytkmcgfjhjfiomaa
