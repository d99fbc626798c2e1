/- The plain law of FnCovers, part 6: the loops of covers. -/
import Derived.Test.YtkhjcoekmamlaaaV1
namespace Go.Proofs.Ytkhjcoekmamlaaa
set_option linter.unusedVariables false
set_option linter.unusedSimpArgs false

theorem range_succ {α : Type} (g : Nat → α) (k : Nat) : (List.range k).map g ++ [g k] = (List.range (k + 1)).map g := by rw [List.range_succ, List.map_append]; rfl

/-- What a cover tells of a cell. -/
noncomputable def seenG (w : Nat → Nat → Nat) (lim : Nat) (k : Nat) : Bool := fge .f32 (w (k % 6) (k / 6)) (impl_SineTurns lim)

structure Rises (b : Ball) (v : Vec) (w : Nat → Nat → Nat) : Prop where
  all : ∀ x y : Nat, x < 6 → y < 5 → impl_RiseAt_need b (impl_gridMark (x : Int) (y : Int) 6 5) v 0 = true ∧ impl_RiseAt b (impl_gridMark (x : Int) (y : Int) 6 5) v 0 = (w x y, true)

theorem cover_row {b : Ball} {v : Vec} {w : Nat → Nat → Nat} {lim : Nat} (h : Rises b v w) (hl : impl_SineTurns_need lim = true) {y : Nat} (hy : y < 5) :
    impl_CoverOf_loop1_ends (0, lim, 6, 5, (y : Int), 5, (y : Int), 6, b.Mass, b.Radius, b.Spin, b.Start, v.X, v.Y, v.Z) (0, (List.range (6 * y)).map (seenG w lim)) = true ∧
    impl_CoverOf_loop1 (0, lim, 6, 5, (y : Int), 5, (y : Int), 6, b.Mass, b.Radius, b.Spin, b.Start, v.X, v.Y, v.Z) (0, (List.range (6 * y)).map (seenG w lim)) = .inr ((List.range (6 * (y + 1))).map (seenG w lim)) := by
  refine loop_post (step := impl_CoverOf_loop1_step (0, lim, 6, 5, (y : Int), 5, (y : Int), 6, b.Mass, b.Radius, b.Spin, b.Start, v.X, v.Y, v.Z)) (fun s => ∃ x : Nat, x ≤ 6 ∧ s = ((x : Int), (List.range (6 * y + x)).map (seenG w lim))) (fun s => (6 - s.1).toNat) (fun r => r = .inr ((List.range (6 * (y + 1))).map (seenG w lim))) ?_ _ ⟨0, by omega, rfl⟩
  rintro s ⟨x, hx, rfl⟩
  rcases Nat.lt_or_ge x 6 with h6 | h6
  · obtain ⟨r1, r2⟩ := h.all x y h6 hy
    have eb : (⟨b.Mass, b.Radius, b.Spin, b.Start⟩ : Ball) = b := rfl
    have ev : (⟨v.X, v.Y, v.Z⟩ : Vec) = v := rfl
    have em : (⟨(impl_gridMark (x : Int) (y : Int) 6 5).North, (impl_gridMark (x : Int) (y : Int) 6 5).East, (impl_gridMark (x : Int) (y : Int) 6 5).High⟩ : Mark) = impl_gridMark (x : Int) (y : Int) 6 5 := rfl
    have hd : decide (((x : Nat) : Int) < 6) = true := decide_eq_true (by omega)
    have hw : IntKind.wrap .i64 (((x : Nat) : Int) + 1) = ((x + 1 : Nat) : Int) := nat_next h6 (by decide)
    have hg : seenG w lim (6 * y + x) = fge .f32 (w x y) (impl_SineTurns lim) := by
      unfold seenG
      rw [show (6 * y + x) % 6 = x by omega, show (6 * y + x) / 6 = y by omega]
    have hrm : (decide (((6 * y + x) + 1) * 1 ≤ 140737488355328) && decide ((6 * y + x) + 1 ≤ 9223372036854775807)) = true := by
      rw [Bool.and_eq_true]; exact ⟨decide_eq_true (by omega), decide_eq_true (by omega)⟩
    refine ⟨.inl (((x + 1 : Nat) : Int), (List.range (6 * y + x)).map (seenG w lim) ++ [fge .f32 (w x y) (impl_SineTurns lim)]), [0, 1, 203], ?_, ⟨x + 1, h6, ?_⟩, ?_⟩
    · unfold impl_CoverOf_loop1_step
      simp only [hd, eb, ev, em, r1, r2, hl, hw, List.length_map, List.length_range, List.length_singleton, hrm, Bool.not_true]
      simp only [DT.get]
    · rw [← hg, range_succ]
      rfl
    · show (6 - ((x + 1 : Nat) : Int)).toNat < (6 - ((x : Nat) : Int)).toNat
      omega
  · have : x = 6 := by omega
    subst this
    refine ⟨.inr (.inr ((List.range (6 * y + 6)).map (seenG w lim))), [0, 1, 2], ?_, ?_⟩
    · unfold impl_CoverOf_loop1_step
      simp only [DT.get]
      rfl
    · rw [show 6 * y + 6 = 6 * (y + 1) by omega]

theorem cover_rows {b : Ball} {v : Vec} {w : Nat → Nat → Nat} {lim : Nat} (h : Rises b v w) (hl : impl_SineTurns_need lim = true) :
    impl_CoverOf_loop0_ends (0, lim, 6, 5, 5, b.Mass, b.Radius, b.Spin, b.Start, v.X, v.Y, v.Z) (0, []) = true ∧
    impl_CoverOf_loop0 (0, lim, 6, 5, 5, b.Mass, b.Radius, b.Spin, b.Start, v.X, v.Y, v.Z) (0, []) = .inr ((List.range 30).map (seenG w lim)) := by
  refine loop_post (step := impl_CoverOf_loop0_step (0, lim, 6, 5, 5, b.Mass, b.Radius, b.Spin, b.Start, v.X, v.Y, v.Z)) (fun s => ∃ y : Nat, y ≤ 5 ∧ s = ((y : Int), (List.range (6 * y)).map (seenG w lim))) (fun s => (5 - s.1).toNat) (fun r => r = .inr ((List.range 30).map (seenG w lim))) ?_ _ ⟨0, by omega, rfl⟩
  rintro s ⟨y, hy, rfl⟩
  rcases Nat.lt_or_ge y 5 with h5 | h5
  · obtain ⟨r1, r2⟩ := cover_row h hl h5
    have hd : decide (((y : Nat) : Int) < 5) = true := decide_eq_true (by omega)
    have hw : IntKind.wrap .i64 (((y : Nat) : Int) + 1) = ((y + 1 : Nat) : Int) := nat_next h5 (by decide)
    refine ⟨.inl (((y + 1 : Nat) : Int), (List.range (6 * (y + 1))).map (seenG w lim)), [0, 1, 2], ?_, ⟨y + 1, h5, rfl⟩, ?_⟩
    · unfold impl_CoverOf_loop0_step
      simp only [hd, r1, r2, hw, isL, rightD]
      simp only [DT.get]
    · show (5 - ((y + 1 : Nat) : Int)).toNat < (5 - ((y : Nat) : Int)).toNat
      omega
  · have : y = 5 := by omega
    subst this
    exact ⟨.inr (.inr ((List.range 30).map (seenG w lim))), [2], rfl, rfl⟩

theorem cover_eq {b : Ball} {v : Vec} {w : Nat → Nat → Nat} {lim : Nat} (h : Rises b v w) (hl : impl_SineTurns_need lim = true) (hb : impl_ValidBall_need b = true ∧ impl_ValidBall b = true) (hv : finV v = true) (hn : isNum .f32 lim = true) :
    impl_CoverOf_need b v 0 lim 6 5 = true ∧ impl_CoverOf b v 0 lim 6 5 = .inr ((List.range 30).map (seenG w lim)) := by
  obtain ⟨r1, r2⟩ := cover_rows h hl
  have hf := isFiniteVector_eq v
  rw [hv] at hf
  have ha := areFinite_eq [0, lim] (by simp)
  have hz : isNum .f32 0 = true := by decide +kernel
  have he : [0, lim].all (isNum .f32) = true := by simp only [List.all_cons, List.all_nil, hz, hn, Bool.and_self]
  rw [he] at ha
  have hg : impl_isGrid 6 5 = true := by decide +kernel
  have eb : (⟨b.Mass, b.Radius, b.Spin, b.Start⟩ : Ball) = b := rfl
  have ev : (⟨v.X, v.Y, v.Z⟩ : Vec) = v := rfl
  unfold impl_CoverOf_need impl_CoverOf impl_CoverOf_tree
  simp only [eb, ev, hb.1, hb.2, hf.1, hf.2, ha.1, ha.2, hg, r1, r2, isL, rightD, Bool.not_true]
  simp only [DT.ok, DT.val]
  exact ⟨trivial, trivial⟩

theorem shared_eq {b : Ball} {v : Vec} {w : Nat → Nat → Nat} {lim : Nat} (h : Rises b v w) (hl : impl_SineTurns_need lim = true) (hb : impl_ValidBall_need b = true ∧ impl_ValidBall b = true) (hv : finV v = true) (hn : isNum .f32 lim = true) {c : Int} (h1 : 1 ≤ c) (h8 : c ≤ 8) :
    impl_CoverShared_need b v 0 lim 6 5 c = true ∧ impl_CoverShared b v 0 lim 6 5 c = .inr ((List.range 30).map (seenG w lim)) := by
  obtain ⟨r1, r2⟩ := cover_eq h hl hb hv hn
  have hw : impl_within c 1 8 = true := by
    unfold impl_within impl_within_tree
    simp only [DT.val, decide_eq_true h1, decide_eq_true h8]
  have eb : (⟨b.Mass, b.Radius, b.Spin, b.Start⟩ : Ball) = b := rfl
  have ev : (⟨v.X, v.Y, v.Z⟩ : Vec) = v := rfl
  unfold impl_CoverShared_need impl_CoverShared impl_CoverShared_tree
  simp only [eb, ev, hw, r1, r2, isL, rightD, Bool.not_true]
  simp only [DT.ok, DT.val]
  exact ⟨trivial, trivial⟩

end Go.Proofs.Ytkhjcoekmamlaaa
