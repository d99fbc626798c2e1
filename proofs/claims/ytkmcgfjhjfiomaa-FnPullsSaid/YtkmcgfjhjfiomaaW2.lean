/- The plain law of FnPulls, part 2: lists of bodies: all pulls, lists that are changed body by body, lists that are the same. -/
import Derived.Test.YtkmcgfjhjfiomaaW1
namespace Go.Proofs.Ytkmcgfjhjfiomaa
set_option linter.unusedVariables false
set_option linter.unusedSimpArgs false

/-! ## Lists -/

def mapB {α : Type} (f : Body → α) (l : List Body) : List α := (List.range l.length).map fun j => f (l.getD j default)
theorem mapB_len {α : Type} (f : Body → α) (l : List Body) : (mapB f l).length = l.length := by unfold mapB; simp
theorem mapB_get {α : Type} (f : Body → α) (l : List Body) {j : Nat} {d : α} (hj : j < l.length) : (mapB f l).getD j d = f (l.getD j default) := getD_range hj

theorem okL_get {l : List Body} (h : okL l = true) {j : Nat} (hj : j < l.length) : okB (l.getD j default) = true := by
  unfold okL at h
  rw [Bool.and_eq_true] at h
  rw [List.getD_eq_getElem?_getD, List.getElem?_eq_getElem hj]
  exact List.all_eq_true.1 h.2 _ (List.getElem_mem hj)
theorem okL_of {l : List Body} (h16 : l.length ≤ 16) (h : ∀ j, j < l.length → okB (l.getD j default) = true) : okL l = true := by
  unfold okL
  rw [Bool.and_eq_true]
  refine ⟨decide_eq_true (by omega), List.all_eq_true.2 fun b hb => ?_⟩
  obtain ⟨j, hj, rfl⟩ := List.mem_iff_getElem.1 hb
  have := h j hj
  rwa [List.getD_eq_getElem?_getD, List.getElem?_eq_getElem hj] at this

theorem range_succ {α : Type} (g : Nat → α) (k : Nat) : (List.range k).map g ++ [g k] = (List.range (k + 1)).map g := by rw [List.range_succ, List.map_append]; rfl

theorem asBodies_eq (l : List Body) (hl : l.length ≤ 16) (h : okL l = true) : impl_asBodies_need l = true ∧ impl_asBodies l = .inr l := by
  obtain ⟨a1, a2⟩ := AreBodies_eq l (by omega)
  unfold impl_asBodies_need impl_asBodies impl_asBodies_tree
  simp only [DT.ok, DT.val, a1, a2, h]
  exact ⟨rfl, rfl⟩

theorem room {n k b : Nat} (h : n + k ≤ 17) (hb : b ≤ 100) : (decide ((n + k) * b ≤ 140737488355328) && decide (n + k ≤ 9223372036854775807)) = true := by
  rw [Bool.and_eq_true]
  refine ⟨decide_eq_true ?_, decide_eq_true (by omega)⟩
  exact Nat.le_trans (Nat.mul_le_mul h hb) (by decide)

/-- A loop that puts one thing behind the other. -/
theorem map_loop {α ρ : Type} [Inhabited ρ] {step : Int × List α → Round (Int × List α) ρ} (n : Nat) (g : Nat → α) (ret : List α → ρ)
    (hround : ∀ k, k < n → ∀ acc : List α, acc.length = k → ∃ fl, (step (((k : Nat) : Int), acc)).get = some (.inl (((k + 1 : Nat) : Int), acc ++ [g k]), fl))
    (hend : ∀ acc, ∃ fl, (step (((n : Nat) : Int), acc)).get = some (.inr (ret acc), fl)) :
    loopEnds step (0, []) = true ∧ loopVal step (0, []) = ret ((List.range n).map g) := by
  refine loop_post (step := step) (fun s => ∃ k : Nat, k ≤ n ∧ s = (((k : Nat) : Int), (List.range k).map g)) (fun s => ((n : Int) - s.1).toNat) (fun r => r = ret ((List.range n).map g)) ?_ (0, []) ⟨0, Nat.zero_le _, rfl⟩
  rintro s ⟨k, hk, rfl⟩
  rcases Nat.lt_or_ge k n with h | h
  · obtain ⟨fl, he⟩ := hround k h ((List.range k).map g) (by simp)
    refine ⟨_, fl, he, ⟨k + 1, h, ?_⟩, ?_⟩
    · rw [range_succ]
    · show ((n : Int) - ((k + 1 : Nat) : Int)).toNat < ((n : Int) - ((k : Nat) : Int)).toNat
      omega
  · have : k = n := by omega
    subst this
    obtain ⟨fl, he⟩ := hend ((List.range k).map g)
    exact ⟨_, fl, he, rfl⟩

/-! ## Bodies that are changed -/

theorem move_all (l : List Body) (hl : l.length ≤ 16) (by' sp : Vec) (h1 : okL l = true) (h2 : okL (mapB (fun b => impl_MoveBodies_1 b by'.X by'.Y by'.Z sp.X sp.Y sp.Z) l) = true) (hb : finV by' = true) (hs : finV sp = true) :
    impl_MoveBodies_need l by' sp = true ∧ impl_MoveBodies l by' sp = .inr (mapB (fun b => impl_MoveBodies_1 b by'.X by'.Y by'.Z sp.X sp.Y sp.Z) l) := by
  obtain ⟨e1, e2⟩ := map_loop (step := impl_changed_impl_MoveBodies_1_loop0_step (by'.X, by'.Y, by'.Z, sp.X, sp.Y, sp.Z, l, ((l.length : Nat) : Int))) l.length (fun j => impl_MoveBodies_1 (l.getD j default) by'.X by'.Y by'.Z sp.X sp.Y sp.Z) (fun x => x) (fun k hk acc ha => by
    refine ⟨[81], ?_⟩
    unfold impl_changed_impl_MoveBodies_1_loop0_step
    simp only [DT.get, nat_dec hk, nat_ge, Bool.and_true, Int.toNat_natCast, nat_next hk (show l.length ≤ 2 ^ 62 by omega), ha, List.length_singleton]
    rw [room (by omega) (by decide)]) (fun acc => ⟨[0], by
    unfold impl_changed_impl_MoveBodies_1_loop0_step
    simp only [DT.get, nat_not]⟩)
  have e1 : impl_changed_impl_MoveBodies_1_loop0_ends (by'.X, by'.Y, by'.Z, sp.X, sp.Y, sp.Z, l, ((l.length : Nat) : Int)) (0, []) = true := e1
  have e2 : impl_changed_impl_MoveBodies_1_loop0 (by'.X, by'.Y, by'.Z, sp.X, sp.Y, sp.Z, l, ((l.length : Nat) : Int)) (0, []) = mapB (fun b => impl_MoveBodies_1 b by'.X by'.Y by'.Z sp.X sp.Y sp.Z) l := e2
  obtain ⟨a1, a2⟩ := AreBodies_eq l (by omega)
  obtain ⟨b1, b2⟩ := asBodies_eq (mapB (fun b => impl_MoveBodies_1 b by'.X by'.Y by'.Z sp.X sp.Y sp.Z) l) (by rw [mapB_len]; exact hl) h2
  have c : impl_changed_impl_MoveBodies_1_need l by'.X by'.Y by'.Z sp.X sp.Y sp.Z = true ∧ impl_changed_impl_MoveBodies_1 l by'.X by'.Y by'.Z sp.X sp.Y sp.Z = .inr (mapB (fun b => impl_MoveBodies_1 b by'.X by'.Y by'.Z sp.X sp.Y sp.Z) l) := by
    unfold impl_changed_impl_MoveBodies_1_need impl_changed_impl_MoveBodies_1 impl_changed_impl_MoveBodies_1_tree
    simp only [DT.ok, DT.val, a1, a2, h1, e1, e2, b1, b2, isL]
    exact ⟨rfl, rfl⟩
  unfold impl_MoveBodies_need impl_MoveBodies impl_MoveBodies_tree
  simp only [DT.ok, DT.val, (isFiniteVector_eq _).1, (isFiniteVector_eq _).2, hb, hs, c.1, c.2, isL, rightD]
  exact ⟨rfl, rfl⟩

theorem turn_all (l : List Body) (hl : l.length ≤ 16) (t c s : Nat) (ht : isNum .f32 t = true) (hc : impl_SineTurns_need (fadd .f32 t 1048576000) = true ∧ impl_SineTurns (fadd .f32 t 1048576000) = c) (hs : impl_SineTurns_need t = true ∧ impl_SineTurns t = s) (h1 : okL l = true) (h2 : okL (mapB (fun b => impl_TurnBodies_2 b c s) l) = true) :
    impl_TurnBodies_need l t = true ∧ impl_TurnBodies l t = .inr (mapB (fun b => impl_TurnBodies_2 b c s) l) := by
  obtain ⟨e1, e2⟩ := map_loop (step := impl_changed_impl_TurnBodies_2_loop0_step (c, s, l, ((l.length : Nat) : Int))) l.length (fun j => impl_TurnBodies_2 (l.getD j default) c s) (fun x => x) (fun k hk acc ha => by
    refine ⟨[81], ?_⟩
    unfold impl_changed_impl_TurnBodies_2_loop0_step
    simp only [DT.get, nat_dec hk, nat_ge, Bool.and_true, Int.toNat_natCast, nat_next hk (show l.length ≤ 2 ^ 62 by omega), ha, List.length_singleton]
    rw [room (by omega) (by decide)]) (fun acc => ⟨[0], by
    unfold impl_changed_impl_TurnBodies_2_loop0_step
    simp only [DT.get, nat_not]⟩)
  have e1 : impl_changed_impl_TurnBodies_2_loop0_ends (c, s, l, ((l.length : Nat) : Int)) (0, []) = true := e1
  have e2 : impl_changed_impl_TurnBodies_2_loop0 (c, s, l, ((l.length : Nat) : Int)) (0, []) = mapB (fun b => impl_TurnBodies_2 b c s) l := e2
  obtain ⟨a1, a2⟩ := AreBodies_eq l (by omega)
  obtain ⟨b1, b2⟩ := asBodies_eq (mapB (fun b => impl_TurnBodies_2 b c s) l) (by rw [mapB_len]; exact hl) h2
  have cc : impl_changed_impl_TurnBodies_2_need l c s = true ∧ impl_changed_impl_TurnBodies_2 l c s = .inr (mapB (fun b => impl_TurnBodies_2 b c s) l) := by
    unfold impl_changed_impl_TurnBodies_2_need impl_changed_impl_TurnBodies_2 impl_changed_impl_TurnBodies_2_tree
    simp only [DT.ok, DT.val, a1, a2, h1, e1, e2, b1, b2, isL]
    exact ⟨rfl, rfl⟩
  unfold impl_TurnBodies_need impl_TurnBodies impl_TurnBodies_tree
  simp only [DT.ok, DT.val, IsFinite_need, IsFinite_eq, ht, hc.1, hc.2, hs.1, hs.2, cc.1, cc.2, isL, rightD]
  exact ⟨rfl, rfl⟩

theorem mirror_all (l : List Body) (hl : l.length ≤ 16) (h1 : okL l = true) (h2 : okL (mapB impl_MirrorBodies_1 l) = true) :
    impl_MirrorBodies_need l = true ∧ impl_MirrorBodies l = .inr (mapB impl_MirrorBodies_1 l) := by
  obtain ⟨e1, e2⟩ := map_loop (step := impl_changed_impl_MirrorBodies_1_loop0_step (l, ((l.length : Nat) : Int))) l.length (fun j => impl_MirrorBodies_1 (l.getD j default)) (fun x => x) (fun k hk acc ha => by
    refine ⟨[81], ?_⟩
    unfold impl_changed_impl_MirrorBodies_1_loop0_step
    simp only [DT.get, nat_dec hk, nat_ge, Bool.and_true, Int.toNat_natCast, nat_next hk (show l.length ≤ 2 ^ 62 by omega), ha, List.length_singleton]
    rw [room (by omega) (by decide)]) (fun acc => ⟨[0], by
    unfold impl_changed_impl_MirrorBodies_1_loop0_step
    simp only [DT.get, nat_not]⟩)
  have e1 : impl_changed_impl_MirrorBodies_1_loop0_ends (l, ((l.length : Nat) : Int)) (0, []) = true := e1
  have e2 : impl_changed_impl_MirrorBodies_1_loop0 (l, ((l.length : Nat) : Int)) (0, []) = mapB impl_MirrorBodies_1 l := e2
  obtain ⟨a1, a2⟩ := AreBodies_eq l (by omega)
  obtain ⟨b1, b2⟩ := asBodies_eq (mapB impl_MirrorBodies_1 l) (by rw [mapB_len]; exact hl) h2
  have cc : impl_changed_impl_MirrorBodies_1_need l = true ∧ impl_changed_impl_MirrorBodies_1 l = .inr (mapB impl_MirrorBodies_1 l) := by
    unfold impl_changed_impl_MirrorBodies_1_need impl_changed_impl_MirrorBodies_1 impl_changed_impl_MirrorBodies_1_tree
    simp only [DT.ok, DT.val, a1, a2, h1, e1, e2, b1, b2, isL]
    exact ⟨rfl, rfl⟩
  unfold impl_MirrorBodies_need impl_MirrorBodies impl_MirrorBodies_tree
  simp only [DT.ok, DT.val, cc.1, cc.2, isL, rightD]
  exact ⟨trivial, trivial⟩

/-! ## The same -/

theorem SameNumber_self {x : Nat} (hx : isNum .f32 x = true) : impl_SameNumber_need x x = true ∧ impl_SameNumber x x = true := by
  have hn : isNaN .f32 x = false := by
    obtain ⟨s, m, p, hd⟩ := isNum_iff.1 hx
    unfold isNaN; rw [hd]; rfl
  have hu : isNaN .f64 (fconv .f32 x .f64) = false := by rw [isNaN_up]; exact hn
  unfold impl_SameNumber_need impl_SameNumber impl_SameNumber_tree
  simp only [DT.ok, DT.val, fne_self, feq_self, hn, hu, fconvOk_up, Bool.not_false, beq_self_eq_true]
  exact ⟨trivial, trivial⟩

theorem SameVector_self {v : Vec} (hv : finV v = true) : impl_SameVector_need v v = true ∧ impl_SameVector v v = true := by
  unfold finV at hv
  simp only [Bool.and_eq_true] at hv
  obtain ⟨⟨hx, hy⟩, hz⟩ := hv
  have hget : ∀ k, k < 3 → isNum .f32 (List.getD [v.X, v.Y, v.Z] k default) = true := by
    intro k hk
    match k, hk with
    | 0, _ => exact hx
    | 1, _ => exact hy
    | 2, _ => exact hz
  obtain ⟨h1, h2⟩ := loop_post (step := slices_EqualFunc___float32___float32_float32_float32__impl_SameNumber_loop0_step ([v.X, v.Y, v.Z], [v.X, v.Y, v.Z], 3)) (fun s => ∃ k : Nat, k ≤ 3 ∧ s = (k : Int)) (fun s => (3 - s).toNat) (fun r => r = .inr ()) (by
    rintro s ⟨k, hk, rfl⟩
    rcases Nat.lt_or_ge k 3 with h | h
    · obtain ⟨g1, g2⟩ := SameNumber_self (hget k h)
      refine ⟨.inl ((k + 1 : Nat) : Int), [], ?_, ⟨k + 1, h, rfl⟩, by omega⟩
      have hl : decide (((k : Nat) : Int) < 3) = true := decide_eq_true (by omega)
      have hl2 : decide (((k : Nat) : Int) < ((List.length [v.X, v.Y, v.Z] : Nat) : Int)) = true := hl
      unfold slices_EqualFunc___float32___float32_float32_float32__impl_SameNumber_loop0_step
      simp only [DT.get, hl, hl2, nat_ge, Bool.and_true, Int.toNat_natCast, g1, g2, Bool.not_true, nat_next h (by decide)]
    · have : k = 3 := by omega
      subst this
      refine ⟨.inr (.inr ()), [], ?_, rfl⟩
      unfold slices_EqualFunc___float32___float32_float32_float32__impl_SameNumber_loop0_step
      simp only [DT.get]
      rfl) 0 ⟨0, by omega, rfl⟩
  have h1 : slices_EqualFunc___float32___float32_float32_float32__impl_SameNumber_loop0_ends ([v.X, v.Y, v.Z], [v.X, v.Y, v.Z], 3) 0 = true := h1
  have h2 : slices_EqualFunc___float32___float32_float32_float32__impl_SameNumber_loop0 ([v.X, v.Y, v.Z], [v.X, v.Y, v.Z], 3) 0 = .inr () := h2
  have key : slices_EqualFunc___float32___float32_float32_float32__impl_SameNumber_need [v.X, v.Y, v.Z] [v.X, v.Y, v.Z] = true ∧ slices_EqualFunc___float32___float32_float32_float32__impl_SameNumber [v.X, v.Y, v.Z] [v.X, v.Y, v.Z] = true := by
    have e : ((List.length [v.X, v.Y, v.Z] : Nat) : Int) = 3 := rfl
    unfold slices_EqualFunc___float32___float32_float32_float32__impl_SameNumber_need slices_EqualFunc___float32___float32_float32_float32__impl_SameNumber slices_EqualFunc___float32___float32_float32_float32__impl_SameNumber_tree
    simp only [DT.ok, DT.val, e, bne_self_eq_false, h1, h2, isL]
    exact ⟨trivial, trivial⟩
  have e : impl_Vector_numbers (⟨v.X, v.Y, v.Z⟩ : Vec) = [v.X, v.Y, v.Z] := rfl
  have key2 : impl_sameNumbers_need [v.X, v.Y, v.Z] [v.X, v.Y, v.Z] = true ∧ impl_sameNumbers [v.X, v.Y, v.Z] [v.X, v.Y, v.Z] = true := by
    unfold impl_sameNumbers_need impl_sameNumbers impl_sameNumbers_tree
    simp only [DT.ok, DT.val, key.1, key.2]
    exact ⟨trivial, trivial⟩
  unfold impl_SameVector_need impl_SameVector impl_SameVector_tree
  simp only [DT.ok, DT.val, e, key2.1, key2.2]
  exact ⟨trivial, trivial⟩

theorem SameBodies_self (l : List Body) (hl : l.length ≤ 16) (h : ∀ j, j < l.length → okB (l.getD j default) = true) : impl_SameBodies_need l l = true ∧ impl_SameBodies l l = true := by
  obtain ⟨h1, h2⟩ := loop_post (step := slices_EqualFunc___impl_Body___impl_Body_impl_Body_impl_Body__impl_SameBodies_1_loop0_step (l, l, ((l.length : Nat) : Int))) (fun s => ∃ k : Nat, k ≤ l.length ∧ s = (k : Int)) (fun s => ((l.length : Int) - s).toNat) (fun r => r = .inr ()) (by
    rintro s ⟨k, hk, rfl⟩
    rcases Nat.lt_or_ge k l.length with hlt | hge
    · have hb := h k hlt
      unfold okB at hb
      simp only [Bool.and_eq_true] at hb
      obtain ⟨⟨b1, b2⟩, b3, b4⟩ := hb
      obtain ⟨g1, g2⟩ := SameVector_self b1
      obtain ⟨g3, g4⟩ := SameVector_self b2
      obtain ⟨g5, g6⟩ := SameNumber_self b3
      have key : impl_SameBodies_1_need (l.getD k default) (l.getD k default) = true ∧ impl_SameBodies_1 (l.getD k default) (l.getD k default) = true := by
        unfold impl_SameBodies_1_need impl_SameBodies_1 impl_SameBodies_1_tree
        simp only [DT.ok, DT.val, g1, g2, g3, g4, g5, g6]
        exact ⟨trivial, trivial⟩
      refine ⟨.inl ((k + 1 : Nat) : Int), [], ?_, ⟨k + 1, hlt, rfl⟩, by omega⟩
      unfold slices_EqualFunc___impl_Body___impl_Body_impl_Body_impl_Body__impl_SameBodies_1_loop0_step
      simp only [DT.get, nat_dec hlt, nat_ge, Bool.and_true, Int.toNat_natCast, key.1, key.2, Bool.not_true, nat_next hlt (show l.length ≤ 2 ^ 62 by omega)]
    · have : k = l.length := by omega
      subst this
      refine ⟨.inr (.inr ()), [], ?_, rfl⟩
      unfold slices_EqualFunc___impl_Body___impl_Body_impl_Body_impl_Body__impl_SameBodies_1_loop0_step
      simp only [DT.get, nat_not]) 0 ⟨0, by omega, rfl⟩
  have h1 : slices_EqualFunc___impl_Body___impl_Body_impl_Body_impl_Body__impl_SameBodies_1_loop0_ends (l, l, ((l.length : Nat) : Int)) 0 = true := h1
  have h2 : slices_EqualFunc___impl_Body___impl_Body_impl_Body_impl_Body__impl_SameBodies_1_loop0 (l, l, ((l.length : Nat) : Int)) 0 = .inr () := h2
  have key : slices_EqualFunc___impl_Body___impl_Body_impl_Body_impl_Body__impl_SameBodies_1_need l l = true ∧ slices_EqualFunc___impl_Body___impl_Body_impl_Body_impl_Body__impl_SameBodies_1 l l = true := by
    unfold slices_EqualFunc___impl_Body___impl_Body_impl_Body_impl_Body__impl_SameBodies_1_need slices_EqualFunc___impl_Body___impl_Body_impl_Body_impl_Body__impl_SameBodies_1 slices_EqualFunc___impl_Body___impl_Body_impl_Body_impl_Body__impl_SameBodies_1_tree
    simp only [DT.ok, DT.val, bne_self_eq_false, h1, h2, isL]
    exact ⟨trivial, trivial⟩
  unfold impl_SameBodies_need impl_SameBodies impl_SameBodies_tree
  simp only [DT.ok, DT.val, key.1, key.2]
  exact ⟨trivial, trivial⟩

theorem neg_neg {x : Nat} (hx : isNum .f32 x = true) : fneg .f32 (fneg .f32 x) = x := by
  obtain ⟨s, m, p, hd⟩ := isNum_iff.1 hx
  have h1 := read_neg hd
  have n1 : isNum .f32 (Op.negFloat .f32 x) = true := isNum_iff.2 ⟨_, _, _, h1⟩
  have h2 := read_neg h1
  have n2 : isNum .f32 (Op.negFloat .f32 (Op.negFloat .f32 x)) = true := isNum_iff.2 ⟨_, _, _, h2⟩
  unfold fneg
  rw [canon_num' n1, canon_num' n2]
  unfold Op.negFloat
  rw [Nat.xor_assoc, Nat.xor_self, Nat.xor_zero]

theorem okB_mirror {b : Body} (h : okB b = true) : okB (impl_MirrorBodies_1 b) = true ∧ impl_MirrorBodies_1 (impl_MirrorBodies_1 b) = b := by
  unfold okB finV at h
  simp only [Bool.and_eq_true] at h
  obtain ⟨⟨⟨⟨a1, a2⟩, a3⟩, ⟨b1, b2⟩, b3⟩, c1, c2⟩ := h
  have e : impl_MirrorBodies_1 b = ⟨⟨b.At.X, b.At.Y, fneg .f32 b.At.Z⟩, ⟨b.Speed.X, b.Speed.Y, fneg .f32 b.Speed.Z⟩, b.Mass⟩ := rfl
  constructor
  · rw [e]
    unfold okB finV
    simp only [a1, a2, b1, b2, c1, c2, (R_neg a3).1, (R_neg b3).1, Bool.and_true]
  · rw [e]
    show (⟨⟨b.At.X, b.At.Y, fneg .f32 (fneg .f32 b.At.Z)⟩, ⟨b.Speed.X, b.Speed.Y, fneg .f32 (fneg .f32 b.Speed.Z)⟩, b.Mass⟩ : Body) = b
    rw [neg_neg a3, neg_neg b3]

end Go.Proofs.Ytkmcgfjhjfiomaa
