/- The plain law of FnLater, part 5: all places; an orbit and itself. -/
import Derived.Test.YtomdjbkididieaaL4
namespace Go.Proofs.Ytomdjbkididieaa
open Ieee
set_option linter.unusedVariables false
set_option linter.unusedSimpArgs false

/-! ## Places -/

noncomputable def phN (k n : Nat) : Nat := impl_narrowTurn (impl_wrap (fdiv .f64 (fofInt .f64 (k : Int)) (fofInt .f64 (n : Int))))
def frB (n k : Nat) : Bool := decide (n ≤ k) || atI .f64 (fdiv .f64 (fofInt .f64 (k : Int)) (fofInt .f64 (n : Int))) 0 1
theorem c_fr : ∀ n : Fin 13, ∀ k : Fin 13, frB n.val k.val = true := by decide +kernel

theorem ph_ok {n k : Nat} (hn : n ≤ 12) (hk : k < n) : impl_narrowTurn_need (impl_wrap (fdiv .f64 (fofInt .f64 (k : Int)) (fofInt .f64 (n : Int)))) = true ∧ turnB (phN k n) = true ∧ I .f32 (phN k n) (some (0, 1)) := by
  have c := c_fr ⟨n, by omega⟩ ⟨k, by omega⟩
  unfold frB at c
  rw [Bool.or_eq_true, decide_eq_true_eq] at c
  have hI : I .f64 (fdiv .f64 (fofInt .f64 (k : Int)) (fofInt .f64 (n : Int))) (some (0, 1)) := by
    rcases c with c | c
    · exact absurd (show n ≤ k from c) (by omega)
    · exact I.at c
  unfold phN
  generalize fdiv .f64 (fofInt .f64 (k : Int)) (fofInt .f64 (n : Int)) = y at *
  have ew : impl_wrap y = fsub .f64 y (ffloor y) := rfl
  rw [ew]
  obtain ⟨w1, w2, w3, -⟩ := wrap_near (hI.mono (by decide +kernel) (by decide +kernel))
  exact narrow_I w1 w2 (by grind)

noncomputable def phO (o : Orbit) (k n : Nat) : Orbit := ⟨o.Long, o.Round, o.Tilt, o.Node, o.Peri, phN k n⟩
noncomputable def plN (o : Orbit) (m n k : Nat) : Vec := (impl_StateOf (phO o k n) m).1

/-- What is known of a place. -/
structure Plc (o : Orbit) (v : Vec) : Prop where
  fin : finV v = true
  sz : R .f32 v.X * R .f32 v.X + R .f32 v.Y * R .f32 v.Y + R .f32 v.Z * R .f32 v.Z ≤ 51
  num : isNum .f32 (rootN (innerN v.X v.Y v.Z)) = true
  lo : R .f32 o.Long * (1 - R .f32 o.Round) - 8 / 10000 ≤ R .f32 (rootN (innerN v.X v.Y v.Z))
  hi : R .f32 (rootN (innerN v.X v.Y v.Z)) ≤ R .f32 o.Long * (1 + R .f32 o.Round) + 8 / 10000

theorem place_ok {o : Orbit} {m n k : Nat} (h : OrbE o) (hm : I .f32 m (some (1 / 2, 4))) (hn : n ≤ 12) (hk : k < n) : impl_StateOf_need (phO o k n) m = true ∧ (∃ sp, impl_StateOf (phO o k n) m = (plN o m n k, sp, true)) ∧ Plc o (plN o m n k) := by
  obtain ⟨-, p1, p2⟩ := ph_ok hn hk
  have hO : OrbE (phO o k n) := h.phased p1 p2
  obtain ⟨s1, v, sp, s2, s3, C, hC, s4⟩ := state_E hO hm
  have e : plN o m n k = v := by unfold plN; rw [s2]
  have b := place_between hO s3 hC s4
  rw [e]
  have hl := h.long.2
  have hr := h.round.2
  have eL : (phO o k n).Long = o.Long := rfl
  have eR : (phO o k n).Round = o.Round := rfl
  rw [eL, eR] at b s4
  refine ⟨s1, ⟨sp, s2⟩, s3, ?_, b.1, b.2.1, b.2.2⟩
  have hA16 : R .f32 o.Long * R .f32 o.Long ≤ 16 := by have := sq_le (a := R .f32 o.Long) (b := 4) (by grind) hl.2; grind
  have hG8 : R .f32 o.Long * (1 - R .f32 o.Round * C) * (R .f32 o.Long * (1 - R .f32 o.Round * C)) ≤ 4999 / 100 := by
    have b1 : Bd (1 - R .f32 o.Round * C) (17501 / 10000) := by
      have := Bd.mul (show Bd (R .f32 o.Round) (3 / 4) by unfold Bd; constructor <;> grind) hC
      unfold Bd at *
      constructor <;> grind
    have b2 := Bd.mul (show Bd (R .f32 o.Long) 4 by unfold Bd; constructor <;> grind) b1
    have b3 := sq_bd b2
    grind
  unfold Nr at s4
  grind

theorem places_eq {o : Orbit} {m n : Nat} (h : OrbE o) (hm : I .f32 m (some (1 / 2, 4))) (h1 : 1 ≤ n) (hn : n ≤ 12) : impl_PlacesOf_need o m (n : Int) = true ∧ impl_PlacesOf o m (n : Int) = .inr ((List.range n).map (plN o m n)) := by
  obtain ⟨a1, a2⟩ := around_I h.ok hm
  have hlt : flt .f32 o.Long 0 = false := I.not_lt h.long k_zero32 (by decide +kernel)
  have hw : impl_within (n : Int) 1 64 = true := by
    unfold impl_within impl_within_tree
    rw [decide_eq_true (show (1 : Int) ≤ (n : Int) by omega), decide_eq_true (show (n : Int) ≤ 64 by omega)]
    rfl
  obtain ⟨e1, e2⟩ := loop_post (step := impl_PlacesOf_loop0_step (m, (n : Int), (n : Int), o.Long, o.Round, o.Tilt, o.Node, o.Peri)) (fun s => ∃ k : Nat, k ≤ n ∧ s.1 = (k : Int) ∧ s.2.2 = (List.range k).map (plN o m n)) (fun s => ((n : Int) - s.1).toNat) (fun r => r = .inr ((List.range n).map (plN o m n))) (by
    rintro ⟨i, ph, l⟩ ⟨k, hk, hi, hl⟩
    simp only at hi hl
    subst hi hl
    rcases Nat.lt_or_ge k n with hkn | hkn
    · obtain ⟨q1, -, -⟩ := ph_ok hn hkn
      obtain ⟨s1, ⟨sp, s2⟩, s3⟩ := place_ok h hm hn hkn
      have ep : impl_narrowTurn (impl_wrap (fdiv .f64 (fofInt .f64 (k : Int)) (fofInt .f64 (n : Int)))) = phN k n := rfl
      have eo : (⟨o.Long, o.Round, o.Tilt, o.Node, o.Peri, phN k n⟩ : Orbit) = phO o k n := rfl
      have ev : (⟨(plN o m n k).X, (plN o m n k).Y, (plN o m n k).Z⟩ : Vec) = plN o m n k := rfl
      refine ⟨.inl (((k + 1 : Nat) : Int), phN k n, (List.range k).map (plN o m n) ++ [plN o m n k]), [0, 234], ?_, ⟨k + 1, hkn, rfl, range_succ _ _⟩, by show ((n : Int) - ((k + 1 : Nat) : Int)).toNat < ((n : Int) - ((k : Nat) : Int)).toNat; omega⟩
      unfold impl_PlacesOf_loop0_step
      simp only [nat_dec hkn, q1, ep, eo, s1, s2, ev, Bool.not_true, nat_next hkn (show n ≤ 2 ^ 62 by omega), List.length_singleton, List.length_map, List.length_range]
      simp only [DT.get]
      rw [room (by omega) (by decide)]
    · have : k = n := by omega
      subst this
      refine ⟨.inr (.inr ((List.range k).map (plN o m k))), [1], ?_, rfl⟩
      unfold impl_PlacesOf_loop0_step
      simp only [nat_not]
      simp only [DT.get]) (0, o.Phase, []) ⟨0, by omega, rfl, rfl⟩
  have e1 : impl_PlacesOf_loop0_ends (m, (n : Int), (n : Int), o.Long, o.Round, o.Tilt, o.Node, o.Peri) (0, o.Phase, []) = true := e1
  have e2 : impl_PlacesOf_loop0 (m, (n : Int), (n : Int), o.Long, o.Round, o.Tilt, o.Node, o.Peri) (0, o.Phase, []) = .inr ((List.range n).map (plN o m n)) := e2
  have eo : (⟨o.Long, o.Round, o.Tilt, o.Node, o.Peri, o.Phase⟩ : Orbit) = o := rfl
  unfold impl_PlacesOf_need impl_PlacesOf impl_PlacesOf_tree
  simp only [eo, a1, a2, hlt, hw, e1, e2, isL, rightD, Bool.not_true]
  simp only [DT.ok, DT.val]
  exact ⟨trivial, trivial⟩

/-! ## Between places -/

theorem sub_nought {x : Nat} (hx : isNum .f32 x = true) : Nought (fsub .f32 x x) := by
  obtain ⟨s, a, p, hx⟩ := isNum_iff.1 hx
  unfold fsub Format.sub
  rw [hx]
  obtain ⟨r, m, b, h1, h2⟩ := sum_rv (s := s) (u := !s) (a := a) (c := a) (p := p) (q := p)
  have h3 := rv_opp s a p
  rw [show (Datum.number s a p).opposite = .number (!s) a p from rfl] at h3 ⊢
  rw [h3] at h2
  have h4 : rv (.number r m b) = 0 := by grind
  rw [h1]
  show Nought (canon .f32 (FloatKind.f32.format.nearest r m b))
  rw [zero_mant h4]
  exact word_zero _ _

theorem none_size {x y z : Nat} (hx : Nought x) (hy : Nought y) (hz : Nought z) : isNum .f32 (rootN (innerN x y z)) = true ∧ R .f32 (rootN (innerN x y z)) = 0 := by
  rcases hx with rfl | rfl <;> rcases hy with rfl | rfl <;> rcases hz with rfl | rfl <;> decide +kernel

theorem own_none {v : Vec} (h : finV v = true) : isNum .f32 (impl_SizeOfVector (impl_LessVectors v v)) = true ∧ R .f32 (impl_SizeOfVector (impl_LessVectors v v)) = 0 := by
  unfold finV at h
  simp only [Bool.and_eq_true] at h
  rw [Size_eq, Less_eq]
  exact none_size (sub_nought h.1.1) (sub_nought h.1.2) (sub_nought h.2)

theorem apart_num {v w : Vec} (h : finV v = true) (hs : R .f32 v.X * R .f32 v.X + R .f32 v.Y * R .f32 v.Y + R .f32 v.Z * R .f32 v.Z ≤ 51) (g : finV w = true) (gs : R .f32 w.X * R .f32 w.X + R .f32 w.Y * R .f32 w.Y + R .f32 w.Z * R .f32 w.Z ≤ 51) :
    isNum .f32 (impl_SizeOfVector (impl_LessVectors v w)) = true ∧ 0 ≤ R .f32 (impl_SizeOfVector (impl_LessVectors v w)) := by
  unfold finV at h g
  simp only [Bool.and_eq_true] at h g
  have sq := fun a : Rat => sq_nonneg a
  have p : ∀ {a : Rat}, a * a ≤ 51 → -8 ≤ a ∧ a ≤ 8 := fun {a} ha => by
    have := (part_bd (a := a) (b := 0) (by grind)).1
    unfold Bd at this
    constructor <;> grind
  have vx := p (a := R .f32 v.X) (by have := sq (R .f32 v.Y); have := sq (R .f32 v.Z); grind)
  have vy := p (a := R .f32 v.Y) (by have := sq (R .f32 v.X); have := sq (R .f32 v.Z); grind)
  have vz := p (a := R .f32 v.Z) (by have := sq (R .f32 v.X); have := sq (R .f32 v.Y); grind)
  have wx := p (a := R .f32 w.X) (by have := sq (R .f32 w.Y); have := sq (R .f32 w.Z); grind)
  have wy := p (a := R .f32 w.Y) (by have := sq (R .f32 w.X); have := sq (R .f32 w.Z); grind)
  have wz := p (a := R .f32 w.Z) (by have := sq (R .f32 w.X); have := sq (R .f32 w.Y); grind)
  have s : ∀ {x y : Nat}, I .f32 x (some (-8, 8)) → I .f32 y (some (-8, 8)) → I .f32 (fsub .f32 x y) (some (-20, 20)) := fun hx hy => (I.sub hx hy).to (by decide +kernel)
  exact size_num (M := 20) (by decide +kernel) (s ⟨h.1.1, vx⟩ ⟨g.1.1, wx⟩) (s ⟨h.1.2, vy⟩ ⟨g.1.2, wy⟩) (s ⟨h.2, vz⟩ ⟨g.2, wz⟩)

/-- The nearest pair so far. -/
def NS (s : Int × Int × Nat × Int) (i : Nat) : Prop := s.2.2.2 = (i : Int) ∧ ((i = 0 ∧ s.1 = -1) ∨ (s.1 = 0 ∧ s.2.1 = 0 ∧ isNum .f32 s.2.2.1 = true ∧ R .f32 s.2.2.1 = 0))
def NR (r : Int × Int × Nat) : Prop := r.1 = 0 ∧ r.2.1 = 0 ∧ isNum .f32 r.2.2 = true ∧ R .f32 r.2.2 = 0

theorem row_ok {g : Nat → Vec} {n : Nat} {c : Int} (h1 : 1 ≤ n) (hn : n ≤ 12) (hf : ∀ k, k < n → finV (g k) = true) (hs : ∀ k, k < n → R .f32 (g k).X * R .f32 (g k).X + R .f32 (g k).Y * R .f32 (g k).Y + R .f32 (g k).Z * R .f32 (g k).Z ≤ 51) {r : Nat} (hr : r < n) {s : Int × Int × Nat × Int}
    (h0 : s.2.2.2 = 0) (hi : (r = 0 ∧ s.1 = -1) ∨ (s.1 = 0 ∧ s.2.1 = 0 ∧ isNum .f32 s.2.2.1 = true ∧ R .f32 s.2.2.1 = 0)) :
    impl_NearestOrbits_loop1_ends ((r : Int), c, (r : Int), (n : Int), (List.range n).map g, (g r).X, (g r).Y, (g r).Z, (List.range n).map g) s = true ∧ NR (impl_NearestOrbits_loop1 ((r : Int), c, (r : Int), (n : Int), (List.range n).map g, (g r).X, (g r).Y, (g r).Z, (List.range n).map g) s) := by
  have gd : ∀ k, k < n → ((List.range n).map g).getD k default = g k := fun k hk => by
    rw [List.getD_eq_getElem?_getD]
    simp [hk]
  have z0 : isNum .f32 0 = true ∧ R .f32 0 = 0 := by decide +kernel
  refine loop_post (step := impl_NearestOrbits_loop1_step ((r : Int), c, (r : Int), (n : Int), (List.range n).map g, (g r).X, (g r).Y, (g r).Z, (List.range n).map g)) (fun s => ∃ i : Nat, i ≤ n ∧ s.2.2.2 = (i : Int) ∧ ((i = 0 ∧ r = 0 ∧ s.1 = -1) ∨ (s.1 = 0 ∧ s.2.1 = 0 ∧ isNum .f32 s.2.2.1 = true ∧ R .f32 s.2.2.1 = 0))) (fun s => ((n : Int) - s.2.2.2).toNat) NR ?_ s
    ⟨0, by omega, h0, by rcases hi with ⟨a, b⟩ | hi; exact .inl ⟨rfl, a, b⟩; exact .inr hi⟩
  rintro ⟨x, y, b, j⟩ ⟨i, hin, hj, hcase⟩
  simp only at hj hcase
  subst hj
  rcases Nat.lt_or_ge i n with hlt | hge
  · have hd3 : decide (i < n) = true := decide_eq_true hlt
    have er : (⟨(g r).X, (g r).Y, (g r).Z⟩ : Vec) = g r := rfl
    have ei : (⟨(g i).X, (g i).Y, (g i).Z⟩ : Vec) = g i := rfl
    have el : (⟨(impl_LessVectors (g i) (g r)).X, (impl_LessVectors (g i) (g r)).Y, (impl_LessVectors (g i) (g r)).Z⟩ : Vec) = impl_LessVectors (g i) (g r) := rfl
    rcases hcase with ⟨i0, r0, hx⟩ | ⟨hx, hy, hb, hb0⟩
    · subst i0 r0 hx
      obtain ⟨o1, o2⟩ := own_none (hf 0 hlt)
      refine ⟨.inl (((0 : Nat) : Int), ((0 : Nat) : Int), impl_SizeOfVector (impl_LessVectors (g 0) (g 0)), ((0 + 1 : Nat) : Int)), [0, 1, 2], ?_, ⟨0 + 1, by omega, rfl, .inr ⟨rfl, rfl, o1, o2⟩⟩, by show ((n : Int) - ((0 + 1 : Nat) : Int)).toNat < ((n : Int) - ((0 : Nat) : Int)).toNat; omega⟩
      unfold impl_NearestOrbits_loop1_step
      simp only [nat_dec hlt, List.length_map, List.length_range, nat_ge, Bool.and_true, Int.toNat_natCast, hd3, gd 0 hlt, er, el, Size_need, nat_next hlt (show n ≤ 2 ^ 62 by omega)]
      simp only [DT.get, show decide ((-1 : Int) < 0) = true from rfl]
    · subst hx hy
      obtain ⟨o1, o2⟩ := apart_num (hf i hlt) (hs i hlt) (hf r hr) (hs r hr)
      have hn2 : flt .f32 (impl_SizeOfVector (impl_LessVectors (g i) (g r))) b = false := by
        rw [flt_R o1 hb, hb0]
        exact decide_eq_false (by grind)
      refine ⟨.inl (0, 0, b, ((i + 1 : Nat) : Int)), [0, 1, 2], ?_, ⟨i + 1, hlt, rfl, .inr ⟨rfl, rfl, hb, hb0⟩⟩, by show ((n : Int) - ((i + 1 : Nat) : Int)).toNat < ((n : Int) - ((i : Nat) : Int)).toNat; omega⟩
      unfold impl_NearestOrbits_loop1_step
      simp only [nat_dec hlt, List.length_map, List.length_range, nat_ge, Bool.and_true, Int.toNat_natCast, hd3, gd i hlt, ei, er, el, Size_need, hn2, nat_next hlt (show n ≤ 2 ^ 62 by omega)]
      simp only [DT.get, show decide ((0 : Int) < 0) = false from rfl]
  · have : i = n := by omega
    subst this
    rcases hcase with ⟨i0, -, -⟩ | ⟨hx, hy, hb, hb0⟩
    · omega
    · refine ⟨.inr (x, y, b), [0, 2], ?_, hx, hy, hb, hb0⟩
      unfold impl_NearestOrbits_loop1_step
      simp only [nat_not]
      simp only [DT.get]

theorem all_ok {g : Nat → Vec} {n : Nat} (h1 : 1 ≤ n) (hn : n ≤ 12) (hf : ∀ k, k < n → finV (g k) = true) (hs : ∀ k, k < n → R .f32 (g k).X * R .f32 (g k).X + R .f32 (g k).Y * R .f32 (g k).Y + R .f32 (g k).Z * R .f32 (g k).Z ≤ 51) :
    impl_NearestOrbits_loop0_ends ((n : Int), (List.range n).map g, (List.range n).map g) (-1, -1, 0, 0) = true ∧ NR (impl_NearestOrbits_loop0 ((n : Int), (List.range n).map g, (List.range n).map g) (-1, -1, 0, 0)) := by
  have gd : ∀ k, k < n → ((List.range n).map g).getD k default = g k := fun k hk => by
    rw [List.getD_eq_getElem?_getD]
    simp [hk]
  refine loop_post (step := impl_NearestOrbits_loop0_step ((n : Int), (List.range n).map g, (List.range n).map g)) (fun s => ∃ i : Nat, i ≤ n ∧ s.2.2.2 = (i : Int) ∧ ((i = 0 ∧ s.1 = -1) ∨ (s.1 = 0 ∧ s.2.1 = 0 ∧ isNum .f32 s.2.2.1 = true ∧ R .f32 s.2.2.1 = 0))) (fun s => ((n : Int) - s.2.2.2).toNat) NR ?_ (-1, -1, 0, 0)
    ⟨0, by omega, rfl, .inl ⟨rfl, rfl⟩⟩
  rintro ⟨x, y, b, j⟩ ⟨i, hin, hj, hcase⟩
  simp only at hj hcase
  subst hj
  rcases Nat.lt_or_ge i n with hlt | hge
  · have hd3 : decide (i < n) = true := decide_eq_true hlt
    obtain ⟨r1, r2⟩ := row_ok (c := (n : Int)) h1 hn hf hs hlt (s := (x, y, b, 0)) rfl (by
      rcases hcase with ⟨a, c⟩ | h
      · exact .inl ⟨a, c⟩
      · exact .inr h)
    refine ⟨.inl ((impl_NearestOrbits_loop1 ((i : Int), (n : Int), (i : Int), (n : Int), (List.range n).map g, (g i).X, (g i).Y, (g i).Z, (List.range n).map g) (x, y, b, 0)).1, (impl_NearestOrbits_loop1 ((i : Int), (n : Int), (i : Int), (n : Int), (List.range n).map g, (g i).X, (g i).Y, (g i).Z, (List.range n).map g) (x, y, b, 0)).2.1, (impl_NearestOrbits_loop1 ((i : Int), (n : Int), (i : Int), (n : Int), (List.range n).map g, (g i).X, (g i).Y, (g i).Z, (List.range n).map g) (x, y, b, 0)).2.2, ((i + 1 : Nat) : Int)), [0, 1], ?_, ⟨i + 1, hlt, rfl, .inr r2⟩, by show ((n : Int) - ((i + 1 : Nat) : Int)).toNat < ((n : Int) - ((i : Nat) : Int)).toNat; omega⟩
    unfold impl_NearestOrbits_loop0_step
    simp only [nat_dec hlt, List.length_map, List.length_range, nat_ge, Bool.and_true, Int.toNat_natCast, hd3, gd i hlt, r1, nat_next hlt (show n ≤ 2 ^ 62 by omega)]
    simp only [DT.get]
  · have : i = n := by omega
    subst this
    rcases hcase with ⟨i0, -⟩ | ⟨hx, hy, hb, hb0⟩
    · omega
    · refine ⟨.inr (x, y, b), [], ?_, hx, hy, hb, hb0⟩
      unfold impl_NearestOrbits_loop0_step
      simp only [nat_not]
      simp only [DT.get]

theorem nearest_eq {o : Orbit} {m n : Nat} (h : OrbE o) (hm : I .f32 m (some (1 / 2, 4))) (h1 : 1 ≤ n) (hn : n ≤ 12) : impl_NearestOrbits_need o o m (n : Int) = true ∧ ∃ b, impl_NearestOrbits o o m (n : Int) = (0, 0, b, true) ∧ isNum .f32 b = true ∧ R .f32 b = 0 := by
  obtain ⟨p1, p2⟩ := places_eq h hm h1 hn
  obtain ⟨l1, l2⟩ := all_ok h1 hn (fun k hk => (place_ok h hm hn hk).2.2.fin) (fun k hk => (place_ok h hm hn hk).2.2.sz)
  have eo : (⟨o.Long, o.Round, o.Tilt, o.Node, o.Peri, o.Phase⟩ : Orbit) = o := rfl
  obtain ⟨n1, n2, n3, n4⟩ := l2
  have hlen : (((List.range n).map (plN o m n)).length : Int) = (n : Int) := by simp
  refine ⟨?_, (impl_NearestOrbits_loop0 ((n : Int), (List.range n).map (plN o m n), (List.range n).map (plN o m n)) (-1, -1, 0, 0)).2.2, ?_, n3, n4⟩
  · unfold impl_NearestOrbits_need impl_NearestOrbits_tree
    simp only [eo, p1, p2, isL, rightD, hlen, l1, IsFinite_need, IsFinite_eq, n3, Bool.not_true]
    simp only [DT.ok]
  · unfold impl_NearestOrbits impl_NearestOrbits_tree
    simp only [eo, p2, isL, rightD, hlen, IsFinite_eq, n3, n1, n2, Bool.not_true]
    simp only [DT.val]

end Go.Proofs.Ytomdjbkididieaa
