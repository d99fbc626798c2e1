/- The law of catalogs, part 6: what is drawn. -/
import Derived.Test.YtnmeiodaeaabfaaK5
namespace Go.Proofs.Ytnmeiodaeaabfaa
set_option linter.unusedVariables false
set_option linter.unusedSimpArgs false

/-! ## What is drawn -/

def Bytes (c : List Int) : Prop := c.length ≤ 1048576 ∧ ∀ x ∈ c, 0 ≤ x ∧ x ≤ 255

theorem Bytes.at {c : List Int} (h : Bytes c) (i : Nat) (hi : i < c.length) : 0 ≤ c.getD i default ∧ c.getD i default ≤ 255 := by
  rw [List.getD_eq_getElem?_getD, List.getElem?_eq_getElem hi]
  exact h.2 _ (List.getElem_mem hi)

theorem and255 (y : Int) : 0 ≤ IntKind.wrap .i64 (IntKind.wrap .u64 ((BitVec.ofInt (IntKind.bits .u64) y &&& BitVec.ofInt (IntKind.bits .u64) 255).toNat : Int)) ∧ IntKind.wrap .i64 (IntKind.wrap .u64 ((BitVec.ofInt (IntKind.bits .u64) y &&& BitVec.ofInt (IntKind.bits .u64) 255).toNat : Int)) ≤ 255 := by
  have h : (BitVec.ofInt (IntKind.bits .u64) y &&& BitVec.ofInt (IntKind.bits .u64) 255).toNat ≤ 255 := by
    rw [BitVec.toNat_and]
    exact Nat.le_trans Nat.and_le_right (by decide)
  generalize (BitVec.ofInt (IntKind.bits .u64) y &&& BitVec.ofInt (IntKind.bits .u64) 255).toNat = t at *
  have e : IntKind.wrap .u64 ((t : Nat) : Int) = ((t : Nat) : Int) := by
    show ((t : Nat) : Int) % 18446744073709551616 = _
    omega
  rw [e, wrap_small (by omega) (by omega)]
  omega

theorem next_ok {c : List Int} (hc : Bytes c) {a : Int} (s : Int) (h0 : 0 ≤ a) (h1 : a ≤ 2 ^ 40) : ∃ v s', (spec_l00Src_next_tree c a s).get = some (v, a + 1, s') ∧ 0 ≤ v ∧ v ≤ 255 := by
  have hl := hc.1
  have hw : IntKind.wrap .i64 (a + 1) = a + 1 := wrap_small (by omega) (by omega)
  unfold spec_l00Src_next_tree
  simp only [hw]
  by_cases hlt : a < ((c.length : Nat) : Int)
  · have d1 : decide (a < ((c.length : Nat) : Int)) = true := decide_eq_true hlt
    have d2 : decide (0 ≤ a) = true := decide_eq_true h0
    have d3 : decide (a + 1 ≤ ((c.length : Nat) : Int)) = true := decide_eq_true (by omega)
    have hb := hc.at a.toNat (by omega)
    simp only [DT.get, d1, d2, d3, Bool.and_true]
    refine ⟨_, _, rfl, ?_⟩
    rw [wrap_small (by omega) (by omega)]
    exact hb
  · have d1 : decide (a < ((c.length : Nat) : Int)) = false := decide_eq_false hlt
    have d3 : decide (a + 1 ≤ ((c.length : Nat) : Int)) = false := decide_eq_false (by omega)
    simp only [DT.get, d1, d3]
    exact ⟨_, _, rfl, and255 _⟩

theorem next_eq {c : List Int} (hc : Bytes c) {a : Int} (s : Int) (h0 : 0 ≤ a) (h1 : a ≤ 2 ^ 40) : ∃ v s', spec_l00Src_next_need c a s = true ∧ spec_l00Src_next c a s = (v, a + 1, s') ∧ 0 ≤ v ∧ v ≤ 255 := by
  obtain ⟨v, s', h, hv⟩ := next_ok hc s h0 h1
  obtain ⟨k1, k2⟩ := DT.of_get h
  exact ⟨v, s', k1, k2, hv⟩

theorem pick_eq {c : List Int} (hc : Bytes c) {a : Int} (s : Int) {n : Int} (h0 : 0 ≤ a) (h1 : a ≤ 2 ^ 39) (hn : 2 ≤ n) (hn2 : n ≤ 2 ^ 40) :
    ∃ v a' s', spec_l00Src_pick_need c a s n = true ∧ spec_l00Src_pick c a s n = (v, a', s') ∧ 0 ≤ v ∧ v < n ∧ a ≤ a' ∧ a' ≤ a + 2 := by
  obtain ⟨v, s1, n1, n2, hv0, hv1⟩ := next_eq hc s h0 (by omega)
  have d1 : decide (n ≤ 1) = false := decide_eq_false (by omega)
  have d3 : (n != 0) = true := by simp; omega
  have key : ∃ v a' s', (spec_l00Src_pick_tree c a s n).get = some (v, a', s') ∧ 0 ≤ v ∧ v < n ∧ a ≤ a' ∧ a' ≤ a + 2 := by
    unfold spec_l00Src_pick_tree
    by_cases hg : n > 200
    · have d2 : decide (n > 200) = true := decide_eq_true hg
      obtain ⟨v2, s2, m1, m2, hw0, hw1⟩ := next_eq hc s1 (a := a + 1) (by omega) (by omega)
      simp only [DT.get, d1, n1, n2, d2, m1, m2, d3]
      refine ⟨_, _, _, rfl, ?_, ?_, by omega, by omega⟩
      · rw [wrap_small (n := v * 256) (by omega) (by omega), wrap_small (by omega) (by omega)]
        exact Int.tmod_nonneg _ (by omega)
      · exact Int.tmod_lt_of_pos _ (by omega)
    · have d2 : decide (n > 200) = false := decide_eq_false hg
      simp only [DT.get, d1, n1, n2, d2, d3]
      exact ⟨_, _, _, rfl, Int.tmod_nonneg _ hv0, Int.tmod_lt_of_pos _ (by omega), by omega, by omega⟩
  obtain ⟨v, a', s', h, hv⟩ := key
  obtain ⟨k1, k2⟩ := DT.of_get h
  exact ⟨v, a', s', k1, k2, hv⟩

theorem one_eq {c : List Int} (hc : Bytes c) {a : Int} (s : Int) {n : Int} (h0 : 0 ≤ a) (h1 : a ≤ 2 ^ 39) (hn : 2 ≤ n) (hn2 : n ≤ 2 ^ 40) :
    ∃ b a' s', spec_l00Src_one_need c a s n = true ∧ spec_l00Src_one c a s n = (b, a', s') ∧ a ≤ a' ∧ a' ≤ a + 2 := by
  obtain ⟨v, a', s', p1, p2, _, _, h⟩ := pick_eq hc s h0 h1 hn hn2
  have key : (spec_l00Src_one_tree c a s n).get = some (v == 0, a', s') := by
    unfold spec_l00Src_one_tree
    simp only [DT.get, p1, p2]
  obtain ⟨k1, k2⟩ := DT.of_get key
  exact ⟨_, a', s', k1, k2, h⟩

theorem text_eq {c : List Int} (hc : Bytes c) {a : Int} (s : Int) (l : List (List UInt8)) (h0 : 0 ≤ a) (h1 : a ≤ 2 ^ 39) (hn : 2 ≤ l.length) (hn2 : l.length ≤ 2 ^ 40) :
    ∃ x a' s', spec_l00Src_text_need c a s l = true ∧ spec_l00Src_text c a s l = (x, a', s') ∧ x ∈ l ∧ a ≤ a' ∧ a' ≤ a + 2 := by
  obtain ⟨v, a', s', p1, p2, hv0, hv1, h⟩ := pick_eq hc s (n := ((l.length : Nat) : Int)) h0 h1 (by omega) (by omega)
  have d : (decide (0 ≤ v) && decide (v < ((l.length : Nat) : Int))) = true := by rw [decide_eq_true hv0, decide_eq_true hv1]; rfl
  have key : (spec_l00Src_text_tree c a s l).get = some (l.getD v.toNat default, a', s') := by
    unfold spec_l00Src_text_tree
    simp only [DT.get, p1, p2, d]
  obtain ⟨k1, k2⟩ := DT.of_get key
  exact ⟨_, a', s', k1, k2, getD_mem (by omega), h⟩

/-! ## Orbits -/

theorem q_long : ∀ k : Fin 16, (fun x => isNum .f32 x && fgt .f32 x 0 && decide (x < 4294967296) && isNum .f32 (fneg .f32 x) && !fgt .f32 (fneg .f32 x) 0 && flt .f32 (fneg .f32 x) 0 && decide (fneg .f32 x < 4294967296)) (fdiv .f32 (fofInt .f32 (IntKind.wrap .i64 (1 + (k.val : Int)))) 1082130432) = true := by decide +kernel
theorem q_round : ∀ k : Fin 8, (fun x => isNum .f32 x && fge .f32 x 0 && flt .f32 x 1065353216 && decide (x < 4294967296)) (fdiv .f32 (fofInt .f32 (k.val : Int)) 1090519040) = true := by decide +kernel
theorem q_tilt : ∀ k : Fin 17, (fun x => fge .f32 x 0 && fle .f32 x 1056964608 && decide (x < 4294967296)) (fdiv .f32 (fofInt .f32 (k.val : Int)) 1107296256) = true := by decide +kernel
theorem q_turn : ∀ k : Fin 32, (fun x => turnB x && decide (x < 4294967296)) (fdiv .f32 (fofInt .f32 (k.val : Int)) 1107296256) = true := by decide +kernel
theorem q_phase : ∀ k : Fin 64, (fun x => turnB x && decide (x < 4294967296)) (fdiv .f32 (fofInt .f32 (k.val : Int)) 1115684864) = true := by decide +kernel
theorem q_over : ∀ k : Fin 8, (fun x => isNum .f32 x && fgt .f32 x 1065353216 && decide (x < 4294967296)) (fadd .f32 1065353216 (fdiv .f32 (fofInt .f32 (IntKind.wrap .i64 (1 + (k.val : Int)))) 1082130432)) = true := by decide +kernel
theorem q_far : ∀ k : Fin 33, (fun x => fge .f32 x 3246391296 && fle .f32 x 1098907648 && decide (x < 4294967296)) (fdiv .f32 (fofInt .f32 (IntKind.wrap .i64 ((k.val : Int) - 16))) 1090519040) = true := by decide +kernel
theorem q_mass : ∀ k : Fin 8, (fun x => decide (x < 4294967296)) (fdiv .f32 (fofInt .f32 (IntKind.wrap .i64 (1 + (k.val : Int)))) 1073741824) = true := by decide +kernel

theorem fin_of {v : Int} {n : Nat} (h0 : 0 ≤ v) (h1 : v < (n : Int)) : ∃ k : Fin n, v = (k.val : Int) := ⟨⟨v.toNat, by omega⟩, by show v = ((v.toNat : Nat) : Int); omega⟩

def wordsO (o : Orbit) : Prop := o.Long < 2 ^ 32 ∧ o.Round < 2 ^ 32 ∧ o.Tilt < 2 ^ 32 ∧ o.Node < 2 ^ 32 ∧ o.Peri < 2 ^ 32 ∧ o.Phase < 2 ^ 32

theorem drawOk_eq {c : List Int} (hc : Bytes c) {a : Int} (s : Int) (h0 : 0 ≤ a) (h1 : a ≤ 2 ^ 38) :
    ∃ o a' s', spec_l03DrawOk_need c a s = true ∧ spec_l03DrawOk c a s = (o, a', s') ∧ validO o = true ∧ wordsO o ∧ a ≤ a' ∧ a' ≤ a + 18 := by
  obtain ⟨v1, a1, s1, m1, e1, l1, u1, p1, r1⟩ := pick_eq hc s (n := 16) h0 (by omega) (by omega) (by omega)
  obtain ⟨v2, a2, s2, m2, e2, l2, u2, p2, r2⟩ := pick_eq hc s1 (a := a1) (n := 8) (by omega) (by omega) (by omega) (by omega)
  obtain ⟨v3, a3, s3, m3, e3, l3, u3, p3, r3⟩ := pick_eq hc s2 (a := a2) (n := 17) (by omega) (by omega) (by omega) (by omega)
  obtain ⟨v4, a4, s4, m4, e4, l4, u4, p4, r4⟩ := pick_eq hc s3 (a := a3) (n := 32) (by omega) (by omega) (by omega) (by omega)
  obtain ⟨v5, a5, s5, m5, e5, l5, u5, p5, r5⟩ := pick_eq hc s4 (a := a4) (n := 32) (by omega) (by omega) (by omega) (by omega)
  obtain ⟨v6, a6, s6, m6, e6, l6, u6, p6, r6⟩ := pick_eq hc s5 (a := a5) (n := 64) (by omega) (by omega) (by omega) (by omega)
  obtain ⟨b, a7, s7, m7, e7, p7, r7⟩ := one_eq hc s6 (a := a6) (n := 4) (by omega) (by omega) (by omega) (by omega)
  obtain ⟨k1, rfl⟩ := fin_of l1 u1
  obtain ⟨k2, rfl⟩ := fin_of l2 u2
  obtain ⟨k3, rfl⟩ := fin_of l3 u3
  obtain ⟨k4, rfl⟩ := fin_of l4 u4
  obtain ⟨k5, rfl⟩ := fin_of l5 u5
  obtain ⟨k6, rfl⟩ := fin_of l6 u6
  have f1 := q_long k1
  have f2 := q_round k2
  have f3 := q_tilt k3
  have f4 := q_turn k4
  have f5 := q_turn k5
  have f6 := q_phase k6
  simp only [Bool.and_eq_true, decide_eq_true_eq, Bool.not_eq_true'] at f1 f2 f3 f4 f5 f6
  obtain ⟨⟨⟨⟨⟨⟨g1, g2⟩, g3⟩, g4⟩, g5⟩, g6⟩, g7⟩ := f1
  obtain ⟨⟨⟨i1, i2⟩, i3⟩, i4⟩ := f2
  obtain ⟨⟨j1, j2⟩, j3⟩ := f3
  have key : ∃ o a' s', (spec_l03DrawOk_tree c a s).get = some (o, a', s') ∧ validO o = true ∧ wordsO o ∧ a ≤ a' ∧ a' ≤ a + 18 := by
    unfold spec_l03DrawOk_tree
    cases b with
    | true =>
      obtain ⟨v8, a8, s8, m8, e8, l8, u8, p8, r8⟩ := pick_eq hc s7 (a := a7) (n := 8) (by omega) (by omega) (by omega) (by omega)
      obtain ⟨v9, a9, s9, m9, e9, l9, u9, p9, r9⟩ := pick_eq hc s8 (a := a8) (n := 33) (by omega) (by omega) (by omega) (by omega)
      obtain ⟨k8, rfl⟩ := fin_of l8 u8
      obtain ⟨k9, rfl⟩ := fin_of l9 u9
      have f8 := q_over k8
      have f9 := q_far k9
      simp only [Bool.and_eq_true, decide_eq_true_eq] at f8 f9
      obtain ⟨⟨x1, x2⟩, x3⟩ := f8
      obtain ⟨⟨y1, y2⟩, y3⟩ := f9
      simp only [DT.get, m1, e1, m2, e2, m3, e3, m4, e4, m5, e5, m6, e6, m7, e7, m8, e8, m9, e9]
      refine ⟨_, _, _, rfl, ?_, ⟨g7, x3, j3, f4.2, f5.2, y3⟩, by omega, by omega⟩
      unfold validO
      simp only [g4, g5, g6, x1, x2, j1, j2, f4.1, f5.1, y1, y2, Bool.and_self]
    | false =>
      simp only [DT.get, m1, e1, m2, e2, m3, e3, m4, e4, m5, e5, m6, e6, m7, e7]
      refine ⟨_, _, _, rfl, ?_, ⟨g3, i4, j3, f4.2, f5.2, f6.2⟩, by omega, by omega⟩
      unfold validO
      simp only [g1, g2, i1, i2, i3, j1, j2, f4.1, f5.1, f6.1, Bool.and_self]
  obtain ⟨o, a', s', h, hv⟩ := key
  obtain ⟨n1, n2⟩ := DT.of_get h
  exact ⟨o, a', s', n1, n2, hv⟩

theorem b10Orbit_eq {c : List Int} (hc : Bytes c) : spec_B10Orbit_need c = true ∧ validO (spec_B10Orbit c) = true := by
  obtain ⟨o, a', s', n1, n2, hv, _⟩ := drawOk_eq hc 0 (a := 0) (by omega) (by omega)
  have key : (spec_B10Orbit_tree c).get = some o := by
    unfold spec_B10Orbit_tree
    simp only [DT.get, n1, n2]
  obtain ⟨k1, k2⟩ := DT.of_get key
  have k2 : spec_B10Orbit c = o := k2
  exact ⟨k1, by rw [k2]; exact hv⟩

/-! ## Catalogs -/

theorem append_fits (acc : List Entry) (x : Entry) (h : acc.length ≤ 2 ^ 21) : (decide ((acc.length + [x].length) * 48 ≤ 140737488355328) && decide (acc.length + [x].length ≤ 9223372036854775807)) = true := by
  show (decide ((acc.length + 1) * 48 ≤ 140737488355328) && decide (acc.length + 1 ≤ 9223372036854775807)) = true
  rw [decide_eq_true (by omega), decide_eq_true (by omega)]; rfl

theorem spec_put_loop (l : List Entry) (e : Entry) (hl : l.length ≤ 2 ^ 20) :
    spec_PutEntry_loop0_ends (l, ((l.length : Nat) : Int), e.Name, e.Mass, e.Orb.Long, e.Orb.Round, e.Orb.Tilt, e.Orb.Node, e.Orb.Peri, e.Orb.Phase) (false, 0, []) = true ∧
    (fun r : Bool × List Entry => (∀ x ∈ r.2, x ∈ l ∨ x = e) ∧ r.2.length ≤ l.length + r.1.toNat) (spec_PutEntry_loop0 (l, ((l.length : Nat) : Int), e.Name, e.Mass, e.Orb.Long, e.Orb.Round, e.Orb.Tilt, e.Orb.Node, e.Orb.Peri, e.Orb.Phase) (false, 0, [])) := by
  have eta : ∀ x : Entry, (⟨x.Name, x.Mass, ⟨x.Orb.Long, x.Orb.Round, x.Orb.Tilt, x.Orb.Node, x.Orb.Peri, x.Orb.Phase⟩⟩ : Entry) = x := fun _ => rfl
  refine loop_post (step := spec_PutEntry_loop0_step (l, ((l.length : Nat) : Int), e.Name, e.Mass, e.Orb.Long, e.Orb.Round, e.Orb.Tilt, e.Orb.Node, e.Orb.Peri, e.Orb.Phase)) (fun s => ∃ i : Nat, s.2.1 = (i : Int) ∧ i ≤ l.length ∧ (∀ x ∈ s.2.2, x ∈ l ∨ x = e) ∧ s.2.2.length ≤ i + s.1.toNat) (fun s => l.length - s.2.1.toNat) (fun r => (∀ x ∈ r.2, x ∈ l ∨ x = e) ∧ r.2.length ≤ l.length + r.1.toNat) ?_ (false, 0, []) ⟨0, rfl, Nat.zero_le _, fun _ h => absurd h List.not_mem_nil, Nat.le_refl _⟩
  rintro ⟨b, k, acc⟩ ⟨i, hk, hi, hm, hc⟩
  simp only at hk hm hc
  subst hk
  have hb1 : b.toNat ≤ 1 := by cases b <;> decide
  rcases Nat.lt_or_ge i l.length with hlt | hge
  · have hmem := getD_mem (d := (default : Entry)) hlt
    have hx : ∀ x ∈ acc ++ [l.getD i default], x ∈ l ∨ x = e := fun x hx => by
      rcases List.mem_append.1 hx with hx | hx
      · exact hm x hx
      · rw [List.mem_singleton.1 hx]; exact .inl hmem
    have hy : ∀ x ∈ acc ++ [e], x ∈ l ∨ x = e := fun x hx => by
      rcases List.mem_append.1 hx with hx | hx
      · exact hm x hx
      · exact .inr (List.mem_singleton.1 hx)
    have hz : ∀ x ∈ acc ++ [e] ++ [l.getD i default], x ∈ l ∨ x = e := fun x hx => by
      rcases List.mem_append.1 hx with hx | hx
      · exact hy x hx
      · rw [List.mem_singleton.1 hx]; exact .inl hmem
    have l1 : ∀ x : Entry, (acc ++ [x]).length = acc.length + 1 := fun x => by rw [List.length_append]; rfl
    have l2 : ∀ x y : Entry, (acc ++ [x] ++ [y]).length = acc.length + 2 := fun x y => by rw [List.length_append, l1]; rfl
    have hμ : l.length - ((i + 1 : Nat) : Int).toNat < l.length - ((i : Nat) : Int).toNat := by
      rw [Int.toNat_natCast, Int.toNat_natCast]; omega
    have nx := nat_next hlt (show l.length ≤ 2 ^ 62 by omega)
    have g1 : ∀ x, _ := fun x => append_fits acc x (by omega)
    have g2 : ∀ x y, _ := fun x y => append_fits (acc ++ [x]) y (by rw [l1]; omega)
    unfold spec_PutEntry_loop0_step
    cases b with
    | false =>
      cases hless : (!Op.bytesLess (l.getD i default).Name e.Name) with
      | true =>
        cases hne : (!((l.getD i default).Name == e.Name)) with
        | true =>
          refine ⟨.inl (true, ((i + 1 : Nat) : Int), acc ++ [e] ++ [l.getD i default]), [0, 282], ?_, ⟨i + 1, rfl, hlt, hz, ?_⟩, hμ⟩
          · simp only [DT.get, nat_dec hlt, nat_ge, Bool.and_self, Bool.not_false, Int.toNat_natCast, hless, eta, g1, g2, hne, nx]
          · show (acc ++ [e] ++ [l.getD i default]).length ≤ i + 1 + 1
            rw [l2]
            have hc : acc.length ≤ i + 0 := hc
            omega
        | false =>
          refine ⟨.inl (true, ((i + 1 : Nat) : Int), acc ++ [e]), [0, 146], ?_, ⟨i + 1, rfl, hlt, hy, ?_⟩, hμ⟩
          · simp only [DT.get, nat_dec hlt, nat_ge, Bool.and_self, Bool.not_false, Int.toNat_natCast, hless, eta, g1, g2, hne, nx]
          · show (acc ++ [e]).length ≤ i + 1 + 1
            rw [l1]
            have hc : acc.length ≤ i + 0 := hc
            omega
      | false =>
        cases hne : (!((l.getD i default).Name == e.Name)) with
        | true =>
          refine ⟨.inl (false, ((i + 1 : Nat) : Int), acc ++ [l.getD i default]), [0, 234], ?_, ⟨i + 1, rfl, hlt, hx, ?_⟩, hμ⟩
          · simp only [DT.get, nat_dec hlt, nat_ge, Bool.and_self, Bool.not_false, Int.toNat_natCast, hless, eta, g1, g2, hne, nx]
          · show (acc ++ [l.getD i default]).length ≤ i + 1 + 0
            rw [l1]
            have hc : acc.length ≤ i + 0 := hc
            omega
        | false =>
          refine ⟨.inl (false, ((i + 1 : Nat) : Int), acc), [0, 1], ?_, ⟨i + 1, rfl, hlt, hm, ?_⟩, hμ⟩
          · simp only [DT.get, nat_dec hlt, nat_ge, Bool.and_self, Bool.not_false, Int.toNat_natCast, hless, eta, g1, g2, hne, nx]
          · show acc.length ≤ i + 1 + 0
            have hc : acc.length ≤ i + 0 := hc
            omega
    | true =>
      cases hne : (!((l.getD i default).Name == e.Name)) with
      | true =>
        refine ⟨.inl (true, ((i + 1 : Nat) : Int), acc ++ [l.getD i default]), [0, 234], ?_, ⟨i + 1, rfl, hlt, hx, ?_⟩, hμ⟩
        · simp only [DT.get, nat_dec hlt, nat_ge, Bool.and_self, Bool.not_true, Int.toNat_natCast, eta, g1, g2, hne, nx]
        · show (acc ++ [l.getD i default]).length ≤ i + 1 + 1
          rw [l1]
          have hc : acc.length ≤ i + 1 := hc
          omega
      | false =>
        refine ⟨.inl (true, ((i + 1 : Nat) : Int), acc), [0, 1], ?_, ⟨i + 1, rfl, hlt, hm, ?_⟩, hμ⟩
        · simp only [DT.get, nat_dec hlt, nat_ge, Bool.and_self, Bool.not_true, Int.toNat_natCast, eta, g1, g2, hne, nx]
        · show acc.length ≤ i + 1 + 1
          have hc : acc.length ≤ i + 1 := hc
          omega
  · have he : i = l.length := Nat.le_antisymm hi hge
    subst he
    refine ⟨.inr (b, acc), [0, 1], ?_, hm, hc⟩
    unfold spec_PutEntry_loop0_step
    simp only [DT.get, nat_not]

theorem spec_put (l : List Entry) (e : Entry) (hl : l.length ≤ 2 ^ 20) (hn : ∀ x ∈ l, x.Name.length ≤ 2 ^ 62) (he : e.Name.length ≤ 2 ^ 62) :
    spec_PutEntry_need l e = true ∧ (spec_PutEntry l e = .inl () ∨ ∃ r, spec_PutEntry l e = .inr r ∧ OkV r ∧ (∀ x ∈ r, x ∈ l ∨ x = e) ∧ r.length ≤ l.length + 1) := by
  have eta : ∀ x : Entry, (⟨x.Name, x.Mass, ⟨x.Orb.Long, x.Orb.Round, x.Orb.Tilt, x.Orb.Node, x.Orb.Peri, x.Orb.Phase⟩⟩ : Entry) = x := fun _ => rfl
  obtain ⟨a1, a2⟩ := l07List_eq l (by omega) hn
  obtain ⟨_, v2, _⟩ := entry_same e he
  obtain ⟨b1, b2⟩ := spec_put_loop l e hl
  obtain ⟨R, hR⟩ : ∃ R, R = spec_PutEntry_loop0 (l, ((l.length : Nat) : Int), e.Name, e.Mass, e.Orb.Long, e.Orb.Round, e.Orb.Tilt, e.Orb.Node, e.Orb.Peri, e.Orb.Phase) (false, 0, []) := ⟨_, rfl⟩
  rw [← hR] at b2
  obtain ⟨b2, b3⟩ := b2
  have key : ∃ o : Unit ⊕ List Entry, (spec_PutEntry_tree l e).get = some o ∧ (o = .inl () ∨ ∃ r, o = .inr r ∧ OkV r ∧ (∀ x ∈ r, x ∈ l ∨ x = e) ∧ r.length ≤ l.length + 1) := by
    unfold spec_PutEntry_tree
    cases ho : okE l with
    | false =>
      refine ⟨.inl (), ?_, .inl rfl⟩
      simp only [DT.get, a1, a2, ho, Bool.not_false]
    | true =>
      cases hv : spec_l07Entry e with
      | false =>
        refine ⟨.inl (), ?_, .inl rfl⟩
        simp only [DT.get, a1, a2, ho, Bool.not_true, eta, v2, hv, Bool.not_false]
      | true =>
        have fin : ∀ r : List Entry, (∀ x ∈ r, x ∈ l ∨ x = e) → r.length ≤ l.length + 1 → spec_l07List_need r = true ∧ ∃ o : Unit ⊕ List Entry, (DT.ask (!spec_l07List r) (.leaf (.inl ())) (.leaf (.inr r)) : DT (Unit ⊕ List Entry)).get = some o ∧ (o = .inl () ∨ ∃ r, o = .inr r ∧ OkV r ∧ (∀ x ∈ r, x ∈ l ∨ x = e) ∧ r.length ≤ l.length + 1) := by
          intro r h1 h2
          obtain ⟨c1, c2⟩ := l07List_eq r (by omega) (fun x hx => by
            rcases h1 x hx with h | rfl
            · exact hn x h
            · exact he)
          refine ⟨c1, ?_⟩
          rw [c2]
          cases hr : okE r with
          | false => exact ⟨.inl (), rfl, .inl rfl⟩
          | true => exact ⟨.inr r, rfl, .inr ⟨r, rfl, (okE_iff r).1 hr, h1, h2⟩⟩
        simp only [DT.get, a1, a2, ho, Bool.not_true, eta, v2, hv, b1, ← hR]
        cases hf : R.1 with
        | false =>
          rw [hf] at b3
          have b3 : R.2.length ≤ l.length := b3
          obtain ⟨c1, c2⟩ := fin (R.2 ++ [e]) (fun x hx => by
            rcases List.mem_append.1 hx with hx | hx
            · exact b2 x hx
            · exact .inr (List.mem_singleton.1 hx)) (by rw [List.length_append]; show R.2.length + 1 ≤ _; omega)
          have g := append_fits R.2 e (by omega)
          simp only [Bool.not_false, g, c1]
          exact c2
        | true =>
          rw [hf] at b3
          have b3 : R.2.length ≤ l.length + 1 := b3
          obtain ⟨c1, c2⟩ := fin R.2 b2 b3
          simp only [Bool.not_true, c1]
          exact c2
  obtain ⟨o, h, ho⟩ := key
  obtain ⟨k1, k2⟩ := DT.of_get h
  have k2 : spec_PutEntry l e = o := k2
  rw [k2]
  exact ⟨k1, ho⟩

def pool : List (List UInt8) := [[109, 111, 111, 110], [105, 111], [97], [99, 111, 109, 101, 116], [114, 105, 110, 103], [122, 122]]
theorem pool_short : ∀ x ∈ pool, x.length ≤ 8 ∧ x ≠ [109, 97, 114, 115] := by decide

/-- A catalog that is drawn. -/
def Drawn (l : List Entry) : Prop := OkV l ∧ ∀ x ∈ l, x.Name ∈ pool ∧ wordsE x

theorem Drawn.okL {l : List Entry} (h : Drawn l) : OkL l := ⟨fun e he => ⟨h.1.1 e he, (h.2 e he).2⟩, pair_asc h.1.2.1, h.1.2.2⟩

theorem b10Entries_eq {c : List Int} (hc : Bytes c) : spec_B10Entries_need c = true ∧ Drawn (spec_B10Entries c) ∧ (spec_B10Entries c).length ≤ 5 := by
  obtain ⟨v, a0, s0, n1, n2, hv0, hv1, p0, r0⟩ := pick_eq hc 0 (a := 0) (n := 6) (by omega) (by omega) (by omega) (by omega)
  have hnil : Drawn [] := ⟨⟨fun _ h => absurd h List.not_mem_nil, .nil, Nat.zero_le _⟩, fun _ h => absurd h List.not_mem_nil⟩
  obtain ⟨b1, b2⟩ := loop_post (step := spec_B10Entries_loop0_step c) (fun s => 0 ≤ s.1 ∧ 0 ≤ s.2.1 ∧ s.2.1 + 100 * s.1 ≤ 1000 ∧ Drawn s.2.2.2 ∧ (s.2.2.2.length : Int) + s.1 ≤ 5) (fun s => s.1.toNat) (fun r => Drawn r ∧ r.length ≤ 5) (by
    rintro ⟨k, a, sd, l⟩ ⟨h0, h1, h2, h3, h4⟩
    simp only at h0 h1 h2 h3 h4
    by_cases hk : k > 0
    · have d : decide (k > 0) = true := decide_eq_true hk
      obtain ⟨nm, a1, s1, m1, e1, hnm, p1, r1⟩ := text_eq hc sd pool h1 (by omega) (by decide) (by decide)
      obtain ⟨v2, a2, s2, m2, e2, l2, u2, p2, r2⟩ := pick_eq hc s1 (a := a1) (n := 8) (by omega) (by omega) (by omega) (by omega)
      obtain ⟨o, a3, s3, m3, e3, ho, hw, p3, r3⟩ := drawOk_eq hc s2 (a := a2) (by omega) (by omega)
      obtain ⟨k2, rfl⟩ := fin_of l2 u2
      have f2 := q_mass k2
      simp only [decide_eq_true_eq] at f2
      have hpool := pool_short nm hnm
      obtain ⟨E, hE⟩ : ∃ E : Entry, E = ⟨nm, fdiv .f32 (fofInt .f32 (IntKind.wrap .i64 (1 + (k2.val : Int)))) 1073741824, ⟨o.Long, o.Round, o.Tilt, o.Node, o.Peri, o.Phase⟩⟩ := ⟨_, rfl⟩
      have hEn : E.Name = nm := by rw [hE]
      have hEw : wordsE E := by rw [hE]; exact ⟨f2, hw⟩
      obtain ⟨q1, q2⟩ := spec_put l E (by omega) h3.1.names (by rw [hEn]; omega)
      have wk : IntKind.wrap .i64 (k - 1) = k - 1 := wrap_small (by omega) (by omega)
      have m1 : spec_l00Src_text_need c a sd [[109, 111, 111, 110], [105, 111], [97], [99, 111, 109, 101, 116], [114, 105, 110, 103], [122, 122]] = true := m1
      have e1 : spec_l00Src_text c a sd [[109, 111, 111, 110], [105, 111], [97], [99, 111, 109, 101, 116], [114, 105, 110, 103], [122, 122]] = (nm, a1, s1) := e1
      have hμ : (k - 1).toNat < k.toNat := by omega
      unfold spec_B10Entries_loop0_step
      rcases q2 with q2 | ⟨r, q2, hr1, hr2, hr3⟩
      · refine ⟨.inl (k - 1, a3, s3, l), [0, 1], ?_, ⟨?_, ?_, ?_, h3, ?_⟩, hμ⟩
        · simp only [DT.get, d, m1, e1, m2, e2, m3, e3, ← hE, q1, q2, isL, wk]
        · show 0 ≤ k - 1; omega
        · show 0 ≤ a3; omega
        · show a3 + 100 * (k - 1) ≤ 1000; omega
        · show (l.length : Int) + (k - 1) ≤ 5; omega
      · refine ⟨.inl (k - 1, a3, s3, r), [0, 154], ?_, ⟨?_, ?_, ?_, ⟨hr1, fun x hx => ?_⟩, ?_⟩, hμ⟩
        · simp only [DT.get, d, m1, e1, m2, e2, m3, e3, ← hE, q1, q2, isL, rightD, wk]
        · show 0 ≤ k - 1; omega
        · show 0 ≤ a3; omega
        · show a3 + 100 * (k - 1) ≤ 1000; omega
        · rcases hr2 x hx with hx | rfl
          · exact h3.2 x hx
          · exact ⟨by rw [hEn]; exact hnm, hEw⟩
        · show (r.length : Int) + (k - 1) ≤ 5; omega
    · have d : decide (k > 0) = false := decide_eq_false hk
      refine ⟨.inr l, [1], ?_, h3, by omega⟩
      unfold spec_B10Entries_loop0_step
      simp only [DT.get, d]) (v, a0, s0, []) ⟨hv0, by show 0 ≤ a0; omega, by show a0 + 100 * v ≤ 1000; omega, hnil, by show ((0 : Nat) : Int) + v ≤ 5; omega⟩
  have b1 : spec_B10Entries_loop0_ends c (v, a0, s0, []) = true := b1
  have key : (spec_B10Entries_tree c).get = some (spec_B10Entries_loop0 c (v, a0, s0, [])) := by
    unfold spec_B10Entries_tree
    simp only [DT.get, n1, n2, b1]
  obtain ⟨k1, k2⟩ := DT.of_get key
  have k2 : spec_B10Entries c = spec_B10Entries_loop0 c (v, a0, s0, []) := k2
  rw [k2]
  exact ⟨k1, b2⟩

/-! ## The entry that is put -/

theorem decimal_zero : spec_Decimal_need 0 = true ∧ spec_Decimal 0 = [48] := by
  obtain ⟨b1, b2⟩ := loop_post (step := spec_l01Dec_loop0_step 0) (fun s => s = (0, []) ∨ s = (0, [48])) (fun s => 1 - s.2.length) (fun r => r = [48]) (by
    rintro s (rfl | rfl)
    · exact ⟨.inl (0, [48]), [137], rfl, .inr rfl, by show 1 - 1 < 1 - 0; omega⟩
    · exact ⟨.inr [48], [0], rfl, rfl⟩) (0, []) (.inl rfl)
  have b1 : spec_l01Dec_loop0_ends 0 (0, []) = true := b1
  have b2 : spec_l01Dec_loop0 0 (0, []) = [48] := b2
  have k : (spec_l01Dec_tree 0).get = some [48] := by
    unfold spec_l01Dec_tree
    simp only [DT.get, b1, b2]
    rfl
  obtain ⟨k1, k2⟩ := DT.of_get k
  have k2 : spec_l01Dec 0 = [48] := k2
  have key : (spec_Decimal_tree 0).get = some [48] := by
    unfold spec_Decimal_tree
    simp only [DT.get]
    have k1 : spec_l01Dec_need 0 = true := k1
    rw [k1, k2]
  exact DT.of_get key

theorem no_name (m : Nat) (o : Orbit) : impl_ValidEntry_need ⟨[109, 48], m, o⟩ = true ∧ impl_ValidEntry ⟨[109, 48], m, o⟩ = false := by
  obtain ⟨v1, _, _⟩ := entry_same ⟨[109, 48], m, o⟩ (by show 2 ≤ 2 ^ 62; decide)
  refine ⟨v1, ?_⟩
  obtain ⟨b1, b2⟩ := loop_post (step := impl_IsName_loop0_step ([109, 48], 2)) (fun s => s = 0 ∨ s = 1) (fun s => 2 - s.toNat) (fun r => r = .inl ()) (by
    rintro s (rfl | rfl)
    · exact ⟨.inl 1, [], rfl, .inr rfl, by decide⟩
    · exact ⟨.inr (.inl ()), [], rfl, rfl⟩) 0 (.inl rfl)
  have b2 : impl_IsName_loop0 ([109, 48], 2) 0 = .inl () := b2
  have hn : impl_IsName [109, 48] = false := by
    unfold impl_IsName impl_IsName_tree
    show DT.val (DT.need _ (DT.ask (isL (impl_IsName_loop0 ([109, 48], 2) 0)) _ _)) = false
    rw [b2]
    rfl
  unfold impl_ValidEntry impl_ValidEntry_tree
  simp only [DT.val, hn]

theorem mars_valid {o : Orbit} (ho : validO o = true) : spec_l07Entry ⟨[109, 97, 114, 115], 1065353216, o⟩ = true := by
  obtain ⟨b1, b2⟩ := loop_post (step := spec_l07Name_loop0_step [109, 97, 114, 115]) (fun s => s = 0 ∨ s = 1 ∨ s = 2 ∨ s = 3 ∨ s = 4) (fun s => 4 - s.toNat) (fun r => r = .inr ()) (by
    rintro s (rfl | rfl | rfl | rfl | rfl)
    · exact ⟨.inl 1, [], rfl, .inr (.inl rfl), by decide⟩
    · exact ⟨.inl 2, [], rfl, .inr (.inr (.inl rfl)), by decide⟩
    · exact ⟨.inl 3, [], rfl, .inr (.inr (.inr (.inl rfl))), by decide⟩
    · exact ⟨.inl 4, [], rfl, .inr (.inr (.inr (.inr rfl))), by decide⟩
    · exact ⟨.inr (.inr ()), [], rfl, rfl⟩) 0 (.inl rfl)
  have b2 : spec_l07Name_loop0 [109, 97, 114, 115] 0 = .inr () := b2
  have hn : spec_l07Name [109, 97, 114, 115] = true := by
    unfold spec_l07Name spec_l07Name_tree
    simp only [DT.val, b2]
    rfl
  have hm : spec_l02Above 1065353216 = true := by decide +kernel
  have hi : spec_l03Is (⟨o.Long, o.Round, o.Tilt, o.Node, o.Peri, o.Phase⟩ : Orbit) = true := (l03Is_eq _).trans ho
  unfold spec_l07Entry spec_l07Entry_tree
  simp only [DT.val, hn, hm, hi]

end Go.Proofs.Ytnmeiodaeaabfaa
