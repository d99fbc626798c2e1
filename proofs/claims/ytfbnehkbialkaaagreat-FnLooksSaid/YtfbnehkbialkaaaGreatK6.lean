/- The plain law of FnLooks, part 6: misses, their squares, sums, the worst look, looks that are dropped. -/
import Derived.Test.YtfbnehkbialkaaaGreatK4
namespace Go.Proofs.YtfbnehkbialkaaaGreat
open Ieee
set_option linter.unusedVariables false
set_option linter.unusedSimpArgs false

theorem one_eq {c : List Int} (hc : Bytes c) {a : Int} (s : Int) {n : Int} (h0 : 0 ≤ a) (h1 : a ≤ 2 ^ 39) (hn : 2 ≤ n) (hn2 : n ≤ 2 ^ 40) :
    ∃ b a' s', spec_l00Src_one_need c a s n = true ∧ spec_l00Src_one c a s n = (b, a', s') ∧ a ≤ a' ∧ a' ≤ a + 2 := by
  obtain ⟨v, a', s', p1, p2, _, _, h⟩ := pick_eq hc s h0 h1 hn hn2
  have key : (spec_l00Src_one_tree c a s n).get = some (v == 0, a', s') := by
    unfold spec_l00Src_one_tree
    simp only [DT.get, p1, p2]
  obtain ⟨k1, k2⟩ := DT.of_get key
  exact ⟨_, a', s', k1, k2, h⟩

/-! ## Orbits -/

theorem q_long : ∀ k : Fin 16, (fun x => atI .f32 x (1 / 4) 4 && atI .f32 (fneg .f32 x) (-4) (-1 / 4)) (fdiv .f32 (fofInt .f32 (IntKind.wrap .i64 (1 + (k.val : Int)))) 1082130432) = true := by decide +kernel
theorem q_round : ∀ k : Fin 8, atI .f32 (fdiv .f32 (fofInt .f32 (k.val : Int)) 1090519040) 0 (7 / 8) = true := by decide +kernel
theorem q_tilt : ∀ k : Fin 17, atI .f32 (fdiv .f32 (fofInt .f32 (k.val : Int)) 1107296256) 0 (1 / 2) = true := by decide +kernel
theorem q_turn : ∀ k : Fin 32, atI .f32 (fdiv .f32 (fofInt .f32 (k.val : Int)) 1107296256) 0 (31 / 32) = true := by decide +kernel
theorem q_phase : ∀ k : Fin 64, atI .f32 (fdiv .f32 (fofInt .f32 (k.val : Int)) 1115684864) 0 (63 / 64) = true := by decide +kernel
theorem q_over : ∀ k : Fin 8, atI .f32 (fadd .f32 1065353216 (fdiv .f32 (fofInt .f32 (IntKind.wrap .i64 (1 + (k.val : Int)))) 1082130432)) (5 / 4) 3 = true := by decide +kernel
theorem q_far : ∀ k : Fin 33, atI .f32 (fdiv .f32 (fofInt .f32 (IntKind.wrap .i64 ((k.val : Int) - 16))) 1090519040) (-2) 2 = true := by decide +kernel
theorem q_mass : ∀ k : Fin 8, atI .f32 (fdiv .f32 (fofInt .f32 (IntKind.wrap .i64 (1 + (k.val : Int)))) 1073741824) (1 / 2) 4 = true := by decide +kernel
theorem q_time : ∀ k : Fin 17, atI .f32 (fdiv .f32 (fofInt .f32 (k.val : Int)) 1082130432) 0 4 = true := by decide +kernel
theorem q_time8 : ∀ k : Fin 17, atI .f32 (fdiv .f32 (fofInt .f32 (k.val : Int)) 1090519040) 0 4 = true := by decide +kernel

theorem turn_of {x : Nat} {b : Rat} (h : I .f32 x (some (0, b))) (hb : b < 1) : turnB x = true := by
  unfold turnB
  rw [I.ge h k_zero32 (by decide +kernel), I.lt h k_one32 hb]
  rfl

theorem drawOk_L {c : List Int} (hc : Bytes c) {a : Int} (s : Int) (h0 : 0 ≤ a) (h1 : a ≤ 2 ^ 38) :
    ∃ o a' s', spec_l03DrawOk_need c a s = true ∧ spec_l03DrawOk c a s = (o, a', s') ∧ OrbL o 2 := by
  obtain ⟨v1, a1, s1, m1, e1, l1, u1, p1, r1⟩ := pick_eq hc s (n := 16) h0 (by omega) (by omega) (by omega)
  obtain ⟨v2, a2, s2, m2, e2, l2, u2, p2, r2⟩ := pick_eq hc s1 (a := a1) (n := 8) (by omega) (by omega) (by omega) (by omega)
  obtain ⟨v3, a3, s3, m3, e3, l3, u3, p3, r3⟩ := pick_eq hc s2 (a := a2) (n := 17) (by omega) (by omega) (by omega) (by omega)
  obtain ⟨v4, a4, s4, m4, e4, l4, u4, p4, r4⟩ := pick_eq hc s3 (a := a3) (n := 32) (by omega) (by omega) (by omega) (by omega)
  obtain ⟨v5, a5, s5, m5, e5, l5, u5, p5, r5⟩ := pick_eq hc s4 (a := a4) (n := 32) (by omega) (by omega) (by omega) (by omega)
  obtain ⟨v6, a6, s6, m6, e6, l6, u6, p6, r6⟩ := pick_eq hc s5 (a := a5) (n := 64) (by omega) (by omega) (by omega) (by omega)
  obtain ⟨b, a7, s7, m7, e7, p7, r7⟩ := one_eq hc s6 (a := a6) (n := 4) (by omega) (by omega) (by omega) (by omega)
  obtain ⟨k1, rfl⟩ := fin_of (n := 16) l1 u1
  obtain ⟨k2, rfl⟩ := fin_of (n := 8) l2 u2
  obtain ⟨k3, rfl⟩ := fin_of (n := 17) l3 u3
  obtain ⟨k4, rfl⟩ := fin_of (n := 32) l4 u4
  obtain ⟨k5, rfl⟩ := fin_of (n := 32) l5 u5
  obtain ⟨k6, rfl⟩ := fin_of (n := 64) l6 u6
  have f1 := q_long k1
  simp only [Bool.and_eq_true] at f1
  obtain ⟨g1, g2⟩ := f1
  have g1 := I.at g1
  have g2 := I.at g2
  have f2 := I.at (q_round k2)
  have f3 := I.at (q_tilt k3)
  have f4 := I.at (q_turn k4)
  have f5 := I.at (q_turn k5)
  have f6 := I.at (q_phase k6)
  generalize hA : fdiv .f32 (fofInt .f32 (IntKind.wrap .i64 (1 + (k1.val : Int)))) 1082130432 = A at *
  generalize hB : fdiv .f32 (fofInt .f32 (k2.val : Int)) 1090519040 = B at *
  generalize hC : fdiv .f32 (fofInt .f32 (k3.val : Int)) 1107296256 = C at *
  generalize hD : fdiv .f32 (fofInt .f32 (k4.val : Int)) 1107296256 = D at *
  generalize hE : fdiv .f32 (fofInt .f32 (k5.val : Int)) 1107296256 = E at *
  generalize hF : fdiv .f32 (fofInt .f32 (k6.val : Int)) 1115684864 = F at *
  have j1 : fge .f32 C 0 = true := I.ge f3 k_zero32 (by decide +kernel)
  have j2 : fle .f32 C 1056964608 = true := I.le f3 k_half32 (by decide +kernel)
  have t4 := turn_of f4 (by decide +kernel)
  have t5 := turn_of f5 (by decide +kernel)
  have t6 := turn_of f6 (by decide +kernel)
  have key : ∃ o a' s', (spec_l03DrawOk_tree c a s).get = some (o, a', s') ∧ OrbL o 2 := by
    unfold spec_l03DrawOk_tree
    cases b with
    | true =>
      obtain ⟨v8, a8, s8, m8, e8, l8, u8, p8, r8⟩ := pick_eq hc s7 (a := a7) (n := 8) (by omega) (by omega) (by omega) (by omega)
      obtain ⟨v9, a9, s9, m9, e9, l9, u9, p9, r9⟩ := pick_eq hc s8 (a := a8) (n := 33) (by omega) (by omega) (by omega) (by omega)
      obtain ⟨k8, rfl⟩ := fin_of (n := 8) l8 u8
      obtain ⟨k9, rfl⟩ := fin_of (n := 33) l9 u9
      have f8 := I.at (q_over k8)
      have f9 := I.at (q_far k9)
      generalize hG : fadd .f32 1065353216 (fdiv .f32 (fofInt .f32 (IntKind.wrap .i64 (1 + (k8.val : Int)))) 1082130432) = G at *
      generalize hH : fdiv .f32 (fofInt .f32 (IntKind.wrap .i64 ((k9.val : Int) - 16))) 1090519040 = H at *
      simp only [DT.get, m1, e1, m2, e2, m3, e3, m4, e4, m5, e5, m6, e6, m7, e7, m8, e8, m9, e9, hA, hB, hC, hD, hE, hF, hG, hH]
      refine ⟨_, _, _, rfl, ⟨?_, f3.mono (by decide +kernel) (by decide +kernel), f4.mono (by decide +kernel) (by decide +kernel), f5.mono (by decide +kernel) (by decide +kernel), .inr ⟨g2, f8, f9⟩⟩⟩
      have x1 : fgt .f32 (fneg .f32 A) 0 = false := I.not_gt g2 k_zero32 (by decide +kernel)
      have x2 : flt .f32 (fneg .f32 A) 0 = true := I.lt g2 k_zero32 (by decide +kernel)
      have x3 : fgt .f32 G 1065353216 = true := I.gt f8 k_one32 (by decide +kernel)
      have y1 : fge .f32 H 3246391296 = true := I.ge f9 k_16.1 (by decide +kernel)
      have y2 : fle .f32 H 1098907648 = true := I.le f9 k_16.2 (by decide +kernel)
      unfold validO
      simp only [g2.1, f8.1, x1, x2, x3, j1, j2, t4, t5, y1, y2, Bool.and_self]
    | false =>
      simp only [DT.get, m1, e1, m2, e2, m3, e3, m4, e4, m5, e5, m6, e6, m7, e7, hA, hB, hC, hD, hE, hF]
      refine ⟨_, _, _, rfl, ⟨?_, f3.mono (by decide +kernel) (by decide +kernel), f4.mono (by decide +kernel) (by decide +kernel), f5.mono (by decide +kernel) (by decide +kernel), .inl ⟨g1, f2, f6.mono (by decide +kernel) (by decide +kernel)⟩⟩⟩
      have x1 : fgt .f32 A 0 = true := I.gt g1 k_zero32 (by decide +kernel)
      have y1 : fge .f32 B 0 = true := I.ge f2 k_zero32 (by decide +kernel)
      have y2 : flt .f32 B 1065353216 = true := I.lt f2 k_one32 (by decide +kernel)
      unfold validO
      simp only [g1.1, f2.1, x1, y1, y2, j1, j2, t4, t5, t6, Bool.and_self]
  obtain ⟨o, a', s', h, hv⟩ := key
  obtain ⟨n1, n2⟩ := DT.of_get h
  exact ⟨o, a', s', n1, n2, hv⟩

theorem b10Orbit_L {c : List Int} (hc : Bytes c) : spec_B10Orbit_need c = true ∧ OrbL (spec_B10Orbit c) 2 := by
  obtain ⟨o, a', s', n1, n2, hv⟩ := drawOk_L hc 0 (a := 0) (by omega) (by omega)
  have key : (spec_B10Orbit_tree c).get = some o := by
    unfold spec_B10Orbit_tree
    simp only [DT.get, n1, n2]
  obtain ⟨k1, k2⟩ := DT.of_get key
  have k2 : spec_B10Orbit c = o := k2
  exact ⟨k1, by rw [k2]; exact hv⟩

theorem b10Mass_L {c : List Int} (hc : Bytes c) : spec_B10Mass_need c = true ∧ I .f32 (spec_B10Mass c) (some (1 / 2, 4)) := by
  obtain ⟨v1, a1, s1, m1, e1, l1, u1, q1, r1⟩ := pick_eq hc 0 (a := 0) (n := 8) (by omega) (by omega) (by omega) (by omega)
  obtain ⟨k1, rfl⟩ := fin_of (n := 8) l1 u1
  have key : (spec_B10Mass_tree c).get = some (fdiv .f32 (fofInt .f32 (IntKind.wrap .i64 (1 + (k1.val : Int)))) 1073741824) := by
    unfold spec_B10Mass_tree
    simp only [DT.get, m1, e1]
  obtain ⟨n1, n2⟩ := DT.of_get key
  have n2 : spec_B10Mass c = _ := n2
  exact ⟨n1, by rw [n2]; exact I.at (q_mass k1)⟩

theorem b10At_L {c : List Int} (hc : Bytes c) : laws_b10At_need c 3 17 = true ∧ ∃ k : Fin 17, laws_b10At c 3 17 = (k.val : Int) := by
  have d1 : decide ((17 : Int) ≤ 1) = false := by decide
  have d2 : ((17 : Int) != 0) = true := by decide
  have key : ∃ v, (laws_b10At_tree c 3 17).get = some v ∧ 0 ≤ v ∧ v < 17 := by
    unfold laws_b10At_tree
    by_cases h : (3 : Int) < ((c.length : Nat) : Int)
    · have d3 : decide ((3 : Int) < ((c.length : Nat) : Int)) = true := decide_eq_true h
      have d4 : decide ((0 : Int) ≤ 3) = true := by decide
      obtain ⟨b1, b2⟩ := hc.at 3 (by omega)
      have ew : IntKind.wrap .i64 (c.getD (Int.toNat 3) default) = c.getD 3 default := wrap_small (by show _ ≤ c.getD 3 default; omega) (by show c.getD 3 default ≤ _; omega)
      simp only [DT.get, d1, d2, d3, d4, Bool.and_self, ew]
      exact ⟨_, rfl, Int.tmod_nonneg _ b1, Int.tmod_lt_of_pos _ (by decide)⟩
    · have d3 : decide ((3 : Int) < ((c.length : Nat) : Int)) = false := decide_eq_false h
      simp only [DT.get, d1, d2, d3]
      exact ⟨_, rfl, by decide +kernel, by decide +kernel⟩
  obtain ⟨v, h, h0, h1⟩ := key
  obtain ⟨n1, n2⟩ := DT.of_get h
  have n2 : laws_b10At c 3 17 = v := n2
  obtain ⟨k, hk⟩ := fin_of (n := 17) h0 h1
  exact ⟨n1, k, by rw [n2, hk]⟩

/-! ## Noise -/

theorem fofInt_I {n : Int} {N : Nat} (h : n.natAbs ≤ N) (hN : N < 16777216) : I .f32 (fofInt .f32 n) (some (-(N : Rat), (N : Rat))) := by
  obtain ⟨w1, w2⟩ := fofInt_whole (k := .f32) (n := n) (by show n.natAbs < 16777216; omega)
  have e : R .f32 (fofInt .f32 n) = (n : Rat) := by
    rw [R_V w1, w2]
    have e1 : (2 : Rat) ^ lplace .f32 = 1 / ((2 ^ (-lplace .f32).toNat : Nat) : Rat) := by decide +kernel
    have e2 : ((2 ^ (-lplace .f32).toNat : Nat) : Rat) ≠ 0 := by decide +kernel
    rw [e1, Rat.intCast_mul, Rat.intCast_natCast]
    generalize ((2 ^ (-lplace .f32).toNat : Nat) : Rat) = w at *
    grind
  have h1 : (-(N : Int) : Int) ≤ n := by omega
  have h2 : n ≤ (N : Int) := by omega
  have g1 : ((-(N : Int) : Int) : Rat) ≤ (n : Rat) := Rat.intCast_le_intCast.2 h1
  have g2 : (n : Rat) ≤ ((N : Int) : Rat) := Rat.intCast_le_intCast.2 h2
  push_cast at g1 g2
  exact ⟨w1, by rw [e]; exact g1, by rw [e]; exact g2⟩

theorem noise_I (s : Int) : ∃ z s', spec_l07Draw 1015021568 s = (z, s') ∧ I .f32 z (some (-1 / 10, 1 / 10)) := by
  unfold spec_l07Draw spec_l07Draw_tree
  simp only [DT.val]
  refine ⟨_, _, rfl, ?_⟩
  generalize IntKind.wrap .i64 (IntKind.wrap .i64 (1103515245 * s) + 12345) = t
  have b1 : (Int.tmod t 2147483648).natAbs < 2147483648 := by
    rw [Int.natAbs_tmod]
    exact Nat.mod_lt _ (by decide)
  generalize Int.tmod t 2147483648 = u at *
  have b2 : (Int.tdiv u 65536).natAbs ≤ 32767 := by
    rw [Int.natAbs_tdiv]
    show u.natAbs / 65536 ≤ 32767
    omega
  generalize Int.tdiv u 65536 = w at *
  rw [wrap_small (n := w) (by omega) (by omega), wrap_small (n := w - 16384) (by omega) (by omega)]
  have f := fofInt_I (n := w - 16384) (N := 49151) (by omega) (by decide)
  have f := f.mono (lo := -49151) (hi := 49151) (by decide +kernel) (by decide +kernel)
  have q := (I.div f (show I .f32 1182793728 (some (16384, 16384)) from I.at (by decide +kernel))).to (lo := -4) (hi := 4) (by decide +kernel)
  exact (I.mul (show I .f32 1015021568 (some (1 / 64, 1 / 64)) from I.at (by decide +kernel)) q).to (by decide +kernel)

/-- A look that is drawn. -/
structure GoodL (l : Look) : Prop where
  time : I .f32 l.Time (some (0, 4))
  right : I .f32 l.Right (some (-1, 1))
  up : I .f32 l.Up (some (-1, 1))
  far : I .f32 l.Far (some (-1000, 4000000000))
  weight : l.Weight = 1065353216

theorem GoodL.look {l : Look} (h : GoodL l) : lookB l = true := by
  unfold lookB
  simp only [List.all_cons, List.all_nil, h.time.1, h.right.1, h.up.1, h.far.1, h.weight, k_w.1, k_w.2, Bool.and_true, Bool.not_false]

theorem GoodL.all {l : List Look} (h : ∀ x ∈ l, GoodL x) : l.all lookB = true := by
  rw [List.all_eq_true]
  exact fun x hx => (h x hx).look

theorem noisy_L {o : Orbit} {m : Nat} {times : List Nat} {seed : Int} (h : OrbL o 2) (hm : I .f32 m (some (1 / 2, 4))) (hl : times.length ≤ 3) (ht : ∀ t ∈ times, I .f32 t (some (0, 4))) (s0 : 0 ≤ seed) (s1 : seed ≤ 2147483647) :
    spec_NoisyLooks_need o m times 1015021568 seed = true ∧ ∃ list s', spec_NoisyLooks o m times 1015021568 seed = .inr (list, s') ∧ list.length ≤ 3 ∧ ∀ l ∈ list, GoodL l := by
  obtain ⟨-, -, a3⟩ := around_L h hm
  have hv : (⟨o.Long, o.Round, o.Tilt, o.Node, o.Peri, o.Phase⟩ : Orbit) = o := rfl
  obtain ⟨e1, e2⟩ := loop_post (step := spec_NoisyLooks_loop0_step (m, times, 1015021568, ((times.length : Nat) : Int), o.Long, o.Round, o.Tilt, o.Node, o.Peri, o.Phase)) (fun s => ∃ i : Nat, i ≤ times.length ∧ s.2.1 = (i : Int) ∧ s.2.2.length = i ∧ ∀ l ∈ s.2.2, GoodL l) (fun s => times.length - s.2.1.toNat) (fun r => ∃ s' list, r = .inr (s', list) ∧ list.length ≤ 3 ∧ ∀ l ∈ list, GoodL l) (by
    rintro ⟨s, k, acc⟩ ⟨i, hi, hk, hlen, hg⟩
    simp only at hk hlen hg
    subst hk
    rcases Nat.lt_or_ge i times.length with hlt | hge
    · have hI : I .f32 (times.getD i default) (some (0, 4)) := by
        rw [List.getD_eq_getElem?_getD, List.getElem?_eq_getElem hlt, Option.getD_some]
        exact ht _ (List.getElem_mem hlt)
      obtain ⟨o', at', sp, r, u, S⟩ := seen_L h hm hI
      obtain ⟨z1, t1, n1, i1⟩ := noise_I s
      obtain ⟨z2, t2, n2, i2⟩ := noise_I t1
      obtain ⟨z3, t3, n3, i3⟩ := noise_I t2
      have hG : GoodL ⟨times.getD i default, fadd .f32 r z1, fadd .f32 u z2, fadd .f32 (rootN (innerN at'.X at'.Y at'.Z)) z3, 1065353216⟩ := ⟨hI, (I.add S.right i1).to (by decide +kernel), (I.add S.up i2).to (by decide +kernel), (I.add S.far i3).to (by decide +kernel), rfl⟩
      have hroom := room (n := acc.length) (k := [(⟨times.getD i default, fadd .f32 r z1, fadd .f32 u z2, fadd .f32 (rootN (innerN at'.X at'.Y at'.Z)) z3, 1065353216⟩ : Look)].length) (b := 20) (by show acc.length + 1 ≤ 17; omega) (by decide)
      refine ⟨.inl (t3, ((i + 1 : Nat) : Int), acc ++ [⟨times.getD i default, fadd .f32 r z1, fadd .f32 u z2, fadd .f32 (rootN (innerN at'.X at'.Y at'.Z)) z3, 1065353216⟩]), [0, 570], ?_, ⟨i + 1, hlt, rfl, by rw [List.length_append, hlen]; rfl, ?_⟩, ?_⟩
      · unfold spec_NoisyLooks_loop0_step
        simp only [DT.get, nat_dec hlt, nat_ge, Bool.and_true, Int.toNat_natCast, l01Finite_eq, hI.1, hv, S.need', S.told', n1, n2, n3, hroom, nat_next hlt (by omega), Bool.not_true]
      · intro l hl
        rw [List.mem_append, List.mem_singleton] at hl
        rcases hl with hl | rfl
        · exact hg l hl
        · exact hG
      · show times.length - ((i + 1 : Nat) : Int).toNat < times.length - ((i : Nat) : Int).toNat
        rw [Int.toNat_natCast, Int.toNat_natCast]
        omega
    · have hi' : i = times.length := Nat.le_antisymm hi hge
      subst hi'
      refine ⟨.inr (.inr (s, acc)), [1], ?_, s, acc, rfl, by omega, hg⟩
      unfold spec_NoisyLooks_loop0_step
      simp only [DT.get, nat_not]) (seed, 0, []) ⟨0, Nat.zero_le _, rfl, rfl, fun l hl => absurd hl List.not_mem_nil⟩
  obtain ⟨s', list, e2, e3, e4⟩ := e2
  have e1 : spec_NoisyLooks_loop0_ends (m, times, 1015021568, ((times.length : Nat) : Int), o.Long, o.Round, o.Tilt, o.Node, o.Peri, o.Phase) (seed, 0, []) = true := e1
  have e2 : spec_NoisyLooks_loop0 (m, times, 1015021568, ((times.length : Nat) : Int), o.Long, o.Round, o.Tilt, o.Node, o.Peri, o.Phase) (seed, 0, []) = .inr (s', list) := e2
  obtain ⟨w1, w2⟩ := l07Are_eq list (by omega)
  rw [GoodL.all e4] at w2
  have d1 : decide (((times.length : Nat) : Int) > 24) = false := decide_eq_false (by omega)
  have d2 : spec_l02Least 1015021568 = true := by decide +kernel
  have d3 : spec_l00In seed 0 2147483647 = true := by
    unfold spec_l00In spec_l00In_tree
    rw [decide_eq_true (show seed ≥ 0 from s0), decide_eq_true s1]
    rfl
  have key : (spec_NoisyLooks_tree o m times 1015021568 seed).get = some (.inr (list, s')) := by
    unfold spec_NoisyLooks_tree
    simp only [DT.get, hv, a3, d1, d2, d3, e1, e2, isL, rightD, w1, w2, Bool.not_true]
  obtain ⟨n1, n2⟩ := DT.of_get key
  exact ⟨n1, list, s', n2, e3, e4⟩

theorem looks_L {c : List Int} {o : Orbit} {m : Nat} (hc : Bytes c) (h : OrbL o 2) (hm : I .f32 m (some (1 / 2, 4))) : spec_B10Looks_need c o m = true ∧ ∃ list, spec_B10Looks c o m = .inr list ∧ list.length ≤ 3 ∧ ∀ l ∈ list, GoodL l := by
  have hv : (⟨o.Long, o.Round, o.Tilt, o.Node, o.Peri, o.Phase⟩ : Orbit) = o := rfl
  obtain ⟨v1, a1, s1, m1, e1, l1, u1, q1, r1⟩ := pick_eq hc 0 (a := 0) (n := 4) (by omega) (by omega) (by omega) (by omega)
  obtain ⟨k1, k2⟩ := loop_post (step := spec_B10Looks_loop0_step (m, o.Long, o.Round, o.Tilt, o.Node, o.Peri, o.Phase, c)) (fun s => 0 ≤ s.1 ∧ s.1 + ((s.2.2.2.length : Nat) : Int) ≤ 3 ∧ 0 ≤ s.2.1 ∧ s.2.1 ≤ 10 - 2 * s.1 ∧ ∀ t ∈ s.2.2.2, I .f32 t (some (0, 4))) (fun s => s.1.toNat) (fun r => 0 ≤ r.1 ∧ r.1 ≤ 10 ∧ r.2.2.length ≤ 3 ∧ ∀ t ∈ r.2.2, I .f32 t (some (0, 4))) (by
    rintro ⟨n, a, s, acc⟩ ⟨h1, h2, h3, h4, h5⟩
    simp only at h1 h2 h3 h4 h5
    by_cases hn : n > 0
    · have d : decide (n > 0) = true := decide_eq_true hn
      obtain ⟨v2, a2, s2, m2, e2, l2, u2, q2, r2⟩ := pick_eq hc s (a := a) (n := 17) h3 (by omega) (by omega) (by omega)
      obtain ⟨k, rfl⟩ := fin_of (n := 17) l2 u2
      have hroom := room (n := acc.length) (k := [fdiv .f32 (fofInt .f32 (k.val : Int)) 1082130432].length) (b := 4) (by show acc.length + 1 ≤ 17; omega) (by decide)
      refine ⟨.inl (n - 1, a2, s2, acc ++ [fdiv .f32 (fofInt .f32 (k.val : Int)) 1082130432]), [0, 1, 67], ?_, ⟨by show 0 ≤ n - 1; omega, ?_, by show 0 ≤ a2; omega, by show a2 ≤ 10 - 2 * (n - 1); omega, ?_⟩, by show (n - 1).toNat < n.toNat; omega⟩
      · unfold spec_B10Looks_loop0_step
        simp only [DT.get, d, m2, e2, hroom, wrap_small (n := n - 1) (by omega) (by omega)]
      · show n - 1 + (((acc ++ [fdiv .f32 (fofInt .f32 (k.val : Int)) 1082130432]).length : Nat) : Int) ≤ 3
        rw [List.length_append]
        show n - 1 + ((acc.length + 1 : Nat) : Int) ≤ 3
        omega
      · intro t ht
        have ht : t ∈ acc ++ [fdiv .f32 (fofInt .f32 (k.val : Int)) 1082130432] := ht
        rw [List.mem_append, List.mem_singleton] at ht
        rcases ht with ht | rfl
        · exact h5 t ht
        · exact I.at (q_time k)
    · have d : decide (n > 0) = false := decide_eq_false hn
      refine ⟨.inr (a, s, acc), [0, 1, 2], ?_, h3, by show a ≤ 10; omega, by show acc.length ≤ 3; omega, h5⟩
      unfold spec_B10Looks_loop0_step
      simp only [DT.get, d]) (v1, a1, s1, []) ⟨l1, by show v1 + 0 ≤ 3; omega, by show 0 ≤ a1; omega, by show a1 ≤ 10 - 2 * v1; omega, fun t ht => absurd ht List.not_mem_nil⟩
  have k1 : spec_B10Looks_loop0_ends (m, o.Long, o.Round, o.Tilt, o.Node, o.Peri, o.Phase, c) (v1, a1, s1, []) = true := k1
  have k2' : ∃ r, spec_B10Looks_loop0 (m, o.Long, o.Round, o.Tilt, o.Node, o.Peri, o.Phase, c) (v1, a1, s1, []) = r ∧ 0 ≤ r.1 ∧ r.1 ≤ 10 ∧ r.2.2.length ≤ 3 ∧ ∀ t ∈ r.2.2, I .f32 t (some (0, 4)) := ⟨_, rfl, k2⟩
  obtain ⟨⟨a3, s3, times⟩, w0, w1, w2, w3, w4⟩ := k2'
  simp only at w1 w2 w3 w4
  obtain ⟨v4, a4, s4, m4, e4, l4, u4, q4, r4⟩ := pick_eq hc s3 (a := a3) (n := 65536) w1 (by omega) (by omega) (by omega)
  obtain ⟨n1, list, s', n2, n3, n4⟩ := noisy_L (seed := v4) h hm w3 w4 l4 (by omega)
  have key : (spec_B10Looks_tree c o m).get = some (.inr list) := by
    unfold spec_B10Looks_tree
    simp only [DT.get, m1, e1, k1, w0, m4, e4, hv, n1, n2, isL, rightD]
  obtain ⟨z1, z2⟩ := DT.of_get key
  exact ⟨z1, list, z2, n3, n4⟩

/-! ## Differences from the nearest integer -/

theorem fsub_self0 {x : Nat} (hx : isNum .f32 x = true) : fsub .f32 x x = 0 := by
  obtain ⟨s, a, p, hx⟩ := isNum_iff.1 hx
  unfold fsub Format.sub
  rw [hx]
  have e : (Datum.number s a p).sum (Datum.number s a p).opposite = some (.number false 0 p) := by
    show (Datum.number s a p).sum (.number (!s) a p) = _
    unfold Datum.sum
    have t : signed s a (p - min p p).toNat + signed (!s) a (p - min p p).toNat = 0 := by
      unfold signed
      cases s <;> simp <;> omega
    simp only [t]
    cases s <;> simp
  rw [e]
  show canon .f32 (FloatKind.f32.format.nearest false 0 p) = 0
  have hw : FloatKind.f32.format.nearest false 0 p = FloatKind.f32.format.word false 0 := by unfold Format.nearest; rw [if_pos rfl]
  rw [hw]
  decide +kernel

theorem near_zero : impl_nearTurn_need 0 = true ∧ impl_nearTurn 0 = 0 := by decide +kernel

theorem near_I {d : Nat} (h : I .f32 d (some (-2, 2))) : impl_nearTurn_need d = true ∧ I .f32 (impl_nearTurn d) (some (-1, 1)) := by
  have hT := T_le
  have hG := Gr_ge
  have u := h.up
  have y := (I.add u k_half).to (lo := -3) (hi := 3) (by decide +kernel)
  have kh := k_half.2
  have u2 := u.2
  have b : Bd (R .f64 (fconv .f32 d .f64) + R .f64 4602678819172646912) 3 := by unfold Bd; constructor <;> grind
  have f := (fadd_fl u.1 k_half.1 (b.mono (by grind))).err64 b
  obtain ⟨n, n1, n2, n3, n4⟩ := floor_R y.1 (by have := y.2; unfold Bd; constructor <;> grind)
  have b2 : Bd (R .f64 (fconv .f32 d .f64) - R .f64 (ffloor (fadd .f64 (fconv .f32 d .f64) 4602678819172646912))) (51 / 100) := by rw [n2]; unfold Nr Bd at *; constructor <;> grind
  have f2 := fsub_fl u.1 n1 (b2.mono (by grind))
  have e2 := f2.err64 b2
  have x4 : I .f64 (fsub .f64 (fconv .f32 d .f64) (ffloor (fadd .f64 (fconv .f32 d .f64) 4602678819172646912))) (some (-52 / 100, 52 / 100)) := ⟨f2.1, by unfold Nr Bd at *; grind, by unfold Nr Bd at *; grind⟩
  have fl : math_Floor (fadd .f64 (fconv .f32 d .f64) 4602678819172646912) = ffloor (fadd .f64 (fconv .f32 d .f64) 4602678819172646912) := rfl
  have g := I.fits x4 (by decide +kernel) (by decide +kernel)
  have dn := (I.down x4).to (lo := -1) (hi := 1) (by decide +kernel)
  have key : (impl_nearTurn_tree d).get = some (fconv .f64 (fsub .f64 (fconv .f32 d .f64) (ffloor (fadd .f64 (fconv .f32 d .f64) 4602678819172646912))) .f32) := by
    unfold impl_nearTurn_tree
    simp only [DT.get, fconvOk_up, fl, g]
  obtain ⟨k1, k2⟩ := DT.of_get key
  have k2 : impl_nearTurn d = _ := k2
  exact ⟨k1, by rw [k2]; exact dn⟩

/-! ## Misses -/

structure GoodP (l : Look) : Prop where
  time : I .f32 l.Time (some (0, 4))
  right : I .f32 l.Right (some (-1, 1))
  up : I .f32 l.Up (some (-1, 1))
  far : I .f32 l.Far (some (-1000, 4000000000))

theorem GoodL.p {l : Look} (h : GoodL l) : GoodP l := ⟨h.time, h.right, h.up, h.far⟩

noncomputable def wN (o : Orbit) (m : Nat) (l : Look) : Nat := innerN (impl_miss o m l).1 (impl_miss o m l).2.1 (impl_miss o m l).2.2.1

theorem inner_I {a b c : Nat} (ha : I .f32 a (some (-1, 1))) (hb : I .f32 b (some (-2, 2))) (hc : I .f32 c (some (-4200000000, 4200000000))) : I .f32 (innerN a b c) (some (0, 20000000000000000000)) := by
  have n1 := (I.sq ha).to (lo := -1) (hi := 2) (by decide +kernel)
  have n2 := (I.sq hb).to (lo := -1) (hi := 5) (by decide +kernel)
  have n3 := (I.sq hc).to (lo := -100000000000000) (hi := 18000000000000000000) (by decide +kernel)
  have g1 := fmul_nn ha.1 ha.1 (sq_nonneg _)
  have g2 := fmul_nn hb.1 hb.1 (sq_nonneg _)
  have g3 := fmul_nn hc.1 hc.1 (sq_nonneg _)
  have a1 := (I.add n1 n2).to (lo := -3) (hi := 8) (by decide +kernel)
  have g4 := fadd_nn n1.1 n2.1 (by grind)
  have a2 := (I.add a1 n3).to (lo := -1000000000000000) (hi := 20000000000000000000) (by decide +kernel)
  exact ⟨a2.1, fadd_nn a1.1 n3.1 (by grind), a2.2.2⟩

theorem miss_L {o : Orbit} {m : Nat} {l : Look} (h : OrbL o 2) (hm : I .f32 m (some (1 / 2, 4))) (g : GoodP l) : impl_miss_need o m l = true ∧ (impl_miss o m l).2.2.2 = true ∧ I .f32 (wN o m l) (some (0, 20000000000000000000)) := by
  obtain ⟨o', at', sp, r, u, S⟩ := seen_L h hm g.time
  have hv : (⟨o.Long, o.Round, o.Tilt, o.Node, o.Peri, o.Phase⟩ : Orbit) = o := rfl
  have d1 := (I.sub g.right S.right).to (lo := -2) (hi := 2) (by decide +kernel)
  have d2 := (I.sub g.up S.up).to (lo := -2) (hi := 2) (by decide +kernel)
  have d3 := (I.sub g.far S.far).to (lo := -4200000000) (hi := 4200000000) (by decide +kernel)
  obtain ⟨n1, n2⟩ := near_I d1
  obtain ⟨f1, f2⟩ := areFinite_eq [impl_nearTurn (fsub .f32 l.Right r), fsub .f32 l.Up u, fsub .f32 l.Far (rootN (innerN at'.X at'.Y at'.Z))] (by show 3 ≤ 2 ^ 62; decide)
  simp only [List.all_cons, List.all_nil, n2.1, d2.1, d3.1, Bool.and_true] at f2
  have key : (impl_miss_tree o m l).get = some (impl_nearTurn (fsub .f32 l.Right r), fsub .f32 l.Up u, fsub .f32 l.Far (rootN (innerN at'.X at'.Y at'.Z)), true) := by
    unfold impl_miss_tree
    simp only [DT.get, hv, S.need, S.told, n1, f1, f2, Bool.not_true]
  obtain ⟨k1, k2⟩ := DT.of_get key
  have k2 : impl_miss o m l = _ := k2
  refine ⟨k1, by rw [k2], ?_⟩
  unfold wN
  rw [k2]
  exact inner_I n2 d2 d3

theorem wN_weight (o : Orbit) (m : Nat) (t r u f w w' : Nat) : wN o m ⟨t, r, u, f, w⟩ = wN o m ⟨t, r, u, f, w'⟩ := rfl

/-- An exact look misses nothing. -/
theorem exact_L {o : Orbit} {m t : Nat} {o' : Orbit} {at' sp : Vec} {r u : Nat} (S : Seen o m t o' at' sp r u) : impl_MissOf_need o m ⟨t, r, u, rootN (innerN at'.X at'.Y at'.Z), 1065353216⟩ = true ∧ impl_MissOf o m ⟨t, r, u, rootN (innerN at'.X at'.Y at'.Z), 1065353216⟩ = (0, 0, 0, true) := by
  have hv : (⟨o.Long, o.Round, o.Tilt, o.Node, o.Peri, o.Phase⟩ : Orbit) = o := rfl
  have hB : lookB ⟨t, r, u, rootN (innerN at'.X at'.Y at'.Z), 1065353216⟩ = true := by
    unfold lookB
    simp only [List.all_cons, List.all_nil, S.time.1, S.right.1, S.up.1, S.far.1, k_w.1, k_w.2, Bool.and_true, Bool.not_false]
  obtain ⟨A1, A2⟩ := AreLooks_eq [⟨t, r, u, rootN (innerN at'.X at'.Y at'.Z), 1065353216⟩] (by show 1 ≤ 24; decide)
  rw [List.all_cons, List.all_nil, hB, Bool.and_true] at A2
  obtain ⟨f1, f2⟩ := areFinite_eq [0, 0, 0] (by show 3 ≤ 2 ^ 62; decide)
  simp only [List.all_cons, List.all_nil, z32'.1, Bool.and_true] at f2
  have key1 : (impl_miss_tree o m ⟨t, r, u, rootN (innerN at'.X at'.Y at'.Z), 1065353216⟩).get = some (0, 0, 0, true) := by
    unfold impl_miss_tree
    simp only [DT.get, hv, S.need, S.told, fsub_self0 S.right.1, fsub_self0 S.up.1, fsub_self0 S.far.1, near_zero.1, near_zero.2, f1, f2, Bool.not_true]
  obtain ⟨k1, k2⟩ := DT.of_get key1
  have k1 : impl_miss_need o m ⟨t, r, u, rootN (innerN at'.X at'.Y at'.Z), 1065353216⟩ = true := k1
  have k2 : impl_miss o m ⟨t, r, u, rootN (innerN at'.X at'.Y at'.Z), 1065353216⟩ = (0, 0, 0, true) := k2
  have key : (impl_MissOf_tree o m ⟨t, r, u, rootN (innerN at'.X at'.Y at'.Z), 1065353216⟩).get = some (0, 0, 0, true) := by
    unfold impl_MissOf_tree
    simp only [DT.get, hv, A1, A2, k1, k2, Bool.not_true]
  exact DT.of_get key

/-! ## Weighed squares -/

theorem range_getD {α β : Type} (f : α → β) (d : α) (l : List α) : (List.range l.length).map (fun k => f (l.getD k d)) = l.map f := by
  apply List.ext_getElem
  · simp
  · intro i h1 h2
    simp only [List.length_map, List.length_range] at h1
    simp [List.getD_eq_getElem?_getD, List.getElem?_eq_getElem h1]

theorem weighed_L {o : Orbit} {m : Nat} {list : List Look} (h : OrbL o 2) (hm : I .f32 m (some (1 / 2, 4))) (hl : list.length ≤ 3) (hg : ∀ l ∈ list, GoodP l ∧ lookB l = true) :
    impl_weighedOf_need o m list = true ∧ impl_weighedOf o m list = .inr (list.map (fun l => fmul .f32 l.Weight (wN o m l))) := by
  have hv : (⟨o.Long, o.Round, o.Tilt, o.Node, o.Peri, o.Phase⟩ : Orbit) = o := rfl
  obtain ⟨a0, a1, a2⟩ := above_L hm
  obtain ⟨v1, v2⟩ := ValidOrbit_eq o
  rw [h.ok] at v2
  obtain ⟨A1, A2⟩ := AreLooks_eq list (by omega)
  rw [show list.all lookB = true from List.all_eq_true.2 fun x hx => (hg x hx).2] at A2
  obtain ⟨e1, e2⟩ := map_loop (step := impl_weighedOf_loop0_step (m, list, ((list.length : Nat) : Int), o.Long, o.Round, o.Tilt, o.Node, o.Peri, o.Phase)) list.length (fun k => fmul .f32 (list.getD k default).Weight (wN o m (list.getD k default))) (fun r => (.inr r : Unit ⊕ List Nat)) (fun k hk acc hacc => by
    have hgk : GoodP (list.getD k default) := by
      rw [List.getD_eq_getElem?_getD, List.getElem?_eq_getElem hk, Option.getD_some]
      exact (hg _ (List.getElem_mem hk)).1
    obtain ⟨m1, m2, -⟩ := miss_L h hm hgk
    have hroom := room (n := acc.length) (k := [fmul .f32 (list.getD k default).Weight (wN o m (list.getD k default))].length) (b := 4) (by show acc.length + 1 ≤ 17; omega) (by decide)
    have ei : ∀ l : Look, impl_misses_inner (impl_miss o m l).1 (impl_miss o m l).2.1 (impl_miss o m l).2.2.1 (impl_miss o m l).1 (impl_miss o m l).2.1 (impl_miss o m l).2.2.1 = wN o m l := fun _ => rfl
    refine ⟨[0, 202], ?_⟩
    unfold impl_weighedOf_loop0_step
    simp only [DT.get, nat_dec hk, nat_ge, Bool.and_true, Int.toNat_natCast, hv, look_eta, m1, m2, ei, hroom, nat_next hk (by omega), Bool.not_true]) (fun acc => ⟨[1], by
    unfold impl_weighedOf_loop0_step
    simp only [DT.get, nat_not]⟩)
  rw [range_getD (fun l : Look => fmul .f32 l.Weight (wN o m l)) default list] at e2
  have e1 : impl_weighedOf_loop0_ends (m, list, ((list.length : Nat) : Int), o.Long, o.Round, o.Tilt, o.Node, o.Peri, o.Phase) (0, []) = true := e1
  have e2 : impl_weighedOf_loop0 (m, list, ((list.length : Nat) : Int), o.Long, o.Round, o.Tilt, o.Node, o.Peri, o.Phase) (0, []) = .inr _ := e2
  have key : (impl_weighedOf_tree o m list).get = some (.inr (list.map (fun l => fmul .f32 l.Weight (wN o m l)))) := by
    unfold impl_weighedOf_tree
    simp only [DT.get, hv, v1, v2, a1, a2, A1, A2, e1, e2, isL, rightD, Bool.not_true]
  exact DT.of_get key

/-! ## Sums -/

theorem take_next {α : Type} (l : List α) (d : α) {i : Nat} (h : i < l.length) : l.take (i + 1) = l.take i ++ [l.getD i d] := by
  rw [List.take_add_one, List.getD_eq_getElem?_getD, List.getElem?_eq_getElem h]
  rfl

theorem sum_loop (xs : List Nat) (hl : xs.length ≤ 2 ^ 62) : impl_SquareOfMisses_loop0_ends (((xs.length : Nat) : Int), xs) (0, 0) = true ∧ impl_SquareOfMisses_loop0 (((xs.length : Nat) : Int), xs) (0, 0) = xs.foldl (fadd .f32) 0 := by
  refine loop_post (step := impl_SquareOfMisses_loop0_step (((xs.length : Nat) : Int), xs)) (fun s => ∃ i : Nat, i ≤ xs.length ∧ s = ((xs.take i).foldl (fadd .f32) 0, (i : Int))) (fun s => ((xs.length : Int) - s.2).toNat) (fun r => r = xs.foldl (fadd .f32) 0) ?_ (0, 0) ⟨0, Nat.zero_le _, rfl⟩
  rintro s ⟨i, hi, rfl⟩
  rcases Nat.lt_or_ge i xs.length with hlt | hge
  · refine ⟨.inl ((xs.take (i + 1)).foldl (fadd .f32) 0, ((i + 1 : Nat) : Int)), [0], ?_, ⟨i + 1, hlt, rfl⟩, ?_⟩
    · unfold impl_SquareOfMisses_loop0_step
      have d : decide (i < xs.length) = true := decide_eq_true hlt
      simp only [DT.get, nat_dec hlt, nat_ge, Bool.and_true, Int.toNat_natCast, d, nat_next hlt hl]
      rw [take_next xs default hlt, List.foldl_append]
      rfl
    · show ((xs.length : Int) - ((i + 1 : Nat) : Int)).toNat < ((xs.length : Int) - ((i : Nat) : Int)).toNat
      omega
  · have : i = xs.length := Nat.le_antisymm hi hge
    subst this
    refine ⟨.inr (xs.foldl (fadd .f32) 0), [], ?_, rfl⟩
    unfold impl_SquareOfMisses_loop0_step
    simp only [DT.get, nat_not]
    rw [List.take_length]

theorem square_L {o : Orbit} {m : Nat} {list : List Look} {sum : Nat} (h : OrbL o 2) (hm : I .f32 m (some (1 / 2, 4))) (hl : list.length ≤ 3) (hg : ∀ l ∈ list, GoodP l ∧ lookB l = true) (hs : (list.map (fun l => fmul .f32 l.Weight (wN o m l))).foldl (fadd .f32) 0 = sum) (hn : isNum .f32 sum = true) :
    impl_SquareOfMisses_need o m list = true ∧ impl_SquareOfMisses o m list = (sum, true) := by
  have hv : (⟨o.Long, o.Round, o.Tilt, o.Node, o.Peri, o.Phase⟩ : Orbit) = o := rfl
  obtain ⟨w1, w2⟩ := weighed_L h hm hl hg
  obtain ⟨s1, s2⟩ := sum_loop (list.map (fun l => fmul .f32 l.Weight (wN o m l))) (by rw [List.length_map]; exact Nat.le_trans hl (by decide))
  rw [hs] at s2
  have key : (impl_SquareOfMisses_tree o m list).get = some (sum, true) := by
    unfold impl_SquareOfMisses_tree
    simp only [DT.get, hv, w1, w2, isL, rightD, s1, s2, told_need, told_num hn]
  exact DT.of_get key

/-- Twice, nearly. -/
structure Dbl (x y : Nat) (B c : Rat) : Prop where
  fst : I .f32 x (some (0, B))
  snd : I .f32 y (some (0, 3 * B))
  near : Nr (R .f32 y) (2 * R .f32 x) (R .f32 x * c + c)

theorem k_1w : I .f32 1065353216 (some (1, 1)) := k_one32
theorem k_2w : I .f32 1073741824 (some (2, 2)) := I.at (by decide +kernel)

theorem dbl_step {x y w : Nat} {B c d : Rat} (h : Dbl x y B c) (hB : B ≤ 1000000000000000000000) (hw : I .f32 w (some (0, 20000000000000000000))) (hc : (c = 0 ∧ d = 1 / 1000000) ∨ (c = 1 / 1000000 ∧ d = 2 / 1000000) ∨ (c = 2 / 1000000 ∧ d = 3 / 1000000)) : Dbl (fadd .f32 x (fmul .f32 1065353216 w)) (fadd .f32 y (fmul .f32 1073741824 w)) (2 * B + 30000000000000000000) d := by
  have hT := T_le
  have hT0 := T_pos
  have hG := Gr_ge
  obtain ⟨hx, hy, hn⟩ := h
  have x2 := hx.2
  have y2 := hy.2
  have w2 := hw.2
  have k1 : R .f32 1065353216 = 1 := by have := k_1w.2; grind
  have k2 : R .f32 1073741824 = 2 := by have := k_2w.2; grind
  have b1 : Bd (R .f32 1065353216 * R .f32 w) (R .f32 w) := by rw [k1]; unfold Bd; constructor <;> grind
  have f1 := fmul_fl k_1w.1 hw.1 (b1.mono (by grind))
  have e1 := f1.err b1
  rw [k1] at e1
  have b2 : Bd (R .f32 1073741824 * R .f32 w) (2 * R .f32 w) := by rw [k2]; unfold Bd; constructor <;> grind
  have f2 := fmul_fl k_2w.1 hw.1 (b2.mono (by grind))
  have e2 := f2.err b2
  rw [k2] at e2
  have g1 := fmul_nn k_1w.1 hw.1 (by rw [k1]; grind)
  have g2 := fmul_nn k_2w.1 hw.1 (by rw [k2]; grind)
  have f1n := f1.1
  have f2n := f2.1
  generalize fmul .f32 1065353216 w = u at *
  generalize fmul .f32 1073741824 w = v at *
  have b3 : Bd (R .f32 x + R .f32 u) (R .f32 x + R .f32 u) := by unfold Bd; constructor <;> grind
  have f3 := fadd_fl hx.1 f1n (b3.mono (by unfold Nr at e1; grind))
  have e3 := f3.err b3
  have g3 := fadd_nn hx.1 f1n (by grind)
  have b4 : Bd (R .f32 y + R .f32 v) (R .f32 y + R .f32 v) := by unfold Bd; constructor <;> grind
  have f4 := fadd_fl hy.1 f2n (b4.mono (by unfold Nr at e2; grind))
  have e4 := f4.err b4
  have g4 := fadd_nn hy.1 f2n (by grind)
  have f3n := f3.1
  have f4n := f4.1
  clear f1 f2 f3 f4 b1 b2 b3 b4
  refine ⟨⟨f3n, g3, ?_⟩, ⟨f4n, g4, ?_⟩, ?_⟩
  · unfold Nr at *; grind
  · unfold Nr at *; grind
  · unfold Nr at *
    rcases hc with ⟨rfl, rfl⟩ | ⟨rfl, rfl⟩ | ⟨rfl, rfl⟩ <;> constructor <;> grind

end Go.Proofs.YtfbnehkbialkaaaGreat
