/- The law of catalogs, part 8: what it answers. -/
import Derived.Test.YtnmeiodaeaabfaaK7
import Derived.Test.YtnmeiodaeaabfaaEngY
namespace Go.Proofs.Ytnmeiodaeaabfaa
set_option linter.unusedVariables false
set_option linter.unusedSimpArgs false

theorem long_no {c d : List Int} (h1 : c.length ≤ 1048576) (h2 : d.length ≤ 1048576) : laws_b10Long c d = false := by
  have d1 : decide (((c.length : Nat) : Int) > 1048576) = false := decide_eq_false (by omega)
  have d2 : decide (((d.length : Nat) : Int) > 1048576) = false := decide_eq_false (by omega)
  unfold laws_b10Long laws_b10Long_tree
  simp only [DT.val, d1, d2]
theorem long_yes {c d : List Int} (h : ¬(c.length ≤ 1048576 ∧ d.length ≤ 1048576)) : laws_b10Long c d = true := by
  unfold laws_b10Long laws_b10Long_tree
  by_cases h1 : c.length ≤ 1048576
  · have d1 : decide (((c.length : Nat) : Int) > 1048576) = false := decide_eq_false (by omega)
    have d2 : decide (((d.length : Nat) : Int) > 1048576) = true := decide_eq_true (by omega)
    simp only [DT.val, d1, d2]
  · have d1 : decide (((c.length : Nat) : Int) > 1048576) = true := decide_eq_true (by omega)
    simp only [DT.val, d1]

theorem catalogs_true (c d : List Int) (hc : ∀ x ∈ c, 0 ≤ x ∧ x ≤ 255) (hd : ∀ x ∈ d, 0 ≤ x ∧ x ≤ 255) : laws_FnCatalogs_need c d = true ∧ laws_FnCatalogs c d = true := by
  by_cases hlong : c.length ≤ 1048576 ∧ d.length ≤ 1048576
  · have hL := long_no hlong.1 hlong.2
    have hcB : Bytes c := ⟨hlong.1, hc⟩
    have hdB : Bytes d := ⟨hlong.2, hd⟩
    obtain ⟨B1, B2, B3⟩ := b10Entries_eq hcB
    obtain ⟨L, hLL⟩ : ∃ L, L = spec_B10Entries c := ⟨_, rfl⟩
    rw [← hLL] at B2 B3
    have okL := B2.okL
    have okV := B2.1
    obtain ⟨A1, A2⟩ := are_ok okV
    obtain ⟨D1, D2⟩ := decimal_zero
    obtain ⟨O1, O2⟩ := b10Orbit_eq hdB
    obtain ⟨o, ho⟩ : ∃ o, o = spec_B10Orbit d := ⟨_, rfl⟩
    rw [← ho] at O2
    obtain ⟨N1, N2⟩ := no_name 1065353216 o
    have M1 := mars_valid O2
    obtain ⟨E, hE⟩ : ∃ E : Entry, E = ⟨[109, 97, 114, 115], 1065353216, o⟩ := ⟨_, rfl⟩
    rw [← hE] at M1
    have hEn : E.Name = [109, 97, 114, 115] := by rw [hE]
    have hno : ∀ x ∈ L, x.Name ≠ E.Name := fun x hx => by rw [hEn]; exact (pool_short _ (B2.2 x hx).1).2
    obtain ⟨a, b, hab, hcut⟩ := cut_of E okV.2.1 hno
    have okP := hcut.okV (by rw [← hab]; exact okV) M1 (by rw [← hab]; omega)
    have hPlen : (a ++ [E] ++ b).length ≤ 16 := okP.2.2
    obtain ⟨f1, f2⟩ := hcut.filters [] (fun _ h => absurd h List.not_mem_nil)
    obtain ⟨g1, g2⟩ := hcut.filters [E] (fun x hx => by rw [List.mem_singleton.1 hx])
    rw [List.append_nil, ← hab] at f1 f2
    obtain ⟨P1, P2⟩ := put_eq L E okV M1 (by rw [f1, f2]; exact hPlen)
    rw [f1, f2] at P2
    obtain ⟨W1, W2⟩ := put_eq (a ++ [E] ++ b) E okP M1 (by rw [g1, g2]; exact hPlen)
    rw [g1, g2] at W2
    obtain ⟨F1, F2, F3, F4, X1, X2⟩ := hcut.drops okP
    rw [← hab] at X2
    obtain ⟨P, hP⟩ : ∃ P, P = a ++ [E] ++ b := ⟨_, rfl⟩
    rw [← hP] at P2 W1 W2 F1 F2 F3 F4 X1 X2
    rw [hEn] at F1 F2 F4 X1 X2
    obtain ⟨R1, R2⟩ := find_no okV hno
    rw [hEn] at R1 R2
    obtain ⟨SP1, SP2⟩ := same_entries P (by rw [hP]; omega)
    obtain ⟨SL1, SL2⟩ := same_entries L (by omega)
    obtain ⟨T1, T2⟩ := store_rounds okL d
    obtain ⟨U1, U2⟩ := store_all okL
    obtain ⟨V1, V2⟩ := rec_all okL
    have dm : decide (List.length ([109] : List UInt8) + List.length ([48] : List UInt8) ≤ 9223372036854775807) = true := rfl
    have app : ([109] : List UInt8) ++ [48] = [109, 48] := rfl
    have etaO : (⟨o.Long, o.Round, o.Tilt, o.Node, o.Peri, o.Phase⟩ : Orbit) = o := rfl
    have k1 : decide (((a.length : Nat) : Int) < 0) = false := decide_eq_false (by omega)
    have k2 : decide (((a.length : Nat) : Int) ≥ ((P.length : Nat) : Int)) = false := decide_eq_false (by omega)
    have k3 : (decide ((0 : Int) ≤ ((a.length : Nat) : Int)) && decide (((a.length : Nat) : Int) < ((P.length : Nat) : Int))) = true := by rw [decide_eq_true (by omega), decide_eq_true (by omega)]; rfl
    have k4 : decide (a.length < P.length) = true := decide_eq_true F3
    have elen := ends_length L (L.length + 1)
    have eat := ends_at L (n := L.length + 1) (j := L.length) (by omega)
    rw [List.take_length] at eat
    have k5 : (decide ((0 : Int) ≤ ((L.length : Nat) : Int)) && decide (((L.length : Nat) : Int) < ((L.length + 1 : Nat) : Int))) = true := by rw [decide_eq_true (by omega), decide_eq_true (by omega)]; rfl
    have k6 : decide (L.length < L.length + 1) = true := decide_eq_true (by omega)
    have k7 : ((((cat L).length : Nat) : Int) != (((cat L).length : Nat) : Int)) = false := by simp
    by_cases h0 : L = []
    · subst h0
      have hab0 : ([] : List Entry) = [] := rfl
      rw [if_pos rfl] at X2
      have all0 : (cat ([] : List Entry)).length = 0 := rfl
      have z : (((0 : Nat) : Int) == 0) = true := rfl
      have key : (laws_FnCatalogs_tree c d).get = some true := by
        unfold laws_FnCatalogs_tree
        simp only [DT.get, hL, B1, ← hLL, A1, A2, Bool.not_true, Bool.not_false, D1, D2, dm, app, O1, ← ho, etaO, N1, N2, ← hE, P1, P2, isL, leftD, rightD, F1, F2, W1, W2, X1, X2, R1, R2, k1, k2, k3, k4, Int.toNat_natCast, F4, beq_self_eq_true, SP1, SP2, SL1, SL2, T1, T2, U1, U2, V1, V2, elen, k5, k6, eat, k7, all0, z]
        rfl
      exact DT.of_get key
    · rw [if_neg h0] at X2
      by_cases hz : (cat L).length = 0
      · have z : ((((cat L).length : Nat) : Int) == 0) = true := by rw [hz]; rfl
        have key : (laws_FnCatalogs_tree c d).get = some true := by
          unfold laws_FnCatalogs_tree
          simp only [DT.get, hL, B1, ← hLL, A1, A2, Bool.not_true, Bool.not_false, D1, D2, dm, app, O1, ← ho, etaO, N1, N2, ← hE, P1, P2, isL, leftD, rightD, F1, F2, W1, W2, X1, X2, R1, R2, k1, k2, k3, k4, Int.toNat_natCast, F4, beq_self_eq_true, SP1, SP2, SL1, SL2, T1, T2, U1, U2, V1, V2, elen, k5, k6, eat, k7, z]
          rfl
        exact DT.of_get key
      · have z : ((((cat L).length : Nat) : Int) == 0) = false := beq_eq_false_iff_ne.2 (by omega)
        obtain ⟨Q1, Q2, Q3⟩ := at_eq hdB 0 (by omega) 256 (by omega) (by omega)
        obtain ⟨Y1, Y2, Y3⟩ := at_eq hdB 1 (by omega) 256 (by omega) (by omega)
        obtain ⟨Z1, Z2, Z3⟩ := at_eq hdB 2 (by omega) 255 (by omega) (by omega)
        have c0 : ((0 : Nat) : Int) = 0 := rfl
        have c1 : ((1 : Nat) : Int) = 1 := rfl
        have c2 : ((2 : Nat) : Int) = 2 := rfl
        rw [c0] at Q1 Q2 Q3
        rw [c1] at Y1 Y2 Y3
        rw [c2] at Z1 Z2 Z3
        obtain ⟨q, hq⟩ : ∃ q, q = laws_b10At d 0 256 := ⟨_, rfl⟩
        obtain ⟨y, hy⟩ : ∃ y, y = laws_b10At d 1 256 := ⟨_, rfl⟩
        obtain ⟨u, hu⟩ : ∃ u, u = laws_b10At d 2 255 := ⟨_, rfl⟩
        rw [← hq] at Q2 Q3
        rw [← hy] at Y2 Y3
        have w1 : IntKind.wrap .i64 (256 * q) = 256 * q := wrap_small (by omega) (by omega)
        have w2 : IntKind.wrap .i64 (256 * q + y) = 256 * q + y := wrap_small (by omega) (by omega)
        have zne : ((((cat L).length : Nat) : Int) != 0) = true := bne_iff_ne.2 (by omega)
        obtain ⟨n, hn, hnl⟩ : ∃ n : Nat, Int.tmod (256 * q + y) (((cat L).length : Nat) : Int) = (n : Int) ∧ n < (cat L).length := by
          have h1 := Int.tmod_nonneg (a := 256 * q + y) (((cat L).length : Nat) : Int) (by omega)
          have h2 := Int.tmod_lt_of_pos (256 * q + y) (b := (((cat L).length : Nat) : Int)) (by omega)
          exact ⟨(Int.tmod (256 * q + y) (((cat L).length : Nat) : Int)).toNat, by omega, by omega⟩
        obtain ⟨J1, k, J2, J3, J4, J5⟩ := kept_rounds okL.2.2 d (cat L) n
        have hkl : k < L.length := by
          rcases Nat.lt_or_ge k L.length with h | h
          · exact h
          · have : k = L.length := by omega
            subst this
            rw [List.take_length] at J4
            omega
        obtain ⟨G1, G2⟩ := rec_cut okL hkl J4 (J5 hkl)
        have hlk : (L.take k).length = k := by rw [List.length_take]; omega
        have eak := ends_at L (n := L.length + 1) (j := k) (by omega)
        have m1 : (decide ((0 : Int) ≤ (n : Int)) && decide ((n : Int) ≤ (((cat L).length : Nat) : Int))) = true := by rw [decide_eq_true (by omega), decide_eq_true (by omega)]; rfl
        have m2 : (decide ((0 : Int) ≤ (k : Int)) && decide ((k : Int) < ((L.length + 1 : Nat) : Int))) = true := by rw [decide_eq_true (by omega), decide_eq_true (by omega)]; rfl
        have m3 : decide (k < L.length + 1) = true := decide_eq_true (by omega)
        have m4 : ((((cat (L.take k)).length : Nat) : Int) != (((cat (L.take k)).length : Nat) : Int)) = false := by simp
        have m5 : ((k : Int) != (k : Int)) = false := by simp
        have hcl := cat_le okL.1
        have m6 : decide ((cat L).length ≤ 140737488355328) = true := decide_eq_true (by omega)
        have m7 : (decide ((0 : Int) ≤ (n : Int)) && decide ((n : Int) < (((cat L).length : Nat) : Int))) = true := by rw [decide_eq_true (by omega), decide_eq_true (by omega)]; rfl
        have m8 : decide (n < (cat L).length) = true := decide_eq_true hnl
        have u8l := u8i_length (cat L)
        obtain ⟨bb, hbb⟩ : ∃ bb, bb = IntKind.wrap .u8 (List.getD (u8i (cat L)) n default + IntKind.wrap .u8 (IntKind.wrap .i64 (1 + u))) := ⟨_, rfl⟩
        obtain ⟨H1, l', oo, H2, H3, H4, H5, H6⟩ := bent_live okL hnl J4 bb
        rw [hlk] at H6
        obtain ⟨I1, I2⟩ := store_all H4
        have slen : ((u8i (cat L)).set n bb).length = (cat L).length := by rw [List.length_set, u8l]
        have v1 : decide (((l'.length : Nat) : Int) ≥ (k : Int)) = true := decide_eq_true (by omega)
        have v2 : decide ((oo : Int) ≥ 0) = true := decide_eq_true (by omega)
        have v3 : decide ((oo : Int) ≤ (((cat L).length : Nat) : Int)) = true := decide_eq_true (by omega)
        have v4 : (decide ((0 : Int) ≤ (oo : Int)) && decide ((oo : Int) ≤ (((cat L).length : Nat) : Int))) = true := by rw [decide_eq_true (by omega), decide_eq_true (by omega)]; rfl
        have v5 : decide (0 + (oo - 0) ≤ (cat L).length) = true := decide_eq_true (by omega)
        have v6 : (cat l' == strOf (((u8i (cat L)).set n bb).take (oo - 0))) = true := by rw [Nat.sub_zero, ← H5, beq_self_eq_true]
        have key : (laws_FnCatalogs_tree c d).get = some true := by
          unfold laws_FnCatalogs_tree
          simp only [DT.get, hL, B1, ← hLL, A1, A2, Bool.not_true, Bool.not_false, D1, D2, dm, app, O1, ← ho, etaO, N1, N2, ← hE, P1, P2, isL, leftD, rightD, F1, F2, W1, W2, X1, X2, R1, R2, k1, k2, k3, k4, Int.toNat_natCast, F4, beq_self_eq_true, SP1, SP2, SL1, SL2, T1, T2, U1, U2, V1, V2, elen, k5, k6, eat, k7, z,
            Q1, ← hq, w1, Y1, ← hy, w2, zne, hn, J1, J2, m1, List.drop_zero, G1, G2, m2, m3, eak, m4, hlk, m5, m6, m7, m8, u8l, Z1, ← hu, ← hbb, H1, H2, I1, I2, v1, v2, slen, v3, v4, v5, v6]
          show some (cat l' == strOf (((u8i (cat L)).set n bb).take (oo - 0))) = some true
          rw [v6]
        exact DT.of_get key
  · unfold laws_FnCatalogs_need laws_FnCatalogs laws_FnCatalogs_tree
    exact DT.of_get (DT.get_yes (long_yes hlong))

theorem u8_fit {x : Int} (h : (UC.int .u8).fit x) : 0 ≤ x ∧ x ≤ 255 := by
  have h : (decide (IntKind.min .u8 ≤ x) && decide (x ≤ IntKind.max .u8)) = true := h
  rw [show IntKind.min .u8 = 0 from rfl, show IntKind.max .u8 = 255 from rfl, Bool.and_eq_true, decide_eq_true_eq, decide_eq_true_eq] at h
  exact h

theorem plain3 (c : List Int) (_ : c.length ≤ maxLen) (hc : ∀ x ∈ c, (UC.int .u8).fit x) (d : List Int) (_ : d.length ≤ maxLen) (hd : ∀ x ∈ d, (UC.int .u8).fit x) : laws_FnCatalogs_need c d = true ∧ laws_FnCatalogs c d = true :=
  catalogs_true c d (fun x h => u8_fit (hc x h)) (fun x h => u8_fit (hd x h))

end Go.Proofs.Ytnmeiodaeaabfaa
