/- The plain law of FnLooks, part 8: the law. -/
import Derived.Test.YtfbnehkbialkaaaGreatK6
import Derived.Test.YtfbnehkbialkaaaGreatGL
namespace Go.Proofs.YtfbnehkbialkaaaGreat
open Ieee
set_option linter.unusedVariables false
set_option linter.unusedSimpArgs false

/-! ## Half of a number is less -/

theorem read_two32 : FloatKind.f32.format.read 1073741824 = .number false (2 ^ 23) (-22) := by decide +kernel

theorem half_word {x : Nat} {s : Bool} {a : Nat} {p : Int} (hx : FloatKind.f32.format.read x = .number s a p) : fdiv .f32 x 1073741824 = canon .f32 (FloatKind.f32.format.nearest s a (p - 1)) := by
  have hl := mag_lt hx
  have ha : a.log2 ≤ 23 := by
    by_cases h : a = 0
    · subst h
      decide
    · have := (Nat.log2_lt h).2 hl
      have e : fbits .f32 + 1 = 24 := rfl
      omega
  unfold fdiv Format.div
  rw [hx, read_two32]
  have hdg : FloatKind.f32.format.fractionBits = 23 := rfl
  have hc : (2 ^ 23 : Nat).log2 = 23 := by decide +kernel
  have hq : (Datum.number s a p).quotient (FloatKind.f32.format.fractionBits + 2) (.number false (2 ^ 23) (-22)) = some (.number s (a * 2 ^ (26 - a.log2)) (p + 21 - (48 - a.log2 : Nat))) := by
    unfold Datum.quotient
    simp only
    rw [if_neg (by decide), hdg, hc]
    have e1 : 23 + 2 + 23 - a.log2 = (25 - a.log2) + 23 := by omega
    rw [e1, Nat.shiftLeft_eq, Nat.pow_add, ← Nat.mul_assoc, Nat.mul_div_cancel _ (by decide), Nat.mul_mod_left, Bool.xor_false]
    have e3 : 26 - a.log2 = (25 - a.log2) + 1 := by omega
    have e4 : 2 * (a * 2 ^ (25 - a.log2)) + ((0 != 0 : Bool)).toNat = a * 2 ^ (26 - a.log2) := by
      rw [e3, Nat.pow_succ]
      generalize 2 ^ (25 - a.log2) = w
      show 2 * (a * w) + 0 = a * (w * 2)
      rw [Nat.add_zero, Nat.mul_comm 2, Nat.mul_assoc]
    rw [e4]
    congr 2
    omega
  rw [hq]
  show canon .f32 (FloatKind.f32.format.nearest s (a * 2 ^ (26 - a.log2)) (p + 21 - (48 - a.log2 : Nat))) = _
  rw [nearest_scale]
  have e6 : p + 21 - ((48 - a.log2 : Nat) : Int) + ((26 - a.log2 : Nat) : Int) = p - 1 := by omega
  rw [e6]

theorem half_less {x : Nat} (hx : isNum .f32 x = true) (h0 : 0 < R .f32 x) (h1 : R .f32 x ≤ Gr) : isNum .f32 (fdiv .f32 x 1073741824) = true ∧ R .f32 (fdiv .f32 x 1073741824) < R .f32 x := by
  obtain ⟨s, a, p, hd⟩ := isNum_iff.1 hx
  rw [half_word hd]
  have e : R .f32 x = rv (.number s a p) := by unfold R; rw [hd]
  rw [e] at h0 h1 ⊢
  have hs : s = false := by
    cases s
    · rfl
    · exfalso
      have hm := mag_nonneg a p
      rw [rv_num] at h0
      simp only [if_true] at h0
      grind
  subst hs
  have hp : (lplace .f32 : Int) ≤ p := by rw [← lp_eq]; exact place_ge hd
  have hal : a < 2 ^ (fbits .f32 + 1) := mag_lt hd
  have r1 : rv (.number false a p) = (a : Rat) * 2 ^ p := by rw [rv_num]; simp
  have r2 : rv (.number false a (p - 1)) = (a : Rat) * 2 ^ (p - 1) := by rw [rv_num]; simp
  have ht := two_step p
  have hpos := two_pos (p - 1)
  rw [r1, ← ht] at h0 h1 ⊢
  have ha0 : (0 : Rat) ≤ a := by exact_mod_cast Nat.zero_le a
  generalize hw : (2 : Rat) ^ (p - 1) = w at *
  have hax : (a : Rat) * (w * 2) = 2 * ((a : Rat) * w) := by grind
  rw [hax] at h0 h1 ⊢
  rcases Int.lt_or_le (p - 1) (lplace .f32) with hlt | hge
  · have hpe : p - 1 = lplace .f32 - 1 := by omega
    have h1a : a = 1 ∨ 2 ≤ a := by
      have : a ≠ 0 := fun h => by subst h; simp at h0
      omega
    rcases h1a with rfl | h2
    · have ez : canon .f32 (FloatKind.f32.format.nearest false 1 (p - 1)) = 0 := by rw [hpe]; decide +kernel
      rw [ez]
      exact ⟨by decide +kernel, by rw [show R .f32 0 = 0 by decide +kernel]; exact h0⟩
    · have hle : (a : Rat) * 2 ^ (p - 1) < 2 ^ ((101 : Nat) : Int) := by
        have : Gr < 2 ^ ((101 : Nat) : Int) := by decide +kernel
        rw [hw]
        grind
      obtain ⟨n1, kept, n2, n3⟩ := nearest_last (k := .f32) (s := false) (e := 101) (by decide) hle (by omega)
      rw [canon_num' n1]
      have hlog : a.log2 ≤ 23 := by
        have := (Nat.log2_lt (by omega : a ≠ 0)).2 hal
        have e : fbits .f32 + 1 = 24 := rfl
        omega
      have hmax : max (p - 1 + a.log2 - fbits .f32) (lplace .f32) = lplace .f32 := by
        have e : (fbits .f32 : Int) = 23 := rfl
        omega
      rw [hmax, ← hpe, hw, r2] at n3
      have h2' : (2 : Rat) ≤ a := by exact_mod_cast h2
      have := Rat.mul_le_mul_of_nonneg_right h2' (Rat.le_of_lt hpos)
      unfold Nr at n3
      exact ⟨n1, by grind⟩
  · obtain ⟨n1, n2⟩ := write_ex (k := .f32) (s := false) (m := a) (t := a) (p := p - 1) (b := p - 1) (by rw [r2]; unfold Bd; constructor <;> grind) rfl hge hal
    rw [n2, r2]
    exact ⟨n1, by grind⟩

/-! ## The worst look -/

theorem getD_num {xs : List Nat} {i : Nat} (h : ∀ x ∈ xs, isNum .f32 x = true) (hi : i < xs.length) : isNum .f32 (xs.getD i default) = true := by
  rw [List.getD_eq_getElem?_getD, List.getElem?_eq_getElem hi, Option.getD_some]
  exact h _ (List.getElem_mem hi)

theorem worst_loop (xs : List Nat) (hl : xs.length ≤ 2 ^ 62) (h0 : 0 < xs.length) (hn : ∀ x ∈ xs, isNum .f32 x = true) :
    impl_WorstLook_loop0_ends (((xs.length : Nat) : Int), xs) (0, 0) = true ∧ ∃ k : Nat, impl_WorstLook_loop0 (((xs.length : Nat) : Int), xs) (0, 0) = (k : Int) ∧ k < xs.length ∧ ∀ j, j < xs.length → R .f32 (xs.getD j default) ≤ R .f32 (xs.getD k default) := by
  refine loop_post (step := impl_WorstLook_loop0_step (((xs.length : Nat) : Int), xs)) (fun s => ∃ k i : Nat, i ≤ xs.length ∧ k < xs.length ∧ s = ((k : Int), (i : Int)) ∧ ∀ j, j < i → R .f32 (xs.getD j default) ≤ R .f32 (xs.getD k default)) (fun s => ((xs.length : Int) - s.2).toNat) (fun r => ∃ k : Nat, r = (k : Int) ∧ k < xs.length ∧ ∀ j, j < xs.length → R .f32 (xs.getD j default) ≤ R .f32 (xs.getD k default)) ?_ (0, 0) ⟨0, 0, Nat.zero_le _, h0, rfl, fun j hj => absurd hj (Nat.not_lt_zero j)⟩
  rintro s ⟨k, i, hi, hk, rfl, hm⟩
  rcases Nat.lt_or_ge i xs.length with hlt | hge
  · have d1 : decide (i < xs.length) = true := decide_eq_true hlt
    have d2 : decide (k < xs.length) = true := decide_eq_true hk
    cases hg : fgt .f32 (xs.getD i default) (xs.getD k default) with
    | true =>
      refine ⟨.inl ((i : Int), ((i + 1 : Nat) : Int)), [0], ?_, ⟨i, i + 1, hlt, hlt, rfl, ?_⟩, ?_⟩
      · unfold impl_WorstLook_loop0_step
        simp only [DT.get, nat_dec hlt, nat_dec hk, nat_ge, Bool.and_true, Int.toNat_natCast, d1, d2, hg, nat_next hlt hl]
      · intro j hj
        rw [fgt_R (getD_num hn hlt) (getD_num hn hk), decide_eq_true_eq] at hg
        rcases Nat.lt_or_ge j i with h | h
        · have := hm j h
          grind
        · have : j = i := by omega
          subst this
          exact Rat.le_refl
      · show ((xs.length : Int) - ((i + 1 : Nat) : Int)).toNat < ((xs.length : Int) - ((i : Nat) : Int)).toNat
        omega
    | false =>
      refine ⟨.inl ((k : Int), ((i + 1 : Nat) : Int)), [0], ?_, ⟨k, i + 1, hlt, hk, rfl, ?_⟩, ?_⟩
      · unfold impl_WorstLook_loop0_step
        simp only [DT.get, nat_dec hlt, nat_dec hk, nat_ge, Bool.and_true, Int.toNat_natCast, d1, d2, hg, nat_next hlt hl]
      · intro j hj
        rw [fgt_R (getD_num hn hlt) (getD_num hn hk)] at hg
        have hg := of_decide_eq_false hg
        rcases Nat.lt_or_ge j i with h | h
        · exact hm j h
        · have : j = i := by omega
          subst this
          grind
      · show ((xs.length : Int) - ((i + 1 : Nat) : Int)).toNat < ((xs.length : Int) - ((i : Nat) : Int)).toNat
        omega
  · have : i = xs.length := Nat.le_antisymm hi hge
    subst this
    refine ⟨.inr (k : Int), [0], ?_, k, rfl, hk, hm⟩
    unfold impl_WorstLook_loop0_step
    simp only [DT.get, nat_not]

/-! ## Looks that are dropped -/

theorem drop_loop (lim : Nat) (list : List Look) (xs : List Nat) (hl : list.length ≤ 3) (he : xs.length = list.length) :
    impl_DropLooks_loop0_ends (lim, list, ((list.length : Nat) : Int), xs) (0, []) = true ∧ ∃ r, impl_DropLooks_loop0 (lim, list, ((list.length : Nat) : Int), xs) (0, []) = r ∧ r.length ≤ list.length ∧ ((∀ j, j < list.length → fle .f32 (xs.getD j default) lim = true) → r = list) ∧ ((∃ j, j < list.length ∧ fle .f32 (xs.getD j default) lim = false) → r.length < list.length) := by
  have key := loop_post (step := impl_DropLooks_loop0_step (lim, list, ((list.length : Nat) : Int), xs)) (fun s => ∃ i : Nat, i ≤ list.length ∧ s.1 = (i : Int) ∧ s.2.length ≤ i ∧ ((∀ j, j < i → fle .f32 (xs.getD j default) lim = true) → s.2 = list.take i) ∧ ((∃ j, j < i ∧ fle .f32 (xs.getD j default) lim = false) → s.2.length < i)) (fun s => ((list.length : Int) - s.1).toNat)
    (fun r => r.length ≤ list.length ∧ ((∀ j, j < list.length → fle .f32 (xs.getD j default) lim = true) → r = list) ∧ ((∃ j, j < list.length ∧ fle .f32 (xs.getD j default) lim = false) → r.length < list.length)) (by
    rintro ⟨n, acc⟩ ⟨i, hi, hn, h1, h2, h3⟩
    simp only at hn h1 h2 h3
    subst hn
    rcases Nat.lt_or_ge i list.length with hlt | hge
    · have hlt' : i < xs.length := by omega
      have d1 : decide (i < xs.length) = true := decide_eq_true hlt'
      cases hg : fle .f32 (xs.getD i default) lim with
      | true =>
        have hroom := room (n := acc.length) (k := [list.getD i default].length) (b := 20) (by show acc.length + 1 ≤ 17; omega) (by decide)
        refine ⟨.inl (((i + 1 : Nat) : Int), acc ++ [list.getD i default]), [0, 130], ?_, ⟨i + 1, hlt, rfl, ?_, ?_, ?_⟩, ?_⟩
        · unfold impl_DropLooks_loop0_step
          simp only [DT.get, nat_dec hlt, nat_dec hlt', nat_ge, Bool.and_true, Int.toNat_natCast, d1, hg, look_eta, hroom, nat_next hlt (by omega)]
        · show (acc ++ [list.getD i default]).length ≤ i + 1
          rw [List.length_append]
          show acc.length + 1 ≤ i + 1
          omega
        · intro h
          show acc ++ [list.getD i default] = _
          rw [take_next list default hlt, h2 fun j hj => h j (by omega)]
        · rintro ⟨j, hj, hf⟩
          show (acc ++ [list.getD i default]).length < i + 1
          rw [List.length_append]
          show acc.length + 1 < i + 1
          have : j ≠ i := fun e => by subst e; rw [hg] at hf; cases hf
          have := h3 ⟨j, by omega, hf⟩
          omega
        · show ((list.length : Int) - ((i + 1 : Nat) : Int)).toNat < ((list.length : Int) - ((i : Nat) : Int)).toNat
          omega
      | false =>
        refine ⟨.inl (((i + 1 : Nat) : Int), acc), [0, 1], ?_, ⟨i + 1, hlt, rfl, by show acc.length ≤ i + 1; omega, ?_, fun _ => by show acc.length < i + 1; omega⟩, ?_⟩
        · unfold impl_DropLooks_loop0_step
          simp only [DT.get, nat_dec hlt, nat_dec hlt', nat_ge, Bool.and_true, Int.toNat_natCast, d1, hg, nat_next hlt (by omega)]
        · intro h
          have := h i (by omega)
          rw [hg] at this
          cases this
        · show ((list.length : Int) - ((i + 1 : Nat) : Int)).toNat < ((list.length : Int) - ((i : Nat) : Int)).toNat
          omega
    · have : i = list.length := Nat.le_antisymm hi hge
      subst this
      rw [List.take_length] at h2
      refine ⟨.inr acc, [1], ?_, h1, h2, h3⟩
      unfold impl_DropLooks_loop0_step
      simp only [DT.get, nat_not]) (0, []) ⟨0, Nat.zero_le _, rfl, Nat.le_refl _, fun _ => rfl, fun ⟨j, hj, _⟩ => absurd hj (Nat.not_lt_zero j)⟩
  exact ⟨key.1, _, rfl, key.2⟩

theorem weigh_L {list : List Look} (hl : list.length ≤ 3) (hg : ∀ l ∈ list, GoodL l) : impl_WeighLooks_need list 1073741824 = true ∧ impl_WeighLooks list 1073741824 = .inr (list.map fun l => ⟨l.Time, l.Right, l.Up, l.Far, 1073741824⟩) ∧ ∀ l ∈ list.map (fun l => (⟨l.Time, l.Right, l.Up, l.Far, 1073741824⟩ : Look)), GoodP l ∧ lookB l = true := by
  obtain ⟨A1, A2⟩ := AreLooks_eq list (by omega)
  rw [GoodL.all hg] at A2
  have hk : isNum .f32 1073741824 = true ∧ flt .f32 1073741824 0 = false ∧ fge .f32 1073741824 0 = true ∧ fmul .f32 1065353216 1073741824 = 1073741824 := by decide +kernel
  have hall : ∀ l ∈ list.map (fun l => (⟨l.Time, l.Right, l.Up, l.Far, 1073741824⟩ : Look)), GoodP l ∧ lookB l = true := by
    intro l hl
    rw [List.mem_map] at hl
    obtain ⟨x, hx, rfl⟩ := hl
    have g := hg x hx
    refine ⟨⟨g.time, g.right, g.up, g.far⟩, ?_⟩
    unfold lookB
    simp only [List.all_cons, List.all_nil, g.time.1, g.right.1, g.up.1, g.far.1, hk.1, hk.2.1, Bool.and_true, Bool.not_false]
  obtain ⟨B1, B2⟩ := AreLooks_eq (list.map fun l => ⟨l.Time, l.Right, l.Up, l.Far, 1073741824⟩) (by rw [List.length_map]; omega)
  rw [List.all_eq_true.2 fun x hx => (hall x hx).2] at B2
  obtain ⟨e1, e2⟩ := map_loop (step := impl_WeighLooks_loop0_step (1073741824, list, ((list.length : Nat) : Int))) list.length (fun k => (⟨(list.getD k default).Time, (list.getD k default).Right, (list.getD k default).Up, (list.getD k default).Far, 1073741824⟩ : Look)) (fun r => r) (fun k hk' acc hacc => by
    have hw : (list.getD k default).Weight = 1065353216 := by
      rw [List.getD_eq_getElem?_getD, List.getElem?_eq_getElem hk', Option.getD_some]
      exact (hg _ (List.getElem_mem hk')).weight
    have hroom := room (n := acc.length) (k := [(⟨(list.getD k default).Time, (list.getD k default).Right, (list.getD k default).Up, (list.getD k default).Far, 1073741824⟩ : Look)].length) (b := 20) (by show acc.length + 1 ≤ 17; omega) (by decide)
    refine ⟨[113], ?_⟩
    unfold impl_WeighLooks_loop0_step
    simp only [DT.get, nat_dec hk', nat_ge, Bool.and_true, Int.toNat_natCast, hw, hk.2.2.2, hroom, nat_next hk' (by omega)]) (fun acc => ⟨[0], by
    unfold impl_WeighLooks_loop0_step
    simp only [DT.get, nat_not]⟩)
  rw [range_getD (fun l : Look => (⟨l.Time, l.Right, l.Up, l.Far, 1073741824⟩ : Look)) default list] at e2
  have e1 : impl_WeighLooks_loop0_ends (1073741824, list, ((list.length : Nat) : Int)) (0, []) = true := e1
  have e2 : impl_WeighLooks_loop0 (1073741824, list, ((list.length : Nat) : Int)) (0, []) = _ := e2
  have am : impl_aMass_need 1073741824 = true ∧ impl_aMass 1073741824 = true := by
    unfold impl_aMass_need impl_aMass impl_aMass_tree
    simp only [DT.ok, DT.val, IsFinite_need, IsFinite_eq, hk.1, hk.2.2.1]
    exact ⟨trivial, trivial⟩
  have key : (impl_WeighLooks_tree list 1073741824).get = some (.inr (list.map fun l => ⟨l.Time, l.Right, l.Up, l.Far, 1073741824⟩)) := by
    unfold impl_WeighLooks_tree
    simp only [DT.get, A1, A2, am.1, am.2, e1, e2, B1, B2, Bool.not_true]
  obtain ⟨n1, n2⟩ := DT.of_get key
  exact ⟨n1, n2, hall⟩

/-- What the law finds ahead of its last part. -/
structure Head (a0 a1 : List Int) (o : Orbit) (m t : Nat) (o' : Orbit) (at' sp : Vec) (r u far : Nat) (list list2 : List Look) (s s2 : Nat) : Prop where
  h0 : laws_b10Long a0 a1 = false
  e1 : spec_B10Orbit_need a0 = true
  e2 : spec_B10Orbit a0 = o
  m1 : spec_B10Mass_need a1 = true
  m2 : spec_B10Mass a1 = m
  i1 : laws_b10At_need a1 3 17 = true
  i2 : fdiv .f32 (fofInt .f32 (laws_b10At a1 3 17)) 1090519040 = t
  l1 : spec_LaterOrbit_need o m t = true
  l2 : spec_LaterOrbit o m t = (o', true)
  k1 : impl_LookAt_need o m t = true
  k2 : impl_LookAt o m t = (⟨t, r, u, far, 1065353216⟩, true)
  s1 : spec_StateOf_need o' m = true
  s2' : spec_StateOf o' m = (at', sp, true)
  x1 : impl_MissOf_need o m ⟨t, r, u, far, 1065353216⟩ = true
  x2 : impl_MissOf o m ⟨t, r, u, far, 1065353216⟩ = (0, 0, 0, true)
  z1 : spec_SizeOfVector_need at' = true
  z2 : spec_SizeOfVector at' = far
  n1 : spec_SameNumber_need far far = true
  n2 : spec_SameNumber far far = true
  u1 : flt .f32 u 3196093202 = false
  u2 : fgt .f32 u 1048609554 = false
  c1 : fne .f32 0 0 = false
  c2 : fne .f32 1065353216 1065353216 = false
  L1 : spec_B10Looks_need a0 o m = true
  L2 : spec_B10Looks a0 o m = .inr list
  q1 : impl_SquareOfMisses_need o m list = true
  q2 : impl_SquareOfMisses o m list = (s, true)
  g1 : impl_WeighLooks_need list 1073741824 = true
  g2 : impl_WeighLooks list 1073741824 = .inr list2
  d1 : impl_SquareOfMisses_need o m list2 = true
  d2 : impl_SquareOfMisses o m list2 = (s2, true)
  b1 : flt .f32 s 0 = false
  b2 : fgt .f64 (laws_b10Gap (fconv .f32 s2 .f64) (fmul .f64 4611686018427387904 (fconv .f32 s .f64))) (fmul .f64 4562254508917369340 (fadd .f64 4607182418800017408 (fconv .f32 s .f64))) = false
  a1' : impl_AreLooks_need list = true
  a2 : impl_AreLooks list = true
  v1 : impl_SameLooks_need list list = true
  v2 : impl_SameLooks list list = true

theorem orbit_eta (o : Orbit) : (⟨o.Long, o.Round, o.Tilt, o.Node, o.Peri, o.Phase⟩ : Orbit) = o := rfl
theorem vec_eta (v : Vec) : (⟨v.X, v.Y, v.Z⟩ : Vec) = v := rfl

theorem law_nil {a0 a1 : List Int} {o : Orbit} {m t : Nat} {o' : Orbit} {at' sp : Vec} {r u far : Nat} {list list2 : List Look} {s s2 : Nat} (H : Head a0 a1 o m t o' at' sp r u far list list2 s s2) {k : Int} {most : Nat}
    (w1 : impl_WorstLook_need o m list = true) (w2 : impl_WorstLook o m list = (k, most, false)) (hl : decide (((list.length : Nat) : Int) > 0) = false) : (laws_FnLooks_tree a0 a1).get = some true := by
  obtain ⟨h0, e1, e2, m1, m2, i1, i2, l1, l2, k1, k2, s1, s2', x1, x2, z1, z2, n1, n2, u1, u2, c1, c2, L1, L2, q1, q2, g1, g2, d1, d2, b1, b2, a1', a2, v1, v2⟩ := H
  unfold laws_FnLooks_tree
  simp only [h0, e1, e2, m1, m2, i1, i2, orbit_eta, l1, l2, k1, k2, s1, s2', look_eta, x1, x2, vec_eta, z1, z2, n1, n2, u1, u2, c1, c2, L1, L2, isL, rightD, q1, q2, w1, w2, g1, g2, d1, d2, hl, b1, b2, fconvOk_up, a1', a2, v1, v2]
  simp only [DT.get, beq_self_eq_true, Bool.not_true, Bool.not_false]

theorem law_cons {a0 a1 : List Int} {o : Orbit} {m t : Nat} {o' : Orbit} {at' sp : Vec} {r u far : Nat} {list list2 : List Look} {s s2 : Nat} (H : Head a0 a1 o m t o' at' sp r u far list list2 s s2) {k : Int} {most : Nat} {rest one : List Look} {own : Nat}
    (w1 : impl_WorstLook_need o m list = true) (w2 : impl_WorstLook o m list = (k, most, true)) (hl : decide (((list.length : Nat) : Int) > 0) = true)
    (p1 : impl_DropLooks_need o m list most = true) (p2 : impl_DropLooks o m list most = .inr list)
    (y1 : impl_DropLooks_need o m list (fdiv .f32 most 1073741824) = true) (y2 : impl_DropLooks o m list (fdiv .f32 most 1073741824) = .inr rest)
    (f1 : (decide (0 ≤ IntKind.wrap .i64 (k + 1)) && decide (IntKind.wrap .i64 (k + 1) ≤ ((List.length list : Nat) : Int))) = true)
    (f2 : (decide (0 ≤ k) && decide (k ≤ (((Int.toNat (IntKind.wrap .i64 (k + 1))) : Nat) : Int))) = true)
    (f3 : decide ((Int.toNat k) + ((Int.toNat (IntKind.wrap .i64 (k + 1))) - (Int.toNat k)) ≤ List.length list) = true)
    (f4 : List.take ((Int.toNat (IntKind.wrap .i64 (k + 1))) - (Int.toNat k)) (List.drop (Int.toNat k) list) = one)
    (o1 : impl_SquareOfMisses_need o m one = true) (o2 : impl_SquareOfMisses o m one = (own, true))
    (t1 : decide (((List.length rest : Nat) : Int) ≤ ((List.length list : Nat) : Int)) = true)
    (t2 : fle .f32 most 0 = false → decide (((List.length rest : Nat) : Int) < ((List.length list : Nat) : Int)) = true)
    (t3 : flt .f64 (laws_b10Gap (fconv .f32 own .f64) (fconv .f32 most .f64)) (fmul .f64 4562254508917369340 (fadd .f64 4607182418800017408 (fconv .f32 most .f64))) = true) : (laws_FnLooks_tree a0 a1).get = some true := by
  obtain ⟨h0, e1, e2, m1, m2, i1, i2, l1, l2, k1, k2, s1, s2', x1, x2, z1, z2, n1, n2, u1, u2, c1, c2, L1, L2, q1, q2, g1, g2, d1, d2, b1, b2, a1', a2, v1, v2⟩ := H
  unfold laws_FnLooks_tree
  cases hm : fle .f32 most 0 with
  | true =>
    simp only [h0, e1, e2, m1, m2, i1, i2, orbit_eta, l1, l2, k1, k2, s1, s2', look_eta, x1, x2, vec_eta, z1, z2, n1, n2, u1, u2, c1, c2, L1, L2, isL, rightD, q1, q2, w1, w2, g1, g2, d1, d2, hl, b1, b2, fconvOk_up, a1', a2, v1, v2, p1, p2, y1, y2, f1, f2, f3, f4, o1, o2, t1, t3, hm]
    simp only [DT.get, beq_self_eq_true, Bool.not_true, Bool.not_false]
  | false =>
    have t2 := t2 hm
    simp only [h0, e1, e2, m1, m2, i1, i2, orbit_eta, l1, l2, k1, k2, s1, s2', look_eta, x1, x2, vec_eta, z1, z2, n1, n2, u1, u2, c1, c2, L1, L2, isL, rightD, q1, q2, w1, w2, g1, g2, d1, d2, hl, b1, b2, fconvOk_up, a1', a2, v1, v2, p1, p2, y1, y2, f1, f2, f3, f4, o1, o2, t1, t2, t3, hm]
    simp only [DT.get, beq_self_eq_true, Bool.not_true, Bool.not_false]

/-! ## Numbers -/

theorem gap_any {a b : Nat} {M : Rat} (ha : isNum .f64 a = true) (hb : isNum .f64 b = true) (h : Nr (R .f64 a) (R .f64 b) M) (hM : M ≤ 1000000000000000000000000000) : isNum .f64 (laws_b10Gap a b) = true ∧ R .f64 (laws_b10Gap a b) ≤ M + M / 1000000 + 1 / 1000000000 := by
  have hT := T_le
  have hG := Gr_ge
  have h' := h.symm
  have hM0 : 0 ≤ M := Bd.nonneg h
  have f1 := fsub_fl ha hb (by unfold Nr Bd at *; constructor <;> grind)
  have f2 := fsub_fl hb ha (by unfold Nr Bd at *; constructor <;> grind)
  have e1 := f1.err64 (M := M) h
  have e2 := f2.err64 (M := M) h'
  unfold laws_b10Gap laws_b10Gap_tree
  cases flt .f64 a b <;> simp only [DT.val]
  · exact ⟨f1.1, by unfold Nr at *; grind⟩
  · exact ⟨f2.1, by unfold Nr at *; grind⟩

theorem thou_ge {s : Nat} {B : Rat} (h : I .f64 s (some (0, B))) (hB : B ≤ 1000000000000000000000000000) : isNum .f64 (fmul .f64 4562254508917369340 (fadd .f64 4607182418800017408 s)) = true ∧ 8 / 10000 * (1 + R .f64 s) ≤ R .f64 (fmul .f64 4562254508917369340 (fadd .f64 4607182418800017408 s)) := by
  have hT := T_le
  have hG := Gr_ge
  have h2 := h.2
  have k1 : R .f64 4607182418800017408 = 1 := by have := k_one.2; grind
  obtain ⟨t1, t2, t3⟩ := k_thou
  have b1 : Bd (R .f64 4607182418800017408 + R .f64 s) (1 + R .f64 s) := by rw [k1]; unfold Bd; constructor <;> grind
  have f1 := fadd_fl k_one.1 h.1 (b1.mono (by grind))
  have e1 := f1.err64 b1
  rw [k1] at e1
  have f1n := f1.1
  generalize fadd .f64 4607182418800017408 s = y at *
  have y0 : 0 ≤ R .f64 y := by unfold Nr at e1; grind
  have y1 : R .f64 y ≤ 2 * (1 + R .f64 s) := by unfold Nr at e1; grind
  have p1 := Rat.mul_le_mul_of_nonneg_right t2 y0
  have p2 := Rat.mul_le_mul_of_nonneg_right t3 y0
  have b2 : Bd (R .f64 4562254508917369340 * R .f64 y) (1 + R .f64 s) := by unfold Bd; constructor <;> grind
  have f2 := fmul_fl t1 f1n (b2.mono (by grind))
  have e2 := f2.err64 b2
  refine ⟨f2.1, ?_⟩
  unfold Nr at *
  grind

/-! ## The sums -/

theorem sums_L {o : Orbit} {m : Nat} {list : List Look} (h : OrbL o 2) (hm : I .f32 m (some (1 / 2, 4))) (hl : list.length ≤ 3) (hg : ∀ l ∈ list, GoodL l) :
    Dbl ((list.map (fun l => fmul .f32 l.Weight (wN o m l))).foldl (fadd .f32) 0) (((list.map (fun l => (⟨l.Time, l.Right, l.Up, l.Far, 1073741824⟩ : Look))).map (fun l => fmul .f32 l.Weight (wN o m l))).foldl (fadd .f32) 0) 1000000000000000000000000 (3 / 1000000) := by
  have d0 : Dbl 0 0 0 0 := ⟨I.at (by decide +kernel), I.at (by decide +kernel), by unfold Nr; constructor <;> decide +kernel⟩
  have up : ∀ {x y : Nat} {B c : Rat}, Dbl x y B c → 0 ≤ B → B ≤ 1000000000000000000000000 → c ≤ 3 / 1000000 → Dbl x y 1000000000000000000000000 (3 / 1000000) := fun {x y B c} h h0 h1 h2 => by
    obtain ⟨a, b, d⟩ := h
    have a2 := a.2
    have p := Rat.mul_le_mul_of_nonneg_left h2 a2.1
    exact ⟨a.mono (by grind) h1, b.mono (by grind) (by grind), d.mono (by grind)⟩
  have wI : ∀ l ∈ list, I .f32 (wN o m l) (some (0, 20000000000000000000)) ∧ l.Weight = 1065353216 := fun l hl => ⟨(miss_L h hm (hg l hl).p).2.2, (hg l hl).weight⟩
  have wE : ∀ l : Look, wN o m ⟨l.Time, l.Right, l.Up, l.Far, 1073741824⟩ = wN o m l := fun l => rfl
  match list, hl, wI with
  | [], _, _ => exact up d0 (by decide +kernel) (by decide +kernel) (by decide +kernel)
  | [a], _, wI =>
    have wa := wI a (by simp)
    have s1 := dbl_step d0 (by decide +kernel) wa.1 (.inl ⟨rfl, rfl⟩)
    simp only [List.map_cons, List.map_nil, List.foldl_cons, List.foldl_nil, wa.2, wE]
    exact up s1 (by decide +kernel) (by decide +kernel) (by decide +kernel)
  | [a, b], _, wI =>
    have wa := wI a (by simp)
    have wb := wI b (by simp)
    have s1 := dbl_step d0 (by decide +kernel) wa.1 (.inl ⟨rfl, rfl⟩)
    have s2 := dbl_step s1 (by decide +kernel) wb.1 (.inr (.inl ⟨rfl, rfl⟩))
    simp only [List.map_cons, List.map_nil, List.foldl_cons, List.foldl_nil, wa.2, wb.2, wE]
    exact up s2 (by decide +kernel) (by decide +kernel) (by decide +kernel)
  | [a, b, c], _, wI =>
    have wa := wI a (by simp)
    have wb := wI b (by simp)
    have wc := wI c (by simp)
    have s1 := dbl_step d0 (by decide +kernel) wa.1 (.inl ⟨rfl, rfl⟩)
    have s2 := dbl_step s1 (by decide +kernel) wb.1 (.inr (.inl ⟨rfl, rfl⟩))
    have s3 := dbl_step s2 (by decide +kernel) wc.1 (.inr (.inr ⟨rfl, rfl⟩))
    simp only [List.map_cons, List.map_nil, List.foldl_cons, List.foldl_nil, wa.2, wb.2, wc.2, wE]
    exact up s3 (by decide +kernel) (by decide +kernel) (by decide +kernel)
  | _ :: _ :: _ :: _ :: _, hl, _ => exact absurd hl (by simp)

theorem dbl_gap {s s2 : Nat} (h : Dbl s s2 1000000000000000000000000 (3 / 1000000)) : flt .f32 s 0 = false ∧ fgt .f64 (laws_b10Gap (fconv .f32 s2 .f64) (fmul .f64 4611686018427387904 (fconv .f32 s .f64))) (fmul .f64 4562254508917369340 (fadd .f64 4607182418800017408 (fconv .f32 s .f64))) = false := by
  have hT := T_le
  have hG := Gr_ge
  obtain ⟨a, b, d⟩ := h
  have a2 := a.2
  have b2 := b.2
  obtain ⟨u1, u2⟩ := up_R a.1
  obtain ⟨v1, v2⟩ := up_R b.1
  have e2 : R .f64 4611686018427387904 = 2 := by have := k_two.2; grind
  have bm : Bd (R .f64 4611686018427387904 * R .f64 (fconv .f32 s .f64)) (2 * R .f32 s) := by rw [e2, u2]; unfold Bd; constructor <;> grind
  have f := fmul_fl k_two.1 u1 (bm.mono (by grind))
  have e := f.err64 bm
  rw [e2, u2] at e
  obtain ⟨t1, t2⟩ := thou_ge a.up (by decide +kernel)
  rw [u2] at t2
  obtain ⟨g1, g2⟩ := gap_any v1 f.1 (M := R .f32 s * (4 / 1000000) + 4 / 1000000) (by rw [v2]; unfold Nr at *; constructor <;> grind) (by grind)
  refine ⟨?_, ?_⟩
  · rw [flt_R a.1 z32'.1, z32'.2]
    exact decide_eq_false (by grind)
  · rw [fgt_R g1 t1]
    exact decide_eq_false (by grind)

theorem same_self {x : Nat} (h : isNum .f32 x = true) : spec_SameNumber_need x x = true ∧ spec_SameNumber x x = true := by
  have key1 : (spec_l01Bits_tree x).get = some (IntKind.wrap .i64 ((x : Nat) : Int)) := by
    unfold spec_l01Bits_tree
    simp only [DT.get, num_fne h, num_nan h, Bool.not_false]
  obtain ⟨b1, b2⟩ := DT.of_get key1
  have b1 : spec_l01Bits_need x = true := b1
  have key2 : (spec_l01Same_tree x x).get = some true := by
    unfold spec_l01Same_tree
    simp only [DT.get, b1, beq_self_eq_true]
  obtain ⟨c1, c2⟩ := DT.of_get key2
  have c1 : spec_l01Same_need x x = true := c1
  have c2 : spec_l01Same x x = true := c2
  have key3 : (spec_SameNumber_tree x x).get = some true := by
    unfold spec_SameNumber_tree
    simp only [DT.get, c1, c2]
  exact DT.of_get key3

theorem k_ups : I .f32 3196093202 (some (-252 / 1000, -25099 / 100000)) ∧ I .f32 1048609554 (some (25099 / 100000, 252 / 1000)) ∧ fne .f32 0 0 = false ∧ fne .f32 1065353216 1065353216 = false := ⟨I.at (by decide +kernel), I.at (by decide +kernel), by decide +kernel, by decide +kernel⟩

theorem b2_of {x : Nat} (h : isNum .f32 x = true) : isNum .f32 (fadd .f32 0 x) = true → True := fun _ => trivial

theorem looks_true (a0 a1 : List Int) (h0 : ∀ x ∈ a0, 0 ≤ x ∧ x ≤ 255) (h1 : ∀ x ∈ a1, 0 ≤ x ∧ x ≤ 255) : laws_FnLooks_need a0 a1 = true ∧ laws_FnLooks a0 a1 = true := by
  have key : (laws_FnLooks_tree a0 a1).get = some true := by
    cases hlong : laws_b10Long a0 a1 with
    | true =>
      unfold laws_FnLooks_tree
      simp only [hlong]
      simp only [DT.get]
    | false =>
      obtain ⟨n0, n1⟩ := long10 hlong
      have hc : Bytes a0 := ⟨n0, h0⟩
      have hd : Bytes a1 := ⟨n1, h1⟩
      obtain ⟨e1, hO⟩ := b10Orbit_L hc
      obtain ⟨m1, hM⟩ := b10Mass_L hd
      obtain ⟨i1, j, i2⟩ := b10At_L hd
      generalize ho : spec_B10Orbit a0 = o at *
      generalize hmm : spec_B10Mass a1 = m at *
      have ht := I.at (q_time8 j)
      rw [← i2] at ht
      generalize htt : fdiv .f32 (fofInt .f32 (laws_b10At a1 3 17)) 1090519040 = t at *
      obtain ⟨o', at', sp, r, u, S⟩ := seen_L hO hM ht
      obtain ⟨x1, x2⟩ := exact_L S
      obtain ⟨z1, z2⟩ := specSize_eq at'
      obtain ⟨s1, s2⟩ := same_self S.far.1
      obtain ⟨L1, list, L2, hl, hg⟩ := looks_L hc hO hM
      have hgp : ∀ l ∈ list, GoodP l ∧ lookB l = true := fun l hl => ⟨(hg l hl).p, (hg l hl).look⟩
      have hD := sums_L hO hM hl hg
      obtain ⟨b1, b2⟩ := dbl_gap hD
      obtain ⟨q1, q2⟩ := square_L hO hM hl hgp rfl hD.fst.1
      obtain ⟨g1, g2, g3⟩ := weigh_L hl hg
      obtain ⟨d1, d2⟩ := square_L hO hM (by rw [List.length_map]; exact hl) g3 rfl hD.snd.1
      obtain ⟨A1, A2⟩ := AreLooks_eq list (by omega)
      rw [GoodL.all hg] at A2
      obtain ⟨v1, v2⟩ := same_looks list (by omega)
      have H : Head a0 a1 o m t o' at' sp r u (rootN (innerN at'.X at'.Y at'.Z)) list _ _ _ :=
        ⟨hlong, e1, ho, m1, hmm, i1, htt, S.later_need, S.later, S.need, S.told, S.state_need, S.state, x1, x2, z1, z2, s1, s2, I.not_lt S.up k_ups.1 (by decide +kernel), I.not_gt S.up k_ups.2.1 (by decide +kernel), k_ups.2.2.1, k_ups.2.2.2, L1, L2, q1, q2, g1, g2, d1, d2, b1, b2, A1, A2, v1, v2⟩
      obtain ⟨w1, w2⟩ := weighed_L hO hM hl hgp
      have hxs : ∀ x ∈ list.map (fun l => fmul .f32 l.Weight (wN o m l)), I .f32 x (some (0, 30000000000000000000)) := by
        intro x hx
        rw [List.mem_map] at hx
        obtain ⟨l, hl, rfl⟩ := hx
        have hw := (miss_L hO hM (hg l hl).p).2.2
        rw [(hg l hl).weight]
        have q := (I.mul k_1w hw).to (lo := -100000000000000) (hi := 30000000000000000000) (by decide +kernel)
        have hw2 := hw.2
        have k1 : R .f32 1065353216 = 1 := by have := k_1w.2; grind
        exact ⟨q.1, fmul_nn k_1w.1 hw.1 (by rw [k1]; grind), q.2.2⟩
      have hlx : (list.map (fun l => fmul .f32 l.Weight (wN o m l))).length = list.length := List.length_map ..
      generalize hX : list.map (fun l => fmul .f32 l.Weight (wN o m l)) = xs at *
      by_cases hne : list.length = 0
      · have hdl : decide (((list.length : Nat) : Int) > 0) = false := decide_eq_false (by omega)
        have hz : ((((list.length : Nat) : Int)) == 0) = true := by rw [hne]; rfl
        have kw : (impl_WorstLook_tree o m list).get = some (0, 0, false) := by
          unfold impl_WorstLook_tree
          simp only [DT.get, orbit_eta, w1, w2, isL, hz]
        obtain ⟨y1, y2⟩ := DT.of_get kw
        exact law_nil H y1 y2 hdl
      · have hdl : decide (((list.length : Nat) : Int) > 0) = true := decide_eq_true (by omega)
        have hz : ((((list.length : Nat) : Int)) == 0) = false := by rw [beq_eq_false_iff_ne]; omega
        obtain ⟨p1, k, p2, hk, p3⟩ := worst_loop xs (by omega) (by omega) (fun x hx => (hxs x hx).1)
        have hkI : I .f32 (xs.getD k default) (some (0, 30000000000000000000)) := by
          rw [List.getD_eq_getElem?_getD, List.getElem?_eq_getElem hk, Option.getD_some]
          exact hxs _ (List.getElem_mem hk)
        have kw : (impl_WorstLook_tree o m list).get = some ((k : Int), xs.getD k default, true) := by
          unfold impl_WorstLook_tree
          have d : decide (k < xs.length) = true := decide_eq_true hk
          simp only [DT.get, orbit_eta, w1, w2, isL, rightD, hz, p1, p2, nat_dec hk, nat_ge, Bool.and_true, Int.toNat_natCast, d, IsFinite_need, IsFinite_eq, hkI.1, Bool.not_true]
        obtain ⟨y1, y2⟩ := DT.of_get kw
        -- the drops
        have drop : ∀ lim, impl_DropLooks_need o m list lim = true ∧ ∃ r, impl_DropLooks o m list lim = .inr r ∧ r.length ≤ list.length ∧ ((∀ j, j < list.length → fle .f32 (xs.getD j default) lim = true) → r = list) ∧ ((∃ j, j < list.length ∧ fle .f32 (xs.getD j default) lim = false) → r.length < list.length) := by
          intro lim
          obtain ⟨c1, r, c2, c3⟩ := drop_loop lim list xs hl hlx
          have kd : (impl_DropLooks_tree o m list lim).get = some (.inr r) := by
            unfold impl_DropLooks_tree
            simp only [DT.get, orbit_eta, w1, w2, isL, rightD, c1, c2]
          obtain ⟨c4, c5⟩ := DT.of_get kd
          exact ⟨c4, r, c5, c3⟩
        obtain ⟨P1, all, P2, -, P3, -⟩ := drop (xs.getD k default)
        have P3 := P3 fun j hj => by
          rw [fle_R (getD_num (fun x hx => (hxs x hx).1) (by omega)) hkI.1]
          exact decide_eq_true (p3 j (by omega))
        rw [P3] at P2
        obtain ⟨Y1, rest, Y2, Y3, -, Y4⟩ := drop (fdiv .f32 (xs.getD k default) 1073741824)
        have hk2 := hkI.2
        have hG := Gr_ge
        have hT := T_le
        -- the one look
        have hw : IntKind.wrap .i64 ((k : Int) + 1) = ((k + 1 : Nat) : Int) := nat_next hk (by omega)
        have hone : List.take (Int.toNat (IntKind.wrap .i64 ((k : Int) + 1)) - Int.toNat (k : Int)) (List.drop (Int.toNat (k : Int)) list) = [list.getD k default] := by
          rw [hw, Int.toNat_natCast, Int.toNat_natCast, show k + 1 - k = 1 by omega, List.drop_eq_getElem_cons (by omega : k < list.length), List.getD_eq_getElem?_getD, List.getElem?_eq_getElem (by omega : k < list.length)]
          rfl
        have hin : list.getD k default ∈ list := by
          rw [List.getD_eq_getElem?_getD, List.getElem?_eq_getElem (by omega : k < list.length), Option.getD_some]
          exact List.getElem_mem _
        have hval : fmul .f32 (list.getD k default).Weight (wN o m (list.getD k default)) = xs.getD k default := by
          rw [← hX, List.getD_eq_getElem?_getD, List.getD_eq_getElem?_getD, List.getElem?_map, List.getElem?_eq_getElem (by omega : k < list.length)]
          rfl
        have b0 : Bd (R .f32 0 + R .f32 (xs.getD k default)) (R .f32 (xs.getD k default)) := by rw [z32'.2]; unfold Bd; constructor <;> grind
        have f0 := fadd_fl z32'.1 hkI.1 (b0.mono (by grind))
        have e0 := f0.err b0
        rw [z32'.2] at e0
        obtain ⟨O1, O2⟩ := square_L (list := [list.getD k default]) (sum := fadd .f32 0 (xs.getD k default)) hO hM (by show 1 ≤ 3; decide) (fun l hl => by rw [List.mem_singleton] at hl; subst hl; exact hgp _ hin) (by simp only [List.map_cons, List.map_nil, List.foldl_cons, List.foldl_nil, hval]) f0.1
        refine law_cons H y1 y2 hdl P1 P2 Y1 Y2 ?_ ?_ ?_ hone O1 O2 (decide_eq_true (by omega)) ?_ ?_
        · rw [hw, decide_eq_true (by omega), decide_eq_true (by omega)]; rfl
        · rw [hw, Int.toNat_natCast, decide_eq_true (by omega), decide_eq_true (by omega)]; rfl
        · rw [hw, Int.toNat_natCast, Int.toNat_natCast]
          exact decide_eq_true (by omega)
        · intro hf
          rw [fle_R hkI.1 z32'.1, z32'.2] at hf
          have hf := of_decide_eq_false hf
          obtain ⟨H1, H2⟩ := half_less hkI.1 (by grind) (by grind)
          have := Y4 ⟨k, by omega, by rw [fle_R hkI.1 H1]; exact decide_eq_false (by grind)⟩
          exact decide_eq_true (by omega)
        · obtain ⟨u1, u2⟩ := up_R f0.1
          obtain ⟨t1, t2⟩ := thou_ge hkI.up (by decide +kernel)
          obtain ⟨w1', w2'⟩ := up_R hkI.1
          rw [w2'] at t2
          obtain ⟨G1, G2⟩ := gap_any u1 w1' (M := R .f32 (xs.getD k default) / 1000000 + 1 / 1000000) (by rw [u2, w2']; unfold Nr at *; constructor <;> grind) (by grind)
          rw [flt_R G1 t1]
          exact decide_eq_true (by grind)
  exact DT.of_get key

theorem plain3 (c : List Int) (_ : c.length ≤ maxLen) (hc : ∀ x ∈ c, (UC.int .u8).fit x) (d : List Int) (_ : d.length ≤ maxLen) (hd : ∀ x ∈ d, (UC.int .u8).fit x) : laws_FnLooks_need c d = true ∧ laws_FnLooks c d = true :=
  looks_true c d (fun x h => u8_fit (hc x h)) (fun x h => u8_fit (hd x h))

end Go.Proofs.YtfbnehkbialkaaaGreat
