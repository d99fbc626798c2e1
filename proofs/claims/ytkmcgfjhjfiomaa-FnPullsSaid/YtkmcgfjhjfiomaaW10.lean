/- The plain law of FnPulls, part 10: the law's second loop, and what is small. -/
import Derived.Test.YtkmcgfjhjfiomaaW9
namespace Go.Proofs.Ytkmcgfjhjfiomaa
set_option linter.unusedVariables false
set_option linter.unusedSimpArgs false

theorem tsum_diff {F G : Nat → Rat} {e : Rat} : ∀ n : Nat, (∀ j, j < n → Nr (F j) (G j) e) → Nr (tsum F n) (tsum G n) ((n : Rat) * e)
  | 0, _ => by unfold Nr tsum; constructor <;> simp <;> grind
  | n + 1, h => by
    have h1 := tsum_diff n fun j hj => h j (by omega)
    have h2 := h n (by omega)
    unfold Nr at h1 h2 ⊢
    simp only [tsum]
    push_cast
    constructor <;> grind

/-- Masses times pulls are nothing together, nearly. -/
theorem Base.sum {l : List Body} {f : Nat → Int × Int × Int × Int} (h : Base l f) (c : Vec → Nat) (hc : c = Vec.X ∨ c = Vec.Y ∨ c = Vec.Z) {a : Nat} (hs : SumN a (tsum (fun i => R .f32 (l.getD i default).Mass * R .f32 (c (pullV l i))) l.length) l.length) : Bd (R .f32 a) (19 / 10000) := by
  have n4 := h.n4
  have hn : (l.length : Rat) ≤ 4 := by exact_mod_cast n4
  have hn0 : (0 : Rat) ≤ l.length := by exact_mod_cast Nat.zero_le _
  have h1 := anti_sum (m := fun i => R .f32 (l.getD i default).Mass) (t := fun i j => termV l (l.getD i default).At i c j) (e := 17 / 100000) (by decide +kernel) l.length n4
    (fun i hi => by simp only [termV, if_true]) (fun i j hi hj hij => h.anti hi hj hij c hc)
  have h2 : Nr (tsum (fun i => R .f32 (l.getD i default).Mass * R .f32 (c (pullV l i))) l.length) (tsum (fun i => R .f32 (l.getD i default).Mass * tsum (fun j => termV l (l.getD i default).At i c j) l.length) l.length) ((l.length : Rat) * (97 / 1000000)) := by
    refine tsum_diff _ fun i hi => ?_
    obtain ⟨_, p1, p2, p3⟩ := pullV_ok n4 h.pull hi
    obtain ⟨m1, m2, m3⟩ := h.mass hi
    have key : Nr (R .f32 (c (pullV l i))) (tsum (termV l (l.getD i default).At i c) l.length) (48 / 1000000) := by
      rcases hc with rfl | rfl | rfl
      · exact p1.2.1.mono (by grind)
      · exact p2.2.1.mono (by grind)
      · exact p3.2.1.mono (by grind)
    have := Bd.mul (a := R .f32 (l.getD i default).Mass) (M := 2) ⟨by grind, m3⟩ key
    have e : tsum (fun j => termV l (l.getD i default).At i c j) l.length = tsum (termV l (l.getD i default).At i c) l.length := rfl
    rw [e]
    unfold Bd at this
    unfold Nr
    constructor <;> grind
  obtain ⟨_, h3, _⟩ := hs
  have h4 := (h3.trans h2).toBd h1
  exact h4.mono (by grind)

/-! ## One pull at a place is the sum of all of them -/

def PartN (a : Nat) (t : Rat) (k : Nat) : Prop := isNum .f32 a = true ∧ Nr (R .f32 a) t ((k : Rat) * (3 / 100000)) ∧ Bd t ((k : Rat) * 33)

theorem partN_zero : PartN 0 0 0 := by
  have h : isNum .f32 0 = true ∧ R .f32 0 = 0 := by decide +kernel
  refine ⟨h.1, ?_, ?_⟩
  · rw [h.2]; unfold Nr; constructor <;> simp <;> grind
  · unfold Bd; constructor <;> simp <;> grind

theorem partN_add {a x k : Nat} {t u : Rat} (h : PartN a t k) (hk : k < 4) (hx : AccN x u 1) : PartN (fadd .f32 a x) (t + u) (k + 1) := by
  obtain ⟨h1, h2, h3⟩ := h
  obtain ⟨g1, g2, g3⟩ := hx
  have hT := T_pos
  have hT1 := T_le
  have hG := Gr_ge
  have hkr : (k : Rat) ≤ 3 := by exact_mod_cast (show k ≤ 3 by omega)
  have hk0 : (0 : Rat) ≤ k := by exact_mod_cast Nat.zero_le k
  have one : ((1 : Nat) : Rat) = 1 := rfl
  rw [one] at g2 g3
  have b2 : Bd (R .f32 a + R .f32 x) 134 := by unfold Nr at h2 g2; unfold Bd at h3 g3 ⊢; constructor <;> grind
  have f2 := fadd_fl h1 g1 (b2.mono (by grind))
  have e2 := f2.err b2
  refine ⟨f2.1, ?_, ?_⟩
  · push_cast
    unfold Nr at h2 g2 e2 ⊢
    constructor <;> grind
  · push_cast
    unfold Bd at h3 g3 ⊢
    constructor <;> grind

theorem take_one {l : List Body} {k : Nat} (hk : k < l.length) : List.take (k + 1 - k) (List.drop k l) = [l.getD k default] := by
  rw [show k + 1 - k = 1 from by omega, List.getD_eq_getElem?_getD, List.getElem?_eq_getElem hk, List.drop_eq_getElem_cons hk]
  rfl

theorem Base.place {l : List Body} {f : Nat → Int × Int × Int × Int} (h : Base l f) {v : Vec} (hx : SmallI v.X) (hy : SmallI v.Y) (hz : SmallI v.Z) {j : Nat} (hj : j < l.length) : PullH (wayV l v j) (l.getD j default).Mass := by
  obtain ⟨nx, bx, qx⟩ := hx
  obtain ⟨ny, by', qy⟩ := hy
  obtain ⟨nz, bz, qz⟩ := hz
  have b := h.each j hj
  have c := h.lo j hj
  have d := b.y4
  have e := b.z4
  have px : Qt (wayV l v j).X ((f j).1 - nx) := b.x.sub qx (by omega)
  have py : Qt (wayV l v j).Y ((f j).2.1 - ny) := b.y.sub qy (by omega)
  have pz : Qt (wayV l v j).Z ((f j).2.2.1 - nz) := b.z.sub qz (by omega)
  obtain ⟨m1, m2, m3⟩ := h.mass hj
  refine ⟨px.num, py.num, pz.num, ?_, m1, m2, m3⟩
  have s1 := sq_bd (quarter_bd (n := (f j).1 - nx) (M := 44) (by omega) (by omega))
  have s2 := sq_bd (quarter_bd (n := (f j).2.1 - ny) (M := 20) (by omega) (by omega))
  have s3 := sq_bd (quarter_bd (n := (f j).2.2.1 - nz) (M := 20) (by omega) (by omega))
  rw [px.R, py.R, pz.R]
  have c1 : ((44 : Int) : Rat) = 44 := rfl
  have c2 : ((20 : Int) : Rat) = 20 := rfl
  rw [c1] at s1
  rw [c2] at s2 s3
  grind

theorem loop1_all (q : Bool) {l : List Body} {f : Nat → Int × Int × Int × Int} (h : Base l f) (sx sy sz : Nat) (v W : Vec) (hx : SmallI v.X) (hy : SmallI v.Y) (hz : SmallI v.Z) :
    laws_FnPulls_loop1_ends (q, l, sx, sy, sz, v.X, v.Y, v.Z, W.X, W.Y, W.Z) (0, 0, 0, 0) = true ∧
    ∃ a b c, laws_FnPulls_loop1 (q, l, sx, sy, sz, v.X, v.Y, v.Z, W.X, W.Y, W.Z) (0, 0, 0, 0) = .inr (a, b, c) ∧
      PartN a (tsum (termV l v (-1) Vec.X) l.length) l.length ∧ PartN b (tsum (termV l v (-1) Vec.Y) l.length) l.length ∧ PartN c (tsum (termV l v (-1) Vec.Z) l.length) l.length := by
  have n4 := h.n4
  have hv : finV v = true := by unfold finV; rw [hx.bd.1, hy.bd.1, hz.bd.1]; rfl
  obtain ⟨h1, h2⟩ := loop_post (step := laws_FnPulls_loop1_step (q, l, sx, sy, sz, v.X, v.Y, v.Z, W.X, W.Y, W.Z))
    (fun s => ∃ k : Nat, k ≤ l.length ∧ s.1 = (k : Int) ∧ PartN s.2.1 (tsum (termV l v (-1) Vec.X) k) k ∧ PartN s.2.2.1 (tsum (termV l v (-1) Vec.Y) k) k ∧ PartN s.2.2.2 (tsum (termV l v (-1) Vec.Z) k) k)
    (fun s => ((l.length : Int) - s.1).toNat)
    (fun r => ∃ a b c, r = .inr (a, b, c) ∧ PartN a (tsum (termV l v (-1) Vec.X) l.length) l.length ∧ PartN b (tsum (termV l v (-1) Vec.Y) l.length) l.length ∧ PartN c (tsum (termV l v (-1) Vec.Z) l.length) l.length) (by
    rintro ⟨k', a, b, c⟩ ⟨k, hk, rfl, sa, sb, sc⟩
    rcases Nat.lt_or_ge k l.length with hlt | hge
    · have hok : okL [l.getD k default] = true := okL_of (by show 1 ≤ 16; decide) fun j hj => by
        have : j = 0 := Nat.lt_one_iff.1 hj
        subst this
        exact (h.each k hlt).ok
      obtain ⟨q1, q2, q3, q4, q5⟩ := pullA_all [l.getD k default] (by show 1 ≤ 4; decide) hok v hv (fun j hj => by
        have : j = 0 := Nat.lt_one_iff.1 hj
        subst this
        exact h.place hx hy hz hlt)
      have hneg : ¬ ((0 : Nat) : Int) = -1 := by decide
      have hnegk : ¬ ((k : Nat) : Int) = -1 := by omega
      have t1 : ∀ c : Vec → Nat, tsum (termV [l.getD k default] v (-1) c) ([l.getD k default] : List Body).length = termV l v (-1) c k := fun c => by
        show 0 + termV [l.getD k default] v (-1) c 0 = _
        unfold termV
        rw [if_neg hneg, if_neg hnegk]
        show 0 + R .f32 (c (wayV l v k)) * R .f32 (shV (wayV l v k) (l.getD k default).Mass) = _
        grind
      rw [t1] at q3 q4 q5
      have hw : IntKind.wrap .i64 (((k : Nat) : Int) + 1) = ((k + 1 : Nat) : Int) := nat_next hlt (by omega)
      have g1 : (decide ((0 : Int) ≤ ((k + 1 : Nat) : Int)) && decide (((k + 1 : Nat) : Int) ≤ ((l.length : Nat) : Int))) = true := by rw [Bool.and_eq_true]; exact ⟨decide_eq_true (by omega), decide_eq_true (by omega)⟩
      have g2 : (decide ((0 : Int) ≤ ((k : Nat) : Int)) && decide (((k : Nat) : Int) ≤ ((k + 1 : Nat) : Int))) = true := by rw [Bool.and_eq_true]; exact ⟨decide_eq_true (by omega), decide_eq_true (by omega)⟩
      have g3 : decide (k + (k + 1 - k) ≤ l.length) = true := decide_eq_true (by omega)
      have hvv : (⟨v.X, v.Y, v.Z⟩ : Vec) = v := rfl
      refine ⟨.inl (((k + 1 : Nat) : Int), fadd .f32 a (pullA [l.getD k default] v).X, fadd .f32 b (pullA [l.getD k default] v).Y, fadd .f32 c (pullA [l.getD k default] v).Z), [0, 1, 2, 3, 4], ?_, ⟨k + 1, hlt, rfl, ?_, ?_, ?_⟩, by show ((l.length : Int) - ((k + 1 : Nat) : Int)).toNat < ((l.length : Int) - (k : Int)).toNat; omega⟩
      · unfold laws_FnPulls_loop1_step
        simp only [nat_dec hlt, hw, g1, g2, Int.toNat_natCast, g3, take_one hlt, hvv, q1, q2, Bool.not_true]
        simp only [DT.get]
        rfl
      · exact partN_add sa (by omega) q3
      · exact partN_add sb (by omega) q4
      · exact partN_add sc (by omega) q5
    · have hk' : k = l.length := by omega
      subst hk'
      refine ⟨.inr (.inr (a, b, c)), [0, 1, 2, 3, 4], ?_, a, b, c, rfl, sa, sb, sc⟩
      unfold laws_FnPulls_loop1_step
      simp only [nat_not]
      simp only [DT.get]) (0, 0, 0, 0) ⟨0, Nat.zero_le _, rfl, partN_zero, partN_zero, partN_zero⟩
  exact ⟨h1, h2⟩

theorem zero_size : impl_SizeOfVector_need ⟨0, 0, 0⟩ = true ∧ feq .f32 (impl_SizeOfVector ⟨0, 0, 0⟩) 0 = true := by decide +kernel

end Go.Proofs.Ytkmcgfjhjfiomaa
