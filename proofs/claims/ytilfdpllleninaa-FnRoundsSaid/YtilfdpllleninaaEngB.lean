/- The engine, part B: canonical floats against the model's floats, whose not-a-numbers' bits are drawn. -/
import Derived.Test.YtilfdpllleninaaEngA
namespace Go.Proofs.Ytilfdpllleninaa
set_option linter.unusedVariables false
set_option linter.unusedSimpArgs false
open Ieee

theorem isNaN_qnan (k : FloatKind) : isNaN k (qnan k) = true := by cases k <;> decide +kernel

theorem canon_of (k : FloatKind) (b : Nat) : (isNaN k b = false ∧ canon k b = b) ∨ (isNaN k b = true ∧ canon k b = qnan k) := by
  unfold canon
  cases h : isNaN k b
  · exact .inl ⟨rfl, rfl⟩
  · exact .inr ⟨rfl, rfl⟩

theorem isNaN_canon (k : FloatKind) (b : Nat) : isNaN k (canon k b) = isNaN k b := by
  rcases canon_of k b with ⟨h, e⟩ | ⟨h, e⟩
  · rw [e]
  · rw [e, h, isNaN_qnan]

theorem canon_canon (k : FloatKind) (b : Nat) : canon k (canon k b) = canon k b := by
  rcases canon_of k b with ⟨h, e⟩ | ⟨h, e⟩
  · rw [e]; exact e
  · rw [e]; unfold canon; rw [isNaN_qnan]; rfl

theorem canon_qnan (k : FloatKind) : canon k (qnan k) = qnan k := by unfold canon; rw [isNaN_qnan]; rfl

theorem canon_nan {k : FloatKind} {b : Nat} (h : isNaN k b = true) : canon k b = qnan k := by unfold canon; rw [h]; rfl

/-- What is none at a not-a-number, whatever its bits, doesn't see whether bits are canonical. -/
theorem read_canon (k : FloatKind) (b : Nat) : k.format.read (canon k b) = k.format.read b ∨ ((k.format.read (canon k b)).isNaN = true ∧ (k.format.read b).isNaN = true) := by
  rcases canon_of k b with ⟨_, e⟩ | ⟨h, e⟩
  · exact .inl (by rw [e])
  · exact .inr ⟨by rw [e]; exact isNaN_qnan k, h⟩

theorem sum_nan_l {x y : Datum} (h : x.isNaN = true) : x.sum y = none := by cases x <;> simp_all [Datum.isNaN, Datum.sum]
theorem sum_nan_r {x y : Datum} (h : y.isNaN = true) : x.sum y = none := by cases y <;> cases x <;> simp_all [Datum.isNaN, Datum.sum]
theorem product_nan_l {x y : Datum} (h : x.isNaN = true) : x.product y = none := by cases x <;> simp_all [Datum.isNaN, Datum.product]
theorem product_nan_r {x y : Datum} (h : y.isNaN = true) : x.product y = none := by cases y <;> cases x <;> simp_all [Datum.isNaN, Datum.product]
theorem quotient_nan_l {n : Nat} {x y : Datum} (h : x.isNaN = true) : x.quotient n y = none := by cases x <;> simp_all [Datum.isNaN, Datum.quotient]
theorem quotient_nan_r {n : Nat} {x y : Datum} (h : y.isNaN = true) : x.quotient n y = none := by cases y <;> cases x <;> simp_all [Datum.isNaN, Datum.quotient]
theorem order_nan_l {x y : Datum} (h : x.isNaN = true) : x.order y = none := by cases x <;> simp_all [Datum.isNaN, Datum.order]
theorem order_nan_r {x y : Datum} (h : y.isNaN = true) : x.order y = none := by cases y <;> cases x <;> simp_all [Datum.isNaN, Datum.order]
theorem root_nan {n : Nat} {x : Datum} (h : x.isNaN = true) : x.root n = none := by cases x <;> simp_all [Datum.isNaN, Datum.root]
theorem opposite_nan {x : Datum} (h : x.isNaN = true) : x.opposite.isNaN = true := by cases x <;> simp_all [Datum.isNaN, Datum.opposite]

section
variable (k : FloatKind) (a b : Nat)

theorem two_canon {β : Type} (G : Datum → Datum → Option β) (hl : ∀ x y, x.isNaN = true → G x y = none) (hr : ∀ x y, y.isNaN = true → G x y = none) :
    G (k.format.read (canon k a)) (k.format.read (canon k b)) = G (k.format.read a) (k.format.read b) := by
  rcases read_canon k a with h | ⟨h1, h2⟩
  · rcases read_canon k b with h' | ⟨h3, h4⟩
    · rw [h, h']
    · rw [hr _ _ h3, hr _ _ h4]
  · rw [hl _ _ h1, hl _ _ h2]

theorem add_canon : k.format.add (canon k a) (canon k b) = k.format.add a b := by
  unfold Format.add
  rw [two_canon k a b (fun x y => x.sum y) (fun x y h => sum_nan_l h) (fun x y h => sum_nan_r h)]
theorem sub_canon : k.format.sub (canon k a) (canon k b) = k.format.sub a b := by
  unfold Format.sub
  rw [two_canon k a b (fun x y => x.sum y.opposite) (fun x y h => sum_nan_l h) (fun x y h => sum_nan_r (opposite_nan h))]
theorem mul_canon : k.format.mul (canon k a) (canon k b) = k.format.mul a b := by
  unfold Format.mul
  rw [two_canon k a b (fun x y => x.product y) (fun x y h => product_nan_l h) (fun x y h => product_nan_r h)]
theorem div_canon : k.format.div (canon k a) (canon k b) = k.format.div a b := by
  unfold Format.div
  rw [two_canon k a b (fun x y => x.quotient _ y) (fun x y h => quotient_nan_l h) (fun x y h => quotient_nan_r h)]
theorem order_canon : k.format.order (canon k a) (canon k b) = k.format.order a b := by
  unfold Format.order
  rw [two_canon k a b (fun x y => x.order y) (fun x y h => order_nan_l h) (fun x y h => order_nan_r h)]
theorem sqrt_canon : k.format.sqrt (canon k a) = k.format.sqrt a := by
  unfold Format.sqrt
  rcases read_canon k a with h | ⟨h1, h2⟩
  · rw [h]
  · rw [root_nan h1, root_nan h2]
end

theorem isNaN_mod (k : FloatKind) (a b : Nat) (h : a % k.format.signWeight = b % k.format.signWeight) : isNaN k a = isNaN k b := by
  unfold isNaN Format.read
  simp only [h]
  split
  · rfl
  · split
    · rfl
    · split <;> rfl

theorem isNaN_neg (k : FloatKind) (b : Nat) : isNaN k (Op.negFloat k b) = isNaN k b := by
  refine isNaN_mod k _ _ ?_
  unfold Op.negFloat Format.signWeight
  rw [Nat.xor_mod_two_pow, Nat.mod_self, Nat.xor_zero]

theorem fneg_canon (k : FloatKind) (b : Nat) : canon k (Op.negFloat k b) = fneg k (canon k b) := by
  unfold fneg
  rcases canon_of k b with ⟨_, e⟩ | ⟨h, e⟩
  · rw [e]
  · rw [e, canon_nan (by rw [isNaN_neg]; exact h), canon_nan (by rw [isNaN_neg]; exact isNaN_qnan k)]

theorem drawn_nan (k : FloatKind) (t : Nat) (q : Question) (hq : (∃ x y, q = .nanBits k x y) ∨ (∃ x, q = .nanConv k x)) : isNaN k (q.cut t) = true := by
  have key : ∀ r, (k = .f32 → ∃ m s, r = s * 2 ^ 31 + 2139095041 + m ∧ m < 8388607) → (k = .f64 → ∃ m s, r = s * 2 ^ 63 + 9218868437227405313 + m ∧ m < 4503599627370495) → isNaN k r = true := by
    intro r h1 h2
    cases k with
    | f32 =>
      obtain ⟨m, s, rfl, hm⟩ := h1 rfl
      unfold isNaN Format.read
      have e1 : FloatKind.f32.format.signWeight = 2147483648 := by decide
      have e2 : FloatKind.f32.format.binade = 8388608 := by decide
      have e3 : FloatKind.f32.format.infRung = 2139095040 := by decide
      simp only [e1, e2, e3]
      rw [if_neg (by omega), if_neg (by omega), if_neg (by omega)]
      rfl
    | f64 =>
      obtain ⟨m, s, rfl, hm⟩ := h2 rfl
      unfold isNaN Format.read
      have e1 : FloatKind.f64.format.signWeight = 9223372036854775808 := by decide
      have e2 : FloatKind.f64.format.binade = 4503599627370496 := by decide
      have e3 : FloatKind.f64.format.infRung = 9218868437227405312 := by decide
      simp only [e1, e2, e3]
      rw [if_neg (by omega), if_neg (by omega), if_neg (by omega)]
      rfl
  rcases hq with ⟨x, y, rfl⟩ | ⟨x, rfl⟩
  · refine key _ (fun h => ?_) (fun h => ?_)
    · subst h; exact ⟨(t / 2) % (2 ^ 23 - 1), t % 2, rfl, Nat.mod_lt _ (by decide)⟩
    · subst h; exact ⟨(t / 2) % (2 ^ 52 - 1), t % 2, rfl, Nat.mod_lt _ (by decide)⟩
  · refine key _ (fun h => ?_) (fun h => ?_)
    · subst h; exact ⟨(t / 2) % (2 ^ 23 - 1), t % 2, rfl, Nat.mod_lt _ (by decide)⟩
    · subst h; exact ⟨(t / 2) % (2 ^ 52 - 1), t % 2, rfl, Nat.mod_lt _ (by decide)⟩

section
variable {P : Program}

/-- An operation on floats: some bits whose canonical form is known; the world is as it was, or one draw further. -/
def FltRes (k : FloatKind) (x : Nat) (w : World) (r : Result Value) : Prop := ∃ b w', r = .ok (.float k b) w' ∧ canon k b = x ∧ (w' = w ∨ w' = w.drew)

theorem run_opt (k : FloatKind) (o : Option Nat) (q : Question) (hq : (∃ x y, q = .nanBits k x y) ∨ (∃ x, q = .nanConv k x)) (w : World) :
    FltRes k (fopt k o) w ((match o with
      | some r => pure (.float k r)
      | none => do pure (.float k (← choose q)) : Sem Value).run P w) := by
  cases o with
  | some r => exact ⟨r, w, rfl, rfl, .inl rfl⟩
  | none =>
    refine ⟨q.cut (w.tape w.drawn q), w.drew, ?_, ?_, .inr rfl⟩
    · have hf : q.forced = false := by rcases hq with ⟨x, y, rfl⟩ | ⟨x, rfl⟩ <;> rfl
      simp [run_choose, hf]
    · exact canon_nan (drawn_nan k _ q hq)

theorem run_arith (op : BinOp) (k : FloatKind) (a b x : Nat) (w : World)
    (h : (op = .add ∧ x = fadd k (canon k a) (canon k b)) ∨ (op = .sub ∧ x = fsub k (canon k a) (canon k b)) ∨ (op = .mul ∧ x = fmul k (canon k a) (canon k b)) ∨ (op = .quo ∧ x = fdiv k (canon k a) (canon k b))) (t : TypeId) :
    FltRes k x w ((binOp op t (.float k a) (.float k b)).run P w) := by
  have hb : binOp op t (.float k a) (.float k b) = Op.floatArith op k a b := by
    rcases h with ⟨rfl, _⟩ | ⟨rfl, _⟩ | ⟨rfl, _⟩ | ⟨rfl, _⟩ <;> simp [binOp]
  rw [hb]
  rcases h with ⟨rfl, rfl⟩ | ⟨rfl, rfl⟩ | ⟨rfl, rfl⟩ | ⟨rfl, rfl⟩
  · rw [fadd, add_canon]; exact run_opt k _ _ (.inl ⟨a, b, rfl⟩) w
  · rw [fsub, sub_canon]; exact run_opt k _ _ (.inl ⟨a, b, rfl⟩) w
  · rw [fmul, mul_canon]; exact run_opt k _ _ (.inl ⟨a, b, rfl⟩) w
  · rw [fdiv, div_canon]; exact run_opt k _ _ (.inl ⟨a, b, rfl⟩) w

theorem decode_canon (k : FloatKind) (b : Nat) : k.decode (canon k b) = k.decode b ∨ ((k.decode (canon k b)).isNaN = true ∧ (k.decode b).isNaN = true) := read_canon k b

theorem run_fconv (s d : FloatKind) (a : Nat) (hne : s ≠ d) (h : fconvOk s (canon s a) d = true) (w : World) :
    FltRes d (fconv s (canon s a) d) w ((Conv.floatToFloat s a d).run P w) := by
  unfold Conv.floatToFloat
  rw [if_neg hne]
  rcases decode_canon s a with he | ⟨h1, h2⟩
  · unfold fconv
    unfold fconvOk at h
    rw [he] at h ⊢
    cases hd : s.decode a with
    | nan n t => exact run_opt d none (.nanConv d a) (.inr ⟨a, rfl⟩) w
    | infinity n => exact ⟨_, w, rfl, rfl, .inl rfl⟩
    | number n m e =>
      rw [hd] at h
      simp only [Bool.not_eq_true'] at h
      refine ⟨_, w, ?_, rfl, .inl rfl⟩
      simp [h]
  · unfold fconv
    cases hc : s.decode (canon s a) with
    | nan n t =>
      cases hd : s.decode a with
      | nan n t => exact run_opt d none (.nanConv d a) (.inr ⟨a, rfl⟩) w
      | infinity n => rw [hd] at h2; cases h2
      | number n m e => rw [hd] at h2; cases h2
    | infinity n => rw [hc] at h1; cases h1
    | number n m e => rw [hc] at h1; cases h1

theorem toInt_nan {d : Datum} (h : d.isNaN = true) (way : Toward) : d.toInt way = none := by cases d <;> simp_all [Datum.isNaN, Datum.toInt, Datum.integral]

theorem toInt_canon (s : FloatKind) (a : Nat) (way : Toward) : (s.decode (canon s a)).toInt way = (s.decode a).toInt way := by
  rcases decode_canon s a with he | ⟨h1, h2⟩
  · rw [he]
  · rw [toInt_nan h1, toInt_nan h2]

theorem run_ftoInt (s : FloatKind) (a : Nat) (k : IntKind) (h : ftoIntOk s (canon s a) k = true) (w : World) :
    (Conv.floatToInt s a k).run P w = .ok (.int k (ftoInt s (canon s a))) w := by
  unfold ftoIntOk at h
  unfold ftoInt Conv.floatToInt
  rw [toInt_canon] at h ⊢
  cases hd : (s.decode a).toInt .zero with
  | none => rw [hd] at h; cases h
  | some n =>
    rw [hd] at h
    simp only [Bool.and_eq_true, decide_eq_true_eq] at h
    simp [h]

end
end Go.Proofs.Ytilfdpllleninaa
