/- The plain law of FnCovers: the rate of what stands still, by computation (printed by mkvc.py). -/
import Derived.Test.YtkhjcoekmamlaaaV4
namespace Go.Proofs.Ytkhjcoekmamlaaa
set_option linter.unusedVariables false
set_option linter.unusedSimpArgs false

def nlTail (t : Nat × Nat) : Nat :=
  let x2 := fsub .f64 t.1 4607182418800017408
  let x3 := fadd .f64 t.1 4607182418800017408
  let x4 := fdiv .f64 x2 x3
  let x5 := fmul .f64 x4 x4
  let x6 := fofInt .f64 25
  let x7 := fdiv .f64 4607182418800017408 x6
  let x8 := fmul .f64 x5 0
  let x9 := fadd .f64 x7 x8
  let x10 := fofInt .f64 23
  let x11 := fdiv .f64 4607182418800017408 x10
  let x12 := fmul .f64 x5 x9
  let x13 := fadd .f64 x11 x12
  let x14 := fofInt .f64 21
  let x15 := fdiv .f64 4607182418800017408 x14
  let x16 := fmul .f64 x5 x13
  let x17 := fadd .f64 x15 x16
  let x18 := fofInt .f64 19
  let x19 := fdiv .f64 4607182418800017408 x18
  let x20 := fmul .f64 x5 x17
  let x21 := fadd .f64 x19 x20
  let x22 := fofInt .f64 17
  let x23 := fdiv .f64 4607182418800017408 x22
  let x24 := fmul .f64 x5 x21
  let x25 := fadd .f64 x23 x24
  let x26 := fofInt .f64 15
  let x27 := fdiv .f64 4607182418800017408 x26
  let x28 := fmul .f64 x5 x25
  let x29 := fadd .f64 x27 x28
  let x30 := fofInt .f64 13
  let x31 := fdiv .f64 4607182418800017408 x30
  let x32 := fmul .f64 x5 x29
  let x33 := fadd .f64 x31 x32
  let x34 := fofInt .f64 11
  let x35 := fdiv .f64 4607182418800017408 x34
  let x36 := fmul .f64 x5 x33
  let x37 := fadd .f64 x35 x36
  let x38 := fofInt .f64 9
  let x39 := fdiv .f64 4607182418800017408 x38
  let x40 := fmul .f64 x5 x37
  let x41 := fadd .f64 x39 x40
  let x42 := fofInt .f64 7
  let x43 := fdiv .f64 4607182418800017408 x42
  let x44 := fmul .f64 x5 x41
  let x45 := fadd .f64 x43 x44
  let x46 := fofInt .f64 5
  let x47 := fdiv .f64 4607182418800017408 x46
  let x48 := fmul .f64 x5 x45
  let x49 := fadd .f64 x47 x48
  let x50 := fofInt .f64 3
  let x51 := fdiv .f64 4607182418800017408 x50
  let x52 := fmul .f64 x5 x49
  let x53 := fadd .f64 x51 x52
  let x54 := fofInt .f64 1
  let x55 := fdiv .f64 4607182418800017408 x54
  let x56 := fmul .f64 x5 x53
  let x57 := fadd .f64 x55 x56
  let x58 := fmul .f64 x4 x57
  let x59 := fmul .f64 4611686018427387904 x58
  let x60 := fmul .f64 t.2 4604418534313441775
  let x61 := fadd .f64 x59 x60
  x61
def logO (x : Nat) : Option Nat := match iter (impl_naturalLog_loop0_step ()) 64 (x, 0) with
  | none => none
  | some s => match iter (impl_naturalLog_loop1_step ()) 64 s with
    | none => none
    | some t => some (nlTail t)

theorem naturalLog_of {x v : Nat} (h : logO x = some v) : impl_naturalLog_need x = true ∧ impl_naturalLog x = v := by
  unfold logO at h
  cases h0 : iter (impl_naturalLog_loop0_step ()) 64 (x, 0) with
  | none => rw [h0] at h; cases h
  | some s =>
    rw [h0] at h
    simp only at h
    cases h1 : iter (impl_naturalLog_loop1_step ()) 64 s with
    | none => rw [h1] at h; cases h
    | some t =>
      rw [h1] at h
      simp only [Option.some.injEq] at h
      subst h
      obtain ⟨a1, a2⟩ := loopVal_eq h0
      obtain ⟨b1, b2⟩ := loopVal_eq h1
      have a1 : impl_naturalLog_loop0 () (x, 0) = s := a1
      have a2 : impl_naturalLog_loop0_ends () (x, 0) = true := a2
      have b1 : impl_naturalLog_loop1 () (s.1, s.2) = t := b1
      have b2 : impl_naturalLog_loop1_ends () (s.1, s.2) = true := b2
      unfold impl_naturalLog_need impl_naturalLog impl_naturalLog_tree
      simp only [a1, a2, b1, b2]
      simp only [DT.ok, DT.val]
      exact ⟨trivial, rfl⟩

def slN (k : Nat) : Nat := fdiv .f32 (fofInt .f32 (IntKind.wrap .i64 (1 + (k : Int)))) 1107296256
def powN (m k : Nat) : Nat := fdiv .f32 (maN m) (fmul .f32 (fmul .f32 1086918619 (slN k)) (fmul .f32 1086918619 (slN k)))
noncomputable def orbE (e : Nat) : Orbit := ⟨e, 0, 0, 0, 0, 0⟩
noncomputable def ratN (m e : Nat) : Nat := impl_Orbit_rate (orbE e) (fconv .f32 (maN m) .f64)
/-- The last part: the orbit's length is known. -/
noncomputable def endB (m k e : Nat) : Bool := isNum .f32 e && (validO (orbE e) && (impl_Orbit_rate_need (orbE e) (fconv .f32 (maN m) .f64) && (fconvOk .f64 (ratN m e) .f32 && (isNum .f32 (fconv .f64 (ratN m e) .f32) &&
  (laws_r8Gap_need (fconv .f32 (fconv .f64 (ratN m e) .f32) .f64) (fmul .f64 4618760256396512830 (fconv .f32 (slN k) .f64)) &&
  flt .f64 (laws_r8Gap (fconv .f32 (fconv .f64 (ratN m e) .f32) .f64) (fmul .f64 4618760256396512830 (fconv .f32 (slN k) .f64))) (fmul .f64 4562254508917369340 (fadd .f64 4607182418800017408 (fconv .f32 (fconv .f64 (ratN m e) .f32) .f64))))))))
noncomputable def midB (m k v : Nat) : Bool := fconvOk .f64 v .f32 && (impl_ExpNumber_need (fdiv .f32 (fconv .f64 v .f32) 1077936128) && endB m k (impl_ExpNumber (fdiv .f32 (fconv .f64 v .f32) 1077936128)))
noncomputable def stillB (m k : Nat) : Bool := fgt .f32 (slN k) 0 && (isNum .f32 (powN m k) && (!fne .f32 (powN m k) (powN m k) && (!flt .f32 (powN m k) 0 && (!feq .f32 (powN m k) 0 && match logO (fconv .f32 (powN m k) .f64) with
  | none => false
  | some v => midB m k v))))
theorem c_still0 : ∀ k : Fin 8, stillB 0 k.val = true := by decide +kernel
theorem c_still1 : ∀ k : Fin 8, stillB 1 k.val = true := by decide +kernel
theorem c_still2 : ∀ k : Fin 8, stillB 2 k.val = true := by decide +kernel
theorem c_still3 : ∀ k : Fin 8, stillB 3 k.val = true := by decide +kernel
theorem c_still4 : ∀ k : Fin 8, stillB 4 k.val = true := by decide +kernel
theorem c_still5 : ∀ k : Fin 8, stillB 5 k.val = true := by decide +kernel
theorem c_still6 : ∀ k : Fin 8, stillB 6 k.val = true := by decide +kernel
theorem c_still7 : ∀ k : Fin 8, stillB 7 k.val = true := by decide +kernel
theorem c_still : ∀ m : Fin 8, ∀ k : Fin 8, stillB m.val k.val = true
  | ⟨0, _⟩ => c_still0
  | ⟨1, _⟩ => c_still1
  | ⟨2, _⟩ => c_still2
  | ⟨3, _⟩ => c_still3
  | ⟨4, _⟩ => c_still4
  | ⟨5, _⟩ => c_still5
  | ⟨6, _⟩ => c_still6
  | ⟨7, _⟩ => c_still7

end Go.Proofs.Ytkhjcoekmamlaaa
