/- The engine, part Q: functions without a body. -/
import Derived.Test.YtilfdpllleninaaEngP
import Derived.Stop.CallBack
namespace Go.Proofs.Ytilfdpllleninaa
set_option linter.unusedVariables false
set_option linter.unusedSimpArgs false
open Go.Extern

def ftoward (way : Ieee.Toward) (x : Nat) : Nat :=
  match FloatKind.f64.decode x with
  | .nan _ _ => qnan .f64
  | d => canon .f64 (FloatKind.f64.encode (d.integral way))

def ftrunc (x : Nat) : Nat := ftoward .zero x
def ffloor (x : Nat) : Nat := ftoward .down x

def math_sqrt_c : Con := fun args => match args with
  | [.flt .f64 x] => some (.leaf ⟨.flt .f64 (fsqrt x), []⟩)
  | _ => none
def math_archTrunc_c : Con := fun args => match args with
  | [.flt .f64 x] => some (.leaf ⟨.flt .f64 (ftrunc x), []⟩)
  | _ => none
def math_archFloor_c : Con := fun args => match args with
  | [.flt .f64 x] => some (.leaf ⟨.flt .f64 (ffloor x), []⟩)
  | _ => none
def math_Float64bits_c : Con := fun args => match args with
  | [.flt .f64 x] => some (.ask (isNaN .f64 x) (.leaf ⟨.nanb, []⟩) (.leaf ⟨.int .u64 ((x : Nat) : Int), []⟩))
  | _ => none
def math_Float32bits_c : Con := fun args => match args with
  | [.flt .f32 x] => some (.need (!isNaN .f32 x) (.leaf ⟨.int .u32 ((x : Nat) : Int), []⟩))
  | _ => none
def math_Float64frombits_c : Con := fun args => match args with
  | [.int .u64 n] => some (.leaf ⟨.flt .f64 (canon .f64 n.toNat), []⟩)
  | [.nanb] => some (.leaf ⟨.flt .f64 9221120237041090560, []⟩)
  | _ => none
def math_Float32frombits_c : Con := fun args => match args with
  | [.int .u32 n] => some (.leaf ⟨.flt .f32 (canon .f32 n.toNat), []⟩)
  | _ => none

section
variable {P : Program} {w w' : World} {vs : Array Value}

theorem ret_plain (hiv : IvOK w) (hw : w' = w ∨ w' = w.drew) {p : PV} (hp : p.plain = true) {v : Value} (hv : VSim (argCx w vs) p v) : RetSim w w' vs ⟨p, []⟩ v := by
  have hh : w'.heap = w.heap := by rcases hw with rfl | rfl <;> rfl
  refine ⟨fun n => n < w.heap.size, fun _ => undef, VSim.plain hp hv, ⟨fun id b h => (by cases h), fun id b n h => (by cases h), fun i j bi bj n h => (by cases h), fun n _ _ => ?_, ?_, ?_, ?_, ?_, fun n hn => ?_, hiv.1, fun n hn => ⟨hiv.2 n hn, fun e => e⟩⟩⟩
  · show w'.heap[n]? = w.heap[n]?
    rw [hh]
  · show w'.os = w.os
    rcases hw with rfl | rfl <;> rfl
  · show w'.tape = w.tape
    rcases hw with rfl | rfl <;> rfl
  · show w'.output = w.output
    rcases hw with rfl | rfl <;> rfl
  · show w.heap.size ≤ w'.heap.size
    rw [hh]; exact Nat.le_refl _
  · show n < w'.heap.size
    rw [hh]; exact hn

/-- A function without a body. -/
theorem ext_ok {f : FuncId} {e : Array Value → Sem Value} (hrun : ∀ args w, (callFunc f args).run P w = ((e args).run P w).andThen fun v w' => .ok (.value v) w') {F : Fun}
    (h : ∀ (w : World) (args : List PV) (vs : Array Value) (r : Ret), IvOK w → F args = some r → VSims (argCx w vs) args vs.toList → ∃ v w', (e vs).run P w = .ok v w' ∧ RetSim w w' vs r v) : FunOK P f F := by
  intro w args vs r hiv hF hv o a K' Q hk
  obtain ⟨v, w', he, hR⟩ := h w args vs r hiv hF hv
  rw [hrun, he]
  exact hk v w' hR

theorem one_arg {p : PV} (h : VSims (argCx w vs) [p] vs.toList) : ∃ v, vs = #[v] ∧ VSim (argCx w vs) p v := by
  obtain ⟨l⟩ := vs
  cases l with
  | nil => simp [VSims] at h
  | cons v r => cases r with
    | nil => simp only [VSims, and_true] at h; exact ⟨v, rfl, h⟩
    | cons u r => simp [VSims] at h

theorem sqrt_ok {f : FuncId} (hrun : ∀ args w, (callFunc f args).run P w = ((MathSqrt.sqrt args).run P w).andThen fun v w' => .ok (.value v) w') : FunOK P f math_sqrt_c.fn := by
  refine ext_ok hrun fun w args vs r hiv hF hv => ?_
  unfold Con.fn math_sqrt_c at hF
  split at hF
  · rename_i t ht
    split at ht
    · rename_i x
      cases ht
      simp only [DT.get, Option.some.injEq] at hF
      subst hF
      obtain ⟨v, rfl, hv⟩ := one_arg hv
      simp only [VSim] at hv
      obtain ⟨b, rfl, rfl⟩ := hv
      obtain ⟨c, w', h1, h2, h3⟩ := run_opt (P := P) .f64 (FloatKind.f64.format.sqrt b) (.nanBits .f64 b b) (.inl ⟨b, b, rfl⟩) w
      refine ⟨_, w', h1, ret_plain hiv h3 rfl ?_⟩
      simp only [VSim]
      exact ⟨c, rfl, by rw [h2, fsqrt, sqrt_canon]⟩
    · cases ht
  · cases hF

theorem bits64_ok {f : FuncId} (hrun : ∀ args w, (callFunc f args).run P w = ((MathFloatBits.float64bits args).run P w).andThen fun v w' => .ok (.value v) w') : FunOK P f math_Float64bits_c.fn := by
  refine ext_ok hrun fun w args vs r hiv hF hv => ?_
  unfold Con.fn math_Float64bits_c at hF
  split at hF
  · rename_i t ht
    split at ht
    · rename_i x
      cases ht
      obtain ⟨v, rfl, hv⟩ := one_arg hv
      simp only [VSim] at hv
      obtain ⟨b, rfl, rfl⟩ := hv
      refine ⟨.int .u64 b, w, rfl, ?_⟩
      simp only [DT.get] at hF
      rcases canon_of .f64 b with ⟨h, e⟩ | ⟨h, e⟩
      · rw [e, h] at hF
        cases hF
        refine ret_plain hiv (.inl rfl) rfl ?_
        simp only [VSim]
      · rw [e, isNaN_qnan] at hF
        cases hF
        refine ret_plain hiv (.inl rfl) rfl ?_
        simp only [VSim]
        exact ⟨b, rfl, h⟩
    · cases ht
  · cases hF

theorem bits32_ok {f : FuncId} (hrun : ∀ args w, (callFunc f args).run P w = ((MathFloatBits.float32bits args).run P w).andThen fun v w' => .ok (.value v) w') : FunOK P f math_Float32bits_c.fn := by
  refine ext_ok hrun fun w args vs r hiv hF hv => ?_
  unfold Con.fn math_Float32bits_c at hF
  split at hF
  · rename_i t ht
    split at ht
    · rename_i x
      cases ht
      obtain ⟨v, rfl, hv⟩ := one_arg hv
      simp only [VSim] at hv
      obtain ⟨b, rfl, rfl⟩ := hv
      refine ⟨.int .u32 b, w, rfl, ?_⟩
      simp only [DT.get] at hF
      rcases canon_of .f32 b with ⟨h, e⟩ | ⟨h, e⟩
      · rw [e, h] at hF
        cases hF
        refine ret_plain hiv (.inl rfl) rfl ?_
        simp only [VSim]
      · rw [e, isNaN_qnan] at hF
        cases hF
    · cases ht
  · cases hF

theorem frombits64_ok {f : FuncId} (hrun : ∀ args w, (callFunc f args).run P w = ((MathFloatBits.float64frombits args).run P w).andThen fun v w' => .ok (.value v) w') : FunOK P f math_Float64frombits_c.fn := by
  refine ext_ok hrun fun w args vs r hiv hF hv => ?_
  unfold Con.fn math_Float64frombits_c at hF
  split at hF
  · rename_i t ht
    split at ht
    · rename_i n
      cases ht
      simp only [DT.get, Option.some.injEq] at hF
      subst hF
      obtain ⟨v, rfl, hv⟩ := one_arg hv
      simp only [VSim] at hv
      subst hv
      refine ⟨.float .f64 n.toNat, w, rfl, ret_plain hiv (.inl rfl) rfl ?_⟩
      simp only [VSim]
      exact ⟨_, rfl, rfl⟩
    · cases ht
      simp only [DT.get, Option.some.injEq] at hF
      subst hF
      obtain ⟨v, rfl, hv⟩ := one_arg hv
      simp only [VSim] at hv
      obtain ⟨n, rfl, hn⟩ := hv
      refine ⟨.float .f64 (n : Int).toNat, w, rfl, ret_plain hiv (.inl rfl) rfl ?_⟩
      simp only [VSim]
      exact ⟨_, rfl, by rw [Int.toNat_natCast, canon_nan hn]; rfl⟩
    · cases ht
  · cases hF

theorem frombits32_ok {f : FuncId} (hrun : ∀ args w, (callFunc f args).run P w = ((MathFloatBits.float32frombits args).run P w).andThen fun v w' => .ok (.value v) w') : FunOK P f math_Float32frombits_c.fn := by
  refine ext_ok hrun fun w args vs r hiv hF hv => ?_
  unfold Con.fn math_Float32frombits_c at hF
  split at hF
  · rename_i t ht
    split at ht
    · rename_i n
      cases ht
      simp only [DT.get, Option.some.injEq] at hF
      subst hF
      obtain ⟨v, rfl, hv⟩ := one_arg hv
      simp only [VSim] at hv
      subst hv
      refine ⟨.float .f32 n.toNat, w, rfl, ret_plain hiv (.inl rfl) rfl ?_⟩
      simp only [VSim]
      exact ⟨_, rfl, rfl⟩
    · cases ht
  · cases hF

theorem isNaN_written (s : Bool) (t : Nat) : isNaN .f64 (FloatKind.f64.encode (.nan s (FloatKind.f64.format.quiet t))) = true := by
  have hq : ∃ q, (FloatKind.f64.format.quiet t) % 4503599627370496 = q + 1 ∧ q + 1 < 4503599627370496 := by
    have h1 : Nat.testBit ((t ||| 2 ^ 51) % 2 ^ 52) 51 = true := by
      rw [Nat.testBit_mod_two_pow, Nat.testBit_or, Nat.testBit_two_pow_self]
      simp
    have h2 : (t ||| 2 ^ 51) % 2 ^ 52 ≠ 0 := fun e => by rw [e] at h1; simp at h1
    have h3 : (t ||| 2 ^ 51) % 2 ^ 52 < 2 ^ 52 := Nat.mod_lt _ (by decide)
    refine ⟨(t ||| 2 ^ 51) % 2 ^ 52 - 1, ?_, ?_⟩
    · show (t ||| 2 ^ 51) % 2 ^ 52 = _
      omega
    · omega
  obtain ⟨q, hq, hlt⟩ := hq
  unfold FloatKind.encode Ieee.Format.write isNaN Ieee.Format.read Ieee.Format.word
  have e1 : FloatKind.f64.format.signWeight = 9223372036854775808 := by decide
  have e2 : FloatKind.f64.format.binade = 4503599627370496 := by decide
  have e3 : FloatKind.f64.format.infRung = 9218868437227405312 := by decide
  simp only [e1, e2, e3, hq]
  cases s
  · simp only [Bool.false_eq_true, if_false]
    rw [if_neg (by omega), if_neg (by omega), if_neg (by omega)]
    rfl
  · simp only [if_true]
    rw [if_neg (by omega), if_neg (by omega), if_neg (by omega)]
    rfl

theorem toIntegral_eq (name : String) (way : Ieee.Toward) (x : Nat) : MathFloor.toIntegral name way #[.float .f64 x] = (match FloatKind.f64.decode x with
    | .nan s t =>
      if FloatKind.f64.format.quiet t = t then pure (.float .f64 x) else do
      let kept ← choose (.extern "math.Floor,Ceil,Trunc,RoundToEven.signallingNaN kept" 2)
      pure (.float .f64 (if kept == 1 then x else FloatKind.f64.encode (.nan s (FloatKind.f64.format.quiet t))))
    | d => pure (.float .f64 (FloatKind.f64.encode (d.integral way)))) := rfl

theorem toward_ok {f : FuncId} {name : String} {way : Ieee.Toward} {G : Con} (hG : ∀ args, G args = match args with
    | [.flt .f64 x] => some (.leaf ⟨.flt .f64 (ftoward way x), []⟩)
    | _ => none) (hrun : ∀ args w, (callFunc f args).run P w = ((MathFloor.toIntegral name way args).run P w).andThen fun v w' => .ok (.value v) w') : FunOK P f G.fn := by
  refine ext_ok hrun fun w args vs r hiv hF hv => ?_
  unfold Con.fn at hF
  rw [hG] at hF
  split at hF
  · rename_i t ht
    split at ht
    · rename_i x
      cases ht
      simp only [DT.get, Option.some.injEq] at hF
      subst hF
      obtain ⟨v, rfl, hv⟩ := one_arg hv
      simp only [VSim] at hv
      obtain ⟨b, rfl, rfl⟩ := hv
      have fin : ∀ {c : Nat} {w' : World}, (MathFloor.toIntegral name way #[.float .f64 b]).run P w = .ok (.float .f64 c) w' → (w' = w ∨ w' = w.drew) → canon .f64 c = ftoward way (canon .f64 b) → ∃ v w', (MathFloor.toIntegral name way #[.float .f64 b]).run P w = .ok v w' ∧ RetSim w w' #[.float .f64 b] ⟨.flt .f64 (ftoward way (canon .f64 b)), []⟩ v := fun h1 h2 h3 =>
        ⟨_, _, h1, ret_plain hiv h2 rfl (by simp only [VSim]; exact ⟨_, rfl, h3⟩)⟩
      have hval : isNaN .f64 b = true → ftoward way (canon .f64 b) = qnan .f64 := fun h => by
        unfold ftoward
        rw [canon_nan h]
        have : FloatKind.f64.decode (qnan .f64) = .nan false 2251799813685248 := by decide +kernel
        rw [this]
      cases hd : FloatKind.f64.decode b with
      | nan s t =>
        have hn : isNaN .f64 b = true := by
          unfold isNaN
          rw [show FloatKind.f64.format.read b = FloatKind.f64.decode b from rfl, hd]
          rfl
        by_cases hqt : FloatKind.f64.format.quiet t = t
        · refine fin (c := b) (w' := w) ?_ (.inl rfl) ?_
          · rw [toIntegral_eq]
            simp only [hd, hqt, if_true, Sem.run_pure]
          · rw [hval hn, canon_nan hn]
        · have hr : ∃ c, isNaN .f64 c = true ∧ (MathFloor.toIntegral name way #[.float .f64 b]).run P w = .ok (.float .f64 c) w.drew := by
            rw [toIntegral_eq]
            simp only [hd, hqt, if_false, Sem.run_bind, run_choose_drew]
            rw [if_neg (by decide)]
            simp only [Result.andThen_ok, Sem.run_pure]
            refine ⟨_, ?_, rfl⟩
            split
            · exact hn
            · exact isNaN_written s t
          obtain ⟨c, hc, hr⟩ := hr
          exact fin hr (.inr rfl) (by rw [hval hn, canon_nan hc])
      | infinity s =>
        have hn : isNaN .f64 b = false := by
          unfold isNaN
          rw [show FloatKind.f64.format.read b = FloatKind.f64.decode b from rfl, hd]
          rfl
        have hb : canon .f64 b = b := by unfold canon; rw [hn]; rfl
        refine fin (c := FloatKind.f64.encode ((Ieee.Datum.infinity s).integral way)) (w' := w) ?_ (.inl rfl) ?_
        · rw [toIntegral_eq]
          simp only [hd, Sem.run_pure]
        · rw [hb]
          unfold ftoward
          rw [hd]
      | number s m e =>
        have hn : isNaN .f64 b = false := by
          unfold isNaN
          rw [show FloatKind.f64.format.read b = FloatKind.f64.decode b from rfl, hd]
          rfl
        have hb : canon .f64 b = b := by unfold canon; rw [hn]; rfl
        refine fin (c := FloatKind.f64.encode ((Ieee.Datum.number s m e).integral way)) (w' := w) ?_ (.inl rfl) ?_
        · rw [toIntegral_eq]
          simp only [hd, Sem.run_pure]
        · rw [hb]
          unfold ftoward
          rw [hd]
    · cases ht
  · cases hF

theorem trunc_ok {f : FuncId} (hrun : ∀ args w, (callFunc f args).run P w = ((MathFloor.toIntegral "math.archTrunc" .zero args).run P w).andThen fun v w' => .ok (.value v) w') : FunOK P f math_archTrunc_c.fn :=
  toward_ok (fun args => by unfold math_archTrunc_c ftrunc; rfl) hrun
theorem floor_ok {f : FuncId} (hrun : ∀ args w, (callFunc f args).run P w = ((MathFloor.toIntegral "math.archFloor" .down args).run P w).andThen fun v w' => .ok (.value v) w') : FunOK P f math_archFloor_c.fn :=
  toward_ok (fun args => by unfold math_archFloor_c ffloor; rfl) hrun

end
end Go.Proofs.Ytilfdpllleninaa
