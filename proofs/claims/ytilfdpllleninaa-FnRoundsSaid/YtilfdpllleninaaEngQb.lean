/- The engine, part Qb: functions of bytes that have no body. -/
import Derived.Test.YtilfdpllleninaaEngQ
import Derived.Lib.Bytealg
namespace Go.Proofs.Ytilfdpllleninaa
set_option linter.unusedVariables false
set_option linter.unusedSimpArgs false
open Go.Lib Go.Extern

section
variable {P : Program}

theorem two_args {w : World} {vs : Array Value} {p q : PV} (h : VSims (argCx w vs) [p, q] vs.toList) : ∃ u v, vs = #[u, v] ∧ VSim (argCx w vs) p u ∧ VSim (argCx w vs) q v := by
  obtain ⟨l⟩ := vs
  match l, h with
  | [], h => simp [VSims] at h
  | [_], h => simp [VSims] at h
  | [u, v], h => simp only [VSims, and_true] at h; exact ⟨u, v, rfl, h.1, h.2⟩
  | _ :: _ :: _ :: _, h => simp [VSims] at h

theorem bif_some {α : Type} {p : Prop} [Decidable p] {x : Option α} {y : α} (h : (bif decide p then x else none) = some y) : p ∧ x = some y := by
  rw [cond_eq_ite] at h
  split at h
  · rename_i hp; exact ⟨of_decide_eq_true hp, h⟩
  · cases h

def internal_bytealg_CountString_c : Con := fun args => match args with
  | [.str s, .int .u8 c] => some (.leaf ⟨.int .i64 ((countByte s c.toNat.toUInt8 : Nat) : Int), []⟩)
  | _ => none
def internal_bytealg_IndexByteString_c : Con := fun args => match args with
  | [.str s, .int .u8 c] => some (.leaf ⟨.int .i64 (indexByte s c.toNat.toUInt8), []⟩)
  | _ => none

theorem countString_ok {f : FuncId} (hrun : ∀ args w, (callFunc f args).run P w = ((BytealgCount.count args).run P w).andThen fun v w' => .ok (.value v) w') : FunOK P f internal_bytealg_CountString_c.fn := by
  refine ext_ok hrun fun w args vs r hiv hF hv => ?_
  unfold Con.fn internal_bytealg_CountString_c at hF
  split at hF
  · rename_i t ht
    split at ht
    · rename_i s c
      cases ht
      simp only [DT.get, Option.some.injEq] at hF
      subst hF
      obtain ⟨u, v, rfl, hu, hq⟩ := two_args hv
      simp only [VSim] at hu hq
      obtain ⟨ba, rfl, rfl⟩ := hu
      subst hq
      refine ⟨_, w, run_countString ba c w, ret_plain hiv (.inl rfl) rfl ?_⟩
      simp only [VSim]
    · cases ht
  · cases hF

theorem indexByteString_ok {f : FuncId} (hrun : ∀ args w, (callFunc f args).run P w = ((BytealgIndexByte.indexByte args).run P w).andThen fun v w' => .ok (.value v) w') : FunOK P f internal_bytealg_IndexByteString_c.fn := by
  refine ext_ok hrun fun w args vs r hiv hF hv => ?_
  unfold Con.fn internal_bytealg_IndexByteString_c at hF
  split at hF
  · rename_i t ht
    split at ht
    · rename_i s c
      cases ht
      simp only [DT.get, Option.some.injEq] at hF
      subst hF
      obtain ⟨u, v, rfl, hu, hq⟩ := two_args hv
      simp only [VSim] at hu hq
      obtain ⟨ba, rfl, rfl⟩ := hu
      subst hq
      refine ⟨_, w, run_indexByteString ba c w, ret_plain hiv (.inl rfl) rfl ?_⟩
      simp only [VSim]
    · cases ht
  · cases hF

/-- Two contracts of one function: the first that speaks. -/
def orC (A B : Con) : Con := fun az => match A az with
  | some t => some t
  | none => B az

theorem orC_ok {f : FuncId} {A B : Con} (hA : FunOK P f A.fn) (hB : FunOK P f B.fn) : FunOK P f (orC A B).fn := by
  intro w args vs r hiv hF hv
  unfold Con.fn orC at hF
  cases ha : A args with
  | some t =>
    rw [ha] at hF
    exact hA w args vs r hiv (by unfold Con.fn; rw [ha]; exact hF) hv
  | none =>
    rw [ha] at hF
    exact hB w args vs r hiv (by unfold Con.fn; exact hF) hv

end
end Go.Proofs.Ytilfdpllleninaa
