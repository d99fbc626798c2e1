/- THE WALK, BY A PROGRAM: typed functions, and that the code is they. -/
import Derived.Test.YtilfdpllleninaaFrom
namespace Go.Proofs.Ytilfdpllleninaa
set_option linter.unusedVariables false
set_option linter.unusedSimpArgs false
open Go.Extern
noncomputable section

set_option maxRecDepth 100000 in
theorem math_Float64bits_ok : FunOK Try.prog 126 math_Float64bits_c.fn := bits64_ok (run_callFunc_extern Try.func126 (by kernel_rfl) (by kernel_rfl) (by kernel_rfl) (by kernel_rfl))

set_option maxRecDepth 100000 in
theorem math_Float64frombits_ok : FunOK Try.prog 125 math_Float64frombits_c.fn := frombits64_ok (run_callFunc_extern Try.func125 (by kernel_rfl) (by kernel_rfl) (by kernel_rfl) (by kernel_rfl))

set_option maxRecDepth 100000 in
theorem math_sqrt_ok : FunOK Try.prog 108 math_sqrt_c.fn := sqrt_ok (run_callFunc_extern Try.func108 (by kernel_rfl) (by kernel_rfl) (by kernel_rfl) (by kernel_rfl))

set_option maxRecDepth 100000 in
theorem math_archTrunc_ok : FunOK Try.prog 134 math_archTrunc_c.fn := trunc_ok (run_callFunc_extern Try.func134 (by kernel_rfl) (by kernel_rfl) (by kernel_rfl) (by kernel_rfl))

/-- loop.example/g01284/laws.r8Long -/
def laws_r8Long_tree (a0 : List Int) (a1 : List Int) : DT (Bool) :=
  let x0 := ((List.length a0 : Nat) : Int);
  let x1 := decide (x0 > 48);
  .ask x1
  (
   .leaf true)
  (
   let x2 := ((List.length a1 : Nat) : Int);
   let x3 := decide (x2 > 48);
   .leaf x3)
def laws_r8Long (a0 : List Int) (a1 : List Int) : Bool := (laws_r8Long_tree a0 a1).val
def laws_r8Long_mk (p : Bool) : Ret := ⟨.bool p, []⟩
def laws_r8Long_c0 : Con := fun args => match args with
  | [.vslc 1 (.int .u8) a0, .vslc 2 (.int .u8) a1] => some (.leaf (laws_r8Long_mk (laws_r8Long a0 a1)))
  | _ => none
set_option maxRecDepth 100000 in
theorem laws_r8Long_ok0 : FunOK Try.prog 5 laws_r8Long_c0.fn := by
  refine con_ok (Γ := gam []) (gam_nil) tab_ok (by kernel_rfl) Try.func5 (by kernel_rfl) (by kernel_rfl) Try.ntmps5 Try.results5 (loopsOK_none rfl _) 100000 fun args t h => ?_
  unfold laws_r8Long_c0 at h
  split at h
  · rename_i a0 a1
    cases h
    exact ⟨rfl, agree_tot (mk := laws_r8Long_mk) (t := laws_r8Long_tree a0 a1) (by unfold Agree; kernel_rfl) (by kernel_rfl)⟩
  · cases h
def laws_r8Long_c : Con := fun args => laws_r8Long_c0 (norms 0 [.slc (.int .u8), .slc (.int .u8)] args)
set_option maxRecDepth 100000 in
theorem laws_r8Long_ok : FunOK Try.prog 5 laws_r8Long_c.fn := con_norm [.slc (.int .u8), .slc (.int .u8)] laws_r8Long_ok0

/-- loop.example/g01284/laws.r8At -/
def laws_r8At_tree (a0 : List Int) (a1 : Int) (a2 : Int) : DT (Int) :=
  let x0 := decide (a2 ≤ 1);
  .ask x0
  (
   .leaf 0)
  (
   let x1 := ((List.length a0 : Nat) : Int);
   let x2 := decide (a1 ≥ x1);
   .ask x2
   (
    .leaf 0)
   (
    .need ((decide (0 ≤ a1) && decide (a1 < ((List.length a0 : Nat) : Int)))) (
    let x3 := List.getD a0 (Int.toNat a1) default;
    let x4 := IntKind.wrap .i64 x3;
    .need ((a2 != 0)) (
    let x5 := Int.tmod x4 a2;
    .leaf x5))))
def laws_r8At (a0 : List Int) (a1 : Int) (a2 : Int) : Int := (laws_r8At_tree a0 a1 a2).val
def laws_r8At_need (a0 : List Int) (a1 : Int) (a2 : Int) : Bool := (laws_r8At_tree a0 a1 a2).ok
def laws_r8At_mk (p : Int) : Ret := ⟨.int .i64 p, []⟩
def laws_r8At_c0 : Con := fun args => match args with
  | [.vslc 1 (.int .u8) a0, .int .i64 a1, .int .i64 a2] => some (.need (laws_r8At_need a0 a1 a2) (.leaf (laws_r8At_mk (laws_r8At a0 a1 a2))))
  | _ => none
set_option maxRecDepth 100000 in
theorem laws_r8At_ok0 : FunOK Try.prog 6 laws_r8At_c0.fn := by
  refine con_ok (Γ := gam []) (gam_nil) tab_ok (by kernel_rfl) Try.func6 (by kernel_rfl) (by kernel_rfl) Try.ntmps6 Try.results6 (loopsOK_none rfl _) 100000 fun args t h => ?_
  unfold laws_r8At_c0 at h
  split at h
  · rename_i a0 a1 a2
    cases h
    exact ⟨rfl, agree_need (mk := laws_r8At_mk) (t := laws_r8At_tree a0 a1 a2) (by unfold Agree; kernel_rfl)⟩
  · cases h
def laws_r8At_c : Con := fun args => laws_r8At_c0 (norms 0 [.slc (.int .u8), .none, .none] args)
set_option maxRecDepth 100000 in
theorem laws_r8At_ok : FunOK Try.prog 6 laws_r8At_c.fn := con_norm [.slc (.int .u8), .none, .none] laws_r8At_ok0

/-- math.IsNaN -/
def math_IsNaN_tree (a0 : Nat) : DT (Bool) :=
  let x0 := fne .f64 a0 a0;
  .leaf x0
def math_IsNaN (a0 : Nat) : Bool := (math_IsNaN_tree a0).val
def math_IsNaN_mk (p : Bool) : Ret := ⟨.bool p, []⟩
def math_IsNaN_c : Con := fun args => match args with
  | [.flt .f64 a0] => some (.leaf (math_IsNaN_mk (math_IsNaN a0)))
  | _ => none
set_option maxRecDepth 100000 in
theorem math_IsNaN_ok : FunOK Try.prog 112 math_IsNaN_c.fn := by
  refine con_ok (Γ := gam []) (gam_nil) tab_ok (by kernel_rfl) Try.func112 (by kernel_rfl) (by kernel_rfl) Try.ntmps112 Try.results112 (loopsOK_none rfl _) 100000 fun args t h => ?_
  unfold math_IsNaN_c at h
  split at h
  · rename_i a0
    cases h
    exact ⟨rfl, agree_tot (mk := math_IsNaN_mk) (t := math_IsNaN_tree a0) (by unfold Agree; kernel_rfl) (by kernel_rfl)⟩
  · cases h

/-- math.Abs -/
def math_Abs_tree (a0 : Nat) : DT (Nat) :=
  .ask ((isNaN .f64 a0))
  (
   .leaf 9221120237041090560)
  (
   let x0 := IntKind.wrap .u64 (BitVec.ofInt (IntKind.bits .u64) ((a0 : Nat) : Int) &&& ~~~ BitVec.ofInt (IntKind.bits .u64) 9223372036854775808).toNat;
   let x1 := canon .f64 (Int.toNat x0);
   .leaf x1)
def math_Abs (a0 : Nat) : Nat := (math_Abs_tree a0).val
def math_Abs_mk (p : Nat) : Ret := ⟨.flt .f64 p, []⟩
def math_Abs_c : Con := fun args => match args with
  | [.flt .f64 a0] => some (.leaf (math_Abs_mk (math_Abs a0)))
  | _ => none
set_option maxRecDepth 100000 in
theorem math_Abs_ok : FunOK Try.prog 96 math_Abs_c.fn := by
  refine con_ok (Γ := gam [(126, math_Float64bits_c), (125, math_Float64frombits_c)]) (gam_cons math_Float64bits_ok (gam_cons math_Float64frombits_ok (gam_nil))) tab_ok (by kernel_rfl) Try.func96 (by kernel_rfl) (by kernel_rfl) Try.ntmps96 Try.results96 (loopsOK_none rfl _) 100000 fun args t h => ?_
  unfold math_Abs_c at h
  split at h
  · rename_i a0
    cases h
    exact ⟨rfl, agree_tot (mk := math_Abs_mk) (t := math_Abs_tree a0) (by unfold Agree; kernel_rfl) (by kernel_rfl)⟩
  · cases h

/-- math.IsInf -/
def math_IsInf_tree (a0 : Nat) (a1 : Int) : DT (Bool) :=
  let x0 := (a1 == 0);
  .ask x0
  (
   let x1 := math_Abs a0;
   let x2 := fgt .f64 x1 9218868437227405311;
   .leaf x2)
  (
   let x1 := decide (a1 < 0);
   .ask x1
   (
    let x2 := fneg .f64 a0;
    let x3 := fgt .f64 x2 9218868437227405311;
    .leaf x3)
   (
    let x2 := fgt .f64 a0 9218868437227405311;
    .leaf x2))
def math_IsInf (a0 : Nat) (a1 : Int) : Bool := (math_IsInf_tree a0 a1).val
def math_IsInf_mk (p : Bool) : Ret := ⟨.bool p, []⟩
def math_IsInf_c : Con := fun args => match args with
  | [.flt .f64 a0, .int .i64 a1] => some (.leaf (math_IsInf_mk (math_IsInf a0 a1)))
  | _ => none
set_option maxRecDepth 100000 in
theorem math_IsInf_ok : FunOK Try.prog 114 math_IsInf_c.fn := by
  refine con_ok (Γ := gam [(96, math_Abs_c)]) (gam_cons math_Abs_ok (gam_nil)) tab_ok (by kernel_rfl) Try.func114 (by kernel_rfl) (by kernel_rfl) Try.ntmps114 Try.results114 (loopsOK_none rfl _) 100000 fun args t h => ?_
  unfold math_IsInf_c at h
  split at h
  · rename_i a0 a1
    cases h
    exact ⟨rfl, agree_tot (mk := math_IsInf_mk) (t := math_IsInf_tree a0 a1) (by unfold Agree; kernel_rfl) (by kernel_rfl)⟩
  · cases h

/-- loop.example/g01284/impl.finite -/
def impl_finite_tree (a0 : Nat) : DT (Bool) :=
  let x0 := math_IsNaN a0;
  .ask (!x0)
  (
   let x1 := math_IsInf a0 0;
   .leaf (!x1))
  (
   .leaf false)
def impl_finite (a0 : Nat) : Bool := (impl_finite_tree a0).val
def impl_finite_mk (p : Bool) : Ret := ⟨.bool p, []⟩
def impl_finite_c : Con := fun args => match args with
  | [.flt .f64 a0] => some (.leaf (impl_finite_mk (impl_finite a0)))
  | _ => none
set_option maxRecDepth 100000 in
theorem impl_finite_ok : FunOK Try.prog 90 impl_finite_c.fn := by
  refine con_ok (Γ := gam [(112, math_IsNaN_c), (114, math_IsInf_c)]) (gam_cons math_IsNaN_ok (gam_cons math_IsInf_ok (gam_nil))) tab_ok (by kernel_rfl) Try.func90 (by kernel_rfl) (by kernel_rfl) Try.ntmps90 Try.results90 (loopsOK_none rfl _) 100000 fun args t h => ?_
  unfold impl_finite_c at h
  split at h
  · rename_i a0
    cases h
    exact ⟨rfl, agree_tot (mk := impl_finite_mk) (t := impl_finite_tree a0) (by unfold Agree; kernel_rfl) (by kernel_rfl)⟩
  · cases h

/-- loop.example/g01284/impl.IsFinite -/
def impl_IsFinite_tree (a0 : Nat) : DT (Bool) :=
  .need ((fconvOk .f32 a0 .f64)) (
  let x0 := fconv .f32 a0 .f64;
  let x1 := impl_finite x0;
  .leaf x1)
def impl_IsFinite (a0 : Nat) : Bool := (impl_IsFinite_tree a0).val
def impl_IsFinite_need (a0 : Nat) : Bool := (impl_IsFinite_tree a0).ok
def impl_IsFinite_mk (p : Bool) : Ret := ⟨.bool p, []⟩
def impl_IsFinite_c : Con := fun args => match args with
  | [.flt .f32 a0] => some (.need (impl_IsFinite_need a0) (.leaf (impl_IsFinite_mk (impl_IsFinite a0))))
  | _ => none
set_option maxRecDepth 100000 in
theorem impl_IsFinite_ok : FunOK Try.prog 42 impl_IsFinite_c.fn := by
  refine con_ok (Γ := gam [(90, impl_finite_c)]) (gam_cons impl_finite_ok (gam_nil)) tab_ok (by kernel_rfl) Try.func42 (by kernel_rfl) (by kernel_rfl) Try.ntmps42 Try.results42 (loopsOK_none rfl _) 100000 fun args t h => ?_
  unfold impl_IsFinite_c at h
  split at h
  · rename_i a0
    cases h
    exact ⟨rfl, agree_need (mk := impl_IsFinite_mk) (t := impl_IsFinite_tree a0) (by unfold Agree; kernel_rfl)⟩
  · cases h

/-- loop.example/g01284/impl.aMass -/
def impl_aMass_tree (a0 : Nat) : DT (Bool) :=
  .need ((impl_IsFinite_need a0)) (
  let x0 := impl_IsFinite a0;
  .ask x0
  (
   let x1 := fge .f32 a0 0;
   .leaf x1)
  (
   .leaf false))
def impl_aMass (a0 : Nat) : Bool := (impl_aMass_tree a0).val
def impl_aMass_need (a0 : Nat) : Bool := (impl_aMass_tree a0).ok
def impl_aMass_mk (p : Bool) : Ret := ⟨.bool p, []⟩
def impl_aMass_c : Con := fun args => match args with
  | [.flt .f32 a0] => some (.need (impl_aMass_need a0) (.leaf (impl_aMass_mk (impl_aMass a0))))
  | _ => none
set_option maxRecDepth 100000 in
theorem impl_aMass_ok : FunOK Try.prog 36 impl_aMass_c.fn := by
  refine con_ok (Γ := gam [(42, impl_IsFinite_c)]) (gam_cons impl_IsFinite_ok (gam_nil)) tab_ok (by kernel_rfl) Try.func36 (by kernel_rfl) (by kernel_rfl) Try.ntmps36 Try.results36 (loopsOK_none rfl _) 100000 fun args t h => ?_
  unfold impl_aMass_c at h
  split at h
  · rename_i a0
    cases h
    exact ⟨rfl, agree_need (mk := impl_aMass_mk) (t := impl_aMass_tree a0) (by unfold Agree; kernel_rfl)⟩
  · cases h

/-- loop.example/g01284/impl.aLength -/
def impl_aLength_tree (a0 : Nat) : DT (Bool) :=
  .need ((impl_IsFinite_need a0)) (
  let x0 := impl_IsFinite a0;
  .ask x0
  (
   let x1 := fgt .f32 a0 0;
   .leaf x1)
  (
   .leaf false))
def impl_aLength (a0 : Nat) : Bool := (impl_aLength_tree a0).val
def impl_aLength_need (a0 : Nat) : Bool := (impl_aLength_tree a0).ok
def impl_aLength_mk (p : Bool) : Ret := ⟨.bool p, []⟩
def impl_aLength_c : Con := fun args => match args with
  | [.flt .f32 a0] => some (.need (impl_aLength_need a0) (.leaf (impl_aLength_mk (impl_aLength a0))))
  | _ => none
set_option maxRecDepth 100000 in
theorem impl_aLength_ok : FunOK Try.prog 37 impl_aLength_c.fn := by
  refine con_ok (Γ := gam [(42, impl_IsFinite_c)]) (gam_cons impl_IsFinite_ok (gam_nil)) tab_ok (by kernel_rfl) Try.func37 (by kernel_rfl) (by kernel_rfl) Try.ntmps37 Try.results37 (loopsOK_none rfl _) 100000 fun args t h => ?_
  unfold impl_aLength_c at h
  split at h
  · rename_i a0
    cases h
    exact ⟨rfl, agree_need (mk := impl_aLength_mk) (t := impl_aLength_tree a0) (by unfold Agree; kernel_rfl)⟩
  · cases h

/-- math.Sqrt -/
def math_Sqrt_tree (a0 : Nat) : DT (Nat) :=
  let x0 := fsqrt a0;
  .leaf x0
def math_Sqrt (a0 : Nat) : Nat := (math_Sqrt_tree a0).val
def math_Sqrt_mk (p : Nat) : Ret := ⟨.flt .f64 p, []⟩
def math_Sqrt_c : Con := fun args => match args with
  | [.flt .f64 a0] => some (.leaf (math_Sqrt_mk (math_Sqrt a0)))
  | _ => none
set_option maxRecDepth 100000 in
theorem math_Sqrt_ok : FunOK Try.prog 67 math_Sqrt_c.fn := by
  refine con_ok (Γ := gam [(108, math_sqrt_c)]) (gam_cons math_sqrt_ok (gam_nil)) tab_ok (by kernel_rfl) Try.func67 (by kernel_rfl) (by kernel_rfl) Try.ntmps67 Try.results67 (loopsOK_none rfl _) 100000 fun args t h => ?_
  unfold math_Sqrt_c at h
  split at h
  · rename_i a0
    cases h
    exact ⟨rfl, agree_tot (mk := math_Sqrt_mk) (t := math_Sqrt_tree a0) (by unfold Agree; kernel_rfl) (by kernel_rfl)⟩
  · cases h

/-- loop.example/g01284/impl.RootNumber -/
def impl_RootNumber_tree (a0 : Nat) : DT (Nat) :=
  .need ((fconvOk .f32 a0 .f64)) (
  let x0 := fconv .f32 a0 .f64;
  let x1 := math_Sqrt x0;
  .need ((fconvOk .f64 x1 .f32)) (
  let x2 := fconv .f64 x1 .f32;
  .leaf x2))
def impl_RootNumber (a0 : Nat) : Nat := (impl_RootNumber_tree a0).val
def impl_RootNumber_need (a0 : Nat) : Bool := (impl_RootNumber_tree a0).ok
def impl_RootNumber_mk (p : Nat) : Ret := ⟨.flt .f32 p, []⟩
def impl_RootNumber_c : Con := fun args => match args with
  | [.flt .f32 a0] => some (.need (impl_RootNumber_need a0) (.leaf (impl_RootNumber_mk (impl_RootNumber a0))))
  | _ => none
set_option maxRecDepth 100000 in
theorem impl_RootNumber_ok : FunOK Try.prog 38 impl_RootNumber_c.fn := by
  refine con_ok (Γ := gam [(67, math_Sqrt_c)]) (gam_cons math_Sqrt_ok (gam_nil)) tab_ok (by kernel_rfl) Try.func38 (by kernel_rfl) (by kernel_rfl) Try.ntmps38 Try.results38 (loopsOK_none rfl _) 100000 fun args t h => ?_
  unfold impl_RootNumber_c at h
  split at h
  · rename_i a0
    cases h
    exact ⟨rfl, agree_need (mk := impl_RootNumber_mk) (t := impl_RootNumber_tree a0) (by unfold Agree; kernel_rfl)⟩
  · cases h

/-- (loop.example/g01284/impl.Vector).numbers -/
def impl_Vector_numbers_tree (a0 : Vec) : DT (List Nat) :=
  .leaf ([a0.X, a0.Y, a0.Z])
def impl_Vector_numbers (a0 : Vec) : List Nat := (impl_Vector_numbers_tree a0).val
def impl_Vector_numbers_mk (p : List Nat) : Ret := ⟨.own 0, [.typed 24 (.flt .f32) p]⟩
def impl_Vector_numbers_c : Con := fun args => match args with
  | [.agg [.flt .f32 a0_0, .flt .f32 a0_1, .flt .f32 a0_2]] => some (.leaf (impl_Vector_numbers_mk (impl_Vector_numbers (⟨a0_0, a0_1, a0_2⟩ : Vec))))
  | _ => none
set_option maxRecDepth 100000 in
theorem impl_Vector_numbers_ok : FunOK Try.prog 102 impl_Vector_numbers_c.fn := by
  refine con_ok (Γ := gam []) (gam_nil) tab_ok (by kernel_rfl) Try.func102 (by kernel_rfl) (by kernel_rfl) Try.ntmps102 Try.results102 (loopsOK_none rfl _) 100000 fun args t h => ?_
  unfold impl_Vector_numbers_c at h
  split at h
  · rename_i a0_0 a0_1 a0_2
    cases h
    exact ⟨rfl, agree_tot (mk := impl_Vector_numbers_mk) (t := impl_Vector_numbers_tree (⟨a0_0, a0_1, a0_2⟩ : Vec)) (by unfold Agree; kernel_rfl) (by kernel_rfl)⟩
  · cases h

/-- loop.example/g01284/impl.areFinite$1 -/
def impl_areFinite_1_tree (a0 : Nat) : DT (Bool) :=
  .need ((impl_IsFinite_need a0)) (
  let x0 := impl_IsFinite a0;
  .leaf (!x0))
def impl_areFinite_1 (a0 : Nat) : Bool := (impl_areFinite_1_tree a0).val
def impl_areFinite_1_need (a0 : Nat) : Bool := (impl_areFinite_1_tree a0).ok
def impl_areFinite_1_mk (p : Bool) : Ret := ⟨.bool p, []⟩
def impl_areFinite_1_c : Con := fun args => match args with
  | [.flt .f32 a0] => some (.need (impl_areFinite_1_need a0) (.leaf (impl_areFinite_1_mk (impl_areFinite_1 a0))))
  | _ => none
set_option maxRecDepth 100000 in
theorem impl_areFinite_1_ok : FunOK Try.prog 99 impl_areFinite_1_c.fn := by
  refine con_ok (Γ := gam [(42, impl_IsFinite_c)]) (gam_cons impl_IsFinite_ok (gam_nil)) tab_ok (by kernel_rfl) Try.func99 (by kernel_rfl) (by kernel_rfl) Try.ntmps99 Try.results99 (loopsOK_none rfl _) 100000 fun args t h => ?_
  unfold impl_areFinite_1_c at h
  split at h
  · rename_i a0
    cases h
    exact ⟨rfl, agree_need (mk := impl_areFinite_1_mk) (t := impl_areFinite_1_tree a0) (by unfold Agree; kernel_rfl)⟩
  · cases h

/-- a loop of slices_IndexFunc___float32_float32__impl_areFinite_1 -/
def slices_IndexFunc___float32_float32__impl_areFinite_1_loop0_step (p : List Nat × Int) (s : Int) : Round (Int) ((Int) ⊕ (Unit)) :=
  let x0 := decide (s < p.2);
  .ask x0
  (
   .need ((decide (0 ≤ s) && decide (s < ((List.length p.1 : Nat) : Int)))) (
   let x1 := List.getD p.1 (Int.toNat s) default;
   .need ((impl_areFinite_1_need x1)) (
   let x2 := impl_areFinite_1 x1;
   .ask x2
   (
    .leaf (.inr (.inl s), []))
   (
    let x3 := IntKind.wrap .i64 (s + 1);
    .leaf (.inl x3, [])))))
  (
   .leaf (.inr (.inr ()), []))
def slices_IndexFunc___float32_float32__impl_areFinite_1_loop0_L (p : List Nat × Int) : LoopS (Int) ((Int) ⊕ (Unit)) := { tl := fun s => [.vslc 1 (.flt .f32) p.1, .func (.func 99) [] [], .junk, .junk, .junk, .junk, .junk, .int .i64 p.2, .int .i64 s], hl := fun s => [], ex := fun r => match r with | .inl r => .ret | .inr r => .exit 0, otl := fun r => match r with | .inl r => [.junk, .junk, .junk, .junk, .int .i64 r] | .inr r => [.junk], ohl := fun r => match r with | .inl r => [] | .inr r => [] }
def slices_IndexFunc___float32_float32__impl_areFinite_1_loop0_ext : St → Option ((List Nat × Int) × (Int) × List Nat) := fun S => match (S.tm 0).unK, (S.tm 1).unK, (S.tm 7).unK, (S.tm 8).unK with
  | .vslc 1 (.flt .f32) q0, .func (.func 99) [] [], .int .i64 q1, .int .i64 q2 => some ((q0, q1), q2, [])
  | _, _, _, _ => none
def slices_IndexFunc___float32_float32__impl_areFinite_1_loop0_post (p : List Nat × Int) (r : (Int) ⊕ (Unit)) : DT (Ex × St) := .ask (isL r) (.leaf (.ret, LSt [.junk, .junk, .junk, .junk, .int .i64 ((leftD r))] [])) (.leaf (.exit 0, LSt [.junk] []))
def slices_IndexFunc___float32_float32__impl_areFinite_1_loop0 (p : List Nat × Int) (s : Int) : (Int) ⊕ (Unit) := loopVal (slices_IndexFunc___float32_float32__impl_areFinite_1_loop0_step p) s
def slices_IndexFunc___float32_float32__impl_areFinite_1_loop0_ends (p : List Nat × Int) (s : Int) : Bool := loopEnds (slices_IndexFunc___float32_float32__impl_areFinite_1_loop0_step p) s
def slices_IndexFunc___float32_float32__impl_areFinite_1_loop0_F : LoopF := loopF slices_IndexFunc___float32_float32__impl_areFinite_1_loop0_step slices_IndexFunc___float32_float32__impl_areFinite_1_loop0_ext slices_IndexFunc___float32_float32__impl_areFinite_1_loop0_post
set_option maxRecDepth 100000 in
theorem slices_IndexFunc___float32_float32__impl_areFinite_1_loop0_hext : ∀ S p s fl, slices_IndexFunc___float32_float32__impl_areFinite_1_loop0_ext S = some (p, s, fl) → Norm S fl ((slices_IndexFunc___float32_float32__impl_areFinite_1_loop0_L p).tl s) ((slices_IndexFunc___float32_float32__impl_areFinite_1_loop0_L p).hl s) (slices_IndexFunc___float32_float32__impl_areFinite_1_loop0_L p).gl := by
  intro S p s fl h
  unfold slices_IndexFunc___float32_float32__impl_areFinite_1_loop0_ext at h
  (repeat' split at h) <;> first
    | (cases h; constructor <;> simp_all [slices_IndexFunc___float32_float32__impl_areFinite_1_loop0_L, keepT, keepH, rens, renH, PV.ren, Blk.ren, fOf, lget, nodup, natIn, lenEq, gtm, PV.unK])
    | cases h
set_option maxRecDepth 100000 in
theorem slices_IndexFunc___float32_float32__impl_areFinite_1_loop0_hpost : ∀ p r e S', (slices_IndexFunc___float32_float32__impl_areFinite_1_loop0_post p r).get = some (e, S') → e = (slices_IndexFunc___float32_float32__impl_areFinite_1_loop0_L p).ex r ∧ S' = LSt ((slices_IndexFunc___float32_float32__impl_areFinite_1_loop0_L p).otl r) ((slices_IndexFunc___float32_float32__impl_areFinite_1_loop0_L p).ohl r) ((slices_IndexFunc___float32_float32__impl_areFinite_1_loop0_L p).ogl r) := by
  intro p r e S' h
  unfold slices_IndexFunc___float32_float32__impl_areFinite_1_loop0_post at h
  cases r <;> (simp only [isL, DT.get, Option.some.injEq, Prod.mk.injEq] at h; exact ⟨h.1.symm, h.2.symm⟩)

def slices_IndexFunc___float32_float32__impl_areFinite_1_loops : Nat → Option LoopF := loopTab [(2, slices_IndexFunc___float32_float32__impl_areFinite_1_loop0_F)]
set_option maxRecDepth 100000 in
theorem slices_IndexFunc___float32_float32__impl_areFinite_1_l0 : LoopOK Try.prog ⟨gam [(99, impl_areFinite_1_c)], tab, 19, slices_IndexFunc___float32_float32__impl_areFinite_1_loops⟩ (lp Try.f127 0) :=
  loopOK_some (F := slices_IndexFunc___float32_float32__impl_areFinite_1_loop0_F) (by kernel_rfl) (loopF_ok (E := ⟨gam [(99, impl_areFinite_1_c)], tab, 19, slices_IndexFunc___float32_float32__impl_areFinite_1_loops⟩) ⟨gam_cons impl_areFinite_1_ok (gam_nil), tab_ok, by kernel_rfl⟩ (fuel := 100000) (loopsOK_list (l := []) (by kernel_rfl) trivial) (L := slices_IndexFunc___float32_float32__impl_areFinite_1_loop0_L) (fun p s => by unfold AgreeL; exact ⟨by kernel_rfl, by kernel_rfl⟩) (fun _ r h => by cases r <;> exact Ex.noConfusion h) slices_IndexFunc___float32_float32__impl_areFinite_1_loop0_hext slices_IndexFunc___float32_float32__impl_areFinite_1_loop0_hpost)
/-- slices.IndexFunc[[]float32,float32] -/
def slices_IndexFunc___float32_float32__impl_areFinite_1_tree (a0 : List Nat) : DT (Int) :=
  let x0 := ((List.length a0 : Nat) : Int);
  .need ((slices_IndexFunc___float32_float32__impl_areFinite_1_loop0_ends (a0, x0) 0)) (
  let x1 := slices_IndexFunc___float32_float32__impl_areFinite_1_loop0 (a0, x0) 0;
  .ask ((isL x1))
  (
   .leaf ((leftD x1)))
  (
   .leaf (-1)))
def slices_IndexFunc___float32_float32__impl_areFinite_1 (a0 : List Nat) : Int := (slices_IndexFunc___float32_float32__impl_areFinite_1_tree a0).val
def slices_IndexFunc___float32_float32__impl_areFinite_1_need (a0 : List Nat) : Bool := (slices_IndexFunc___float32_float32__impl_areFinite_1_tree a0).ok
def slices_IndexFunc___float32_float32__impl_areFinite_1_mk (p : Int) : Ret := ⟨.int .i64 p, []⟩
def slices_IndexFunc___float32_float32__impl_areFinite_1_c0 : Con := fun args => match args with
  | [.vslc 1 (.flt .f32) a0, .func (.func 99) [] []] => some (.need (slices_IndexFunc___float32_float32__impl_areFinite_1_need a0) (.leaf (slices_IndexFunc___float32_float32__impl_areFinite_1_mk (slices_IndexFunc___float32_float32__impl_areFinite_1 a0))))
  | _ => none
set_option maxRecDepth 100000 in
theorem slices_IndexFunc___float32_float32__impl_areFinite_1_ok0 : FunOK Try.prog 127 slices_IndexFunc___float32_float32__impl_areFinite_1_c0.fn := by
  refine con_ok (Γ := gam [(99, impl_areFinite_1_c)]) (gam_cons impl_areFinite_1_ok (gam_nil)) tab_ok (by kernel_rfl) Try.func127 (by kernel_rfl) (by kernel_rfl) Try.ntmps127 Try.results127 (loops := slices_IndexFunc___float32_float32__impl_areFinite_1_loops) (loopsOK_list (l := [lp Try.f127 0]) (by kernel_rfl) ⟨slices_IndexFunc___float32_float32__impl_areFinite_1_l0, trivial⟩) 100000 fun args t h => ?_
  unfold slices_IndexFunc___float32_float32__impl_areFinite_1_c0 at h
  split at h
  · rename_i a0
    cases h
    exact ⟨rfl, agree_need (mk := slices_IndexFunc___float32_float32__impl_areFinite_1_mk) (t := slices_IndexFunc___float32_float32__impl_areFinite_1_tree a0) (by unfold Agree; kernel_rfl)⟩
  · cases h
def slices_IndexFunc___float32_float32__impl_areFinite_1_c : Con := fun args => slices_IndexFunc___float32_float32__impl_areFinite_1_c0 (norms 0 [.slc (.flt .f32), .none] args)
set_option maxRecDepth 100000 in
theorem slices_IndexFunc___float32_float32__impl_areFinite_1_ok : FunOK Try.prog 127 slices_IndexFunc___float32_float32__impl_areFinite_1_c.fn := con_norm [.slc (.flt .f32), .none] slices_IndexFunc___float32_float32__impl_areFinite_1_ok0

/-- slices.ContainsFunc[[]float32,float32] -/
def slices_ContainsFunc___float32_float32__impl_areFinite_1_tree (a0 : List Nat) : DT (Bool) :=
  .need ((slices_IndexFunc___float32_float32__impl_areFinite_1_need a0 )) (
  let x0 := slices_IndexFunc___float32_float32__impl_areFinite_1 a0 ;
  let x1 := decide (x0 ≥ 0);
  .leaf x1)
def slices_ContainsFunc___float32_float32__impl_areFinite_1 (a0 : List Nat) : Bool := (slices_ContainsFunc___float32_float32__impl_areFinite_1_tree a0).val
def slices_ContainsFunc___float32_float32__impl_areFinite_1_need (a0 : List Nat) : Bool := (slices_ContainsFunc___float32_float32__impl_areFinite_1_tree a0).ok
def slices_ContainsFunc___float32_float32__impl_areFinite_1_mk (p : Bool) : Ret := ⟨.bool p, []⟩
def slices_ContainsFunc___float32_float32__impl_areFinite_1_c0 : Con := fun args => match args with
  | [.vslc 1 (.flt .f32) a0, .func (.func 99) [] []] => some (.need (slices_ContainsFunc___float32_float32__impl_areFinite_1_need a0) (.leaf (slices_ContainsFunc___float32_float32__impl_areFinite_1_mk (slices_ContainsFunc___float32_float32__impl_areFinite_1 a0))))
  | _ => none
set_option maxRecDepth 100000 in
theorem slices_ContainsFunc___float32_float32__impl_areFinite_1_ok0 : FunOK Try.prog 98 slices_ContainsFunc___float32_float32__impl_areFinite_1_c0.fn := by
  refine con_ok (Γ := gam [(127, slices_IndexFunc___float32_float32__impl_areFinite_1_c)]) (gam_cons slices_IndexFunc___float32_float32__impl_areFinite_1_ok (gam_nil)) tab_ok (by kernel_rfl) Try.func98 (by kernel_rfl) (by kernel_rfl) Try.ntmps98 Try.results98 (loopsOK_none rfl _) 100000 fun args t h => ?_
  unfold slices_ContainsFunc___float32_float32__impl_areFinite_1_c0 at h
  split at h
  · rename_i a0
    cases h
    exact ⟨rfl, agree_need (mk := slices_ContainsFunc___float32_float32__impl_areFinite_1_mk) (t := slices_ContainsFunc___float32_float32__impl_areFinite_1_tree a0) (by unfold Agree; kernel_rfl)⟩
  · cases h
def slices_ContainsFunc___float32_float32__impl_areFinite_1_c : Con := fun args => slices_ContainsFunc___float32_float32__impl_areFinite_1_c0 (norms 0 [.slc (.flt .f32), .none] args)
set_option maxRecDepth 100000 in
theorem slices_ContainsFunc___float32_float32__impl_areFinite_1_ok : FunOK Try.prog 98 slices_ContainsFunc___float32_float32__impl_areFinite_1_c.fn := con_norm [.slc (.flt .f32), .none] slices_ContainsFunc___float32_float32__impl_areFinite_1_ok0

/-- loop.example/g01284/impl.areFinite -/
def impl_areFinite_tree (a0 : List Nat) : DT (Bool) :=
  .need ((slices_ContainsFunc___float32_float32__impl_areFinite_1_need a0 )) (
  let x0 := slices_ContainsFunc___float32_float32__impl_areFinite_1 a0 ;
  .leaf (!x0))
def impl_areFinite (a0 : List Nat) : Bool := (impl_areFinite_tree a0).val
def impl_areFinite_need (a0 : List Nat) : Bool := (impl_areFinite_tree a0).ok
def impl_areFinite_mk (p : Bool) : Ret := ⟨.bool p, []⟩
def impl_areFinite_c0 : Con := fun args => match args with
  | [.vslc 1 (.flt .f32) a0] => some (.need (impl_areFinite_need a0) (.leaf (impl_areFinite_mk (impl_areFinite a0))))
  | _ => none
set_option maxRecDepth 100000 in
theorem impl_areFinite_ok0 : FunOK Try.prog 56 impl_areFinite_c0.fn := by
  refine con_ok (Γ := gam [(98, slices_ContainsFunc___float32_float32__impl_areFinite_1_c)]) (gam_cons slices_ContainsFunc___float32_float32__impl_areFinite_1_ok (gam_nil)) tab_ok (by kernel_rfl) Try.func56 (by kernel_rfl) (by kernel_rfl) Try.ntmps56 Try.results56 (loopsOK_none rfl _) 100000 fun args t h => ?_
  unfold impl_areFinite_c0 at h
  split at h
  · rename_i a0
    cases h
    exact ⟨rfl, agree_need (mk := impl_areFinite_mk) (t := impl_areFinite_tree a0) (by unfold Agree; kernel_rfl)⟩
  · cases h
def impl_areFinite_c : Con := fun args => impl_areFinite_c0 (norms 0 [.slc (.flt .f32)] args)
set_option maxRecDepth 100000 in
theorem impl_areFinite_ok : FunOK Try.prog 56 impl_areFinite_c.fn := con_norm [.slc (.flt .f32)] impl_areFinite_ok0

/-- loop.example/g01284/impl.isFiniteVector -/
def impl_isFiniteVector_tree (a0 : Vec) : DT (Bool) :=
  let x0 := impl_Vector_numbers (⟨a0.X, a0.Y, a0.Z⟩ : Vec);
  .need ((impl_areFinite_need x0)) (
  let x1 := impl_areFinite x0;
  .leaf x1)
def impl_isFiniteVector (a0 : Vec) : Bool := (impl_isFiniteVector_tree a0).val
def impl_isFiniteVector_need (a0 : Vec) : Bool := (impl_isFiniteVector_tree a0).ok
def impl_isFiniteVector_mk (p : Bool) : Ret := ⟨.bool p, []⟩
def impl_isFiniteVector_c : Con := fun args => match args with
  | [.agg [.flt .f32 a0_0, .flt .f32 a0_1, .flt .f32 a0_2]] => some (.need (impl_isFiniteVector_need (⟨a0_0, a0_1, a0_2⟩ : Vec)) (.leaf (impl_isFiniteVector_mk (impl_isFiniteVector (⟨a0_0, a0_1, a0_2⟩ : Vec)))))
  | _ => none
set_option maxRecDepth 100000 in
theorem impl_isFiniteVector_ok : FunOK Try.prog 61 impl_isFiniteVector_c.fn := by
  refine con_ok (Γ := gam [(102, impl_Vector_numbers_c), (56, impl_areFinite_c)]) (gam_cons impl_Vector_numbers_ok (gam_cons impl_areFinite_ok (gam_nil))) tab_ok (by kernel_rfl) Try.func61 (by kernel_rfl) (by kernel_rfl) Try.ntmps61 Try.results61 (loopsOK_none rfl _) 100000 fun args t h => ?_
  unfold impl_isFiniteVector_c at h
  split at h
  · rename_i a0_0 a0_1 a0_2
    cases h
    exact ⟨rfl, agree_need (mk := impl_isFiniteVector_mk) (t := impl_isFiniteVector_tree (⟨a0_0, a0_1, a0_2⟩ : Vec)) (by unfold Agree; kernel_rfl)⟩
  · cases h

/-- loop.example/g01284/impl.AreBodies$1 -/
def impl_AreBodies_1_tree (a0 : Body) : DT (Bool) :=
  .need ((impl_isFiniteVector_need (⟨a0.At.X, a0.At.Y, a0.At.Z⟩ : Vec))) (
  let x0 := impl_isFiniteVector (⟨a0.At.X, a0.At.Y, a0.At.Z⟩ : Vec);
  .ask (!x0)
  (
   .leaf true)
  (
   .need ((impl_isFiniteVector_need (⟨a0.Speed.X, a0.Speed.Y, a0.Speed.Z⟩ : Vec))) (
   let x1 := impl_isFiniteVector (⟨a0.Speed.X, a0.Speed.Y, a0.Speed.Z⟩ : Vec);
   .ask (!x1)
   (
    .leaf true)
   (
    .need ((impl_IsFinite_need a0.Mass)) (
    let x2 := impl_IsFinite a0.Mass;
    .ask (!x2)
    (
     .leaf true)
    (
     let x3 := flt .f32 a0.Mass 0;
     .leaf x3))))))
def impl_AreBodies_1 (a0 : Body) : Bool := (impl_AreBodies_1_tree a0).val
def impl_AreBodies_1_need (a0 : Body) : Bool := (impl_AreBodies_1_tree a0).ok
def impl_AreBodies_1_mk (p : Bool) : Ret := ⟨.bool p, []⟩
def impl_AreBodies_1_c : Con := fun args => match args with
  | [.agg [.flt .f32 a0_0, .flt .f32 a0_1, .flt .f32 a0_2, .flt .f32 a0_3, .flt .f32 a0_4, .flt .f32 a0_5, .flt .f32 a0_6]] => some (.need (impl_AreBodies_1_need (⟨⟨a0_0, a0_1, a0_2⟩, ⟨a0_3, a0_4, a0_5⟩, a0_6⟩ : Body)) (.leaf (impl_AreBodies_1_mk (impl_AreBodies_1 (⟨⟨a0_0, a0_1, a0_2⟩, ⟨a0_3, a0_4, a0_5⟩, a0_6⟩ : Body)))))
  | _ => none
set_option maxRecDepth 100000 in
theorem impl_AreBodies_1_ok : FunOK Try.prog 89 impl_AreBodies_1_c.fn := by
  refine con_ok (Γ := gam [(61, impl_isFiniteVector_c), (42, impl_IsFinite_c)]) (gam_cons impl_isFiniteVector_ok (gam_cons impl_IsFinite_ok (gam_nil))) tab_ok (by kernel_rfl) Try.func89 (by kernel_rfl) (by kernel_rfl) Try.ntmps89 Try.results89 (loopsOK_none rfl _) 100000 fun args t h => ?_
  unfold impl_AreBodies_1_c at h
  split at h
  · rename_i a0_0 a0_1 a0_2 a0_3 a0_4 a0_5 a0_6
    cases h
    exact ⟨rfl, agree_need (mk := impl_AreBodies_1_mk) (t := impl_AreBodies_1_tree (⟨⟨a0_0, a0_1, a0_2⟩, ⟨a0_3, a0_4, a0_5⟩, a0_6⟩ : Body)) (by unfold Agree; kernel_rfl)⟩
  · cases h

/-- a loop of slices_IndexFunc___impl_Body_impl_Body__impl_AreBodies_1 -/
def slices_IndexFunc___impl_Body_impl_Body__impl_AreBodies_1_loop0_step (p : List Body × Int) (s : Int) : Round (Int) ((Int) ⊕ (Unit)) :=
  let x0 := decide (s < p.2);
  .ask x0
  (
   .need ((decide (0 ≤ s) && decide (s < ((List.length p.1 : Nat) : Int)))) (
   let x1 := List.getD p.1 (Int.toNat s) default;
   .need ((impl_AreBodies_1_need (⟨⟨x1.At.X, x1.At.Y, x1.At.Z⟩, ⟨x1.Speed.X, x1.Speed.Y, x1.Speed.Z⟩, x1.Mass⟩ : Body))) (
   let x2 := impl_AreBodies_1 (⟨⟨x1.At.X, x1.At.Y, x1.At.Z⟩, ⟨x1.Speed.X, x1.Speed.Y, x1.Speed.Z⟩, x1.Mass⟩ : Body);
   .ask x2
   (
    .leaf (.inr (.inl s), []))
   (
    let x3 := IntKind.wrap .i64 (s + 1);
    .leaf (.inl x3, [])))))
  (
   .leaf (.inr (.inr ()), []))
def slices_IndexFunc___impl_Body_impl_Body__impl_AreBodies_1_loop0_L (p : List Body × Int) : LoopS (Int) ((Int) ⊕ (Unit)) := { tl := fun s => [.vslc 1 .body p.1, .func (.func 89) [] [], .junk, .junk, .junk, .junk, .junk, .int .i64 p.2, .int .i64 s], hl := fun s => [], ex := fun r => match r with | .inl r => .ret | .inr r => .exit 0, otl := fun r => match r with | .inl r => [.junk, .junk, .junk, .junk, .int .i64 r] | .inr r => [.junk], ohl := fun r => match r with | .inl r => [] | .inr r => [] }
def slices_IndexFunc___impl_Body_impl_Body__impl_AreBodies_1_loop0_ext : St → Option ((List Body × Int) × (Int) × List Nat) := fun S => match (S.tm 0).unK, (S.tm 1).unK, (S.tm 7).unK, (S.tm 8).unK with
  | .vslc 1 .body q0, .func (.func 89) [] [], .int .i64 q1, .int .i64 q2 => some ((q0, q1), q2, [])
  | _, _, _, _ => none
def slices_IndexFunc___impl_Body_impl_Body__impl_AreBodies_1_loop0_post (p : List Body × Int) (r : (Int) ⊕ (Unit)) : DT (Ex × St) := .ask (isL r) (.leaf (.ret, LSt [.junk, .junk, .junk, .junk, .int .i64 ((leftD r))] [])) (.leaf (.exit 0, LSt [.junk] []))
def slices_IndexFunc___impl_Body_impl_Body__impl_AreBodies_1_loop0 (p : List Body × Int) (s : Int) : (Int) ⊕ (Unit) := loopVal (slices_IndexFunc___impl_Body_impl_Body__impl_AreBodies_1_loop0_step p) s
def slices_IndexFunc___impl_Body_impl_Body__impl_AreBodies_1_loop0_ends (p : List Body × Int) (s : Int) : Bool := loopEnds (slices_IndexFunc___impl_Body_impl_Body__impl_AreBodies_1_loop0_step p) s
def slices_IndexFunc___impl_Body_impl_Body__impl_AreBodies_1_loop0_F : LoopF := loopF slices_IndexFunc___impl_Body_impl_Body__impl_AreBodies_1_loop0_step slices_IndexFunc___impl_Body_impl_Body__impl_AreBodies_1_loop0_ext slices_IndexFunc___impl_Body_impl_Body__impl_AreBodies_1_loop0_post
set_option maxRecDepth 100000 in
theorem slices_IndexFunc___impl_Body_impl_Body__impl_AreBodies_1_loop0_hext : ∀ S p s fl, slices_IndexFunc___impl_Body_impl_Body__impl_AreBodies_1_loop0_ext S = some (p, s, fl) → Norm S fl ((slices_IndexFunc___impl_Body_impl_Body__impl_AreBodies_1_loop0_L p).tl s) ((slices_IndexFunc___impl_Body_impl_Body__impl_AreBodies_1_loop0_L p).hl s) (slices_IndexFunc___impl_Body_impl_Body__impl_AreBodies_1_loop0_L p).gl := by
  intro S p s fl h
  unfold slices_IndexFunc___impl_Body_impl_Body__impl_AreBodies_1_loop0_ext at h
  (repeat' split at h) <;> first
    | (cases h; constructor <;> simp_all [slices_IndexFunc___impl_Body_impl_Body__impl_AreBodies_1_loop0_L, keepT, keepH, rens, renH, PV.ren, Blk.ren, fOf, lget, nodup, natIn, lenEq, gtm, PV.unK])
    | cases h
set_option maxRecDepth 100000 in
theorem slices_IndexFunc___impl_Body_impl_Body__impl_AreBodies_1_loop0_hpost : ∀ p r e S', (slices_IndexFunc___impl_Body_impl_Body__impl_AreBodies_1_loop0_post p r).get = some (e, S') → e = (slices_IndexFunc___impl_Body_impl_Body__impl_AreBodies_1_loop0_L p).ex r ∧ S' = LSt ((slices_IndexFunc___impl_Body_impl_Body__impl_AreBodies_1_loop0_L p).otl r) ((slices_IndexFunc___impl_Body_impl_Body__impl_AreBodies_1_loop0_L p).ohl r) ((slices_IndexFunc___impl_Body_impl_Body__impl_AreBodies_1_loop0_L p).ogl r) := by
  intro p r e S' h
  unfold slices_IndexFunc___impl_Body_impl_Body__impl_AreBodies_1_loop0_post at h
  cases r <;> (simp only [isL, DT.get, Option.some.injEq, Prod.mk.injEq] at h; exact ⟨h.1.symm, h.2.symm⟩)

def slices_IndexFunc___impl_Body_impl_Body__impl_AreBodies_1_loops : Nat → Option LoopF := loopTab [(2, slices_IndexFunc___impl_Body_impl_Body__impl_AreBodies_1_loop0_F)]
set_option maxRecDepth 100000 in
theorem slices_IndexFunc___impl_Body_impl_Body__impl_AreBodies_1_l0 : LoopOK Try.prog ⟨gam [(89, impl_AreBodies_1_c)], tab, 19, slices_IndexFunc___impl_Body_impl_Body__impl_AreBodies_1_loops⟩ (lp Try.f122 0) :=
  loopOK_some (F := slices_IndexFunc___impl_Body_impl_Body__impl_AreBodies_1_loop0_F) (by kernel_rfl) (loopF_ok (E := ⟨gam [(89, impl_AreBodies_1_c)], tab, 19, slices_IndexFunc___impl_Body_impl_Body__impl_AreBodies_1_loops⟩) ⟨gam_cons impl_AreBodies_1_ok (gam_nil), tab_ok, by kernel_rfl⟩ (fuel := 100000) (loopsOK_list (l := []) (by kernel_rfl) trivial) (L := slices_IndexFunc___impl_Body_impl_Body__impl_AreBodies_1_loop0_L) (fun p s => by unfold AgreeL; exact ⟨by kernel_rfl, by kernel_rfl⟩) (fun _ r h => by cases r <;> exact Ex.noConfusion h) slices_IndexFunc___impl_Body_impl_Body__impl_AreBodies_1_loop0_hext slices_IndexFunc___impl_Body_impl_Body__impl_AreBodies_1_loop0_hpost)
/-- slices.IndexFunc[[]loop.example/g01284/impl.Body,loop.example/g01284/impl.Body] -/
def slices_IndexFunc___impl_Body_impl_Body__impl_AreBodies_1_tree (a0 : List Body) : DT (Int) :=
  let x0 := ((List.length a0 : Nat) : Int);
  .need ((slices_IndexFunc___impl_Body_impl_Body__impl_AreBodies_1_loop0_ends (a0, x0) 0)) (
  let x1 := slices_IndexFunc___impl_Body_impl_Body__impl_AreBodies_1_loop0 (a0, x0) 0;
  .ask ((isL x1))
  (
   .leaf ((leftD x1)))
  (
   .leaf (-1)))
def slices_IndexFunc___impl_Body_impl_Body__impl_AreBodies_1 (a0 : List Body) : Int := (slices_IndexFunc___impl_Body_impl_Body__impl_AreBodies_1_tree a0).val
def slices_IndexFunc___impl_Body_impl_Body__impl_AreBodies_1_need (a0 : List Body) : Bool := (slices_IndexFunc___impl_Body_impl_Body__impl_AreBodies_1_tree a0).ok
def slices_IndexFunc___impl_Body_impl_Body__impl_AreBodies_1_mk (p : Int) : Ret := ⟨.int .i64 p, []⟩
def slices_IndexFunc___impl_Body_impl_Body__impl_AreBodies_1_c0 : Con := fun args => match args with
  | [.vslc 1 .body a0, .func (.func 89) [] []] => some (.need (slices_IndexFunc___impl_Body_impl_Body__impl_AreBodies_1_need a0) (.leaf (slices_IndexFunc___impl_Body_impl_Body__impl_AreBodies_1_mk (slices_IndexFunc___impl_Body_impl_Body__impl_AreBodies_1 a0))))
  | _ => none
set_option maxRecDepth 100000 in
theorem slices_IndexFunc___impl_Body_impl_Body__impl_AreBodies_1_ok0 : FunOK Try.prog 122 slices_IndexFunc___impl_Body_impl_Body__impl_AreBodies_1_c0.fn := by
  refine con_ok (Γ := gam [(89, impl_AreBodies_1_c)]) (gam_cons impl_AreBodies_1_ok (gam_nil)) tab_ok (by kernel_rfl) Try.func122 (by kernel_rfl) (by kernel_rfl) Try.ntmps122 Try.results122 (loops := slices_IndexFunc___impl_Body_impl_Body__impl_AreBodies_1_loops) (loopsOK_list (l := [lp Try.f122 0]) (by kernel_rfl) ⟨slices_IndexFunc___impl_Body_impl_Body__impl_AreBodies_1_l0, trivial⟩) 100000 fun args t h => ?_
  unfold slices_IndexFunc___impl_Body_impl_Body__impl_AreBodies_1_c0 at h
  split at h
  · rename_i a0
    cases h
    exact ⟨rfl, agree_need (mk := slices_IndexFunc___impl_Body_impl_Body__impl_AreBodies_1_mk) (t := slices_IndexFunc___impl_Body_impl_Body__impl_AreBodies_1_tree a0) (by unfold Agree; kernel_rfl)⟩
  · cases h
def slices_IndexFunc___impl_Body_impl_Body__impl_AreBodies_1_c : Con := fun args => slices_IndexFunc___impl_Body_impl_Body__impl_AreBodies_1_c0 (norms 0 [.slc .body, .none] args)
set_option maxRecDepth 100000 in
theorem slices_IndexFunc___impl_Body_impl_Body__impl_AreBodies_1_ok : FunOK Try.prog 122 slices_IndexFunc___impl_Body_impl_Body__impl_AreBodies_1_c.fn := con_norm [.slc .body, .none] slices_IndexFunc___impl_Body_impl_Body__impl_AreBodies_1_ok0

/-- slices.ContainsFunc[[]loop.example/g01284/impl.Body,loop.example/g01284/impl.Body] -/
def slices_ContainsFunc___impl_Body_impl_Body__impl_AreBodies_1_tree (a0 : List Body) : DT (Bool) :=
  .need ((slices_IndexFunc___impl_Body_impl_Body__impl_AreBodies_1_need a0 )) (
  let x0 := slices_IndexFunc___impl_Body_impl_Body__impl_AreBodies_1 a0 ;
  let x1 := decide (x0 ≥ 0);
  .leaf x1)
def slices_ContainsFunc___impl_Body_impl_Body__impl_AreBodies_1 (a0 : List Body) : Bool := (slices_ContainsFunc___impl_Body_impl_Body__impl_AreBodies_1_tree a0).val
def slices_ContainsFunc___impl_Body_impl_Body__impl_AreBodies_1_need (a0 : List Body) : Bool := (slices_ContainsFunc___impl_Body_impl_Body__impl_AreBodies_1_tree a0).ok
def slices_ContainsFunc___impl_Body_impl_Body__impl_AreBodies_1_mk (p : Bool) : Ret := ⟨.bool p, []⟩
def slices_ContainsFunc___impl_Body_impl_Body__impl_AreBodies_1_c0 : Con := fun args => match args with
  | [.vslc 1 .body a0, .func (.func 89) [] []] => some (.need (slices_ContainsFunc___impl_Body_impl_Body__impl_AreBodies_1_need a0) (.leaf (slices_ContainsFunc___impl_Body_impl_Body__impl_AreBodies_1_mk (slices_ContainsFunc___impl_Body_impl_Body__impl_AreBodies_1 a0))))
  | _ => none
set_option maxRecDepth 100000 in
theorem slices_ContainsFunc___impl_Body_impl_Body__impl_AreBodies_1_ok0 : FunOK Try.prog 88 slices_ContainsFunc___impl_Body_impl_Body__impl_AreBodies_1_c0.fn := by
  refine con_ok (Γ := gam [(122, slices_IndexFunc___impl_Body_impl_Body__impl_AreBodies_1_c)]) (gam_cons slices_IndexFunc___impl_Body_impl_Body__impl_AreBodies_1_ok (gam_nil)) tab_ok (by kernel_rfl) Try.func88 (by kernel_rfl) (by kernel_rfl) Try.ntmps88 Try.results88 (loopsOK_none rfl _) 100000 fun args t h => ?_
  unfold slices_ContainsFunc___impl_Body_impl_Body__impl_AreBodies_1_c0 at h
  split at h
  · rename_i a0
    cases h
    exact ⟨rfl, agree_need (mk := slices_ContainsFunc___impl_Body_impl_Body__impl_AreBodies_1_mk) (t := slices_ContainsFunc___impl_Body_impl_Body__impl_AreBodies_1_tree a0) (by unfold Agree; kernel_rfl)⟩
  · cases h
def slices_ContainsFunc___impl_Body_impl_Body__impl_AreBodies_1_c : Con := fun args => slices_ContainsFunc___impl_Body_impl_Body__impl_AreBodies_1_c0 (norms 0 [.slc .body, .none] args)
set_option maxRecDepth 100000 in
theorem slices_ContainsFunc___impl_Body_impl_Body__impl_AreBodies_1_ok : FunOK Try.prog 88 slices_ContainsFunc___impl_Body_impl_Body__impl_AreBodies_1_c.fn := con_norm [.slc .body, .none] slices_ContainsFunc___impl_Body_impl_Body__impl_AreBodies_1_ok0

/-- loop.example/g01284/impl.AreBodies -/
def impl_AreBodies_tree (a0 : List Body) : DT (Bool) :=
  let x0 := ((List.length a0 : Nat) : Int);
  let x1 := decide (x0 ≤ 16);
  .ask x1
  (
   .need ((slices_ContainsFunc___impl_Body_impl_Body__impl_AreBodies_1_need a0 )) (
   let x2 := slices_ContainsFunc___impl_Body_impl_Body__impl_AreBodies_1 a0 ;
   .leaf (!x2)))
  (
   .leaf false)
def impl_AreBodies (a0 : List Body) : Bool := (impl_AreBodies_tree a0).val
def impl_AreBodies_need (a0 : List Body) : Bool := (impl_AreBodies_tree a0).ok
def impl_AreBodies_mk (p : Bool) : Ret := ⟨.bool p, []⟩
def impl_AreBodies_c0 : Con := fun args => match args with
  | [.vslc 1 .body a0] => some (.need (impl_AreBodies_need a0) (.leaf (impl_AreBodies_mk (impl_AreBodies a0))))
  | _ => none
set_option maxRecDepth 100000 in
theorem impl_AreBodies_ok0 : FunOK Try.prog 40 impl_AreBodies_c0.fn := by
  refine con_ok (Γ := gam [(88, slices_ContainsFunc___impl_Body_impl_Body__impl_AreBodies_1_c)]) (gam_cons slices_ContainsFunc___impl_Body_impl_Body__impl_AreBodies_1_ok (gam_nil)) tab_ok (by kernel_rfl) Try.func40 (by kernel_rfl) (by kernel_rfl) Try.ntmps40 Try.results40 (loopsOK_none rfl _) 100000 fun args t h => ?_
  unfold impl_AreBodies_c0 at h
  split at h
  · rename_i a0
    cases h
    exact ⟨rfl, agree_need (mk := impl_AreBodies_mk) (t := impl_AreBodies_tree a0) (by unfold Agree; kernel_rfl)⟩
  · cases h
def impl_AreBodies_c : Con := fun args => impl_AreBodies_c0 (norms 0 [.slc .body] args)
set_option maxRecDepth 100000 in
theorem impl_AreBodies_ok : FunOK Try.prog 40 impl_AreBodies_c.fn := con_norm [.slc .body] impl_AreBodies_ok0

/-- loop.example/g01284/impl.asBodies -/
def impl_asBodies_tree (a0 : List Body) : DT ((Unit) ⊕ (List Body)) :=
  .need ((impl_AreBodies_need a0)) (
  let x0 := impl_AreBodies a0;
  .ask (!x0)
  (
   .leaf (.inl ()))
  (
   .leaf (.inr a0)))
def impl_asBodies (a0 : List Body) : (Unit) ⊕ (List Body) := (impl_asBodies_tree a0).val
def impl_asBodies_need (a0 : List Body) : Bool := (impl_asBodies_tree a0).ok
def impl_asBodies_mk0 (p : Unit) : Ret := ⟨.tup [.nils, .bool false], []⟩
def impl_asBodies_mk1 (p : List Body) : Ret := ⟨.tup [.vslc 1 .body p, .bool true], []⟩
def impl_asBodies_mk : (Unit) ⊕ (List Body) → Ret := fun v => match v with
  | (.inl p) => impl_asBodies_mk0 p
  | (.inr p) => impl_asBodies_mk1 p
def impl_asBodies_forms (v : (Unit) ⊕ (List Body)) : DT Ret := .ask (isL v) (.leaf (impl_asBodies_mk0 (leftD v))) (.leaf (impl_asBodies_mk1 (rightD v)))
theorem impl_asBodies_forms_get : ∀ v, (impl_asBodies_forms v).get = some (impl_asBodies_mk v) := by
  intro v
  rcases v with v | v <;> rfl
def impl_asBodies_c0 : Con := fun args => match args with
  | [.vslc 1 .body a0] => some (.need (impl_asBodies_need a0) (impl_asBodies_forms (impl_asBodies a0)))
  | _ => none
set_option maxRecDepth 100000 in
theorem impl_asBodies_ok0 : FunOK Try.prog 39 impl_asBodies_c0.fn := by
  refine con_ok (Γ := gam [(40, impl_AreBodies_c)]) (gam_cons impl_AreBodies_ok (gam_nil)) tab_ok (by kernel_rfl) Try.func39 (by kernel_rfl) (by kernel_rfl) Try.ntmps39 Try.results39 (loopsOK_none rfl _) 100000 fun args t h => ?_
  unfold impl_asBodies_c0 at h
  split at h
  · rename_i a0
    cases h
    exact ⟨rfl, agree_forms (mk := impl_asBodies_mk) (t := impl_asBodies_tree a0) (by unfold Agree; kernel_rfl) (fun h => h) (impl_asBodies_forms_get _)⟩
  · cases h
def impl_asBodies_c : Con := fun args => impl_asBodies_c0 (norms 0 [.slc .body] args)
set_option maxRecDepth 100000 in
theorem impl_asBodies_ok : FunOK Try.prog 39 impl_asBodies_c.fn := con_norm [.slc .body] impl_asBodies_ok0

/-- loop.example/g01284/impl.CircleBodies -/
def impl_CircleBodies_tree (a0 : Nat) (a1 : Nat) (a2 : Nat) : DT ((Unit) ⊕ (List Body)) :=
  let x0 := fadd .f32 a0 a1;
  .need ((impl_aMass_need a0)) (
  let x1 := impl_aMass a0;
  .ask (!x1)
  (
   .leaf (.inl ()))
  (
   .need ((impl_aMass_need a1)) (
   let x2 := impl_aMass a1;
   .ask (!x2)
   (
    .leaf (.inl ()))
   (
    .need ((impl_aLength_need a2)) (
    let x3 := impl_aLength a2;
    .ask (!x3)
    (
     .leaf (.inl ()))
    (
     .need ((impl_aLength_need x0)) (
     let x4 := impl_aLength x0;
     .ask (!x4)
     (
      .leaf (.inl ()))
     (
      let x5 := fmul .f32 a2 a2;
      let x6 := fmul .f32 x5 a2;
      let x7 := fdiv .f32 x0 x6;
      .need ((impl_RootNumber_need x7)) (
      let x8 := impl_RootNumber x7;
      let x9 := fmul .f32 a2 a1;
      let x10 := fdiv .f32 x9 x0;
      let x11 := fneg .f32 x10;
      let x12 := fmul .f32 a2 a0;
      let x13 := fdiv .f32 x12 x0;
      let x14 := fmul .f32 x8 x11;
      let x15 := fmul .f32 x8 x13;
      .need ((impl_asBodies_need ([(⟨⟨x11, 0, 0⟩, ⟨0, x14, 0⟩, a0⟩ : Body), (⟨⟨x13, 0, 0⟩, ⟨0, x15, 0⟩, a1⟩ : Body)]))) (
      let x16 := impl_asBodies ([(⟨⟨x11, 0, 0⟩, ⟨0, x14, 0⟩, a0⟩ : Body), (⟨⟨x13, 0, 0⟩, ⟨0, x15, 0⟩, a1⟩ : Body)]);
      .ask ((isL x16))
      (
       .leaf (.inl ()))
      (
       .leaf (.inr ([(⟨⟨x11, 0, 0⟩, ⟨0, x14, 0⟩, a0⟩ : Body), (⟨⟨x13, 0, 0⟩, ⟨0, x15, 0⟩, a1⟩ : Body)])))))))))))))
def impl_CircleBodies (a0 : Nat) (a1 : Nat) (a2 : Nat) : (Unit) ⊕ (List Body) := (impl_CircleBodies_tree a0 a1 a2).val
def impl_CircleBodies_need (a0 : Nat) (a1 : Nat) (a2 : Nat) : Bool := (impl_CircleBodies_tree a0 a1 a2).ok
def impl_CircleBodies_mk0 (p : Unit) : Ret := ⟨.tup [.nils, .bool false], []⟩
def impl_CircleBodies_mk1 (p : List Body) : Ret := ⟨.tup [.own 0, .bool true], [.typed 43 .body p]⟩
def impl_CircleBodies_mk : (Unit) ⊕ (List Body) → Ret := fun v => match v with
  | (.inl p) => impl_CircleBodies_mk0 p
  | (.inr p) => impl_CircleBodies_mk1 p
def impl_CircleBodies_forms (v : (Unit) ⊕ (List Body)) : DT Ret := .ask (isL v) (.leaf (impl_CircleBodies_mk0 (leftD v))) (.leaf (impl_CircleBodies_mk1 (rightD v)))
theorem impl_CircleBodies_forms_get : ∀ v, (impl_CircleBodies_forms v).get = some (impl_CircleBodies_mk v) := by
  intro v
  rcases v with v | v <;> rfl
def impl_CircleBodies_c : Con := fun args => match args with
  | [.flt .f32 a0, .flt .f32 a1, .flt .f32 a2] => some (.need (impl_CircleBodies_need a0 a1 a2) (impl_CircleBodies_forms (impl_CircleBodies a0 a1 a2)))
  | _ => none
set_option maxRecDepth 100000 in
theorem impl_CircleBodies_ok : FunOK Try.prog 7 impl_CircleBodies_c.fn := by
  refine con_ok (Γ := gam [(36, impl_aMass_c), (37, impl_aLength_c), (38, impl_RootNumber_c), (39, impl_asBodies_c)]) (gam_cons impl_aMass_ok (gam_cons impl_aLength_ok (gam_cons impl_RootNumber_ok (gam_cons impl_asBodies_ok (gam_nil))))) tab_ok (by kernel_rfl) Try.func7 (by kernel_rfl) (by kernel_rfl) Try.ntmps7 Try.results7 (loopsOK_none rfl _) 100000 fun args t h => ?_
  unfold impl_CircleBodies_c at h
  split at h
  · rename_i a0 a1 a2
    cases h
    exact ⟨rfl, agree_forms (mk := impl_CircleBodies_mk) (t := impl_CircleBodies_tree a0 a1 a2) (by unfold Agree; kernel_rfl) (fun h => h) (impl_CircleBodies_forms_get _)⟩
  · cases h

/-- loop.example/g01284/impl.isCore -/
def impl_isCore_tree (a0 : Nat) : DT (Bool) :=
  .need ((impl_IsFinite_need a0)) (
  let x0 := impl_IsFinite a0;
  .ask x0
  (
   let x1 := fge .f32 a0 0;
   .leaf x1)
  (
   .leaf false))
def impl_isCore (a0 : Nat) : Bool := (impl_isCore_tree a0).val
def impl_isCore_need (a0 : Nat) : Bool := (impl_isCore_tree a0).ok
def impl_isCore_mk (p : Bool) : Ret := ⟨.bool p, []⟩
def impl_isCore_c : Con := fun args => match args with
  | [.flt .f32 a0] => some (.need (impl_isCore_need a0) (.leaf (impl_isCore_mk (impl_isCore a0))))
  | _ => none
set_option maxRecDepth 100000 in
theorem impl_isCore_ok : FunOK Try.prog 41 impl_isCore_c.fn := by
  refine con_ok (Γ := gam [(42, impl_IsFinite_c)]) (gam_cons impl_IsFinite_ok (gam_nil)) tab_ok (by kernel_rfl) Try.func41 (by kernel_rfl) (by kernel_rfl) Try.ntmps41 Try.results41 (loopsOK_none rfl _) 100000 fun args t h => ?_
  unfold impl_isCore_c at h
  split at h
  · rename_i a0
    cases h
    exact ⟨rfl, agree_need (mk := impl_isCore_mk) (t := impl_isCore_tree a0) (by unfold Agree; kernel_rfl)⟩
  · cases h

/-- loop.example/g01284/impl.within -/
def impl_within_tree (a0 : Int) (a1 : Int) (a2 : Int) : DT (Bool) :=
  let x0 := decide (a1 ≤ a0);
  .ask x0
  (
   let x1 := decide (a0 ≤ a2);
   .leaf x1)
  (
   .leaf false)
def impl_within (a0 : Int) (a1 : Int) (a2 : Int) : Bool := (impl_within_tree a0 a1 a2).val
def impl_within_mk (p : Bool) : Ret := ⟨.bool p, []⟩
def impl_within_c : Con := fun args => match args with
  | [.int .i64 a0, .int .i64 a1, .int .i64 a2] => some (.leaf (impl_within_mk (impl_within a0 a1 a2)))
  | _ => none
set_option maxRecDepth 100000 in
theorem impl_within_ok : FunOK Try.prog 43 impl_within_c.fn := by
  refine con_ok (Γ := gam []) (gam_nil) tab_ok (by kernel_rfl) Try.func43 (by kernel_rfl) (by kernel_rfl) Try.ntmps43 Try.results43 (loopsOK_none rfl _) 100000 fun args t h => ?_
  unfold impl_within_c at h
  split at h
  · rename_i a0 a1 a2
    cases h
    exact ⟨rfl, agree_tot (mk := impl_within_mk) (t := impl_within_tree a0 a1 a2) (by unfold Agree; kernel_rfl) (by kernel_rfl)⟩
  · cases h

/-- loop.example/g01284/impl.LessVectors -/
def impl_LessVectors_tree (a0 : Vec) (a1 : Vec) : DT (Vec) :=
  let x0 := fsub .f32 a0.X a1.X;
  let x1 := fsub .f32 a0.Y a1.Y;
  let x2 := fsub .f32 a0.Z a1.Z;
  .leaf ((⟨x0, x1, x2⟩ : Vec))
def impl_LessVectors (a0 : Vec) (a1 : Vec) : Vec := (impl_LessVectors_tree a0 a1).val
def impl_LessVectors_mk (p : Vec) : Ret := ⟨.agg [.flt .f32 p.X, .flt .f32 p.Y, .flt .f32 p.Z], []⟩
def impl_LessVectors_c : Con := fun args => match args with
  | [.agg [.flt .f32 a0_0, .flt .f32 a0_1, .flt .f32 a0_2], .agg [.flt .f32 a1_0, .flt .f32 a1_1, .flt .f32 a1_2]] => some (.leaf (impl_LessVectors_mk (impl_LessVectors (⟨a0_0, a0_1, a0_2⟩ : Vec) (⟨a1_0, a1_1, a1_2⟩ : Vec))))
  | _ => none
set_option maxRecDepth 100000 in
theorem impl_LessVectors_ok : FunOK Try.prog 50 impl_LessVectors_c.fn := by
  refine con_ok (Γ := gam []) (gam_nil) tab_ok (by kernel_rfl) Try.func50 (by kernel_rfl) (by kernel_rfl) Try.ntmps50 Try.results50 (loopsOK_none rfl _) 100000 fun args t h => ?_
  unfold impl_LessVectors_c at h
  split at h
  · rename_i a0_0 a0_1 a0_2 a1_0 a1_1 a1_2
    cases h
    exact ⟨rfl, agree_tot (mk := impl_LessVectors_mk) (t := impl_LessVectors_tree (⟨a0_0, a0_1, a0_2⟩ : Vec) (⟨a1_0, a1_1, a1_2⟩ : Vec)) (by unfold Agree; kernel_rfl) (by kernel_rfl)⟩
  · cases h

/-- loop.example/g01284/impl.InnerOf -/
def impl_InnerOf_tree (a0 : Vec) (a1 : Vec) : DT (Nat) :=
  let x0 := fmul .f32 a0.X a1.X;
  let x1 := fmul .f32 a0.Y a1.Y;
  let x2 := fadd .f32 x0 x1;
  let x3 := fmul .f32 a0.Z a1.Z;
  let x4 := fadd .f32 x2 x3;
  .leaf x4
def impl_InnerOf (a0 : Vec) (a1 : Vec) : Nat := (impl_InnerOf_tree a0 a1).val
def impl_InnerOf_mk (p : Nat) : Ret := ⟨.flt .f32 p, []⟩
def impl_InnerOf_c : Con := fun args => match args with
  | [.agg [.flt .f32 a0_0, .flt .f32 a0_1, .flt .f32 a0_2], .agg [.flt .f32 a1_0, .flt .f32 a1_1, .flt .f32 a1_2]] => some (.leaf (impl_InnerOf_mk (impl_InnerOf (⟨a0_0, a0_1, a0_2⟩ : Vec) (⟨a1_0, a1_1, a1_2⟩ : Vec))))
  | _ => none
set_option maxRecDepth 100000 in
theorem impl_InnerOf_ok : FunOK Try.prog 51 impl_InnerOf_c.fn := by
  refine con_ok (Γ := gam []) (gam_nil) tab_ok (by kernel_rfl) Try.func51 (by kernel_rfl) (by kernel_rfl) Try.ntmps51 Try.results51 (loopsOK_none rfl _) 100000 fun args t h => ?_
  unfold impl_InnerOf_c at h
  split at h
  · rename_i a0_0 a0_1 a0_2 a1_0 a1_1 a1_2
    cases h
    exact ⟨rfl, agree_tot (mk := impl_InnerOf_mk) (t := impl_InnerOf_tree (⟨a0_0, a0_1, a0_2⟩ : Vec) (⟨a1_0, a1_1, a1_2⟩ : Vec)) (by unfold Agree; kernel_rfl) (by kernel_rfl)⟩
  · cases h

/-- loop.example/g01284/impl.softened -/
def impl_softened_tree (a0 : Vec) (a1 : Nat) : DT (Nat) :=
  let x0 := impl_InnerOf (⟨a0.X, a0.Y, a0.Z⟩ : Vec) (⟨a0.X, a0.Y, a0.Z⟩ : Vec);
  let x1 := fmul .f32 a1 a1;
  let x2 := fadd .f32 x0 x1;
  .leaf x2
def impl_softened (a0 : Vec) (a1 : Nat) : Nat := (impl_softened_tree a0 a1).val
def impl_softened_mk (p : Nat) : Ret := ⟨.flt .f32 p, []⟩
def impl_softened_c : Con := fun args => match args with
  | [.agg [.flt .f32 a0_0, .flt .f32 a0_1, .flt .f32 a0_2], .flt .f32 a1] => some (.leaf (impl_softened_mk (impl_softened (⟨a0_0, a0_1, a0_2⟩ : Vec) a1)))
  | _ => none
set_option maxRecDepth 100000 in
theorem impl_softened_ok : FunOK Try.prog 138 impl_softened_c.fn := by
  refine con_ok (Γ := gam [(51, impl_InnerOf_c)]) (gam_cons impl_InnerOf_ok (gam_nil)) tab_ok (by kernel_rfl) Try.func138 (by kernel_rfl) (by kernel_rfl) Try.ntmps138 Try.results138 (loopsOK_none rfl _) 100000 fun args t h => ?_
  unfold impl_softened_c at h
  split at h
  · rename_i a0_0 a0_1 a0_2 a1
    cases h
    exact ⟨rfl, agree_tot (mk := impl_softened_mk) (t := impl_softened_tree (⟨a0_0, a0_1, a0_2⟩ : Vec) a1) (by unfold Agree; kernel_rfl) (by kernel_rfl)⟩
  · cases h

/-- loop.example/g01284/impl.ScaleVector -/
def impl_ScaleVector_tree (a0 : Vec) (a1 : Nat) : DT (Vec) :=
  let x0 := fmul .f32 a0.X a1;
  let x1 := fmul .f32 a0.Y a1;
  let x2 := fmul .f32 a0.Z a1;
  .leaf ((⟨x0, x1, x2⟩ : Vec))
def impl_ScaleVector (a0 : Vec) (a1 : Nat) : Vec := (impl_ScaleVector_tree a0 a1).val
def impl_ScaleVector_mk (p : Vec) : Ret := ⟨.agg [.flt .f32 p.X, .flt .f32 p.Y, .flt .f32 p.Z], []⟩
def impl_ScaleVector_c : Con := fun args => match args with
  | [.agg [.flt .f32 a0_0, .flt .f32 a0_1, .flt .f32 a0_2], .flt .f32 a1] => some (.leaf (impl_ScaleVector_mk (impl_ScaleVector (⟨a0_0, a0_1, a0_2⟩ : Vec) a1)))
  | _ => none
set_option maxRecDepth 100000 in
theorem impl_ScaleVector_ok : FunOK Try.prog 48 impl_ScaleVector_c.fn := by
  refine con_ok (Γ := gam []) (gam_nil) tab_ok (by kernel_rfl) Try.func48 (by kernel_rfl) (by kernel_rfl) Try.ntmps48 Try.results48 (loopsOK_none rfl _) 100000 fun args t h => ?_
  unfold impl_ScaleVector_c at h
  split at h
  · rename_i a0_0 a0_1 a0_2 a1
    cases h
    exact ⟨rfl, agree_tot (mk := impl_ScaleVector_mk) (t := impl_ScaleVector_tree (⟨a0_0, a0_1, a0_2⟩ : Vec) a1) (by unfold Agree; kernel_rfl) (by kernel_rfl)⟩
  · cases h

/-- loop.example/g01284/impl.AddVectors -/
def impl_AddVectors_tree (a0 : Vec) (a1 : Vec) : DT (Vec) :=
  let x0 := fadd .f32 a0.X a1.X;
  let x1 := fadd .f32 a0.Y a1.Y;
  let x2 := fadd .f32 a0.Z a1.Z;
  .leaf ((⟨x0, x1, x2⟩ : Vec))
def impl_AddVectors (a0 : Vec) (a1 : Vec) : Vec := (impl_AddVectors_tree a0 a1).val
def impl_AddVectors_mk (p : Vec) : Ret := ⟨.agg [.flt .f32 p.X, .flt .f32 p.Y, .flt .f32 p.Z], []⟩
def impl_AddVectors_c : Con := fun args => match args with
  | [.agg [.flt .f32 a0_0, .flt .f32 a0_1, .flt .f32 a0_2], .agg [.flt .f32 a1_0, .flt .f32 a1_1, .flt .f32 a1_2]] => some (.leaf (impl_AddVectors_mk (impl_AddVectors (⟨a0_0, a0_1, a0_2⟩ : Vec) (⟨a1_0, a1_1, a1_2⟩ : Vec))))
  | _ => none
set_option maxRecDepth 100000 in
theorem impl_AddVectors_ok : FunOK Try.prog 92 impl_AddVectors_c.fn := by
  refine con_ok (Γ := gam []) (gam_nil) tab_ok (by kernel_rfl) Try.func92 (by kernel_rfl) (by kernel_rfl) Try.ntmps92 Try.results92 (loopsOK_none rfl _) 100000 fun args t h => ?_
  unfold impl_AddVectors_c at h
  split at h
  · rename_i a0_0 a0_1 a0_2 a1_0 a1_1 a1_2
    cases h
    exact ⟨rfl, agree_tot (mk := impl_AddVectors_mk) (t := impl_AddVectors_tree (⟨a0_0, a0_1, a0_2⟩ : Vec) (⟨a1_0, a1_1, a1_2⟩ : Vec)) (by unfold Agree; kernel_rfl) (by kernel_rfl)⟩
  · cases h

/-- a loop of impl_pull -/
def impl_pull_loop0_step (p : Int × Nat × List Body × Int × Nat × Nat × Nat × Nat × Nat × Nat) (s : Int × Nat × Nat × Nat) : Round (Int × Nat × Nat × Nat) (Nat × Nat × Nat) :=
  let x0 := decide (s.1 < p.2.2.2.1);
  .ask x0
  (
   .need ((decide (0 ≤ s.1) && decide (s.1 < ((List.length p.2.2.1 : Nat) : Int)))) (
   let x1 := List.getD p.2.2.1 (Int.toNat s.1) default;
   let x2 := impl_LessVectors (⟨x1.At.X, x1.At.Y, x1.At.Z⟩ : Vec) (⟨p.2.2.2.2.1, p.2.2.2.2.2.1, p.2.2.2.2.2.2.1⟩ : Vec);
   let x3 := impl_softened (⟨x2.X, x2.Y, x2.Z⟩ : Vec) p.2.1;
   let x4 := (s.1 != p.1);
   .ask x4
   (
    let x5 := fgt .f32 x3 0;
    .ask x5
    (
     .need ((impl_RootNumber_need x3)) (
     let x6 := impl_RootNumber x3;
     let x7 := fmul .f32 x3 x6;
     let x8 := fdiv .f32 x1.Mass x7;
     let x9 := impl_ScaleVector (⟨x2.X, x2.Y, x2.Z⟩ : Vec) x8;
     let x10 := impl_AddVectors (⟨s.2.1, s.2.2.1, s.2.2.2⟩ : Vec) (⟨x9.X, x9.Y, x9.Z⟩ : Vec);
     let x11 := IntKind.wrap .i64 (s.1 + 1);
     .leaf (.inl (x11, x10.X, x10.Y, x10.Z), [0, 1, 2])))
    (
     let x6 := IntKind.wrap .i64 (s.1 + 1);
     .leaf (.inl (x6, s.2.1, s.2.2.1, s.2.2.2), [0, 1, 2])))
   (
    let x5 := IntKind.wrap .i64 (s.1 + 1);
    .leaf (.inl (x5, s.2.1, s.2.2.1, s.2.2.2), [0, 1, 2]))))
  (
   .leaf (.inr (s.2.1, s.2.2.1, s.2.2.2), [1, 2]))
def impl_pull_loop0_L (p : Int × Nat × List Body × Int × Nat × Nat × Nat × Nat × Nat × Nat) : LoopS (Int × Nat × Nat × Nat) (Nat × Nat × Nat) := { tl := fun s => [.junk, .int .i64 p.1, .junk, .flt .f32 p.2.1, .junk, .junk, .ptr 0 0, .junk, .ptr 1 0, .ptr 2 0, .junk, .junk, .junk, .junk, .junk, .vslc 1 .body p.2.2.1, .int .i64 p.2.2.2.1, .int .i64 s.1], hl := fun s => [some (.cells [.flt .f32 p.2.2.2.2.1, .flt .f32 p.2.2.2.2.2.1, .flt .f32 p.2.2.2.2.2.2.1]), some (.cells [.flt .f32 p.2.2.2.2.2.2.2.1, .flt .f32 p.2.2.2.2.2.2.2.2.1, .flt .f32 p.2.2.2.2.2.2.2.2.2]), some (.cells [.flt .f32 s.2.1, .flt .f32 s.2.2.1, .flt .f32 s.2.2.2])], ex := fun r => .exit 0, otl := fun r => [.junk, .junk, .junk, .junk, .junk, .junk, .junk, .junk, .ptr 0 0, .ptr 1 0], ohl := fun r => [some (.cells [.flt .f32 p.2.2.2.2.2.2.2.1, .flt .f32 p.2.2.2.2.2.2.2.2.1, .flt .f32 p.2.2.2.2.2.2.2.2.2]), some (.cells [.flt .f32 r.1, .flt .f32 r.2.1, .flt .f32 r.2.2])] }
def impl_pull_loop0_ext : St → Option ((Int × Nat × List Body × Int × Nat × Nat × Nat × Nat × Nat × Nat) × (Int × Nat × Nat × Nat) × List Nat) := fun S => match (S.tm 1).unK, (S.tm 3).unK, (S.tm 6).unK, (S.tm 8).unK, (S.tm 9).unK, (S.tm 15).unK, (S.tm 16).unK, (S.tm 17).unK with
  | .int .i64 q0, .flt .f32 q1, .ptr i0 0, .ptr i1 0, .ptr i2 0, .vslc 1 .body q2, .int .i64 q3, .int .i64 q4 => (match S.hp i0 with
    | some (.cells [.flt .f32 q5, .flt .f32 q6, .flt .f32 q7]) => (match S.hp i1 with
    | some (.cells [.flt .f32 q8, .flt .f32 q9, .flt .f32 q10]) => (match S.hp i2 with
    | some (.cells [.flt .f32 q11, .flt .f32 q12, .flt .f32 q13]) => (if nodup [i0, i1, i2] = true then some ((q0, q1, q2, q3, q5, q6, q7, q8, q9, q10), (q4, q11, q12, q13), [i0, i1, i2]) else none)
    | _ => none)
    | _ => none)
    | _ => none)
  | _, _, _, _, _, _, _, _ => none
def impl_pull_loop0_post (p : Int × Nat × List Body × Int × Nat × Nat × Nat × Nat × Nat × Nat) (r : Nat × Nat × Nat) : DT (Ex × St) := .leaf (.exit 0, LSt [.junk, .junk, .junk, .junk, .junk, .junk, .junk, .junk, .ptr 0 0, .ptr 1 0] [some (.cells [.flt .f32 p.2.2.2.2.2.2.2.1, .flt .f32 p.2.2.2.2.2.2.2.2.1, .flt .f32 p.2.2.2.2.2.2.2.2.2]), some (.cells [.flt .f32 r.1, .flt .f32 r.2.1, .flt .f32 r.2.2])])
def impl_pull_loop0 (p : Int × Nat × List Body × Int × Nat × Nat × Nat × Nat × Nat × Nat) (s : Int × Nat × Nat × Nat) : Nat × Nat × Nat := loopVal (impl_pull_loop0_step p) s
def impl_pull_loop0_ends (p : Int × Nat × List Body × Int × Nat × Nat × Nat × Nat × Nat × Nat) (s : Int × Nat × Nat × Nat) : Bool := loopEnds (impl_pull_loop0_step p) s
def impl_pull_loop0_F : LoopF := loopF impl_pull_loop0_step impl_pull_loop0_ext impl_pull_loop0_post
set_option maxRecDepth 100000 in
theorem impl_pull_loop0_hext : ∀ S p s fl, impl_pull_loop0_ext S = some (p, s, fl) → Norm S fl ((impl_pull_loop0_L p).tl s) ((impl_pull_loop0_L p).hl s) (impl_pull_loop0_L p).gl := by
  intro S p s fl h
  unfold impl_pull_loop0_ext at h
  (repeat' split at h) <;> first
    | (cases h; constructor <;> simp_all [impl_pull_loop0_L, keepT, keepH, rens, renH, PV.ren, Blk.ren, fOf, lget, nodup, natIn, lenEq, gtm, PV.unK])
    | cases h
set_option maxRecDepth 100000 in
theorem impl_pull_loop0_hpost : ∀ p r e S', (impl_pull_loop0_post p r).get = some (e, S') → e = (impl_pull_loop0_L p).ex r ∧ S' = LSt ((impl_pull_loop0_L p).otl r) ((impl_pull_loop0_L p).ohl r) ((impl_pull_loop0_L p).ogl r) := by
  intro p r e S' h
  unfold impl_pull_loop0_post at h
  simp only [DT.get, Option.some.injEq, Prod.mk.injEq] at h; exact ⟨h.1.symm, h.2.symm⟩

def impl_pull_loops : Nat → Option LoopF := loopTab [(3, impl_pull_loop0_F)]
set_option maxRecDepth 100000 in
theorem impl_pull_l0 : LoopOK Try.prog ⟨gam [(50, impl_LessVectors_c), (138, impl_softened_c), (38, impl_RootNumber_c), (48, impl_ScaleVector_c), (92, impl_AddVectors_c)], tab, 49, impl_pull_loops⟩ (lp Try.f136 0) :=
  loopOK_some (F := impl_pull_loop0_F) (by kernel_rfl) (loopF_ok (E := ⟨gam [(50, impl_LessVectors_c), (138, impl_softened_c), (38, impl_RootNumber_c), (48, impl_ScaleVector_c), (92, impl_AddVectors_c)], tab, 49, impl_pull_loops⟩) ⟨gam_cons impl_LessVectors_ok (gam_cons impl_softened_ok (gam_cons impl_RootNumber_ok (gam_cons impl_ScaleVector_ok (gam_cons impl_AddVectors_ok (gam_nil))))), tab_ok, by kernel_rfl⟩ (fuel := 100000) (loopsOK_list (l := []) (by kernel_rfl) trivial) (L := impl_pull_loop0_L) (fun p s => by unfold AgreeL; exact ⟨by kernel_rfl, by kernel_rfl⟩) (fun _ _ h => Ex.noConfusion h) impl_pull_loop0_hext impl_pull_loop0_hpost)
/-- loop.example/g01284/impl.pull -/
def impl_pull_tree (a0 : List Body) (a1 : Int) (a2 : Vec) (a3 : Nat) : DT (Vec) :=
  let x0 := ((List.length a0 : Nat) : Int);
  .need ((impl_pull_loop0_ends (a1, a3, a0, x0, a2.X, a2.Y, a2.Z, 0, 0, 0) (0, 0, 0, 0))) (
  let x1 := impl_pull_loop0 (a1, a3, a0, x0, a2.X, a2.Y, a2.Z, 0, 0, 0) (0, 0, 0, 0);
  .leaf ((⟨x1.1, x1.2.1, x1.2.2⟩ : Vec)))
def impl_pull (a0 : List Body) (a1 : Int) (a2 : Vec) (a3 : Nat) : Vec := (impl_pull_tree a0 a1 a2 a3).val
def impl_pull_need (a0 : List Body) (a1 : Int) (a2 : Vec) (a3 : Nat) : Bool := (impl_pull_tree a0 a1 a2 a3).ok
def impl_pull_mk (p : Vec) : Ret := ⟨.agg [.flt .f32 p.X, .flt .f32 p.Y, .flt .f32 p.Z], []⟩
def impl_pull_c0 : Con := fun args => match args with
  | [.vslc 1 .body a0, .int .i64 a1, .agg [.flt .f32 a2_0, .flt .f32 a2_1, .flt .f32 a2_2], .flt .f32 a3] => some (.need (impl_pull_need a0 a1 (⟨a2_0, a2_1, a2_2⟩ : Vec) a3) (.leaf (impl_pull_mk (impl_pull a0 a1 (⟨a2_0, a2_1, a2_2⟩ : Vec) a3))))
  | _ => none
set_option maxRecDepth 100000 in
theorem impl_pull_ok0 : FunOK Try.prog 136 impl_pull_c0.fn := by
  refine con_ok (Γ := gam [(50, impl_LessVectors_c), (138, impl_softened_c), (38, impl_RootNumber_c), (48, impl_ScaleVector_c), (92, impl_AddVectors_c)]) (gam_cons impl_LessVectors_ok (gam_cons impl_softened_ok (gam_cons impl_RootNumber_ok (gam_cons impl_ScaleVector_ok (gam_cons impl_AddVectors_ok (gam_nil)))))) tab_ok (by kernel_rfl) Try.func136 (by kernel_rfl) (by kernel_rfl) Try.ntmps136 Try.results136 (loops := impl_pull_loops) (loopsOK_list (l := [lp Try.f136 0]) (by kernel_rfl) ⟨impl_pull_l0, trivial⟩) 100000 fun args t h => ?_
  unfold impl_pull_c0 at h
  split at h
  · rename_i a0 a1 a2_0 a2_1 a2_2 a3
    cases h
    exact ⟨rfl, agree_need (mk := impl_pull_mk) (t := impl_pull_tree a0 a1 (⟨a2_0, a2_1, a2_2⟩ : Vec) a3) (by unfold Agree; kernel_rfl)⟩
  · cases h
def impl_pull_c : Con := fun args => impl_pull_c0 (norms 0 [.slc .body, .none, .none, .none] args)
set_option maxRecDepth 100000 in
theorem impl_pull_ok : FunOK Try.prog 136 impl_pull_c.fn := con_norm [.slc .body, .none, .none, .none] impl_pull_ok0

/-- a loop of impl_pulls -/
def impl_pulls_loop0_step (p : List Body × Nat × List Body × Int) (s : Int × List Vec) : Round (Int × List Vec) ((Unit) ⊕ (List Vec)) :=
  let x0 := decide (s.1 < p.2.2.2);
  .ask x0
  (
   .need ((decide (0 ≤ s.1) && decide (s.1 < ((List.length p.2.2.1 : Nat) : Int)))) (
   let x1 := List.getD p.2.2.1 (Int.toNat s.1) default;
   .need ((impl_pull_need p.1 s.1 (⟨x1.At.X, x1.At.Y, x1.At.Z⟩ : Vec) p.2.1)) (
   let x2 := impl_pull p.1 s.1 (⟨x1.At.X, x1.At.Y, x1.At.Z⟩ : Vec) p.2.1;
   .need ((impl_isFiniteVector_need (⟨x2.X, x2.Y, x2.Z⟩ : Vec))) (
   let x3 := impl_isFiniteVector (⟨x2.X, x2.Y, x2.Z⟩ : Vec);
   .ask (!x3)
   (
    .leaf (.inr (.inl ()), []))
   (
    .need ((decide ((List.length s.2 + List.length [(⟨x2.X, x2.Y, x2.Z⟩ : Vec)]) * 12 ≤ 140737488355328) && decide (List.length s.2 + List.length [(⟨x2.X, x2.Y, x2.Z⟩ : Vec)] ≤ 9223372036854775807))) (
    let x4 := s.2 ++ [(⟨x2.X, x2.Y, x2.Z⟩ : Vec)];
    let x5 := IntKind.wrap .i64 (s.1 + 1);
    .leaf (.inl (x5, x4), [169])))))))
  (
   .leaf (.inr (.inr s.2), [0]))
def impl_pulls_loop0_L (p : List Body × Nat × List Body × Int) : LoopS (Int × List Vec) ((Unit) ⊕ (List Vec)) := { tl := fun s => [.vslc 1 .body p.1, .flt .f32 p.2.1, .junk, .junk, .junk, .junk, .own 0, .junk, .junk, .junk, .junk, .vslc 1 .body p.2.2.1, .int .i64 p.2.2.2, .int .i64 s.1], hl := fun s => [some (.typed 31 .vec s.2)], ex := fun r => match r with | .inl r => .ret | .inr r => .exit 0, otl := fun r => match r with | .inl r => [.junk, .junk, .junk, .junk, .nils, .bool false] | .inr r => [.junk, .junk, .junk, .junk, .junk, .junk, .own 0], ohl := fun r => match r with | .inl r => [] | .inr r => [some (.typed 31 .vec r)] }
def impl_pulls_loop0_ext : St → Option ((List Body × Nat × List Body × Int) × (Int × List Vec) × List Nat) := fun S => match (S.tm 0).unK, (S.tm 1).unK, (S.tm 6).unK, (S.tm 11).unK, (S.tm 12).unK, (S.tm 13).unK with
  | .vslc 1 .body q0, .flt .f32 q1, .own i0, .vslc 1 .body q2, .int .i64 q3, .int .i64 q4 => (match S.hp i0 with
    | some (.typed 31 .vec q5) => some ((q0, q1, q2, q3), (q4, q5), [i0])
    | _ => none)
  | _, _, _, _, _, _ => none
def impl_pulls_loop0_post (p : List Body × Nat × List Body × Int) (r : (Unit) ⊕ (List Vec)) : DT (Ex × St) := .ask (isL r) (.leaf (.ret, LSt [.junk, .junk, .junk, .junk, .nils, .bool false] [])) (.leaf (.exit 0, LSt [.junk, .junk, .junk, .junk, .junk, .junk, .own 0] [some (.typed 31 .vec ((rightD r)))]))
def impl_pulls_loop0 (p : List Body × Nat × List Body × Int) (s : Int × List Vec) : (Unit) ⊕ (List Vec) := loopVal (impl_pulls_loop0_step p) s
def impl_pulls_loop0_ends (p : List Body × Nat × List Body × Int) (s : Int × List Vec) : Bool := loopEnds (impl_pulls_loop0_step p) s
def impl_pulls_loop0_F : LoopF := loopF impl_pulls_loop0_step impl_pulls_loop0_ext impl_pulls_loop0_post
set_option maxRecDepth 100000 in
theorem impl_pulls_loop0_hext : ∀ S p s fl, impl_pulls_loop0_ext S = some (p, s, fl) → Norm S fl ((impl_pulls_loop0_L p).tl s) ((impl_pulls_loop0_L p).hl s) (impl_pulls_loop0_L p).gl := by
  intro S p s fl h
  unfold impl_pulls_loop0_ext at h
  (repeat' split at h) <;> first
    | (cases h; constructor <;> simp_all [impl_pulls_loop0_L, keepT, keepH, rens, renH, PV.ren, Blk.ren, fOf, lget, nodup, natIn, lenEq, gtm, PV.unK])
    | cases h
set_option maxRecDepth 100000 in
theorem impl_pulls_loop0_hpost : ∀ p r e S', (impl_pulls_loop0_post p r).get = some (e, S') → e = (impl_pulls_loop0_L p).ex r ∧ S' = LSt ((impl_pulls_loop0_L p).otl r) ((impl_pulls_loop0_L p).ohl r) ((impl_pulls_loop0_L p).ogl r) := by
  intro p r e S' h
  unfold impl_pulls_loop0_post at h
  cases r <;> (simp only [isL, DT.get, Option.some.injEq, Prod.mk.injEq] at h; exact ⟨h.1.symm, h.2.symm⟩)

def impl_pulls_loops : Nat → Option LoopF := loopTab [(3, impl_pulls_loop0_F)]
set_option maxRecDepth 100000 in
theorem impl_pulls_l0 : LoopOK Try.prog ⟨gam [(136, impl_pull_c), (61, impl_isFiniteVector_c)], tab, 33, impl_pulls_loops⟩ (lp Try.f132 0) :=
  loopOK_some (F := impl_pulls_loop0_F) (by kernel_rfl) (loopF_ok (E := ⟨gam [(136, impl_pull_c), (61, impl_isFiniteVector_c)], tab, 33, impl_pulls_loops⟩) ⟨gam_cons impl_pull_ok (gam_cons impl_isFiniteVector_ok (gam_nil)), tab_ok, by kernel_rfl⟩ (fuel := 100000) (loopsOK_list (l := []) (by kernel_rfl) trivial) (L := impl_pulls_loop0_L) (fun p s => by unfold AgreeL; exact ⟨by kernel_rfl, by kernel_rfl⟩) (fun _ r h => by cases r <;> exact Ex.noConfusion h) impl_pulls_loop0_hext impl_pulls_loop0_hpost)
/-- loop.example/g01284/impl.pulls -/
def impl_pulls_tree (a0 : List Body) (a1 : Nat) : DT ((Unit) ⊕ (List Vec)) :=
  let x0 := ((List.length a0 : Nat) : Int);
  .need ((impl_pulls_loop0_ends (a0, a1, a0, x0) (0, []))) (
  let x1 := impl_pulls_loop0 (a0, a1, a0, x0) (0, []);
  .ask ((isL x1))
  (
   .leaf (.inl ()))
  (
   .leaf (.inr ((rightD x1)))))
def impl_pulls (a0 : List Body) (a1 : Nat) : (Unit) ⊕ (List Vec) := (impl_pulls_tree a0 a1).val
def impl_pulls_need (a0 : List Body) (a1 : Nat) : Bool := (impl_pulls_tree a0 a1).ok
def impl_pulls_mk0 (p : Unit) : Ret := ⟨.tup [.nils, .bool false], []⟩
def impl_pulls_mk1 (p : List Vec) : Ret := ⟨.tup [.own 0, .bool true], [.typed 31 .vec p]⟩
def impl_pulls_mk : (Unit) ⊕ (List Vec) → Ret := fun v => match v with
  | (.inl p) => impl_pulls_mk0 p
  | (.inr p) => impl_pulls_mk1 p
def impl_pulls_forms (v : (Unit) ⊕ (List Vec)) : DT Ret := .ask (isL v) (.leaf (impl_pulls_mk0 (leftD v))) (.leaf (impl_pulls_mk1 (rightD v)))
theorem impl_pulls_forms_get : ∀ v, (impl_pulls_forms v).get = some (impl_pulls_mk v) := by
  intro v
  rcases v with v | v <;> rfl
def impl_pulls_c0 : Con := fun args => match args with
  | [.vslc 1 .body a0, .flt .f32 a1] => some (.need (impl_pulls_need a0 a1) (impl_pulls_forms (impl_pulls a0 a1)))
  | _ => none
set_option maxRecDepth 100000 in
theorem impl_pulls_ok0 : FunOK Try.prog 132 impl_pulls_c0.fn := by
  refine con_ok (Γ := gam [(136, impl_pull_c), (61, impl_isFiniteVector_c)]) (gam_cons impl_pull_ok (gam_cons impl_isFiniteVector_ok (gam_nil))) tab_ok (by kernel_rfl) Try.func132 (by kernel_rfl) (by kernel_rfl) Try.ntmps132 Try.results132 (loops := impl_pulls_loops) (loopsOK_list (l := [lp Try.f132 0]) (by kernel_rfl) ⟨impl_pulls_l0, trivial⟩) 100000 fun args t h => ?_
  unfold impl_pulls_c0 at h
  split at h
  · rename_i a0 a1
    cases h
    exact ⟨rfl, agree_forms (mk := impl_pulls_mk) (t := impl_pulls_tree a0 a1) (by unfold Agree; kernel_rfl) (fun h => h) (impl_pulls_forms_get _)⟩
  · cases h
def impl_pulls_c : Con := fun args => impl_pulls_c0 (norms 0 [.slc .body, .none] args)
set_option maxRecDepth 100000 in
theorem impl_pulls_ok : FunOK Try.prog 132 impl_pulls_c.fn := con_norm [.slc .body, .none] impl_pulls_ok0

/-- loop.example/g01284/impl.PullsOf -/
def impl_PullsOf_tree (a0 : List Body) (a1 : Nat) : DT ((Unit) ⊕ (List Vec)) :=
  .need ((impl_AreBodies_need a0)) (
  let x0 := impl_AreBodies a0;
  .ask (!x0)
  (
   .leaf (.inl ()))
  (
   .need ((impl_isCore_need a1)) (
   let x1 := impl_isCore a1;
   .ask (!x1)
   (
    .leaf (.inl ()))
   (
    .need ((impl_pulls_need a0 a1)) (
    let x2 := impl_pulls a0 a1;
    .ask ((isL x2))
    (
     .leaf (.inl ()))
    (
     .leaf (.inr ((rightD x2)))))))))
def impl_PullsOf (a0 : List Body) (a1 : Nat) : (Unit) ⊕ (List Vec) := (impl_PullsOf_tree a0 a1).val
def impl_PullsOf_need (a0 : List Body) (a1 : Nat) : Bool := (impl_PullsOf_tree a0 a1).ok
def impl_PullsOf_mk0 (p : Unit) : Ret := ⟨.tup [.nils, .bool false], []⟩
def impl_PullsOf_mk1 (p : List Vec) : Ret := ⟨.tup [.own 0, .bool true], [.typed 31 .vec p]⟩
def impl_PullsOf_mk : (Unit) ⊕ (List Vec) → Ret := fun v => match v with
  | (.inl p) => impl_PullsOf_mk0 p
  | (.inr p) => impl_PullsOf_mk1 p
def impl_PullsOf_forms (v : (Unit) ⊕ (List Vec)) : DT Ret := .ask (isL v) (.leaf (impl_PullsOf_mk0 (leftD v))) (.leaf (impl_PullsOf_mk1 (rightD v)))
theorem impl_PullsOf_forms_get : ∀ v, (impl_PullsOf_forms v).get = some (impl_PullsOf_mk v) := by
  intro v
  rcases v with v | v <;> rfl
def impl_PullsOf_c0 : Con := fun args => match args with
  | [.vslc 1 .body a0, .flt .f32 a1] => some (.need (impl_PullsOf_need a0 a1) (impl_PullsOf_forms (impl_PullsOf a0 a1)))
  | _ => none
set_option maxRecDepth 100000 in
theorem impl_PullsOf_ok0 : FunOK Try.prog 123 impl_PullsOf_c0.fn := by
  refine con_ok (Γ := gam [(40, impl_AreBodies_c), (41, impl_isCore_c), (132, impl_pulls_c)]) (gam_cons impl_AreBodies_ok (gam_cons impl_isCore_ok (gam_cons impl_pulls_ok (gam_nil)))) tab_ok (by kernel_rfl) Try.func123 (by kernel_rfl) (by kernel_rfl) Try.ntmps123 Try.results123 (loopsOK_none rfl _) 100000 fun args t h => ?_
  unfold impl_PullsOf_c0 at h
  split at h
  · rename_i a0 a1
    cases h
    exact ⟨rfl, agree_forms (mk := impl_PullsOf_mk) (t := impl_PullsOf_tree a0 a1) (by unfold Agree; kernel_rfl) (fun h => h) (impl_PullsOf_forms_get _)⟩
  · cases h
def impl_PullsOf_c : Con := fun args => impl_PullsOf_c0 (norms 0 [.slc .body, .none] args)
set_option maxRecDepth 100000 in
theorem impl_PullsOf_ok : FunOK Try.prog 123 impl_PullsOf_c.fn := con_norm [.slc .body, .none] impl_PullsOf_ok0

/-- a loop of impl_pushed -/
def impl_pushed_loop0_step (p : Nat × List Body × Int × List Vec) (s : Int × List Body) : Round (Int × List Body) (List Body) :=
  let x0 := decide (s.1 < p.2.2.1);
  .ask x0
  (
   .need ((decide (0 ≤ s.1) && decide (s.1 < ((List.length p.2.1 : Nat) : Int)))) (
   let x1 := List.getD p.2.1 (Int.toNat s.1) default;
   .skip (
   .need ((decide (0 ≤ s.1) && decide (s.1 < ((List.length p.2.2.2 : Nat) : Int)))) (
   .need ((decide ((Int.toNat s.1) < List.length p.2.2.2))) (
   let x2 := List.getD p.2.2.2 (Int.toNat s.1) default;
   let x3 := impl_ScaleVector (⟨x2.X, x2.Y, x2.Z⟩ : Vec) p.1;
   let x4 := impl_AddVectors (⟨x1.Speed.X, x1.Speed.Y, x1.Speed.Z⟩ : Vec) (⟨x3.X, x3.Y, x3.Z⟩ : Vec);
   .need ((decide ((List.length s.2 + List.length [(⟨⟨x1.At.X, x1.At.Y, x1.At.Z⟩, ⟨x4.X, x4.Y, x4.Z⟩, x1.Mass⟩ : Body)]) * 28 ≤ 140737488355328) && decide (List.length s.2 + List.length [(⟨⟨x1.At.X, x1.At.Y, x1.At.Z⟩, ⟨x4.X, x4.Y, x4.Z⟩, x1.Mass⟩ : Body)] ≤ 9223372036854775807))) (
   let x5 := s.2 ++ [(⟨⟨x1.At.X, x1.At.Y, x1.At.Z⟩, ⟨x4.X, x4.Y, x4.Z⟩, x1.Mass⟩ : Body)];
   let x6 := IntKind.wrap .i64 (s.1 + 1);
   .leaf (.inl (x6, x5), [0, 186])))))))
  (
   .leaf (.inr s.2, [1]))
def impl_pushed_loop0_L (p : Nat × List Body × Int × List Vec) : LoopS (Int × List Body) (List Body) := { tl := fun s => [.junk, .junk, .flt .f32 p.1, .junk, .junk, .junk, .junk, .junk, .own 0, .bool true, .own 1, .junk, .junk, .junk, .junk, .junk, .junk, .junk, .junk, .junk, .vslc 1 .body p.2.1, .int .i64 p.2.2.1, .int .i64 s.1], hl := fun s => [some (.typed 31 .vec p.2.2.2), some (.typed 43 .body s.2)], ex := fun r => .exit 0, otl := fun r => [.junk, .junk, .junk, .junk, .junk, .junk, .junk, .junk, .junk, .bool true, .own 0], ohl := fun r => [some (.typed 43 .body r)] }
def impl_pushed_loop0_ext : St → Option ((Nat × List Body × Int × List Vec) × (Int × List Body) × List Nat) := fun S => match (S.tm 2).unK, (S.tm 8).unK, (S.tm 9).unK, (S.tm 10).unK, (S.tm 20).unK, (S.tm 21).unK, (S.tm 22).unK with
  | .flt .f32 q0, .own i0, .bool true, .own i1, .vslc 1 .body q2, .int .i64 q3, .int .i64 q4 => (match S.hp i0 with
    | some (.typed 31 .vec q5) => (match S.hp i1 with
    | some (.typed 43 .body q6) => (if nodup [i0, i1] = true then some ((q0, q2, q3, q5), (q4, q6), [i0, i1]) else none)
    | _ => none)
    | _ => none)
  | _, _, _, _, _, _, _ => none
def impl_pushed_loop0_post (p : Nat × List Body × Int × List Vec) (r : List Body) : DT (Ex × St) := .leaf (.exit 0, LSt [.junk, .junk, .junk, .junk, .junk, .junk, .junk, .junk, .junk, .bool true, .own 0] [some (.typed 43 .body r)])
def impl_pushed_loop0 (p : Nat × List Body × Int × List Vec) (s : Int × List Body) : List Body := loopVal (impl_pushed_loop0_step p) s
def impl_pushed_loop0_ends (p : Nat × List Body × Int × List Vec) (s : Int × List Body) : Bool := loopEnds (impl_pushed_loop0_step p) s
def impl_pushed_loop0_F : LoopF := loopF impl_pushed_loop0_step impl_pushed_loop0_ext impl_pushed_loop0_post
set_option maxRecDepth 100000 in
theorem impl_pushed_loop0_hext : ∀ S p s fl, impl_pushed_loop0_ext S = some (p, s, fl) → Norm S fl ((impl_pushed_loop0_L p).tl s) ((impl_pushed_loop0_L p).hl s) (impl_pushed_loop0_L p).gl := by
  intro S p s fl h
  unfold impl_pushed_loop0_ext at h
  (repeat' split at h) <;> first
    | (cases h; constructor <;> simp_all [impl_pushed_loop0_L, keepT, keepH, rens, renH, PV.ren, Blk.ren, fOf, lget, nodup, natIn, lenEq, gtm, PV.unK])
    | cases h
set_option maxRecDepth 100000 in
theorem impl_pushed_loop0_hpost : ∀ p r e S', (impl_pushed_loop0_post p r).get = some (e, S') → e = (impl_pushed_loop0_L p).ex r ∧ S' = LSt ((impl_pushed_loop0_L p).otl r) ((impl_pushed_loop0_L p).ohl r) ((impl_pushed_loop0_L p).ogl r) := by
  intro p r e S' h
  unfold impl_pushed_loop0_post at h
  simp only [DT.get, Option.some.injEq, Prod.mk.injEq] at h; exact ⟨h.1.symm, h.2.symm⟩

def impl_pushed_loops : Nat → Option LoopF := loopTab [(4, impl_pushed_loop0_F)]
set_option maxRecDepth 100000 in
theorem impl_pushed_l0 : LoopOK Try.prog ⟨gam [(123, impl_PullsOf_c), (48, impl_ScaleVector_c), (92, impl_AddVectors_c)], tab, 46, impl_pushed_loops⟩ (lp Try.f91 0) :=
  loopOK_some (F := impl_pushed_loop0_F) (by kernel_rfl) (loopF_ok (E := ⟨gam [(123, impl_PullsOf_c), (48, impl_ScaleVector_c), (92, impl_AddVectors_c)], tab, 46, impl_pushed_loops⟩) ⟨gam_cons impl_PullsOf_ok (gam_cons impl_ScaleVector_ok (gam_cons impl_AddVectors_ok (gam_nil))), tab_ok, by kernel_rfl⟩ (fuel := 100000) (loopsOK_list (l := []) (by kernel_rfl) trivial) (L := impl_pushed_loop0_L) (fun p s => by unfold AgreeL; exact ⟨by kernel_rfl, by kernel_rfl⟩) (fun _ _ h => Ex.noConfusion h) impl_pushed_loop0_hext impl_pushed_loop0_hpost)
/-- loop.example/g01284/impl.pushed -/
def impl_pushed_tree (a0 : List Body) (a1 : Nat) (a2 : Nat) : DT ((Unit) ⊕ (List Body × Bool)) :=
  .need ((impl_PullsOf_need a0 a1)) (
  let x0 := impl_PullsOf a0 a1;
  .ask ((isL x0))
  (
   let x1 := ((List.length a0 : Nat) : Int);
   let x2 := decide (0 < x1);
   .ask x2
   (
    .need ((decide (0 ≤ 0) && decide (0 < ((List.length a0 : Nat) : Int)))) (
    let x3 := List.getD a0 0 default;
    .skip (
    .leaf (.inl ()))))
   (
    .leaf (.inr ([], false))))
  (
   let x1 := ((List.length a0 : Nat) : Int);
   .need ((impl_pushed_loop0_ends (a2, a0, x1, (rightD x0)) (0, []))) (
   let x2 := impl_pushed_loop0 (a2, a0, x1, (rightD x0)) (0, []);
   .leaf (.inr (x2, true)))))
def impl_pushed (a0 : List Body) (a1 : Nat) (a2 : Nat) : (Unit) ⊕ (List Body × Bool) := (impl_pushed_tree a0 a1 a2).val
def impl_pushed_need (a0 : List Body) (a1 : Nat) (a2 : Nat) : Bool := (impl_pushed_tree a0 a1 a2).ok
def impl_pushed_mk0 (p : Unit) : Ret := ⟨.tup [.nils, .bool false], []⟩
def impl_pushed_mk1 (p : List Body × Bool) : Ret := ⟨.tup [.own 0, .bool p.2], [.typed 43 .body p.1]⟩
def impl_pushed_mk : (Unit) ⊕ (List Body × Bool) → Ret := fun v => match v with
  | (.inl p) => impl_pushed_mk0 p
  | (.inr p) => impl_pushed_mk1 p
def impl_pushed_forms (v : (Unit) ⊕ (List Body × Bool)) : DT Ret := .ask (isL v) (.leaf (impl_pushed_mk0 (leftD v))) (.leaf (impl_pushed_mk1 (rightD v)))
theorem impl_pushed_forms_get : ∀ v, (impl_pushed_forms v).get = some (impl_pushed_mk v) := by
  intro v
  rcases v with v | v <;> rfl
def impl_pushed_c0 : Con := fun args => match args with
  | [.vslc 1 .body a0, .flt .f32 a1, .flt .f32 a2] => some (.need (impl_pushed_need a0 a1 a2) (impl_pushed_forms (impl_pushed a0 a1 a2)))
  | _ => none
set_option maxRecDepth 100000 in
theorem impl_pushed_ok0 : FunOK Try.prog 91 impl_pushed_c0.fn := by
  refine con_ok (Γ := gam [(123, impl_PullsOf_c), (48, impl_ScaleVector_c), (92, impl_AddVectors_c)]) (gam_cons impl_PullsOf_ok (gam_cons impl_ScaleVector_ok (gam_cons impl_AddVectors_ok (gam_nil)))) tab_ok (by kernel_rfl) Try.func91 (by kernel_rfl) (by kernel_rfl) Try.ntmps91 Try.results91 (loops := impl_pushed_loops) (loopsOK_list (l := [lp Try.f91 0]) (by kernel_rfl) ⟨impl_pushed_l0, trivial⟩) 100000 fun args t h => ?_
  unfold impl_pushed_c0 at h
  split at h
  · rename_i a0 a1 a2
    cases h
    exact ⟨rfl, agree_forms (mk := impl_pushed_mk) (t := impl_pushed_tree a0 a1 a2) (by unfold Agree; kernel_rfl) (fun h => h) (impl_pushed_forms_get _)⟩
  · cases h
def impl_pushed_c : Con := fun args => impl_pushed_c0 (norms 0 [.slc .body, .none, .none] args)
set_option maxRecDepth 100000 in
theorem impl_pushed_ok : FunOK Try.prog 91 impl_pushed_c.fn := con_norm [.slc .body, .none, .none] impl_pushed_ok0

/-- a loop of impl_StepBodies -/
def impl_StepBodies_loop0_step (p : Nat × Nat × Nat × Int) (s : Int × List Body) : Round (Int × List Body) (List Body) :=
  let x0 := decide (s.1 < p.2.2.2);
  .ask x0
  (
   .need ((decide (0 ≤ s.1) && decide (s.1 < ((List.length s.2 : Nat) : Int)))) (
   .need ((decide ((Int.toNat s.1) < List.length s.2))) (
   let x1 := List.getD s.2 (Int.toNat s.1) default;
   .need ((decide (0 ≤ s.1) && decide (s.1 < ((List.length s.2 : Nat) : Int)))) (
   .need ((decide ((Int.toNat s.1) < List.length s.2))) (
   let x2 := List.getD s.2 (Int.toNat s.1) default;
   let x3 := impl_ScaleVector (⟨x2.Speed.X, x2.Speed.Y, x2.Speed.Z⟩ : Vec) p.2.1;
   let x4 := impl_AddVectors (⟨x1.At.X, x1.At.Y, x1.At.Z⟩ : Vec) (⟨x3.X, x3.Y, x3.Z⟩ : Vec);
   .need ((decide (0 ≤ s.1) && decide (s.1 < ((List.length s.2 : Nat) : Int)))) (
   .need ((decide ((Int.toNat s.1) < List.length s.2))) (
   let x5 := List.set s.2 (Int.toNat s.1) (⟨⟨x4.X, x4.Y, x4.Z⟩, ⟨(List.getD s.2 (Int.toNat s.1) default).Speed.X, (List.getD s.2 (Int.toNat s.1) default).Speed.Y, (List.getD s.2 (Int.toNat s.1) default).Speed.Z⟩, (List.getD s.2 (Int.toNat s.1) default).Mass⟩ : Body);
   let x6 := IntKind.wrap .i64 (s.1 + 1);
   .leaf (.inl (x6, x5), [0]))))))))
  (
   .leaf (.inr s.2, [0]))
def impl_StepBodies_loop0_L (p : Nat × Nat × Nat × Int) : LoopS (Int × List Body) (List Body) := { tl := fun s => [.junk, .flt .f32 p.1, .flt .f32 p.2.1, .junk, .junk, .junk, .junk, .junk, .flt .f32 p.2.2.1, .own 0, .junk, .junk, .junk, .junk, .junk, .junk, .junk, .junk, .junk, .junk, .junk, .junk, .junk, .junk, .junk, .junk, .junk, .int .i64 p.2.2.2, .int .i64 s.1], hl := fun s => [some (.typed 43 .body s.2)], ex := fun r => .exit 0, otl := fun r => [.junk, .flt .f32 p.1, .junk, .junk, .junk, .junk, .junk, .junk, .flt .f32 p.2.2.1, .own 0], ohl := fun r => [some (.typed 43 .body r)] }
def impl_StepBodies_loop0_ext : St → Option ((Nat × Nat × Nat × Int) × (Int × List Body) × List Nat) := fun S => match (S.tm 1).unK, (S.tm 2).unK, (S.tm 8).unK, (S.tm 9).unK, (S.tm 27).unK, (S.tm 28).unK with
  | .flt .f32 q0, .flt .f32 q1, .flt .f32 q2, .own i0, .int .i64 q3, .int .i64 q4 => (match S.hp i0 with
    | some (.typed 43 .body q5) => some ((q0, q1, q2, q3), (q4, q5), [i0])
    | _ => none)
  | _, _, _, _, _, _ => none
def impl_StepBodies_loop0_post (p : Nat × Nat × Nat × Int) (r : List Body) : DT (Ex × St) := .leaf (.exit 0, LSt [.junk, .flt .f32 p.1, .junk, .junk, .junk, .junk, .junk, .junk, .flt .f32 p.2.2.1, .own 0] [some (.typed 43 .body r)])
def impl_StepBodies_loop0 (p : Nat × Nat × Nat × Int) (s : Int × List Body) : List Body := loopVal (impl_StepBodies_loop0_step p) s
def impl_StepBodies_loop0_ends (p : Nat × Nat × Nat × Int) (s : Int × List Body) : Bool := loopEnds (impl_StepBodies_loop0_step p) s
def impl_StepBodies_loop0_F : LoopF := loopF impl_StepBodies_loop0_step impl_StepBodies_loop0_ext impl_StepBodies_loop0_post
set_option maxRecDepth 100000 in
theorem impl_StepBodies_loop0_hext : ∀ S p s fl, impl_StepBodies_loop0_ext S = some (p, s, fl) → Norm S fl ((impl_StepBodies_loop0_L p).tl s) ((impl_StepBodies_loop0_L p).hl s) (impl_StepBodies_loop0_L p).gl := by
  intro S p s fl h
  unfold impl_StepBodies_loop0_ext at h
  (repeat' split at h) <;> first
    | (cases h; constructor <;> simp_all [impl_StepBodies_loop0_L, keepT, keepH, rens, renH, PV.ren, Blk.ren, fOf, lget, nodup, natIn, lenEq, gtm, PV.unK])
    | cases h
set_option maxRecDepth 100000 in
theorem impl_StepBodies_loop0_hpost : ∀ p r e S', (impl_StepBodies_loop0_post p r).get = some (e, S') → e = (impl_StepBodies_loop0_L p).ex r ∧ S' = LSt ((impl_StepBodies_loop0_L p).otl r) ((impl_StepBodies_loop0_L p).ohl r) ((impl_StepBodies_loop0_L p).ogl r) := by
  intro p r e S' h
  unfold impl_StepBodies_loop0_post at h
  simp only [DT.get, Option.some.injEq, Prod.mk.injEq] at h; exact ⟨h.1.symm, h.2.symm⟩

def impl_StepBodies_loops : Nat → Option LoopF := loopTab [(8, impl_StepBodies_loop0_F)]
set_option maxRecDepth 100000 in
theorem impl_StepBodies_l0 : LoopOK Try.prog ⟨gam [(42, impl_IsFinite_c), (91, impl_pushed_c), (48, impl_ScaleVector_c), (92, impl_AddVectors_c), (39, impl_asBodies_c)], tab, 62, impl_StepBodies_loops⟩ (lp Try.f44 0) :=
  loopOK_some (F := impl_StepBodies_loop0_F) (by kernel_rfl) (loopF_ok (E := ⟨gam [(42, impl_IsFinite_c), (91, impl_pushed_c), (48, impl_ScaleVector_c), (92, impl_AddVectors_c), (39, impl_asBodies_c)], tab, 62, impl_StepBodies_loops⟩) ⟨gam_cons impl_IsFinite_ok (gam_cons impl_pushed_ok (gam_cons impl_ScaleVector_ok (gam_cons impl_AddVectors_ok (gam_cons impl_asBodies_ok (gam_nil))))), tab_ok, by kernel_rfl⟩ (fuel := 100000) (loopsOK_list (l := []) (by kernel_rfl) trivial) (L := impl_StepBodies_loop0_L) (fun p s => by unfold AgreeL; exact ⟨by kernel_rfl, by kernel_rfl⟩) (fun _ _ h => Ex.noConfusion h) impl_StepBodies_loop0_hext impl_StepBodies_loop0_hpost)
/-- loop.example/g01284/impl.StepBodies -/
def impl_StepBodies_tree (a0 : List Body) (a1 : Nat) (a2 : Nat) : DT ((Unit) ⊕ (List Body)) :=
  .need ((impl_IsFinite_need a2)) (
  let x0 := impl_IsFinite a2;
  .ask (!x0)
  (
   .leaf (.inl ()))
  (
   let x1 := fdiv .f32 a2 1073741824;
   .need ((impl_pushed_need a0 a1 x1)) (
   let x2 := impl_pushed a0 a1 x1;
   .ask ((isL x2))
   (
    .skip (
    .leaf (.inl ())))
   (
    let x3 := (!(rightD x2).2);
    .ask x3
    (
     .leaf (.inl ()))
    (
     let x4 := ((List.length (rightD x2).1 : Nat) : Int);
     .need ((impl_StepBodies_loop0_ends (a1, a2, x1, x4) (0, (rightD x2).1))) (
     let x5 := impl_StepBodies_loop0 (a1, a2, x1, x4) (0, (rightD x2).1);
     .need ((impl_pushed_need x5 a1 x1)) (
     let x6 := impl_pushed x5 a1 x1;
     .ask ((isL x6))
     (
      .skip (
      .leaf (.inl ())))
     (
      let x7 := (!(rightD x6).2);
      .ask x7
      (
       .leaf (.inl ()))
      (
       .need ((impl_asBodies_need ((rightD x6).1))) (
       let x8 := impl_asBodies ((rightD x6).1);
       .ask ((isL x8))
       (
        .leaf (.inl ()))
       (
        .leaf (.inr ((rightD x6).1)))))))))))))
def impl_StepBodies (a0 : List Body) (a1 : Nat) (a2 : Nat) : (Unit) ⊕ (List Body) := (impl_StepBodies_tree a0 a1 a2).val
def impl_StepBodies_need (a0 : List Body) (a1 : Nat) (a2 : Nat) : Bool := (impl_StepBodies_tree a0 a1 a2).ok
def impl_StepBodies_mk0 (p : Unit) : Ret := ⟨.tup [.nils, .bool false], []⟩
def impl_StepBodies_mk1 (p : List Body) : Ret := ⟨.tup [.own 0, .bool true], [.typed 43 .body p]⟩
def impl_StepBodies_mk : (Unit) ⊕ (List Body) → Ret := fun v => match v with
  | (.inl p) => impl_StepBodies_mk0 p
  | (.inr p) => impl_StepBodies_mk1 p
def impl_StepBodies_forms (v : (Unit) ⊕ (List Body)) : DT Ret := .ask (isL v) (.leaf (impl_StepBodies_mk0 (leftD v))) (.leaf (impl_StepBodies_mk1 (rightD v)))
theorem impl_StepBodies_forms_get : ∀ v, (impl_StepBodies_forms v).get = some (impl_StepBodies_mk v) := by
  intro v
  rcases v with v | v <;> rfl
def impl_StepBodies_c0 : Con := fun args => match args with
  | [.vslc 1 .body a0, .flt .f32 a1, .flt .f32 a2] => some (.need (impl_StepBodies_need a0 a1 a2) (impl_StepBodies_forms (impl_StepBodies a0 a1 a2)))
  | _ => none
set_option maxRecDepth 100000 in
theorem impl_StepBodies_ok0 : FunOK Try.prog 44 impl_StepBodies_c0.fn := by
  refine con_ok (Γ := gam [(42, impl_IsFinite_c), (91, impl_pushed_c), (48, impl_ScaleVector_c), (92, impl_AddVectors_c), (39, impl_asBodies_c)]) (gam_cons impl_IsFinite_ok (gam_cons impl_pushed_ok (gam_cons impl_ScaleVector_ok (gam_cons impl_AddVectors_ok (gam_cons impl_asBodies_ok (gam_nil)))))) tab_ok (by kernel_rfl) Try.func44 (by kernel_rfl) (by kernel_rfl) Try.ntmps44 Try.results44 (loops := impl_StepBodies_loops) (loopsOK_list (l := [lp Try.f44 0]) (by kernel_rfl) ⟨impl_StepBodies_l0, trivial⟩) 100000 fun args t h => ?_
  unfold impl_StepBodies_c0 at h
  split at h
  · rename_i a0 a1 a2
    cases h
    exact ⟨rfl, agree_forms (mk := impl_StepBodies_mk) (t := impl_StepBodies_tree a0 a1 a2) (by unfold Agree; kernel_rfl) (fun h => h) (impl_StepBodies_forms_get _)⟩
  · cases h
def impl_StepBodies_c : Con := fun args => impl_StepBodies_c0 (norms 0 [.slc .body, .none, .none] args)
set_option maxRecDepth 100000 in
theorem impl_StepBodies_ok : FunOK Try.prog 44 impl_StepBodies_c.fn := con_norm [.slc .body, .none, .none] impl_StepBodies_ok0

/-- a loop of impl_RunBodies -/
def impl_RunBodies_loop0_step (p : Nat × Nat × Int) (s : Int × List Body) : Round (Int × List Body) ((Unit) ⊕ (List Body)) :=
  let x0 := decide (s.1 < p.2.2);
  .ask x0
  (
   .need ((impl_StepBodies_need s.2 p.1 p.2.1)) (
   let x1 := impl_StepBodies s.2 p.1 p.2.1;
   .ask ((isL x1))
   (
    .skip (
    .leaf (.inr (.inl ()), [])))
   (
    .skip (
    let x2 := IntKind.wrap .i64 (s.1 + 1);
    .leaf (.inl (x2, (rightD x1)), [33])))))
  (
   .leaf (.inr (.inr s.2), [0]))
def impl_RunBodies_loop0_L (p : Nat × Nat × Int) : LoopS (Int × List Body) ((Unit) ⊕ (List Body)) := { tl := fun s => [.junk, .flt .f32 p.1, .flt .f32 p.2.1, .junk, .junk, .junk, .junk, .junk, .junk, .junk, .own 0, .junk, .junk, .junk, .junk, .junk, .junk, .junk, .junk, .junk, .junk, .junk, .junk, .junk, .junk, .junk, .junk, .junk, .junk, .junk, .junk, .junk, .junk, .junk, .int .i64 p.2.2, .int .i64 s.1], hl := fun s => [some (.typed 43 .body s.2)], ex := fun r => match r with | .inl r => .ret | .inr r => .exit 0, otl := fun r => match r with | .inl r => [.junk, .junk, .junk, .junk, .junk, .junk, .junk, .junk, .nils, .bool false] | .inr r => [.junk, .junk, .junk, .junk, .junk, .junk, .junk, .junk, .junk, .junk, .own 0], ohl := fun r => match r with | .inl r => [] | .inr r => [some (.typed 43 .body r)] }
def impl_RunBodies_loop0_ext : St → Option ((Nat × Nat × Int) × (Int × List Body) × List Nat) := fun S => match (S.tm 1).unK, (S.tm 2).unK, (S.tm 10).unK, (S.tm 34).unK, (S.tm 35).unK with
  | .flt .f32 q0, .flt .f32 q1, .own i0, .int .i64 q2, .int .i64 q3 => (match S.hp i0 with
    | some (.typed 43 .body q4) => some ((q0, q1, q2), (q3, q4), [i0])
    | _ => none)
  | _, _, _, _, _ => none
def impl_RunBodies_loop0_post (p : Nat × Nat × Int) (r : (Unit) ⊕ (List Body)) : DT (Ex × St) := .ask (isL r) (.leaf (.ret, LSt [.junk, .junk, .junk, .junk, .junk, .junk, .junk, .junk, .nils, .bool false] [])) (.leaf (.exit 0, LSt [.junk, .junk, .junk, .junk, .junk, .junk, .junk, .junk, .junk, .junk, .own 0] [some (.typed 43 .body ((rightD r)))]))
def impl_RunBodies_loop0 (p : Nat × Nat × Int) (s : Int × List Body) : (Unit) ⊕ (List Body) := loopVal (impl_RunBodies_loop0_step p) s
def impl_RunBodies_loop0_ends (p : Nat × Nat × Int) (s : Int × List Body) : Bool := loopEnds (impl_RunBodies_loop0_step p) s
def impl_RunBodies_loop0_F : LoopF := loopF impl_RunBodies_loop0_step impl_RunBodies_loop0_ext impl_RunBodies_loop0_post
set_option maxRecDepth 100000 in
theorem impl_RunBodies_loop0_hext : ∀ S p s fl, impl_RunBodies_loop0_ext S = some (p, s, fl) → Norm S fl ((impl_RunBodies_loop0_L p).tl s) ((impl_RunBodies_loop0_L p).hl s) (impl_RunBodies_loop0_L p).gl := by
  intro S p s fl h
  unfold impl_RunBodies_loop0_ext at h
  (repeat' split at h) <;> first
    | (cases h; constructor <;> simp_all [impl_RunBodies_loop0_L, keepT, keepH, rens, renH, PV.ren, Blk.ren, fOf, lget, nodup, natIn, lenEq, gtm, PV.unK])
    | cases h
set_option maxRecDepth 100000 in
theorem impl_RunBodies_loop0_hpost : ∀ p r e S', (impl_RunBodies_loop0_post p r).get = some (e, S') → e = (impl_RunBodies_loop0_L p).ex r ∧ S' = LSt ((impl_RunBodies_loop0_L p).otl r) ((impl_RunBodies_loop0_L p).ohl r) ((impl_RunBodies_loop0_L p).ogl r) := by
  intro p r e S' h
  unfold impl_RunBodies_loop0_post at h
  cases r <;> (simp only [isL, DT.get, Option.some.injEq, Prod.mk.injEq] at h; exact ⟨h.1.symm, h.2.symm⟩)

def impl_RunBodies_loops : Nat → Option LoopF := loopTab [(5, impl_RunBodies_loop0_F)]
set_option maxRecDepth 100000 in
theorem impl_RunBodies_l0 : LoopOK Try.prog ⟨gam [(40, impl_AreBodies_c), (41, impl_isCore_c), (42, impl_IsFinite_c), (43, impl_within_c), (44, impl_StepBodies_c)], tab, 49, impl_RunBodies_loops⟩ (lp Try.f8 0) :=
  loopOK_some (F := impl_RunBodies_loop0_F) (by kernel_rfl) (loopF_ok (E := ⟨gam [(40, impl_AreBodies_c), (41, impl_isCore_c), (42, impl_IsFinite_c), (43, impl_within_c), (44, impl_StepBodies_c)], tab, 49, impl_RunBodies_loops⟩) ⟨gam_cons impl_AreBodies_ok (gam_cons impl_isCore_ok (gam_cons impl_IsFinite_ok (gam_cons impl_within_ok (gam_cons impl_StepBodies_ok (gam_nil))))), tab_ok, by kernel_rfl⟩ (fuel := 100000) (loopsOK_list (l := []) (by kernel_rfl) trivial) (L := impl_RunBodies_loop0_L) (fun p s => by unfold AgreeL; exact ⟨by kernel_rfl, by kernel_rfl⟩) (fun _ r h => by cases r <;> exact Ex.noConfusion h) impl_RunBodies_loop0_hext impl_RunBodies_loop0_hpost)
/-- loop.example/g01284/impl.RunBodies -/
def impl_RunBodies_tree (a0 : List Body) (a1 : Nat) (a2 : Nat) (a3 : Int) : DT ((Unit) ⊕ (List Body)) :=
  .need ((impl_AreBodies_need a0)) (
  let x0 := impl_AreBodies a0;
  .ask (!x0)
  (
   .leaf (.inl ()))
  (
   .need ((impl_isCore_need a1)) (
   let x1 := impl_isCore a1;
   .ask (!x1)
   (
    .leaf (.inl ()))
   (
    .need ((impl_IsFinite_need a2)) (
    let x2 := impl_IsFinite a2;
    .ask (!x2)
    (
     .leaf (.inl ()))
    (
     let x3 := impl_within a3 0 64;
     .ask (!x3)
     (
      .leaf (.inl ()))
     (
      .need ((decide ((List.length ([] : List Body) + List.length a0) * 28 ≤ 140737488355328) && decide (List.length ([] : List Body) + List.length a0 ≤ 9223372036854775807))) (
      let x4 := ([] : List Body) ++ a0;
      .need ((impl_RunBodies_loop0_ends (a1, a2, a3) (0, x4))) (
      let x5 := impl_RunBodies_loop0 (a1, a2, a3) (0, x4);
      .ask ((isL x5))
      (
       .leaf (.inl ()))
      (
       .leaf (.inr ((rightD x5)))))))))))))
def impl_RunBodies (a0 : List Body) (a1 : Nat) (a2 : Nat) (a3 : Int) : (Unit) ⊕ (List Body) := (impl_RunBodies_tree a0 a1 a2 a3).val
def impl_RunBodies_need (a0 : List Body) (a1 : Nat) (a2 : Nat) (a3 : Int) : Bool := (impl_RunBodies_tree a0 a1 a2 a3).ok
def impl_RunBodies_mk0 (p : Unit) : Ret := ⟨.tup [.nils, .bool false], []⟩
def impl_RunBodies_mk1 (p : List Body) : Ret := ⟨.tup [.own 0, .bool true], [.typed 43 .body p]⟩
def impl_RunBodies_mk : (Unit) ⊕ (List Body) → Ret := fun v => match v with
  | (.inl p) => impl_RunBodies_mk0 p
  | (.inr p) => impl_RunBodies_mk1 p
def impl_RunBodies_forms (v : (Unit) ⊕ (List Body)) : DT Ret := .ask (isL v) (.leaf (impl_RunBodies_mk0 (leftD v))) (.leaf (impl_RunBodies_mk1 (rightD v)))
theorem impl_RunBodies_forms_get : ∀ v, (impl_RunBodies_forms v).get = some (impl_RunBodies_mk v) := by
  intro v
  rcases v with v | v <;> rfl
def impl_RunBodies_c0 : Con := fun args => match args with
  | [.vslc 1 .body a0, .flt .f32 a1, .flt .f32 a2, .int .i64 a3] => some (.need (impl_RunBodies_need a0 a1 a2 a3) (impl_RunBodies_forms (impl_RunBodies a0 a1 a2 a3)))
  | _ => none
set_option maxRecDepth 100000 in
theorem impl_RunBodies_ok0 : FunOK Try.prog 8 impl_RunBodies_c0.fn := by
  refine con_ok (Γ := gam [(40, impl_AreBodies_c), (41, impl_isCore_c), (42, impl_IsFinite_c), (43, impl_within_c), (44, impl_StepBodies_c)]) (gam_cons impl_AreBodies_ok (gam_cons impl_isCore_ok (gam_cons impl_IsFinite_ok (gam_cons impl_within_ok (gam_cons impl_StepBodies_ok (gam_nil)))))) tab_ok (by kernel_rfl) Try.func8 (by kernel_rfl) (by kernel_rfl) Try.ntmps8 Try.results8 (loops := impl_RunBodies_loops) (loopsOK_list (l := [lp Try.f8 0]) (by kernel_rfl) ⟨impl_RunBodies_l0, trivial⟩) 100000 fun args t h => ?_
  unfold impl_RunBodies_c0 at h
  split at h
  · rename_i a0 a1 a2 a3
    cases h
    exact ⟨rfl, agree_forms (mk := impl_RunBodies_mk) (t := impl_RunBodies_tree a0 a1 a2 a3) (by unfold Agree; kernel_rfl) (fun h => h) (impl_RunBodies_forms_get _)⟩
  · cases h
def impl_RunBodies_c : Con := fun args => impl_RunBodies_c0 (norms 0 [.slc .body, .none, .none, .none] args)
set_option maxRecDepth 100000 in
theorem impl_RunBodies_ok : FunOK Try.prog 8 impl_RunBodies_c.fn := con_norm [.slc .body, .none, .none, .none] impl_RunBodies_ok0

/-- loop.example/g01284/impl.MomentumOfBodies$1 -/
def impl_MomentumOfBodies_1_tree (a0 : Body) : DT (Vec) :=
  let x0 := impl_ScaleVector (⟨a0.Speed.X, a0.Speed.Y, a0.Speed.Z⟩ : Vec) a0.Mass;
  .leaf ((⟨x0.X, x0.Y, x0.Z⟩ : Vec))
def impl_MomentumOfBodies_1 (a0 : Body) : Vec := (impl_MomentumOfBodies_1_tree a0).val
def impl_MomentumOfBodies_1_mk (p : Vec) : Ret := ⟨.agg [.flt .f32 p.X, .flt .f32 p.Y, .flt .f32 p.Z], []⟩
def impl_MomentumOfBodies_1_c : Con := fun args => match args with
  | [.agg [.flt .f32 a0_0, .flt .f32 a0_1, .flt .f32 a0_2, .flt .f32 a0_3, .flt .f32 a0_4, .flt .f32 a0_5, .flt .f32 a0_6]] => some (.leaf (impl_MomentumOfBodies_1_mk (impl_MomentumOfBodies_1 (⟨⟨a0_0, a0_1, a0_2⟩, ⟨a0_3, a0_4, a0_5⟩, a0_6⟩ : Body))))
  | _ => none
set_option maxRecDepth 100000 in
theorem impl_MomentumOfBodies_1_ok : FunOK Try.prog 47 impl_MomentumOfBodies_1_c.fn := by
  refine con_ok (Γ := gam [(48, impl_ScaleVector_c)]) (gam_cons impl_ScaleVector_ok (gam_nil)) tab_ok (by kernel_rfl) Try.func47 (by kernel_rfl) (by kernel_rfl) Try.ntmps47 Try.results47 (loopsOK_none rfl _) 100000 fun args t h => ?_
  unfold impl_MomentumOfBodies_1_c at h
  split at h
  · rename_i a0_0 a0_1 a0_2 a0_3 a0_4 a0_5 a0_6
    cases h
    exact ⟨rfl, agree_tot (mk := impl_MomentumOfBodies_1_mk) (t := impl_MomentumOfBodies_1_tree (⟨⟨a0_0, a0_1, a0_2⟩, ⟨a0_3, a0_4, a0_5⟩, a0_6⟩ : Body)) (by unfold Agree; kernel_rfl) (by kernel_rfl)⟩
  · cases h

/-- loop.example/g01284/impl.toldVector -/
def impl_toldVector_tree (a0 : Vec) : DT (Vec × Bool) :=
  .need ((impl_isFiniteVector_need (⟨a0.X, a0.Y, a0.Z⟩ : Vec))) (
  let x0 := impl_isFiniteVector (⟨a0.X, a0.Y, a0.Z⟩ : Vec);
  .ask (!x0)
  (
   .leaf ((⟨0, 0, 0⟩ : Vec), false))
  (
   .leaf ((⟨a0.X, a0.Y, a0.Z⟩ : Vec), true)))
def impl_toldVector (a0 : Vec) : Vec × Bool := (impl_toldVector_tree a0).val
def impl_toldVector_need (a0 : Vec) : Bool := (impl_toldVector_tree a0).ok
def impl_toldVector_mk (p : Vec × Bool) : Ret := ⟨.tup [.agg [.flt .f32 p.1.X, .flt .f32 p.1.Y, .flt .f32 p.1.Z], .bool p.2], []⟩
def impl_toldVector_c : Con := fun args => match args with
  | [.agg [.flt .f32 a0_0, .flt .f32 a0_1, .flt .f32 a0_2]] => some (.need (impl_toldVector_need (⟨a0_0, a0_1, a0_2⟩ : Vec)) (.leaf (impl_toldVector_mk (impl_toldVector (⟨a0_0, a0_1, a0_2⟩ : Vec)))))
  | _ => none
set_option maxRecDepth 100000 in
theorem impl_toldVector_ok : FunOK Try.prog 45 impl_toldVector_c.fn := by
  refine con_ok (Γ := gam [(61, impl_isFiniteVector_c)]) (gam_cons impl_isFiniteVector_ok (gam_nil)) tab_ok (by kernel_rfl) Try.func45 (by kernel_rfl) (by kernel_rfl) Try.ntmps45 Try.results45 (loopsOK_none rfl _) 100000 fun args t h => ?_
  unfold impl_toldVector_c at h
  split at h
  · rename_i a0_0 a0_1 a0_2
    cases h
    exact ⟨rfl, agree_need (mk := impl_toldVector_mk) (t := impl_toldVector_tree (⟨a0_0, a0_1, a0_2⟩ : Vec)) (by unfold Agree; kernel_rfl)⟩
  · cases h

/-- a loop of impl_vectorsOf_impl_MomentumOfBodies_1 -/
def impl_vectorsOf_impl_MomentumOfBodies_1_loop0_step (p : List Body × Int × Nat × Nat × Nat) (s : Int × Nat × Nat × Nat) : Round (Int × Nat × Nat × Nat) (Nat × Nat × Nat) :=
  let x0 := decide (s.1 < p.2.1);
  .ask x0
  (
   .need ((decide (0 ≤ s.1) && decide (s.1 < ((List.length p.1 : Nat) : Int)))) (
   let x1 := List.getD p.1 (Int.toNat s.1) default;
   let x2 := impl_MomentumOfBodies_1 (⟨⟨x1.At.X, x1.At.Y, x1.At.Z⟩, ⟨x1.Speed.X, x1.Speed.Y, x1.Speed.Z⟩, x1.Mass⟩ : Body);
   let x3 := impl_AddVectors (⟨s.2.1, s.2.2.1, s.2.2.2⟩ : Vec) (⟨x2.X, x2.Y, x2.Z⟩ : Vec);
   let x4 := IntKind.wrap .i64 (s.1 + 1);
   .leaf (.inl (x4, x3.X, x3.Y, x3.Z), [0, 1])))
  (
   .leaf (.inr (s.2.1, s.2.2.1, s.2.2.2), [0, 1]))
def impl_vectorsOf_impl_MomentumOfBodies_1_loop0_L (p : List Body × Int × Nat × Nat × Nat) : LoopS (Int × Nat × Nat × Nat) (Nat × Nat × Nat) := { tl := fun s => [.junk, .func (.func 47) [] [], .junk, .junk, .ptr 0 0, .ptr 1 0, .junk, .junk, .junk, .vslc 1 .body p.1, .int .i64 p.2.1, .int .i64 s.1], hl := fun s => [some (.cells [.flt .f32 p.2.2.1, .flt .f32 p.2.2.2.1, .flt .f32 p.2.2.2.2]), some (.cells [.flt .f32 s.2.1, .flt .f32 s.2.2.1, .flt .f32 s.2.2.2])], ex := fun r => .exit 0, otl := fun r => [.junk, .junk, .junk, .junk, .ptr 0 0, .ptr 1 0], ohl := fun r => [some (.cells [.flt .f32 p.2.2.1, .flt .f32 p.2.2.2.1, .flt .f32 p.2.2.2.2]), some (.cells [.flt .f32 r.1, .flt .f32 r.2.1, .flt .f32 r.2.2])] }
def impl_vectorsOf_impl_MomentumOfBodies_1_loop0_ext : St → Option ((List Body × Int × Nat × Nat × Nat) × (Int × Nat × Nat × Nat) × List Nat) := fun S => match (S.tm 1).unK, (S.tm 4).unK, (S.tm 5).unK, (S.tm 9).unK, (S.tm 10).unK, (S.tm 11).unK with
  | .func (.func 47) [] [], .ptr i0 0, .ptr i1 0, .vslc 1 .body q0, .int .i64 q1, .int .i64 q2 => (match S.hp i0 with
    | some (.cells [.flt .f32 q3, .flt .f32 q4, .flt .f32 q5]) => (match S.hp i1 with
    | some (.cells [.flt .f32 q6, .flt .f32 q7, .flt .f32 q8]) => (if nodup [i0, i1] = true then some ((q0, q1, q3, q4, q5), (q2, q6, q7, q8), [i0, i1]) else none)
    | _ => none)
    | _ => none)
  | _, _, _, _, _, _ => none
def impl_vectorsOf_impl_MomentumOfBodies_1_loop0_post (p : List Body × Int × Nat × Nat × Nat) (r : Nat × Nat × Nat) : DT (Ex × St) := .leaf (.exit 0, LSt [.junk, .junk, .junk, .junk, .ptr 0 0, .ptr 1 0] [some (.cells [.flt .f32 p.2.2.1, .flt .f32 p.2.2.2.1, .flt .f32 p.2.2.2.2]), some (.cells [.flt .f32 r.1, .flt .f32 r.2.1, .flt .f32 r.2.2])])
def impl_vectorsOf_impl_MomentumOfBodies_1_loop0 (p : List Body × Int × Nat × Nat × Nat) (s : Int × Nat × Nat × Nat) : Nat × Nat × Nat := loopVal (impl_vectorsOf_impl_MomentumOfBodies_1_loop0_step p) s
def impl_vectorsOf_impl_MomentumOfBodies_1_loop0_ends (p : List Body × Int × Nat × Nat × Nat) (s : Int × Nat × Nat × Nat) : Bool := loopEnds (impl_vectorsOf_impl_MomentumOfBodies_1_loop0_step p) s
def impl_vectorsOf_impl_MomentumOfBodies_1_loop0_F : LoopF := loopF impl_vectorsOf_impl_MomentumOfBodies_1_loop0_step impl_vectorsOf_impl_MomentumOfBodies_1_loop0_ext impl_vectorsOf_impl_MomentumOfBodies_1_loop0_post
set_option maxRecDepth 100000 in
theorem impl_vectorsOf_impl_MomentumOfBodies_1_loop0_hext : ∀ S p s fl, impl_vectorsOf_impl_MomentumOfBodies_1_loop0_ext S = some (p, s, fl) → Norm S fl ((impl_vectorsOf_impl_MomentumOfBodies_1_loop0_L p).tl s) ((impl_vectorsOf_impl_MomentumOfBodies_1_loop0_L p).hl s) (impl_vectorsOf_impl_MomentumOfBodies_1_loop0_L p).gl := by
  intro S p s fl h
  unfold impl_vectorsOf_impl_MomentumOfBodies_1_loop0_ext at h
  (repeat' split at h) <;> first
    | (cases h; constructor <;> simp_all [impl_vectorsOf_impl_MomentumOfBodies_1_loop0_L, keepT, keepH, rens, renH, PV.ren, Blk.ren, fOf, lget, nodup, natIn, lenEq, gtm, PV.unK])
    | cases h
set_option maxRecDepth 100000 in
theorem impl_vectorsOf_impl_MomentumOfBodies_1_loop0_hpost : ∀ p r e S', (impl_vectorsOf_impl_MomentumOfBodies_1_loop0_post p r).get = some (e, S') → e = (impl_vectorsOf_impl_MomentumOfBodies_1_loop0_L p).ex r ∧ S' = LSt ((impl_vectorsOf_impl_MomentumOfBodies_1_loop0_L p).otl r) ((impl_vectorsOf_impl_MomentumOfBodies_1_loop0_L p).ohl r) ((impl_vectorsOf_impl_MomentumOfBodies_1_loop0_L p).ogl r) := by
  intro p r e S' h
  unfold impl_vectorsOf_impl_MomentumOfBodies_1_loop0_post at h
  simp only [DT.get, Option.some.injEq, Prod.mk.injEq] at h; exact ⟨h.1.symm, h.2.symm⟩

def impl_vectorsOf_impl_MomentumOfBodies_1_loops : Nat → Option LoopF := loopTab [(3, impl_vectorsOf_impl_MomentumOfBodies_1_loop0_F)]
set_option maxRecDepth 100000 in
theorem impl_vectorsOf_impl_MomentumOfBodies_1_l0 : LoopOK Try.prog ⟨gam [(47, impl_MomentumOfBodies_1_c), (92, impl_AddVectors_c)], tab, 22, impl_vectorsOf_impl_MomentumOfBodies_1_loops⟩ (lp Try.f46 0) :=
  loopOK_some (F := impl_vectorsOf_impl_MomentumOfBodies_1_loop0_F) (by kernel_rfl) (loopF_ok (E := ⟨gam [(47, impl_MomentumOfBodies_1_c), (92, impl_AddVectors_c)], tab, 22, impl_vectorsOf_impl_MomentumOfBodies_1_loops⟩) ⟨gam_cons impl_MomentumOfBodies_1_ok (gam_cons impl_AddVectors_ok (gam_nil)), tab_ok, by kernel_rfl⟩ (fuel := 100000) (loopsOK_list (l := []) (by kernel_rfl) trivial) (L := impl_vectorsOf_impl_MomentumOfBodies_1_loop0_L) (fun p s => by unfold AgreeL; exact ⟨by kernel_rfl, by kernel_rfl⟩) (fun _ _ h => Ex.noConfusion h) impl_vectorsOf_impl_MomentumOfBodies_1_loop0_hext impl_vectorsOf_impl_MomentumOfBodies_1_loop0_hpost)
/-- loop.example/g01284/impl.vectorsOf -/
def impl_vectorsOf_impl_MomentumOfBodies_1_tree (a0 : List Body) : DT (Vec) :=
  let x0 := ((List.length a0 : Nat) : Int);
  .need ((impl_vectorsOf_impl_MomentumOfBodies_1_loop0_ends (a0, x0, 0, 0, 0) (0, 0, 0, 0))) (
  let x1 := impl_vectorsOf_impl_MomentumOfBodies_1_loop0 (a0, x0, 0, 0, 0) (0, 0, 0, 0);
  .leaf ((⟨x1.1, x1.2.1, x1.2.2⟩ : Vec)))
def impl_vectorsOf_impl_MomentumOfBodies_1 (a0 : List Body) : Vec := (impl_vectorsOf_impl_MomentumOfBodies_1_tree a0).val
def impl_vectorsOf_impl_MomentumOfBodies_1_need (a0 : List Body) : Bool := (impl_vectorsOf_impl_MomentumOfBodies_1_tree a0).ok
def impl_vectorsOf_impl_MomentumOfBodies_1_mk (p : Vec) : Ret := ⟨.agg [.flt .f32 p.X, .flt .f32 p.Y, .flt .f32 p.Z], []⟩
def impl_vectorsOf_impl_MomentumOfBodies_1_c0 : Con := fun args => match args with
  | [.vslc 1 .body a0, .func (.func 47) [] []] => some (.need (impl_vectorsOf_impl_MomentumOfBodies_1_need a0) (.leaf (impl_vectorsOf_impl_MomentumOfBodies_1_mk (impl_vectorsOf_impl_MomentumOfBodies_1 a0))))
  | _ => none
set_option maxRecDepth 100000 in
theorem impl_vectorsOf_impl_MomentumOfBodies_1_ok0 : FunOK Try.prog 46 impl_vectorsOf_impl_MomentumOfBodies_1_c0.fn := by
  refine con_ok (Γ := gam [(47, impl_MomentumOfBodies_1_c), (92, impl_AddVectors_c)]) (gam_cons impl_MomentumOfBodies_1_ok (gam_cons impl_AddVectors_ok (gam_nil))) tab_ok (by kernel_rfl) Try.func46 (by kernel_rfl) (by kernel_rfl) Try.ntmps46 Try.results46 (loops := impl_vectorsOf_impl_MomentumOfBodies_1_loops) (loopsOK_list (l := [lp Try.f46 0]) (by kernel_rfl) ⟨impl_vectorsOf_impl_MomentumOfBodies_1_l0, trivial⟩) 100000 fun args t h => ?_
  unfold impl_vectorsOf_impl_MomentumOfBodies_1_c0 at h
  split at h
  · rename_i a0
    cases h
    exact ⟨rfl, agree_need (mk := impl_vectorsOf_impl_MomentumOfBodies_1_mk) (t := impl_vectorsOf_impl_MomentumOfBodies_1_tree a0) (by unfold Agree; kernel_rfl)⟩
  · cases h
def impl_vectorsOf_impl_MomentumOfBodies_1_c : Con := fun args => impl_vectorsOf_impl_MomentumOfBodies_1_c0 (norms 0 [.slc .body, .none] args)
set_option maxRecDepth 100000 in
theorem impl_vectorsOf_impl_MomentumOfBodies_1_ok : FunOK Try.prog 46 impl_vectorsOf_impl_MomentumOfBodies_1_c.fn := con_norm [.slc .body, .none] impl_vectorsOf_impl_MomentumOfBodies_1_ok0

/-- loop.example/g01284/impl.MomentumOfBodies -/
def impl_MomentumOfBodies_tree (a0 : List Body) : DT (Vec × Bool) :=
  .need ((impl_AreBodies_need a0)) (
  let x0 := impl_AreBodies a0;
  .ask (!x0)
  (
   .leaf ((⟨0, 0, 0⟩ : Vec), false))
  (
   .need ((impl_vectorsOf_impl_MomentumOfBodies_1_need a0 )) (
   let x1 := impl_vectorsOf_impl_MomentumOfBodies_1 a0 ;
   .need ((impl_toldVector_need (⟨x1.X, x1.Y, x1.Z⟩ : Vec))) (
   let x2 := impl_toldVector (⟨x1.X, x1.Y, x1.Z⟩ : Vec);
   .leaf ((⟨x2.1.X, x2.1.Y, x2.1.Z⟩ : Vec), x2.2)))))
def impl_MomentumOfBodies (a0 : List Body) : Vec × Bool := (impl_MomentumOfBodies_tree a0).val
def impl_MomentumOfBodies_need (a0 : List Body) : Bool := (impl_MomentumOfBodies_tree a0).ok
def impl_MomentumOfBodies_mk (p : Vec × Bool) : Ret := ⟨.tup [.agg [.flt .f32 p.1.X, .flt .f32 p.1.Y, .flt .f32 p.1.Z], .bool p.2], []⟩
def impl_MomentumOfBodies_c0 : Con := fun args => match args with
  | [.vslc 1 .body a0] => some (.need (impl_MomentumOfBodies_need a0) (.leaf (impl_MomentumOfBodies_mk (impl_MomentumOfBodies a0))))
  | _ => none
set_option maxRecDepth 100000 in
theorem impl_MomentumOfBodies_ok0 : FunOK Try.prog 9 impl_MomentumOfBodies_c0.fn := by
  refine con_ok (Γ := gam [(40, impl_AreBodies_c), (46, impl_vectorsOf_impl_MomentumOfBodies_1_c), (45, impl_toldVector_c)]) (gam_cons impl_AreBodies_ok (gam_cons impl_vectorsOf_impl_MomentumOfBodies_1_ok (gam_cons impl_toldVector_ok (gam_nil)))) tab_ok (by kernel_rfl) Try.func9 (by kernel_rfl) (by kernel_rfl) Try.ntmps9 Try.results9 (loopsOK_none rfl _) 100000 fun args t h => ?_
  unfold impl_MomentumOfBodies_c0 at h
  split at h
  · rename_i a0
    cases h
    exact ⟨rfl, agree_need (mk := impl_MomentumOfBodies_mk) (t := impl_MomentumOfBodies_tree a0) (by unfold Agree; kernel_rfl)⟩
  · cases h
def impl_MomentumOfBodies_c : Con := fun args => impl_MomentumOfBodies_c0 (norms 0 [.slc .body] args)
set_option maxRecDepth 100000 in
theorem impl_MomentumOfBodies_ok : FunOK Try.prog 9 impl_MomentumOfBodies_c.fn := con_norm [.slc .body] impl_MomentumOfBodies_ok0

-- FAILED 94 loop.example/g01284/impl.areIndices$1: param type 0

/-- loop.example/g01284/impl.areIndices$1 -/
def impl_areIndices_1_tree (a0 : Int) (a1_0 : Int) : DT (Bool) :=
  let x0 := IntKind.wrap .i64 (a1_0 - 1);
  let x1 := impl_within a0 0 x0;
  .leaf (!x1)
def impl_areIndices_1 (a0 : Int) (a1_0 : Int) : Bool := (impl_areIndices_1_tree a0 a1_0).val
def impl_areIndices_1_mk (p : Bool) : Ret := ⟨.bool p, []⟩
def impl_areIndices_1_c : Con := fun args => match args with
  | [.int .i64 a0, .vcell [.int .i64 a1_0] 0] => some (.leaf (impl_areIndices_1_mk (impl_areIndices_1 a0 a1_0)))
  | _ => none
set_option maxRecDepth 100000 in
theorem impl_areIndices_1_ok : FunOK Try.prog 94 impl_areIndices_1_c.fn := by
  refine con_ok (Γ := gam [(43, impl_within_c)]) (gam_cons impl_within_ok (gam_nil)) tab_ok (by kernel_rfl) Try.func94 (by kernel_rfl) (by kernel_rfl) Try.ntmps94 Try.results94 (loopsOK_none rfl _) 100000 fun args t h => ?_
  unfold impl_areIndices_1_c at h
  split at h
  · rename_i a0 a1_0
    cases h
    exact ⟨rfl, agree_tot (mk := impl_areIndices_1_mk) (t := impl_areIndices_1_tree a0 a1_0) (by unfold Agree; kernel_rfl) (by kernel_rfl)⟩
  · cases h

/-- a loop of slices_IndexFunc___int64_int64__impl_areIndices_1 -/
def slices_IndexFunc___int64_int64__impl_areIndices_1_loop0_step (p : List Int × Int × Int) (s : Int) : Round (Int) ((Int) ⊕ (Unit)) :=
  let x0 := decide (s < p.2.2);
  .ask x0
  (
   .need ((decide (0 ≤ s) && decide (s < ((List.length p.1 : Nat) : Int)))) (
   let x1 := List.getD p.1 (Int.toNat s) default;
   let x2 := impl_areIndices_1 x1 p.2.1;
   .ask x2
   (
    .leaf (.inr (.inl s), []))
   (
    let x3 := IntKind.wrap .i64 (s + 1);
    .leaf (.inl x3, []))))
  (
   .leaf (.inr (.inr ()), []))
def slices_IndexFunc___int64_int64__impl_areIndices_1_loop0_L (p : List Int × Int × Int) : LoopS (Int) ((Int) ⊕ (Unit)) := { tl := fun s => [.vslc 1 (.int .i64) p.1, .func (.func 94) [] [.vcell [.int .i64 p.2.1] 0], .junk, .junk, .junk, .junk, .junk, .int .i64 p.2.2, .int .i64 s], hl := fun s => [], ex := fun r => match r with | .inl r => .ret | .inr r => .exit 0, otl := fun r => match r with | .inl r => [.junk, .junk, .junk, .junk, .int .i64 r] | .inr r => [.junk], ohl := fun r => match r with | .inl r => [] | .inr r => [] }
def slices_IndexFunc___int64_int64__impl_areIndices_1_loop0_ext : St → Option ((List Int × Int × Int) × (Int) × List Nat) := fun S => match (S.tm 0).unK, (S.tm 1).unK, (S.tm 7).unK, (S.tm 8).unK with
  | .vslc 1 (.int .i64) q0, .func (.func 94) [] [.vcell [.int .i64 q1] 0], .int .i64 q2, .int .i64 q3 => some ((q0, q1, q2), q3, [])
  | _, _, _, _ => none
def slices_IndexFunc___int64_int64__impl_areIndices_1_loop0_post (p : List Int × Int × Int) (r : (Int) ⊕ (Unit)) : DT (Ex × St) := .ask (isL r) (.leaf (.ret, LSt [.junk, .junk, .junk, .junk, .int .i64 ((leftD r))] [])) (.leaf (.exit 0, LSt [.junk] []))
def slices_IndexFunc___int64_int64__impl_areIndices_1_loop0 (p : List Int × Int × Int) (s : Int) : (Int) ⊕ (Unit) := loopVal (slices_IndexFunc___int64_int64__impl_areIndices_1_loop0_step p) s
def slices_IndexFunc___int64_int64__impl_areIndices_1_loop0_ends (p : List Int × Int × Int) (s : Int) : Bool := loopEnds (slices_IndexFunc___int64_int64__impl_areIndices_1_loop0_step p) s
def slices_IndexFunc___int64_int64__impl_areIndices_1_loop0_F : LoopF := loopF slices_IndexFunc___int64_int64__impl_areIndices_1_loop0_step slices_IndexFunc___int64_int64__impl_areIndices_1_loop0_ext slices_IndexFunc___int64_int64__impl_areIndices_1_loop0_post
set_option maxRecDepth 100000 in
theorem slices_IndexFunc___int64_int64__impl_areIndices_1_loop0_hext : ∀ S p s fl, slices_IndexFunc___int64_int64__impl_areIndices_1_loop0_ext S = some (p, s, fl) → Norm S fl ((slices_IndexFunc___int64_int64__impl_areIndices_1_loop0_L p).tl s) ((slices_IndexFunc___int64_int64__impl_areIndices_1_loop0_L p).hl s) (slices_IndexFunc___int64_int64__impl_areIndices_1_loop0_L p).gl := by
  intro S p s fl h
  unfold slices_IndexFunc___int64_int64__impl_areIndices_1_loop0_ext at h
  (repeat' split at h) <;> first
    | (cases h; constructor <;> simp_all [slices_IndexFunc___int64_int64__impl_areIndices_1_loop0_L, keepT, keepH, rens, renH, PV.ren, Blk.ren, fOf, lget, nodup, natIn, lenEq, gtm, PV.unK])
    | cases h
set_option maxRecDepth 100000 in
theorem slices_IndexFunc___int64_int64__impl_areIndices_1_loop0_hpost : ∀ p r e S', (slices_IndexFunc___int64_int64__impl_areIndices_1_loop0_post p r).get = some (e, S') → e = (slices_IndexFunc___int64_int64__impl_areIndices_1_loop0_L p).ex r ∧ S' = LSt ((slices_IndexFunc___int64_int64__impl_areIndices_1_loop0_L p).otl r) ((slices_IndexFunc___int64_int64__impl_areIndices_1_loop0_L p).ohl r) ((slices_IndexFunc___int64_int64__impl_areIndices_1_loop0_L p).ogl r) := by
  intro p r e S' h
  unfold slices_IndexFunc___int64_int64__impl_areIndices_1_loop0_post at h
  cases r <;> (simp only [isL, DT.get, Option.some.injEq, Prod.mk.injEq] at h; exact ⟨h.1.symm, h.2.symm⟩)

def slices_IndexFunc___int64_int64__impl_areIndices_1_loops : Nat → Option LoopF := loopTab [(2, slices_IndexFunc___int64_int64__impl_areIndices_1_loop0_F)]
set_option maxRecDepth 100000 in
theorem slices_IndexFunc___int64_int64__impl_areIndices_1_l0 : LoopOK Try.prog ⟨gam [(94, impl_areIndices_1_c)], tab, 19, slices_IndexFunc___int64_int64__impl_areIndices_1_loops⟩ (lp Try.f124 0) :=
  loopOK_some (F := slices_IndexFunc___int64_int64__impl_areIndices_1_loop0_F) (by kernel_rfl) (loopF_ok (E := ⟨gam [(94, impl_areIndices_1_c)], tab, 19, slices_IndexFunc___int64_int64__impl_areIndices_1_loops⟩) ⟨gam_cons impl_areIndices_1_ok (gam_nil), tab_ok, by kernel_rfl⟩ (fuel := 100000) (loopsOK_list (l := []) (by kernel_rfl) trivial) (L := slices_IndexFunc___int64_int64__impl_areIndices_1_loop0_L) (fun p s => by unfold AgreeL; exact ⟨by kernel_rfl, by kernel_rfl⟩) (fun _ r h => by cases r <;> exact Ex.noConfusion h) slices_IndexFunc___int64_int64__impl_areIndices_1_loop0_hext slices_IndexFunc___int64_int64__impl_areIndices_1_loop0_hpost)
/-- slices.IndexFunc[[]int64,int64] -/
def slices_IndexFunc___int64_int64__impl_areIndices_1_tree (a0 : List Int) (a1_0 : Int) : DT (Int) :=
  let x0 := ((List.length a0 : Nat) : Int);
  .need ((slices_IndexFunc___int64_int64__impl_areIndices_1_loop0_ends (a0, a1_0, x0) 0)) (
  let x1 := slices_IndexFunc___int64_int64__impl_areIndices_1_loop0 (a0, a1_0, x0) 0;
  .ask ((isL x1))
  (
   .leaf ((leftD x1)))
  (
   .leaf (-1)))
def slices_IndexFunc___int64_int64__impl_areIndices_1 (a0 : List Int) (a1_0 : Int) : Int := (slices_IndexFunc___int64_int64__impl_areIndices_1_tree a0 a1_0).val
def slices_IndexFunc___int64_int64__impl_areIndices_1_need (a0 : List Int) (a1_0 : Int) : Bool := (slices_IndexFunc___int64_int64__impl_areIndices_1_tree a0 a1_0).ok
def slices_IndexFunc___int64_int64__impl_areIndices_1_mk (p : Int) : Ret := ⟨.int .i64 p, []⟩
def slices_IndexFunc___int64_int64__impl_areIndices_1_c0 : Con := fun args => match args with
  | [.vslc 1 (.int .i64) a0, .func (.func 94) [] [.vcell [.int .i64 a1_0] 0]] => some (.need (slices_IndexFunc___int64_int64__impl_areIndices_1_need a0 a1_0) (.leaf (slices_IndexFunc___int64_int64__impl_areIndices_1_mk (slices_IndexFunc___int64_int64__impl_areIndices_1 a0 a1_0))))
  | _ => none
set_option maxRecDepth 100000 in
theorem slices_IndexFunc___int64_int64__impl_areIndices_1_ok0 : FunOK Try.prog 124 slices_IndexFunc___int64_int64__impl_areIndices_1_c0.fn := by
  refine con_ok (Γ := gam [(94, impl_areIndices_1_c)]) (gam_cons impl_areIndices_1_ok (gam_nil)) tab_ok (by kernel_rfl) Try.func124 (by kernel_rfl) (by kernel_rfl) Try.ntmps124 Try.results124 (loops := slices_IndexFunc___int64_int64__impl_areIndices_1_loops) (loopsOK_list (l := [lp Try.f124 0]) (by kernel_rfl) ⟨slices_IndexFunc___int64_int64__impl_areIndices_1_l0, trivial⟩) 100000 fun args t h => ?_
  unfold slices_IndexFunc___int64_int64__impl_areIndices_1_c0 at h
  split at h
  · rename_i a0 a1_0
    cases h
    exact ⟨rfl, agree_need (mk := slices_IndexFunc___int64_int64__impl_areIndices_1_mk) (t := slices_IndexFunc___int64_int64__impl_areIndices_1_tree a0 a1_0) (by unfold Agree; kernel_rfl)⟩
  · cases h
def slices_IndexFunc___int64_int64__impl_areIndices_1_c : Con := fun args => slices_IndexFunc___int64_int64__impl_areIndices_1_c0 (norms 0 [.slc (.int .i64), .none] args)
set_option maxRecDepth 100000 in
theorem slices_IndexFunc___int64_int64__impl_areIndices_1_ok : FunOK Try.prog 124 slices_IndexFunc___int64_int64__impl_areIndices_1_c.fn := con_norm [.slc (.int .i64), .none] slices_IndexFunc___int64_int64__impl_areIndices_1_ok0

/-- slices.ContainsFunc[[]int64,int64] -/
def slices_ContainsFunc___int64_int64__impl_areIndices_1_tree (a0 : List Int) (a1_0 : Int) : DT (Bool) :=
  .need ((slices_IndexFunc___int64_int64__impl_areIndices_1_need a0 a1_0)) (
  let x0 := slices_IndexFunc___int64_int64__impl_areIndices_1 a0 a1_0;
  let x1 := decide (x0 ≥ 0);
  .leaf x1)
def slices_ContainsFunc___int64_int64__impl_areIndices_1 (a0 : List Int) (a1_0 : Int) : Bool := (slices_ContainsFunc___int64_int64__impl_areIndices_1_tree a0 a1_0).val
def slices_ContainsFunc___int64_int64__impl_areIndices_1_need (a0 : List Int) (a1_0 : Int) : Bool := (slices_ContainsFunc___int64_int64__impl_areIndices_1_tree a0 a1_0).ok
def slices_ContainsFunc___int64_int64__impl_areIndices_1_mk (p : Bool) : Ret := ⟨.bool p, []⟩
def slices_ContainsFunc___int64_int64__impl_areIndices_1_c0 : Con := fun args => match args with
  | [.vslc 1 (.int .i64) a0, .func (.func 94) [] [.vcell [.int .i64 a1_0] 0]] => some (.need (slices_ContainsFunc___int64_int64__impl_areIndices_1_need a0 a1_0) (.leaf (slices_ContainsFunc___int64_int64__impl_areIndices_1_mk (slices_ContainsFunc___int64_int64__impl_areIndices_1 a0 a1_0))))
  | _ => none
set_option maxRecDepth 100000 in
theorem slices_ContainsFunc___int64_int64__impl_areIndices_1_ok0 : FunOK Try.prog 93 slices_ContainsFunc___int64_int64__impl_areIndices_1_c0.fn := by
  refine con_ok (Γ := gam [(124, slices_IndexFunc___int64_int64__impl_areIndices_1_c)]) (gam_cons slices_IndexFunc___int64_int64__impl_areIndices_1_ok (gam_nil)) tab_ok (by kernel_rfl) Try.func93 (by kernel_rfl) (by kernel_rfl) Try.ntmps93 Try.results93 (loopsOK_none rfl _) 100000 fun args t h => ?_
  unfold slices_ContainsFunc___int64_int64__impl_areIndices_1_c0 at h
  split at h
  · rename_i a0 a1_0
    cases h
    exact ⟨rfl, agree_need (mk := slices_ContainsFunc___int64_int64__impl_areIndices_1_mk) (t := slices_ContainsFunc___int64_int64__impl_areIndices_1_tree a0 a1_0) (by unfold Agree; kernel_rfl)⟩
  · cases h
def slices_ContainsFunc___int64_int64__impl_areIndices_1_c : Con := fun args => slices_ContainsFunc___int64_int64__impl_areIndices_1_c0 (norms 0 [.slc (.int .i64), .none] args)
set_option maxRecDepth 100000 in
theorem slices_ContainsFunc___int64_int64__impl_areIndices_1_ok : FunOK Try.prog 93 slices_ContainsFunc___int64_int64__impl_areIndices_1_c.fn := con_norm [.slc (.int .i64), .none] slices_ContainsFunc___int64_int64__impl_areIndices_1_ok0

/-- loop.example/g01284/impl.areIndices -/
def impl_areIndices_tree (a0 : Int) (a1 : List Int) : DT (Bool) :=
  .need ((slices_ContainsFunc___int64_int64__impl_areIndices_1_need a1 a0)) (
  let x0 := slices_ContainsFunc___int64_int64__impl_areIndices_1 a1 a0;
  .leaf (!x0))
def impl_areIndices (a0 : Int) (a1 : List Int) : Bool := (impl_areIndices_tree a0 a1).val
def impl_areIndices_need (a0 : Int) (a1 : List Int) : Bool := (impl_areIndices_tree a0 a1).ok
def impl_areIndices_mk (p : Bool) : Ret := ⟨.bool p, []⟩
def impl_areIndices_c0 : Con := fun args => match args with
  | [.int .i64 a0, .vslc 2 (.int .i64) a1] => some (.need (impl_areIndices_need a0 a1) (.leaf (impl_areIndices_mk (impl_areIndices a0 a1))))
  | _ => none
set_option maxRecDepth 100000 in
theorem impl_areIndices_ok0 : FunOK Try.prog 49 impl_areIndices_c0.fn := by
  refine con_ok (Γ := gam [(93, slices_ContainsFunc___int64_int64__impl_areIndices_1_c)]) (gam_cons slices_ContainsFunc___int64_int64__impl_areIndices_1_ok (gam_nil)) tab_ok (by kernel_rfl) Try.func49 (by kernel_rfl) (by kernel_rfl) Try.ntmps49 Try.results49 (loopsOK_none rfl _) 100000 fun args t h => ?_
  unfold impl_areIndices_c0 at h
  split at h
  · rename_i a0 a1
    cases h
    exact ⟨rfl, agree_need (mk := impl_areIndices_mk) (t := impl_areIndices_tree a0 a1) (by unfold Agree; kernel_rfl)⟩
  · cases h
def impl_areIndices_c : Con := fun args => impl_areIndices_c0 (norms 0 [.none, .slc (.int .i64)] args)
set_option maxRecDepth 100000 in
theorem impl_areIndices_ok : FunOK Try.prog 49 impl_areIndices_c.fn := con_norm [.none, .slc (.int .i64)] impl_areIndices_ok0

/-- loop.example/g01284/impl.SizeOfVector -/
def impl_SizeOfVector_tree (a0 : Vec) : DT (Nat) :=
  let x0 := impl_InnerOf (⟨a0.X, a0.Y, a0.Z⟩ : Vec) (⟨a0.X, a0.Y, a0.Z⟩ : Vec);
  .need ((impl_RootNumber_need x0)) (
  let x1 := impl_RootNumber x0;
  .leaf x1)
def impl_SizeOfVector (a0 : Vec) : Nat := (impl_SizeOfVector_tree a0).val
def impl_SizeOfVector_need (a0 : Vec) : Bool := (impl_SizeOfVector_tree a0).ok
def impl_SizeOfVector_mk (p : Nat) : Ret := ⟨.flt .f32 p, []⟩
def impl_SizeOfVector_c : Con := fun args => match args with
  | [.agg [.flt .f32 a0_0, .flt .f32 a0_1, .flt .f32 a0_2]] => some (.need (impl_SizeOfVector_need (⟨a0_0, a0_1, a0_2⟩ : Vec)) (.leaf (impl_SizeOfVector_mk (impl_SizeOfVector (⟨a0_0, a0_1, a0_2⟩ : Vec)))))
  | _ => none
set_option maxRecDepth 100000 in
theorem impl_SizeOfVector_ok : FunOK Try.prog 12 impl_SizeOfVector_c.fn := by
  refine con_ok (Γ := gam [(51, impl_InnerOf_c), (38, impl_RootNumber_c)]) (gam_cons impl_InnerOf_ok (gam_cons impl_RootNumber_ok (gam_nil))) tab_ok (by kernel_rfl) Try.func12 (by kernel_rfl) (by kernel_rfl) Try.ntmps12 Try.results12 (loopsOK_none rfl _) 100000 fun args t h => ?_
  unfold impl_SizeOfVector_c at h
  split at h
  · rename_i a0_0 a0_1 a0_2
    cases h
    exact ⟨rfl, agree_need (mk := impl_SizeOfVector_mk) (t := impl_SizeOfVector_tree (⟨a0_0, a0_1, a0_2⟩ : Vec)) (by unfold Agree; kernel_rfl)⟩
  · cases h

/-- loop.example/g01284/impl.BoundTo -/
def impl_BoundTo_tree (a0 : List Body) (a1 : Int) (a2 : Int) : DT (Bool × Bool) :=
  .need ((impl_AreBodies_need a0)) (
  let x0 := impl_AreBodies a0;
  .ask (!x0)
  (
   .leaf (false, false))
  (
   let x1 := ((List.length a0 : Nat) : Int);
   .need ((impl_areIndices_need x1 ([a1, a2]))) (
   let x2 := impl_areIndices x1 ([a1, a2]);
   .ask (!x2)
   (
    .leaf (false, false))
   (
    let x3 := (a1 == a2);
    .ask x3
    (
     .leaf (false, false))
    (
     .need ((decide (0 ≤ a2) && decide (a2 < ((List.length a0 : Nat) : Int)))) (
     let x4 := List.getD a0 (Int.toNat a2) default;
     .need ((decide (0 ≤ a1) && decide (a1 < ((List.length a0 : Nat) : Int)))) (
     let x5 := List.getD a0 (Int.toNat a1) default;
     let x6 := impl_LessVectors (⟨x4.At.X, x4.At.Y, x4.At.Z⟩ : Vec) (⟨x5.At.X, x5.At.Y, x5.At.Z⟩ : Vec);
     .need ((decide (0 ≤ a2) && decide (a2 < ((List.length a0 : Nat) : Int)))) (
     let x7 := List.getD a0 (Int.toNat a2) default;
     .need ((decide (0 ≤ a1) && decide (a1 < ((List.length a0 : Nat) : Int)))) (
     let x8 := List.getD a0 (Int.toNat a1) default;
     let x9 := impl_LessVectors (⟨x7.Speed.X, x7.Speed.Y, x7.Speed.Z⟩ : Vec) (⟨x8.Speed.X, x8.Speed.Y, x8.Speed.Z⟩ : Vec);
     let x10 := impl_InnerOf (⟨x9.X, x9.Y, x9.Z⟩ : Vec) (⟨x9.X, x9.Y, x9.Z⟩ : Vec);
     let x11 := fmul .f32 1056964608 x10;
     .need ((decide (0 ≤ a1) && decide (a1 < ((List.length a0 : Nat) : Int)))) (
     let x12 := List.getD a0 (Int.toNat a1) default;
     .need ((decide (0 ≤ a2) && decide (a2 < ((List.length a0 : Nat) : Int)))) (
     let x13 := List.getD a0 (Int.toNat a2) default;
     let x14 := fadd .f32 x12.Mass x13.Mass;
     .need ((impl_SizeOfVector_need (⟨x6.X, x6.Y, x6.Z⟩ : Vec))) (
     let x15 := impl_SizeOfVector (⟨x6.X, x6.Y, x6.Z⟩ : Vec);
     let x16 := fdiv .f32 x14 x15;
     let x17 := fsub .f32 x11 x16;
     .need ((impl_IsFinite_need x17)) (
     let x18 := impl_IsFinite x17;
     .ask (!x18)
     (
      .leaf (false, false))
     (
      let x19 := flt .f32 x17 0;
      .leaf (x19, true)))))))))))))))
def impl_BoundTo (a0 : List Body) (a1 : Int) (a2 : Int) : Bool × Bool := (impl_BoundTo_tree a0 a1 a2).val
def impl_BoundTo_need (a0 : List Body) (a1 : Int) (a2 : Int) : Bool := (impl_BoundTo_tree a0 a1 a2).ok
def impl_BoundTo_mk (p : Bool × Bool) : Ret := ⟨.tup [.bool p.1, .bool p.2], []⟩
def impl_BoundTo_c0 : Con := fun args => match args with
  | [.vslc 1 .body a0, .int .i64 a1, .int .i64 a2] => some (.need (impl_BoundTo_need a0 a1 a2) (.leaf (impl_BoundTo_mk (impl_BoundTo a0 a1 a2))))
  | _ => none
set_option maxRecDepth 100000 in
theorem impl_BoundTo_ok0 : FunOK Try.prog 10 impl_BoundTo_c0.fn := by
  refine con_ok (Γ := gam [(40, impl_AreBodies_c), (49, impl_areIndices_c), (50, impl_LessVectors_c), (51, impl_InnerOf_c), (12, impl_SizeOfVector_c), (42, impl_IsFinite_c)]) (gam_cons impl_AreBodies_ok (gam_cons impl_areIndices_ok (gam_cons impl_LessVectors_ok (gam_cons impl_InnerOf_ok (gam_cons impl_SizeOfVector_ok (gam_cons impl_IsFinite_ok (gam_nil))))))) tab_ok (by kernel_rfl) Try.func10 (by kernel_rfl) (by kernel_rfl) Try.ntmps10 Try.results10 (loopsOK_none rfl _) 100000 fun args t h => ?_
  unfold impl_BoundTo_c0 at h
  split at h
  · rename_i a0 a1 a2
    cases h
    exact ⟨rfl, agree_need (mk := impl_BoundTo_mk) (t := impl_BoundTo_tree a0 a1 a2) (by unfold Agree; kernel_rfl)⟩
  · cases h
def impl_BoundTo_c : Con := fun args => impl_BoundTo_c0 (norms 0 [.slc .body, .none, .none] args)
set_option maxRecDepth 100000 in
theorem impl_BoundTo_ok : FunOK Try.prog 10 impl_BoundTo_c.fn := con_norm [.slc .body, .none, .none] impl_BoundTo_ok0

/-- a loop of impl_nearest -/
def impl_nearest_loop1_step (p : List Body × Int × Int × Int) (s : Int × Int × Nat × Int) : Round (Int × Int × Nat × Int) (Int × Int × Nat) :=
  let x0 := ((List.length p.1 : Nat) : Int);
  let x1 := decide (s.2.2.2 < x0);
  .ask x1
  (
   .need ((decide (0 ≤ s.2.2.2) && decide (s.2.2.2 < ((List.length p.1 : Nat) : Int)))) (
   let x2 := List.getD p.1 (Int.toNat s.2.2.2) default;
   .need ((decide (0 ≤ p.2.1) && decide (p.2.1 < ((List.length p.1 : Nat) : Int)))) (
   let x3 := List.getD p.1 (Int.toNat p.2.1) default;
   let x4 := impl_LessVectors (⟨x2.At.X, x2.At.Y, x2.At.Z⟩ : Vec) (⟨x3.At.X, x3.At.Y, x3.At.Z⟩ : Vec);
   .need ((impl_SizeOfVector_need (⟨x4.X, x4.Y, x4.Z⟩ : Vec))) (
   let x5 := impl_SizeOfVector (⟨x4.X, x4.Y, x4.Z⟩ : Vec);
   let x6 := decide (s.1 < 0);
   .ask x6
   (
    let x7 := IntKind.wrap .i64 (s.2.2.2 + 1);
    .leaf (.inl (p.2.1, s.2.2.2, x5, x7), []))
   (
    let x7 := flt .f32 x5 s.2.2.1;
    .ask x7
    (
     let x8 := IntKind.wrap .i64 (s.2.2.2 + 1);
     .leaf (.inl (p.2.1, s.2.2.2, x5, x8), []))
    (
     let x8 := IntKind.wrap .i64 (s.2.2.2 + 1);
     .leaf (.inl (s.1, s.2.1, s.2.2.1, x8), [])))))))
  (
   .leaf (.inr (s.1, s.2.1, s.2.2.1), []))
def impl_nearest_loop1_L (p : List Body × Int × Int × Int) : LoopS (Int × Int × Nat × Int) (Int × Int × Nat) := { tl := fun s => [.vslc 1 .body p.1, .junk, .junk, .junk, .junk, .int .i64 s.1, .int .i64 s.2.1, .flt .f32 s.2.2.1, .int .i64 p.2.1, .int .i64 s.2.2.2, .junk, .junk, .int .i64 p.2.2.1, .int .i64 p.2.2.2], hl := fun s => [], ex := fun r => .exit 2, otl := fun r => [.vslc 1 .body p.1, .junk, .junk, .junk, .junk, .int .i64 r.1, .int .i64 r.2.1, .flt .f32 r.2.2, .junk, .junk, .junk, .junk, .int .i64 p.2.2.1, .int .i64 p.2.2.2], ohl := fun r => [] }
def impl_nearest_loop1_ext : St → Option ((List Body × Int × Int × Int) × (Int × Int × Nat × Int) × List Nat) := fun S => match (S.tm 0).unK, (S.tm 5).unK, (S.tm 6).unK, (S.tm 7).unK, (S.tm 8).unK, (S.tm 9).unK, (S.tm 12).unK, (S.tm 13).unK with
  | .vslc 1 .body q0, .int .i64 q1, .int .i64 q2, .flt .f32 q3, .int .i64 q4, .int .i64 q5, .int .i64 q6, .int .i64 q7 => some ((q0, q4, q6, q7), (q1, q2, q3, q5), [])
  | _, _, _, _, _, _, _, _ => none
def impl_nearest_loop1_post (p : List Body × Int × Int × Int) (r : Int × Int × Nat) : DT (Ex × St) := .leaf (.exit 2, LSt [.vslc 1 .body p.1, .junk, .junk, .junk, .junk, .int .i64 r.1, .int .i64 r.2.1, .flt .f32 r.2.2, .junk, .junk, .junk, .junk, .int .i64 p.2.2.1, .int .i64 p.2.2.2] [])
def impl_nearest_loop1 (p : List Body × Int × Int × Int) (s : Int × Int × Nat × Int) : Int × Int × Nat := loopVal (impl_nearest_loop1_step p) s
def impl_nearest_loop1_ends (p : List Body × Int × Int × Int) (s : Int × Int × Nat × Int) : Bool := loopEnds (impl_nearest_loop1_step p) s
def impl_nearest_loop1_F : LoopF := loopF impl_nearest_loop1_step impl_nearest_loop1_ext impl_nearest_loop1_post
set_option maxRecDepth 100000 in
theorem impl_nearest_loop1_hext : ∀ S p s fl, impl_nearest_loop1_ext S = some (p, s, fl) → Norm S fl ((impl_nearest_loop1_L p).tl s) ((impl_nearest_loop1_L p).hl s) (impl_nearest_loop1_L p).gl := by
  intro S p s fl h
  unfold impl_nearest_loop1_ext at h
  (repeat' split at h) <;> first
    | (cases h; constructor <;> simp_all [impl_nearest_loop1_L, keepT, keepH, rens, renH, PV.ren, Blk.ren, fOf, lget, nodup, natIn, lenEq, gtm, PV.unK])
    | cases h
set_option maxRecDepth 100000 in
theorem impl_nearest_loop1_hpost : ∀ p r e S', (impl_nearest_loop1_post p r).get = some (e, S') → e = (impl_nearest_loop1_L p).ex r ∧ S' = LSt ((impl_nearest_loop1_L p).otl r) ((impl_nearest_loop1_L p).ohl r) ((impl_nearest_loop1_L p).ogl r) := by
  intro p r e S' h
  unfold impl_nearest_loop1_post at h
  simp only [DT.get, Option.some.injEq, Prod.mk.injEq] at h; exact ⟨h.1.symm, h.2.symm⟩

/-- a loop of impl_nearest -/
def impl_nearest_loop0_step (p : List Body × Int) (s : Int × Int × Nat × Int) : Round (Int × Int × Nat × Int) (Int × Int × Nat) :=
  let x0 := decide (s.2.2.2 < p.2);
  .ask x0
  (
   let x1 := IntKind.wrap .i64 (s.2.2.2 + 1);
   .need ((impl_nearest_loop1_ends (p.1, s.2.2.2, p.2, s.2.2.2) (s.1, s.2.1, s.2.2.1, x1))) (
   let x2 := impl_nearest_loop1 (p.1, s.2.2.2, p.2, s.2.2.2) (s.1, s.2.1, s.2.2.1, x1);
   let x3 := IntKind.wrap .i64 (s.2.2.2 + 1);
   .leaf (.inl (x2.1, x2.2.1, x2.2.2, x3), [])))
  (
   .leaf (.inr (s.1, s.2.1, s.2.2.1), []))
def impl_nearest_loop0_L (p : List Body × Int) : LoopS (Int × Int × Nat × Int) (Int × Int × Nat) := { tl := fun s => [.vslc 1 .body p.1, .junk, .junk, .junk, .junk, .int .i64 s.1, .int .i64 s.2.1, .flt .f32 s.2.2.1, .junk, .junk, .junk, .junk, .int .i64 p.2, .int .i64 s.2.2.2], hl := fun s => [], ex := fun r => .exit 0, otl := fun r => [.junk, .junk, .junk, .junk, .junk, .int .i64 r.1, .int .i64 r.2.1, .flt .f32 r.2.2], ohl := fun r => [] }
def impl_nearest_loop0_ext : St → Option ((List Body × Int) × (Int × Int × Nat × Int) × List Nat) := fun S => match (S.tm 0).unK, (S.tm 5).unK, (S.tm 6).unK, (S.tm 7).unK, (S.tm 12).unK, (S.tm 13).unK with
  | .vslc 1 .body q0, .int .i64 q1, .int .i64 q2, .flt .f32 q3, .int .i64 q4, .int .i64 q5 => some ((q0, q4), (q1, q2, q3, q5), [])
  | _, _, _, _, _, _ => none
def impl_nearest_loop0_post (p : List Body × Int) (r : Int × Int × Nat) : DT (Ex × St) := .leaf (.exit 0, LSt [.junk, .junk, .junk, .junk, .junk, .int .i64 r.1, .int .i64 r.2.1, .flt .f32 r.2.2] [])
def impl_nearest_loop0 (p : List Body × Int) (s : Int × Int × Nat × Int) : Int × Int × Nat := loopVal (impl_nearest_loop0_step p) s
def impl_nearest_loop0_ends (p : List Body × Int) (s : Int × Int × Nat × Int) : Bool := loopEnds (impl_nearest_loop0_step p) s
def impl_nearest_loop0_F : LoopF := loopF impl_nearest_loop0_step impl_nearest_loop0_ext impl_nearest_loop0_post
set_option maxRecDepth 100000 in
theorem impl_nearest_loop0_hext : ∀ S p s fl, impl_nearest_loop0_ext S = some (p, s, fl) → Norm S fl ((impl_nearest_loop0_L p).tl s) ((impl_nearest_loop0_L p).hl s) (impl_nearest_loop0_L p).gl := by
  intro S p s fl h
  unfold impl_nearest_loop0_ext at h
  (repeat' split at h) <;> first
    | (cases h; constructor <;> simp_all [impl_nearest_loop0_L, keepT, keepH, rens, renH, PV.ren, Blk.ren, fOf, lget, nodup, natIn, lenEq, gtm, PV.unK])
    | cases h
set_option maxRecDepth 100000 in
theorem impl_nearest_loop0_hpost : ∀ p r e S', (impl_nearest_loop0_post p r).get = some (e, S') → e = (impl_nearest_loop0_L p).ex r ∧ S' = LSt ((impl_nearest_loop0_L p).otl r) ((impl_nearest_loop0_L p).ohl r) ((impl_nearest_loop0_L p).ogl r) := by
  intro p r e S' h
  unfold impl_nearest_loop0_post at h
  simp only [DT.get, Option.some.injEq, Prod.mk.injEq] at h; exact ⟨h.1.symm, h.2.symm⟩

def impl_nearest_loops : Nat → Option LoopF := loopTab [(6, impl_nearest_loop1_F), (3, impl_nearest_loop0_F)]
set_option maxRecDepth 100000 in
theorem impl_nearest_l1 : LoopOK Try.prog ⟨gam [(50, impl_LessVectors_c), (12, impl_SizeOfVector_c)], tab, 50, impl_nearest_loops⟩ (lp Try.f52 1) :=
  loopOK_some (F := impl_nearest_loop1_F) (by kernel_rfl) (loopF_ok (E := ⟨gam [(50, impl_LessVectors_c), (12, impl_SizeOfVector_c)], tab, 50, impl_nearest_loops⟩) ⟨gam_cons impl_LessVectors_ok (gam_cons impl_SizeOfVector_ok (gam_nil)), tab_ok, by kernel_rfl⟩ (fuel := 100000) (loopsOK_list (l := []) (by kernel_rfl) trivial) (L := impl_nearest_loop1_L) (fun p s => by unfold AgreeL; exact ⟨by kernel_rfl, by kernel_rfl⟩) (fun _ _ h => Ex.noConfusion h) impl_nearest_loop1_hext impl_nearest_loop1_hpost)
set_option maxRecDepth 100000 in
theorem impl_nearest_l0 : LoopOK Try.prog ⟨gam [(50, impl_LessVectors_c), (12, impl_SizeOfVector_c)], tab, 50, impl_nearest_loops⟩ (lp Try.f52 0) :=
  loopOK_some (F := impl_nearest_loop0_F) (by kernel_rfl) (loopF_ok (E := ⟨gam [(50, impl_LessVectors_c), (12, impl_SizeOfVector_c)], tab, 50, impl_nearest_loops⟩) ⟨gam_cons impl_LessVectors_ok (gam_cons impl_SizeOfVector_ok (gam_nil)), tab_ok, by kernel_rfl⟩ (fuel := 100000) (loopsOK_list (l := [lp Try.f52 1]) (by kernel_rfl) ⟨impl_nearest_l1, trivial⟩) (L := impl_nearest_loop0_L) (fun p s => by unfold AgreeL; exact ⟨by kernel_rfl, by kernel_rfl⟩) (fun _ _ h => Ex.noConfusion h) impl_nearest_loop0_hext impl_nearest_loop0_hpost)
/-- loop.example/g01284/impl.nearest -/
def impl_nearest_tree (a0 : List Body) : DT (Int × Int × Nat) :=
  let x0 := ((List.length a0 : Nat) : Int);
  .need ((impl_nearest_loop0_ends (a0, x0) ((-1), (-1), 0, 0))) (
  let x1 := impl_nearest_loop0 (a0, x0) ((-1), (-1), 0, 0);
  .leaf (x1.1, x1.2.1, x1.2.2))
def impl_nearest (a0 : List Body) : Int × Int × Nat := (impl_nearest_tree a0).val
def impl_nearest_need (a0 : List Body) : Bool := (impl_nearest_tree a0).ok
def impl_nearest_mk (p : Int × Int × Nat) : Ret := ⟨.tup [.int .i64 p.1, .int .i64 p.2.1, .flt .f32 p.2.2], []⟩
def impl_nearest_c0 : Con := fun args => match args with
  | [.vslc 1 .body a0] => some (.need (impl_nearest_need a0) (.leaf (impl_nearest_mk (impl_nearest a0))))
  | _ => none
set_option maxRecDepth 100000 in
theorem impl_nearest_ok0 : FunOK Try.prog 52 impl_nearest_c0.fn := by
  refine con_ok (Γ := gam [(50, impl_LessVectors_c), (12, impl_SizeOfVector_c)]) (gam_cons impl_LessVectors_ok (gam_cons impl_SizeOfVector_ok (gam_nil))) tab_ok (by kernel_rfl) Try.func52 (by kernel_rfl) (by kernel_rfl) Try.ntmps52 Try.results52 (loops := impl_nearest_loops) (loopsOK_list (l := [lp Try.f52 0, lp Try.f52 1]) (by kernel_rfl) ⟨impl_nearest_l0, ⟨impl_nearest_l1, trivial⟩⟩) 100000 fun args t h => ?_
  unfold impl_nearest_c0 at h
  split at h
  · rename_i a0
    cases h
    exact ⟨rfl, agree_need (mk := impl_nearest_mk) (t := impl_nearest_tree a0) (by unfold Agree; kernel_rfl)⟩
  · cases h
def impl_nearest_c : Con := fun args => impl_nearest_c0 (norms 0 [.slc .body] args)
set_option maxRecDepth 100000 in
theorem impl_nearest_ok : FunOK Try.prog 52 impl_nearest_c.fn := con_norm [.slc .body] impl_nearest_ok0

/-- loop.example/g01284/impl.NearestBodies -/
def impl_NearestBodies_tree (a0 : List Body) : DT (Int × Int × Nat × Bool) :=
  .need ((impl_AreBodies_need a0)) (
  let x0 := impl_AreBodies a0;
  .ask (!x0)
  (
   .leaf (0, 0, 0, false))
  (
   let x1 := ((List.length a0 : Nat) : Int);
   let x2 := decide (x1 < 2);
   .ask x2
   (
    .leaf (0, 0, 0, false))
   (
    .need ((impl_nearest_need a0)) (
    let x3 := impl_nearest a0;
    .need ((impl_IsFinite_need x3.2.2)) (
    let x4 := impl_IsFinite x3.2.2;
    .ask (!x4)
    (
     .leaf (0, 0, 0, false))
    (
     .leaf (x3.1, x3.2.1, x3.2.2, true)))))))
def impl_NearestBodies (a0 : List Body) : Int × Int × Nat × Bool := (impl_NearestBodies_tree a0).val
def impl_NearestBodies_need (a0 : List Body) : Bool := (impl_NearestBodies_tree a0).ok
def impl_NearestBodies_mk (p : Int × Int × Nat × Bool) : Ret := ⟨.tup [.int .i64 p.1, .int .i64 p.2.1, .flt .f32 p.2.2.1, .bool p.2.2.2], []⟩
def impl_NearestBodies_c0 : Con := fun args => match args with
  | [.vslc 1 .body a0] => some (.need (impl_NearestBodies_need a0) (.leaf (impl_NearestBodies_mk (impl_NearestBodies a0))))
  | _ => none
set_option maxRecDepth 100000 in
theorem impl_NearestBodies_ok0 : FunOK Try.prog 11 impl_NearestBodies_c0.fn := by
  refine con_ok (Γ := gam [(40, impl_AreBodies_c), (52, impl_nearest_c), (42, impl_IsFinite_c)]) (gam_cons impl_AreBodies_ok (gam_cons impl_nearest_ok (gam_cons impl_IsFinite_ok (gam_nil)))) tab_ok (by kernel_rfl) Try.func11 (by kernel_rfl) (by kernel_rfl) Try.ntmps11 Try.results11 (loopsOK_none rfl _) 100000 fun args t h => ?_
  unfold impl_NearestBodies_c0 at h
  split at h
  · rename_i a0
    cases h
    exact ⟨rfl, agree_need (mk := impl_NearestBodies_mk) (t := impl_NearestBodies_tree a0) (by unfold Agree; kernel_rfl)⟩
  · cases h
def impl_NearestBodies_c : Con := fun args => impl_NearestBodies_c0 (norms 0 [.slc .body] args)
set_option maxRecDepth 100000 in
theorem impl_NearestBodies_ok : FunOK Try.prog 11 impl_NearestBodies_c.fn := con_norm [.slc .body] impl_NearestBodies_ok0

/-- loop.example/g01284/laws.r8Gap -/
def laws_r8Gap_tree (a0 : Nat) (a1 : Nat) : DT (Nat) :=
  let x0 := fsub .f64 a0 a1;
  let x1 := fsub .f64 a1 a0;
  .need (ordOk .f64 x0 x1) (
  let x2 := fmax .f64 x0 x1;
  .leaf x2)
def laws_r8Gap (a0 : Nat) (a1 : Nat) : Nat := (laws_r8Gap_tree a0 a1).val
def laws_r8Gap_need (a0 : Nat) (a1 : Nat) : Bool := (laws_r8Gap_tree a0 a1).ok
def laws_r8Gap_mk (p : Nat) : Ret := ⟨.flt .f64 p, []⟩
def laws_r8Gap_c : Con := fun args => match args with
  | [.flt .f64 a0, .flt .f64 a1] => some (.need (laws_r8Gap_need a0 a1) (.leaf (laws_r8Gap_mk (laws_r8Gap a0 a1))))
  | _ => none
set_option maxRecDepth 100000 in
theorem laws_r8Gap_ok : FunOK Try.prog 13 laws_r8Gap_c.fn := by
  refine con_ok (Γ := gam []) (gam_nil) tab_ok (by kernel_rfl) Try.func13 (by kernel_rfl) (by kernel_rfl) Try.ntmps13 Try.results13 (loopsOK_none rfl _) 100000 fun args t h => ?_
  unfold laws_r8Gap_c at h
  split at h
  · rename_i a0 a1
    cases h
    exact ⟨rfl, agree_need (mk := laws_r8Gap_mk) (t := laws_r8Gap_tree a0 a1) (by unfold Agree; kernel_rfl)⟩
  · cases h

/-- math.NaN -/
def math_NaN_tree  : DT (Nat) :=
  let x0 := canon .f64 (Int.toNat 9221120237041090561);
  .leaf x0
def math_NaN  : Nat := (math_NaN_tree ).val
def math_NaN_mk (p : Nat) : Ret := ⟨.flt .f64 p, []⟩
def math_NaN_c : Con := fun args => match args with
  | [] => some (.leaf (math_NaN_mk (math_NaN )))
  | _ => none
set_option maxRecDepth 100000 in
theorem math_NaN_ok : FunOK Try.prog 95 math_NaN_c.fn := by
  refine con_ok (Γ := gam [(125, math_Float64frombits_c)]) (gam_cons math_Float64frombits_ok (gam_nil)) tab_ok (by kernel_rfl) Try.func95 (by kernel_rfl) (by kernel_rfl) Try.ntmps95 Try.results95 (loopsOK_none rfl _) 100000 fun args t h => ?_
  unfold math_NaN_c at h
  split at h
  · cases h
    exact ⟨rfl, agree_tot (mk := math_NaN_mk) (t := math_NaN_tree ) (by unfold Agree; kernel_rfl) (by kernel_rfl)⟩
  · cases h

-- FAILED 137 math.Copysign: nanb

-- FAILED 135 math.trunc: no contract: math.Copysign 

/-- math.Trunc -/
def math_Trunc_tree (a0 : Nat) : DT (Nat) :=
  let x0 := ftrunc a0;
  .leaf x0
def math_Trunc (a0 : Nat) : Nat := (math_Trunc_tree a0).val
def math_Trunc_mk (p : Nat) : Ret := ⟨.flt .f64 p, []⟩
def math_Trunc_c : Con := fun args => match args with
  | [.flt .f64 a0] => some (.leaf (math_Trunc_mk (math_Trunc a0)))
  | _ => none
set_option maxRecDepth 100000 in
theorem math_Trunc_ok : FunOK Try.prog 131 math_Trunc_c.fn := by
  refine con_ok (Γ := gam [(134, math_archTrunc_c)]) (gam_cons math_archTrunc_ok (gam_nil)) tab_ok (by kernel_rfl) Try.func131 (by kernel_rfl) (by kernel_rfl) Try.ntmps131 Try.results131 (loopsOK_none rfl _) 100000 fun args t h => ?_
  unfold math_Trunc_c at h
  split at h
  · rename_i a0
    cases h
    exact ⟨rfl, agree_tot (mk := math_Trunc_mk) (t := math_Trunc_tree a0) (by unfold Agree; kernel_rfl) (by kernel_rfl)⟩
  · cases h

/-- loop.example/g01284/impl.behind -/
def impl_behind_tree (a0 : Nat) : DT (Nat) :=
  let x0 := math_Trunc a0;
  let x1 := fadd .f64 x0 0;
  let x2 := fsub .f64 a0 x1;
  let x3 := flt .f64 x2 0;
  .ask x3
  (
   let x4 := fadd .f64 x2 4607182418800017408;
   .leaf x4)
  (
   .leaf x2)
def impl_behind (a0 : Nat) : Nat := (impl_behind_tree a0).val
def impl_behind_mk (p : Nat) : Ret := ⟨.flt .f64 p, []⟩
def impl_behind_c : Con := fun args => match args with
  | [.flt .f64 a0] => some (.leaf (impl_behind_mk (impl_behind a0)))
  | _ => none
set_option maxRecDepth 100000 in
theorem impl_behind_ok : FunOK Try.prog 111 impl_behind_c.fn := by
  refine con_ok (Γ := gam [(131, math_Trunc_c)]) (gam_cons math_Trunc_ok (gam_nil)) tab_ok (by kernel_rfl) Try.func111 (by kernel_rfl) (by kernel_rfl) Try.ntmps111 Try.results111 (loopsOK_none rfl _) 100000 fun args t h => ?_
  unfold impl_behind_c at h
  split at h
  · rename_i a0
    cases h
    exact ⟨rfl, agree_tot (mk := impl_behind_mk) (t := impl_behind_tree a0) (by unfold Agree; kernel_rfl) (by kernel_rfl)⟩
  · cases h

/-- loop.example/g01284/impl.sine -/
def impl_sine_tree (a0 : Nat) : DT (Nat) :=
  let x0 := impl_behind a0;
  let x1 := fge .f64 x0 4602678819172646912;
  .ask x1
  (
   let x2 := fsub .f64 x0 4602678819172646912;
   let x3 := fgt .f64 x2 4598175219545276416;
   .ask x3
   (
    let x4 := fsub .f64 4602678819172646912 x2;
    let x5 := fmul .f64 x4 4618760256179416344;
    let x6 := fmul .f64 x5 x5;
    .skip (
    let x7 := fmul .f64 x6 4607182418800017408;
    let x8 := fofInt .f64 272;
    let x9 := fdiv .f64 x7 x8;
    let x10 := fsub .f64 4607182418800017408 x9;
    .skip (
    let x11 := fmul .f64 x6 x10;
    let x12 := fofInt .f64 210;
    let x13 := fdiv .f64 x11 x12;
    let x14 := fsub .f64 4607182418800017408 x13;
    .skip (
    let x15 := fmul .f64 x6 x14;
    let x16 := fofInt .f64 156;
    let x17 := fdiv .f64 x15 x16;
    let x18 := fsub .f64 4607182418800017408 x17;
    .skip (
    let x19 := fmul .f64 x6 x18;
    let x20 := fofInt .f64 110;
    let x21 := fdiv .f64 x19 x20;
    let x22 := fsub .f64 4607182418800017408 x21;
    .skip (
    let x23 := fmul .f64 x6 x22;
    let x24 := fofInt .f64 72;
    let x25 := fdiv .f64 x23 x24;
    let x26 := fsub .f64 4607182418800017408 x25;
    .skip (
    let x27 := fmul .f64 x6 x26;
    let x28 := fofInt .f64 42;
    let x29 := fdiv .f64 x27 x28;
    let x30 := fsub .f64 4607182418800017408 x29;
    .skip (
    let x31 := fmul .f64 x6 x30;
    let x32 := fofInt .f64 20;
    let x33 := fdiv .f64 x31 x32;
    let x34 := fsub .f64 4607182418800017408 x33;
    .skip (
    let x35 := fmul .f64 x6 x34;
    let x36 := fofInt .f64 6;
    let x37 := fdiv .f64 x35 x36;
    let x38 := fsub .f64 4607182418800017408 x37;
    .skip (
    let x39 := fmul .f64 x5 x38;
    let x40 := fneg .f64 x39;
    .leaf x40))))))))))
   (
    let x4 := fmul .f64 x2 4618760256179416344;
    let x5 := fmul .f64 x4 x4;
    .skip (
    let x6 := fmul .f64 x5 4607182418800017408;
    let x7 := fofInt .f64 272;
    let x8 := fdiv .f64 x6 x7;
    let x9 := fsub .f64 4607182418800017408 x8;
    .skip (
    let x10 := fmul .f64 x5 x9;
    let x11 := fofInt .f64 210;
    let x12 := fdiv .f64 x10 x11;
    let x13 := fsub .f64 4607182418800017408 x12;
    .skip (
    let x14 := fmul .f64 x5 x13;
    let x15 := fofInt .f64 156;
    let x16 := fdiv .f64 x14 x15;
    let x17 := fsub .f64 4607182418800017408 x16;
    .skip (
    let x18 := fmul .f64 x5 x17;
    let x19 := fofInt .f64 110;
    let x20 := fdiv .f64 x18 x19;
    let x21 := fsub .f64 4607182418800017408 x20;
    .skip (
    let x22 := fmul .f64 x5 x21;
    let x23 := fofInt .f64 72;
    let x24 := fdiv .f64 x22 x23;
    let x25 := fsub .f64 4607182418800017408 x24;
    .skip (
    let x26 := fmul .f64 x5 x25;
    let x27 := fofInt .f64 42;
    let x28 := fdiv .f64 x26 x27;
    let x29 := fsub .f64 4607182418800017408 x28;
    .skip (
    let x30 := fmul .f64 x5 x29;
    let x31 := fofInt .f64 20;
    let x32 := fdiv .f64 x30 x31;
    let x33 := fsub .f64 4607182418800017408 x32;
    .skip (
    let x34 := fmul .f64 x5 x33;
    let x35 := fofInt .f64 6;
    let x36 := fdiv .f64 x34 x35;
    let x37 := fsub .f64 4607182418800017408 x36;
    .skip (
    let x38 := fmul .f64 x4 x37;
    let x39 := fneg .f64 x38;
    .leaf x39)))))))))))
  (
   let x2 := fgt .f64 x0 4598175219545276416;
   .ask x2
   (
    let x3 := fsub .f64 4602678819172646912 x0;
    let x4 := fmul .f64 x3 4618760256179416344;
    let x5 := fmul .f64 x4 x4;
    .skip (
    let x6 := fmul .f64 x5 4607182418800017408;
    let x7 := fofInt .f64 272;
    let x8 := fdiv .f64 x6 x7;
    let x9 := fsub .f64 4607182418800017408 x8;
    .skip (
    let x10 := fmul .f64 x5 x9;
    let x11 := fofInt .f64 210;
    let x12 := fdiv .f64 x10 x11;
    let x13 := fsub .f64 4607182418800017408 x12;
    .skip (
    let x14 := fmul .f64 x5 x13;
    let x15 := fofInt .f64 156;
    let x16 := fdiv .f64 x14 x15;
    let x17 := fsub .f64 4607182418800017408 x16;
    .skip (
    let x18 := fmul .f64 x5 x17;
    let x19 := fofInt .f64 110;
    let x20 := fdiv .f64 x18 x19;
    let x21 := fsub .f64 4607182418800017408 x20;
    .skip (
    let x22 := fmul .f64 x5 x21;
    let x23 := fofInt .f64 72;
    let x24 := fdiv .f64 x22 x23;
    let x25 := fsub .f64 4607182418800017408 x24;
    .skip (
    let x26 := fmul .f64 x5 x25;
    let x27 := fofInt .f64 42;
    let x28 := fdiv .f64 x26 x27;
    let x29 := fsub .f64 4607182418800017408 x28;
    .skip (
    let x30 := fmul .f64 x5 x29;
    let x31 := fofInt .f64 20;
    let x32 := fdiv .f64 x30 x31;
    let x33 := fsub .f64 4607182418800017408 x32;
    .skip (
    let x34 := fmul .f64 x5 x33;
    let x35 := fofInt .f64 6;
    let x36 := fdiv .f64 x34 x35;
    let x37 := fsub .f64 4607182418800017408 x36;
    .skip (
    let x38 := fmul .f64 x4 x37;
    .leaf x38))))))))))
   (
    let x3 := fmul .f64 x0 4618760256179416344;
    let x4 := fmul .f64 x3 x3;
    .skip (
    let x5 := fmul .f64 x4 4607182418800017408;
    let x6 := fofInt .f64 272;
    let x7 := fdiv .f64 x5 x6;
    let x8 := fsub .f64 4607182418800017408 x7;
    .skip (
    let x9 := fmul .f64 x4 x8;
    let x10 := fofInt .f64 210;
    let x11 := fdiv .f64 x9 x10;
    let x12 := fsub .f64 4607182418800017408 x11;
    .skip (
    let x13 := fmul .f64 x4 x12;
    let x14 := fofInt .f64 156;
    let x15 := fdiv .f64 x13 x14;
    let x16 := fsub .f64 4607182418800017408 x15;
    .skip (
    let x17 := fmul .f64 x4 x16;
    let x18 := fofInt .f64 110;
    let x19 := fdiv .f64 x17 x18;
    let x20 := fsub .f64 4607182418800017408 x19;
    .skip (
    let x21 := fmul .f64 x4 x20;
    let x22 := fofInt .f64 72;
    let x23 := fdiv .f64 x21 x22;
    let x24 := fsub .f64 4607182418800017408 x23;
    .skip (
    let x25 := fmul .f64 x4 x24;
    let x26 := fofInt .f64 42;
    let x27 := fdiv .f64 x25 x26;
    let x28 := fsub .f64 4607182418800017408 x27;
    .skip (
    let x29 := fmul .f64 x4 x28;
    let x30 := fofInt .f64 20;
    let x31 := fdiv .f64 x29 x30;
    let x32 := fsub .f64 4607182418800017408 x31;
    .skip (
    let x33 := fmul .f64 x4 x32;
    let x34 := fofInt .f64 6;
    let x35 := fdiv .f64 x33 x34;
    let x36 := fsub .f64 4607182418800017408 x35;
    .skip (
    let x37 := fmul .f64 x3 x36;
    .leaf x37)))))))))))
def impl_sine (a0 : Nat) : Nat := (impl_sine_tree a0).val
def impl_sine_mk (p : Nat) : Ret := ⟨.flt .f64 p, []⟩
def impl_sine_c : Con := fun args => match args with
  | [.flt .f64 a0] => some (.leaf (impl_sine_mk (impl_sine a0)))
  | _ => none
set_option maxRecDepth 100000 in
theorem impl_sine_ok : FunOK Try.prog 74 impl_sine_c.fn := by
  refine con_ok (Γ := gam [(111, impl_behind_c)]) (gam_cons impl_behind_ok (gam_nil)) tab_ok (by kernel_rfl) Try.func74 (by kernel_rfl) (by kernel_rfl) Try.ntmps74 Try.results74 (loopsOK_none rfl _) 100000 fun args t h => ?_
  unfold impl_sine_c at h
  split at h
  · rename_i a0
    cases h
    exact ⟨rfl, agree_tot (mk := impl_sine_mk) (t := impl_sine_tree a0) (by unfold Agree; kernel_rfl) (by kernel_rfl)⟩
  · cases h

/-- loop.example/g01284/impl.SineTurns -/
def impl_SineTurns_tree (a0 : Nat) : DT (Nat) :=
  .need ((impl_IsFinite_need a0)) (
  let x0 := impl_IsFinite a0;
  .ask (!x0)
  (
   let x1 := math_NaN ;
   .need ((fconvOk .f64 x1 .f32)) (
   let x2 := fconv .f64 x1 .f32;
   .leaf x2))
  (
   .need ((fconvOk .f32 a0 .f64)) (
   let x1 := fconv .f32 a0 .f64;
   let x2 := math_Abs x1;
   let x3 := fge .f64 x2 4841369599423283200;
   .ask x3
   (
    .leaf 0)
   (
    .need ((fconvOk .f32 a0 .f64)) (
    let x4 := fconv .f32 a0 .f64;
    let x5 := impl_sine x4;
    .need ((fconvOk .f64 x5 .f32)) (
    let x6 := fconv .f64 x5 .f32;
    .leaf x6))))))
def impl_SineTurns (a0 : Nat) : Nat := (impl_SineTurns_tree a0).val
def impl_SineTurns_need (a0 : Nat) : Bool := (impl_SineTurns_tree a0).ok
def impl_SineTurns_mk (p : Nat) : Ret := ⟨.flt .f32 p, []⟩
def impl_SineTurns_c : Con := fun args => match args with
  | [.flt .f32 a0] => some (.need (impl_SineTurns_need a0) (.leaf (impl_SineTurns_mk (impl_SineTurns a0))))
  | _ => none
set_option maxRecDepth 100000 in
theorem impl_SineTurns_ok : FunOK Try.prog 53 impl_SineTurns_c.fn := by
  refine con_ok (Γ := gam [(42, impl_IsFinite_c), (95, math_NaN_c), (96, math_Abs_c), (74, impl_sine_c)]) (gam_cons impl_IsFinite_ok (gam_cons math_NaN_ok (gam_cons math_Abs_ok (gam_cons impl_sine_ok (gam_nil))))) tab_ok (by kernel_rfl) Try.func53 (by kernel_rfl) (by kernel_rfl) Try.ntmps53 Try.results53 (loopsOK_none rfl _) 100000 fun args t h => ?_
  unfold impl_SineTurns_c at h
  split at h
  · rename_i a0
    cases h
    exact ⟨rfl, agree_need (mk := impl_SineTurns_mk) (t := impl_SineTurns_tree a0) (by unfold Agree; kernel_rfl)⟩
  · cases h

/-- a loop of impl_PolygonBodies -/
def impl_PolygonBodies_loop0_step (p : Int × Nat × Nat) (s : Nat × Int) : Round (Nat × Int) (Nat) :=
  let x0 := decide (s.2 < p.1);
  .ask x0
  (
   let x1 := fofInt .f32 s.2;
   let x2 := IntKind.wrap .i64 (2 * p.1);
   let x3 := fofInt .f32 x2;
   let x4 := fdiv .f32 x1 x3;
   .need ((impl_SineTurns_need x4)) (
   let x5 := impl_SineTurns x4;
   let x6 := fdiv .f32 1065353216 x5;
   let x7 := fadd .f32 s.1 x6;
   let x8 := IntKind.wrap .i64 (s.2 + 1);
   .leaf (.inl (x7, x8), [])))
  (
   .leaf (.inr s.1, []))
def impl_PolygonBodies_loop0_L (p : Int × Nat × Nat) : LoopS (Nat × Int) (Nat) := { tl := fun s => [.int .i64 p.1, .flt .f32 p.2.1, .flt .f32 p.2.2, .junk, .junk, .junk, .junk, .junk, .flt .f32 s.1, .int .i64 s.2], hl := fun s => [], ex := fun r => .exit 0, otl := fun r => [.int .i64 p.1, .flt .f32 p.2.1, .flt .f32 p.2.2, .junk, .junk, .junk, .junk, .junk, .flt .f32 r], ohl := fun r => [] }
def impl_PolygonBodies_loop0_ext : St → Option ((Int × Nat × Nat) × (Nat × Int) × List Nat) := fun S => match (S.tm 0).unK, (S.tm 1).unK, (S.tm 2).unK, (S.tm 8).unK, (S.tm 9).unK with
  | .int .i64 q0, .flt .f32 q1, .flt .f32 q2, .flt .f32 q3, .int .i64 q4 => some ((q0, q1, q2), (q3, q4), [])
  | _, _, _, _, _ => none
def impl_PolygonBodies_loop0_post (p : Int × Nat × Nat) (r : Nat) : DT (Ex × St) := .leaf (.exit 0, LSt [.int .i64 p.1, .flt .f32 p.2.1, .flt .f32 p.2.2, .junk, .junk, .junk, .junk, .junk, .flt .f32 r] [])
def impl_PolygonBodies_loop0 (p : Int × Nat × Nat) (s : Nat × Int) : Nat := loopVal (impl_PolygonBodies_loop0_step p) s
def impl_PolygonBodies_loop0_ends (p : Int × Nat × Nat) (s : Nat × Int) : Bool := loopEnds (impl_PolygonBodies_loop0_step p) s
def impl_PolygonBodies_loop0_F : LoopF := loopF impl_PolygonBodies_loop0_step impl_PolygonBodies_loop0_ext impl_PolygonBodies_loop0_post
set_option maxRecDepth 100000 in
theorem impl_PolygonBodies_loop0_hext : ∀ S p s fl, impl_PolygonBodies_loop0_ext S = some (p, s, fl) → Norm S fl ((impl_PolygonBodies_loop0_L p).tl s) ((impl_PolygonBodies_loop0_L p).hl s) (impl_PolygonBodies_loop0_L p).gl := by
  intro S p s fl h
  unfold impl_PolygonBodies_loop0_ext at h
  (repeat' split at h) <;> first
    | (cases h; constructor <;> simp_all [impl_PolygonBodies_loop0_L, keepT, keepH, rens, renH, PV.ren, Blk.ren, fOf, lget, nodup, natIn, lenEq, gtm, PV.unK])
    | cases h
set_option maxRecDepth 100000 in
theorem impl_PolygonBodies_loop0_hpost : ∀ p r e S', (impl_PolygonBodies_loop0_post p r).get = some (e, S') → e = (impl_PolygonBodies_loop0_L p).ex r ∧ S' = LSt ((impl_PolygonBodies_loop0_L p).otl r) ((impl_PolygonBodies_loop0_L p).ohl r) ((impl_PolygonBodies_loop0_L p).ogl r) := by
  intro p r e S' h
  unfold impl_PolygonBodies_loop0_post at h
  simp only [DT.get, Option.some.injEq, Prod.mk.injEq] at h; exact ⟨h.1.symm, h.2.symm⟩

/-- a loop of impl_PolygonBodies -/
def impl_PolygonBodies_loop1_step (p : Int × Nat × Nat × Nat × Int) (s : Int × List Body) : Round (Int × List Body) (List Body) :=
  let x0 := decide (s.1 < p.2.2.2.2);
  .ask x0
  (
   let x1 := fofInt .f32 s.1;
   let x2 := fofInt .f32 p.1;
   let x3 := fdiv .f32 x1 x2;
   let x4 := fadd .f32 x3 1048576000;
   .need ((impl_SineTurns_need x4)) (
   let x5 := impl_SineTurns x4;
   let x6 := fmul .f32 p.2.1 x5;
   .need ((impl_SineTurns_need x3)) (
   let x7 := impl_SineTurns x3;
   let x8 := fmul .f32 p.2.1 x7;
   let x9 := fmul .f32 p.2.2.2.1 x8;
   let x10 := fneg .f32 x9;
   let x11 := fmul .f32 p.2.2.2.1 x6;
   .need ((decide ((List.length s.2 + List.length [(⟨⟨x6, x8, 0⟩, ⟨x10, x11, 0⟩, p.2.2.1⟩ : Body)]) * 28 ≤ 140737488355328) && decide (List.length s.2 + List.length [(⟨⟨x6, x8, 0⟩, ⟨x10, x11, 0⟩, p.2.2.1⟩ : Body)] ≤ 9223372036854775807))) (
   let x12 := s.2 ++ [(⟨⟨x6, x8, 0⟩, ⟨x10, x11, 0⟩, p.2.2.1⟩ : Body)];
   let x13 := IntKind.wrap .i64 (s.1 + 1);
   .leaf (.inl (x13, x12), [281])))))
  (
   .leaf (.inr s.2, [0]))
def impl_PolygonBodies_loop1_L (p : Int × Nat × Nat × Nat × Int) : LoopS (Int × List Body) (List Body) := { tl := fun s => [.int .i64 p.1, .flt .f32 p.2.1, .flt .f32 p.2.2.1, .junk, .junk, .junk, .junk, .junk, .junk, .junk, .flt .f32 p.2.2.2.1, .own 0, .junk, .junk, .junk, .junk, .junk, .junk, .junk, .junk, .junk, .junk, .junk, .junk, .junk, .junk, .junk, .junk, .junk, .junk, .junk, .junk, .junk, .junk, .junk, .junk, .junk, .junk, .junk, .junk, .junk, .junk, .junk, .junk, .junk, .junk, .junk, .junk, .junk, .junk, .junk, .junk, .junk, .junk, .junk, .junk, .int .i64 p.2.2.2.2, .int .i64 s.1], hl := fun s => [some (.typed 43 .body s.2)], ex := fun r => .exit 2, otl := fun r => [.junk, .junk, .junk, .junk, .junk, .junk, .junk, .junk, .junk, .junk, .junk, .own 0], ohl := fun r => [some (.typed 43 .body r)] }
def impl_PolygonBodies_loop1_ext : St → Option ((Int × Nat × Nat × Nat × Int) × (Int × List Body) × List Nat) := fun S => match (S.tm 0).unK, (S.tm 1).unK, (S.tm 2).unK, (S.tm 10).unK, (S.tm 11).unK, (S.tm 56).unK, (S.tm 57).unK with
  | .int .i64 q0, .flt .f32 q1, .flt .f32 q2, .flt .f32 q3, .own i0, .int .i64 q4, .int .i64 q5 => (match S.hp i0 with
    | some (.typed 43 .body q6) => some ((q0, q1, q2, q3, q4), (q5, q6), [i0])
    | _ => none)
  | _, _, _, _, _, _, _ => none
def impl_PolygonBodies_loop1_post (p : Int × Nat × Nat × Nat × Int) (r : List Body) : DT (Ex × St) := .leaf (.exit 2, LSt [.junk, .junk, .junk, .junk, .junk, .junk, .junk, .junk, .junk, .junk, .junk, .own 0] [some (.typed 43 .body r)])
def impl_PolygonBodies_loop1 (p : Int × Nat × Nat × Nat × Int) (s : Int × List Body) : List Body := loopVal (impl_PolygonBodies_loop1_step p) s
def impl_PolygonBodies_loop1_ends (p : Int × Nat × Nat × Nat × Int) (s : Int × List Body) : Bool := loopEnds (impl_PolygonBodies_loop1_step p) s
def impl_PolygonBodies_loop1_F : LoopF := loopF impl_PolygonBodies_loop1_step impl_PolygonBodies_loop1_ext impl_PolygonBodies_loop1_post
set_option maxRecDepth 100000 in
theorem impl_PolygonBodies_loop1_hext : ∀ S p s fl, impl_PolygonBodies_loop1_ext S = some (p, s, fl) → Norm S fl ((impl_PolygonBodies_loop1_L p).tl s) ((impl_PolygonBodies_loop1_L p).hl s) (impl_PolygonBodies_loop1_L p).gl := by
  intro S p s fl h
  unfold impl_PolygonBodies_loop1_ext at h
  (repeat' split at h) <;> first
    | (cases h; constructor <;> simp_all [impl_PolygonBodies_loop1_L, keepT, keepH, rens, renH, PV.ren, Blk.ren, fOf, lget, nodup, natIn, lenEq, gtm, PV.unK])
    | cases h
set_option maxRecDepth 100000 in
theorem impl_PolygonBodies_loop1_hpost : ∀ p r e S', (impl_PolygonBodies_loop1_post p r).get = some (e, S') → e = (impl_PolygonBodies_loop1_L p).ex r ∧ S' = LSt ((impl_PolygonBodies_loop1_L p).otl r) ((impl_PolygonBodies_loop1_L p).ohl r) ((impl_PolygonBodies_loop1_L p).ogl r) := by
  intro p r e S' h
  unfold impl_PolygonBodies_loop1_post at h
  simp only [DT.get, Option.some.injEq, Prod.mk.injEq] at h; exact ⟨h.1.symm, h.2.symm⟩

def impl_PolygonBodies_loops : Nat → Option LoopF := loopTab [(5, impl_PolygonBodies_loop0_F), (11, impl_PolygonBodies_loop1_F)]
set_option maxRecDepth 100000 in
theorem impl_PolygonBodies_l1 : LoopOK Try.prog ⟨gam [(43, impl_within_c), (37, impl_aLength_c), (36, impl_aMass_c), (53, impl_SineTurns_c), (38, impl_RootNumber_c), (39, impl_asBodies_c)], tab, 95, impl_PolygonBodies_loops⟩ (lp Try.f14 1) :=
  loopOK_some (F := impl_PolygonBodies_loop1_F) (by kernel_rfl) (loopF_ok (E := ⟨gam [(43, impl_within_c), (37, impl_aLength_c), (36, impl_aMass_c), (53, impl_SineTurns_c), (38, impl_RootNumber_c), (39, impl_asBodies_c)], tab, 95, impl_PolygonBodies_loops⟩) ⟨gam_cons impl_within_ok (gam_cons impl_aLength_ok (gam_cons impl_aMass_ok (gam_cons impl_SineTurns_ok (gam_cons impl_RootNumber_ok (gam_cons impl_asBodies_ok (gam_nil)))))), tab_ok, by kernel_rfl⟩ (fuel := 100000) (loopsOK_list (l := []) (by kernel_rfl) trivial) (L := impl_PolygonBodies_loop1_L) (fun p s => by unfold AgreeL; exact ⟨by kernel_rfl, by kernel_rfl⟩) (fun _ _ h => Ex.noConfusion h) impl_PolygonBodies_loop1_hext impl_PolygonBodies_loop1_hpost)
set_option maxRecDepth 100000 in
theorem impl_PolygonBodies_l0 : LoopOK Try.prog ⟨gam [(43, impl_within_c), (37, impl_aLength_c), (36, impl_aMass_c), (53, impl_SineTurns_c), (38, impl_RootNumber_c), (39, impl_asBodies_c)], tab, 95, impl_PolygonBodies_loops⟩ (lp Try.f14 0) :=
  loopOK_some (F := impl_PolygonBodies_loop0_F) (by kernel_rfl) (loopF_ok (E := ⟨gam [(43, impl_within_c), (37, impl_aLength_c), (36, impl_aMass_c), (53, impl_SineTurns_c), (38, impl_RootNumber_c), (39, impl_asBodies_c)], tab, 95, impl_PolygonBodies_loops⟩) ⟨gam_cons impl_within_ok (gam_cons impl_aLength_ok (gam_cons impl_aMass_ok (gam_cons impl_SineTurns_ok (gam_cons impl_RootNumber_ok (gam_cons impl_asBodies_ok (gam_nil)))))), tab_ok, by kernel_rfl⟩ (fuel := 100000) (loopsOK_list (l := []) (by kernel_rfl) trivial) (L := impl_PolygonBodies_loop0_L) (fun p s => by unfold AgreeL; exact ⟨by kernel_rfl, by kernel_rfl⟩) (fun _ _ h => Ex.noConfusion h) impl_PolygonBodies_loop0_hext impl_PolygonBodies_loop0_hpost)
/-- loop.example/g01284/impl.PolygonBodies -/
def impl_PolygonBodies_tree (a0 : Int) (a1 : Nat) (a2 : Nat) : DT ((Unit) ⊕ (List Body)) :=
  let x0 := impl_within a0 2 16;
  .ask (!x0)
  (
   .leaf (.inl ()))
  (
   .need ((impl_aLength_need a1)) (
   let x1 := impl_aLength a1;
   .ask (!x1)
   (
    .leaf (.inl ()))
   (
    .need ((impl_aMass_need a2)) (
    let x2 := impl_aMass a2;
    .ask (!x2)
    (
     .leaf (.inl ()))
    (
     .need ((impl_PolygonBodies_loop0_ends (a0, a1, a2) (0, 1))) (
     let x3 := impl_PolygonBodies_loop0 (a0, a1, a2) (0, 1);
     let x4 := fmul .f32 a2 x3;
     let x5 := fmul .f32 1082130432 a1;
     let x6 := fmul .f32 x5 a1;
     let x7 := fmul .f32 x6 a1;
     let x8 := fdiv .f32 x4 x7;
     .need ((impl_RootNumber_need x8)) (
     let x9 := impl_RootNumber x8;
     .need ((impl_PolygonBodies_loop1_ends (a0, a1, a2, x9, a0) (0, []))) (
     let x10 := impl_PolygonBodies_loop1 (a0, a1, a2, x9, a0) (0, []);
     .need ((impl_asBodies_need x10)) (
     let x11 := impl_asBodies x10;
     .ask ((isL x11))
     (
      .leaf (.inl ()))
     (
      .leaf (.inr x10)))))))))))
def impl_PolygonBodies (a0 : Int) (a1 : Nat) (a2 : Nat) : (Unit) ⊕ (List Body) := (impl_PolygonBodies_tree a0 a1 a2).val
def impl_PolygonBodies_need (a0 : Int) (a1 : Nat) (a2 : Nat) : Bool := (impl_PolygonBodies_tree a0 a1 a2).ok
def impl_PolygonBodies_mk0 (p : Unit) : Ret := ⟨.tup [.nils, .bool false], []⟩
def impl_PolygonBodies_mk1 (p : List Body) : Ret := ⟨.tup [.own 0, .bool true], [.typed 43 .body p]⟩
def impl_PolygonBodies_mk : (Unit) ⊕ (List Body) → Ret := fun v => match v with
  | (.inl p) => impl_PolygonBodies_mk0 p
  | (.inr p) => impl_PolygonBodies_mk1 p
def impl_PolygonBodies_forms (v : (Unit) ⊕ (List Body)) : DT Ret := .ask (isL v) (.leaf (impl_PolygonBodies_mk0 (leftD v))) (.leaf (impl_PolygonBodies_mk1 (rightD v)))
theorem impl_PolygonBodies_forms_get : ∀ v, (impl_PolygonBodies_forms v).get = some (impl_PolygonBodies_mk v) := by
  intro v
  rcases v with v | v <;> rfl
def impl_PolygonBodies_c : Con := fun args => match args with
  | [.int .i64 a0, .flt .f32 a1, .flt .f32 a2] => some (.need (impl_PolygonBodies_need a0 a1 a2) (impl_PolygonBodies_forms (impl_PolygonBodies a0 a1 a2)))
  | _ => none
set_option maxRecDepth 100000 in
theorem impl_PolygonBodies_ok : FunOK Try.prog 14 impl_PolygonBodies_c.fn := by
  refine con_ok (Γ := gam [(43, impl_within_c), (37, impl_aLength_c), (36, impl_aMass_c), (53, impl_SineTurns_c), (38, impl_RootNumber_c), (39, impl_asBodies_c)]) (gam_cons impl_within_ok (gam_cons impl_aLength_ok (gam_cons impl_aMass_ok (gam_cons impl_SineTurns_ok (gam_cons impl_RootNumber_ok (gam_cons impl_asBodies_ok (gam_nil))))))) tab_ok (by kernel_rfl) Try.func14 (by kernel_rfl) (by kernel_rfl) Try.ntmps14 Try.results14 (loops := impl_PolygonBodies_loops) (loopsOK_list (l := [lp Try.f14 0, lp Try.f14 1]) (by kernel_rfl) ⟨impl_PolygonBodies_l0, ⟨impl_PolygonBodies_l1, trivial⟩⟩) 100000 fun args t h => ?_
  unfold impl_PolygonBodies_c at h
  split at h
  · rename_i a0 a1 a2
    cases h
    exact ⟨rfl, agree_forms (mk := impl_PolygonBodies_mk) (t := impl_PolygonBodies_tree a0 a1 a2) (by unfold Agree; kernel_rfl) (fun h => h) (impl_PolygonBodies_forms_get _)⟩
  · cases h

/-- (*loop.example/g01284/spec.l00Src).next -/
def spec_l00Src_next_tree (a0_0 : List Int) (a0_1 : Int) (a0_2 : Int) : DT (Int × Int × Int) :=
  let x0 := ((List.length a0_0 : Nat) : Int);
  let x1 := decide (a0_1 < x0);
  .ask x1
  (
   .need ((decide (0 ≤ a0_1) && decide (a0_1 < ((List.length a0_0 : Nat) : Int)))) (
   let x2 := List.getD a0_0 (Int.toNat a0_1) default;
   let x3 := IntKind.wrap .i64 x2;
   let x4 := IntKind.wrap .i64 (a0_1 + 1);
   let x5 := IntKind.wrap .u64 (a0_2 * 6364136223846793005);
   let x6 := IntKind.wrap .u64 x3;
   let x7 := IntKind.wrap .u64 (x5 + x6);
   let x8 := IntKind.wrap .u64 (x7 + 1442695040888963407);
   let x9 := ((List.length a0_0 : Nat) : Int);
   let x10 := decide (x4 ≤ x9);
   .ask x10
   (
    .leaf (x3, x4, x8))
   (
    .skip (
    let x11 := Int.fdiv x8 (2 ^ (min (Int.toNat 40) (IntKind.bits .u64)));
    let x12 := IntKind.wrap .u64 (BitVec.ofInt (IntKind.bits .u64) x11 &&& BitVec.ofInt (IntKind.bits .u64) 255).toNat;
    let x13 := IntKind.wrap .i64 x12;
    .leaf (x13, x4, x8)))))
  (
   let x2 := IntKind.wrap .i64 (a0_1 + 1);
   let x3 := IntKind.wrap .u64 (a0_2 * 6364136223846793005);
   let x4 := IntKind.wrap .u64 (x3 + 0);
   let x5 := IntKind.wrap .u64 (x4 + 1442695040888963407);
   let x6 := ((List.length a0_0 : Nat) : Int);
   let x7 := decide (x2 ≤ x6);
   .ask x7
   (
    .leaf (0, x2, x5))
   (
    .skip (
    let x8 := Int.fdiv x5 (2 ^ (min (Int.toNat 40) (IntKind.bits .u64)));
    let x9 := IntKind.wrap .u64 (BitVec.ofInt (IntKind.bits .u64) x8 &&& BitVec.ofInt (IntKind.bits .u64) 255).toNat;
    let x10 := IntKind.wrap .i64 x9;
    .leaf (x10, x2, x5))))
def spec_l00Src_next (a0_0 : List Int) (a0_1 : Int) (a0_2 : Int) : Int × Int × Int := (spec_l00Src_next_tree a0_0 a0_1 a0_2).val
def spec_l00Src_next_need (a0_0 : List Int) (a0_1 : Int) (a0_2 : Int) : Bool := (spec_l00Src_next_tree a0_0 a0_1 a0_2).ok
def spec_l00Src_next_mk (p : Int × Int × Int) : PV × List (Option PV) := (.int .i64 p.1, [none, some (.int .i64 p.2.1), some (.int .u64 p.2.2)])
def spec_l00Src_next_M : BCon := fun cs ps => match cs, ps with
  | [.vslc 0 (.int .u8) a0_0, .int .i64 a0_1, .int .u64 a0_2], [] => some (.need (spec_l00Src_next_need a0_0 a0_1 a0_2) (.leaf (spec_l00Src_next_mk (spec_l00Src_next a0_0 a0_1 a0_2))))
  | _, _ => none
set_option maxRecDepth 100000 in
theorem spec_l00Src_next_ok : BoxOK Try.prog 97 spec_l00Src_next_M := by
  refine box_ok (Γ := gam []) (gam_nil) tab_ok (by kernel_rfl) Try.func97 (by kernel_rfl) (by kernel_rfl) Try.ntmps97 Try.results97 (loopsOK_none rfl _) 100000 fun cs ps t h => ?_
  unfold spec_l00Src_next_M at h
  split at h
  · rename_i a0_0 a0_1 a0_2
    cases h
    exact ⟨rfl, agreeB_need (mk := spec_l00Src_next_mk) (t := spec_l00Src_next_tree a0_0 a0_1 a0_2) (by unfold AgreeB; kernel_rfl)⟩
  · cases h

/-- (*loop.example/g01284/spec.l00Src).pick -/
def spec_l00Src_pick_tree (a0_0 : List Int) (a0_1 : Int) (a0_2 : Int) (a1 : Int) : DT (Int × Int × Int) :=
  let x0 := decide (a1 ≤ 1);
  .ask x0
  (
   .leaf (0, a0_1, a0_2))
  (
   .need ((spec_l00Src_next_need a0_0 a0_1 a0_2)) (
   let x1 := spec_l00Src_next a0_0 a0_1 a0_2;
   let x2 := decide (a1 > 200);
   .ask x2
   (
    let x3 := IntKind.wrap .i64 (x1.1 * 256);
    .need ((spec_l00Src_next_need a0_0 x1.2.1 x1.2.2)) (
    let x4 := spec_l00Src_next a0_0 x1.2.1 x1.2.2;
    let x5 := IntKind.wrap .i64 (x3 + x4.1);
    .need ((a1 != 0)) (
    let x6 := Int.tmod x5 a1;
    .leaf (x6, x4.2.1, x4.2.2))))
   (
    .need ((a1 != 0)) (
    let x3 := Int.tmod x1.1 a1;
    .leaf (x3, x1.2.1, x1.2.2)))))
def spec_l00Src_pick (a0_0 : List Int) (a0_1 : Int) (a0_2 : Int) (a1 : Int) : Int × Int × Int := (spec_l00Src_pick_tree a0_0 a0_1 a0_2 a1).val
def spec_l00Src_pick_need (a0_0 : List Int) (a0_1 : Int) (a0_2 : Int) (a1 : Int) : Bool := (spec_l00Src_pick_tree a0_0 a0_1 a0_2 a1).ok
def spec_l00Src_pick_mk (p : Int × Int × Int) : PV × List (Option PV) := (.int .i64 p.1, [none, some (.int .i64 p.2.1), some (.int .u64 p.2.2)])
def spec_l00Src_pick_M : BCon := fun cs ps => match cs, ps with
  | [.vslc 0 (.int .u8) a0_0, .int .i64 a0_1, .int .u64 a0_2], [.int .i64 a1] => some (.need (spec_l00Src_pick_need a0_0 a0_1 a0_2 a1) (.leaf (spec_l00Src_pick_mk (spec_l00Src_pick a0_0 a0_1 a0_2 a1))))
  | _, _ => none
set_option maxRecDepth 100000 in
theorem spec_l00Src_pick_ok : BoxOK Try.prog 55 spec_l00Src_pick_M := by
  refine box_ok (Γ := gam [] [] [(97, spec_l00Src_next_M)] []) (gam_box spec_l00Src_next_ok (gam_nil)) tab_ok (by kernel_rfl) Try.func55 (by kernel_rfl) (by kernel_rfl) Try.ntmps55 Try.results55 (loopsOK_none rfl _) 100000 fun cs ps t h => ?_
  unfold spec_l00Src_pick_M at h
  split at h
  · rename_i a0_0 a0_1 a0_2 a1
    cases h
    exact ⟨rfl, agreeB_need (mk := spec_l00Src_pick_mk) (t := spec_l00Src_pick_tree a0_0 a0_1 a0_2 a1) (by unfold AgreeB; kernel_rfl)⟩
  · cases h

/-- a loop of spec_R8Bodies -/
def spec_R8Bodies_loop0_step (p : List Int) (s : Int × Nat × Int × Int × List Body) : Round (Int × Nat × Int × Int × List Body) (List Body) :=
  let x0 := decide (s.1 > 0);
  .ask x0
  (
   .need ((spec_l00Src_pick_need p s.2.2.1 s.2.2.2.1 3)) (
   let x1 := spec_l00Src_pick p s.2.2.1 s.2.2.2.1 3;
   let x2 := IntKind.wrap .i64 (1 + x1.1);
   let x3 := fofInt .f32 x2;
   let x4 := fadd .f32 s.2.1 x3;
   .need ((spec_l00Src_pick_need p x1.2.1 x1.2.2 9)) (
   let x5 := spec_l00Src_pick p x1.2.1 x1.2.2 9;
   let x6 := IntKind.wrap .i64 (x5.1 - 4);
   let x7 := fofInt .f32 x6;
   let x8 := fdiv .f32 x7 1082130432;
   .need ((spec_l00Src_pick_need p x5.2.1 x5.2.2 9)) (
   let x9 := spec_l00Src_pick p x5.2.1 x5.2.2 9;
   let x10 := IntKind.wrap .i64 (x9.1 - 4);
   let x11 := fofInt .f32 x10;
   let x12 := fdiv .f32 x11 1082130432;
   .need ((spec_l00Src_pick_need p x9.2.1 x9.2.2 9)) (
   let x13 := spec_l00Src_pick p x9.2.1 x9.2.2 9;
   let x14 := IntKind.wrap .i64 (x13.1 - 4);
   let x15 := fofInt .f32 x14;
   let x16 := fdiv .f32 x15 1082130432;
   .need ((spec_l00Src_pick_need p x13.2.1 x13.2.2 9)) (
   let x17 := spec_l00Src_pick p x13.2.1 x13.2.2 9;
   let x18 := IntKind.wrap .i64 (x17.1 - 4);
   let x19 := fofInt .f32 x18;
   let x20 := fdiv .f32 x19 1082130432;
   .need ((spec_l00Src_pick_need p x17.2.1 x17.2.2 9)) (
   let x21 := spec_l00Src_pick p x17.2.1 x17.2.2 9;
   let x22 := IntKind.wrap .i64 (x21.1 - 4);
   let x23 := fofInt .f32 x22;
   let x24 := fdiv .f32 x23 1082130432;
   .need ((spec_l00Src_pick_need p x21.2.1 x21.2.2 8)) (
   let x25 := spec_l00Src_pick p x21.2.1 x21.2.2 8;
   let x26 := IntKind.wrap .i64 (1 + x25.1);
   let x27 := fofInt .f32 x26;
   let x28 := fdiv .f32 x27 1082130432;
   .need ((decide ((List.length s.2.2.2.2 + List.length [(⟨⟨x4, x8, x12⟩, ⟨x16, x20, x24⟩, x28⟩ : Body)]) * 28 ≤ 140737488355328) && decide (List.length s.2.2.2.2 + List.length [(⟨⟨x4, x8, x12⟩, ⟨x16, x20, x24⟩, x28⟩ : Body)] ≤ 9223372036854775807))) (
   let x29 := s.2.2.2.2 ++ [(⟨⟨x4, x8, x12⟩, ⟨x16, x20, x24⟩, x28⟩ : Body)];
   let x30 := IntKind.wrap .i64 (s.1 - 1);
   .leaf (.inl (x30, x4, x25.2.1, x25.2.2, x29), [0, 490]))))))))))
  (
   .leaf (.inr s.2.2.2.2, [1]))
def spec_R8Bodies_loop0_L (p : List Int) : LoopS (Int × Nat × Int × Int × List Body) (List Body) := { tl := fun s => [.junk, .int .i64 s.1, .junk, .junk, .junk, .ptr 0 0, .own 1, .flt .f32 s.2.1], hl := fun s => [some (.cells [.vslc 1 (.int .u8) p, .int .i64 s.2.2.1, .int .u64 s.2.2.2.1]), some (.typed 43 .body s.2.2.2.2)], ex := fun r => .exit 0, otl := fun r => [.junk, .junk, .junk, .junk, .junk, .junk, .own 0], ohl := fun r => [some (.typed 43 .body r)] }
def spec_R8Bodies_loop0_ext : St → Option ((List Int) × (Int × Nat × Int × Int × List Body) × List Nat) := fun S => match (S.tm 1).unK, (S.tm 5).unK, (S.tm 6).unK, (S.tm 7).unK with
  | .int .i64 q0, .ptr i0 0, .own i1, .flt .f32 q1 => (match S.hp i0 with
    | some (.cells [.vslc 1 (.int .u8) q2, .int .i64 q3, .int .u64 q4]) => (match S.hp i1 with
    | some (.typed 43 .body q5) => (if nodup [i0, i1] = true then some (q2, (q0, q1, q3, q4, q5), [i0, i1]) else none)
    | _ => none)
    | _ => none)
  | _, _, _, _ => none
def spec_R8Bodies_loop0_post (p : List Int) (r : List Body) : DT (Ex × St) := .leaf (.exit 0, LSt [.junk, .junk, .junk, .junk, .junk, .junk, .own 0] [some (.typed 43 .body r)])
def spec_R8Bodies_loop0 (p : List Int) (s : Int × Nat × Int × Int × List Body) : List Body := loopVal (spec_R8Bodies_loop0_step p) s
def spec_R8Bodies_loop0_ends (p : List Int) (s : Int × Nat × Int × Int × List Body) : Bool := loopEnds (spec_R8Bodies_loop0_step p) s
def spec_R8Bodies_loop0_F : LoopF := loopF spec_R8Bodies_loop0_step spec_R8Bodies_loop0_ext spec_R8Bodies_loop0_post
set_option maxRecDepth 100000 in
theorem spec_R8Bodies_loop0_hext : ∀ S p s fl, spec_R8Bodies_loop0_ext S = some (p, s, fl) → Norm S fl ((spec_R8Bodies_loop0_L p).tl s) ((spec_R8Bodies_loop0_L p).hl s) (spec_R8Bodies_loop0_L p).gl := by
  intro S p s fl h
  unfold spec_R8Bodies_loop0_ext at h
  (repeat' split at h) <;> first
    | (cases h; constructor <;> simp_all [spec_R8Bodies_loop0_L, keepT, keepH, rens, renH, PV.ren, Blk.ren, fOf, lget, nodup, natIn, lenEq, gtm, PV.unK])
    | cases h
set_option maxRecDepth 100000 in
theorem spec_R8Bodies_loop0_hpost : ∀ p r e S', (spec_R8Bodies_loop0_post p r).get = some (e, S') → e = (spec_R8Bodies_loop0_L p).ex r ∧ S' = LSt ((spec_R8Bodies_loop0_L p).otl r) ((spec_R8Bodies_loop0_L p).ohl r) ((spec_R8Bodies_loop0_L p).ogl r) := by
  intro p r e S' h
  unfold spec_R8Bodies_loop0_post at h
  simp only [DT.get, Option.some.injEq, Prod.mk.injEq] at h; exact ⟨h.1.symm, h.2.symm⟩

def spec_R8Bodies_loops : Nat → Option LoopF := loopTab [(4, spec_R8Bodies_loop0_F)]
set_option maxRecDepth 100000 in
theorem spec_R8Bodies_l0 : LoopOK Try.prog ⟨gam [] [] [(55, spec_l00Src_pick_M)] [(54, spec_l00From_M)], tab, 69, spec_R8Bodies_loops⟩ (lp Try.f15 0) :=
  loopOK_some (F := spec_R8Bodies_loop0_F) (by kernel_rfl) (loopF_ok (E := ⟨gam [] [] [(55, spec_l00Src_pick_M)] [(54, spec_l00From_M)], tab, 69, spec_R8Bodies_loops⟩) ⟨gam_box spec_l00Src_pick_ok (gam_new spec_l00From_ok (gam_nil)), tab_ok, by kernel_rfl⟩ (fuel := 100000) (loopsOK_list (l := []) (by kernel_rfl) trivial) (L := spec_R8Bodies_loop0_L) (fun p s => by unfold AgreeL; exact ⟨by kernel_rfl, by kernel_rfl⟩) (fun _ _ h => Ex.noConfusion h) spec_R8Bodies_loop0_hext spec_R8Bodies_loop0_hpost)
/-- loop.example/g01284/spec.R8Bodies -/
def spec_R8Bodies_tree (a0 : List Int) (a1 : Int) : DT (List Body) :=
  .need ((spec_R8Bodies_loop0_ends a0 (a1, 3231711232, 0, 0, []))) (
  let x0 := spec_R8Bodies_loop0 a0 (a1, 3231711232, 0, 0, []);
  .leaf x0)
def spec_R8Bodies (a0 : List Int) (a1 : Int) : List Body := (spec_R8Bodies_tree a0 a1).val
def spec_R8Bodies_need (a0 : List Int) (a1 : Int) : Bool := (spec_R8Bodies_tree a0 a1).ok
def spec_R8Bodies_mk (p : List Body) : Ret := ⟨.own 0, [.typed 43 .body p]⟩
def spec_R8Bodies_c0 : Con := fun args => match args with
  | [.vslc 1 (.int .u8) a0, .int .i64 a1] => some (.need (spec_R8Bodies_need a0 a1) (.leaf (spec_R8Bodies_mk (spec_R8Bodies a0 a1))))
  | _ => none
set_option maxRecDepth 100000 in
theorem spec_R8Bodies_ok0 : FunOK Try.prog 15 spec_R8Bodies_c0.fn := by
  refine con_ok (Γ := gam [] [] [(55, spec_l00Src_pick_M)] [(54, spec_l00From_M)]) (gam_box spec_l00Src_pick_ok (gam_new spec_l00From_ok (gam_nil))) tab_ok (by kernel_rfl) Try.func15 (by kernel_rfl) (by kernel_rfl) Try.ntmps15 Try.results15 (loops := spec_R8Bodies_loops) (loopsOK_list (l := [lp Try.f15 0]) (by kernel_rfl) ⟨spec_R8Bodies_l0, trivial⟩) 100000 fun args t h => ?_
  unfold spec_R8Bodies_c0 at h
  split at h
  · rename_i a0 a1
    cases h
    exact ⟨rfl, agree_need (mk := spec_R8Bodies_mk) (t := spec_R8Bodies_tree a0 a1) (by unfold Agree; kernel_rfl)⟩
  · cases h
def spec_R8Bodies_c : Con := fun args => spec_R8Bodies_c0 (norms 0 [.slc (.int .u8), .none] args)
set_option maxRecDepth 100000 in
theorem spec_R8Bodies_ok : FunOK Try.prog 15 spec_R8Bodies_c.fn := con_norm [.slc (.int .u8), .none] spec_R8Bodies_ok0

/-- loop.example/g01284/laws.r8Far -/
def laws_r8Far_tree (a0 : Vec) (a1 : Vec) : DT (Nat) :=
  let x0 := impl_LessVectors (⟨a0.X, a0.Y, a0.Z⟩ : Vec) (⟨a1.X, a1.Y, a1.Z⟩ : Vec);
  .need ((impl_SizeOfVector_need (⟨x0.X, x0.Y, x0.Z⟩ : Vec))) (
  let x1 := impl_SizeOfVector (⟨x0.X, x0.Y, x0.Z⟩ : Vec);
  .need ((fconvOk .f32 x1 .f64)) (
  let x2 := fconv .f32 x1 .f64;
  .leaf x2))
def laws_r8Far (a0 : Vec) (a1 : Vec) : Nat := (laws_r8Far_tree a0 a1).val
def laws_r8Far_need (a0 : Vec) (a1 : Vec) : Bool := (laws_r8Far_tree a0 a1).ok
def laws_r8Far_mk (p : Nat) : Ret := ⟨.flt .f64 p, []⟩
def laws_r8Far_c : Con := fun args => match args with
  | [.agg [.flt .f32 a0_0, .flt .f32 a0_1, .flt .f32 a0_2], .agg [.flt .f32 a1_0, .flt .f32 a1_1, .flt .f32 a1_2]] => some (.need (laws_r8Far_need (⟨a0_0, a0_1, a0_2⟩ : Vec) (⟨a1_0, a1_1, a1_2⟩ : Vec)) (.leaf (laws_r8Far_mk (laws_r8Far (⟨a0_0, a0_1, a0_2⟩ : Vec) (⟨a1_0, a1_1, a1_2⟩ : Vec)))))
  | _ => none
set_option maxRecDepth 100000 in
theorem laws_r8Far_ok : FunOK Try.prog 16 laws_r8Far_c.fn := by
  refine con_ok (Γ := gam [(50, impl_LessVectors_c), (12, impl_SizeOfVector_c)]) (gam_cons impl_LessVectors_ok (gam_cons impl_SizeOfVector_ok (gam_nil))) tab_ok (by kernel_rfl) Try.func16 (by kernel_rfl) (by kernel_rfl) Try.ntmps16 Try.results16 (loopsOK_none rfl _) 100000 fun args t h => ?_
  unfold laws_r8Far_c at h
  split at h
  · rename_i a0_0 a0_1 a0_2 a1_0 a1_1 a1_2
    cases h
    exact ⟨rfl, agree_need (mk := laws_r8Far_mk) (t := laws_r8Far_tree (⟨a0_0, a0_1, a0_2⟩ : Vec) (⟨a1_0, a1_1, a1_2⟩ : Vec)) (by unfold Agree; kernel_rfl)⟩
  · cases h

/-- a loop of impl_NearestPass -/
def impl_NearestPass_loop0_step (p : Nat × Nat × Int) (s : Int × Nat × Int × List Body) : Round (Int × Nat × Int × List Body) ((Int × Nat) ⊕ (Int × Nat)) :=
  let x0 := decide (s.2.2.1 ≤ p.2.2);
  .ask x0
  (
   .need ((impl_NearestBodies_need s.2.2.2)) (
   let x1 := impl_NearestBodies s.2.2.2;
   .ask (!x1.2.2.2)
   (
    .leaf (.inr (.inl ((0, 0))), []))
   (
    let x2 := decide (s.1 < 0);
    .ask x2
    (
     let x3 := (s.2.2.1 == p.2.2);
     .ask x3
     (
      .leaf (.inr (.inr ((s.2.2.1, x1.2.2.1))), []))
     (
      .need ((impl_StepBodies_need s.2.2.2 p.1 p.2.1)) (
      let x4 := impl_StepBodies s.2.2.2 p.1 p.2.1;
      .ask ((isL x4))
      (
       .skip (
       .leaf (.inr (.inl ((0, 0))), [])))
      (
       .skip (
       let x5 := IntKind.wrap .i64 (s.2.2.1 + 1);
       .leaf (.inl (s.2.2.1, x1.2.2.1, x5, (rightD x4)), [265]))))))
    (
     let x3 := flt .f32 x1.2.2.1 s.2.1;
     .ask x3
     (
      let x4 := (s.2.2.1 == p.2.2);
      .ask x4
      (
       .leaf (.inr (.inr ((s.2.2.1, x1.2.2.1))), []))
      (
       .need ((impl_StepBodies_need s.2.2.2 p.1 p.2.1)) (
       let x5 := impl_StepBodies s.2.2.2 p.1 p.2.1;
       .ask ((isL x5))
       (
        .skip (
        .leaf (.inr (.inl ((0, 0))), [])))
       (
        .skip (
        let x6 := IntKind.wrap .i64 (s.2.2.1 + 1);
        .leaf (.inl (s.2.2.1, x1.2.2.1, x6, (rightD x5)), [265]))))))
     (
      let x4 := (s.2.2.1 == p.2.2);
      .ask x4
      (
       .leaf (.inr (.inr ((s.1, s.2.1))), []))
      (
       .need ((impl_StepBodies_need s.2.2.2 p.1 p.2.1)) (
       let x5 := impl_StepBodies s.2.2.2 p.1 p.2.1;
       .ask ((isL x5))
       (
        .skip (
        .leaf (.inr (.inl ((0, 0))), [])))
       (
        .skip (
        let x6 := IntKind.wrap .i64 (s.2.2.1 + 1);
        .leaf (.inl (s.1, s.2.1, x6, (rightD x5)), [233]))))))))))
  (
   .leaf (.inr (.inr ((s.1, s.2.1))), []))
def impl_NearestPass_loop0_L (p : Nat × Nat × Int) : LoopS (Int × Nat × Int × List Body) ((Int × Nat) ⊕ (Int × Nat)) := { tl := fun s => [.own 0, .flt .f32 p.1, .flt .f32 p.2.1, .int .i64 p.2.2, .junk, .junk, .junk, .junk, .junk, .junk, .junk, .int .i64 s.1, .flt .f32 s.2.1, .int .i64 s.2.2.1], hl := fun s => [some (.typed 43 .body s.2.2.2)], ex := fun r => match r with | .inl r => .ret | .inr r => .exit 0, otl := fun r => match r with | .inl r => [.junk, .junk, .junk, .junk, .junk, .junk, .junk, .junk, .int .i64 r.1, .flt .f32 r.2, .bool false] | .inr r => [.junk, .junk, .junk, .junk, .junk, .junk, .junk, .junk, .junk, .junk, .junk, .int .i64 r.1, .flt .f32 r.2], ohl := fun r => match r with | .inl r => [] | .inr r => [] }
def impl_NearestPass_loop0_ext : St → Option ((Nat × Nat × Int) × (Int × Nat × Int × List Body) × List Nat) := fun S => match (S.tm 0).unK, (S.tm 1).unK, (S.tm 2).unK, (S.tm 3).unK, (S.tm 11).unK, (S.tm 12).unK, (S.tm 13).unK with
  | .own i0, .flt .f32 q0, .flt .f32 q1, .int .i64 q2, .int .i64 q3, .flt .f32 q4, .int .i64 q5 => (match S.hp i0 with
    | some (.typed 43 .body q6) => some ((q0, q1, q2), (q3, q4, q5, q6), [i0])
    | _ => none)
  | _, _, _, _, _, _, _ => none
def impl_NearestPass_loop0_post (p : Nat × Nat × Int) (r : (Int × Nat) ⊕ (Int × Nat)) : DT (Ex × St) := .ask (isL r) (.leaf (.ret, LSt [.junk, .junk, .junk, .junk, .junk, .junk, .junk, .junk, .int .i64 ((leftD r).1), .flt .f32 ((leftD r).2), .bool false] [])) (.leaf (.exit 0, LSt [.junk, .junk, .junk, .junk, .junk, .junk, .junk, .junk, .junk, .junk, .junk, .int .i64 ((rightD r).1), .flt .f32 ((rightD r).2)] []))
def impl_NearestPass_loop0 (p : Nat × Nat × Int) (s : Int × Nat × Int × List Body) : (Int × Nat) ⊕ (Int × Nat) := loopVal (impl_NearestPass_loop0_step p) s
def impl_NearestPass_loop0_ends (p : Nat × Nat × Int) (s : Int × Nat × Int × List Body) : Bool := loopEnds (impl_NearestPass_loop0_step p) s
def impl_NearestPass_loop0_F : LoopF := loopF impl_NearestPass_loop0_step impl_NearestPass_loop0_ext impl_NearestPass_loop0_post
set_option maxRecDepth 100000 in
theorem impl_NearestPass_loop0_hext : ∀ S p s fl, impl_NearestPass_loop0_ext S = some (p, s, fl) → Norm S fl ((impl_NearestPass_loop0_L p).tl s) ((impl_NearestPass_loop0_L p).hl s) (impl_NearestPass_loop0_L p).gl := by
  intro S p s fl h
  unfold impl_NearestPass_loop0_ext at h
  (repeat' split at h) <;> first
    | (cases h; constructor <;> simp_all [impl_NearestPass_loop0_L, keepT, keepH, rens, renH, PV.ren, Blk.ren, fOf, lget, nodup, natIn, lenEq, gtm, PV.unK])
    | cases h
set_option maxRecDepth 100000 in
theorem impl_NearestPass_loop0_hpost : ∀ p r e S', (impl_NearestPass_loop0_post p r).get = some (e, S') → e = (impl_NearestPass_loop0_L p).ex r ∧ S' = LSt ((impl_NearestPass_loop0_L p).otl r) ((impl_NearestPass_loop0_L p).ohl r) ((impl_NearestPass_loop0_L p).ogl r) := by
  intro p r e S' h
  unfold impl_NearestPass_loop0_post at h
  cases r <;> (simp only [isL, DT.get, Option.some.injEq, Prod.mk.injEq] at h; exact ⟨h.1.symm, h.2.symm⟩)

def impl_NearestPass_loops : Nat → Option LoopF := loopTab [(5, impl_NearestPass_loop0_F)]
set_option maxRecDepth 100000 in
theorem impl_NearestPass_l0 : LoopOK Try.prog ⟨gam [(40, impl_AreBodies_c), (41, impl_isCore_c), (42, impl_IsFinite_c), (43, impl_within_c), (11, impl_NearestBodies_c), (44, impl_StepBodies_c)], tab, 75, impl_NearestPass_loops⟩ (lp Try.f17 0) :=
  loopOK_some (F := impl_NearestPass_loop0_F) (by kernel_rfl) (loopF_ok (E := ⟨gam [(40, impl_AreBodies_c), (41, impl_isCore_c), (42, impl_IsFinite_c), (43, impl_within_c), (11, impl_NearestBodies_c), (44, impl_StepBodies_c)], tab, 75, impl_NearestPass_loops⟩) ⟨gam_cons impl_AreBodies_ok (gam_cons impl_isCore_ok (gam_cons impl_IsFinite_ok (gam_cons impl_within_ok (gam_cons impl_NearestBodies_ok (gam_cons impl_StepBodies_ok (gam_nil)))))), tab_ok, by kernel_rfl⟩ (fuel := 100000) (loopsOK_list (l := []) (by kernel_rfl) trivial) (L := impl_NearestPass_loop0_L) (fun p s => by unfold AgreeL; exact ⟨by kernel_rfl, by kernel_rfl⟩) (fun _ r h => by cases r <;> exact Ex.noConfusion h) impl_NearestPass_loop0_hext impl_NearestPass_loop0_hpost)
/-- loop.example/g01284/impl.NearestPass -/
def impl_NearestPass_tree (a0 : List Body) (a1 : Nat) (a2 : Nat) (a3 : Int) : DT (Int × Nat × Bool) :=
  .need ((impl_AreBodies_need a0)) (
  let x0 := impl_AreBodies a0;
  .ask (!x0)
  (
   .leaf (0, 0, false))
  (
   .need ((impl_isCore_need a1)) (
   let x1 := impl_isCore a1;
   .ask (!x1)
   (
    .leaf (0, 0, false))
   (
    .need ((impl_IsFinite_need a2)) (
    let x2 := impl_IsFinite a2;
    .ask (!x2)
    (
     .leaf (0, 0, false))
    (
     let x3 := impl_within a3 0 64;
     .ask (!x3)
     (
      .leaf (0, 0, false))
     (
      let x4 := decide (0 ≤ a3);
      .ask x4
      (
       .need ((impl_NearestBodies_need a0)) (
       let x5 := impl_NearestBodies a0;
       .ask (!x5.2.2.2)
       (
        .leaf (0, 0, false))
       (
        .skip (
        .skip (
        .skip (
        .skip (
        let x6 := (0 == a3);
        .ask x6
        (
         .leaf (0, x5.2.2.1, true))
        (
         .need ((impl_StepBodies_need a0 a1 a2)) (
         let x7 := impl_StepBodies a0 a1 a2;
         .ask ((isL x7))
         (
          .skip (
          .leaf (0, 0, false)))
         (
          .skip (
          .need ((impl_NearestPass_loop0_ends (a1, a2, a3) (0, x5.2.2.1, 1, (rightD x7)))) (
          let x8 := impl_NearestPass_loop0 (a1, a2, a3) (0, x5.2.2.1, 1, (rightD x7));
          .ask ((isL x8))
          (
           .leaf ((leftD x8).1, (leftD x8).2, false))
          (
           .leaf ((rightD x8).1, (rightD x8).2, true))))))))))))))
      (
       .leaf ((-1), 0, true)))))))))
def impl_NearestPass (a0 : List Body) (a1 : Nat) (a2 : Nat) (a3 : Int) : Int × Nat × Bool := (impl_NearestPass_tree a0 a1 a2 a3).val
def impl_NearestPass_need (a0 : List Body) (a1 : Nat) (a2 : Nat) (a3 : Int) : Bool := (impl_NearestPass_tree a0 a1 a2 a3).ok
def impl_NearestPass_mk (p : Int × Nat × Bool) : Ret := ⟨.tup [.int .i64 p.1, .flt .f32 p.2.1, .bool p.2.2], []⟩
def impl_NearestPass_c0 : Con := fun args => match args with
  | [.vslc 1 .body a0, .flt .f32 a1, .flt .f32 a2, .int .i64 a3] => some (.need (impl_NearestPass_need a0 a1 a2 a3) (.leaf (impl_NearestPass_mk (impl_NearestPass a0 a1 a2 a3))))
  | _ => none
set_option maxRecDepth 100000 in
theorem impl_NearestPass_ok0 : FunOK Try.prog 17 impl_NearestPass_c0.fn := by
  refine con_ok (Γ := gam [(40, impl_AreBodies_c), (41, impl_isCore_c), (42, impl_IsFinite_c), (43, impl_within_c), (11, impl_NearestBodies_c), (44, impl_StepBodies_c)]) (gam_cons impl_AreBodies_ok (gam_cons impl_isCore_ok (gam_cons impl_IsFinite_ok (gam_cons impl_within_ok (gam_cons impl_NearestBodies_ok (gam_cons impl_StepBodies_ok (gam_nil))))))) tab_ok (by kernel_rfl) Try.func17 (by kernel_rfl) (by kernel_rfl) Try.ntmps17 Try.results17 (loops := impl_NearestPass_loops) (loopsOK_list (l := [lp Try.f17 0]) (by kernel_rfl) ⟨impl_NearestPass_l0, trivial⟩) 100000 fun args t h => ?_
  unfold impl_NearestPass_c0 at h
  split at h
  · rename_i a0 a1 a2 a3
    cases h
    exact ⟨rfl, agree_need (mk := impl_NearestPass_mk) (t := impl_NearestPass_tree a0 a1 a2 a3) (by unfold Agree; kernel_rfl)⟩
  · cases h
def impl_NearestPass_c : Con := fun args => impl_NearestPass_c0 (norms 0 [.slc .body, .none, .none, .none] args)
set_option maxRecDepth 100000 in
theorem impl_NearestPass_ok : FunOK Try.prog 17 impl_NearestPass_c.fn := con_norm [.slc .body, .none, .none, .none] impl_NearestPass_ok0

/-- a loop of impl_areNear -/
def impl_areNear_loop0_step (p : List Body × List Body × Nat × Int) (s : Int) : Round (Int) ((Unit) ⊕ (Unit)) :=
  let x0 := decide (s < p.2.2.2);
  .ask x0
  (
   .need ((decide (0 ≤ s) && decide (s < ((List.length p.1 : Nat) : Int)))) (
   let x1 := List.getD p.1 (Int.toNat s) default;
   .need ((decide (0 ≤ s) && decide (s < ((List.length p.2.1 : Nat) : Int)))) (
   let x2 := List.getD p.2.1 (Int.toNat s) default;
   let x3 := impl_LessVectors (⟨x1.At.X, x1.At.Y, x1.At.Z⟩ : Vec) (⟨x2.At.X, x2.At.Y, x2.At.Z⟩ : Vec);
   .need ((impl_SizeOfVector_need (⟨x3.X, x3.Y, x3.Z⟩ : Vec))) (
   let x4 := impl_SizeOfVector (⟨x3.X, x3.Y, x3.Z⟩ : Vec);
   let x5 := fgt .f32 x4 p.2.2.1;
   .ask x5
   (
    .leaf (.inr (.inl ()), []))
   (
    let x6 := IntKind.wrap .i64 (s + 1);
    .leaf (.inl x6, []))))))
  (
   .leaf (.inr (.inr ()), []))
def impl_areNear_loop0_L (p : List Body × List Body × Nat × Int) : LoopS (Int) ((Unit) ⊕ (Unit)) := { tl := fun s => [.vslc 1 .body p.1, .vslc 2 .body p.2.1, .flt .f32 p.2.2.1, .junk, .junk, .junk, .junk, .junk, .junk, .int .i64 p.2.2.2, .int .i64 s], hl := fun s => [], ex := fun r => match r with | .inl r => .ret | .inr r => .exit 0, otl := fun r => match r with | .inl r => [.junk, .junk, .junk, .junk, .junk, .junk, .bool false] | .inr r => [.junk], ohl := fun r => match r with | .inl r => [] | .inr r => [] }
def impl_areNear_loop0_ext : St → Option ((List Body × List Body × Nat × Int) × (Int) × List Nat) := fun S => match (S.tm 0).unK, (S.tm 1).unK, (S.tm 2).unK, (S.tm 9).unK, (S.tm 10).unK with
  | .vslc 1 .body q0, .vslc 2 .body q1, .flt .f32 q2, .int .i64 q3, .int .i64 q4 => some ((q0, q1, q2, q3), q4, [])
  | _, _, _, _, _ => none
def impl_areNear_loop0_post (p : List Body × List Body × Nat × Int) (r : (Unit) ⊕ (Unit)) : DT (Ex × St) := .ask (isL r) (.leaf (.ret, LSt [.junk, .junk, .junk, .junk, .junk, .junk, .bool false] [])) (.leaf (.exit 0, LSt [.junk] []))
def impl_areNear_loop0 (p : List Body × List Body × Nat × Int) (s : Int) : (Unit) ⊕ (Unit) := loopVal (impl_areNear_loop0_step p) s
def impl_areNear_loop0_ends (p : List Body × List Body × Nat × Int) (s : Int) : Bool := loopEnds (impl_areNear_loop0_step p) s
def impl_areNear_loop0_F : LoopF := loopF impl_areNear_loop0_step impl_areNear_loop0_ext impl_areNear_loop0_post
set_option maxRecDepth 100000 in
theorem impl_areNear_loop0_hext : ∀ S p s fl, impl_areNear_loop0_ext S = some (p, s, fl) → Norm S fl ((impl_areNear_loop0_L p).tl s) ((impl_areNear_loop0_L p).hl s) (impl_areNear_loop0_L p).gl := by
  intro S p s fl h
  unfold impl_areNear_loop0_ext at h
  (repeat' split at h) <;> first
    | (cases h; constructor <;> simp_all [impl_areNear_loop0_L, keepT, keepH, rens, renH, PV.ren, Blk.ren, fOf, lget, nodup, natIn, lenEq, gtm, PV.unK])
    | cases h
set_option maxRecDepth 100000 in
theorem impl_areNear_loop0_hpost : ∀ p r e S', (impl_areNear_loop0_post p r).get = some (e, S') → e = (impl_areNear_loop0_L p).ex r ∧ S' = LSt ((impl_areNear_loop0_L p).otl r) ((impl_areNear_loop0_L p).ohl r) ((impl_areNear_loop0_L p).ogl r) := by
  intro p r e S' h
  unfold impl_areNear_loop0_post at h
  cases r <;> (simp only [isL, DT.get, Option.some.injEq, Prod.mk.injEq] at h; exact ⟨h.1.symm, h.2.symm⟩)

def impl_areNear_loops : Nat → Option LoopF := loopTab [(2, impl_areNear_loop0_F)]
set_option maxRecDepth 100000 in
theorem impl_areNear_l0 : LoopOK Try.prog ⟨gam [(50, impl_LessVectors_c), (12, impl_SizeOfVector_c)], tab, 28, impl_areNear_loops⟩ (lp Try.f57 0) :=
  loopOK_some (F := impl_areNear_loop0_F) (by kernel_rfl) (loopF_ok (E := ⟨gam [(50, impl_LessVectors_c), (12, impl_SizeOfVector_c)], tab, 28, impl_areNear_loops⟩) ⟨gam_cons impl_LessVectors_ok (gam_cons impl_SizeOfVector_ok (gam_nil)), tab_ok, by kernel_rfl⟩ (fuel := 100000) (loopsOK_list (l := []) (by kernel_rfl) trivial) (L := impl_areNear_loop0_L) (fun p s => by unfold AgreeL; exact ⟨by kernel_rfl, by kernel_rfl⟩) (fun _ r h => by cases r <;> exact Ex.noConfusion h) impl_areNear_loop0_hext impl_areNear_loop0_hpost)
/-- loop.example/g01284/impl.areNear -/
def impl_areNear_tree (a0 : List Body) (a1 : List Body) (a2 : Nat) : DT (Bool) :=
  let x0 := ((List.length a0 : Nat) : Int);
  .need ((impl_areNear_loop0_ends (a0, a1, a2, x0) 0)) (
  let x1 := impl_areNear_loop0 (a0, a1, a2, x0) 0;
  .ask ((isL x1))
  (
   .leaf false)
  (
   .leaf true))
def impl_areNear (a0 : List Body) (a1 : List Body) (a2 : Nat) : Bool := (impl_areNear_tree a0 a1 a2).val
def impl_areNear_need (a0 : List Body) (a1 : List Body) (a2 : Nat) : Bool := (impl_areNear_tree a0 a1 a2).ok
def impl_areNear_mk (p : Bool) : Ret := ⟨.bool p, []⟩
def impl_areNear_c0 : Con := fun args => match args with
  | [.vslc 1 .body a0, .vslc 2 .body a1, .flt .f32 a2] => some (.need (impl_areNear_need a0 a1 a2) (.leaf (impl_areNear_mk (impl_areNear a0 a1 a2))))
  | _ => none
set_option maxRecDepth 100000 in
theorem impl_areNear_ok0 : FunOK Try.prog 57 impl_areNear_c0.fn := by
  refine con_ok (Γ := gam [(50, impl_LessVectors_c), (12, impl_SizeOfVector_c)]) (gam_cons impl_LessVectors_ok (gam_cons impl_SizeOfVector_ok (gam_nil))) tab_ok (by kernel_rfl) Try.func57 (by kernel_rfl) (by kernel_rfl) Try.ntmps57 Try.results57 (loops := impl_areNear_loops) (loopsOK_list (l := [lp Try.f57 0]) (by kernel_rfl) ⟨impl_areNear_l0, trivial⟩) 100000 fun args t h => ?_
  unfold impl_areNear_c0 at h
  split at h
  · rename_i a0 a1 a2
    cases h
    exact ⟨rfl, agree_need (mk := impl_areNear_mk) (t := impl_areNear_tree a0 a1 a2) (by unfold Agree; kernel_rfl)⟩
  · cases h
def impl_areNear_c : Con := fun args => impl_areNear_c0 (norms 0 [.slc .body, .slc .body, .none] args)
set_option maxRecDepth 100000 in
theorem impl_areNear_ok : FunOK Try.prog 57 impl_areNear_c.fn := con_norm [.slc .body, .slc .body, .none] impl_areNear_ok0

/-- a loop of impl_HalvedBodies -/
def impl_HalvedBodies_loop0_step (p : List Body × Nat × Nat × Nat) (s : Int) : Round (Int) ((Int × List Body) ⊕ (Unit)) :=
  let x0 := decide (s < 32);
  .ask x0
  (
   let x1 := fofInt .f32 s;
   let x2 := fdiv .f32 p.2.2.1 x1;
   .need ((impl_RunBodies_need p.1 p.2.1 x2 s)) (
   let x3 := impl_RunBodies p.1 p.2.1 x2 s;
   .ask ((isL x3))
   (
    let x4 := IntKind.wrap .i64 (2 * s);
    let x5 := fofInt .f32 x4;
    let x6 := fdiv .f32 p.2.2.1 x5;
    let x7 := IntKind.wrap .i64 (2 * s);
    .need ((impl_RunBodies_need p.1 p.2.1 x6 x7)) (
    let x8 := impl_RunBodies p.1 p.2.1 x6 x7;
    .ask ((isL x8))
    (
     .skip (
     .skip (
     let x9 := IntKind.wrap .i64 (s * 2);
     .leaf (.inl x9, []))))
    (
     .skip (
     .skip (
     let x9 := IntKind.wrap .i64 (s * 2);
     .leaf (.inl x9, []))))))
   (
    let x4 := IntKind.wrap .i64 (2 * s);
    let x5 := fofInt .f32 x4;
    let x6 := fdiv .f32 p.2.2.1 x5;
    let x7 := IntKind.wrap .i64 (2 * s);
    .need ((impl_RunBodies_need p.1 p.2.1 x6 x7)) (
    let x8 := impl_RunBodies p.1 p.2.1 x6 x7;
    .ask ((isL x8))
    (
     .skip (
     .skip (
     .skip (
     .skip (
     .skip (
     .skip (
     .skip (
     let x9 := IntKind.wrap .i64 (s * 2);
     .leaf (.inl x9, [])))))))))
    (
     .skip (
     .skip (
     .skip (
     .skip (
     .skip (
     .skip (
     .need ((impl_areNear_need ((rightD x3)) ((rightD x8)) p.2.2.2)) (
     let x9 := impl_areNear ((rightD x3)) ((rightD x8)) p.2.2.2;
     .skip (
     .ask x9
     (
      .leaf (.inr (.inl ((s, (rightD x8)))), [192]))
     (
      let x10 := IntKind.wrap .i64 (s * 2);
      .leaf (.inl x10, [])))))))))))))))
  (
   .leaf (.inr (.inr ()), []))
def impl_HalvedBodies_loop0_L (p : List Body × Nat × Nat × Nat) : LoopS (Int) ((Int × List Body) ⊕ (Unit)) := { tl := fun s => [.vslc 1 .body p.1, .flt .f32 p.2.1, .flt .f32 p.2.2.1, .flt .f32 p.2.2.2, .junk, .junk, .junk, .junk, .junk, .junk, .junk, .int .i64 s], hl := fun s => [], ex := fun r => match r with | .inl r => .ret | .inr r => .exit 0, otl := fun r => match r with | .inl r => [.junk, .junk, .junk, .junk, .junk, .junk, .junk, .junk, .own 0, .int .i64 r.1, .bool true] | .inr r => [.junk], ohl := fun r => match r with | .inl r => [some (.typed 43 .body r.2)] | .inr r => [] }
def impl_HalvedBodies_loop0_ext : St → Option ((List Body × Nat × Nat × Nat) × (Int) × List Nat) := fun S => match (S.tm 0).unK, (S.tm 1).unK, (S.tm 2).unK, (S.tm 3).unK, (S.tm 11).unK with
  | .vslc 1 .body q0, .flt .f32 q1, .flt .f32 q2, .flt .f32 q3, .int .i64 q4 => some ((q0, q1, q2, q3), q4, [])
  | _, _, _, _, _ => none
def impl_HalvedBodies_loop0_post (p : List Body × Nat × Nat × Nat) (r : (Int × List Body) ⊕ (Unit)) : DT (Ex × St) := .ask (isL r) (.leaf (.ret, LSt [.junk, .junk, .junk, .junk, .junk, .junk, .junk, .junk, .own 0, .int .i64 ((leftD r).1), .bool true] [some (.typed 43 .body ((leftD r).2))])) (.leaf (.exit 0, LSt [.junk] []))
def impl_HalvedBodies_loop0 (p : List Body × Nat × Nat × Nat) (s : Int) : (Int × List Body) ⊕ (Unit) := loopVal (impl_HalvedBodies_loop0_step p) s
def impl_HalvedBodies_loop0_ends (p : List Body × Nat × Nat × Nat) (s : Int) : Bool := loopEnds (impl_HalvedBodies_loop0_step p) s
def impl_HalvedBodies_loop0_F : LoopF := loopF impl_HalvedBodies_loop0_step impl_HalvedBodies_loop0_ext impl_HalvedBodies_loop0_post
set_option maxRecDepth 100000 in
theorem impl_HalvedBodies_loop0_hext : ∀ S p s fl, impl_HalvedBodies_loop0_ext S = some (p, s, fl) → Norm S fl ((impl_HalvedBodies_loop0_L p).tl s) ((impl_HalvedBodies_loop0_L p).hl s) (impl_HalvedBodies_loop0_L p).gl := by
  intro S p s fl h
  unfold impl_HalvedBodies_loop0_ext at h
  (repeat' split at h) <;> first
    | (cases h; constructor <;> simp_all [impl_HalvedBodies_loop0_L, keepT, keepH, rens, renH, PV.ren, Blk.ren, fOf, lget, nodup, natIn, lenEq, gtm, PV.unK])
    | cases h
set_option maxRecDepth 100000 in
theorem impl_HalvedBodies_loop0_hpost : ∀ p r e S', (impl_HalvedBodies_loop0_post p r).get = some (e, S') → e = (impl_HalvedBodies_loop0_L p).ex r ∧ S' = LSt ((impl_HalvedBodies_loop0_L p).otl r) ((impl_HalvedBodies_loop0_L p).ohl r) ((impl_HalvedBodies_loop0_L p).ogl r) := by
  intro p r e S' h
  unfold impl_HalvedBodies_loop0_post at h
  cases r <;> (simp only [isL, DT.get, Option.some.injEq, Prod.mk.injEq] at h; exact ⟨h.1.symm, h.2.symm⟩)

def impl_HalvedBodies_loops : Nat → Option LoopF := loopTab [(4, impl_HalvedBodies_loop0_F)]
set_option maxRecDepth 100000 in
theorem impl_HalvedBodies_l0 : LoopOK Try.prog ⟨gam [(40, impl_AreBodies_c), (41, impl_isCore_c), (56, impl_areFinite_c), (8, impl_RunBodies_c), (57, impl_areNear_c)], tab, 75, impl_HalvedBodies_loops⟩ (lp Try.f18 0) :=
  loopOK_some (F := impl_HalvedBodies_loop0_F) (by kernel_rfl) (loopF_ok (E := ⟨gam [(40, impl_AreBodies_c), (41, impl_isCore_c), (56, impl_areFinite_c), (8, impl_RunBodies_c), (57, impl_areNear_c)], tab, 75, impl_HalvedBodies_loops⟩) ⟨gam_cons impl_AreBodies_ok (gam_cons impl_isCore_ok (gam_cons impl_areFinite_ok (gam_cons impl_RunBodies_ok (gam_cons impl_areNear_ok (gam_nil))))), tab_ok, by kernel_rfl⟩ (fuel := 100000) (loopsOK_list (l := []) (by kernel_rfl) trivial) (L := impl_HalvedBodies_loop0_L) (fun p s => by unfold AgreeL; exact ⟨by kernel_rfl, by kernel_rfl⟩) (fun _ r h => by cases r <;> exact Ex.noConfusion h) impl_HalvedBodies_loop0_hext impl_HalvedBodies_loop0_hpost)
/-- loop.example/g01284/impl.HalvedBodies -/
def impl_HalvedBodies_tree (a0 : List Body) (a1 : Nat) (a2 : Nat) (a3 : Nat) : DT ((Int) ⊕ (List Body × Int)) :=
  .need ((impl_AreBodies_need a0)) (
  let x0 := impl_AreBodies a0;
  .ask (!x0)
  (
   .leaf (.inl 0))
  (
   .need ((impl_isCore_need a1)) (
   let x1 := impl_isCore a1;
   .ask (!x1)
   (
    .leaf (.inl 0))
   (
    .need ((impl_areFinite_need ([a2, a3]))) (
    let x2 := impl_areFinite ([a2, a3]);
    .ask (!x2)
    (
     .leaf (.inl 0))
    (
     let x3 := flt .f32 a3 0;
     .ask x3
     (
      .leaf (.inl 0))
     (
      .need ((impl_HalvedBodies_loop0_ends (a0, a1, a2, a3) 1)) (
      let x4 := impl_HalvedBodies_loop0 (a0, a1, a2, a3) 1;
      .ask ((isL x4))
      (
       .leaf (.inr ((leftD x4).2, (leftD x4).1)))
      (
       .leaf (.inl 0))))))))))
def impl_HalvedBodies (a0 : List Body) (a1 : Nat) (a2 : Nat) (a3 : Nat) : (Int) ⊕ (List Body × Int) := (impl_HalvedBodies_tree a0 a1 a2 a3).val
def impl_HalvedBodies_need (a0 : List Body) (a1 : Nat) (a2 : Nat) (a3 : Nat) : Bool := (impl_HalvedBodies_tree a0 a1 a2 a3).ok
def impl_HalvedBodies_mk0 (p : Int) : Ret := ⟨.tup [.nils, .int .i64 p, .bool false], []⟩
def impl_HalvedBodies_mk1 (p : List Body × Int) : Ret := ⟨.tup [.own 0, .int .i64 p.2, .bool true], [.typed 43 .body p.1]⟩
def impl_HalvedBodies_mk : (Int) ⊕ (List Body × Int) → Ret := fun v => match v with
  | (.inl p) => impl_HalvedBodies_mk0 p
  | (.inr p) => impl_HalvedBodies_mk1 p
def impl_HalvedBodies_forms (v : (Int) ⊕ (List Body × Int)) : DT Ret := .ask (isL v) (.leaf (impl_HalvedBodies_mk0 (leftD v))) (.leaf (impl_HalvedBodies_mk1 (rightD v)))
theorem impl_HalvedBodies_forms_get : ∀ v, (impl_HalvedBodies_forms v).get = some (impl_HalvedBodies_mk v) := by
  intro v
  rcases v with v | v <;> rfl
def impl_HalvedBodies_c0 : Con := fun args => match args with
  | [.vslc 1 .body a0, .flt .f32 a1, .flt .f32 a2, .flt .f32 a3] => some (.need (impl_HalvedBodies_need a0 a1 a2 a3) (impl_HalvedBodies_forms (impl_HalvedBodies a0 a1 a2 a3)))
  | _ => none
set_option maxRecDepth 100000 in
theorem impl_HalvedBodies_ok0 : FunOK Try.prog 18 impl_HalvedBodies_c0.fn := by
  refine con_ok (Γ := gam [(40, impl_AreBodies_c), (41, impl_isCore_c), (56, impl_areFinite_c), (8, impl_RunBodies_c), (57, impl_areNear_c)]) (gam_cons impl_AreBodies_ok (gam_cons impl_isCore_ok (gam_cons impl_areFinite_ok (gam_cons impl_RunBodies_ok (gam_cons impl_areNear_ok (gam_nil)))))) tab_ok (by kernel_rfl) Try.func18 (by kernel_rfl) (by kernel_rfl) Try.ntmps18 Try.results18 (loops := impl_HalvedBodies_loops) (loopsOK_list (l := [lp Try.f18 0]) (by kernel_rfl) ⟨impl_HalvedBodies_l0, trivial⟩) 100000 fun args t h => ?_
  unfold impl_HalvedBodies_c0 at h
  split at h
  · rename_i a0 a1 a2 a3
    cases h
    exact ⟨rfl, agree_forms (mk := impl_HalvedBodies_mk) (t := impl_HalvedBodies_tree a0 a1 a2 a3) (by unfold Agree; kernel_rfl) (fun h => h) (impl_HalvedBodies_forms_get _)⟩
  · cases h
def impl_HalvedBodies_c : Con := fun args => impl_HalvedBodies_c0 (norms 0 [.slc .body, .none, .none, .none] args)
set_option maxRecDepth 100000 in
theorem impl_HalvedBodies_ok : FunOK Try.prog 18 impl_HalvedBodies_c.fn := con_norm [.slc .body, .none, .none, .none] impl_HalvedBodies_ok0

end
end Go.Proofs.Ytilfdpllleninaa
