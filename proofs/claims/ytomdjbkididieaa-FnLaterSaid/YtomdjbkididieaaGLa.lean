/- THE WALK, BY A PROGRAM: typed functions, and that the code is they. -/
import Derived.Test.YtomdjbkididieaaFrom
namespace Go.Proofs.Ytomdjbkididieaa
set_option linter.unusedVariables false
set_option linter.unusedSimpArgs false
open Go.Extern
noncomputable section

set_option maxRecDepth 100000 in
theorem math_Float64bits_ok : FunOK Try.prog 67 math_Float64bits_c.fn := bits64_ok (run_callFunc_extern Try.func67 (by kernel_rfl) (by kernel_rfl) (by kernel_rfl) (by kernel_rfl))

set_option maxRecDepth 100000 in
theorem math_Float64frombits_ok : FunOK Try.prog 66 math_Float64frombits_c.fn := frombits64_ok (run_callFunc_extern Try.func66 (by kernel_rfl) (by kernel_rfl) (by kernel_rfl) (by kernel_rfl))

set_option maxRecDepth 100000 in
theorem math_sqrt_ok : FunOK Try.prog 68 math_sqrt_c.fn := sqrt_ok (run_callFunc_extern Try.func68 (by kernel_rfl) (by kernel_rfl) (by kernel_rfl) (by kernel_rfl))

set_option maxRecDepth 100000 in
theorem math_archFloor_ok : FunOK Try.prog 71 math_archFloor_c.fn := floor_ok (run_callFunc_extern Try.func71 (by kernel_rfl) (by kernel_rfl) (by kernel_rfl) (by kernel_rfl))

set_option maxRecDepth 100000 in
theorem math_archTrunc_ok : FunOK Try.prog 86 math_archTrunc_c.fn := trunc_ok (run_callFunc_extern Try.func86 (by kernel_rfl) (by kernel_rfl) (by kernel_rfl) (by kernel_rfl))

/-- loop.example/g01284/laws.b10Long -/
def laws_b10Long_tree (a0 : List Int) (a1 : List Int) : DT (Bool) :=
  let x0 := ((List.length a0 : Nat) : Int);
  let x1 := decide (x0 > 1048576);
  .ask x1
  (
   .leaf true)
  (
   let x2 := ((List.length a1 : Nat) : Int);
   let x3 := decide (x2 > 1048576);
   .leaf x3)
def laws_b10Long (a0 : List Int) (a1 : List Int) : Bool := (laws_b10Long_tree a0 a1).val
def laws_b10Long_mk (p : Bool) : Ret := ⟨.bool p, []⟩
def laws_b10Long_c0 : Con := fun args => match args with
  | [.vslc 1 (.int .u8) a0, .vslc 2 (.int .u8) a1] => some (.leaf (laws_b10Long_mk (laws_b10Long a0 a1)))
  | _ => none
set_option maxRecDepth 100000 in
theorem laws_b10Long_ok0 : FunOK Try.prog 4 laws_b10Long_c0.fn := by
  refine con_ok (Γ := gam []) (gam_nil) tab_ok (by kernel_rfl) Try.func4 (by kernel_rfl) (by kernel_rfl) Try.ntmps4 Try.results4 (loopsOK_none rfl _) 100000 fun args t h => ?_
  unfold laws_b10Long_c0 at h
  split at h
  · rename_i a0 a1
    cases h
    exact ⟨rfl, agree_tot (mk := laws_b10Long_mk) (t := laws_b10Long_tree a0 a1) (by unfold Agree; kernel_rfl) (by kernel_rfl)⟩
  · cases h
def laws_b10Long_c : Con := fun args => laws_b10Long_c0 (norms 0 [.slc (.int .u8), .slc (.int .u8)] args)
set_option maxRecDepth 100000 in
theorem laws_b10Long_ok : FunOK Try.prog 4 laws_b10Long_c.fn := con_norm [.slc (.int .u8), .slc (.int .u8)] laws_b10Long_ok0

/-- (*loop.example/g01284/spec.l00Src).next -/
def spec_l00Src_next_tree (a0_0 : List Int) (a0_1 : Int) (a0_2 : Int) : DT (Int × Int × Int) :=
  let x0 := ((List.length a0_0 : Nat) : Int);
  let x1 := decide (a0_1 < x0);
  .ask x1
  (
   .need ((decide (0 ≤ a0_1) && decide (a0_1 < ((List.length a0_0 : Nat) : Int)))) (
   let x2 := List.getD a0_0 (Int.toNat a0_1) default;
   let x3 := IntKind.wrap .i64 x2;
   let x4 := IntKind.wrap .i64 (a0_1 + 1);
   let x5 := IntKind.wrap .u64 (a0_2 * 6364136223846793005);
   let x6 := IntKind.wrap .u64 x3;
   let x7 := IntKind.wrap .u64 (x5 + x6);
   let x8 := IntKind.wrap .u64 (x7 + 1442695040888963407);
   let x9 := ((List.length a0_0 : Nat) : Int);
   let x10 := decide (x4 ≤ x9);
   .ask x10
   (
    .leaf (x3, x4, x8))
   (
    .skip (
    let x11 := Int.fdiv x8 (2 ^ (min (Int.toNat 40) (IntKind.bits .u64)));
    let x12 := IntKind.wrap .u64 (BitVec.ofInt (IntKind.bits .u64) x11 &&& BitVec.ofInt (IntKind.bits .u64) 255).toNat;
    let x13 := IntKind.wrap .i64 x12;
    .leaf (x13, x4, x8)))))
  (
   let x2 := IntKind.wrap .i64 (a0_1 + 1);
   let x3 := IntKind.wrap .u64 (a0_2 * 6364136223846793005);
   let x4 := IntKind.wrap .u64 (x3 + 0);
   let x5 := IntKind.wrap .u64 (x4 + 1442695040888963407);
   let x6 := ((List.length a0_0 : Nat) : Int);
   let x7 := decide (x2 ≤ x6);
   .ask x7
   (
    .leaf (0, x2, x5))
   (
    .skip (
    let x8 := Int.fdiv x5 (2 ^ (min (Int.toNat 40) (IntKind.bits .u64)));
    let x9 := IntKind.wrap .u64 (BitVec.ofInt (IntKind.bits .u64) x8 &&& BitVec.ofInt (IntKind.bits .u64) 255).toNat;
    let x10 := IntKind.wrap .i64 x9;
    .leaf (x10, x2, x5))))
def spec_l00Src_next (a0_0 : List Int) (a0_1 : Int) (a0_2 : Int) : Int × Int × Int := (spec_l00Src_next_tree a0_0 a0_1 a0_2).val
def spec_l00Src_next_need (a0_0 : List Int) (a0_1 : Int) (a0_2 : Int) : Bool := (spec_l00Src_next_tree a0_0 a0_1 a0_2).ok
def spec_l00Src_next_mk (p : Int × Int × Int) : PV × List (Option PV) := (.int .i64 p.1, [none, some (.int .i64 p.2.1), some (.int .u64 p.2.2)])
def spec_l00Src_next_M : BCon := fun cs ps => match cs, ps with
  | [.vslc 0 (.int .u8) a0_0, .int .i64 a0_1, .int .u64 a0_2], [] => some (.need (spec_l00Src_next_need a0_0 a0_1 a0_2) (.leaf (spec_l00Src_next_mk (spec_l00Src_next a0_0 a0_1 a0_2))))
  | _, _ => none
set_option maxRecDepth 100000 in
theorem spec_l00Src_next_ok : BoxOK Try.prog 41 spec_l00Src_next_M := by
  refine box_ok (Γ := gam []) (gam_nil) tab_ok (by kernel_rfl) Try.func41 (by kernel_rfl) (by kernel_rfl) Try.ntmps41 Try.results41 (loopsOK_none rfl _) 100000 fun cs ps t h => ?_
  unfold spec_l00Src_next_M at h
  split at h
  · rename_i a0_0 a0_1 a0_2
    cases h
    exact ⟨rfl, agreeB_need (mk := spec_l00Src_next_mk) (t := spec_l00Src_next_tree a0_0 a0_1 a0_2) (by unfold AgreeB; kernel_rfl)⟩
  · cases h

/-- (*loop.example/g01284/spec.l00Src).pick -/
def spec_l00Src_pick_tree (a0_0 : List Int) (a0_1 : Int) (a0_2 : Int) (a1 : Int) : DT (Int × Int × Int) :=
  let x0 := decide (a1 ≤ 1);
  .ask x0
  (
   .leaf (0, a0_1, a0_2))
  (
   .need ((spec_l00Src_next_need a0_0 a0_1 a0_2)) (
   let x1 := spec_l00Src_next a0_0 a0_1 a0_2;
   let x2 := decide (a1 > 200);
   .ask x2
   (
    let x3 := IntKind.wrap .i64 (x1.1 * 256);
    .need ((spec_l00Src_next_need a0_0 x1.2.1 x1.2.2)) (
    let x4 := spec_l00Src_next a0_0 x1.2.1 x1.2.2;
    let x5 := IntKind.wrap .i64 (x3 + x4.1);
    .need ((a1 != 0)) (
    let x6 := Int.tmod x5 a1;
    .leaf (x6, x4.2.1, x4.2.2))))
   (
    .need ((a1 != 0)) (
    let x3 := Int.tmod x1.1 a1;
    .leaf (x3, x1.2.1, x1.2.2)))))
def spec_l00Src_pick (a0_0 : List Int) (a0_1 : Int) (a0_2 : Int) (a1 : Int) : Int × Int × Int := (spec_l00Src_pick_tree a0_0 a0_1 a0_2 a1).val
def spec_l00Src_pick_need (a0_0 : List Int) (a0_1 : Int) (a0_2 : Int) (a1 : Int) : Bool := (spec_l00Src_pick_tree a0_0 a0_1 a0_2 a1).ok
def spec_l00Src_pick_mk (p : Int × Int × Int) : PV × List (Option PV) := (.int .i64 p.1, [none, some (.int .i64 p.2.1), some (.int .u64 p.2.2)])
def spec_l00Src_pick_M : BCon := fun cs ps => match cs, ps with
  | [.vslc 0 (.int .u8) a0_0, .int .i64 a0_1, .int .u64 a0_2], [.int .i64 a1] => some (.need (spec_l00Src_pick_need a0_0 a0_1 a0_2 a1) (.leaf (spec_l00Src_pick_mk (spec_l00Src_pick a0_0 a0_1 a0_2 a1))))
  | _, _ => none
set_option maxRecDepth 100000 in
theorem spec_l00Src_pick_ok : BoxOK Try.prog 21 spec_l00Src_pick_M := by
  refine box_ok (Γ := gam [] [] [(41, spec_l00Src_next_M)] []) (gam_box spec_l00Src_next_ok (gam_nil)) tab_ok (by kernel_rfl) Try.func21 (by kernel_rfl) (by kernel_rfl) Try.ntmps21 Try.results21 (loopsOK_none rfl _) 100000 fun cs ps t h => ?_
  unfold spec_l00Src_pick_M at h
  split at h
  · rename_i a0_0 a0_1 a0_2 a1
    cases h
    exact ⟨rfl, agreeB_need (mk := spec_l00Src_pick_mk) (t := spec_l00Src_pick_tree a0_0 a0_1 a0_2 a1) (by unfold AgreeB; kernel_rfl)⟩
  · cases h

/-- loop.example/g01284/spec.B10Ellipse -/
def spec_B10Ellipse_tree (a0 : List Int) : DT (Orbit) :=
  .need ((spec_l00Src_pick_need a0 0 0 15)) (
  let x0 := spec_l00Src_pick a0 0 0 15;
  let x1 := IntKind.wrap .i64 (2 + x0.1);
  let x2 := fofInt .f32 x1;
  let x3 := fdiv .f32 x2 1082130432;
  .need ((spec_l00Src_pick_need a0 x0.2.1 x0.2.2 7)) (
  let x4 := spec_l00Src_pick a0 x0.2.1 x0.2.2 7;
  let x5 := fofInt .f32 x4.1;
  let x6 := fdiv .f32 x5 1090519040;
  .need ((spec_l00Src_pick_need a0 x4.2.1 x4.2.2 17)) (
  let x7 := spec_l00Src_pick a0 x4.2.1 x4.2.2 17;
  let x8 := fofInt .f32 x7.1;
  let x9 := fdiv .f32 x8 1107296256;
  .need ((spec_l00Src_pick_need a0 x7.2.1 x7.2.2 32)) (
  let x10 := spec_l00Src_pick a0 x7.2.1 x7.2.2 32;
  let x11 := fofInt .f32 x10.1;
  let x12 := fdiv .f32 x11 1107296256;
  .need ((spec_l00Src_pick_need a0 x10.2.1 x10.2.2 32)) (
  let x13 := spec_l00Src_pick a0 x10.2.1 x10.2.2 32;
  let x14 := fofInt .f32 x13.1;
  let x15 := fdiv .f32 x14 1107296256;
  .need ((spec_l00Src_pick_need a0 x13.2.1 x13.2.2 64)) (
  let x16 := spec_l00Src_pick a0 x13.2.1 x13.2.2 64;
  let x17 := fofInt .f32 x16.1;
  let x18 := fdiv .f32 x17 1115684864;
  .leaf ((⟨x3, x6, x9, x12, x15, x18⟩ : Orbit))))))))
def spec_B10Ellipse (a0 : List Int) : Orbit := (spec_B10Ellipse_tree a0).val
def spec_B10Ellipse_need (a0 : List Int) : Bool := (spec_B10Ellipse_tree a0).ok
def spec_B10Ellipse_mk (p : Orbit) : Ret := ⟨.agg [.flt .f32 p.Long, .flt .f32 p.Round, .flt .f32 p.Tilt, .flt .f32 p.Node, .flt .f32 p.Peri, .flt .f32 p.Phase], []⟩
def spec_B10Ellipse_c0 : Con := fun args => match args with
  | [.vslc 1 (.int .u8) a0] => some (.need (spec_B10Ellipse_need a0) (.leaf (spec_B10Ellipse_mk (spec_B10Ellipse a0))))
  | _ => none
set_option maxRecDepth 100000 in
theorem spec_B10Ellipse_ok0 : FunOK Try.prog 5 spec_B10Ellipse_c0.fn := by
  refine con_ok (Γ := gam [] [] [(21, spec_l00Src_pick_M)] [(20, spec_l00From_M)]) (gam_box spec_l00Src_pick_ok (gam_new spec_l00From_ok (gam_nil))) tab_ok (by kernel_rfl) Try.func5 (by kernel_rfl) (by kernel_rfl) Try.ntmps5 Try.results5 (loopsOK_none rfl _) 100000 fun args t h => ?_
  unfold spec_B10Ellipse_c0 at h
  split at h
  · rename_i a0
    cases h
    exact ⟨rfl, agree_need (mk := spec_B10Ellipse_mk) (t := spec_B10Ellipse_tree a0) (by unfold Agree; kernel_rfl)⟩
  · cases h
def spec_B10Ellipse_c : Con := fun args => spec_B10Ellipse_c0 (norms 0 [.slc (.int .u8)] args)
set_option maxRecDepth 100000 in
theorem spec_B10Ellipse_ok : FunOK Try.prog 5 spec_B10Ellipse_c.fn := con_norm [.slc (.int .u8)] spec_B10Ellipse_ok0

/-- loop.example/g01284/spec.B10Mass -/
def spec_B10Mass_tree (a0 : List Int) : DT (Nat) :=
  .need ((spec_l00Src_pick_need a0 0 0 8)) (
  let x0 := spec_l00Src_pick a0 0 0 8;
  let x1 := IntKind.wrap .i64 (1 + x0.1);
  let x2 := fofInt .f32 x1;
  let x3 := fdiv .f32 x2 1073741824;
  .leaf x3)
def spec_B10Mass (a0 : List Int) : Nat := (spec_B10Mass_tree a0).val
def spec_B10Mass_need (a0 : List Int) : Bool := (spec_B10Mass_tree a0).ok
def spec_B10Mass_mk (p : Nat) : Ret := ⟨.flt .f32 p, []⟩
def spec_B10Mass_c0 : Con := fun args => match args with
  | [.vslc 1 (.int .u8) a0] => some (.need (spec_B10Mass_need a0) (.leaf (spec_B10Mass_mk (spec_B10Mass a0))))
  | _ => none
set_option maxRecDepth 100000 in
theorem spec_B10Mass_ok0 : FunOK Try.prog 6 spec_B10Mass_c0.fn := by
  refine con_ok (Γ := gam [] [] [(21, spec_l00Src_pick_M)] [(20, spec_l00From_M)]) (gam_box spec_l00Src_pick_ok (gam_new spec_l00From_ok (gam_nil))) tab_ok (by kernel_rfl) Try.func6 (by kernel_rfl) (by kernel_rfl) Try.ntmps6 Try.results6 (loopsOK_none rfl _) 100000 fun args t h => ?_
  unfold spec_B10Mass_c0 at h
  split at h
  · rename_i a0
    cases h
    exact ⟨rfl, agree_need (mk := spec_B10Mass_mk) (t := spec_B10Mass_tree a0) (by unfold Agree; kernel_rfl)⟩
  · cases h
def spec_B10Mass_c : Con := fun args => spec_B10Mass_c0 (norms 0 [.slc (.int .u8)] args)
set_option maxRecDepth 100000 in
theorem spec_B10Mass_ok : FunOK Try.prog 6 spec_B10Mass_c.fn := con_norm [.slc (.int .u8)] spec_B10Mass_ok0

/-- math.IsNaN -/
def math_IsNaN_tree (a0 : Nat) : DT (Bool) :=
  let x0 := fne .f64 a0 a0;
  .leaf x0
def math_IsNaN (a0 : Nat) : Bool := (math_IsNaN_tree a0).val
def math_IsNaN_mk (p : Bool) : Ret := ⟨.bool p, []⟩
def math_IsNaN_c : Con := fun args => match args with
  | [.flt .f64 a0] => some (.leaf (math_IsNaN_mk (math_IsNaN a0)))
  | _ => none
set_option maxRecDepth 100000 in
theorem math_IsNaN_ok : FunOK Try.prog 69 math_IsNaN_c.fn := by
  refine con_ok (Γ := gam []) (gam_nil) tab_ok (by kernel_rfl) Try.func69 (by kernel_rfl) (by kernel_rfl) Try.ntmps69 Try.results69 (loopsOK_none rfl _) 100000 fun args t h => ?_
  unfold math_IsNaN_c at h
  split at h
  · rename_i a0
    cases h
    exact ⟨rfl, agree_tot (mk := math_IsNaN_mk) (t := math_IsNaN_tree a0) (by unfold Agree; kernel_rfl) (by kernel_rfl)⟩
  · cases h

/-- math.Abs -/
def math_Abs_tree (a0 : Nat) : DT (Nat) :=
  .ask ((isNaN .f64 a0))
  (
   .leaf 9221120237041090560)
  (
   let x0 := IntKind.wrap .u64 (BitVec.ofInt (IntKind.bits .u64) ((a0 : Nat) : Int) &&& ~~~ BitVec.ofInt (IntKind.bits .u64) 9223372036854775808).toNat;
   let x1 := canon .f64 (Int.toNat x0);
   .leaf x1)
def math_Abs (a0 : Nat) : Nat := (math_Abs_tree a0).val
def math_Abs_mk (p : Nat) : Ret := ⟨.flt .f64 p, []⟩
def math_Abs_c : Con := fun args => match args with
  | [.flt .f64 a0] => some (.leaf (math_Abs_mk (math_Abs a0)))
  | _ => none
set_option maxRecDepth 100000 in
theorem math_Abs_ok : FunOK Try.prog 44 math_Abs_c.fn := by
  refine con_ok (Γ := gam [(67, math_Float64bits_c), (66, math_Float64frombits_c)]) (gam_cons math_Float64bits_ok (gam_cons math_Float64frombits_ok (gam_nil))) tab_ok (by kernel_rfl) Try.func44 (by kernel_rfl) (by kernel_rfl) Try.ntmps44 Try.results44 (loopsOK_none rfl _) 100000 fun args t h => ?_
  unfold math_Abs_c at h
  split at h
  · rename_i a0
    cases h
    exact ⟨rfl, agree_tot (mk := math_Abs_mk) (t := math_Abs_tree a0) (by unfold Agree; kernel_rfl) (by kernel_rfl)⟩
  · cases h

/-- math.IsInf -/
def math_IsInf_tree (a0 : Nat) (a1 : Int) : DT (Bool) :=
  let x0 := (a1 == 0);
  .ask x0
  (
   let x1 := math_Abs a0;
   let x2 := fgt .f64 x1 9218868437227405311;
   .leaf x2)
  (
   let x1 := decide (a1 < 0);
   .ask x1
   (
    let x2 := fneg .f64 a0;
    let x3 := fgt .f64 x2 9218868437227405311;
    .leaf x3)
   (
    let x2 := fgt .f64 a0 9218868437227405311;
    .leaf x2))
def math_IsInf (a0 : Nat) (a1 : Int) : Bool := (math_IsInf_tree a0 a1).val
def math_IsInf_mk (p : Bool) : Ret := ⟨.bool p, []⟩
def math_IsInf_c : Con := fun args => match args with
  | [.flt .f64 a0, .int .i64 a1] => some (.leaf (math_IsInf_mk (math_IsInf a0 a1)))
  | _ => none
set_option maxRecDepth 100000 in
theorem math_IsInf_ok : FunOK Try.prog 70 math_IsInf_c.fn := by
  refine con_ok (Γ := gam [(44, math_Abs_c)]) (gam_cons math_Abs_ok (gam_nil)) tab_ok (by kernel_rfl) Try.func70 (by kernel_rfl) (by kernel_rfl) Try.ntmps70 Try.results70 (loopsOK_none rfl _) 100000 fun args t h => ?_
  unfold math_IsInf_c at h
  split at h
  · rename_i a0 a1
    cases h
    exact ⟨rfl, agree_tot (mk := math_IsInf_mk) (t := math_IsInf_tree a0 a1) (by unfold Agree; kernel_rfl) (by kernel_rfl)⟩
  · cases h

/-- loop.example/g01284/impl.finite -/
def impl_finite_tree (a0 : Nat) : DT (Bool) :=
  let x0 := math_IsNaN a0;
  .ask (!x0)
  (
   let x1 := math_IsInf a0 0;
   .leaf (!x1))
  (
   .leaf false)
def impl_finite (a0 : Nat) : Bool := (impl_finite_tree a0).val
def impl_finite_mk (p : Bool) : Ret := ⟨.bool p, []⟩
def impl_finite_c : Con := fun args => match args with
  | [.flt .f64 a0] => some (.leaf (impl_finite_mk (impl_finite a0)))
  | _ => none
set_option maxRecDepth 100000 in
theorem impl_finite_ok : FunOK Try.prog 46 impl_finite_c.fn := by
  refine con_ok (Γ := gam [(69, math_IsNaN_c), (70, math_IsInf_c)]) (gam_cons math_IsNaN_ok (gam_cons math_IsInf_ok (gam_nil))) tab_ok (by kernel_rfl) Try.func46 (by kernel_rfl) (by kernel_rfl) Try.ntmps46 Try.results46 (loopsOK_none rfl _) 100000 fun args t h => ?_
  unfold impl_finite_c at h
  split at h
  · rename_i a0
    cases h
    exact ⟨rfl, agree_tot (mk := impl_finite_mk) (t := impl_finite_tree a0) (by unfold Agree; kernel_rfl) (by kernel_rfl)⟩
  · cases h

/-- loop.example/g01284/impl.IsFinite -/
def impl_IsFinite_tree (a0 : Nat) : DT (Bool) :=
  .need ((fconvOk .f32 a0 .f64)) (
  let x0 := fconv .f32 a0 .f64;
  let x1 := impl_finite x0;
  .leaf x1)
def impl_IsFinite (a0 : Nat) : Bool := (impl_IsFinite_tree a0).val
def impl_IsFinite_need (a0 : Nat) : Bool := (impl_IsFinite_tree a0).ok
def impl_IsFinite_mk (p : Bool) : Ret := ⟨.bool p, []⟩
def impl_IsFinite_c : Con := fun args => match args with
  | [.flt .f32 a0] => some (.need (impl_IsFinite_need a0) (.leaf (impl_IsFinite_mk (impl_IsFinite a0))))
  | _ => none
set_option maxRecDepth 100000 in
theorem impl_IsFinite_ok : FunOK Try.prog 25 impl_IsFinite_c.fn := by
  refine con_ok (Γ := gam [(46, impl_finite_c)]) (gam_cons impl_finite_ok (gam_nil)) tab_ok (by kernel_rfl) Try.func25 (by kernel_rfl) (by kernel_rfl) Try.ntmps25 Try.results25 (loopsOK_none rfl _) 100000 fun args t h => ?_
  unfold impl_IsFinite_c at h
  split at h
  · rename_i a0
    cases h
    exact ⟨rfl, agree_need (mk := impl_IsFinite_mk) (t := impl_IsFinite_tree a0) (by unfold Agree; kernel_rfl)⟩
  · cases h

/-- loop.example/g01284/impl.areFinite$1 -/
def impl_areFinite_1_tree (a0 : Nat) : DT (Bool) :=
  .need ((impl_IsFinite_need a0)) (
  let x0 := impl_IsFinite a0;
  .leaf (!x0))
def impl_areFinite_1 (a0 : Nat) : Bool := (impl_areFinite_1_tree a0).val
def impl_areFinite_1_need (a0 : Nat) : Bool := (impl_areFinite_1_tree a0).ok
def impl_areFinite_1_mk (p : Bool) : Ret := ⟨.bool p, []⟩
def impl_areFinite_1_c : Con := fun args => match args with
  | [.flt .f32 a0] => some (.need (impl_areFinite_1_need a0) (.leaf (impl_areFinite_1_mk (impl_areFinite_1 a0))))
  | _ => none
set_option maxRecDepth 100000 in
theorem impl_areFinite_1_ok : FunOK Try.prog 74 impl_areFinite_1_c.fn := by
  refine con_ok (Γ := gam [(25, impl_IsFinite_c)]) (gam_cons impl_IsFinite_ok (gam_nil)) tab_ok (by kernel_rfl) Try.func74 (by kernel_rfl) (by kernel_rfl) Try.ntmps74 Try.results74 (loopsOK_none rfl _) 100000 fun args t h => ?_
  unfold impl_areFinite_1_c at h
  split at h
  · rename_i a0
    cases h
    exact ⟨rfl, agree_need (mk := impl_areFinite_1_mk) (t := impl_areFinite_1_tree a0) (by unfold Agree; kernel_rfl)⟩
  · cases h

/-- a loop of slices_IndexFunc___float32_float32__impl_areFinite_1 -/
def slices_IndexFunc___float32_float32__impl_areFinite_1_loop0_step (p : List Nat × Int) (s : Int) : Round (Int) ((Int) ⊕ (Unit)) :=
  let x0 := decide (s < p.2);
  .ask x0
  (
   .need ((decide (0 ≤ s) && decide (s < ((List.length p.1 : Nat) : Int)))) (
   let x1 := List.getD p.1 (Int.toNat s) default;
   .need ((impl_areFinite_1_need x1)) (
   let x2 := impl_areFinite_1 x1;
   .ask x2
   (
    .leaf (.inr (.inl s), []))
   (
    let x3 := IntKind.wrap .i64 (s + 1);
    .leaf (.inl x3, [])))))
  (
   .leaf (.inr (.inr ()), []))
def slices_IndexFunc___float32_float32__impl_areFinite_1_loop0_L (p : List Nat × Int) : LoopS (Int) ((Int) ⊕ (Unit)) := { tl := fun s => [.vslc 1 (.flt .f32) p.1, .func (.func 74) [] [], .junk, .junk, .junk, .junk, .junk, .int .i64 p.2, .int .i64 s], hl := fun s => [], ex := fun r => match r with | .inl r => .ret | .inr r => .exit 0, otl := fun r => match r with | .inl r => [.junk, .junk, .junk, .junk, .int .i64 r] | .inr r => [.junk], ohl := fun r => match r with | .inl r => [] | .inr r => [] }
def slices_IndexFunc___float32_float32__impl_areFinite_1_loop0_ext : St → Option ((List Nat × Int) × (Int) × List Nat) := fun S => match (S.tm 0).unK, (S.tm 1).unK, (S.tm 7).unK, (S.tm 8).unK with
  | .vslc 1 (.flt .f32) q0, .func (.func 74) [] [], .int .i64 q1, .int .i64 q2 => some ((q0, q1), q2, [])
  | _, _, _, _ => none
def slices_IndexFunc___float32_float32__impl_areFinite_1_loop0_post (p : List Nat × Int) (r : (Int) ⊕ (Unit)) : DT (Ex × St) := .ask (isL r) (.leaf (.ret, LSt [.junk, .junk, .junk, .junk, .int .i64 ((leftD r))] [])) (.leaf (.exit 0, LSt [.junk] []))
def slices_IndexFunc___float32_float32__impl_areFinite_1_loop0 (p : List Nat × Int) (s : Int) : (Int) ⊕ (Unit) := loopVal (slices_IndexFunc___float32_float32__impl_areFinite_1_loop0_step p) s
def slices_IndexFunc___float32_float32__impl_areFinite_1_loop0_ends (p : List Nat × Int) (s : Int) : Bool := loopEnds (slices_IndexFunc___float32_float32__impl_areFinite_1_loop0_step p) s
def slices_IndexFunc___float32_float32__impl_areFinite_1_loop0_F : LoopF := loopF slices_IndexFunc___float32_float32__impl_areFinite_1_loop0_step slices_IndexFunc___float32_float32__impl_areFinite_1_loop0_ext slices_IndexFunc___float32_float32__impl_areFinite_1_loop0_post
set_option maxRecDepth 100000 in
theorem slices_IndexFunc___float32_float32__impl_areFinite_1_loop0_hext : ∀ S p s fl, slices_IndexFunc___float32_float32__impl_areFinite_1_loop0_ext S = some (p, s, fl) → Norm S fl ((slices_IndexFunc___float32_float32__impl_areFinite_1_loop0_L p).tl s) ((slices_IndexFunc___float32_float32__impl_areFinite_1_loop0_L p).hl s) (slices_IndexFunc___float32_float32__impl_areFinite_1_loop0_L p).gl := by
  intro S p s fl h
  unfold slices_IndexFunc___float32_float32__impl_areFinite_1_loop0_ext at h
  (repeat' split at h) <;> first
    | (cases h; constructor <;> simp_all [slices_IndexFunc___float32_float32__impl_areFinite_1_loop0_L, keepT, keepH, rens, renH, PV.ren, Blk.ren, fOf, lget, nodup, natIn, lenEq, gtm, PV.unK])
    | cases h
set_option maxRecDepth 100000 in
theorem slices_IndexFunc___float32_float32__impl_areFinite_1_loop0_hpost : ∀ p r e S', (slices_IndexFunc___float32_float32__impl_areFinite_1_loop0_post p r).get = some (e, S') → e = (slices_IndexFunc___float32_float32__impl_areFinite_1_loop0_L p).ex r ∧ S' = LSt ((slices_IndexFunc___float32_float32__impl_areFinite_1_loop0_L p).otl r) ((slices_IndexFunc___float32_float32__impl_areFinite_1_loop0_L p).ohl r) ((slices_IndexFunc___float32_float32__impl_areFinite_1_loop0_L p).ogl r) := by
  intro p r e S' h
  unfold slices_IndexFunc___float32_float32__impl_areFinite_1_loop0_post at h
  cases r <;> (simp only [isL, DT.get, Option.some.injEq, Prod.mk.injEq] at h; exact ⟨h.1.symm, h.2.symm⟩)

def slices_IndexFunc___float32_float32__impl_areFinite_1_loops : Nat → Option LoopF := loopTab [(2, slices_IndexFunc___float32_float32__impl_areFinite_1_loop0_F)]
set_option maxRecDepth 100000 in
theorem slices_IndexFunc___float32_float32__impl_areFinite_1_l0 : LoopOK Try.prog ⟨gam [(74, impl_areFinite_1_c)], tab, 19, slices_IndexFunc___float32_float32__impl_areFinite_1_loops⟩ (lp Try.f82 0) :=
  loopOK_some (F := slices_IndexFunc___float32_float32__impl_areFinite_1_loop0_F) (by kernel_rfl) (loopF_ok (E := ⟨gam [(74, impl_areFinite_1_c)], tab, 19, slices_IndexFunc___float32_float32__impl_areFinite_1_loops⟩) ⟨gam_cons impl_areFinite_1_ok (gam_nil), tab_ok, by kernel_rfl⟩ (fuel := 100000) (loopsOK_list (l := []) (by kernel_rfl) trivial) (L := slices_IndexFunc___float32_float32__impl_areFinite_1_loop0_L) (fun p s => by unfold AgreeL; exact ⟨by kernel_rfl, by kernel_rfl⟩) (fun _ r h => by cases r <;> exact Ex.noConfusion h) slices_IndexFunc___float32_float32__impl_areFinite_1_loop0_hext slices_IndexFunc___float32_float32__impl_areFinite_1_loop0_hpost)
/-- slices.IndexFunc[[]float32,float32] -/
def slices_IndexFunc___float32_float32__impl_areFinite_1_tree (a0 : List Nat) : DT (Int) :=
  let x0 := ((List.length a0 : Nat) : Int);
  .need ((slices_IndexFunc___float32_float32__impl_areFinite_1_loop0_ends (a0, x0) 0)) (
  let x1 := slices_IndexFunc___float32_float32__impl_areFinite_1_loop0 (a0, x0) 0;
  .ask ((isL x1))
  (
   .leaf ((leftD x1)))
  (
   .leaf (-1)))
def slices_IndexFunc___float32_float32__impl_areFinite_1 (a0 : List Nat) : Int := (slices_IndexFunc___float32_float32__impl_areFinite_1_tree a0).val
def slices_IndexFunc___float32_float32__impl_areFinite_1_need (a0 : List Nat) : Bool := (slices_IndexFunc___float32_float32__impl_areFinite_1_tree a0).ok
def slices_IndexFunc___float32_float32__impl_areFinite_1_mk (p : Int) : Ret := ⟨.int .i64 p, []⟩
def slices_IndexFunc___float32_float32__impl_areFinite_1_c0 : Con := fun args => match args with
  | [.vslc 1 (.flt .f32) a0, .func (.func 74) [] []] => some (.need (slices_IndexFunc___float32_float32__impl_areFinite_1_need a0) (.leaf (slices_IndexFunc___float32_float32__impl_areFinite_1_mk (slices_IndexFunc___float32_float32__impl_areFinite_1 a0))))
  | _ => none
set_option maxRecDepth 100000 in
theorem slices_IndexFunc___float32_float32__impl_areFinite_1_ok0 : FunOK Try.prog 82 slices_IndexFunc___float32_float32__impl_areFinite_1_c0.fn := by
  refine con_ok (Γ := gam [(74, impl_areFinite_1_c)]) (gam_cons impl_areFinite_1_ok (gam_nil)) tab_ok (by kernel_rfl) Try.func82 (by kernel_rfl) (by kernel_rfl) Try.ntmps82 Try.results82 (loops := slices_IndexFunc___float32_float32__impl_areFinite_1_loops) (loopsOK_list (l := [lp Try.f82 0]) (by kernel_rfl) ⟨slices_IndexFunc___float32_float32__impl_areFinite_1_l0, trivial⟩) 100000 fun args t h => ?_
  unfold slices_IndexFunc___float32_float32__impl_areFinite_1_c0 at h
  split at h
  · rename_i a0
    cases h
    exact ⟨rfl, agree_need (mk := slices_IndexFunc___float32_float32__impl_areFinite_1_mk) (t := slices_IndexFunc___float32_float32__impl_areFinite_1_tree a0) (by unfold Agree; kernel_rfl)⟩
  · cases h
def slices_IndexFunc___float32_float32__impl_areFinite_1_c : Con := fun args => slices_IndexFunc___float32_float32__impl_areFinite_1_c0 (norms 0 [.slc (.flt .f32), .none] args)
set_option maxRecDepth 100000 in
theorem slices_IndexFunc___float32_float32__impl_areFinite_1_ok : FunOK Try.prog 82 slices_IndexFunc___float32_float32__impl_areFinite_1_c.fn := con_norm [.slc (.flt .f32), .none] slices_IndexFunc___float32_float32__impl_areFinite_1_ok0

/-- slices.ContainsFunc[[]float32,float32] -/
def slices_ContainsFunc___float32_float32__impl_areFinite_1_tree (a0 : List Nat) : DT (Bool) :=
  .need ((slices_IndexFunc___float32_float32__impl_areFinite_1_need a0 )) (
  let x0 := slices_IndexFunc___float32_float32__impl_areFinite_1 a0 ;
  let x1 := decide (x0 ≥ 0);
  .leaf x1)
def slices_ContainsFunc___float32_float32__impl_areFinite_1 (a0 : List Nat) : Bool := (slices_ContainsFunc___float32_float32__impl_areFinite_1_tree a0).val
def slices_ContainsFunc___float32_float32__impl_areFinite_1_need (a0 : List Nat) : Bool := (slices_ContainsFunc___float32_float32__impl_areFinite_1_tree a0).ok
def slices_ContainsFunc___float32_float32__impl_areFinite_1_mk (p : Bool) : Ret := ⟨.bool p, []⟩
def slices_ContainsFunc___float32_float32__impl_areFinite_1_c0 : Con := fun args => match args with
  | [.vslc 1 (.flt .f32) a0, .func (.func 74) [] []] => some (.need (slices_ContainsFunc___float32_float32__impl_areFinite_1_need a0) (.leaf (slices_ContainsFunc___float32_float32__impl_areFinite_1_mk (slices_ContainsFunc___float32_float32__impl_areFinite_1 a0))))
  | _ => none
set_option maxRecDepth 100000 in
theorem slices_ContainsFunc___float32_float32__impl_areFinite_1_ok0 : FunOK Try.prog 73 slices_ContainsFunc___float32_float32__impl_areFinite_1_c0.fn := by
  refine con_ok (Γ := gam [(82, slices_IndexFunc___float32_float32__impl_areFinite_1_c)]) (gam_cons slices_IndexFunc___float32_float32__impl_areFinite_1_ok (gam_nil)) tab_ok (by kernel_rfl) Try.func73 (by kernel_rfl) (by kernel_rfl) Try.ntmps73 Try.results73 (loopsOK_none rfl _) 100000 fun args t h => ?_
  unfold slices_ContainsFunc___float32_float32__impl_areFinite_1_c0 at h
  split at h
  · rename_i a0
    cases h
    exact ⟨rfl, agree_need (mk := slices_ContainsFunc___float32_float32__impl_areFinite_1_mk) (t := slices_ContainsFunc___float32_float32__impl_areFinite_1_tree a0) (by unfold Agree; kernel_rfl)⟩
  · cases h
def slices_ContainsFunc___float32_float32__impl_areFinite_1_c : Con := fun args => slices_ContainsFunc___float32_float32__impl_areFinite_1_c0 (norms 0 [.slc (.flt .f32), .none] args)
set_option maxRecDepth 100000 in
theorem slices_ContainsFunc___float32_float32__impl_areFinite_1_ok : FunOK Try.prog 73 slices_ContainsFunc___float32_float32__impl_areFinite_1_c.fn := con_norm [.slc (.flt .f32), .none] slices_ContainsFunc___float32_float32__impl_areFinite_1_ok0

/-- loop.example/g01284/impl.areFinite -/
def impl_areFinite_tree (a0 : List Nat) : DT (Bool) :=
  .need ((slices_ContainsFunc___float32_float32__impl_areFinite_1_need a0 )) (
  let x0 := slices_ContainsFunc___float32_float32__impl_areFinite_1 a0 ;
  .leaf (!x0))
def impl_areFinite (a0 : List Nat) : Bool := (impl_areFinite_tree a0).val
def impl_areFinite_need (a0 : List Nat) : Bool := (impl_areFinite_tree a0).ok
def impl_areFinite_mk (p : Bool) : Ret := ⟨.bool p, []⟩
def impl_areFinite_c0 : Con := fun args => match args with
  | [.vslc 1 (.flt .f32) a0] => some (.need (impl_areFinite_need a0) (.leaf (impl_areFinite_mk (impl_areFinite a0))))
  | _ => none
set_option maxRecDepth 100000 in
theorem impl_areFinite_ok0 : FunOK Try.prog 48 impl_areFinite_c0.fn := by
  refine con_ok (Γ := gam [(73, slices_ContainsFunc___float32_float32__impl_areFinite_1_c)]) (gam_cons slices_ContainsFunc___float32_float32__impl_areFinite_1_ok (gam_nil)) tab_ok (by kernel_rfl) Try.func48 (by kernel_rfl) (by kernel_rfl) Try.ntmps48 Try.results48 (loopsOK_none rfl _) 100000 fun args t h => ?_
  unfold impl_areFinite_c0 at h
  split at h
  · rename_i a0
    cases h
    exact ⟨rfl, agree_need (mk := impl_areFinite_mk) (t := impl_areFinite_tree a0) (by unfold Agree; kernel_rfl)⟩
  · cases h
def impl_areFinite_c : Con := fun args => impl_areFinite_c0 (norms 0 [.slc (.flt .f32)] args)
set_option maxRecDepth 100000 in
theorem impl_areFinite_ok : FunOK Try.prog 48 impl_areFinite_c.fn := con_norm [.slc (.flt .f32)] impl_areFinite_ok0

/-- loop.example/g01284/impl.isTurn -/
def impl_isTurn_tree (a0 : Nat) : DT (Bool) :=
  let x0 := fge .f32 a0 0;
  .ask x0
  (
   let x1 := flt .f32 a0 1065353216;
   .leaf x1)
  (
   .leaf false)
def impl_isTurn (a0 : Nat) : Bool := (impl_isTurn_tree a0).val
def impl_isTurn_mk (p : Bool) : Ret := ⟨.bool p, []⟩
def impl_isTurn_c : Con := fun args => match args with
  | [.flt .f32 a0] => some (.leaf (impl_isTurn_mk (impl_isTurn a0)))
  | _ => none
set_option maxRecDepth 100000 in
theorem impl_isTurn_ok : FunOK Try.prog 49 impl_isTurn_c.fn := by
  refine con_ok (Γ := gam []) (gam_nil) tab_ok (by kernel_rfl) Try.func49 (by kernel_rfl) (by kernel_rfl) Try.ntmps49 Try.results49 (loopsOK_none rfl _) 100000 fun args t h => ?_
  unfold impl_isTurn_c at h
  split at h
  · rename_i a0
    cases h
    exact ⟨rfl, agree_tot (mk := impl_isTurn_mk) (t := impl_isTurn_tree a0) (by unfold Agree; kernel_rfl) (by kernel_rfl)⟩
  · cases h

/-- (loop.example/g01284/impl.Orbit).isEllipse -/
def impl_Orbit_isEllipse_tree (a0 : Orbit) : DT (Bool) :=
  let x0 := fgt .f32 a0.Long 0;
  .ask x0
  (
   let x1 := fge .f32 a0.Round 0;
   .ask x1
   (
    let x2 := flt .f32 a0.Round 1065353216;
    .ask x2
    (
     let x3 := impl_isTurn a0.Phase;
     .leaf x3)
    (
     .leaf false))
   (
    .leaf false))
  (
   .leaf false)
def impl_Orbit_isEllipse (a0 : Orbit) : Bool := (impl_Orbit_isEllipse_tree a0).val
def impl_Orbit_isEllipse_mk (p : Bool) : Ret := ⟨.bool p, []⟩
def impl_Orbit_isEllipse_c : Con := fun args => match args with
  | [.agg [.flt .f32 a0_0, .flt .f32 a0_1, .flt .f32 a0_2, .flt .f32 a0_3, .flt .f32 a0_4, .flt .f32 a0_5]] => some (.leaf (impl_Orbit_isEllipse_mk (impl_Orbit_isEllipse (⟨a0_0, a0_1, a0_2, a0_3, a0_4, a0_5⟩ : Orbit))))
  | _ => none
set_option maxRecDepth 100000 in
theorem impl_Orbit_isEllipse_ok : FunOK Try.prog 50 impl_Orbit_isEllipse_c.fn := by
  refine con_ok (Γ := gam [(49, impl_isTurn_c)]) (gam_cons impl_isTurn_ok (gam_nil)) tab_ok (by kernel_rfl) Try.func50 (by kernel_rfl) (by kernel_rfl) Try.ntmps50 Try.results50 (loopsOK_none rfl _) 100000 fun args t h => ?_
  unfold impl_Orbit_isEllipse_c at h
  split at h
  · rename_i a0_0 a0_1 a0_2 a0_3 a0_4 a0_5
    cases h
    exact ⟨rfl, agree_tot (mk := impl_Orbit_isEllipse_mk) (t := impl_Orbit_isEllipse_tree (⟨a0_0, a0_1, a0_2, a0_3, a0_4, a0_5⟩ : Orbit)) (by unfold Agree; kernel_rfl) (by kernel_rfl)⟩
  · cases h

/-- (loop.example/g01284/impl.Orbit).isBranch -/
def impl_Orbit_isBranch_tree (a0 : Orbit) : DT (Bool) :=
  let x0 := flt .f32 a0.Long 0;
  .ask x0
  (
   let x1 := fgt .f32 a0.Round 1065353216;
   .ask x1
   (
    let x2 := fge .f32 a0.Phase 3246391296;
    .ask x2
    (
     let x3 := fle .f32 a0.Phase 1098907648;
     .leaf x3)
    (
     .leaf false))
   (
    .leaf false))
  (
   .leaf false)
def impl_Orbit_isBranch (a0 : Orbit) : Bool := (impl_Orbit_isBranch_tree a0).val
def impl_Orbit_isBranch_mk (p : Bool) : Ret := ⟨.bool p, []⟩
def impl_Orbit_isBranch_c : Con := fun args => match args with
  | [.agg [.flt .f32 a0_0, .flt .f32 a0_1, .flt .f32 a0_2, .flt .f32 a0_3, .flt .f32 a0_4, .flt .f32 a0_5]] => some (.leaf (impl_Orbit_isBranch_mk (impl_Orbit_isBranch (⟨a0_0, a0_1, a0_2, a0_3, a0_4, a0_5⟩ : Orbit))))
  | _ => none
set_option maxRecDepth 100000 in
theorem impl_Orbit_isBranch_ok : FunOK Try.prog 51 impl_Orbit_isBranch_c.fn := by
  refine con_ok (Γ := gam []) (gam_nil) tab_ok (by kernel_rfl) Try.func51 (by kernel_rfl) (by kernel_rfl) Try.ntmps51 Try.results51 (loopsOK_none rfl _) 100000 fun args t h => ?_
  unfold impl_Orbit_isBranch_c at h
  split at h
  · rename_i a0_0 a0_1 a0_2 a0_3 a0_4 a0_5
    cases h
    exact ⟨rfl, agree_tot (mk := impl_Orbit_isBranch_mk) (t := impl_Orbit_isBranch_tree (⟨a0_0, a0_1, a0_2, a0_3, a0_4, a0_5⟩ : Orbit)) (by unfold Agree; kernel_rfl) (by kernel_rfl)⟩
  · cases h

/-- loop.example/g01284/impl.ValidOrbit -/
def impl_ValidOrbit_tree (a0 : Orbit) : DT (Bool) :=
  .need ((impl_areFinite_need ([a0.Long, a0.Round, a0.Tilt, a0.Node, a0.Peri, a0.Phase]))) (
  let x0 := impl_areFinite ([a0.Long, a0.Round, a0.Tilt, a0.Node, a0.Peri, a0.Phase]);
  .ask x0
  (
   let x1 := fge .f32 a0.Tilt 0;
   .ask x1
   (
    let x2 := fle .f32 a0.Tilt 1056964608;
    .ask x2
    (
     let x3 := impl_isTurn a0.Node;
     .ask x3
     (
      let x4 := impl_isTurn a0.Peri;
      .ask x4
      (
       let x5 := impl_Orbit_isEllipse (⟨a0.Long, a0.Round, a0.Tilt, a0.Node, a0.Peri, a0.Phase⟩ : Orbit);
       .ask x5
       (
        .leaf true)
       (
        let x6 := impl_Orbit_isBranch (⟨a0.Long, a0.Round, a0.Tilt, a0.Node, a0.Peri, a0.Phase⟩ : Orbit);
        .leaf x6))
      (
       .leaf false))
     (
      .leaf false))
    (
     .leaf false))
   (
    .leaf false))
  (
   .leaf false))
def impl_ValidOrbit (a0 : Orbit) : Bool := (impl_ValidOrbit_tree a0).val
def impl_ValidOrbit_need (a0 : Orbit) : Bool := (impl_ValidOrbit_tree a0).ok
def impl_ValidOrbit_mk (p : Bool) : Ret := ⟨.bool p, []⟩
def impl_ValidOrbit_c : Con := fun args => match args with
  | [.agg [.flt .f32 a0_0, .flt .f32 a0_1, .flt .f32 a0_2, .flt .f32 a0_3, .flt .f32 a0_4, .flt .f32 a0_5]] => some (.need (impl_ValidOrbit_need (⟨a0_0, a0_1, a0_2, a0_3, a0_4, a0_5⟩ : Orbit)) (.leaf (impl_ValidOrbit_mk (impl_ValidOrbit (⟨a0_0, a0_1, a0_2, a0_3, a0_4, a0_5⟩ : Orbit)))))
  | _ => none
set_option maxRecDepth 100000 in
theorem impl_ValidOrbit_ok : FunOK Try.prog 29 impl_ValidOrbit_c.fn := by
  refine con_ok (Γ := gam [(48, impl_areFinite_c), (49, impl_isTurn_c), (50, impl_Orbit_isEllipse_c), (51, impl_Orbit_isBranch_c)]) (gam_cons impl_areFinite_ok (gam_cons impl_isTurn_ok (gam_cons impl_Orbit_isEllipse_ok (gam_cons impl_Orbit_isBranch_ok (gam_nil))))) tab_ok (by kernel_rfl) Try.func29 (by kernel_rfl) (by kernel_rfl) Try.ntmps29 Try.results29 (loopsOK_none rfl _) 100000 fun args t h => ?_
  unfold impl_ValidOrbit_c at h
  split at h
  · rename_i a0_0 a0_1 a0_2 a0_3 a0_4 a0_5
    cases h
    exact ⟨rfl, agree_need (mk := impl_ValidOrbit_mk) (t := impl_ValidOrbit_tree (⟨a0_0, a0_1, a0_2, a0_3, a0_4, a0_5⟩ : Orbit)) (by unfold Agree; kernel_rfl)⟩
  · cases h

/-- loop.example/g01284/impl.aLength -/
def impl_aLength_tree (a0 : Nat) : DT (Bool) :=
  .need ((impl_IsFinite_need a0)) (
  let x0 := impl_IsFinite a0;
  .ask x0
  (
   let x1 := fgt .f32 a0 0;
   .leaf x1)
  (
   .leaf false))
def impl_aLength (a0 : Nat) : Bool := (impl_aLength_tree a0).val
def impl_aLength_need (a0 : Nat) : Bool := (impl_aLength_tree a0).ok
def impl_aLength_mk (p : Bool) : Ret := ⟨.bool p, []⟩
def impl_aLength_c : Con := fun args => match args with
  | [.flt .f32 a0] => some (.need (impl_aLength_need a0) (.leaf (impl_aLength_mk (impl_aLength a0))))
  | _ => none
set_option maxRecDepth 100000 in
theorem impl_aLength_ok : FunOK Try.prog 42 impl_aLength_c.fn := by
  refine con_ok (Γ := gam [(25, impl_IsFinite_c)]) (gam_cons impl_IsFinite_ok (gam_nil)) tab_ok (by kernel_rfl) Try.func42 (by kernel_rfl) (by kernel_rfl) Try.ntmps42 Try.results42 (loopsOK_none rfl _) 100000 fun args t h => ?_
  unfold impl_aLength_c at h
  split at h
  · rename_i a0
    cases h
    exact ⟨rfl, agree_need (mk := impl_aLength_mk) (t := impl_aLength_tree a0) (by unfold Agree; kernel_rfl)⟩
  · cases h

/-- (loop.example/g01284/impl.Orbit).isAround -/
def impl_Orbit_isAround_tree (a0 : Orbit) (a1 : Nat) : DT (Bool) :=
  .need ((impl_ValidOrbit_need (⟨a0.Long, a0.Round, a0.Tilt, a0.Node, a0.Peri, a0.Phase⟩ : Orbit))) (
  let x0 := impl_ValidOrbit (⟨a0.Long, a0.Round, a0.Tilt, a0.Node, a0.Peri, a0.Phase⟩ : Orbit);
  .ask x0
  (
   .need ((impl_aLength_need a1)) (
   let x1 := impl_aLength a1;
   .leaf x1))
  (
   .leaf false))
def impl_Orbit_isAround (a0 : Orbit) (a1 : Nat) : Bool := (impl_Orbit_isAround_tree a0 a1).val
def impl_Orbit_isAround_need (a0 : Orbit) (a1 : Nat) : Bool := (impl_Orbit_isAround_tree a0 a1).ok
def impl_Orbit_isAround_mk (p : Bool) : Ret := ⟨.bool p, []⟩
def impl_Orbit_isAround_c : Con := fun args => match args with
  | [.agg [.flt .f32 a0_0, .flt .f32 a0_1, .flt .f32 a0_2, .flt .f32 a0_3, .flt .f32 a0_4, .flt .f32 a0_5], .flt .f32 a1] => some (.need (impl_Orbit_isAround_need (⟨a0_0, a0_1, a0_2, a0_3, a0_4, a0_5⟩ : Orbit) a1) (.leaf (impl_Orbit_isAround_mk (impl_Orbit_isAround (⟨a0_0, a0_1, a0_2, a0_3, a0_4, a0_5⟩ : Orbit) a1))))
  | _ => none
set_option maxRecDepth 100000 in
theorem impl_Orbit_isAround_ok : FunOK Try.prog 22 impl_Orbit_isAround_c.fn := by
  refine con_ok (Γ := gam [(29, impl_ValidOrbit_c), (42, impl_aLength_c)]) (gam_cons impl_ValidOrbit_ok (gam_cons impl_aLength_ok (gam_nil))) tab_ok (by kernel_rfl) Try.func22 (by kernel_rfl) (by kernel_rfl) Try.ntmps22 Try.results22 (loopsOK_none rfl _) 100000 fun args t h => ?_
  unfold impl_Orbit_isAround_c at h
  split at h
  · rename_i a0_0 a0_1 a0_2 a0_3 a0_4 a0_5 a1
    cases h
    exact ⟨rfl, agree_need (mk := impl_Orbit_isAround_mk) (t := impl_Orbit_isAround_tree (⟨a0_0, a0_1, a0_2, a0_3, a0_4, a0_5⟩ : Orbit) a1) (by unfold Agree; kernel_rfl)⟩
  · cases h

/-- math.Sqrt -/
def math_Sqrt_tree (a0 : Nat) : DT (Nat) :=
  let x0 := fsqrt a0;
  .leaf x0
def math_Sqrt (a0 : Nat) : Nat := (math_Sqrt_tree a0).val
def math_Sqrt_mk (p : Nat) : Ret := ⟨.flt .f64 p, []⟩
def math_Sqrt_c : Con := fun args => match args with
  | [.flt .f64 a0] => some (.leaf (math_Sqrt_mk (math_Sqrt a0)))
  | _ => none
set_option maxRecDepth 100000 in
theorem math_Sqrt_ok : FunOK Try.prog 45 math_Sqrt_c.fn := by
  refine con_ok (Γ := gam [(68, math_sqrt_c)]) (gam_cons math_sqrt_ok (gam_nil)) tab_ok (by kernel_rfl) Try.func45 (by kernel_rfl) (by kernel_rfl) Try.ntmps45 Try.results45 (loopsOK_none rfl _) 100000 fun args t h => ?_
  unfold math_Sqrt_c at h
  split at h
  · rename_i a0
    cases h
    exact ⟨rfl, agree_tot (mk := math_Sqrt_mk) (t := math_Sqrt_tree a0) (by unfold Agree; kernel_rfl) (by kernel_rfl)⟩
  · cases h

/-- (loop.example/g01284/impl.Orbit).rate -/
def impl_Orbit_rate_tree (a0 : Orbit) (a1 : Nat) : DT (Nat) :=
  .need ((fconvOk .f32 a0.Long .f64)) (
  let x0 := fconv .f32 a0.Long .f64;
  let x1 := math_Abs x0;
  let x2 := fmul .f64 x1 x1;
  let x3 := fmul .f64 x2 x1;
  let x4 := fdiv .f64 a1 x3;
  let x5 := math_Sqrt x4;
  .leaf x5)
def impl_Orbit_rate (a0 : Orbit) (a1 : Nat) : Nat := (impl_Orbit_rate_tree a0 a1).val
def impl_Orbit_rate_need (a0 : Orbit) (a1 : Nat) : Bool := (impl_Orbit_rate_tree a0 a1).ok
def impl_Orbit_rate_mk (p : Nat) : Ret := ⟨.flt .f64 p, []⟩
def impl_Orbit_rate_c : Con := fun args => match args with
  | [.agg [.flt .f32 a0_0, .flt .f32 a0_1, .flt .f32 a0_2, .flt .f32 a0_3, .flt .f32 a0_4, .flt .f32 a0_5], .flt .f64 a1] => some (.need (impl_Orbit_rate_need (⟨a0_0, a0_1, a0_2, a0_3, a0_4, a0_5⟩ : Orbit) a1) (.leaf (impl_Orbit_rate_mk (impl_Orbit_rate (⟨a0_0, a0_1, a0_2, a0_3, a0_4, a0_5⟩ : Orbit) a1))))
  | _ => none
set_option maxRecDepth 100000 in
theorem impl_Orbit_rate_ok : FunOK Try.prog 24 impl_Orbit_rate_c.fn := by
  refine con_ok (Γ := gam [(44, math_Abs_c), (45, math_Sqrt_c)]) (gam_cons math_Abs_ok (gam_cons math_Sqrt_ok (gam_nil))) tab_ok (by kernel_rfl) Try.func24 (by kernel_rfl) (by kernel_rfl) Try.ntmps24 Try.results24 (loopsOK_none rfl _) 100000 fun args t h => ?_
  unfold impl_Orbit_rate_c at h
  split at h
  · rename_i a0_0 a0_1 a0_2 a0_3 a0_4 a0_5 a1
    cases h
    exact ⟨rfl, agree_need (mk := impl_Orbit_rate_mk) (t := impl_Orbit_rate_tree (⟨a0_0, a0_1, a0_2, a0_3, a0_4, a0_5⟩ : Orbit) a1) (by unfold Agree; kernel_rfl)⟩
  · cases h

/-- loop.example/g01284/impl.told -/
def impl_told_tree (a0 : Nat) : DT (Nat × Bool) :=
  .need ((impl_IsFinite_need a0)) (
  let x0 := impl_IsFinite a0;
  .ask (!x0)
  (
   .leaf (0, false))
  (
   .leaf (a0, true)))
def impl_told (a0 : Nat) : Nat × Bool := (impl_told_tree a0).val
def impl_told_need (a0 : Nat) : Bool := (impl_told_tree a0).ok
def impl_told_mk (p : Nat × Bool) : Ret := ⟨.tup [.flt .f32 p.1, .bool p.2], []⟩
def impl_told_c : Con := fun args => match args with
  | [.flt .f32 a0] => some (.need (impl_told_need a0) (.leaf (impl_told_mk (impl_told a0))))
  | _ => none
set_option maxRecDepth 100000 in
theorem impl_told_ok : FunOK Try.prog 43 impl_told_c.fn := by
  refine con_ok (Γ := gam [(25, impl_IsFinite_c)]) (gam_cons impl_IsFinite_ok (gam_nil)) tab_ok (by kernel_rfl) Try.func43 (by kernel_rfl) (by kernel_rfl) Try.ntmps43 Try.results43 (loopsOK_none rfl _) 100000 fun args t h => ?_
  unfold impl_told_c at h
  split at h
  · rename_i a0
    cases h
    exact ⟨rfl, agree_need (mk := impl_told_mk) (t := impl_told_tree a0) (by unfold Agree; kernel_rfl)⟩
  · cases h

/-- loop.example/g01284/impl.narrowed -/
def impl_narrowed_tree (a0 : Nat) : DT (Nat × Bool) :=
  .need ((fconvOk .f64 a0 .f32)) (
  let x0 := fconv .f64 a0 .f32;
  .need ((impl_told_need x0)) (
  let x1 := impl_told x0;
  .leaf (x1.1, x1.2)))
def impl_narrowed (a0 : Nat) : Nat × Bool := (impl_narrowed_tree a0).val
def impl_narrowed_need (a0 : Nat) : Bool := (impl_narrowed_tree a0).ok
def impl_narrowed_mk (p : Nat × Bool) : Ret := ⟨.tup [.flt .f32 p.1, .bool p.2], []⟩
def impl_narrowed_c : Con := fun args => match args with
  | [.flt .f64 a0] => some (.need (impl_narrowed_need a0) (.leaf (impl_narrowed_mk (impl_narrowed a0))))
  | _ => none
set_option maxRecDepth 100000 in
theorem impl_narrowed_ok : FunOK Try.prog 23 impl_narrowed_c.fn := by
  refine con_ok (Γ := gam [(43, impl_told_c)]) (gam_cons impl_told_ok (gam_nil)) tab_ok (by kernel_rfl) Try.func23 (by kernel_rfl) (by kernel_rfl) Try.ntmps23 Try.results23 (loopsOK_none rfl _) 100000 fun args t h => ?_
  unfold impl_narrowed_c at h
  split at h
  · rename_i a0
    cases h
    exact ⟨rfl, agree_need (mk := impl_narrowed_mk) (t := impl_narrowed_tree a0) (by unfold Agree; kernel_rfl)⟩
  · cases h

/-- loop.example/g01284/impl.PeriodOf -/
def impl_PeriodOf_tree (a0 : Orbit) (a1 : Nat) : DT (Nat × Bool) :=
  .need ((impl_Orbit_isAround_need (⟨a0.Long, a0.Round, a0.Tilt, a0.Node, a0.Peri, a0.Phase⟩ : Orbit) a1)) (
  let x0 := impl_Orbit_isAround (⟨a0.Long, a0.Round, a0.Tilt, a0.Node, a0.Peri, a0.Phase⟩ : Orbit) a1;
  .ask (!x0)
  (
   .leaf (0, false))
  (
   let x1 := flt .f32 a0.Long 0;
   .ask x1
   (
    .leaf (0, false))
   (
    .need ((fconvOk .f32 a1 .f64)) (
    let x2 := fconv .f32 a1 .f64;
    .need ((impl_Orbit_rate_need (⟨a0.Long, a0.Round, a0.Tilt, a0.Node, a0.Peri, a0.Phase⟩ : Orbit) x2)) (
    let x3 := impl_Orbit_rate (⟨a0.Long, a0.Round, a0.Tilt, a0.Node, a0.Peri, a0.Phase⟩ : Orbit) x2;
    let x4 := fdiv .f64 4618760256179416344 x3;
    .need ((impl_narrowed_need x4)) (
    let x5 := impl_narrowed x4;
    .leaf (x5.1, x5.2)))))))
def impl_PeriodOf (a0 : Orbit) (a1 : Nat) : Nat × Bool := (impl_PeriodOf_tree a0 a1).val
def impl_PeriodOf_need (a0 : Orbit) (a1 : Nat) : Bool := (impl_PeriodOf_tree a0 a1).ok
def impl_PeriodOf_mk (p : Nat × Bool) : Ret := ⟨.tup [.flt .f32 p.1, .bool p.2], []⟩
def impl_PeriodOf_c : Con := fun args => match args with
  | [.agg [.flt .f32 a0_0, .flt .f32 a0_1, .flt .f32 a0_2, .flt .f32 a0_3, .flt .f32 a0_4, .flt .f32 a0_5], .flt .f32 a1] => some (.need (impl_PeriodOf_need (⟨a0_0, a0_1, a0_2, a0_3, a0_4, a0_5⟩ : Orbit) a1) (.leaf (impl_PeriodOf_mk (impl_PeriodOf (⟨a0_0, a0_1, a0_2, a0_3, a0_4, a0_5⟩ : Orbit) a1))))
  | _ => none
set_option maxRecDepth 100000 in
theorem impl_PeriodOf_ok : FunOK Try.prog 7 impl_PeriodOf_c.fn := by
  refine con_ok (Γ := gam [(22, impl_Orbit_isAround_c), (24, impl_Orbit_rate_c), (23, impl_narrowed_c)]) (gam_cons impl_Orbit_isAround_ok (gam_cons impl_Orbit_rate_ok (gam_cons impl_narrowed_ok (gam_nil)))) tab_ok (by kernel_rfl) Try.func7 (by kernel_rfl) (by kernel_rfl) Try.ntmps7 Try.results7 (loopsOK_none rfl _) 100000 fun args t h => ?_
  unfold impl_PeriodOf_c at h
  split at h
  · rename_i a0_0 a0_1 a0_2 a0_3 a0_4 a0_5 a1
    cases h
    exact ⟨rfl, agree_need (mk := impl_PeriodOf_mk) (t := impl_PeriodOf_tree (⟨a0_0, a0_1, a0_2, a0_3, a0_4, a0_5⟩ : Orbit) a1) (by unfold Agree; kernel_rfl)⟩
  · cases h

/-- loop.example/g01284/impl.RateOf -/
def impl_RateOf_tree (a0 : Orbit) (a1 : Nat) : DT (Nat × Bool) :=
  .need ((impl_Orbit_isAround_need (⟨a0.Long, a0.Round, a0.Tilt, a0.Node, a0.Peri, a0.Phase⟩ : Orbit) a1)) (
  let x0 := impl_Orbit_isAround (⟨a0.Long, a0.Round, a0.Tilt, a0.Node, a0.Peri, a0.Phase⟩ : Orbit) a1;
  .ask (!x0)
  (
   .leaf (0, false))
  (
   .need ((fconvOk .f32 a1 .f64)) (
   let x1 := fconv .f32 a1 .f64;
   .need ((impl_Orbit_rate_need (⟨a0.Long, a0.Round, a0.Tilt, a0.Node, a0.Peri, a0.Phase⟩ : Orbit) x1)) (
   let x2 := impl_Orbit_rate (⟨a0.Long, a0.Round, a0.Tilt, a0.Node, a0.Peri, a0.Phase⟩ : Orbit) x1;
   .need ((impl_narrowed_need x2)) (
   let x3 := impl_narrowed x2;
   .leaf (x3.1, x3.2))))))
def impl_RateOf (a0 : Orbit) (a1 : Nat) : Nat × Bool := (impl_RateOf_tree a0 a1).val
def impl_RateOf_need (a0 : Orbit) (a1 : Nat) : Bool := (impl_RateOf_tree a0 a1).ok
def impl_RateOf_mk (p : Nat × Bool) : Ret := ⟨.tup [.flt .f32 p.1, .bool p.2], []⟩
def impl_RateOf_c : Con := fun args => match args with
  | [.agg [.flt .f32 a0_0, .flt .f32 a0_1, .flt .f32 a0_2, .flt .f32 a0_3, .flt .f32 a0_4, .flt .f32 a0_5], .flt .f32 a1] => some (.need (impl_RateOf_need (⟨a0_0, a0_1, a0_2, a0_3, a0_4, a0_5⟩ : Orbit) a1) (.leaf (impl_RateOf_mk (impl_RateOf (⟨a0_0, a0_1, a0_2, a0_3, a0_4, a0_5⟩ : Orbit) a1))))
  | _ => none
set_option maxRecDepth 100000 in
theorem impl_RateOf_ok : FunOK Try.prog 8 impl_RateOf_c.fn := by
  refine con_ok (Γ := gam [(22, impl_Orbit_isAround_c), (24, impl_Orbit_rate_c), (23, impl_narrowed_c)]) (gam_cons impl_Orbit_isAround_ok (gam_cons impl_Orbit_rate_ok (gam_cons impl_narrowed_ok (gam_nil)))) tab_ok (by kernel_rfl) Try.func8 (by kernel_rfl) (by kernel_rfl) Try.ntmps8 Try.results8 (loopsOK_none rfl _) 100000 fun args t h => ?_
  unfold impl_RateOf_c at h
  split at h
  · rename_i a0_0 a0_1 a0_2 a0_3 a0_4 a0_5 a1
    cases h
    exact ⟨rfl, agree_need (mk := impl_RateOf_mk) (t := impl_RateOf_tree (⟨a0_0, a0_1, a0_2, a0_3, a0_4, a0_5⟩ : Orbit) a1) (by unfold Agree; kernel_rfl)⟩
  · cases h

-- FAILED 85 math.Copysign: nanb

-- FAILED 87 math.trunc: no contract: math.Copysign 

/-- math.Trunc -/
def math_Trunc_tree (a0 : Nat) : DT (Nat) :=
  let x0 := ftrunc a0;
  .leaf x0
def math_Trunc (a0 : Nat) : Nat := (math_Trunc_tree a0).val
def math_Trunc_mk (p : Nat) : Ret := ⟨.flt .f64 p, []⟩
def math_Trunc_c : Con := fun args => match args with
  | [.flt .f64 a0] => some (.leaf (math_Trunc_mk (math_Trunc a0)))
  | _ => none
set_option maxRecDepth 100000 in
theorem math_Trunc_ok : FunOK Try.prog 83 math_Trunc_c.fn := by
  refine con_ok (Γ := gam [(86, math_archTrunc_c)]) (gam_cons math_archTrunc_ok (gam_nil)) tab_ok (by kernel_rfl) Try.func83 (by kernel_rfl) (by kernel_rfl) Try.ntmps83 Try.results83 (loopsOK_none rfl _) 100000 fun args t h => ?_
  unfold math_Trunc_c at h
  split at h
  · rename_i a0
    cases h
    exact ⟨rfl, agree_tot (mk := math_Trunc_mk) (t := math_Trunc_tree a0) (by unfold Agree; kernel_rfl) (by kernel_rfl)⟩
  · cases h

-- FAILED 81 math.Modf: no contract: math.Copysign 

-- FAILED 72 math.floor: no contract: math.Modf 

/-- math.Floor -/
def math_Floor_tree (a0 : Nat) : DT (Nat) :=
  let x0 := ffloor a0;
  .leaf x0
def math_Floor (a0 : Nat) : Nat := (math_Floor_tree a0).val
def math_Floor_mk (p : Nat) : Ret := ⟨.flt .f64 p, []⟩
def math_Floor_c : Con := fun args => match args with
  | [.flt .f64 a0] => some (.leaf (math_Floor_mk (math_Floor a0)))
  | _ => none
set_option maxRecDepth 100000 in
theorem math_Floor_ok : FunOK Try.prog 47 math_Floor_c.fn := by
  refine con_ok (Γ := gam [(71, math_archFloor_c)]) (gam_cons math_archFloor_ok (gam_nil)) tab_ok (by kernel_rfl) Try.func47 (by kernel_rfl) (by kernel_rfl) Try.ntmps47 Try.results47 (loopsOK_none rfl _) 100000 fun args t h => ?_
  unfold math_Floor_c at h
  split at h
  · rename_i a0
    cases h
    exact ⟨rfl, agree_tot (mk := math_Floor_mk) (t := math_Floor_tree a0) (by unfold Agree; kernel_rfl) (by kernel_rfl)⟩
  · cases h

/-- loop.example/g01284/impl.wrap -/
def impl_wrap_tree (a0 : Nat) : DT (Nat) :=
  let x0 := math_Floor a0;
  let x1 := fsub .f64 a0 x0;
  .leaf x1
def impl_wrap (a0 : Nat) : Nat := (impl_wrap_tree a0).val
def impl_wrap_mk (p : Nat) : Ret := ⟨.flt .f64 p, []⟩
def impl_wrap_c : Con := fun args => match args with
  | [.flt .f64 a0] => some (.leaf (impl_wrap_mk (impl_wrap a0)))
  | _ => none
set_option maxRecDepth 100000 in
theorem impl_wrap_ok : FunOK Try.prog 27 impl_wrap_c.fn := by
  refine con_ok (Γ := gam [(47, math_Floor_c)]) (gam_cons math_Floor_ok (gam_nil)) tab_ok (by kernel_rfl) Try.func27 (by kernel_rfl) (by kernel_rfl) Try.ntmps27 Try.results27 (loopsOK_none rfl _) 100000 fun args t h => ?_
  unfold impl_wrap_c at h
  split at h
  · rename_i a0
    cases h
    exact ⟨rfl, agree_tot (mk := impl_wrap_mk) (t := impl_wrap_tree a0) (by unfold Agree; kernel_rfl) (by kernel_rfl)⟩
  · cases h

/-- loop.example/g01284/impl.narrowTurn -/
def impl_narrowTurn_tree (a0 : Nat) : DT (Nat) :=
  .need ((fconvOk .f64 a0 .f32)) (
  let x0 := fconv .f64 a0 .f32;
  let x1 := fge .f32 x0 1065353216;
  .ask x1
  (
   .leaf 0)
  (
   .leaf x0))
def impl_narrowTurn (a0 : Nat) : Nat := (impl_narrowTurn_tree a0).val
def impl_narrowTurn_need (a0 : Nat) : Bool := (impl_narrowTurn_tree a0).ok
def impl_narrowTurn_mk (p : Nat) : Ret := ⟨.flt .f32 p, []⟩
def impl_narrowTurn_c : Con := fun args => match args with
  | [.flt .f64 a0] => some (.need (impl_narrowTurn_need a0) (.leaf (impl_narrowTurn_mk (impl_narrowTurn a0))))
  | _ => none
set_option maxRecDepth 100000 in
theorem impl_narrowTurn_ok : FunOK Try.prog 26 impl_narrowTurn_c.fn := by
  refine con_ok (Γ := gam []) (gam_nil) tab_ok (by kernel_rfl) Try.func26 (by kernel_rfl) (by kernel_rfl) Try.ntmps26 Try.results26 (loopsOK_none rfl _) 100000 fun args t h => ?_
  unfold impl_narrowTurn_c at h
  split at h
  · rename_i a0
    cases h
    exact ⟨rfl, agree_need (mk := impl_narrowTurn_mk) (t := impl_narrowTurn_tree a0) (by unfold Agree; kernel_rfl)⟩
  · cases h

/-- (loop.example/g01284/impl.Orbit).valid -/
def impl_Orbit_valid_tree (a0 : Orbit) : DT (Orbit × Bool) :=
  .need ((impl_ValidOrbit_need (⟨a0.Long, a0.Round, a0.Tilt, a0.Node, a0.Peri, a0.Phase⟩ : Orbit))) (
  let x0 := impl_ValidOrbit (⟨a0.Long, a0.Round, a0.Tilt, a0.Node, a0.Peri, a0.Phase⟩ : Orbit);
  .ask (!x0)
  (
   .leaf ((⟨0, 0, 0, 0, 0, 0⟩ : Orbit), false))
  (
   .leaf ((⟨a0.Long, a0.Round, a0.Tilt, a0.Node, a0.Peri, a0.Phase⟩ : Orbit), true)))
def impl_Orbit_valid (a0 : Orbit) : Orbit × Bool := (impl_Orbit_valid_tree a0).val
def impl_Orbit_valid_need (a0 : Orbit) : Bool := (impl_Orbit_valid_tree a0).ok
def impl_Orbit_valid_mk (p : Orbit × Bool) : Ret := ⟨.tup [.agg [.flt .f32 p.1.Long, .flt .f32 p.1.Round, .flt .f32 p.1.Tilt, .flt .f32 p.1.Node, .flt .f32 p.1.Peri, .flt .f32 p.1.Phase], .bool p.2], []⟩
def impl_Orbit_valid_c : Con := fun args => match args with
  | [.agg [.flt .f32 a0_0, .flt .f32 a0_1, .flt .f32 a0_2, .flt .f32 a0_3, .flt .f32 a0_4, .flt .f32 a0_5]] => some (.need (impl_Orbit_valid_need (⟨a0_0, a0_1, a0_2, a0_3, a0_4, a0_5⟩ : Orbit)) (.leaf (impl_Orbit_valid_mk (impl_Orbit_valid (⟨a0_0, a0_1, a0_2, a0_3, a0_4, a0_5⟩ : Orbit)))))
  | _ => none
set_option maxRecDepth 100000 in
theorem impl_Orbit_valid_ok : FunOK Try.prog 28 impl_Orbit_valid_c.fn := by
  refine con_ok (Γ := gam [(29, impl_ValidOrbit_c)]) (gam_cons impl_ValidOrbit_ok (gam_nil)) tab_ok (by kernel_rfl) Try.func28 (by kernel_rfl) (by kernel_rfl) Try.ntmps28 Try.results28 (loopsOK_none rfl _) 100000 fun args t h => ?_
  unfold impl_Orbit_valid_c at h
  split at h
  · rename_i a0_0 a0_1 a0_2 a0_3 a0_4 a0_5
    cases h
    exact ⟨rfl, agree_need (mk := impl_Orbit_valid_mk) (t := impl_Orbit_valid_tree (⟨a0_0, a0_1, a0_2, a0_3, a0_4, a0_5⟩ : Orbit)) (by unfold Agree; kernel_rfl)⟩
  · cases h

/-- loop.example/g01284/impl.LaterOrbit -/
def impl_LaterOrbit_tree (a0 : Orbit) (a1 : Nat) (a2 : Nat) : DT (Orbit × Bool) :=
  .need ((impl_Orbit_isAround_need (⟨a0.Long, a0.Round, a0.Tilt, a0.Node, a0.Peri, a0.Phase⟩ : Orbit) a1)) (
  let x0 := impl_Orbit_isAround (⟨a0.Long, a0.Round, a0.Tilt, a0.Node, a0.Peri, a0.Phase⟩ : Orbit) a1;
  .ask (!x0)
  (
   .leaf ((⟨0, 0, 0, 0, 0, 0⟩ : Orbit), false))
  (
   .need ((impl_IsFinite_need a2)) (
   let x1 := impl_IsFinite a2;
   .ask (!x1)
   (
    .leaf ((⟨0, 0, 0, 0, 0, 0⟩ : Orbit), false))
   (
    .need ((fconvOk .f32 a0.Phase .f64)) (
    let x2 := fconv .f32 a0.Phase .f64;
    .need ((fconvOk .f32 a1 .f64)) (
    let x3 := fconv .f32 a1 .f64;
    .need ((impl_Orbit_rate_need (⟨a0.Long, a0.Round, a0.Tilt, a0.Node, a0.Peri, a0.Phase⟩ : Orbit) x3)) (
    let x4 := impl_Orbit_rate (⟨a0.Long, a0.Round, a0.Tilt, a0.Node, a0.Peri, a0.Phase⟩ : Orbit) x3;
    .need ((fconvOk .f32 a2 .f64)) (
    let x5 := fconv .f32 a2 .f64;
    let x6 := fmul .f64 x4 x5;
    let x7 := fdiv .f64 x6 4618760256179416344;
    let x8 := fadd .f64 x2 x7;
    let x9 := fgt .f32 a0.Long 0;
    .ask x9
    (
     let x10 := impl_wrap x8;
     .need ((impl_narrowTurn_need x10)) (
     let x11 := impl_narrowTurn x10;
     .need ((impl_Orbit_valid_need (⟨a0.Long, a0.Round, a0.Tilt, a0.Node, a0.Peri, x11⟩ : Orbit))) (
     let x12 := impl_Orbit_valid (⟨a0.Long, a0.Round, a0.Tilt, a0.Node, a0.Peri, x11⟩ : Orbit);
     .leaf ((⟨x12.1.Long, x12.1.Round, x12.1.Tilt, x12.1.Node, x12.1.Peri, x12.1.Phase⟩ : Orbit), x12.2))))
    (
     .need ((fconvOk .f64 x8 .f32)) (
     let x10 := fconv .f64 x8 .f32;
     .need ((impl_Orbit_valid_need (⟨a0.Long, a0.Round, a0.Tilt, a0.Node, a0.Peri, x10⟩ : Orbit))) (
     let x11 := impl_Orbit_valid (⟨a0.Long, a0.Round, a0.Tilt, a0.Node, a0.Peri, x10⟩ : Orbit);
     .leaf ((⟨x11.1.Long, x11.1.Round, x11.1.Tilt, x11.1.Node, x11.1.Peri, x11.1.Phase⟩ : Orbit), x11.2))))))))))))
def impl_LaterOrbit (a0 : Orbit) (a1 : Nat) (a2 : Nat) : Orbit × Bool := (impl_LaterOrbit_tree a0 a1 a2).val
def impl_LaterOrbit_need (a0 : Orbit) (a1 : Nat) (a2 : Nat) : Bool := (impl_LaterOrbit_tree a0 a1 a2).ok
def impl_LaterOrbit_mk (p : Orbit × Bool) : Ret := ⟨.tup [.agg [.flt .f32 p.1.Long, .flt .f32 p.1.Round, .flt .f32 p.1.Tilt, .flt .f32 p.1.Node, .flt .f32 p.1.Peri, .flt .f32 p.1.Phase], .bool p.2], []⟩
def impl_LaterOrbit_c : Con := fun args => match args with
  | [.agg [.flt .f32 a0_0, .flt .f32 a0_1, .flt .f32 a0_2, .flt .f32 a0_3, .flt .f32 a0_4, .flt .f32 a0_5], .flt .f32 a1, .flt .f32 a2] => some (.need (impl_LaterOrbit_need (⟨a0_0, a0_1, a0_2, a0_3, a0_4, a0_5⟩ : Orbit) a1 a2) (.leaf (impl_LaterOrbit_mk (impl_LaterOrbit (⟨a0_0, a0_1, a0_2, a0_3, a0_4, a0_5⟩ : Orbit) a1 a2))))
  | _ => none
set_option maxRecDepth 100000 in
theorem impl_LaterOrbit_ok : FunOK Try.prog 9 impl_LaterOrbit_c.fn := by
  refine con_ok (Γ := gam [(22, impl_Orbit_isAround_c), (25, impl_IsFinite_c), (24, impl_Orbit_rate_c), (27, impl_wrap_c), (26, impl_narrowTurn_c), (28, impl_Orbit_valid_c)]) (gam_cons impl_Orbit_isAround_ok (gam_cons impl_IsFinite_ok (gam_cons impl_Orbit_rate_ok (gam_cons impl_wrap_ok (gam_cons impl_narrowTurn_ok (gam_cons impl_Orbit_valid_ok (gam_nil))))))) tab_ok (by kernel_rfl) Try.func9 (by kernel_rfl) (by kernel_rfl) Try.ntmps9 Try.results9 (loopsOK_none rfl _) 100000 fun args t h => ?_
  unfold impl_LaterOrbit_c at h
  split at h
  · rename_i a0_0 a0_1 a0_2 a0_3 a0_4 a0_5 a1 a2
    cases h
    exact ⟨rfl, agree_need (mk := impl_LaterOrbit_mk) (t := impl_LaterOrbit_tree (⟨a0_0, a0_1, a0_2, a0_3, a0_4, a0_5⟩ : Orbit) a1 a2) (by unfold Agree; kernel_rfl)⟩
  · cases h

/-- loop.example/g01284/laws.b10Gap -/
def laws_b10Gap_tree (a0 : Nat) (a1 : Nat) : DT (Nat) :=
  let x0 := flt .f64 a0 a1;
  .ask x0
  (
   let x1 := fsub .f64 a1 a0;
   .leaf x1)
  (
   let x1 := fsub .f64 a0 a1;
   .leaf x1)
def laws_b10Gap (a0 : Nat) (a1 : Nat) : Nat := (laws_b10Gap_tree a0 a1).val
def laws_b10Gap_mk (p : Nat) : Ret := ⟨.flt .f64 p, []⟩
def laws_b10Gap_c : Con := fun args => match args with
  | [.flt .f64 a0, .flt .f64 a1] => some (.leaf (laws_b10Gap_mk (laws_b10Gap a0 a1)))
  | _ => none
set_option maxRecDepth 100000 in
theorem laws_b10Gap_ok : FunOK Try.prog 11 laws_b10Gap_c.fn := by
  refine con_ok (Γ := gam []) (gam_nil) tab_ok (by kernel_rfl) Try.func11 (by kernel_rfl) (by kernel_rfl) Try.ntmps11 Try.results11 (loopsOK_none rfl _) 100000 fun args t h => ?_
  unfold laws_b10Gap_c at h
  split at h
  · rename_i a0 a1
    cases h
    exact ⟨rfl, agree_tot (mk := laws_b10Gap_mk) (t := laws_b10Gap_tree a0 a1) (by unfold Agree; kernel_rfl) (by kernel_rfl)⟩
  · cases h

/-- a loop of laws_b10Turns -/
def laws_b10Turns_loop0_step (p : Unit) (s : Nat) : Round (Nat) (Nat) :=
  let x0 := fgt .f64 s 4602678819172646912;
  .ask x0
  (
   let x1 := fsub .f64 s 4607182418800017408;
   .leaf (.inl x1, []))
  (
   .leaf (.inr s, []))
def laws_b10Turns_loop0_L (p : Unit) : LoopS (Nat) (Nat) := { tl := fun s => [.junk, .junk, .junk, .junk, .junk, .flt .f64 s], hl := fun s => [], ex := fun r => .exit 0, otl := fun r => [.junk, .junk, .junk, .junk, .junk, .flt .f64 r], ohl := fun r => [] }
def laws_b10Turns_loop0_ext : St → Option ((Unit) × (Nat) × List Nat) := fun S => match (S.tm 5).unK with
  | .flt .f64 q0 => some ((), q0, [])
  | _ => none
def laws_b10Turns_loop0_post (p : Unit) (r : Nat) : DT (Ex × St) := .leaf (.exit 0, LSt [.junk, .junk, .junk, .junk, .junk, .flt .f64 r] [])
def laws_b10Turns_loop0 (p : Unit) (s : Nat) : Nat := loopVal (laws_b10Turns_loop0_step p) s
def laws_b10Turns_loop0_ends (p : Unit) (s : Nat) : Bool := loopEnds (laws_b10Turns_loop0_step p) s
def laws_b10Turns_loop0_F : LoopF := loopF laws_b10Turns_loop0_step laws_b10Turns_loop0_ext laws_b10Turns_loop0_post
set_option maxRecDepth 100000 in
theorem laws_b10Turns_loop0_hext : ∀ S p s fl, laws_b10Turns_loop0_ext S = some (p, s, fl) → Norm S fl ((laws_b10Turns_loop0_L p).tl s) ((laws_b10Turns_loop0_L p).hl s) (laws_b10Turns_loop0_L p).gl := by
  intro S p s fl h
  unfold laws_b10Turns_loop0_ext at h
  (repeat' split at h) <;> first
    | (cases h; constructor <;> simp_all [laws_b10Turns_loop0_L, keepT, keepH, rens, renH, PV.ren, Blk.ren, fOf, lget, nodup, natIn, lenEq, gtm, PV.unK])
    | cases h
set_option maxRecDepth 100000 in
theorem laws_b10Turns_loop0_hpost : ∀ p r e S', (laws_b10Turns_loop0_post p r).get = some (e, S') → e = (laws_b10Turns_loop0_L p).ex r ∧ S' = LSt ((laws_b10Turns_loop0_L p).otl r) ((laws_b10Turns_loop0_L p).ohl r) ((laws_b10Turns_loop0_L p).ogl r) := by
  intro p r e S' h
  unfold laws_b10Turns_loop0_post at h
  simp only [DT.get, Option.some.injEq, Prod.mk.injEq] at h; exact ⟨h.1.symm, h.2.symm⟩

/-- a loop of laws_b10Turns -/
def laws_b10Turns_loop1_step (p : Unit) (s : Nat) : Round (Nat) (Nat) :=
  let x0 := flt .f64 s 13826050856027422720;
  .ask x0
  (
   let x1 := fadd .f64 s 4607182418800017408;
   .leaf (.inl x1, []))
  (
   .leaf (.inr s, []))
def laws_b10Turns_loop1_L (p : Unit) : LoopS (Nat) (Nat) := { tl := fun s => [.junk, .junk, .junk, .junk, .junk, .flt .f64 s], hl := fun s => [], ex := fun r => .exit 2, otl := fun r => [.junk, .junk, .junk, .junk, .junk, .flt .f64 r], ohl := fun r => [] }
def laws_b10Turns_loop1_ext : St → Option ((Unit) × (Nat) × List Nat) := fun S => match (S.tm 5).unK with
  | .flt .f64 q0 => some ((), q0, [])
  | _ => none
def laws_b10Turns_loop1_post (p : Unit) (r : Nat) : DT (Ex × St) := .leaf (.exit 2, LSt [.junk, .junk, .junk, .junk, .junk, .flt .f64 r] [])
def laws_b10Turns_loop1 (p : Unit) (s : Nat) : Nat := loopVal (laws_b10Turns_loop1_step p) s
def laws_b10Turns_loop1_ends (p : Unit) (s : Nat) : Bool := loopEnds (laws_b10Turns_loop1_step p) s
def laws_b10Turns_loop1_F : LoopF := loopF laws_b10Turns_loop1_step laws_b10Turns_loop1_ext laws_b10Turns_loop1_post
set_option maxRecDepth 100000 in
theorem laws_b10Turns_loop1_hext : ∀ S p s fl, laws_b10Turns_loop1_ext S = some (p, s, fl) → Norm S fl ((laws_b10Turns_loop1_L p).tl s) ((laws_b10Turns_loop1_L p).hl s) (laws_b10Turns_loop1_L p).gl := by
  intro S p s fl h
  unfold laws_b10Turns_loop1_ext at h
  (repeat' split at h) <;> first
    | (cases h; constructor <;> simp_all [laws_b10Turns_loop1_L, keepT, keepH, rens, renH, PV.ren, Blk.ren, fOf, lget, nodup, natIn, lenEq, gtm, PV.unK])
    | cases h
set_option maxRecDepth 100000 in
theorem laws_b10Turns_loop1_hpost : ∀ p r e S', (laws_b10Turns_loop1_post p r).get = some (e, S') → e = (laws_b10Turns_loop1_L p).ex r ∧ S' = LSt ((laws_b10Turns_loop1_L p).otl r) ((laws_b10Turns_loop1_L p).ohl r) ((laws_b10Turns_loop1_L p).ogl r) := by
  intro p r e S' h
  unfold laws_b10Turns_loop1_post at h
  simp only [DT.get, Option.some.injEq, Prod.mk.injEq] at h; exact ⟨h.1.symm, h.2.symm⟩

def laws_b10Turns_loops : Nat → Option LoopF := loopTab [(2, laws_b10Turns_loop0_F), (4, laws_b10Turns_loop1_F)]
set_option maxRecDepth 100000 in
theorem laws_b10Turns_l1 : LoopOK Try.prog ⟨gam [(11, laws_b10Gap_c)], tab, 21, laws_b10Turns_loops⟩ (lp Try.f10 1) :=
  loopOK_some (F := laws_b10Turns_loop1_F) (by kernel_rfl) (loopF_ok (E := ⟨gam [(11, laws_b10Gap_c)], tab, 21, laws_b10Turns_loops⟩) ⟨gam_cons laws_b10Gap_ok (gam_nil), tab_ok, by kernel_rfl⟩ (fuel := 100000) (loopsOK_list (l := []) (by kernel_rfl) trivial) (L := laws_b10Turns_loop1_L) (fun p s => by unfold AgreeL; exact ⟨by kernel_rfl, by kernel_rfl⟩) (fun _ _ h => Ex.noConfusion h) laws_b10Turns_loop1_hext laws_b10Turns_loop1_hpost)
set_option maxRecDepth 100000 in
theorem laws_b10Turns_l0 : LoopOK Try.prog ⟨gam [(11, laws_b10Gap_c)], tab, 21, laws_b10Turns_loops⟩ (lp Try.f10 0) :=
  loopOK_some (F := laws_b10Turns_loop0_F) (by kernel_rfl) (loopF_ok (E := ⟨gam [(11, laws_b10Gap_c)], tab, 21, laws_b10Turns_loops⟩) ⟨gam_cons laws_b10Gap_ok (gam_nil), tab_ok, by kernel_rfl⟩ (fuel := 100000) (loopsOK_list (l := []) (by kernel_rfl) trivial) (L := laws_b10Turns_loop0_L) (fun p s => by unfold AgreeL; exact ⟨by kernel_rfl, by kernel_rfl⟩) (fun _ _ h => Ex.noConfusion h) laws_b10Turns_loop0_hext laws_b10Turns_loop0_hpost)
/-- loop.example/g01284/laws.b10Turns -/
def laws_b10Turns_tree (a0 : Nat) (a1 : Nat) : DT (Nat) :=
  .need ((fconvOk .f32 a0 .f64)) (
  let x0 := fconv .f32 a0 .f64;
  .need ((fconvOk .f32 a1 .f64)) (
  let x1 := fconv .f32 a1 .f64;
  let x2 := fsub .f64 x0 x1;
  .need ((laws_b10Turns_loop0_ends () x2)) (
  let x3 := laws_b10Turns_loop0 () x2;
  .need ((laws_b10Turns_loop1_ends () x3)) (
  let x4 := laws_b10Turns_loop1 () x3;
  let x5 := laws_b10Gap x4 0;
  .leaf x5))))
def laws_b10Turns (a0 : Nat) (a1 : Nat) : Nat := (laws_b10Turns_tree a0 a1).val
def laws_b10Turns_need (a0 : Nat) (a1 : Nat) : Bool := (laws_b10Turns_tree a0 a1).ok
def laws_b10Turns_mk (p : Nat) : Ret := ⟨.flt .f64 p, []⟩
def laws_b10Turns_c : Con := fun args => match args with
  | [.flt .f32 a0, .flt .f32 a1] => some (.need (laws_b10Turns_need a0 a1) (.leaf (laws_b10Turns_mk (laws_b10Turns a0 a1))))
  | _ => none
set_option maxRecDepth 100000 in
theorem laws_b10Turns_ok : FunOK Try.prog 10 laws_b10Turns_c.fn := by
  refine con_ok (Γ := gam [(11, laws_b10Gap_c)]) (gam_cons laws_b10Gap_ok (gam_nil)) tab_ok (by kernel_rfl) Try.func10 (by kernel_rfl) (by kernel_rfl) Try.ntmps10 Try.results10 (loops := laws_b10Turns_loops) (loopsOK_list (l := [lp Try.f10 0, lp Try.f10 1]) (by kernel_rfl) ⟨laws_b10Turns_l0, ⟨laws_b10Turns_l1, trivial⟩⟩) 100000 fun args t h => ?_
  unfold laws_b10Turns_c at h
  split at h
  · rename_i a0 a1
    cases h
    exact ⟨rfl, agree_need (mk := laws_b10Turns_mk) (t := laws_b10Turns_tree a0 a1) (by unfold Agree; kernel_rfl)⟩
  · cases h

/-- loop.example/g01284/impl.NearOf -/
def impl_NearOf_tree (a0 : Orbit) : DT (Nat × Bool) :=
  .need ((impl_ValidOrbit_need (⟨a0.Long, a0.Round, a0.Tilt, a0.Node, a0.Peri, a0.Phase⟩ : Orbit))) (
  let x0 := impl_ValidOrbit (⟨a0.Long, a0.Round, a0.Tilt, a0.Node, a0.Peri, a0.Phase⟩ : Orbit);
  .ask (!x0)
  (
   .leaf (0, false))
  (
   .need ((fconvOk .f32 a0.Long .f64)) (
   let x1 := fconv .f32 a0.Long .f64;
   .need ((fconvOk .f32 a0.Round .f64)) (
   let x2 := fconv .f32 a0.Round .f64;
   let x3 := fsub .f64 4607182418800017408 x2;
   let x4 := fmul .f64 x1 x3;
   .need ((impl_narrowed_need x4)) (
   let x5 := impl_narrowed x4;
   .leaf (x5.1, x5.2))))))
def impl_NearOf (a0 : Orbit) : Nat × Bool := (impl_NearOf_tree a0).val
def impl_NearOf_need (a0 : Orbit) : Bool := (impl_NearOf_tree a0).ok
def impl_NearOf_mk (p : Nat × Bool) : Ret := ⟨.tup [.flt .f32 p.1, .bool p.2], []⟩
def impl_NearOf_c : Con := fun args => match args with
  | [.agg [.flt .f32 a0_0, .flt .f32 a0_1, .flt .f32 a0_2, .flt .f32 a0_3, .flt .f32 a0_4, .flt .f32 a0_5]] => some (.need (impl_NearOf_need (⟨a0_0, a0_1, a0_2, a0_3, a0_4, a0_5⟩ : Orbit)) (.leaf (impl_NearOf_mk (impl_NearOf (⟨a0_0, a0_1, a0_2, a0_3, a0_4, a0_5⟩ : Orbit)))))
  | _ => none
set_option maxRecDepth 100000 in
theorem impl_NearOf_ok : FunOK Try.prog 12 impl_NearOf_c.fn := by
  refine con_ok (Γ := gam [(29, impl_ValidOrbit_c), (23, impl_narrowed_c)]) (gam_cons impl_ValidOrbit_ok (gam_cons impl_narrowed_ok (gam_nil))) tab_ok (by kernel_rfl) Try.func12 (by kernel_rfl) (by kernel_rfl) Try.ntmps12 Try.results12 (loopsOK_none rfl _) 100000 fun args t h => ?_
  unfold impl_NearOf_c at h
  split at h
  · rename_i a0_0 a0_1 a0_2 a0_3 a0_4 a0_5
    cases h
    exact ⟨rfl, agree_need (mk := impl_NearOf_mk) (t := impl_NearOf_tree (⟨a0_0, a0_1, a0_2, a0_3, a0_4, a0_5⟩ : Orbit)) (by unfold Agree; kernel_rfl)⟩
  · cases h

/-- loop.example/g01284/impl.FarOf -/
def impl_FarOf_tree (a0 : Orbit) : DT (Nat × Bool) :=
  .need ((impl_ValidOrbit_need (⟨a0.Long, a0.Round, a0.Tilt, a0.Node, a0.Peri, a0.Phase⟩ : Orbit))) (
  let x0 := impl_ValidOrbit (⟨a0.Long, a0.Round, a0.Tilt, a0.Node, a0.Peri, a0.Phase⟩ : Orbit);
  .ask (!x0)
  (
   .leaf (0, false))
  (
   let x1 := flt .f32 a0.Long 0;
   .ask x1
   (
    .leaf (0, false))
   (
    .need ((fconvOk .f32 a0.Long .f64)) (
    let x2 := fconv .f32 a0.Long .f64;
    .need ((fconvOk .f32 a0.Round .f64)) (
    let x3 := fconv .f32 a0.Round .f64;
    let x4 := fadd .f64 4607182418800017408 x3;
    let x5 := fmul .f64 x2 x4;
    .need ((impl_narrowed_need x5)) (
    let x6 := impl_narrowed x5;
    .leaf (x6.1, x6.2)))))))
def impl_FarOf (a0 : Orbit) : Nat × Bool := (impl_FarOf_tree a0).val
def impl_FarOf_need (a0 : Orbit) : Bool := (impl_FarOf_tree a0).ok
def impl_FarOf_mk (p : Nat × Bool) : Ret := ⟨.tup [.flt .f32 p.1, .bool p.2], []⟩
def impl_FarOf_c : Con := fun args => match args with
  | [.agg [.flt .f32 a0_0, .flt .f32 a0_1, .flt .f32 a0_2, .flt .f32 a0_3, .flt .f32 a0_4, .flt .f32 a0_5]] => some (.need (impl_FarOf_need (⟨a0_0, a0_1, a0_2, a0_3, a0_4, a0_5⟩ : Orbit)) (.leaf (impl_FarOf_mk (impl_FarOf (⟨a0_0, a0_1, a0_2, a0_3, a0_4, a0_5⟩ : Orbit)))))
  | _ => none
set_option maxRecDepth 100000 in
theorem impl_FarOf_ok : FunOK Try.prog 13 impl_FarOf_c.fn := by
  refine con_ok (Γ := gam [(29, impl_ValidOrbit_c), (23, impl_narrowed_c)]) (gam_cons impl_ValidOrbit_ok (gam_cons impl_narrowed_ok (gam_nil))) tab_ok (by kernel_rfl) Try.func13 (by kernel_rfl) (by kernel_rfl) Try.ntmps13 Try.results13 (loopsOK_none rfl _) 100000 fun args t h => ?_
  unfold impl_FarOf_c at h
  split at h
  · rename_i a0_0 a0_1 a0_2 a0_3 a0_4 a0_5
    cases h
    exact ⟨rfl, agree_need (mk := impl_FarOf_mk) (t := impl_FarOf_tree (⟨a0_0, a0_1, a0_2, a0_3, a0_4, a0_5⟩ : Orbit)) (by unfold Agree; kernel_rfl)⟩
  · cases h

/-- loop.example/g01284/laws.b10At -/
def laws_b10At_tree (a0 : List Int) (a1 : Int) (a2 : Int) : DT (Int) :=
  let x0 := decide (a2 ≤ 1);
  .ask x0
  (
   .leaf 0)
  (
   let x1 := ((List.length a0 : Nat) : Int);
   let x2 := decide (a1 < x1);
   .ask x2
   (
    .need ((decide (0 ≤ a1) && decide (a1 < ((List.length a0 : Nat) : Int)))) (
    let x3 := List.getD a0 (Int.toNat a1) default;
    let x4 := IntKind.wrap .i64 x3;
    .need ((a2 != 0)) (
    let x5 := Int.tmod x4 a2;
    .leaf x5)))
   (
    let x3 := IntKind.wrap .i64 (a1 * 37);
    let x4 := IntKind.wrap .i64 (x3 + 11);
    .need ((a2 != 0)) (
    let x5 := Int.tmod x4 a2;
    .leaf x5)))
def laws_b10At (a0 : List Int) (a1 : Int) (a2 : Int) : Int := (laws_b10At_tree a0 a1 a2).val
def laws_b10At_need (a0 : List Int) (a1 : Int) (a2 : Int) : Bool := (laws_b10At_tree a0 a1 a2).ok
def laws_b10At_mk (p : Int) : Ret := ⟨.int .i64 p, []⟩
def laws_b10At_c0 : Con := fun args => match args with
  | [.vslc 1 (.int .u8) a0, .int .i64 a1, .int .i64 a2] => some (.need (laws_b10At_need a0 a1 a2) (.leaf (laws_b10At_mk (laws_b10At a0 a1 a2))))
  | _ => none
set_option maxRecDepth 100000 in
theorem laws_b10At_ok0 : FunOK Try.prog 14 laws_b10At_c0.fn := by
  refine con_ok (Γ := gam []) (gam_nil) tab_ok (by kernel_rfl) Try.func14 (by kernel_rfl) (by kernel_rfl) Try.ntmps14 Try.results14 (loopsOK_none rfl _) 100000 fun args t h => ?_
  unfold laws_b10At_c0 at h
  split at h
  · rename_i a0 a1 a2
    cases h
    exact ⟨rfl, agree_need (mk := laws_b10At_mk) (t := laws_b10At_tree a0 a1 a2) (by unfold Agree; kernel_rfl)⟩
  · cases h
def laws_b10At_c : Con := fun args => laws_b10At_c0 (norms 0 [.slc (.int .u8), .none, .none] args)
set_option maxRecDepth 100000 in
theorem laws_b10At_ok : FunOK Try.prog 14 laws_b10At_c.fn := con_norm [.slc (.int .u8), .none, .none] laws_b10At_ok0

/-- loop.example/g01284/impl.within -/
def impl_within_tree (a0 : Int) (a1 : Int) (a2 : Int) : DT (Bool) :=
  let x0 := decide (a1 ≤ a0);
  .ask x0
  (
   let x1 := decide (a0 ≤ a2);
   .leaf x1)
  (
   .leaf false)
def impl_within (a0 : Int) (a1 : Int) (a2 : Int) : Bool := (impl_within_tree a0 a1 a2).val
def impl_within_mk (p : Bool) : Ret := ⟨.bool p, []⟩
def impl_within_c : Con := fun args => match args with
  | [.int .i64 a0, .int .i64 a1, .int .i64 a2] => some (.leaf (impl_within_mk (impl_within a0 a1 a2)))
  | _ => none
set_option maxRecDepth 100000 in
theorem impl_within_ok : FunOK Try.prog 30 impl_within_c.fn := by
  refine con_ok (Γ := gam []) (gam_nil) tab_ok (by kernel_rfl) Try.func30 (by kernel_rfl) (by kernel_rfl) Try.ntmps30 Try.results30 (loopsOK_none rfl _) 100000 fun args t h => ?_
  unfold impl_within_c at h
  split at h
  · rename_i a0 a1 a2
    cases h
    exact ⟨rfl, agree_tot (mk := impl_within_mk) (t := impl_within_tree a0 a1 a2) (by unfold Agree; kernel_rfl) (by kernel_rfl)⟩
  · cases h

/-- loop.example/g01284/impl.behind -/
def impl_behind_tree (a0 : Nat) : DT (Nat) :=
  let x0 := math_Trunc a0;
  let x1 := fadd .f64 x0 0;
  let x2 := fsub .f64 a0 x1;
  let x3 := flt .f64 x2 0;
  .ask x3
  (
   let x4 := fadd .f64 x2 4607182418800017408;
   .leaf x4)
  (
   .leaf x2)
def impl_behind (a0 : Nat) : Nat := (impl_behind_tree a0).val
def impl_behind_mk (p : Nat) : Ret := ⟨.flt .f64 p, []⟩
def impl_behind_c : Con := fun args => match args with
  | [.flt .f64 a0] => some (.leaf (impl_behind_mk (impl_behind a0)))
  | _ => none
set_option maxRecDepth 100000 in
theorem impl_behind_ok : FunOK Try.prog 78 impl_behind_c.fn := by
  refine con_ok (Γ := gam [(83, math_Trunc_c)]) (gam_cons math_Trunc_ok (gam_nil)) tab_ok (by kernel_rfl) Try.func78 (by kernel_rfl) (by kernel_rfl) Try.ntmps78 Try.results78 (loopsOK_none rfl _) 100000 fun args t h => ?_
  unfold impl_behind_c at h
  split at h
  · rename_i a0
    cases h
    exact ⟨rfl, agree_tot (mk := impl_behind_mk) (t := impl_behind_tree a0) (by unfold Agree; kernel_rfl) (by kernel_rfl)⟩
  · cases h

/-- loop.example/g01284/impl.sine -/
def impl_sine_tree (a0 : Nat) : DT (Nat) :=
  let x0 := impl_behind a0;
  let x1 := fge .f64 x0 4602678819172646912;
  .ask x1
  (
   let x2 := fsub .f64 x0 4602678819172646912;
   let x3 := fgt .f64 x2 4598175219545276416;
   .ask x3
   (
    let x4 := fsub .f64 4602678819172646912 x2;
    let x5 := fmul .f64 x4 4618760256179416344;
    let x6 := fmul .f64 x5 x5;
    .skip (
    let x7 := fmul .f64 x6 4607182418800017408;
    let x8 := fofInt .f64 272;
    let x9 := fdiv .f64 x7 x8;
    let x10 := fsub .f64 4607182418800017408 x9;
    .skip (
    let x11 := fmul .f64 x6 x10;
    let x12 := fofInt .f64 210;
    let x13 := fdiv .f64 x11 x12;
    let x14 := fsub .f64 4607182418800017408 x13;
    .skip (
    let x15 := fmul .f64 x6 x14;
    let x16 := fofInt .f64 156;
    let x17 := fdiv .f64 x15 x16;
    let x18 := fsub .f64 4607182418800017408 x17;
    .skip (
    let x19 := fmul .f64 x6 x18;
    let x20 := fofInt .f64 110;
    let x21 := fdiv .f64 x19 x20;
    let x22 := fsub .f64 4607182418800017408 x21;
    .skip (
    let x23 := fmul .f64 x6 x22;
    let x24 := fofInt .f64 72;
    let x25 := fdiv .f64 x23 x24;
    let x26 := fsub .f64 4607182418800017408 x25;
    .skip (
    let x27 := fmul .f64 x6 x26;
    let x28 := fofInt .f64 42;
    let x29 := fdiv .f64 x27 x28;
    let x30 := fsub .f64 4607182418800017408 x29;
    .skip (
    let x31 := fmul .f64 x6 x30;
    let x32 := fofInt .f64 20;
    let x33 := fdiv .f64 x31 x32;
    let x34 := fsub .f64 4607182418800017408 x33;
    .skip (
    let x35 := fmul .f64 x6 x34;
    let x36 := fofInt .f64 6;
    let x37 := fdiv .f64 x35 x36;
    let x38 := fsub .f64 4607182418800017408 x37;
    .skip (
    let x39 := fmul .f64 x5 x38;
    let x40 := fneg .f64 x39;
    .leaf x40))))))))))
   (
    let x4 := fmul .f64 x2 4618760256179416344;
    let x5 := fmul .f64 x4 x4;
    .skip (
    let x6 := fmul .f64 x5 4607182418800017408;
    let x7 := fofInt .f64 272;
    let x8 := fdiv .f64 x6 x7;
    let x9 := fsub .f64 4607182418800017408 x8;
    .skip (
    let x10 := fmul .f64 x5 x9;
    let x11 := fofInt .f64 210;
    let x12 := fdiv .f64 x10 x11;
    let x13 := fsub .f64 4607182418800017408 x12;
    .skip (
    let x14 := fmul .f64 x5 x13;
    let x15 := fofInt .f64 156;
    let x16 := fdiv .f64 x14 x15;
    let x17 := fsub .f64 4607182418800017408 x16;
    .skip (
    let x18 := fmul .f64 x5 x17;
    let x19 := fofInt .f64 110;
    let x20 := fdiv .f64 x18 x19;
    let x21 := fsub .f64 4607182418800017408 x20;
    .skip (
    let x22 := fmul .f64 x5 x21;
    let x23 := fofInt .f64 72;
    let x24 := fdiv .f64 x22 x23;
    let x25 := fsub .f64 4607182418800017408 x24;
    .skip (
    let x26 := fmul .f64 x5 x25;
    let x27 := fofInt .f64 42;
    let x28 := fdiv .f64 x26 x27;
    let x29 := fsub .f64 4607182418800017408 x28;
    .skip (
    let x30 := fmul .f64 x5 x29;
    let x31 := fofInt .f64 20;
    let x32 := fdiv .f64 x30 x31;
    let x33 := fsub .f64 4607182418800017408 x32;
    .skip (
    let x34 := fmul .f64 x5 x33;
    let x35 := fofInt .f64 6;
    let x36 := fdiv .f64 x34 x35;
    let x37 := fsub .f64 4607182418800017408 x36;
    .skip (
    let x38 := fmul .f64 x4 x37;
    let x39 := fneg .f64 x38;
    .leaf x39)))))))))))
  (
   let x2 := fgt .f64 x0 4598175219545276416;
   .ask x2
   (
    let x3 := fsub .f64 4602678819172646912 x0;
    let x4 := fmul .f64 x3 4618760256179416344;
    let x5 := fmul .f64 x4 x4;
    .skip (
    let x6 := fmul .f64 x5 4607182418800017408;
    let x7 := fofInt .f64 272;
    let x8 := fdiv .f64 x6 x7;
    let x9 := fsub .f64 4607182418800017408 x8;
    .skip (
    let x10 := fmul .f64 x5 x9;
    let x11 := fofInt .f64 210;
    let x12 := fdiv .f64 x10 x11;
    let x13 := fsub .f64 4607182418800017408 x12;
    .skip (
    let x14 := fmul .f64 x5 x13;
    let x15 := fofInt .f64 156;
    let x16 := fdiv .f64 x14 x15;
    let x17 := fsub .f64 4607182418800017408 x16;
    .skip (
    let x18 := fmul .f64 x5 x17;
    let x19 := fofInt .f64 110;
    let x20 := fdiv .f64 x18 x19;
    let x21 := fsub .f64 4607182418800017408 x20;
    .skip (
    let x22 := fmul .f64 x5 x21;
    let x23 := fofInt .f64 72;
    let x24 := fdiv .f64 x22 x23;
    let x25 := fsub .f64 4607182418800017408 x24;
    .skip (
    let x26 := fmul .f64 x5 x25;
    let x27 := fofInt .f64 42;
    let x28 := fdiv .f64 x26 x27;
    let x29 := fsub .f64 4607182418800017408 x28;
    .skip (
    let x30 := fmul .f64 x5 x29;
    let x31 := fofInt .f64 20;
    let x32 := fdiv .f64 x30 x31;
    let x33 := fsub .f64 4607182418800017408 x32;
    .skip (
    let x34 := fmul .f64 x5 x33;
    let x35 := fofInt .f64 6;
    let x36 := fdiv .f64 x34 x35;
    let x37 := fsub .f64 4607182418800017408 x36;
    .skip (
    let x38 := fmul .f64 x4 x37;
    .leaf x38))))))))))
   (
    let x3 := fmul .f64 x0 4618760256179416344;
    let x4 := fmul .f64 x3 x3;
    .skip (
    let x5 := fmul .f64 x4 4607182418800017408;
    let x6 := fofInt .f64 272;
    let x7 := fdiv .f64 x5 x6;
    let x8 := fsub .f64 4607182418800017408 x7;
    .skip (
    let x9 := fmul .f64 x4 x8;
    let x10 := fofInt .f64 210;
    let x11 := fdiv .f64 x9 x10;
    let x12 := fsub .f64 4607182418800017408 x11;
    .skip (
    let x13 := fmul .f64 x4 x12;
    let x14 := fofInt .f64 156;
    let x15 := fdiv .f64 x13 x14;
    let x16 := fsub .f64 4607182418800017408 x15;
    .skip (
    let x17 := fmul .f64 x4 x16;
    let x18 := fofInt .f64 110;
    let x19 := fdiv .f64 x17 x18;
    let x20 := fsub .f64 4607182418800017408 x19;
    .skip (
    let x21 := fmul .f64 x4 x20;
    let x22 := fofInt .f64 72;
    let x23 := fdiv .f64 x21 x22;
    let x24 := fsub .f64 4607182418800017408 x23;
    .skip (
    let x25 := fmul .f64 x4 x24;
    let x26 := fofInt .f64 42;
    let x27 := fdiv .f64 x25 x26;
    let x28 := fsub .f64 4607182418800017408 x27;
    .skip (
    let x29 := fmul .f64 x4 x28;
    let x30 := fofInt .f64 20;
    let x31 := fdiv .f64 x29 x30;
    let x32 := fsub .f64 4607182418800017408 x31;
    .skip (
    let x33 := fmul .f64 x4 x32;
    let x34 := fofInt .f64 6;
    let x35 := fdiv .f64 x33 x34;
    let x36 := fsub .f64 4607182418800017408 x35;
    .skip (
    let x37 := fmul .f64 x3 x36;
    .leaf x37)))))))))))
def impl_sine (a0 : Nat) : Nat := (impl_sine_tree a0).val
def impl_sine_mk (p : Nat) : Ret := ⟨.flt .f64 p, []⟩
def impl_sine_c : Con := fun args => match args with
  | [.flt .f64 a0] => some (.leaf (impl_sine_mk (impl_sine a0)))
  | _ => none
set_option maxRecDepth 100000 in
theorem impl_sine_ok : FunOK Try.prog 58 impl_sine_c.fn := by
  refine con_ok (Γ := gam [(78, impl_behind_c)]) (gam_cons impl_behind_ok (gam_nil)) tab_ok (by kernel_rfl) Try.func58 (by kernel_rfl) (by kernel_rfl) Try.ntmps58 Try.results58 (loopsOK_none rfl _) 100000 fun args t h => ?_
  unfold impl_sine_c at h
  split at h
  · rename_i a0
    cases h
    exact ⟨rfl, agree_tot (mk := impl_sine_mk) (t := impl_sine_tree a0) (by unfold Agree; kernel_rfl) (by kernel_rfl)⟩
  · cases h

/-- loop.example/g01284/impl.phaseOfSwing -/
def impl_phaseOfSwing_tree (a0 : Nat) (a1 : Nat) : DT (Nat) :=
  let x0 := impl_sine a1;
  let x1 := fmul .f64 a0 x0;
  let x2 := fdiv .f64 x1 4618760256179416344;
  let x3 := fsub .f64 a1 x2;
  .leaf x3
def impl_phaseOfSwing (a0 : Nat) (a1 : Nat) : Nat := (impl_phaseOfSwing_tree a0 a1).val
def impl_phaseOfSwing_mk (p : Nat) : Ret := ⟨.flt .f64 p, []⟩
def impl_phaseOfSwing_c : Con := fun args => match args with
  | [.flt .f64 a0, .flt .f64 a1] => some (.leaf (impl_phaseOfSwing_mk (impl_phaseOfSwing a0 a1)))
  | _ => none
set_option maxRecDepth 100000 in
theorem impl_phaseOfSwing_ok : FunOK Try.prog 79 impl_phaseOfSwing_c.fn := by
  refine con_ok (Γ := gam [(58, impl_sine_c)]) (gam_cons impl_sine_ok (gam_nil)) tab_ok (by kernel_rfl) Try.func79 (by kernel_rfl) (by kernel_rfl) Try.ntmps79 Try.results79 (loopsOK_none rfl _) 100000 fun args t h => ?_
  unfold impl_phaseOfSwing_c at h
  split at h
  · rename_i a0 a1
    cases h
    exact ⟨rfl, agree_tot (mk := impl_phaseOfSwing_mk) (t := impl_phaseOfSwing_tree a0 a1) (by unfold Agree; kernel_rfl) (by kernel_rfl)⟩
  · cases h

/-- a loop of impl_swing -/
def impl_swing_loop0_step (p : Nat × Nat) (s : Nat × Nat × Int) : Round (Nat × Nat × Int) (Nat) :=
  let x0 := decide (s.2.2 < 50);
  .ask x0
  (
   let x1 := fadd .f64 s.1 s.2.1;
   let x2 := fdiv .f64 x1 4611686018427387904;
   let x3 := impl_phaseOfSwing p.1 x2;
   let x4 := fgt .f64 x3 p.2;
   .ask x4
   (
    let x5 := IntKind.wrap .i64 (s.2.2 + 1);
    .leaf (.inl (s.1, x2, x5), []))
   (
    let x5 := IntKind.wrap .i64 (s.2.2 + 1);
    .leaf (.inl (x2, s.2.1, x5), [])))
  (
   .leaf (.inr s.1, []))
def impl_swing_loop0_L (p : Nat × Nat) : LoopS (Nat × Nat × Int) (Nat) := { tl := fun s => [.flt .f64 p.1, .junk, .junk, .junk, .junk, .flt .f64 p.2, .flt .f64 s.1, .flt .f64 s.2.1, .junk, .junk, .junk, .int .i64 s.2.2], hl := fun s => [], ex := fun r => .exit 0, otl := fun r => [.junk, .junk, .junk, .junk, .junk, .junk, .flt .f64 r], ohl := fun r => [] }
def impl_swing_loop0_ext : St → Option ((Nat × Nat) × (Nat × Nat × Int) × List Nat) := fun S => match (S.tm 0).unK, (S.tm 5).unK, (S.tm 6).unK, (S.tm 7).unK, (S.tm 11).unK with
  | .flt .f64 q0, .flt .f64 q1, .flt .f64 q2, .flt .f64 q3, .int .i64 q4 => some ((q0, q1), (q2, q3, q4), [])
  | _, _, _, _, _ => none
def impl_swing_loop0_post (p : Nat × Nat) (r : Nat) : DT (Ex × St) := .leaf (.exit 0, LSt [.junk, .junk, .junk, .junk, .junk, .junk, .flt .f64 r] [])
def impl_swing_loop0 (p : Nat × Nat) (s : Nat × Nat × Int) : Nat := loopVal (impl_swing_loop0_step p) s
def impl_swing_loop0_ends (p : Nat × Nat) (s : Nat × Nat × Int) : Bool := loopEnds (impl_swing_loop0_step p) s
def impl_swing_loop0_F : LoopF := loopF impl_swing_loop0_step impl_swing_loop0_ext impl_swing_loop0_post
set_option maxRecDepth 100000 in
theorem impl_swing_loop0_hext : ∀ S p s fl, impl_swing_loop0_ext S = some (p, s, fl) → Norm S fl ((impl_swing_loop0_L p).tl s) ((impl_swing_loop0_L p).hl s) (impl_swing_loop0_L p).gl := by
  intro S p s fl h
  unfold impl_swing_loop0_ext at h
  (repeat' split at h) <;> first
    | (cases h; constructor <;> simp_all [impl_swing_loop0_L, keepT, keepH, rens, renH, PV.ren, Blk.ren, fOf, lget, nodup, natIn, lenEq, gtm, PV.unK])
    | cases h
set_option maxRecDepth 100000 in
theorem impl_swing_loop0_hpost : ∀ p r e S', (impl_swing_loop0_post p r).get = some (e, S') → e = (impl_swing_loop0_L p).ex r ∧ S' = LSt ((impl_swing_loop0_L p).otl r) ((impl_swing_loop0_L p).ohl r) ((impl_swing_loop0_L p).ogl r) := by
  intro p r e S' h
  unfold impl_swing_loop0_post at h
  simp only [DT.get, Option.some.injEq, Prod.mk.injEq] at h; exact ⟨h.1.symm, h.2.symm⟩

def impl_swing_loops : Nat → Option LoopF := loopTab [(3, impl_swing_loop0_F)]
set_option maxRecDepth 100000 in
theorem impl_swing_l0 : LoopOK Try.prog ⟨gam [(27, impl_wrap_c), (79, impl_phaseOfSwing_c)], tab, 26, impl_swing_loops⟩ (lp Try.f62 0) :=
  loopOK_some (F := impl_swing_loop0_F) (by kernel_rfl) (loopF_ok (E := ⟨gam [(27, impl_wrap_c), (79, impl_phaseOfSwing_c)], tab, 26, impl_swing_loops⟩) ⟨gam_cons impl_wrap_ok (gam_cons impl_phaseOfSwing_ok (gam_nil)), tab_ok, by kernel_rfl⟩ (fuel := 100000) (loopsOK_list (l := []) (by kernel_rfl) trivial) (L := impl_swing_loop0_L) (fun p s => by unfold AgreeL; exact ⟨by kernel_rfl, by kernel_rfl⟩) (fun _ _ h => Ex.noConfusion h) impl_swing_loop0_hext impl_swing_loop0_hpost)
/-- loop.example/g01284/impl.swing -/
def impl_swing_tree (a0 : Nat) (a1 : Nat) : DT (Nat) :=
  let x0 := impl_wrap a1;
  .need ((impl_swing_loop0_ends (a0, x0) (0, 4607182418800017408, 0))) (
  let x1 := impl_swing_loop0 (a0, x0) (0, 4607182418800017408, 0);
  .leaf x1)
def impl_swing (a0 : Nat) (a1 : Nat) : Nat := (impl_swing_tree a0 a1).val
def impl_swing_need (a0 : Nat) (a1 : Nat) : Bool := (impl_swing_tree a0 a1).ok
def impl_swing_mk (p : Nat) : Ret := ⟨.flt .f64 p, []⟩
def impl_swing_c : Con := fun args => match args with
  | [.flt .f64 a0, .flt .f64 a1] => some (.need (impl_swing_need a0 a1) (.leaf (impl_swing_mk (impl_swing a0 a1))))
  | _ => none
set_option maxRecDepth 100000 in
theorem impl_swing_ok : FunOK Try.prog 62 impl_swing_c.fn := by
  refine con_ok (Γ := gam [(27, impl_wrap_c), (79, impl_phaseOfSwing_c)]) (gam_cons impl_wrap_ok (gam_cons impl_phaseOfSwing_ok (gam_nil))) tab_ok (by kernel_rfl) Try.func62 (by kernel_rfl) (by kernel_rfl) Try.ntmps62 Try.results62 (loops := impl_swing_loops) (loopsOK_list (l := [lp Try.f62 0]) (by kernel_rfl) ⟨impl_swing_l0, trivial⟩) 100000 fun args t h => ?_
  unfold impl_swing_c at h
  split at h
  · rename_i a0 a1
    cases h
    exact ⟨rfl, agree_need (mk := impl_swing_mk) (t := impl_swing_tree a0 a1) (by unfold Agree; kernel_rfl)⟩
  · cases h

/-- loop.example/g01284/impl.cosine -/
def impl_cosine_tree (a0 : Nat) : DT (Nat) :=
  let x0 := fadd .f64 a0 4598175219545276416;
  let x1 := impl_sine x0;
  .leaf x1
def impl_cosine (a0 : Nat) : Nat := (impl_cosine_tree a0).val
def impl_cosine_mk (p : Nat) : Ret := ⟨.flt .f64 p, []⟩
def impl_cosine_c : Con := fun args => match args with
  | [.flt .f64 a0] => some (.leaf (impl_cosine_mk (impl_cosine a0)))
  | _ => none
set_option maxRecDepth 100000 in
theorem impl_cosine_ok : FunOK Try.prog 59 impl_cosine_c.fn := by
  refine con_ok (Γ := gam [(58, impl_sine_c)]) (gam_cons impl_sine_ok (gam_nil)) tab_ok (by kernel_rfl) Try.func59 (by kernel_rfl) (by kernel_rfl) Try.ntmps59 Try.results59 (loopsOK_none rfl _) 100000 fun args t h => ?_
  unfold impl_cosine_c at h
  split at h
  · rename_i a0
    cases h
    exact ⟨rfl, agree_tot (mk := impl_cosine_mk) (t := impl_cosine_tree a0) (by unfold Agree; kernel_rfl) (by kernel_rfl)⟩
  · cases h

/-- math.Inf -/
def math_Inf_tree (a0 : Int) : DT (Nat) :=
  let x0 := decide (a0 ≥ 0);
  .ask x0
  (
   let x1 := canon .f64 (Int.toNat 9218868437227405312);
   .leaf x1)
  (
   let x1 := canon .f64 (Int.toNat 18442240474082181120);
   .leaf x1)
def math_Inf (a0 : Int) : Nat := (math_Inf_tree a0).val
def math_Inf_mk (p : Nat) : Ret := ⟨.flt .f64 p, []⟩
def math_Inf_c : Con := fun args => match args with
  | [.int .i64 a0] => some (.leaf (math_Inf_mk (math_Inf a0)))
  | _ => none
set_option maxRecDepth 100000 in
theorem math_Inf_ok : FunOK Try.prog 84 math_Inf_c.fn := by
  refine con_ok (Γ := gam [(66, math_Float64frombits_c)]) (gam_cons math_Float64frombits_ok (gam_nil)) tab_ok (by kernel_rfl) Try.func84 (by kernel_rfl) (by kernel_rfl) Try.ntmps84 Try.results84 (loopsOK_none rfl _) 100000 fun args t h => ?_
  unfold math_Inf_c at h
  split at h
  · rename_i a0
    cases h
    exact ⟨rfl, agree_tot (mk := math_Inf_mk) (t := math_Inf_tree a0) (by unfold Agree; kernel_rfl) (by kernel_rfl)⟩
  · cases h

/-- loop.example/g01284/impl.exponential -/
def impl_exponential_tree (a0 : Nat) : DT (Nat) :=
  let x0 := fgt .f64 a0 4641240890982006784;
  .ask x0
  (
   let x1 := math_Inf 1;
   .leaf x1)
  (
   let x1 := flt .f64 a0 13864612927836782592;
   .ask x1
   (
    .leaf 0)
   (
    let x2 := fdiv .f64 a0 4643211215818981376;
    .skip (
    let x3 := fmul .f64 x2 4607182418800017408;
    let x4 := fofInt .f64 12;
    let x5 := fdiv .f64 x3 x4;
    let x6 := fadd .f64 4607182418800017408 x5;
    .skip (
    let x7 := fmul .f64 x2 x6;
    let x8 := fofInt .f64 11;
    let x9 := fdiv .f64 x7 x8;
    let x10 := fadd .f64 4607182418800017408 x9;
    .skip (
    let x11 := fmul .f64 x2 x10;
    let x12 := fofInt .f64 10;
    let x13 := fdiv .f64 x11 x12;
    let x14 := fadd .f64 4607182418800017408 x13;
    .skip (
    let x15 := fmul .f64 x2 x14;
    let x16 := fofInt .f64 9;
    let x17 := fdiv .f64 x15 x16;
    let x18 := fadd .f64 4607182418800017408 x17;
    .skip (
    let x19 := fmul .f64 x2 x18;
    let x20 := fofInt .f64 8;
    let x21 := fdiv .f64 x19 x20;
    let x22 := fadd .f64 4607182418800017408 x21;
    .skip (
    let x23 := fmul .f64 x2 x22;
    let x24 := fofInt .f64 7;
    let x25 := fdiv .f64 x23 x24;
    let x26 := fadd .f64 4607182418800017408 x25;
    .skip (
    let x27 := fmul .f64 x2 x26;
    let x28 := fofInt .f64 6;
    let x29 := fdiv .f64 x27 x28;
    let x30 := fadd .f64 4607182418800017408 x29;
    .skip (
    let x31 := fmul .f64 x2 x30;
    let x32 := fofInt .f64 5;
    let x33 := fdiv .f64 x31 x32;
    let x34 := fadd .f64 4607182418800017408 x33;
    .skip (
    let x35 := fmul .f64 x2 x34;
    let x36 := fofInt .f64 4;
    let x37 := fdiv .f64 x35 x36;
    let x38 := fadd .f64 4607182418800017408 x37;
    .skip (
    let x39 := fmul .f64 x2 x38;
    let x40 := fofInt .f64 3;
    let x41 := fdiv .f64 x39 x40;
    let x42 := fadd .f64 4607182418800017408 x41;
    .skip (
    let x43 := fmul .f64 x2 x42;
    let x44 := fofInt .f64 2;
    let x45 := fdiv .f64 x43 x44;
    let x46 := fadd .f64 4607182418800017408 x45;
    .skip (
    let x47 := fmul .f64 x2 x46;
    let x48 := fofInt .f64 1;
    let x49 := fdiv .f64 x47 x48;
    let x50 := fadd .f64 4607182418800017408 x49;
    .skip (
    .skip (
    let x51 := fmul .f64 x50 x50;
    .skip (
    let x52 := fmul .f64 x51 x51;
    .skip (
    let x53 := fmul .f64 x52 x52;
    .skip (
    let x54 := fmul .f64 x53 x53;
    .skip (
    let x55 := fmul .f64 x54 x54;
    .skip (
    let x56 := fmul .f64 x55 x55;
    .skip (
    let x57 := fmul .f64 x56 x56;
    .skip (
    let x58 := fmul .f64 x57 x57;
    .skip (
    .leaf x58))))))))))))))))))))))))
def impl_exponential (a0 : Nat) : Nat := (impl_exponential_tree a0).val
def impl_exponential_mk (p : Nat) : Ret := ⟨.flt .f64 p, []⟩
def impl_exponential_c : Con := fun args => match args with
  | [.flt .f64 a0] => some (.leaf (impl_exponential_mk (impl_exponential a0)))
  | _ => none
set_option maxRecDepth 100000 in
theorem impl_exponential_ok : FunOK Try.prog 80 impl_exponential_c.fn := by
  refine con_ok (Γ := gam [(84, math_Inf_c)]) (gam_cons math_Inf_ok (gam_nil)) tab_ok (by kernel_rfl) Try.func80 (by kernel_rfl) (by kernel_rfl) Try.ntmps80 Try.results80 (loopsOK_none rfl _) 100000 fun args t h => ?_
  unfold impl_exponential_c at h
  split at h
  · rename_i a0
    cases h
    exact ⟨rfl, agree_tot (mk := impl_exponential_mk) (t := impl_exponential_tree a0) (by unfold Agree; kernel_rfl) (by kernel_rfl)⟩
  · cases h

/-- loop.example/g01284/impl.halfDifference -/
def impl_halfDifference_tree (a0 : Nat) : DT (Nat) :=
  let x0 := impl_exponential a0;
  let x1 := fneg .f64 a0;
  let x2 := impl_exponential x1;
  let x3 := fsub .f64 x0 x2;
  let x4 := fdiv .f64 x3 4611686018427387904;
  .leaf x4
def impl_halfDifference (a0 : Nat) : Nat := (impl_halfDifference_tree a0).val
def impl_halfDifference_mk (p : Nat) : Ret := ⟨.flt .f64 p, []⟩
def impl_halfDifference_c : Con := fun args => match args with
  | [.flt .f64 a0] => some (.leaf (impl_halfDifference_mk (impl_halfDifference a0)))
  | _ => none
set_option maxRecDepth 100000 in
theorem impl_halfDifference_ok : FunOK Try.prog 64 impl_halfDifference_c.fn := by
  refine con_ok (Γ := gam [(80, impl_exponential_c)]) (gam_cons impl_exponential_ok (gam_nil)) tab_ok (by kernel_rfl) Try.func64 (by kernel_rfl) (by kernel_rfl) Try.ntmps64 Try.results64 (loopsOK_none rfl _) 100000 fun args t h => ?_
  unfold impl_halfDifference_c at h
  split at h
  · rename_i a0
    cases h
    exact ⟨rfl, agree_tot (mk := impl_halfDifference_mk) (t := impl_halfDifference_tree a0) (by unfold Agree; kernel_rfl) (by kernel_rfl)⟩
  · cases h

/-- a loop of impl_lean -/
def impl_lean_loop0_step (p : Nat × Nat) (s : Nat × Nat × Int) : Round (Nat × Nat × Int) (Nat) :=
  let x0 := decide (s.2.2 < 60);
  .ask x0
  (
   let x1 := fadd .f64 s.1 s.2.1;
   let x2 := fdiv .f64 x1 4611686018427387904;
   let x3 := impl_halfDifference x2;
   let x4 := fmul .f64 p.1 x3;
   let x5 := fsub .f64 x4 x2;
   let x6 := fgt .f64 x5 p.2;
   .ask x6
   (
    let x7 := IntKind.wrap .i64 (s.2.2 + 1);
    .leaf (.inl (s.1, x2, x7), []))
   (
    let x7 := IntKind.wrap .i64 (s.2.2 + 1);
    .leaf (.inl (x2, s.2.1, x7), [])))
  (
   .leaf (.inr s.1, []))
def impl_lean_loop0_L (p : Nat × Nat) : LoopS (Nat × Nat × Int) (Nat) := { tl := fun s => [.flt .f64 p.1, .junk, .junk, .junk, .junk, .flt .f64 p.2, .flt .f64 s.1, .flt .f64 s.2.1, .junk, .junk, .junk, .int .i64 s.2.2], hl := fun s => [], ex := fun r => .exit 0, otl := fun r => [.junk, .junk, .junk, .junk, .junk, .junk, .flt .f64 r], ohl := fun r => [] }
def impl_lean_loop0_ext : St → Option ((Nat × Nat) × (Nat × Nat × Int) × List Nat) := fun S => match (S.tm 0).unK, (S.tm 5).unK, (S.tm 6).unK, (S.tm 7).unK, (S.tm 11).unK with
  | .flt .f64 q0, .flt .f64 q1, .flt .f64 q2, .flt .f64 q3, .int .i64 q4 => some ((q0, q1), (q2, q3, q4), [])
  | _, _, _, _, _ => none
def impl_lean_loop0_post (p : Nat × Nat) (r : Nat) : DT (Ex × St) := .leaf (.exit 0, LSt [.junk, .junk, .junk, .junk, .junk, .junk, .flt .f64 r] [])
def impl_lean_loop0 (p : Nat × Nat) (s : Nat × Nat × Int) : Nat := loopVal (impl_lean_loop0_step p) s
def impl_lean_loop0_ends (p : Nat × Nat) (s : Nat × Nat × Int) : Bool := loopEnds (impl_lean_loop0_step p) s
def impl_lean_loop0_F : LoopF := loopF impl_lean_loop0_step impl_lean_loop0_ext impl_lean_loop0_post
set_option maxRecDepth 100000 in
theorem impl_lean_loop0_hext : ∀ S p s fl, impl_lean_loop0_ext S = some (p, s, fl) → Norm S fl ((impl_lean_loop0_L p).tl s) ((impl_lean_loop0_L p).hl s) (impl_lean_loop0_L p).gl := by
  intro S p s fl h
  unfold impl_lean_loop0_ext at h
  (repeat' split at h) <;> first
    | (cases h; constructor <;> simp_all [impl_lean_loop0_L, keepT, keepH, rens, renH, PV.ren, Blk.ren, fOf, lget, nodup, natIn, lenEq, gtm, PV.unK])
    | cases h
set_option maxRecDepth 100000 in
theorem impl_lean_loop0_hpost : ∀ p r e S', (impl_lean_loop0_post p r).get = some (e, S') → e = (impl_lean_loop0_L p).ex r ∧ S' = LSt ((impl_lean_loop0_L p).otl r) ((impl_lean_loop0_L p).ohl r) ((impl_lean_loop0_L p).ogl r) := by
  intro p r e S' h
  unfold impl_lean_loop0_post at h
  simp only [DT.get, Option.some.injEq, Prod.mk.injEq] at h; exact ⟨h.1.symm, h.2.symm⟩

def impl_lean_loops : Nat → Option LoopF := loopTab [(3, impl_lean_loop0_F)]
set_option maxRecDepth 100000 in
theorem impl_lean_l0 : LoopOK Try.prog ⟨gam [(64, impl_halfDifference_c)], tab, 29, impl_lean_loops⟩ (lp Try.f63 0) :=
  loopOK_some (F := impl_lean_loop0_F) (by kernel_rfl) (loopF_ok (E := ⟨gam [(64, impl_halfDifference_c)], tab, 29, impl_lean_loops⟩) ⟨gam_cons impl_halfDifference_ok (gam_nil), tab_ok, by kernel_rfl⟩ (fuel := 100000) (loopsOK_list (l := []) (by kernel_rfl) trivial) (L := impl_lean_loop0_L) (fun p s => by unfold AgreeL; exact ⟨by kernel_rfl, by kernel_rfl⟩) (fun _ _ h => Ex.noConfusion h) impl_lean_loop0_hext impl_lean_loop0_hpost)
/-- loop.example/g01284/impl.lean -/
def impl_lean_tree (a0 : Nat) (a1 : Nat) : DT (Nat) :=
  let x0 := fmul .f64 4618760256179416344 a1;
  .need ((impl_lean_loop0_ends (a0, x0) (13845191154443747328, 4621819117588971520, 0))) (
  let x1 := impl_lean_loop0 (a0, x0) (13845191154443747328, 4621819117588971520, 0);
  .leaf x1)
def impl_lean (a0 : Nat) (a1 : Nat) : Nat := (impl_lean_tree a0 a1).val
def impl_lean_need (a0 : Nat) (a1 : Nat) : Bool := (impl_lean_tree a0 a1).ok
def impl_lean_mk (p : Nat) : Ret := ⟨.flt .f64 p, []⟩
def impl_lean_c : Con := fun args => match args with
  | [.flt .f64 a0, .flt .f64 a1] => some (.need (impl_lean_need a0 a1) (.leaf (impl_lean_mk (impl_lean a0 a1))))
  | _ => none
set_option maxRecDepth 100000 in
theorem impl_lean_ok : FunOK Try.prog 63 impl_lean_c.fn := by
  refine con_ok (Γ := gam [(64, impl_halfDifference_c)]) (gam_cons impl_halfDifference_ok (gam_nil)) tab_ok (by kernel_rfl) Try.func63 (by kernel_rfl) (by kernel_rfl) Try.ntmps63 Try.results63 (loops := impl_lean_loops) (loopsOK_list (l := [lp Try.f63 0]) (by kernel_rfl) ⟨impl_lean_l0, trivial⟩) 100000 fun args t h => ?_
  unfold impl_lean_c at h
  split at h
  · rename_i a0 a1
    cases h
    exact ⟨rfl, agree_need (mk := impl_lean_mk) (t := impl_lean_tree a0 a1) (by unfold Agree; kernel_rfl)⟩
  · cases h

/-- loop.example/g01284/impl.halfSum -/
def impl_halfSum_tree (a0 : Nat) : DT (Nat) :=
  let x0 := impl_exponential a0;
  let x1 := fneg .f64 a0;
  let x2 := impl_exponential x1;
  let x3 := fadd .f64 x0 x2;
  let x4 := fdiv .f64 x3 4611686018427387904;
  .leaf x4
def impl_halfSum (a0 : Nat) : Nat := (impl_halfSum_tree a0).val
def impl_halfSum_mk (p : Nat) : Ret := ⟨.flt .f64 p, []⟩
def impl_halfSum_c : Con := fun args => match args with
  | [.flt .f64 a0] => some (.leaf (impl_halfSum_mk (impl_halfSum a0)))
  | _ => none
set_option maxRecDepth 100000 in
theorem impl_halfSum_ok : FunOK Try.prog 65 impl_halfSum_c.fn := by
  refine con_ok (Γ := gam [(80, impl_exponential_c)]) (gam_cons impl_exponential_ok (gam_nil)) tab_ok (by kernel_rfl) Try.func65 (by kernel_rfl) (by kernel_rfl) Try.ntmps65 Try.results65 (loopsOK_none rfl _) 100000 fun args t h => ?_
  unfold impl_halfSum_c at h
  split at h
  · rename_i a0
    cases h
    exact ⟨rfl, agree_tot (mk := impl_halfSum_mk) (t := impl_halfSum_tree a0) (by unfold Agree; kernel_rfl) (by kernel_rfl)⟩
  · cases h

/-- (loop.example/g01284/impl.Orbit).plane -/
def impl_Orbit_plane_tree (a0 : Orbit) (a1 : Nat) : DT (Nat × Nat × Nat × Nat) :=
  .need ((fconvOk .f32 a0.Round .f64)) (
  let x0 := fconv .f32 a0.Round .f64;
  .need ((fconvOk .f32 a0.Long .f64)) (
  let x1 := fconv .f32 a0.Long .f64;
  let x2 := math_Abs x1;
  .need ((impl_Orbit_rate_need (⟨a0.Long, a0.Round, a0.Tilt, a0.Node, a0.Peri, a0.Phase⟩ : Orbit) a1)) (
  let x3 := impl_Orbit_rate (⟨a0.Long, a0.Round, a0.Tilt, a0.Node, a0.Peri, a0.Phase⟩ : Orbit) a1;
  let x4 := fgt .f32 a0.Long 0;
  .ask x4
  (
   .need ((fconvOk .f32 a0.Phase .f64)) (
   let x5 := fconv .f32 a0.Phase .f64;
   .need ((impl_swing_need x0 x5)) (
   let x6 := impl_swing x0 x5;
   let x7 := impl_sine x6;
   let x8 := impl_cosine x6;
   let x9 := fmul .f64 x0 x8;
   let x10 := fsub .f64 4607182418800017408 x9;
   let x11 := fmul .f64 x0 x0;
   let x12 := fsub .f64 4607182418800017408 x11;
   let x13 := math_Sqrt x12;
   let x14 := fsub .f64 x8 x0;
   let x15 := fmul .f64 x2 x14;
   let x16 := fmul .f64 x2 x3;
   let x17 := fmul .f64 x2 x13;
   let x18 := fmul .f64 x17 x7;
   let x19 := fmul .f64 x16 x7;
   let x20 := fdiv .f64 x19 x10;
   let x21 := fneg .f64 x20;
   let x22 := fmul .f64 x16 x13;
   let x23 := fmul .f64 x22 x8;
   let x24 := fdiv .f64 x23 x10;
   .leaf (x15, x18, x21, x24))))
  (
   .need ((fconvOk .f32 a0.Phase .f64)) (
   let x5 := fconv .f32 a0.Phase .f64;
   .need ((impl_lean_need x0 x5)) (
   let x6 := impl_lean x0 x5;
   let x7 := impl_halfDifference x6;
   let x8 := impl_halfSum x6;
   let x9 := fmul .f64 x0 x8;
   let x10 := fsub .f64 x9 4607182418800017408;
   let x11 := fmul .f64 x0 x0;
   let x12 := fsub .f64 x11 4607182418800017408;
   let x13 := math_Sqrt x12;
   let x14 := fsub .f64 x0 x8;
   let x15 := fmul .f64 x2 x14;
   let x16 := fmul .f64 x2 x3;
   let x17 := fmul .f64 x2 x13;
   let x18 := fmul .f64 x17 x7;
   let x19 := fmul .f64 x16 x7;
   let x20 := fdiv .f64 x19 x10;
   let x21 := fneg .f64 x20;
   let x22 := fmul .f64 x16 x13;
   let x23 := fmul .f64 x22 x8;
   let x24 := fdiv .f64 x23 x10;
   .leaf (x15, x18, x21, x24)))))))
def impl_Orbit_plane (a0 : Orbit) (a1 : Nat) : Nat × Nat × Nat × Nat := (impl_Orbit_plane_tree a0 a1).val
def impl_Orbit_plane_need (a0 : Orbit) (a1 : Nat) : Bool := (impl_Orbit_plane_tree a0 a1).ok
def impl_Orbit_plane_mk (p : Nat × Nat × Nat × Nat) : Ret := ⟨.tup [.flt .f64 p.1, .flt .f64 p.2.1, .flt .f64 p.2.2.1, .flt .f64 p.2.2.2], []⟩
def impl_Orbit_plane_c : Con := fun args => match args with
  | [.agg [.flt .f32 a0_0, .flt .f32 a0_1, .flt .f32 a0_2, .flt .f32 a0_3, .flt .f32 a0_4, .flt .f32 a0_5], .flt .f64 a1] => some (.need (impl_Orbit_plane_need (⟨a0_0, a0_1, a0_2, a0_3, a0_4, a0_5⟩ : Orbit) a1) (.leaf (impl_Orbit_plane_mk (impl_Orbit_plane (⟨a0_0, a0_1, a0_2, a0_3, a0_4, a0_5⟩ : Orbit) a1))))
  | _ => none
set_option maxRecDepth 100000 in
theorem impl_Orbit_plane_ok : FunOK Try.prog 40 impl_Orbit_plane_c.fn := by
  refine con_ok (Γ := gam [(44, math_Abs_c), (24, impl_Orbit_rate_c), (62, impl_swing_c), (58, impl_sine_c), (59, impl_cosine_c), (45, math_Sqrt_c), (63, impl_lean_c), (64, impl_halfDifference_c), (65, impl_halfSum_c)]) (gam_cons math_Abs_ok (gam_cons impl_Orbit_rate_ok (gam_cons impl_swing_ok (gam_cons impl_sine_ok (gam_cons impl_cosine_ok (gam_cons math_Sqrt_ok (gam_cons impl_lean_ok (gam_cons impl_halfDifference_ok (gam_cons impl_halfSum_ok (gam_nil)))))))))) tab_ok (by kernel_rfl) Try.func40 (by kernel_rfl) (by kernel_rfl) Try.ntmps40 Try.results40 (loopsOK_none rfl _) 100000 fun args t h => ?_
  unfold impl_Orbit_plane_c at h
  split at h
  · rename_i a0_0 a0_1 a0_2 a0_3 a0_4 a0_5 a1
    cases h
    exact ⟨rfl, agree_need (mk := impl_Orbit_plane_mk) (t := impl_Orbit_plane_tree (⟨a0_0, a0_1, a0_2, a0_3, a0_4, a0_5⟩ : Orbit) a1) (by unfold Agree; kernel_rfl)⟩
  · cases h

/-- (loop.example/g01284/impl.Orbit).turned -/
def impl_Orbit_turned_tree (a0 : Orbit) (a1 : Nat) (a2 : Nat) : DT (Vec) :=
  .need ((fconvOk .f32 a0.Peri .f64)) (
  let x0 := fconv .f32 a0.Peri .f64;
  let x1 := impl_cosine x0;
  .need ((fconvOk .f32 a0.Peri .f64)) (
  let x2 := fconv .f32 a0.Peri .f64;
  let x3 := impl_sine x2;
  let x4 := fmul .f64 a1 x1;
  let x5 := fmul .f64 a2 x3;
  let x6 := fsub .f64 x4 x5;
  let x7 := fmul .f64 a1 x3;
  let x8 := fmul .f64 a2 x1;
  let x9 := fadd .f64 x7 x8;
  .need ((fconvOk .f32 a0.Tilt .f64)) (
  let x10 := fconv .f32 a0.Tilt .f64;
  let x11 := impl_cosine x10;
  let x12 := fmul .f64 x9 x11;
  .need ((fconvOk .f32 a0.Tilt .f64)) (
  let x13 := fconv .f32 a0.Tilt .f64;
  let x14 := impl_sine x13;
  let x15 := fmul .f64 x9 x14;
  .need ((fconvOk .f32 a0.Node .f64)) (
  let x16 := fconv .f32 a0.Node .f64;
  let x17 := impl_cosine x16;
  .need ((fconvOk .f32 a0.Node .f64)) (
  let x18 := fconv .f32 a0.Node .f64;
  let x19 := impl_sine x18;
  let x20 := fmul .f64 x6 x17;
  let x21 := fmul .f64 x12 x19;
  let x22 := fsub .f64 x20 x21;
  .need ((fconvOk .f64 x22 .f32)) (
  let x23 := fconv .f64 x22 .f32;
  let x24 := fmul .f64 x6 x19;
  let x25 := fmul .f64 x12 x17;
  let x26 := fadd .f64 x24 x25;
  .need ((fconvOk .f64 x26 .f32)) (
  let x27 := fconv .f64 x26 .f32;
  .need ((fconvOk .f64 x15 .f32)) (
  let x28 := fconv .f64 x15 .f32;
  .leaf ((⟨x23, x27, x28⟩ : Vec)))))))))))
def impl_Orbit_turned (a0 : Orbit) (a1 : Nat) (a2 : Nat) : Vec := (impl_Orbit_turned_tree a0 a1 a2).val
def impl_Orbit_turned_need (a0 : Orbit) (a1 : Nat) (a2 : Nat) : Bool := (impl_Orbit_turned_tree a0 a1 a2).ok
def impl_Orbit_turned_mk (p : Vec) : Ret := ⟨.agg [.flt .f32 p.X, .flt .f32 p.Y, .flt .f32 p.Z], []⟩
def impl_Orbit_turned_c : Con := fun args => match args with
  | [.agg [.flt .f32 a0_0, .flt .f32 a0_1, .flt .f32 a0_2, .flt .f32 a0_3, .flt .f32 a0_4, .flt .f32 a0_5], .flt .f64 a1, .flt .f64 a2] => some (.need (impl_Orbit_turned_need (⟨a0_0, a0_1, a0_2, a0_3, a0_4, a0_5⟩ : Orbit) a1 a2) (.leaf (impl_Orbit_turned_mk (impl_Orbit_turned (⟨a0_0, a0_1, a0_2, a0_3, a0_4, a0_5⟩ : Orbit) a1 a2))))
  | _ => none
set_option maxRecDepth 100000 in
theorem impl_Orbit_turned_ok : FunOK Try.prog 75 impl_Orbit_turned_c.fn := by
  refine con_ok (Γ := gam [(59, impl_cosine_c), (58, impl_sine_c)]) (gam_cons impl_cosine_ok (gam_cons impl_sine_ok (gam_nil))) tab_ok (by kernel_rfl) Try.func75 (by kernel_rfl) (by kernel_rfl) Try.ntmps75 Try.results75 (loopsOK_none rfl _) 100000 fun args t h => ?_
  unfold impl_Orbit_turned_c at h
  split at h
  · rename_i a0_0 a0_1 a0_2 a0_3 a0_4 a0_5 a1 a2
    cases h
    exact ⟨rfl, agree_need (mk := impl_Orbit_turned_mk) (t := impl_Orbit_turned_tree (⟨a0_0, a0_1, a0_2, a0_3, a0_4, a0_5⟩ : Orbit) a1 a2) (by unfold Agree; kernel_rfl)⟩
  · cases h

/-- (loop.example/g01284/impl.Orbit).state -/
def impl_Orbit_state_tree (a0 : Orbit) (a1 : Nat) : DT (Vec × Vec) :=
  .need ((impl_Orbit_plane_need (⟨a0.Long, a0.Round, a0.Tilt, a0.Node, a0.Peri, a0.Phase⟩ : Orbit) a1)) (
  let x0 := impl_Orbit_plane (⟨a0.Long, a0.Round, a0.Tilt, a0.Node, a0.Peri, a0.Phase⟩ : Orbit) a1;
  .need ((impl_Orbit_turned_need (⟨a0.Long, a0.Round, a0.Tilt, a0.Node, a0.Peri, a0.Phase⟩ : Orbit) x0.1 x0.2.1)) (
  let x1 := impl_Orbit_turned (⟨a0.Long, a0.Round, a0.Tilt, a0.Node, a0.Peri, a0.Phase⟩ : Orbit) x0.1 x0.2.1;
  .need ((impl_Orbit_turned_need (⟨a0.Long, a0.Round, a0.Tilt, a0.Node, a0.Peri, a0.Phase⟩ : Orbit) x0.2.2.1 x0.2.2.2)) (
  let x2 := impl_Orbit_turned (⟨a0.Long, a0.Round, a0.Tilt, a0.Node, a0.Peri, a0.Phase⟩ : Orbit) x0.2.2.1 x0.2.2.2;
  .leaf ((⟨x1.X, x1.Y, x1.Z⟩ : Vec), (⟨x2.X, x2.Y, x2.Z⟩ : Vec)))))
def impl_Orbit_state (a0 : Orbit) (a1 : Nat) : Vec × Vec := (impl_Orbit_state_tree a0 a1).val
def impl_Orbit_state_need (a0 : Orbit) (a1 : Nat) : Bool := (impl_Orbit_state_tree a0 a1).ok
def impl_Orbit_state_mk (p : Vec × Vec) : Ret := ⟨.tup [.agg [.flt .f32 p.1.X, .flt .f32 p.1.Y, .flt .f32 p.1.Z], .agg [.flt .f32 p.2.X, .flt .f32 p.2.Y, .flt .f32 p.2.Z]], []⟩
def impl_Orbit_state_c : Con := fun args => match args with
  | [.agg [.flt .f32 a0_0, .flt .f32 a0_1, .flt .f32 a0_2, .flt .f32 a0_3, .flt .f32 a0_4, .flt .f32 a0_5], .flt .f64 a1] => some (.need (impl_Orbit_state_need (⟨a0_0, a0_1, a0_2, a0_3, a0_4, a0_5⟩ : Orbit) a1) (.leaf (impl_Orbit_state_mk (impl_Orbit_state (⟨a0_0, a0_1, a0_2, a0_3, a0_4, a0_5⟩ : Orbit) a1))))
  | _ => none
set_option maxRecDepth 100000 in
theorem impl_Orbit_state_ok : FunOK Try.prog 52 impl_Orbit_state_c.fn := by
  refine con_ok (Γ := gam [(40, impl_Orbit_plane_c), (75, impl_Orbit_turned_c)]) (gam_cons impl_Orbit_plane_ok (gam_cons impl_Orbit_turned_ok (gam_nil))) tab_ok (by kernel_rfl) Try.func52 (by kernel_rfl) (by kernel_rfl) Try.ntmps52 Try.results52 (loopsOK_none rfl _) 100000 fun args t h => ?_
  unfold impl_Orbit_state_c at h
  split at h
  · rename_i a0_0 a0_1 a0_2 a0_3 a0_4 a0_5 a1
    cases h
    exact ⟨rfl, agree_need (mk := impl_Orbit_state_mk) (t := impl_Orbit_state_tree (⟨a0_0, a0_1, a0_2, a0_3, a0_4, a0_5⟩ : Orbit) a1) (by unfold Agree; kernel_rfl)⟩
  · cases h

/-- (loop.example/g01284/impl.Vector).numbers -/
def impl_Vector_numbers_tree (a0 : Vec) : DT (List Nat) :=
  .leaf ([a0.X, a0.Y, a0.Z])
def impl_Vector_numbers (a0 : Vec) : List Nat := (impl_Vector_numbers_tree a0).val
def impl_Vector_numbers_mk (p : List Nat) : Ret := ⟨.own 0, [.typed 24 (.flt .f32) p]⟩
def impl_Vector_numbers_c : Con := fun args => match args with
  | [.agg [.flt .f32 a0_0, .flt .f32 a0_1, .flt .f32 a0_2]] => some (.leaf (impl_Vector_numbers_mk (impl_Vector_numbers (⟨a0_0, a0_1, a0_2⟩ : Vec))))
  | _ => none
set_option maxRecDepth 100000 in
theorem impl_Vector_numbers_ok : FunOK Try.prog 76 impl_Vector_numbers_c.fn := by
  refine con_ok (Γ := gam []) (gam_nil) tab_ok (by kernel_rfl) Try.func76 (by kernel_rfl) (by kernel_rfl) Try.ntmps76 Try.results76 (loopsOK_none rfl _) 100000 fun args t h => ?_
  unfold impl_Vector_numbers_c at h
  split at h
  · rename_i a0_0 a0_1 a0_2
    cases h
    exact ⟨rfl, agree_tot (mk := impl_Vector_numbers_mk) (t := impl_Vector_numbers_tree (⟨a0_0, a0_1, a0_2⟩ : Vec)) (by unfold Agree; kernel_rfl) (by kernel_rfl)⟩
  · cases h

/-- loop.example/g01284/impl.isFiniteVector -/
def impl_isFiniteVector_tree (a0 : Vec) : DT (Bool) :=
  let x0 := impl_Vector_numbers (⟨a0.X, a0.Y, a0.Z⟩ : Vec);
  .need ((impl_areFinite_need x0)) (
  let x1 := impl_areFinite x0;
  .leaf x1)
def impl_isFiniteVector (a0 : Vec) : Bool := (impl_isFiniteVector_tree a0).val
def impl_isFiniteVector_need (a0 : Vec) : Bool := (impl_isFiniteVector_tree a0).ok
def impl_isFiniteVector_mk (p : Bool) : Ret := ⟨.bool p, []⟩
def impl_isFiniteVector_c : Con := fun args => match args with
  | [.agg [.flt .f32 a0_0, .flt .f32 a0_1, .flt .f32 a0_2]] => some (.need (impl_isFiniteVector_need (⟨a0_0, a0_1, a0_2⟩ : Vec)) (.leaf (impl_isFiniteVector_mk (impl_isFiniteVector (⟨a0_0, a0_1, a0_2⟩ : Vec)))))
  | _ => none
set_option maxRecDepth 100000 in
theorem impl_isFiniteVector_ok : FunOK Try.prog 53 impl_isFiniteVector_c.fn := by
  refine con_ok (Γ := gam [(76, impl_Vector_numbers_c), (48, impl_areFinite_c)]) (gam_cons impl_Vector_numbers_ok (gam_cons impl_areFinite_ok (gam_nil))) tab_ok (by kernel_rfl) Try.func53 (by kernel_rfl) (by kernel_rfl) Try.ntmps53 Try.results53 (loopsOK_none rfl _) 100000 fun args t h => ?_
  unfold impl_isFiniteVector_c at h
  split at h
  · rename_i a0_0 a0_1 a0_2
    cases h
    exact ⟨rfl, agree_need (mk := impl_isFiniteVector_mk) (t := impl_isFiniteVector_tree (⟨a0_0, a0_1, a0_2⟩ : Vec)) (by unfold Agree; kernel_rfl)⟩
  · cases h

/-- loop.example/g01284/impl.StateOf -/
def impl_StateOf_tree (a0 : Orbit) (a1 : Nat) : DT (Vec × Vec × Bool) :=
  .need ((impl_Orbit_isAround_need (⟨a0.Long, a0.Round, a0.Tilt, a0.Node, a0.Peri, a0.Phase⟩ : Orbit) a1)) (
  let x0 := impl_Orbit_isAround (⟨a0.Long, a0.Round, a0.Tilt, a0.Node, a0.Peri, a0.Phase⟩ : Orbit) a1;
  .ask (!x0)
  (
   .leaf ((⟨0, 0, 0⟩ : Vec), (⟨0, 0, 0⟩ : Vec), false))
  (
   .need ((fconvOk .f32 a1 .f64)) (
   let x1 := fconv .f32 a1 .f64;
   .need ((impl_Orbit_state_need (⟨a0.Long, a0.Round, a0.Tilt, a0.Node, a0.Peri, a0.Phase⟩ : Orbit) x1)) (
   let x2 := impl_Orbit_state (⟨a0.Long, a0.Round, a0.Tilt, a0.Node, a0.Peri, a0.Phase⟩ : Orbit) x1;
   .need ((impl_isFiniteVector_need (⟨x2.1.X, x2.1.Y, x2.1.Z⟩ : Vec))) (
   let x3 := impl_isFiniteVector (⟨x2.1.X, x2.1.Y, x2.1.Z⟩ : Vec);
   .ask (!x3)
   (
    .leaf ((⟨0, 0, 0⟩ : Vec), (⟨0, 0, 0⟩ : Vec), false))
   (
    .need ((impl_isFiniteVector_need (⟨x2.2.X, x2.2.Y, x2.2.Z⟩ : Vec))) (
    let x4 := impl_isFiniteVector (⟨x2.2.X, x2.2.Y, x2.2.Z⟩ : Vec);
    .ask (!x4)
    (
     .leaf ((⟨0, 0, 0⟩ : Vec), (⟨0, 0, 0⟩ : Vec), false))
    (
     .leaf ((⟨x2.1.X, x2.1.Y, x2.1.Z⟩ : Vec), (⟨x2.2.X, x2.2.Y, x2.2.Z⟩ : Vec), true)))))))))
def impl_StateOf (a0 : Orbit) (a1 : Nat) : Vec × Vec × Bool := (impl_StateOf_tree a0 a1).val
def impl_StateOf_need (a0 : Orbit) (a1 : Nat) : Bool := (impl_StateOf_tree a0 a1).ok
def impl_StateOf_mk (p : Vec × Vec × Bool) : Ret := ⟨.tup [.agg [.flt .f32 p.1.X, .flt .f32 p.1.Y, .flt .f32 p.1.Z], .agg [.flt .f32 p.2.1.X, .flt .f32 p.2.1.Y, .flt .f32 p.2.1.Z], .bool p.2.2], []⟩
def impl_StateOf_c : Con := fun args => match args with
  | [.agg [.flt .f32 a0_0, .flt .f32 a0_1, .flt .f32 a0_2, .flt .f32 a0_3, .flt .f32 a0_4, .flt .f32 a0_5], .flt .f32 a1] => some (.need (impl_StateOf_need (⟨a0_0, a0_1, a0_2, a0_3, a0_4, a0_5⟩ : Orbit) a1) (.leaf (impl_StateOf_mk (impl_StateOf (⟨a0_0, a0_1, a0_2, a0_3, a0_4, a0_5⟩ : Orbit) a1))))
  | _ => none
set_option maxRecDepth 100000 in
theorem impl_StateOf_ok : FunOK Try.prog 31 impl_StateOf_c.fn := by
  refine con_ok (Γ := gam [(22, impl_Orbit_isAround_c), (52, impl_Orbit_state_c), (53, impl_isFiniteVector_c)]) (gam_cons impl_Orbit_isAround_ok (gam_cons impl_Orbit_state_ok (gam_cons impl_isFiniteVector_ok (gam_nil)))) tab_ok (by kernel_rfl) Try.func31 (by kernel_rfl) (by kernel_rfl) Try.ntmps31 Try.results31 (loopsOK_none rfl _) 100000 fun args t h => ?_
  unfold impl_StateOf_c at h
  split at h
  · rename_i a0_0 a0_1 a0_2 a0_3 a0_4 a0_5 a1
    cases h
    exact ⟨rfl, agree_need (mk := impl_StateOf_mk) (t := impl_StateOf_tree (⟨a0_0, a0_1, a0_2, a0_3, a0_4, a0_5⟩ : Orbit) a1) (by unfold Agree; kernel_rfl)⟩
  · cases h

/-- a loop of impl_PlacesOf -/
def impl_PlacesOf_loop0_step (p : Nat × Int × Int × Nat × Nat × Nat × Nat × Nat) (s : Int × Nat × List Vec) : Round (Int × Nat × List Vec) ((Unit) ⊕ (List Vec)) :=
  let x0 := decide (s.1 < p.2.2.1);
  .ask x0
  (
   let x1 := fofInt .f64 s.1;
   let x2 := fofInt .f64 p.2.1;
   let x3 := fdiv .f64 x1 x2;
   let x4 := impl_wrap x3;
   .need ((impl_narrowTurn_need x4)) (
   let x5 := impl_narrowTurn x4;
   .need ((impl_StateOf_need (⟨p.2.2.2.1, p.2.2.2.2.1, p.2.2.2.2.2.1, p.2.2.2.2.2.2.1, p.2.2.2.2.2.2.2, x5⟩ : Orbit) p.1)) (
   let x6 := impl_StateOf (⟨p.2.2.2.1, p.2.2.2.2.1, p.2.2.2.2.2.1, p.2.2.2.2.2.2.1, p.2.2.2.2.2.2.2, x5⟩ : Orbit) p.1;
   .ask (!x6.2.2)
   (
    .leaf (.inr (.inl ()), []))
   (
    .need ((decide ((List.length s.2.2 + List.length [(⟨x6.1.X, x6.1.Y, x6.1.Z⟩ : Vec)]) * 12 ≤ 140737488355328) && decide (List.length s.2.2 + List.length [(⟨x6.1.X, x6.1.Y, x6.1.Z⟩ : Vec)] ≤ 9223372036854775807))) (
    let x7 := s.2.2 ++ [(⟨x6.1.X, x6.1.Y, x6.1.Z⟩ : Vec)];
    let x8 := IntKind.wrap .i64 (s.1 + 1);
    .leaf (.inl (x8, x5, x7), [0, 234]))))))
  (
   .leaf (.inr (.inr s.2.2), [1]))
def impl_PlacesOf_loop0_L (p : Nat × Int × Int × Nat × Nat × Nat × Nat × Nat) : LoopS (Int × Nat × List Vec) ((Unit) ⊕ (List Vec)) := { tl := fun s => [.junk, .flt .f32 p.1, .int .i64 p.2.1, .ptr 0 0, .junk, .junk, .junk, .junk, .own 1, .junk, .junk, .junk, .junk, .junk, .junk, .junk, .junk, .junk, .junk, .junk, .junk, .junk, .junk, .junk, .junk, .junk, .junk, .junk, .int .i64 p.2.2.1, .int .i64 s.1], hl := fun s => [some (.cells [.flt .f32 p.2.2.2.1, .flt .f32 p.2.2.2.2.1, .flt .f32 p.2.2.2.2.2.1, .flt .f32 p.2.2.2.2.2.2.1, .flt .f32 p.2.2.2.2.2.2.2, .flt .f32 s.2.1]), some (.typed 45 .vec s.2.2)], ex := fun r => match r with | .inl r => .ret | .inr r => .exit 0, otl := fun r => match r with | .inl r => [.junk, .junk, .junk, .junk, .junk, .junk, .nils, .bool false] | .inr r => [.junk, .junk, .junk, .junk, .junk, .junk, .junk, .junk, .own 0], ohl := fun r => match r with | .inl r => [] | .inr r => [some (.typed 45 .vec r)] }
def impl_PlacesOf_loop0_ext : St → Option ((Nat × Int × Int × Nat × Nat × Nat × Nat × Nat) × (Int × Nat × List Vec) × List Nat) := fun S => match (S.tm 1).unK, (S.tm 2).unK, (S.tm 3).unK, (S.tm 8).unK, (S.tm 28).unK, (S.tm 29).unK with
  | .flt .f32 q0, .int .i64 q1, .ptr i0 0, .own i1, .int .i64 q2, .int .i64 q3 => (match S.hp i0 with
    | some (.cells [.flt .f32 q4, .flt .f32 q5, .flt .f32 q6, .flt .f32 q7, .flt .f32 q8, .flt .f32 q9]) => (match S.hp i1 with
    | some (.typed 45 .vec q10) => (if nodup [i0, i1] = true then some ((q0, q1, q2, q4, q5, q6, q7, q8), (q3, q9, q10), [i0, i1]) else none)
    | _ => none)
    | _ => none)
  | _, _, _, _, _, _ => none
def impl_PlacesOf_loop0_post (p : Nat × Int × Int × Nat × Nat × Nat × Nat × Nat) (r : (Unit) ⊕ (List Vec)) : DT (Ex × St) := .ask (isL r) (.leaf (.ret, LSt [.junk, .junk, .junk, .junk, .junk, .junk, .nils, .bool false] [])) (.leaf (.exit 0, LSt [.junk, .junk, .junk, .junk, .junk, .junk, .junk, .junk, .own 0] [some (.typed 45 .vec ((rightD r)))]))
def impl_PlacesOf_loop0 (p : Nat × Int × Int × Nat × Nat × Nat × Nat × Nat) (s : Int × Nat × List Vec) : (Unit) ⊕ (List Vec) := loopVal (impl_PlacesOf_loop0_step p) s
def impl_PlacesOf_loop0_ends (p : Nat × Int × Int × Nat × Nat × Nat × Nat × Nat) (s : Int × Nat × List Vec) : Bool := loopEnds (impl_PlacesOf_loop0_step p) s
def impl_PlacesOf_loop0_F : LoopF := loopF impl_PlacesOf_loop0_step impl_PlacesOf_loop0_ext impl_PlacesOf_loop0_post
set_option maxRecDepth 100000 in
theorem impl_PlacesOf_loop0_hext : ∀ S p s fl, impl_PlacesOf_loop0_ext S = some (p, s, fl) → Norm S fl ((impl_PlacesOf_loop0_L p).tl s) ((impl_PlacesOf_loop0_L p).hl s) (impl_PlacesOf_loop0_L p).gl := by
  intro S p s fl h
  unfold impl_PlacesOf_loop0_ext at h
  (repeat' split at h) <;> first
    | (cases h; constructor <;> simp_all [impl_PlacesOf_loop0_L, keepT, keepH, rens, renH, PV.ren, Blk.ren, fOf, lget, nodup, natIn, lenEq, gtm, PV.unK])
    | cases h
set_option maxRecDepth 100000 in
theorem impl_PlacesOf_loop0_hpost : ∀ p r e S', (impl_PlacesOf_loop0_post p r).get = some (e, S') → e = (impl_PlacesOf_loop0_L p).ex r ∧ S' = LSt ((impl_PlacesOf_loop0_L p).otl r) ((impl_PlacesOf_loop0_L p).ohl r) ((impl_PlacesOf_loop0_L p).ogl r) := by
  intro p r e S' h
  unfold impl_PlacesOf_loop0_post at h
  cases r <;> (simp only [isL, DT.get, Option.some.injEq, Prod.mk.injEq] at h; exact ⟨h.1.symm, h.2.symm⟩)

def impl_PlacesOf_loops : Nat → Option LoopF := loopTab [(5, impl_PlacesOf_loop0_F)]
set_option maxRecDepth 100000 in
theorem impl_PlacesOf_l0 : LoopOK Try.prog ⟨gam [(22, impl_Orbit_isAround_c), (30, impl_within_c), (27, impl_wrap_c), (26, impl_narrowTurn_c), (31, impl_StateOf_c)], tab, 55, impl_PlacesOf_loops⟩ (lp Try.f15 0) :=
  loopOK_some (F := impl_PlacesOf_loop0_F) (by kernel_rfl) (loopF_ok (E := ⟨gam [(22, impl_Orbit_isAround_c), (30, impl_within_c), (27, impl_wrap_c), (26, impl_narrowTurn_c), (31, impl_StateOf_c)], tab, 55, impl_PlacesOf_loops⟩) ⟨gam_cons impl_Orbit_isAround_ok (gam_cons impl_within_ok (gam_cons impl_wrap_ok (gam_cons impl_narrowTurn_ok (gam_cons impl_StateOf_ok (gam_nil))))), tab_ok, by kernel_rfl⟩ (fuel := 100000) (loopsOK_list (l := []) (by kernel_rfl) trivial) (L := impl_PlacesOf_loop0_L) (fun p s => by unfold AgreeL; exact ⟨by kernel_rfl, by kernel_rfl⟩) (fun _ r h => by cases r <;> exact Ex.noConfusion h) impl_PlacesOf_loop0_hext impl_PlacesOf_loop0_hpost)
/-- loop.example/g01284/impl.PlacesOf -/
def impl_PlacesOf_tree (a0 : Orbit) (a1 : Nat) (a2 : Int) : DT ((Unit) ⊕ (List Vec)) :=
  .need ((impl_Orbit_isAround_need (⟨a0.Long, a0.Round, a0.Tilt, a0.Node, a0.Peri, a0.Phase⟩ : Orbit) a1)) (
  let x0 := impl_Orbit_isAround (⟨a0.Long, a0.Round, a0.Tilt, a0.Node, a0.Peri, a0.Phase⟩ : Orbit) a1;
  .ask (!x0)
  (
   .leaf (.inl ()))
  (
   let x1 := flt .f32 a0.Long 0;
   .ask x1
   (
    .leaf (.inl ()))
   (
    let x2 := impl_within a2 1 64;
    .ask (!x2)
    (
     .leaf (.inl ()))
    (
     .need ((impl_PlacesOf_loop0_ends (a1, a2, a2, a0.Long, a0.Round, a0.Tilt, a0.Node, a0.Peri) (0, a0.Phase, []))) (
     let x3 := impl_PlacesOf_loop0 (a1, a2, a2, a0.Long, a0.Round, a0.Tilt, a0.Node, a0.Peri) (0, a0.Phase, []);
     .ask ((isL x3))
     (
      .leaf (.inl ()))
     (
      .leaf (.inr ((rightD x3)))))))))
def impl_PlacesOf (a0 : Orbit) (a1 : Nat) (a2 : Int) : (Unit) ⊕ (List Vec) := (impl_PlacesOf_tree a0 a1 a2).val
def impl_PlacesOf_need (a0 : Orbit) (a1 : Nat) (a2 : Int) : Bool := (impl_PlacesOf_tree a0 a1 a2).ok
def impl_PlacesOf_mk0 (p : Unit) : Ret := ⟨.tup [.nils, .bool false], []⟩
def impl_PlacesOf_mk1 (p : List Vec) : Ret := ⟨.tup [.own 0, .bool true], [.typed 45 .vec p]⟩
def impl_PlacesOf_mk : (Unit) ⊕ (List Vec) → Ret := fun v => match v with
  | (.inl p) => impl_PlacesOf_mk0 p
  | (.inr p) => impl_PlacesOf_mk1 p
def impl_PlacesOf_forms (v : (Unit) ⊕ (List Vec)) : DT Ret := .ask (isL v) (.leaf (impl_PlacesOf_mk0 (leftD v))) (.leaf (impl_PlacesOf_mk1 (rightD v)))
theorem impl_PlacesOf_forms_get : ∀ v, (impl_PlacesOf_forms v).get = some (impl_PlacesOf_mk v) := by
  intro v
  rcases v with v | v <;> rfl
def impl_PlacesOf_c : Con := fun args => match args with
  | [.agg [.flt .f32 a0_0, .flt .f32 a0_1, .flt .f32 a0_2, .flt .f32 a0_3, .flt .f32 a0_4, .flt .f32 a0_5], .flt .f32 a1, .int .i64 a2] => some (.need (impl_PlacesOf_need (⟨a0_0, a0_1, a0_2, a0_3, a0_4, a0_5⟩ : Orbit) a1 a2) (impl_PlacesOf_forms (impl_PlacesOf (⟨a0_0, a0_1, a0_2, a0_3, a0_4, a0_5⟩ : Orbit) a1 a2)))
  | _ => none
set_option maxRecDepth 100000 in
theorem impl_PlacesOf_ok : FunOK Try.prog 15 impl_PlacesOf_c.fn := by
  refine con_ok (Γ := gam [(22, impl_Orbit_isAround_c), (30, impl_within_c), (27, impl_wrap_c), (26, impl_narrowTurn_c), (31, impl_StateOf_c)]) (gam_cons impl_Orbit_isAround_ok (gam_cons impl_within_ok (gam_cons impl_wrap_ok (gam_cons impl_narrowTurn_ok (gam_cons impl_StateOf_ok (gam_nil)))))) tab_ok (by kernel_rfl) Try.func15 (by kernel_rfl) (by kernel_rfl) Try.ntmps15 Try.results15 (loops := impl_PlacesOf_loops) (loopsOK_list (l := [lp Try.f15 0]) (by kernel_rfl) ⟨impl_PlacesOf_l0, trivial⟩) 100000 fun args t h => ?_
  unfold impl_PlacesOf_c at h
  split at h
  · rename_i a0_0 a0_1 a0_2 a0_3 a0_4 a0_5 a1 a2
    cases h
    exact ⟨rfl, agree_forms (mk := impl_PlacesOf_mk) (t := impl_PlacesOf_tree (⟨a0_0, a0_1, a0_2, a0_3, a0_4, a0_5⟩ : Orbit) a1 a2) (by unfold Agree; kernel_rfl) (fun h => h) (impl_PlacesOf_forms_get _)⟩
  · cases h

/-- loop.example/g01284/impl.LessVectors -/
def impl_LessVectors_tree (a0 : Vec) (a1 : Vec) : DT (Vec) :=
  let x0 := fsub .f32 a0.X a1.X;
  let x1 := fsub .f32 a0.Y a1.Y;
  let x2 := fsub .f32 a0.Z a1.Z;
  .leaf ((⟨x0, x1, x2⟩ : Vec))
def impl_LessVectors (a0 : Vec) (a1 : Vec) : Vec := (impl_LessVectors_tree a0 a1).val
def impl_LessVectors_mk (p : Vec) : Ret := ⟨.agg [.flt .f32 p.X, .flt .f32 p.Y, .flt .f32 p.Z], []⟩
def impl_LessVectors_c : Con := fun args => match args with
  | [.agg [.flt .f32 a0_0, .flt .f32 a0_1, .flt .f32 a0_2], .agg [.flt .f32 a1_0, .flt .f32 a1_1, .flt .f32 a1_2]] => some (.leaf (impl_LessVectors_mk (impl_LessVectors (⟨a0_0, a0_1, a0_2⟩ : Vec) (⟨a1_0, a1_1, a1_2⟩ : Vec))))
  | _ => none
set_option maxRecDepth 100000 in
theorem impl_LessVectors_ok : FunOK Try.prog 33 impl_LessVectors_c.fn := by
  refine con_ok (Γ := gam []) (gam_nil) tab_ok (by kernel_rfl) Try.func33 (by kernel_rfl) (by kernel_rfl) Try.ntmps33 Try.results33 (loopsOK_none rfl _) 100000 fun args t h => ?_
  unfold impl_LessVectors_c at h
  split at h
  · rename_i a0_0 a0_1 a0_2 a1_0 a1_1 a1_2
    cases h
    exact ⟨rfl, agree_tot (mk := impl_LessVectors_mk) (t := impl_LessVectors_tree (⟨a0_0, a0_1, a0_2⟩ : Vec) (⟨a1_0, a1_1, a1_2⟩ : Vec)) (by unfold Agree; kernel_rfl) (by kernel_rfl)⟩
  · cases h

/-- loop.example/g01284/impl.InnerOf -/
def impl_InnerOf_tree (a0 : Vec) (a1 : Vec) : DT (Nat) :=
  let x0 := fmul .f32 a0.X a1.X;
  let x1 := fmul .f32 a0.Y a1.Y;
  let x2 := fadd .f32 x0 x1;
  let x3 := fmul .f32 a0.Z a1.Z;
  let x4 := fadd .f32 x2 x3;
  .leaf x4
def impl_InnerOf (a0 : Vec) (a1 : Vec) : Nat := (impl_InnerOf_tree a0 a1).val
def impl_InnerOf_mk (p : Nat) : Ret := ⟨.flt .f32 p, []⟩
def impl_InnerOf_c : Con := fun args => match args with
  | [.agg [.flt .f32 a0_0, .flt .f32 a0_1, .flt .f32 a0_2], .agg [.flt .f32 a1_0, .flt .f32 a1_1, .flt .f32 a1_2]] => some (.leaf (impl_InnerOf_mk (impl_InnerOf (⟨a0_0, a0_1, a0_2⟩ : Vec) (⟨a1_0, a1_1, a1_2⟩ : Vec))))
  | _ => none
set_option maxRecDepth 100000 in
theorem impl_InnerOf_ok : FunOK Try.prog 55 impl_InnerOf_c.fn := by
  refine con_ok (Γ := gam []) (gam_nil) tab_ok (by kernel_rfl) Try.func55 (by kernel_rfl) (by kernel_rfl) Try.ntmps55 Try.results55 (loopsOK_none rfl _) 100000 fun args t h => ?_
  unfold impl_InnerOf_c at h
  split at h
  · rename_i a0_0 a0_1 a0_2 a1_0 a1_1 a1_2
    cases h
    exact ⟨rfl, agree_tot (mk := impl_InnerOf_mk) (t := impl_InnerOf_tree (⟨a0_0, a0_1, a0_2⟩ : Vec) (⟨a1_0, a1_1, a1_2⟩ : Vec)) (by unfold Agree; kernel_rfl) (by kernel_rfl)⟩
  · cases h

/-- loop.example/g01284/impl.RootNumber -/
def impl_RootNumber_tree (a0 : Nat) : DT (Nat) :=
  .need ((fconvOk .f32 a0 .f64)) (
  let x0 := fconv .f32 a0 .f64;
  let x1 := math_Sqrt x0;
  .need ((fconvOk .f64 x1 .f32)) (
  let x2 := fconv .f64 x1 .f32;
  .leaf x2))
def impl_RootNumber (a0 : Nat) : Nat := (impl_RootNumber_tree a0).val
def impl_RootNumber_need (a0 : Nat) : Bool := (impl_RootNumber_tree a0).ok
def impl_RootNumber_mk (p : Nat) : Ret := ⟨.flt .f32 p, []⟩
def impl_RootNumber_c : Con := fun args => match args with
  | [.flt .f32 a0] => some (.need (impl_RootNumber_need a0) (.leaf (impl_RootNumber_mk (impl_RootNumber a0))))
  | _ => none
set_option maxRecDepth 100000 in
theorem impl_RootNumber_ok : FunOK Try.prog 54 impl_RootNumber_c.fn := by
  refine con_ok (Γ := gam [(45, math_Sqrt_c)]) (gam_cons math_Sqrt_ok (gam_nil)) tab_ok (by kernel_rfl) Try.func54 (by kernel_rfl) (by kernel_rfl) Try.ntmps54 Try.results54 (loopsOK_none rfl _) 100000 fun args t h => ?_
  unfold impl_RootNumber_c at h
  split at h
  · rename_i a0
    cases h
    exact ⟨rfl, agree_need (mk := impl_RootNumber_mk) (t := impl_RootNumber_tree a0) (by unfold Agree; kernel_rfl)⟩
  · cases h

/-- loop.example/g01284/impl.SizeOfVector -/
def impl_SizeOfVector_tree (a0 : Vec) : DT (Nat) :=
  let x0 := impl_InnerOf (⟨a0.X, a0.Y, a0.Z⟩ : Vec) (⟨a0.X, a0.Y, a0.Z⟩ : Vec);
  .need ((impl_RootNumber_need x0)) (
  let x1 := impl_RootNumber x0;
  .leaf x1)
def impl_SizeOfVector (a0 : Vec) : Nat := (impl_SizeOfVector_tree a0).val
def impl_SizeOfVector_need (a0 : Vec) : Bool := (impl_SizeOfVector_tree a0).ok
def impl_SizeOfVector_mk (p : Nat) : Ret := ⟨.flt .f32 p, []⟩
def impl_SizeOfVector_c : Con := fun args => match args with
  | [.agg [.flt .f32 a0_0, .flt .f32 a0_1, .flt .f32 a0_2]] => some (.need (impl_SizeOfVector_need (⟨a0_0, a0_1, a0_2⟩ : Vec)) (.leaf (impl_SizeOfVector_mk (impl_SizeOfVector (⟨a0_0, a0_1, a0_2⟩ : Vec)))))
  | _ => none
set_option maxRecDepth 100000 in
theorem impl_SizeOfVector_ok : FunOK Try.prog 32 impl_SizeOfVector_c.fn := by
  refine con_ok (Γ := gam [(55, impl_InnerOf_c), (54, impl_RootNumber_c)]) (gam_cons impl_InnerOf_ok (gam_cons impl_RootNumber_ok (gam_nil))) tab_ok (by kernel_rfl) Try.func32 (by kernel_rfl) (by kernel_rfl) Try.ntmps32 Try.results32 (loopsOK_none rfl _) 100000 fun args t h => ?_
  unfold impl_SizeOfVector_c at h
  split at h
  · rename_i a0_0 a0_1 a0_2
    cases h
    exact ⟨rfl, agree_need (mk := impl_SizeOfVector_mk) (t := impl_SizeOfVector_tree (⟨a0_0, a0_1, a0_2⟩ : Vec)) (by unfold Agree; kernel_rfl)⟩
  · cases h

/-- a loop of impl_NearestOrbits -/
def impl_NearestOrbits_loop1_step (p : Int × Int × Int × Int × List Vec × Nat × Nat × Nat × List Vec) (s : Int × Int × Nat × Int) : Round (Int × Int × Nat × Int) (Int × Int × Nat) :=
  let x0 := decide (s.2.2.2 < p.2.2.2.1);
  .ask x0
  (
   .need ((decide (0 ≤ s.2.2.2) && decide (s.2.2.2 < ((List.length p.2.2.2.2.1 : Nat) : Int)))) (
   .need ((decide ((Int.toNat s.2.2.2) < List.length p.2.2.2.2.1))) (
   let x1 := List.getD p.2.2.2.2.1 (Int.toNat s.2.2.2) default;
   let x2 := impl_LessVectors (⟨x1.X, x1.Y, x1.Z⟩ : Vec) (⟨p.2.2.2.2.2.1, p.2.2.2.2.2.2.1, p.2.2.2.2.2.2.2.1⟩ : Vec);
   .need ((impl_SizeOfVector_need (⟨x2.X, x2.Y, x2.Z⟩ : Vec))) (
   let x3 := impl_SizeOfVector (⟨x2.X, x2.Y, x2.Z⟩ : Vec);
   let x4 := decide (s.1 < 0);
   .ask x4
   (
    let x5 := IntKind.wrap .i64 (s.2.2.2 + 1);
    .leaf (.inl (p.1, s.2.2.2, x3, x5), [0, 1, 2]))
   (
    let x5 := flt .f32 x3 s.2.2.1;
    .ask x5
    (
     let x6 := IntKind.wrap .i64 (s.2.2.2 + 1);
     .leaf (.inl (p.1, s.2.2.2, x3, x6), [0, 1, 2]))
    (
     let x6 := IntKind.wrap .i64 (s.2.2.2 + 1);
     .leaf (.inl (s.1, s.2.1, s.2.2.1, x6), [0, 1, 2])))))))
  (
   .leaf (.inr (s.1, s.2.1, s.2.2.1), [0, 2]))
def impl_NearestOrbits_loop1_L (p : Int × Int × Int × Int × List Vec × Nat × Nat × Nat × List Vec) : LoopS (Int × Int × Nat × Int) (Int × Int × Nat) := { tl := fun s => [.junk, .junk, .junk, .junk, .junk, .junk, .junk, .junk, .junk, .junk, .junk, .junk, .junk, .junk, .own 0, .junk, .int .i64 s.1, .int .i64 s.2.1, .flt .f32 s.2.2.1, .int .i64 p.1, .ptr 1 0, .junk, .junk, .junk, .junk, .junk, .junk, .junk, .junk, .junk, .junk, .junk, .junk, .junk, .junk, .junk, .junk, .junk, .junk, .junk, .junk, .junk, .junk, .junk, .own 2, .int .i64 p.2.1, .int .i64 p.2.2.1, .junk, .junk, .junk, .junk, .own 0, .int .i64 p.2.2.2.1, .int .i64 s.2.2.2], hl := fun s => [some (.typed 45 .vec p.2.2.2.2.1), some (.cells [.flt .f32 p.2.2.2.2.2.1, .flt .f32 p.2.2.2.2.2.2.1, .flt .f32 p.2.2.2.2.2.2.2.1]), some (.typed 45 .vec p.2.2.2.2.2.2.2.2)], ex := fun r => .exit 2, otl := fun r => [.junk, .junk, .junk, .junk, .junk, .junk, .junk, .junk, .junk, .junk, .junk, .junk, .junk, .junk, .own 0, .junk, .int .i64 r.1, .int .i64 r.2.1, .flt .f32 r.2.2, .junk, .junk, .junk, .junk, .junk, .junk, .junk, .junk, .junk, .junk, .junk, .junk, .junk, .junk, .junk, .junk, .junk, .junk, .junk, .junk, .junk, .junk, .junk, .junk, .junk, .own 1, .int .i64 p.2.1, .int .i64 p.2.2.1], ohl := fun r => [some (.typed 45 .vec p.2.2.2.2.1), some (.typed 45 .vec p.2.2.2.2.2.2.2.2)] }
def impl_NearestOrbits_loop1_ext : St → Option ((Int × Int × Int × Int × List Vec × Nat × Nat × Nat × List Vec) × (Int × Int × Nat × Int) × List Nat) := fun S => match (S.tm 14).unK, (S.tm 16).unK, (S.tm 17).unK, (S.tm 18).unK, (S.tm 19).unK, (S.tm 20).unK, (S.tm 44).unK, (S.tm 45).unK, (S.tm 46).unK, (S.tm 51).unK, (S.tm 52).unK, (S.tm 53).unK with
  | .own i0, .int .i64 q0, .int .i64 q1, .flt .f32 q2, .int .i64 q3, .ptr i1 0, .own i2, .int .i64 q4, .int .i64 q5, .own d0x0, .int .i64 q6, .int .i64 q7 => (if d0x0 = i0 then (match S.hp i0 with
    | some (.typed 45 .vec q8) => (match S.hp i1 with
    | some (.cells [.flt .f32 q9, .flt .f32 q10, .flt .f32 q11]) => (match S.hp i2 with
    | some (.typed 45 .vec q12) => (if nodup [i0, i1, i2] = true then some ((q3, q4, q5, q6, q8, q9, q10, q11, q12), (q0, q1, q2, q7), [i0, i1, i2]) else none)
    | _ => none)
    | _ => none)
    | _ => none) else none)
  | _, _, _, _, _, _, _, _, _, _, _, _ => none
def impl_NearestOrbits_loop1_post (p : Int × Int × Int × Int × List Vec × Nat × Nat × Nat × List Vec) (r : Int × Int × Nat) : DT (Ex × St) := .leaf (.exit 2, LSt [.junk, .junk, .junk, .junk, .junk, .junk, .junk, .junk, .junk, .junk, .junk, .junk, .junk, .junk, .own 0, .junk, .int .i64 r.1, .int .i64 r.2.1, .flt .f32 r.2.2, .junk, .junk, .junk, .junk, .junk, .junk, .junk, .junk, .junk, .junk, .junk, .junk, .junk, .junk, .junk, .junk, .junk, .junk, .junk, .junk, .junk, .junk, .junk, .junk, .junk, .own 1, .int .i64 p.2.1, .int .i64 p.2.2.1] [some (.typed 45 .vec p.2.2.2.2.1), some (.typed 45 .vec p.2.2.2.2.2.2.2.2)])
def impl_NearestOrbits_loop1 (p : Int × Int × Int × Int × List Vec × Nat × Nat × Nat × List Vec) (s : Int × Int × Nat × Int) : Int × Int × Nat := loopVal (impl_NearestOrbits_loop1_step p) s
def impl_NearestOrbits_loop1_ends (p : Int × Int × Int × Int × List Vec × Nat × Nat × Nat × List Vec) (s : Int × Int × Nat × Int) : Bool := loopEnds (impl_NearestOrbits_loop1_step p) s
def impl_NearestOrbits_loop1_F : LoopF := loopF impl_NearestOrbits_loop1_step impl_NearestOrbits_loop1_ext impl_NearestOrbits_loop1_post
set_option maxRecDepth 100000 in
theorem impl_NearestOrbits_loop1_hext : ∀ S p s fl, impl_NearestOrbits_loop1_ext S = some (p, s, fl) → Norm S fl ((impl_NearestOrbits_loop1_L p).tl s) ((impl_NearestOrbits_loop1_L p).hl s) (impl_NearestOrbits_loop1_L p).gl := by
  intro S p s fl h
  unfold impl_NearestOrbits_loop1_ext at h
  (repeat' split at h) <;> first
    | (cases h; constructor <;> simp_all [impl_NearestOrbits_loop1_L, keepT, keepH, rens, renH, PV.ren, Blk.ren, fOf, lget, nodup, natIn, lenEq, gtm, PV.unK])
    | cases h
set_option maxRecDepth 100000 in
theorem impl_NearestOrbits_loop1_hpost : ∀ p r e S', (impl_NearestOrbits_loop1_post p r).get = some (e, S') → e = (impl_NearestOrbits_loop1_L p).ex r ∧ S' = LSt ((impl_NearestOrbits_loop1_L p).otl r) ((impl_NearestOrbits_loop1_L p).ohl r) ((impl_NearestOrbits_loop1_L p).ogl r) := by
  intro p r e S' h
  unfold impl_NearestOrbits_loop1_post at h
  simp only [DT.get, Option.some.injEq, Prod.mk.injEq] at h; exact ⟨h.1.symm, h.2.symm⟩

/-- a loop of impl_NearestOrbits -/
def impl_NearestOrbits_loop0_step (p : Int × List Vec × List Vec) (s : Int × Int × Nat × Int) : Round (Int × Int × Nat × Int) (Int × Int × Nat) :=
  let x0 := decide (s.2.2.2 < p.1);
  .ask x0
  (
   .need ((decide (0 ≤ s.2.2.2) && decide (s.2.2.2 < ((List.length p.2.2 : Nat) : Int)))) (
   .need ((decide ((Int.toNat s.2.2.2) < List.length p.2.2))) (
   let x1 := List.getD p.2.2 (Int.toNat s.2.2.2) default;
   let x2 := ((List.length p.2.1 : Nat) : Int);
   .need ((impl_NearestOrbits_loop1_ends (s.2.2.2, p.1, s.2.2.2, x2, p.2.1, x1.X, x1.Y, x1.Z, p.2.2) (s.1, s.2.1, s.2.2.1, 0))) (
   let x3 := impl_NearestOrbits_loop1 (s.2.2.2, p.1, s.2.2.2, x2, p.2.1, x1.X, x1.Y, x1.Z, p.2.2) (s.1, s.2.1, s.2.2.1, 0);
   let x4 := IntKind.wrap .i64 (s.2.2.2 + 1);
   .leaf (.inl (x3.1, x3.2.1, x3.2.2, x4), [0, 1])))))
  (
   .leaf (.inr (s.1, s.2.1, s.2.2.1), []))
def impl_NearestOrbits_loop0_L (p : Int × List Vec × List Vec) : LoopS (Int × Int × Nat × Int) (Int × Int × Nat) := { tl := fun s => [.junk, .junk, .junk, .junk, .junk, .junk, .junk, .junk, .junk, .junk, .junk, .junk, .junk, .junk, .own 0, .junk, .int .i64 s.1, .int .i64 s.2.1, .flt .f32 s.2.2.1, .junk, .junk, .junk, .junk, .junk, .junk, .junk, .junk, .junk, .junk, .junk, .junk, .junk, .junk, .junk, .junk, .junk, .junk, .junk, .junk, .junk, .junk, .junk, .junk, .junk, .own 1, .int .i64 p.1, .int .i64 s.2.2.2], hl := fun s => [some (.typed 45 .vec p.2.1), some (.typed 45 .vec p.2.2)], ex := fun r => .exit 0, otl := fun r => [.junk, .junk, .junk, .junk, .junk, .junk, .junk, .junk, .junk, .junk, .junk, .junk, .junk, .junk, .junk, .junk, .int .i64 r.1, .int .i64 r.2.1, .flt .f32 r.2.2], ohl := fun r => [] }
def impl_NearestOrbits_loop0_ext : St → Option ((Int × List Vec × List Vec) × (Int × Int × Nat × Int) × List Nat) := fun S => match (S.tm 14).unK, (S.tm 16).unK, (S.tm 17).unK, (S.tm 18).unK, (S.tm 44).unK, (S.tm 45).unK, (S.tm 46).unK with
  | .own i0, .int .i64 q0, .int .i64 q1, .flt .f32 q2, .own i1, .int .i64 q3, .int .i64 q4 => (match S.hp i0 with
    | some (.typed 45 .vec q5) => (match S.hp i1 with
    | some (.typed 45 .vec q6) => (if nodup [i0, i1] = true then some ((q3, q5, q6), (q0, q1, q2, q4), [i0, i1]) else none)
    | _ => none)
    | _ => none)
  | _, _, _, _, _, _, _ => none
def impl_NearestOrbits_loop0_post (p : Int × List Vec × List Vec) (r : Int × Int × Nat) : DT (Ex × St) := .leaf (.exit 0, LSt [.junk, .junk, .junk, .junk, .junk, .junk, .junk, .junk, .junk, .junk, .junk, .junk, .junk, .junk, .junk, .junk, .int .i64 r.1, .int .i64 r.2.1, .flt .f32 r.2.2] [])
def impl_NearestOrbits_loop0 (p : Int × List Vec × List Vec) (s : Int × Int × Nat × Int) : Int × Int × Nat := loopVal (impl_NearestOrbits_loop0_step p) s
def impl_NearestOrbits_loop0_ends (p : Int × List Vec × List Vec) (s : Int × Int × Nat × Int) : Bool := loopEnds (impl_NearestOrbits_loop0_step p) s
def impl_NearestOrbits_loop0_F : LoopF := loopF impl_NearestOrbits_loop0_step impl_NearestOrbits_loop0_ext impl_NearestOrbits_loop0_post
set_option maxRecDepth 100000 in
theorem impl_NearestOrbits_loop0_hext : ∀ S p s fl, impl_NearestOrbits_loop0_ext S = some (p, s, fl) → Norm S fl ((impl_NearestOrbits_loop0_L p).tl s) ((impl_NearestOrbits_loop0_L p).hl s) (impl_NearestOrbits_loop0_L p).gl := by
  intro S p s fl h
  unfold impl_NearestOrbits_loop0_ext at h
  (repeat' split at h) <;> first
    | (cases h; constructor <;> simp_all [impl_NearestOrbits_loop0_L, keepT, keepH, rens, renH, PV.ren, Blk.ren, fOf, lget, nodup, natIn, lenEq, gtm, PV.unK])
    | cases h
set_option maxRecDepth 100000 in
theorem impl_NearestOrbits_loop0_hpost : ∀ p r e S', (impl_NearestOrbits_loop0_post p r).get = some (e, S') → e = (impl_NearestOrbits_loop0_L p).ex r ∧ S' = LSt ((impl_NearestOrbits_loop0_L p).otl r) ((impl_NearestOrbits_loop0_L p).ohl r) ((impl_NearestOrbits_loop0_L p).ogl r) := by
  intro p r e S' h
  unfold impl_NearestOrbits_loop0_post at h
  simp only [DT.get, Option.some.injEq, Prod.mk.injEq] at h; exact ⟨h.1.symm, h.2.symm⟩

def impl_NearestOrbits_loops : Nat → Option LoopF := loopTab [(10, impl_NearestOrbits_loop1_F), (7, impl_NearestOrbits_loop0_F)]
set_option maxRecDepth 100000 in
theorem impl_NearestOrbits_l1 : LoopOK Try.prog ⟨gam [(15, impl_PlacesOf_c), (33, impl_LessVectors_c), (32, impl_SizeOfVector_c), (25, impl_IsFinite_c)], tab, 80, impl_NearestOrbits_loops⟩ (lp Try.f16 1) :=
  loopOK_some (F := impl_NearestOrbits_loop1_F) (by kernel_rfl) (loopF_ok (E := ⟨gam [(15, impl_PlacesOf_c), (33, impl_LessVectors_c), (32, impl_SizeOfVector_c), (25, impl_IsFinite_c)], tab, 80, impl_NearestOrbits_loops⟩) ⟨gam_cons impl_PlacesOf_ok (gam_cons impl_LessVectors_ok (gam_cons impl_SizeOfVector_ok (gam_cons impl_IsFinite_ok (gam_nil)))), tab_ok, by kernel_rfl⟩ (fuel := 100000) (loopsOK_list (l := []) (by kernel_rfl) trivial) (L := impl_NearestOrbits_loop1_L) (fun p s => by unfold AgreeL; exact ⟨by kernel_rfl, by kernel_rfl⟩) (fun _ _ h => Ex.noConfusion h) impl_NearestOrbits_loop1_hext impl_NearestOrbits_loop1_hpost)
set_option maxRecDepth 100000 in
theorem impl_NearestOrbits_l0 : LoopOK Try.prog ⟨gam [(15, impl_PlacesOf_c), (33, impl_LessVectors_c), (32, impl_SizeOfVector_c), (25, impl_IsFinite_c)], tab, 80, impl_NearestOrbits_loops⟩ (lp Try.f16 0) :=
  loopOK_some (F := impl_NearestOrbits_loop0_F) (by kernel_rfl) (loopF_ok (E := ⟨gam [(15, impl_PlacesOf_c), (33, impl_LessVectors_c), (32, impl_SizeOfVector_c), (25, impl_IsFinite_c)], tab, 80, impl_NearestOrbits_loops⟩) ⟨gam_cons impl_PlacesOf_ok (gam_cons impl_LessVectors_ok (gam_cons impl_SizeOfVector_ok (gam_cons impl_IsFinite_ok (gam_nil)))), tab_ok, by kernel_rfl⟩ (fuel := 100000) (loopsOK_list (l := [lp Try.f16 1]) (by kernel_rfl) ⟨impl_NearestOrbits_l1, trivial⟩) (L := impl_NearestOrbits_loop0_L) (fun p s => by unfold AgreeL; exact ⟨by kernel_rfl, by kernel_rfl⟩) (fun _ _ h => Ex.noConfusion h) impl_NearestOrbits_loop0_hext impl_NearestOrbits_loop0_hpost)
/-- loop.example/g01284/impl.NearestOrbits -/
def impl_NearestOrbits_tree (a0 : Orbit) (a1 : Orbit) (a2 : Nat) (a3 : Int) : DT (Int × Int × Nat × Bool) :=
  .need ((impl_PlacesOf_need (⟨a0.Long, a0.Round, a0.Tilt, a0.Node, a0.Peri, a0.Phase⟩ : Orbit) a2 a3)) (
  let x0 := impl_PlacesOf (⟨a0.Long, a0.Round, a0.Tilt, a0.Node, a0.Peri, a0.Phase⟩ : Orbit) a2 a3;
  .ask ((isL x0))
  (
   .need ((impl_PlacesOf_need (⟨a1.Long, a1.Round, a1.Tilt, a1.Node, a1.Peri, a1.Phase⟩ : Orbit) a2 a3)) (
   let x1 := impl_PlacesOf (⟨a1.Long, a1.Round, a1.Tilt, a1.Node, a1.Peri, a1.Phase⟩ : Orbit) a2 a3;
   .ask ((isL x1))
   (
    .skip (
    .skip (
    .skip (
    .leaf (0, 0, 0, false)))))
   (
    .skip (
    .skip (
    .skip (
    .leaf (0, 0, 0, false)))))))
  (
   .need ((impl_PlacesOf_need (⟨a1.Long, a1.Round, a1.Tilt, a1.Node, a1.Peri, a1.Phase⟩ : Orbit) a2 a3)) (
   let x1 := impl_PlacesOf (⟨a1.Long, a1.Round, a1.Tilt, a1.Node, a1.Peri, a1.Phase⟩ : Orbit) a2 a3;
   .ask ((isL x1))
   (
    .skip (
    .skip (
    .skip (
    .skip (
    .leaf (0, 0, 0, false))))))
   (
    .skip (
    .skip (
    .skip (
    .skip (
    let x2 := ((List.length (rightD x0) : Nat) : Int);
    .need ((impl_NearestOrbits_loop0_ends (x2, (rightD x1), (rightD x0)) ((-1), (-1), 0, 0))) (
    let x3 := impl_NearestOrbits_loop0 (x2, (rightD x1), (rightD x0)) ((-1), (-1), 0, 0);
    .need ((impl_IsFinite_need x3.2.2)) (
    let x4 := impl_IsFinite x3.2.2;
    .ask (!x4)
    (
     .leaf (0, 0, 0, false))
    (
     .leaf (x3.1, x3.2.1, x3.2.2, true))))))))))))
def impl_NearestOrbits (a0 : Orbit) (a1 : Orbit) (a2 : Nat) (a3 : Int) : Int × Int × Nat × Bool := (impl_NearestOrbits_tree a0 a1 a2 a3).val
def impl_NearestOrbits_need (a0 : Orbit) (a1 : Orbit) (a2 : Nat) (a3 : Int) : Bool := (impl_NearestOrbits_tree a0 a1 a2 a3).ok
def impl_NearestOrbits_mk (p : Int × Int × Nat × Bool) : Ret := ⟨.tup [.int .i64 p.1, .int .i64 p.2.1, .flt .f32 p.2.2.1, .bool p.2.2.2], []⟩
def impl_NearestOrbits_c : Con := fun args => match args with
  | [.agg [.flt .f32 a0_0, .flt .f32 a0_1, .flt .f32 a0_2, .flt .f32 a0_3, .flt .f32 a0_4, .flt .f32 a0_5], .agg [.flt .f32 a1_0, .flt .f32 a1_1, .flt .f32 a1_2, .flt .f32 a1_3, .flt .f32 a1_4, .flt .f32 a1_5], .flt .f32 a2, .int .i64 a3] => some (.need (impl_NearestOrbits_need (⟨a0_0, a0_1, a0_2, a0_3, a0_4, a0_5⟩ : Orbit) (⟨a1_0, a1_1, a1_2, a1_3, a1_4, a1_5⟩ : Orbit) a2 a3) (.leaf (impl_NearestOrbits_mk (impl_NearestOrbits (⟨a0_0, a0_1, a0_2, a0_3, a0_4, a0_5⟩ : Orbit) (⟨a1_0, a1_1, a1_2, a1_3, a1_4, a1_5⟩ : Orbit) a2 a3))))
  | _ => none
set_option maxRecDepth 100000 in
theorem impl_NearestOrbits_ok : FunOK Try.prog 16 impl_NearestOrbits_c.fn := by
  refine con_ok (Γ := gam [(15, impl_PlacesOf_c), (33, impl_LessVectors_c), (32, impl_SizeOfVector_c), (25, impl_IsFinite_c)]) (gam_cons impl_PlacesOf_ok (gam_cons impl_LessVectors_ok (gam_cons impl_SizeOfVector_ok (gam_cons impl_IsFinite_ok (gam_nil))))) tab_ok (by kernel_rfl) Try.func16 (by kernel_rfl) (by kernel_rfl) Try.ntmps16 Try.results16 (loops := impl_NearestOrbits_loops) (loopsOK_list (l := [lp Try.f16 0, lp Try.f16 1]) (by kernel_rfl) ⟨impl_NearestOrbits_l0, ⟨impl_NearestOrbits_l1, trivial⟩⟩) 100000 fun args t h => ?_
  unfold impl_NearestOrbits_c at h
  split at h
  · rename_i a0_0 a0_1 a0_2 a0_3 a0_4 a0_5 a1_0 a1_1 a1_2 a1_3 a1_4 a1_5 a2 a3
    cases h
    exact ⟨rfl, agree_need (mk := impl_NearestOrbits_mk) (t := impl_NearestOrbits_tree (⟨a0_0, a0_1, a0_2, a0_3, a0_4, a0_5⟩ : Orbit) (⟨a1_0, a1_1, a1_2, a1_3, a1_4, a1_5⟩ : Orbit) a2 a3) (by unfold Agree; kernel_rfl)⟩
  · cases h

/-- loop.example/g01284/spec.l01VInner -/
def spec_l01VInner_tree (a0 : Vec) (a1 : Vec) : DT (Nat) :=
  let x0 := fmul .f32 a0.X a1.X;
  let x1 := fmul .f32 a0.Y a1.Y;
  let x2 := fadd .f32 x0 x1;
  let x3 := fmul .f32 a0.Z a1.Z;
  let x4 := fadd .f32 x2 x3;
  .leaf x4
def spec_l01VInner (a0 : Vec) (a1 : Vec) : Nat := (spec_l01VInner_tree a0 a1).val
def spec_l01VInner_mk (p : Nat) : Ret := ⟨.flt .f32 p, []⟩
def spec_l01VInner_c : Con := fun args => match args with
  | [.agg [.flt .f32 a0_0, .flt .f32 a0_1, .flt .f32 a0_2], .agg [.flt .f32 a1_0, .flt .f32 a1_1, .flt .f32 a1_2]] => some (.leaf (spec_l01VInner_mk (spec_l01VInner (⟨a0_0, a0_1, a0_2⟩ : Vec) (⟨a1_0, a1_1, a1_2⟩ : Vec))))
  | _ => none
set_option maxRecDepth 100000 in
theorem spec_l01VInner_ok : FunOK Try.prog 57 spec_l01VInner_c.fn := by
  refine con_ok (Γ := gam []) (gam_nil) tab_ok (by kernel_rfl) Try.func57 (by kernel_rfl) (by kernel_rfl) Try.ntmps57 Try.results57 (loopsOK_none rfl _) 100000 fun args t h => ?_
  unfold spec_l01VInner_c at h
  split at h
  · rename_i a0_0 a0_1 a0_2 a1_0 a1_1 a1_2
    cases h
    exact ⟨rfl, agree_tot (mk := spec_l01VInner_mk) (t := spec_l01VInner_tree (⟨a0_0, a0_1, a0_2⟩ : Vec) (⟨a1_0, a1_1, a1_2⟩ : Vec)) (by unfold Agree; kernel_rfl) (by kernel_rfl)⟩
  · cases h

/-- loop.example/g01284/spec.l01Narrow -/
def spec_l01Narrow_tree (a0 : Nat) : DT (Nat) :=
  .need ((fconvOk .f64 a0 .f32)) (
  let x0 := fconv .f64 a0 .f32;
  .leaf x0)
def spec_l01Narrow (a0 : Nat) : Nat := (spec_l01Narrow_tree a0).val
def spec_l01Narrow_need (a0 : Nat) : Bool := (spec_l01Narrow_tree a0).ok
def spec_l01Narrow_mk (p : Nat) : Ret := ⟨.flt .f32 p, []⟩
def spec_l01Narrow_c : Con := fun args => match args with
  | [.flt .f64 a0] => some (.need (spec_l01Narrow_need a0) (.leaf (spec_l01Narrow_mk (spec_l01Narrow a0))))
  | _ => none
set_option maxRecDepth 100000 in
theorem spec_l01Narrow_ok : FunOK Try.prog 77 spec_l01Narrow_c.fn := by
  refine con_ok (Γ := gam []) (gam_nil) tab_ok (by kernel_rfl) Try.func77 (by kernel_rfl) (by kernel_rfl) Try.ntmps77 Try.results77 (loopsOK_none rfl _) 100000 fun args t h => ?_
  unfold spec_l01Narrow_c at h
  split at h
  · rename_i a0
    cases h
    exact ⟨rfl, agree_need (mk := spec_l01Narrow_mk) (t := spec_l01Narrow_tree a0) (by unfold Agree; kernel_rfl)⟩
  · cases h

/-- loop.example/g01284/spec.l01Sqrt -/
def spec_l01Sqrt_tree (a0 : Nat) : DT (Nat) :=
  .need ((fconvOk .f32 a0 .f64)) (
  let x0 := fconv .f32 a0 .f64;
  let x1 := math_Sqrt x0;
  .need ((spec_l01Narrow_need x1)) (
  let x2 := spec_l01Narrow x1;
  .leaf x2))
def spec_l01Sqrt (a0 : Nat) : Nat := (spec_l01Sqrt_tree a0).val
def spec_l01Sqrt_need (a0 : Nat) : Bool := (spec_l01Sqrt_tree a0).ok
def spec_l01Sqrt_mk (p : Nat) : Ret := ⟨.flt .f32 p, []⟩
def spec_l01Sqrt_c : Con := fun args => match args with
  | [.flt .f32 a0] => some (.need (spec_l01Sqrt_need a0) (.leaf (spec_l01Sqrt_mk (spec_l01Sqrt a0))))
  | _ => none
set_option maxRecDepth 100000 in
theorem spec_l01Sqrt_ok : FunOK Try.prog 56 spec_l01Sqrt_c.fn := by
  refine con_ok (Γ := gam [(45, math_Sqrt_c), (77, spec_l01Narrow_c)]) (gam_cons math_Sqrt_ok (gam_cons spec_l01Narrow_ok (gam_nil))) tab_ok (by kernel_rfl) Try.func56 (by kernel_rfl) (by kernel_rfl) Try.ntmps56 Try.results56 (loopsOK_none rfl _) 100000 fun args t h => ?_
  unfold spec_l01Sqrt_c at h
  split at h
  · rename_i a0
    cases h
    exact ⟨rfl, agree_need (mk := spec_l01Sqrt_mk) (t := spec_l01Sqrt_tree a0) (by unfold Agree; kernel_rfl)⟩
  · cases h

/-- loop.example/g01284/spec.l01VLong -/
def spec_l01VLong_tree (a0 : Vec) : DT (Nat) :=
  let x0 := spec_l01VInner (⟨a0.X, a0.Y, a0.Z⟩ : Vec) (⟨a0.X, a0.Y, a0.Z⟩ : Vec);
  .need ((spec_l01Sqrt_need x0)) (
  let x1 := spec_l01Sqrt x0;
  .leaf x1)
def spec_l01VLong (a0 : Vec) : Nat := (spec_l01VLong_tree a0).val
def spec_l01VLong_need (a0 : Vec) : Bool := (spec_l01VLong_tree a0).ok
def spec_l01VLong_mk (p : Nat) : Ret := ⟨.flt .f32 p, []⟩
def spec_l01VLong_c : Con := fun args => match args with
  | [.agg [.flt .f32 a0_0, .flt .f32 a0_1, .flt .f32 a0_2]] => some (.need (spec_l01VLong_need (⟨a0_0, a0_1, a0_2⟩ : Vec)) (.leaf (spec_l01VLong_mk (spec_l01VLong (⟨a0_0, a0_1, a0_2⟩ : Vec)))))
  | _ => none
set_option maxRecDepth 100000 in
theorem spec_l01VLong_ok : FunOK Try.prog 34 spec_l01VLong_c.fn := by
  refine con_ok (Γ := gam [(57, spec_l01VInner_c), (56, spec_l01Sqrt_c)]) (gam_cons spec_l01VInner_ok (gam_cons spec_l01Sqrt_ok (gam_nil))) tab_ok (by kernel_rfl) Try.func34 (by kernel_rfl) (by kernel_rfl) Try.ntmps34 Try.results34 (loopsOK_none rfl _) 100000 fun args t h => ?_
  unfold spec_l01VLong_c at h
  split at h
  · rename_i a0_0 a0_1 a0_2
    cases h
    exact ⟨rfl, agree_need (mk := spec_l01VLong_mk) (t := spec_l01VLong_tree (⟨a0_0, a0_1, a0_2⟩ : Vec)) (by unfold Agree; kernel_rfl)⟩
  · cases h

/-- loop.example/g01284/spec.SizeOfVector -/
def spec_SizeOfVector_tree (a0 : Vec) : DT (Nat) :=
  .need ((spec_l01VLong_need (⟨a0.X, a0.Y, a0.Z⟩ : Vec))) (
  let x0 := spec_l01VLong (⟨a0.X, a0.Y, a0.Z⟩ : Vec);
  .leaf x0)
def spec_SizeOfVector (a0 : Vec) : Nat := (spec_SizeOfVector_tree a0).val
def spec_SizeOfVector_need (a0 : Vec) : Bool := (spec_SizeOfVector_tree a0).ok
def spec_SizeOfVector_mk (p : Nat) : Ret := ⟨.flt .f32 p, []⟩
def spec_SizeOfVector_c : Con := fun args => match args with
  | [.agg [.flt .f32 a0_0, .flt .f32 a0_1, .flt .f32 a0_2]] => some (.need (spec_SizeOfVector_need (⟨a0_0, a0_1, a0_2⟩ : Vec)) (.leaf (spec_SizeOfVector_mk (spec_SizeOfVector (⟨a0_0, a0_1, a0_2⟩ : Vec)))))
  | _ => none
set_option maxRecDepth 100000 in
theorem spec_SizeOfVector_ok : FunOK Try.prog 17 spec_SizeOfVector_c.fn := by
  refine con_ok (Γ := gam [(34, spec_l01VLong_c)]) (gam_cons spec_l01VLong_ok (gam_nil)) tab_ok (by kernel_rfl) Try.func17 (by kernel_rfl) (by kernel_rfl) Try.ntmps17 Try.results17 (loopsOK_none rfl _) 100000 fun args t h => ?_
  unfold spec_SizeOfVector_c at h
  split at h
  · rename_i a0_0 a0_1 a0_2
    cases h
    exact ⟨rfl, agree_need (mk := spec_SizeOfVector_mk) (t := spec_SizeOfVector_tree (⟨a0_0, a0_1, a0_2⟩ : Vec)) (by unfold Agree; kernel_rfl)⟩
  · cases h

/-- (loop.example/g01284/impl.Orbit).normal -/
def impl_Orbit_normal_tree (a0 : Orbit) : DT (Nat × Nat × Nat) :=
  .need ((fconvOk .f32 a0.Tilt .f64)) (
  let x0 := fconv .f32 a0.Tilt .f64;
  let x1 := impl_sine x0;
  .need ((fconvOk .f32 a0.Tilt .f64)) (
  let x2 := fconv .f32 a0.Tilt .f64;
  let x3 := impl_cosine x2;
  .need ((fconvOk .f32 a0.Node .f64)) (
  let x4 := fconv .f32 a0.Node .f64;
  let x5 := impl_sine x4;
  let x6 := fmul .f64 x1 x5;
  .need ((fconvOk .f32 a0.Node .f64)) (
  let x7 := fconv .f32 a0.Node .f64;
  let x8 := impl_cosine x7;
  let x9 := fmul .f64 x1 x8;
  let x10 := fneg .f64 x9;
  .leaf (x6, x10, x3)))))
def impl_Orbit_normal (a0 : Orbit) : Nat × Nat × Nat := (impl_Orbit_normal_tree a0).val
def impl_Orbit_normal_need (a0 : Orbit) : Bool := (impl_Orbit_normal_tree a0).ok
def impl_Orbit_normal_mk (p : Nat × Nat × Nat) : Ret := ⟨.agg [.flt .f64 p.1, .flt .f64 p.2.1, .flt .f64 p.2.2], []⟩
def impl_Orbit_normal_c : Con := fun args => match args with
  | [.agg [.flt .f32 a0_0, .flt .f32 a0_1, .flt .f32 a0_2, .flt .f32 a0_3, .flt .f32 a0_4, .flt .f32 a0_5]] => some (.need (impl_Orbit_normal_need (⟨a0_0, a0_1, a0_2, a0_3, a0_4, a0_5⟩ : Orbit)) (.leaf (impl_Orbit_normal_mk (impl_Orbit_normal (⟨a0_0, a0_1, a0_2, a0_3, a0_4, a0_5⟩ : Orbit)))))
  | _ => none
set_option maxRecDepth 100000 in
theorem impl_Orbit_normal_ok : FunOK Try.prog 35 impl_Orbit_normal_c.fn := by
  refine con_ok (Γ := gam [(58, impl_sine_c), (59, impl_cosine_c)]) (gam_cons impl_sine_ok (gam_cons impl_cosine_ok (gam_nil))) tab_ok (by kernel_rfl) Try.func35 (by kernel_rfl) (by kernel_rfl) Try.ntmps35 Try.results35 (loopsOK_none rfl _) 100000 fun args t h => ?_
  unfold impl_Orbit_normal_c at h
  split at h
  · rename_i a0_0 a0_1 a0_2 a0_3 a0_4 a0_5
    cases h
    exact ⟨rfl, agree_need (mk := impl_Orbit_normal_mk) (t := impl_Orbit_normal_tree (⟨a0_0, a0_1, a0_2, a0_3, a0_4, a0_5⟩ : Orbit)) (by unfold Agree; kernel_rfl)⟩
  · cases h

/-- (loop.example/g01284/impl.wide).cross -/
def impl_wide_cross_tree (a0_0 : Nat) (a0_1 : Nat) (a0_2 : Nat) (a1_0 : Nat) (a1_1 : Nat) (a1_2 : Nat) : DT (Nat × Nat × Nat) :=
  .skip (
  .skip (
  let x0 := fmul .f64 a0_1 a1_2;
  .skip (
  .skip (
  let x1 := fmul .f64 a0_2 a1_1;
  let x2 := fsub .f64 x0 x1;
  .skip (
  .skip (
  let x3 := fmul .f64 a0_2 a1_0;
  .skip (
  .skip (
  let x4 := fmul .f64 a0_0 a1_2;
  let x5 := fsub .f64 x3 x4;
  .skip (
  .skip (
  let x6 := fmul .f64 a0_0 a1_1;
  .skip (
  .skip (
  let x7 := fmul .f64 a0_1 a1_0;
  let x8 := fsub .f64 x6 x7;
  .leaf (x2, x5, x8)))))))))))))
def impl_wide_cross (a0_0 : Nat) (a0_1 : Nat) (a0_2 : Nat) (a1_0 : Nat) (a1_1 : Nat) (a1_2 : Nat) : Nat × Nat × Nat := (impl_wide_cross_tree a0_0 a0_1 a0_2 a1_0 a1_1 a1_2).val
def impl_wide_cross_mk (p : Nat × Nat × Nat) : Ret := ⟨.agg [.flt .f64 p.1, .flt .f64 p.2.1, .flt .f64 p.2.2], []⟩
def impl_wide_cross_c : Con := fun args => match args with
  | [.agg [.flt .f64 a0_0, .flt .f64 a0_1, .flt .f64 a0_2], .agg [.flt .f64 a1_0, .flt .f64 a1_1, .flt .f64 a1_2]] => some (.leaf (impl_wide_cross_mk (impl_wide_cross a0_0 a0_1 a0_2 a1_0 a1_1 a1_2)))
  | _ => none
set_option maxRecDepth 100000 in
theorem impl_wide_cross_ok : FunOK Try.prog 37 impl_wide_cross_c.fn := by
  refine con_ok (Γ := gam []) (gam_nil) tab_ok (by kernel_rfl) Try.func37 (by kernel_rfl) (by kernel_rfl) Try.ntmps37 Try.results37 (loopsOK_none rfl _) 100000 fun args t h => ?_
  unfold impl_wide_cross_c at h
  split at h
  · rename_i a0_0 a0_1 a0_2 a1_0 a1_1 a1_2
    cases h
    exact ⟨rfl, agree_tot (mk := impl_wide_cross_mk) (t := impl_wide_cross_tree a0_0 a0_1 a0_2 a1_0 a1_1 a1_2) (by unfold Agree; kernel_rfl) (by kernel_rfl)⟩
  · cases h

/-- (loop.example/g01284/impl.wide).inner -/
def impl_wide_inner_tree (a0_0 : Nat) (a0_1 : Nat) (a0_2 : Nat) (a1_0 : Nat) (a1_1 : Nat) (a1_2 : Nat) : DT (Nat) :=
  .skip (
  .skip (
  let x0 := fmul .f64 a0_0 a1_0;
  .skip (
  .skip (
  let x1 := fmul .f64 a0_1 a1_1;
  let x2 := fadd .f64 x0 x1;
  .skip (
  .skip (
  let x3 := fmul .f64 a0_2 a1_2;
  let x4 := fadd .f64 x2 x3;
  .leaf x4))))))
def impl_wide_inner (a0_0 : Nat) (a0_1 : Nat) (a0_2 : Nat) (a1_0 : Nat) (a1_1 : Nat) (a1_2 : Nat) : Nat := (impl_wide_inner_tree a0_0 a0_1 a0_2 a1_0 a1_1 a1_2).val
def impl_wide_inner_mk (p : Nat) : Ret := ⟨.flt .f64 p, []⟩
def impl_wide_inner_c : Con := fun args => match args with
  | [.agg [.flt .f64 a0_0, .flt .f64 a0_1, .flt .f64 a0_2], .agg [.flt .f64 a1_0, .flt .f64 a1_1, .flt .f64 a1_2]] => some (.leaf (impl_wide_inner_mk (impl_wide_inner a0_0 a0_1 a0_2 a1_0 a1_1 a1_2)))
  | _ => none
set_option maxRecDepth 100000 in
theorem impl_wide_inner_ok : FunOK Try.prog 39 impl_wide_inner_c.fn := by
  refine con_ok (Γ := gam []) (gam_nil) tab_ok (by kernel_rfl) Try.func39 (by kernel_rfl) (by kernel_rfl) Try.ntmps39 Try.results39 (loopsOK_none rfl _) 100000 fun args t h => ?_
  unfold impl_wide_inner_c at h
  split at h
  · rename_i a0_0 a0_1 a0_2 a1_0 a1_1 a1_2
    cases h
    exact ⟨rfl, agree_tot (mk := impl_wide_inner_mk) (t := impl_wide_inner_tree a0_0 a0_1 a0_2 a1_0 a1_1 a1_2) (by unfold Agree; kernel_rfl) (by kernel_rfl)⟩
  · cases h

/-- (loop.example/g01284/impl.wide).length -/
def impl_wide_length_tree (a0_0 : Nat) (a0_1 : Nat) (a0_2 : Nat) : DT (Nat) :=
  let x0 := impl_wide_inner a0_0 a0_1 a0_2 a0_0 a0_1 a0_2;
  let x1 := math_Sqrt x0;
  .leaf x1
def impl_wide_length (a0_0 : Nat) (a0_1 : Nat) (a0_2 : Nat) : Nat := (impl_wide_length_tree a0_0 a0_1 a0_2).val
def impl_wide_length_mk (p : Nat) : Ret := ⟨.flt .f64 p, []⟩
def impl_wide_length_c : Con := fun args => match args with
  | [.agg [.flt .f64 a0_0, .flt .f64 a0_1, .flt .f64 a0_2]] => some (.leaf (impl_wide_length_mk (impl_wide_length a0_0 a0_1 a0_2)))
  | _ => none
set_option maxRecDepth 100000 in
theorem impl_wide_length_ok : FunOK Try.prog 38 impl_wide_length_c.fn := by
  refine con_ok (Γ := gam [(39, impl_wide_inner_c), (45, math_Sqrt_c)]) (gam_cons impl_wide_inner_ok (gam_cons math_Sqrt_ok (gam_nil))) tab_ok (by kernel_rfl) Try.func38 (by kernel_rfl) (by kernel_rfl) Try.ntmps38 Try.results38 (loopsOK_none rfl _) 100000 fun args t h => ?_
  unfold impl_wide_length_c at h
  split at h
  · rename_i a0_0 a0_1 a0_2
    cases h
    exact ⟨rfl, agree_tot (mk := impl_wide_length_mk) (t := impl_wide_length_tree a0_0 a0_1 a0_2) (by unfold Agree; kernel_rfl) (by kernel_rfl)⟩
  · cases h

/-- math.NaN -/
def math_NaN_tree  : DT (Nat) :=
  let x0 := canon .f64 (Int.toNat 9221120237041090561);
  .leaf x0
def math_NaN  : Nat := (math_NaN_tree ).val
def math_NaN_mk (p : Nat) : Ret := ⟨.flt .f64 p, []⟩
def math_NaN_c : Con := fun args => match args with
  | [] => some (.leaf (math_NaN_mk (math_NaN )))
  | _ => none
set_option maxRecDepth 100000 in
theorem math_NaN_ok : FunOK Try.prog 60 math_NaN_c.fn := by
  refine con_ok (Γ := gam [(66, math_Float64frombits_c)]) (gam_cons math_Float64frombits_ok (gam_nil)) tab_ok (by kernel_rfl) Try.func60 (by kernel_rfl) (by kernel_rfl) Try.ntmps60 Try.results60 (loopsOK_none rfl _) 100000 fun args t h => ?_
  unfold math_NaN_c at h
  split at h
  · cases h
    exact ⟨rfl, agree_tot (mk := math_NaN_mk) (t := math_NaN_tree ) (by unfold Agree; kernel_rfl) (by kernel_rfl)⟩
  · cases h

/-- loop.example/g01284/impl.angle -/
def impl_angle_tree (a0 : Nat) (a1 : Nat) : DT (Nat) :=
  let x0 := math_Abs a0;
  let x1 := math_Abs a1;
  let x2 := fdiv .f64 x0 x1;
  let x3 := fgt .f64 x0 x1;
  .ask x3
  (
   let x4 := fdiv .f64 x1 x0;
   .skip (
   let x5 := fmul .f64 x4 x4;
   let x6 := fadd .f64 4607182418800017408 x5;
   let x7 := math_Sqrt x6;
   let x8 := fadd .f64 4607182418800017408 x7;
   let x9 := fdiv .f64 x4 x8;
   .skip (
   let x10 := fmul .f64 x9 x9;
   let x11 := fadd .f64 4607182418800017408 x10;
   let x12 := math_Sqrt x11;
   let x13 := fadd .f64 4607182418800017408 x12;
   let x14 := fdiv .f64 x9 x13;
   .skip (
   let x15 := fmul .f64 x14 x14;
   let x16 := fadd .f64 4607182418800017408 x15;
   let x17 := math_Sqrt x16;
   let x18 := fadd .f64 4607182418800017408 x17;
   let x19 := fdiv .f64 x14 x18;
   .skip (
   let x20 := fmul .f64 x19 x19;
   .skip (
   let x21 := fofInt .f64 15;
   let x22 := fdiv .f64 4607182418800017408 x21;
   let x23 := fmul .f64 x20 0;
   let x24 := fsub .f64 x22 x23;
   .skip (
   let x25 := fofInt .f64 13;
   let x26 := fdiv .f64 4607182418800017408 x25;
   let x27 := fmul .f64 x20 x24;
   let x28 := fsub .f64 x26 x27;
   .skip (
   let x29 := fofInt .f64 11;
   let x30 := fdiv .f64 4607182418800017408 x29;
   let x31 := fmul .f64 x20 x28;
   let x32 := fsub .f64 x30 x31;
   .skip (
   let x33 := fofInt .f64 9;
   let x34 := fdiv .f64 4607182418800017408 x33;
   let x35 := fmul .f64 x20 x32;
   let x36 := fsub .f64 x34 x35;
   .skip (
   let x37 := fofInt .f64 7;
   let x38 := fdiv .f64 4607182418800017408 x37;
   let x39 := fmul .f64 x20 x36;
   let x40 := fsub .f64 x38 x39;
   .skip (
   let x41 := fofInt .f64 5;
   let x42 := fdiv .f64 4607182418800017408 x41;
   let x43 := fmul .f64 x20 x40;
   let x44 := fsub .f64 x42 x43;
   .skip (
   let x45 := fofInt .f64 3;
   let x46 := fdiv .f64 4607182418800017408 x45;
   let x47 := fmul .f64 x20 x44;
   let x48 := fsub .f64 x46 x47;
   .skip (
   let x49 := fofInt .f64 1;
   let x50 := fdiv .f64 4607182418800017408 x49;
   let x51 := fmul .f64 x20 x48;
   let x52 := fsub .f64 x50 x51;
   .skip (
   let x53 := fmul .f64 x19 x52;
   let x54 := fmul .f64 4620693217682128896 x53;
   let x55 := fdiv .f64 x54 4618760256179416344;
   let x56 := fgt .f64 x0 x1;
   .ask x56
   (
    let x57 := fsub .f64 4598175219545276416 x55;
    let x58 := flt .f64 a1 0;
    .ask x58
    (
     let x59 := fsub .f64 4602678819172646912 x57;
     let x60 := flt .f64 a0 0;
     .ask x60
     (
      let x61 := fneg .f64 x59;
      .leaf x61)
     (
      .leaf x59))
    (
     let x59 := flt .f64 a0 0;
     .ask x59
     (
      let x60 := fneg .f64 x57;
      .leaf x60)
     (
      .leaf x57)))
   (
    let x57 := flt .f64 a1 0;
    .ask x57
    (
     let x58 := fsub .f64 4602678819172646912 x55;
     let x59 := flt .f64 a0 0;
     .ask x59
     (
      let x60 := fneg .f64 x58;
      .leaf x60)
     (
      .leaf x58))
    (
     let x58 := flt .f64 a0 0;
     .ask x58
     (
      let x59 := fneg .f64 x55;
      .leaf x59)
     (
      .leaf x55)))))))))))))))))
  (
   .skip (
   let x4 := fmul .f64 x2 x2;
   let x5 := fadd .f64 4607182418800017408 x4;
   let x6 := math_Sqrt x5;
   let x7 := fadd .f64 4607182418800017408 x6;
   let x8 := fdiv .f64 x2 x7;
   .skip (
   let x9 := fmul .f64 x8 x8;
   let x10 := fadd .f64 4607182418800017408 x9;
   let x11 := math_Sqrt x10;
   let x12 := fadd .f64 4607182418800017408 x11;
   let x13 := fdiv .f64 x8 x12;
   .skip (
   let x14 := fmul .f64 x13 x13;
   let x15 := fadd .f64 4607182418800017408 x14;
   let x16 := math_Sqrt x15;
   let x17 := fadd .f64 4607182418800017408 x16;
   let x18 := fdiv .f64 x13 x17;
   .skip (
   let x19 := fmul .f64 x18 x18;
   .skip (
   let x20 := fofInt .f64 15;
   let x21 := fdiv .f64 4607182418800017408 x20;
   let x22 := fmul .f64 x19 0;
   let x23 := fsub .f64 x21 x22;
   .skip (
   let x24 := fofInt .f64 13;
   let x25 := fdiv .f64 4607182418800017408 x24;
   let x26 := fmul .f64 x19 x23;
   let x27 := fsub .f64 x25 x26;
   .skip (
   let x28 := fofInt .f64 11;
   let x29 := fdiv .f64 4607182418800017408 x28;
   let x30 := fmul .f64 x19 x27;
   let x31 := fsub .f64 x29 x30;
   .skip (
   let x32 := fofInt .f64 9;
   let x33 := fdiv .f64 4607182418800017408 x32;
   let x34 := fmul .f64 x19 x31;
   let x35 := fsub .f64 x33 x34;
   .skip (
   let x36 := fofInt .f64 7;
   let x37 := fdiv .f64 4607182418800017408 x36;
   let x38 := fmul .f64 x19 x35;
   let x39 := fsub .f64 x37 x38;
   .skip (
   let x40 := fofInt .f64 5;
   let x41 := fdiv .f64 4607182418800017408 x40;
   let x42 := fmul .f64 x19 x39;
   let x43 := fsub .f64 x41 x42;
   .skip (
   let x44 := fofInt .f64 3;
   let x45 := fdiv .f64 4607182418800017408 x44;
   let x46 := fmul .f64 x19 x43;
   let x47 := fsub .f64 x45 x46;
   .skip (
   let x48 := fofInt .f64 1;
   let x49 := fdiv .f64 4607182418800017408 x48;
   let x50 := fmul .f64 x19 x47;
   let x51 := fsub .f64 x49 x50;
   .skip (
   let x52 := fmul .f64 x18 x51;
   let x53 := fmul .f64 4620693217682128896 x52;
   let x54 := fdiv .f64 x53 4618760256179416344;
   let x55 := fgt .f64 x0 x1;
   .ask x55
   (
    let x56 := fsub .f64 4598175219545276416 x54;
    let x57 := flt .f64 a1 0;
    .ask x57
    (
     let x58 := fsub .f64 4602678819172646912 x56;
     let x59 := flt .f64 a0 0;
     .ask x59
     (
      let x60 := fneg .f64 x58;
      .leaf x60)
     (
      .leaf x58))
    (
     let x58 := flt .f64 a0 0;
     .ask x58
     (
      let x59 := fneg .f64 x56;
      .leaf x59)
     (
      .leaf x56)))
   (
    let x56 := flt .f64 a1 0;
    .ask x56
    (
     let x57 := fsub .f64 4602678819172646912 x54;
     let x58 := flt .f64 a0 0;
     .ask x58
     (
      let x59 := fneg .f64 x57;
      .leaf x59)
     (
      .leaf x57))
    (
     let x57 := flt .f64 a0 0;
     .ask x57
     (
      let x58 := fneg .f64 x54;
      .leaf x58)
     (
      .leaf x54)))))))))))))))))
def impl_angle (a0 : Nat) (a1 : Nat) : Nat := (impl_angle_tree a0 a1).val
def impl_angle_mk (p : Nat) : Ret := ⟨.flt .f64 p, []⟩
def impl_angle_c : Con := fun args => match args with
  | [.flt .f64 a0, .flt .f64 a1] => some (.leaf (impl_angle_mk (impl_angle a0 a1)))
  | _ => none
set_option maxRecDepth 100000 in
theorem impl_angle_ok : FunOK Try.prog 61 impl_angle_c.fn := by
  refine con_ok (Γ := gam [(44, math_Abs_c), (45, math_Sqrt_c)]) (gam_cons math_Abs_ok (gam_cons math_Sqrt_ok (gam_nil))) tab_ok (by kernel_rfl) Try.func61 (by kernel_rfl) (by kernel_rfl) Try.ntmps61 Try.results61 (loopsOK_none rfl _) 100000 fun args t h => ?_
  unfold impl_angle_c at h
  split at h
  · rename_i a0 a1
    cases h
    exact ⟨rfl, agree_tot (mk := impl_angle_mk) (t := impl_angle_tree a0 a1) (by unfold Agree; kernel_rfl) (by kernel_rfl)⟩
  · cases h

/-- loop.example/g01284/impl.angleOf -/
def impl_angleOf_tree (a0 : Nat) (a1 : Nat) : DT (Nat) :=
  let x0 := impl_finite a0;
  .ask (!x0)
  (
   let x1 := math_NaN ;
   .leaf x1)
  (
   let x1 := impl_finite a1;
   .ask (!x1)
   (
    let x2 := math_NaN ;
    .leaf x2)
   (
    let x2 := feq .f64 a0 0;
    .ask x2
    (
     let x3 := feq .f64 a1 0;
     .ask x3
     (
      .leaf 0)
     (
      let x4 := impl_angle a0 a1;
      .leaf x4))
    (
     let x3 := impl_angle a0 a1;
     .leaf x3)))
def impl_angleOf (a0 : Nat) (a1 : Nat) : Nat := (impl_angleOf_tree a0 a1).val
def impl_angleOf_mk (p : Nat) : Ret := ⟨.flt .f64 p, []⟩
def impl_angleOf_c : Con := fun args => match args with
  | [.flt .f64 a0, .flt .f64 a1] => some (.leaf (impl_angleOf_mk (impl_angleOf a0 a1)))
  | _ => none
set_option maxRecDepth 100000 in
theorem impl_angleOf_ok : FunOK Try.prog 36 impl_angleOf_c.fn := by
  refine con_ok (Γ := gam [(46, impl_finite_c), (60, math_NaN_c), (61, impl_angle_c)]) (gam_cons impl_finite_ok (gam_cons math_NaN_ok (gam_cons impl_angle_ok (gam_nil)))) tab_ok (by kernel_rfl) Try.func36 (by kernel_rfl) (by kernel_rfl) Try.ntmps36 Try.results36 (loopsOK_none rfl _) 100000 fun args t h => ?_
  unfold impl_angleOf_c at h
  split at h
  · rename_i a0 a1
    cases h
    exact ⟨rfl, agree_tot (mk := impl_angleOf_mk) (t := impl_angleOf_tree a0 a1) (by unfold Agree; kernel_rfl) (by kernel_rfl)⟩
  · cases h

/-- loop.example/g01284/impl.TiltBetween -/
def impl_TiltBetween_tree (a0 : Orbit) (a1 : Orbit) : DT (Nat × Bool) :=
  .need ((impl_ValidOrbit_need (⟨a0.Long, a0.Round, a0.Tilt, a0.Node, a0.Peri, a0.Phase⟩ : Orbit))) (
  let x0 := impl_ValidOrbit (⟨a0.Long, a0.Round, a0.Tilt, a0.Node, a0.Peri, a0.Phase⟩ : Orbit);
  .ask (!x0)
  (
   .leaf (0, false))
  (
   .need ((impl_ValidOrbit_need (⟨a1.Long, a1.Round, a1.Tilt, a1.Node, a1.Peri, a1.Phase⟩ : Orbit))) (
   let x1 := impl_ValidOrbit (⟨a1.Long, a1.Round, a1.Tilt, a1.Node, a1.Peri, a1.Phase⟩ : Orbit);
   .ask (!x1)
   (
    .leaf (0, false))
   (
    .need ((impl_Orbit_normal_need (⟨a0.Long, a0.Round, a0.Tilt, a0.Node, a0.Peri, a0.Phase⟩ : Orbit))) (
    let x2 := impl_Orbit_normal (⟨a0.Long, a0.Round, a0.Tilt, a0.Node, a0.Peri, a0.Phase⟩ : Orbit);
    .need ((impl_Orbit_normal_need (⟨a1.Long, a1.Round, a1.Tilt, a1.Node, a1.Peri, a1.Phase⟩ : Orbit))) (
    let x3 := impl_Orbit_normal (⟨a1.Long, a1.Round, a1.Tilt, a1.Node, a1.Peri, a1.Phase⟩ : Orbit);
    let x4 := impl_wide_cross x2.1 x2.2.1 x2.2.2 x3.1 x3.2.1 x3.2.2;
    let x5 := impl_wide_length x4.1 x4.2.1 x4.2.2;
    let x6 := impl_wide_inner x2.1 x2.2.1 x2.2.2 x3.1 x3.2.1 x3.2.2;
    let x7 := impl_angleOf x5 x6;
    .need ((impl_narrowed_need x7)) (
    let x8 := impl_narrowed x7;
    .leaf (x8.1, x8.2))))))))
def impl_TiltBetween (a0 : Orbit) (a1 : Orbit) : Nat × Bool := (impl_TiltBetween_tree a0 a1).val
def impl_TiltBetween_need (a0 : Orbit) (a1 : Orbit) : Bool := (impl_TiltBetween_tree a0 a1).ok
def impl_TiltBetween_mk (p : Nat × Bool) : Ret := ⟨.tup [.flt .f32 p.1, .bool p.2], []⟩
def impl_TiltBetween_c : Con := fun args => match args with
  | [.agg [.flt .f32 a0_0, .flt .f32 a0_1, .flt .f32 a0_2, .flt .f32 a0_3, .flt .f32 a0_4, .flt .f32 a0_5], .agg [.flt .f32 a1_0, .flt .f32 a1_1, .flt .f32 a1_2, .flt .f32 a1_3, .flt .f32 a1_4, .flt .f32 a1_5]] => some (.need (impl_TiltBetween_need (⟨a0_0, a0_1, a0_2, a0_3, a0_4, a0_5⟩ : Orbit) (⟨a1_0, a1_1, a1_2, a1_3, a1_4, a1_5⟩ : Orbit)) (.leaf (impl_TiltBetween_mk (impl_TiltBetween (⟨a0_0, a0_1, a0_2, a0_3, a0_4, a0_5⟩ : Orbit) (⟨a1_0, a1_1, a1_2, a1_3, a1_4, a1_5⟩ : Orbit)))))
  | _ => none
set_option maxRecDepth 100000 in
theorem impl_TiltBetween_ok : FunOK Try.prog 18 impl_TiltBetween_c.fn := by
  refine con_ok (Γ := gam [(29, impl_ValidOrbit_c), (35, impl_Orbit_normal_c), (37, impl_wide_cross_c), (38, impl_wide_length_c), (39, impl_wide_inner_c), (36, impl_angleOf_c), (23, impl_narrowed_c)]) (gam_cons impl_ValidOrbit_ok (gam_cons impl_Orbit_normal_ok (gam_cons impl_wide_cross_ok (gam_cons impl_wide_length_ok (gam_cons impl_wide_inner_ok (gam_cons impl_angleOf_ok (gam_cons impl_narrowed_ok (gam_nil)))))))) tab_ok (by kernel_rfl) Try.func18 (by kernel_rfl) (by kernel_rfl) Try.ntmps18 Try.results18 (loopsOK_none rfl _) 100000 fun args t h => ?_
  unfold impl_TiltBetween_c at h
  split at h
  · rename_i a0_0 a0_1 a0_2 a0_3 a0_4 a0_5 a1_0 a1_1 a1_2 a1_3 a1_4 a1_5
    cases h
    exact ⟨rfl, agree_need (mk := impl_TiltBetween_mk) (t := impl_TiltBetween_tree (⟨a0_0, a0_1, a0_2, a0_3, a0_4, a0_5⟩ : Orbit) (⟨a1_0, a1_1, a1_2, a1_3, a1_4, a1_5⟩ : Orbit)) (by unfold Agree; kernel_rfl)⟩
  · cases h

/-- loop.example/g01284/impl.TrueTurn -/
def impl_TrueTurn_tree (a0 : Orbit) : DT (Nat × Bool) :=
  .need ((impl_ValidOrbit_need (⟨a0.Long, a0.Round, a0.Tilt, a0.Node, a0.Peri, a0.Phase⟩ : Orbit))) (
  let x0 := impl_ValidOrbit (⟨a0.Long, a0.Round, a0.Tilt, a0.Node, a0.Peri, a0.Phase⟩ : Orbit);
  .ask (!x0)
  (
   .leaf (0, false))
  (
   .need ((impl_Orbit_plane_need (⟨a0.Long, a0.Round, a0.Tilt, a0.Node, a0.Peri, a0.Phase⟩ : Orbit) 4607182418800017408)) (
   let x1 := impl_Orbit_plane (⟨a0.Long, a0.Round, a0.Tilt, a0.Node, a0.Peri, a0.Phase⟩ : Orbit) 4607182418800017408;
   let x2 := impl_angleOf x1.2.1 x1.1;
   .need ((impl_narrowed_need x2)) (
   let x3 := impl_narrowed x2;
   .leaf (x3.1, x3.2)))))
def impl_TrueTurn (a0 : Orbit) : Nat × Bool := (impl_TrueTurn_tree a0).val
def impl_TrueTurn_need (a0 : Orbit) : Bool := (impl_TrueTurn_tree a0).ok
def impl_TrueTurn_mk (p : Nat × Bool) : Ret := ⟨.tup [.flt .f32 p.1, .bool p.2], []⟩
def impl_TrueTurn_c : Con := fun args => match args with
  | [.agg [.flt .f32 a0_0, .flt .f32 a0_1, .flt .f32 a0_2, .flt .f32 a0_3, .flt .f32 a0_4, .flt .f32 a0_5]] => some (.need (impl_TrueTurn_need (⟨a0_0, a0_1, a0_2, a0_3, a0_4, a0_5⟩ : Orbit)) (.leaf (impl_TrueTurn_mk (impl_TrueTurn (⟨a0_0, a0_1, a0_2, a0_3, a0_4, a0_5⟩ : Orbit)))))
  | _ => none
set_option maxRecDepth 100000 in
theorem impl_TrueTurn_ok : FunOK Try.prog 19 impl_TrueTurn_c.fn := by
  refine con_ok (Γ := gam [(29, impl_ValidOrbit_c), (40, impl_Orbit_plane_c), (36, impl_angleOf_c), (23, impl_narrowed_c)]) (gam_cons impl_ValidOrbit_ok (gam_cons impl_Orbit_plane_ok (gam_cons impl_angleOf_ok (gam_cons impl_narrowed_ok (gam_nil))))) tab_ok (by kernel_rfl) Try.func19 (by kernel_rfl) (by kernel_rfl) Try.ntmps19 Try.results19 (loopsOK_none rfl _) 100000 fun args t h => ?_
  unfold impl_TrueTurn_c at h
  split at h
  · rename_i a0_0 a0_1 a0_2 a0_3 a0_4 a0_5
    cases h
    exact ⟨rfl, agree_need (mk := impl_TrueTurn_mk) (t := impl_TrueTurn_tree (⟨a0_0, a0_1, a0_2, a0_3, a0_4, a0_5⟩ : Orbit)) (by unfold Agree; kernel_rfl)⟩
  · cases h

end
end Go.Proofs.Ytomdjbkididieaa
