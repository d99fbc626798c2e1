/- THE WALK, BY A PROGRAM: typed functions, and that the code is they. -/
import Derived.Test.YtodhhjcgjkfmpaaG1
namespace Go.Proofs.Ytodhhjcgjkfmpaa
set_option linter.unusedVariables false
set_option linter.unusedSimpArgs false
open Go.Extern
noncomputable section

set_option maxRecDepth 100000 in
theorem math_archFloor_ok : FunOK Try.prog 228 math_archFloor_c.fn := floor_ok (run_callFunc_extern Try.func228 (by kernel_rfl) (by kernel_rfl) (by kernel_rfl) (by kernel_rfl))

/-- loop.example/g01284/laws.toBall -/
def laws_toBall_tree (a0 : Ball) : DT (Ball) :=
  .leaf ((⟨a0.Mass, a0.Radius, a0.Spin, a0.Start⟩ : Ball))
def laws_toBall (a0 : Ball) : Ball := (laws_toBall_tree a0).val
def laws_toBall_mk (p : Ball) : Ret := ⟨.agg [.flt .f32 p.Mass, .flt .f32 p.Radius, .flt .f32 p.Spin, .flt .f32 p.Start], []⟩
def laws_toBall_c : Con := fun args => match args with
  | [.agg [.flt .f32 a0_0, .flt .f32 a0_1, .flt .f32 a0_2, .flt .f32 a0_3]] => some (.leaf (laws_toBall_mk (laws_toBall (⟨a0_0, a0_1, a0_2, a0_3⟩ : Ball))))
  | _ => none
set_option maxRecDepth 100000 in
theorem laws_toBall_ok : FunOK Try.prog 25 laws_toBall_c.fn := by
  refine con_ok (Γ := gam []) (gam_nil) tab_ok (by kernel_rfl) Try.func25 (by kernel_rfl) (by kernel_rfl) Try.ntmps25 Try.results25 (loopsOK_none rfl _) 100000 fun args t h => ?_
  unfold laws_toBall_c at h
  split at h
  · rename_i a0_0 a0_1 a0_2 a0_3
    cases h
    exact ⟨rfl, agree_tot (mk := laws_toBall_mk) (t := laws_toBall_tree (⟨a0_0, a0_1, a0_2, a0_3⟩ : Ball)) (by unfold Agree; kernel_rfl) (by kernel_rfl)⟩
  · cases h

/-- loop.example/g01284/laws.toVector -/
def laws_toVector_tree (a0 : Vec) : DT (Vec) :=
  .leaf ((⟨a0.X, a0.Y, a0.Z⟩ : Vec))
def laws_toVector (a0 : Vec) : Vec := (laws_toVector_tree a0).val
def laws_toVector_mk (p : Vec) : Ret := ⟨.agg [.flt .f32 p.X, .flt .f32 p.Y, .flt .f32 p.Z], []⟩
def laws_toVector_c : Con := fun args => match args with
  | [.agg [.flt .f32 a0_0, .flt .f32 a0_1, .flt .f32 a0_2]] => some (.leaf (laws_toVector_mk (laws_toVector (⟨a0_0, a0_1, a0_2⟩ : Vec))))
  | _ => none
set_option maxRecDepth 100000 in
theorem laws_toVector_ok : FunOK Try.prog 26 laws_toVector_c.fn := by
  refine con_ok (Γ := gam []) (gam_nil) tab_ok (by kernel_rfl) Try.func26 (by kernel_rfl) (by kernel_rfl) Try.ntmps26 Try.results26 (loopsOK_none rfl _) 100000 fun args t h => ?_
  unfold laws_toVector_c at h
  split at h
  · rename_i a0_0 a0_1 a0_2
    cases h
    exact ⟨rfl, agree_tot (mk := laws_toVector_mk) (t := laws_toVector_tree (⟨a0_0, a0_1, a0_2⟩ : Vec)) (by unfold Agree; kernel_rfl) (by kernel_rfl)⟩
  · cases h

/-- loop.example/g01284/spec.l06Ball -/
def spec_l06Ball_tree (a0 : Ball) : DT (Bool) :=
  let x0 := spec_l02Above a0.Mass;
  .ask x0
  (
   let x1 := spec_l02Above a0.Radius;
   .ask x1
   (
    let x2 := spec_l01Finite a0.Spin;
    .ask x2
    (
     let x3 := spec_l01Finite a0.Start;
     .leaf x3)
    (
     .leaf false))
   (
    .leaf false))
  (
   .leaf false)
def spec_l06Ball (a0 : Ball) : Bool := (spec_l06Ball_tree a0).val
def spec_l06Ball_mk (p : Bool) : Ret := ⟨.bool p, []⟩
def spec_l06Ball_c0 : Con := fun args => match args with
  | [.vcell [.flt .f32 a0_0, .flt .f32 a0_1, .flt .f32 a0_2, .flt .f32 a0_3] 0] => some (.leaf (spec_l06Ball_mk (spec_l06Ball (⟨a0_0, a0_1, a0_2, a0_3⟩ : Ball))))
  | _ => none
set_option maxRecDepth 100000 in
theorem spec_l06Ball_ok0 : FunOK Try.prog 86 spec_l06Ball_c0.fn := by
  refine con_ok (Γ := gam [(100, spec_l02Above_c), (88, spec_l01Finite_c)]) (gam_cons spec_l02Above_ok (gam_cons spec_l01Finite_ok (gam_nil))) tab_ok (by kernel_rfl) Try.func86 (by kernel_rfl) (by kernel_rfl) Try.ntmps86 Try.results86 (loopsOK_none rfl _) 100000 fun args t h => ?_
  unfold spec_l06Ball_c0 at h
  split at h
  · rename_i a0_0 a0_1 a0_2 a0_3
    cases h
    exact ⟨rfl, agree_tot (mk := spec_l06Ball_mk) (t := spec_l06Ball_tree (⟨a0_0, a0_1, a0_2, a0_3⟩ : Ball)) (by unfold Agree; kernel_rfl) (by kernel_rfl)⟩
  · cases h
def spec_l06Ball_c : Con := fun args => spec_l06Ball_c0 (norms 0 [.ptr 4] args)
set_option maxRecDepth 100000 in
theorem spec_l06Ball_ok : FunOK Try.prog 86 spec_l06Ball_c.fn := con_norm [.ptr 4] spec_l06Ball_ok0

/-- loop.example/g01284/spec.l01Angle -/
def spec_l01Angle_tree (a0 : Nat) (a1 : Nat) : DT (Nat) :=
  .need ((fconvOk .f32 a0 .f64)) (
  let x0 := fconv .f32 a0 .f64;
  .need ((fconvOk .f32 a1 .f64)) (
  let x1 := fconv .f32 a1 .f64;
  let x2 := spec_l01AngleWide x0 x1;
  .need ((spec_l01Narrow_need x2)) (
  let x3 := spec_l01Narrow x2;
  .leaf x3)))
def spec_l01Angle (a0 : Nat) (a1 : Nat) : Nat := (spec_l01Angle_tree a0 a1).val
def spec_l01Angle_need (a0 : Nat) (a1 : Nat) : Bool := (spec_l01Angle_tree a0 a1).ok
def spec_l01Angle_mk (p : Nat) : Ret := ⟨.flt .f32 p, []⟩
def spec_l01Angle_c : Con := fun args => match args with
  | [.flt .f32 a0, .flt .f32 a1] => some (.need (spec_l01Angle_need a0 a1) (.leaf (spec_l01Angle_mk (spec_l01Angle a0 a1))))
  | _ => none
set_option maxRecDepth 100000 in
theorem spec_l01Angle_ok : FunOK Try.prog 168 spec_l01Angle_c.fn := by
  refine con_ok (Γ := gam [(75, spec_l01AngleWide_c), (156, spec_l01Narrow_c)]) (gam_cons spec_l01AngleWide_ok (gam_cons spec_l01Narrow_ok (gam_nil))) tab_ok (by kernel_rfl) Try.func168 (by kernel_rfl) (by kernel_rfl) Try.ntmps168 Try.results168 (loopsOK_none rfl _) 100000 fun args t h => ?_
  unfold spec_l01Angle_c at h
  split at h
  · rename_i a0 a1
    cases h
    exact ⟨rfl, agree_need (mk := spec_l01Angle_mk) (t := spec_l01Angle_tree a0 a1) (by unfold Agree; kernel_rfl)⟩
  · cases h

/-- loop.example/g01284/spec.l06Face -/
def spec_l06Face_tree (a0 : Ball) (a1 : Nat) : DT (Nat) :=
  let x0 := fmul .f32 a0.Spin a1;
  let x1 := fadd .f32 a0.Start x0;
  .leaf x1
def spec_l06Face (a0 : Ball) (a1 : Nat) : Nat := (spec_l06Face_tree a0 a1).val
def spec_l06Face_mk (p : Nat) : Ret := ⟨.flt .f32 p, []⟩
def spec_l06Face_c0 : Con := fun args => match args with
  | [.vcell [.flt .f32 a0_0, .flt .f32 a0_1, .flt .f32 a0_2, .flt .f32 a0_3] 0, .flt .f32 a1] => some (.leaf (spec_l06Face_mk (spec_l06Face (⟨a0_0, a0_1, a0_2, a0_3⟩ : Ball) a1)))
  | _ => none
set_option maxRecDepth 100000 in
theorem spec_l06Face_ok0 : FunOK Try.prog 169 spec_l06Face_c0.fn := by
  refine con_ok (Γ := gam []) (gam_nil) tab_ok (by kernel_rfl) Try.func169 (by kernel_rfl) (by kernel_rfl) Try.ntmps169 Try.results169 (loopsOK_none rfl _) 100000 fun args t h => ?_
  unfold spec_l06Face_c0 at h
  split at h
  · rename_i a0_0 a0_1 a0_2 a0_3 a1
    cases h
    exact ⟨rfl, agree_tot (mk := spec_l06Face_mk) (t := spec_l06Face_tree (⟨a0_0, a0_1, a0_2, a0_3⟩ : Ball) a1) (by unfold Agree; kernel_rfl) (by kernel_rfl)⟩
  · cases h
def spec_l06Face_c : Con := fun args => spec_l06Face_c0 (norms 0 [.ptr 4, .none] args)
set_option maxRecDepth 100000 in
theorem spec_l06Face_ok : FunOK Try.prog 169 spec_l06Face_c.fn := con_norm [.ptr 4, .none] spec_l06Face_ok0

-- FAILED 237 math.Modf: no contract: math.Copysign 

-- FAILED 229 math.floor: no contract: math.Modf 

/-- math.Floor -/
def math_Floor_tree (a0 : Nat) : DT (Nat) :=
  let x0 := ffloor a0;
  .leaf x0
def math_Floor (a0 : Nat) : Nat := (math_Floor_tree a0).val
def math_Floor_mk (p : Nat) : Ret := ⟨.flt .f64 p, []⟩
def math_Floor_c : Con := fun args => match args with
  | [.flt .f64 a0] => some (.leaf (math_Floor_mk (math_Floor a0)))
  | _ => none
set_option maxRecDepth 100000 in
theorem math_Floor_ok : FunOK Try.prog 214 math_Floor_c.fn := by
  refine con_ok (Γ := gam [(228, math_archFloor_c)]) (gam_cons math_archFloor_ok (gam_nil)) tab_ok (by kernel_rfl) Try.func214 (by kernel_rfl) (by kernel_rfl) Try.ntmps214 Try.results214 (loopsOK_none rfl _) 100000 fun args t h => ?_
  unfold math_Floor_c at h
  split at h
  · rename_i a0
    cases h
    exact ⟨rfl, agree_tot (mk := math_Floor_mk) (t := math_Floor_tree a0) (by unfold Agree; kernel_rfl) (by kernel_rfl)⟩
  · cases h

/-- loop.example/g01284/spec.l06Floor -/
def spec_l06Floor_tree (a0 : Nat) : DT (Nat) :=
  .need ((fconvOk .f32 a0 .f64)) (
  let x0 := fconv .f32 a0 .f64;
  let x1 := math_Floor x0;
  .need ((fconvOk .f64 x1 .f32)) (
  let x2 := fconv .f64 x1 .f32;
  .leaf x2))
def spec_l06Floor (a0 : Nat) : Nat := (spec_l06Floor_tree a0).val
def spec_l06Floor_need (a0 : Nat) : Bool := (spec_l06Floor_tree a0).ok
def spec_l06Floor_mk (p : Nat) : Ret := ⟨.flt .f32 p, []⟩
def spec_l06Floor_c : Con := fun args => match args with
  | [.flt .f32 a0] => some (.need (spec_l06Floor_need a0) (.leaf (spec_l06Floor_mk (spec_l06Floor a0))))
  | _ => none
set_option maxRecDepth 100000 in
theorem spec_l06Floor_ok : FunOK Try.prog 212 spec_l06Floor_c.fn := by
  refine con_ok (Γ := gam [(214, math_Floor_c)]) (gam_cons math_Floor_ok (gam_nil)) tab_ok (by kernel_rfl) Try.func212 (by kernel_rfl) (by kernel_rfl) Try.ntmps212 Try.results212 (loopsOK_none rfl _) 100000 fun args t h => ?_
  unfold spec_l06Floor_c at h
  split at h
  · rename_i a0
    cases h
    exact ⟨rfl, agree_need (mk := spec_l06Floor_mk) (t := spec_l06Floor_tree a0) (by unfold Agree; kernel_rfl)⟩
  · cases h

/-- loop.example/g01284/spec.l06Wrap -/
def spec_l06Wrap_tree (a0 : Nat) : DT (Nat) :=
  let x0 := fadd .f32 a0 1056964608;
  .need ((spec_l06Floor_need x0)) (
  let x1 := spec_l06Floor x0;
  let x2 := fsub .f32 a0 x1;
  let x3 := flt .f32 x2 3204448256;
  .ask x3
  (
   let x4 := fadd .f32 x2 1065353216;
   let x5 := flt .f32 x4 1056964608;
   .ask (!x5)
   (
    .leaf 3204448256)
   (
    .leaf x4))
  (
   let x4 := flt .f32 x2 1056964608;
   .ask (!x4)
   (
    .leaf 3204448256)
   (
    .leaf x2)))
def spec_l06Wrap (a0 : Nat) : Nat := (spec_l06Wrap_tree a0).val
def spec_l06Wrap_need (a0 : Nat) : Bool := (spec_l06Wrap_tree a0).ok
def spec_l06Wrap_mk (p : Nat) : Ret := ⟨.flt .f32 p, []⟩
def spec_l06Wrap_c : Con := fun args => match args with
  | [.flt .f32 a0] => some (.need (spec_l06Wrap_need a0) (.leaf (spec_l06Wrap_mk (spec_l06Wrap a0))))
  | _ => none
set_option maxRecDepth 100000 in
theorem spec_l06Wrap_ok : FunOK Try.prog 170 spec_l06Wrap_c.fn := by
  refine con_ok (Γ := gam [(212, spec_l06Floor_c)]) (gam_cons spec_l06Floor_ok (gam_nil)) tab_ok (by kernel_rfl) Try.func170 (by kernel_rfl) (by kernel_rfl) Try.ntmps170 Try.results170 (loopsOK_none rfl _) 100000 fun args t h => ?_
  unfold spec_l06Wrap_c at h
  split at h
  · rename_i a0
    cases h
    exact ⟨rfl, agree_need (mk := spec_l06Wrap_mk) (t := spec_l06Wrap_tree a0) (by unfold Agree; kernel_rfl)⟩
  · cases h

/-- loop.example/g01284/spec.l01VInner -/
def spec_l01VInner_tree (a0 : Vec) (a1 : Vec) : DT (Nat) :=
  let x0 := fmul .f32 a0.X a1.X;
  let x1 := fmul .f32 a0.Y a1.Y;
  let x2 := fadd .f32 x0 x1;
  let x3 := fmul .f32 a0.Z a1.Z;
  let x4 := fadd .f32 x2 x3;
  .leaf x4
def spec_l01VInner (a0 : Vec) (a1 : Vec) : Nat := (spec_l01VInner_tree a0 a1).val
def spec_l01VInner_mk (p : Nat) : Ret := ⟨.flt .f32 p, []⟩
def spec_l01VInner_c : Con := fun args => match args with
  | [.agg [.flt .f32 a0_0, .flt .f32 a0_1, .flt .f32 a0_2], .agg [.flt .f32 a1_0, .flt .f32 a1_1, .flt .f32 a1_2]] => some (.leaf (spec_l01VInner_mk (spec_l01VInner (⟨a0_0, a0_1, a0_2⟩ : Vec) (⟨a1_0, a1_1, a1_2⟩ : Vec))))
  | _ => none
set_option maxRecDepth 100000 in
theorem spec_l01VInner_ok : FunOK Try.prog 213 spec_l01VInner_c.fn := by
  refine con_ok (Γ := gam []) (gam_nil) tab_ok (by kernel_rfl) Try.func213 (by kernel_rfl) (by kernel_rfl) Try.ntmps213 Try.results213 (loopsOK_none rfl _) 100000 fun args t h => ?_
  unfold spec_l01VInner_c at h
  split at h
  · rename_i a0_0 a0_1 a0_2 a1_0 a1_1 a1_2
    cases h
    exact ⟨rfl, agree_tot (mk := spec_l01VInner_mk) (t := spec_l01VInner_tree (⟨a0_0, a0_1, a0_2⟩ : Vec) (⟨a1_0, a1_1, a1_2⟩ : Vec)) (by unfold Agree; kernel_rfl) (by kernel_rfl)⟩
  · cases h

/-- loop.example/g01284/spec.l01VLong -/
def spec_l01VLong_tree (a0 : Vec) : DT (Nat) :=
  let x0 := spec_l01VInner (⟨a0.X, a0.Y, a0.Z⟩ : Vec) (⟨a0.X, a0.Y, a0.Z⟩ : Vec);
  .need ((spec_l01Sqrt_need x0)) (
  let x1 := spec_l01Sqrt x0;
  .leaf x1)
def spec_l01VLong (a0 : Vec) : Nat := (spec_l01VLong_tree a0).val
def spec_l01VLong_need (a0 : Vec) : Bool := (spec_l01VLong_tree a0).ok
def spec_l01VLong_mk (p : Nat) : Ret := ⟨.flt .f32 p, []⟩
def spec_l01VLong_c : Con := fun args => match args with
  | [.agg [.flt .f32 a0_0, .flt .f32 a0_1, .flt .f32 a0_2]] => some (.need (spec_l01VLong_need (⟨a0_0, a0_1, a0_2⟩ : Vec)) (.leaf (spec_l01VLong_mk (spec_l01VLong (⟨a0_0, a0_1, a0_2⟩ : Vec)))))
  | _ => none
set_option maxRecDepth 100000 in
theorem spec_l01VLong_ok : FunOK Try.prog 171 spec_l01VLong_c.fn := by
  refine con_ok (Γ := gam [(213, spec_l01VInner_c), (103, spec_l01Sqrt_c)]) (gam_cons spec_l01VInner_ok (gam_cons spec_l01Sqrt_ok (gam_nil))) tab_ok (by kernel_rfl) Try.func171 (by kernel_rfl) (by kernel_rfl) Try.ntmps171 Try.results171 (loopsOK_none rfl _) 100000 fun args t h => ?_
  unfold spec_l01VLong_c at h
  split at h
  · rename_i a0_0 a0_1 a0_2
    cases h
    exact ⟨rfl, agree_need (mk := spec_l01VLong_mk) (t := spec_l01VLong_tree (⟨a0_0, a0_1, a0_2⟩ : Vec)) (by unfold Agree; kernel_rfl)⟩
  · cases h

/-- loop.example/g01284/spec.l06Mark -/
def spec_l06Mark_tree (a0 : Mark) : DT (Bool) :=
  let x0 := fge .f32 a0.North 3196059648;
  .ask x0
  (
   let x1 := fle .f32 a0.North 1048576000;
   .ask x1
   (
    let x2 := fge .f32 a0.East 3204448256;
    .ask x2
    (
     let x3 := flt .f32 a0.East 1056964608;
     .ask x3
     (
      let x4 := spec_l01Finite a0.High;
      .leaf x4)
     (
      .leaf false))
    (
     .leaf false))
   (
    .leaf false))
  (
   .leaf false)
def spec_l06Mark (a0 : Mark) : Bool := (spec_l06Mark_tree a0).val
def spec_l06Mark_mk (p : Bool) : Ret := ⟨.bool p, []⟩
def spec_l06Mark_c0 : Con := fun args => match args with
  | [.vcell [.flt .f32 a0_0, .flt .f32 a0_1, .flt .f32 a0_2] 0] => some (.leaf (spec_l06Mark_mk (spec_l06Mark (⟨a0_0, a0_1, a0_2⟩ : Mark))))
  | _ => none
set_option maxRecDepth 100000 in
theorem spec_l06Mark_ok0 : FunOK Try.prog 172 spec_l06Mark_c0.fn := by
  refine con_ok (Γ := gam [(88, spec_l01Finite_c)]) (gam_cons spec_l01Finite_ok (gam_nil)) tab_ok (by kernel_rfl) Try.func172 (by kernel_rfl) (by kernel_rfl) Try.ntmps172 Try.results172 (loopsOK_none rfl _) 100000 fun args t h => ?_
  unfold spec_l06Mark_c0 at h
  split at h
  · rename_i a0_0 a0_1 a0_2
    cases h
    exact ⟨rfl, agree_tot (mk := spec_l06Mark_mk) (t := spec_l06Mark_tree (⟨a0_0, a0_1, a0_2⟩ : Mark)) (by unfold Agree; kernel_rfl) (by kernel_rfl)⟩
  · cases h
def spec_l06Mark_c : Con := fun args => spec_l06Mark_c0 (norms 0 [.ptr 3] args)
set_option maxRecDepth 100000 in
theorem spec_l06Mark_ok : FunOK Try.prog 172 spec_l06Mark_c.fn := con_norm [.ptr 3] spec_l06Mark_ok0

/-- loop.example/g01284/spec.l06MarkOf -/
def spec_l06MarkOf_tree (a0 : Ball) (a1 : Vec) (a2 : Nat) : DT (Mark × Bool) :=
  let x0 := fmul .f32 a1.X a1.X;
  let x1 := fmul .f32 a1.Y a1.Y;
  let x2 := fadd .f32 x0 x1;
  .need ((spec_l01Sqrt_need x2)) (
  let x3 := spec_l01Sqrt x2;
  .need ((spec_l01Angle_need a1.Z x3)) (
  let x4 := spec_l01Angle a1.Z x3;
  let x5 := fgt .f32 x4 1048576000;
  .ask x5
  (
   let x6 := flt .f32 1048576000 3196059648;
   .ask x6
   (
    .need ((spec_l01Angle_need a1.Y a1.X)) (
    let x7 := spec_l01Angle a1.Y a1.X;
    let x8 := spec_l06Face (⟨a0.Mass, a0.Radius, a0.Spin, a0.Start⟩ : Ball) a2;
    let x9 := fsub .f32 x7 x8;
    .need ((spec_l06Wrap_need x9)) (
    let x10 := spec_l06Wrap x9;
    .need ((spec_l01VLong_need (⟨a1.X, a1.Y, a1.Z⟩ : Vec))) (
    let x11 := spec_l01VLong (⟨a1.X, a1.Y, a1.Z⟩ : Vec);
    let x12 := fsub .f32 x11 a0.Radius;
    let x13 := spec_l01Finite x9;
    .ask (!x13)
    (
     .leaf ((⟨0, 0, 0⟩ : Mark), false))
    (
     let x14 := spec_l06Mark (⟨3196059648, x10, x12⟩ : Mark);
     .ask (!x14)
     (
      .leaf ((⟨0, 0, 0⟩ : Mark), false))
     (
      .leaf ((⟨3196059648, x10, x12⟩ : Mark), true)))))))
   (
    .need ((spec_l01Angle_need a1.Y a1.X)) (
    let x7 := spec_l01Angle a1.Y a1.X;
    let x8 := spec_l06Face (⟨a0.Mass, a0.Radius, a0.Spin, a0.Start⟩ : Ball) a2;
    let x9 := fsub .f32 x7 x8;
    .need ((spec_l06Wrap_need x9)) (
    let x10 := spec_l06Wrap x9;
    .need ((spec_l01VLong_need (⟨a1.X, a1.Y, a1.Z⟩ : Vec))) (
    let x11 := spec_l01VLong (⟨a1.X, a1.Y, a1.Z⟩ : Vec);
    let x12 := fsub .f32 x11 a0.Radius;
    let x13 := spec_l01Finite x9;
    .ask (!x13)
    (
     .leaf ((⟨0, 0, 0⟩ : Mark), false))
    (
     let x14 := spec_l06Mark (⟨1048576000, x10, x12⟩ : Mark);
     .ask (!x14)
     (
      .leaf ((⟨0, 0, 0⟩ : Mark), false))
     (
      .leaf ((⟨1048576000, x10, x12⟩ : Mark), true))))))))
  (
   let x6 := flt .f32 x4 3196059648;
   .ask x6
   (
    .need ((spec_l01Angle_need a1.Y a1.X)) (
    let x7 := spec_l01Angle a1.Y a1.X;
    let x8 := spec_l06Face (⟨a0.Mass, a0.Radius, a0.Spin, a0.Start⟩ : Ball) a2;
    let x9 := fsub .f32 x7 x8;
    .need ((spec_l06Wrap_need x9)) (
    let x10 := spec_l06Wrap x9;
    .need ((spec_l01VLong_need (⟨a1.X, a1.Y, a1.Z⟩ : Vec))) (
    let x11 := spec_l01VLong (⟨a1.X, a1.Y, a1.Z⟩ : Vec);
    let x12 := fsub .f32 x11 a0.Radius;
    let x13 := spec_l01Finite x9;
    .ask (!x13)
    (
     .leaf ((⟨0, 0, 0⟩ : Mark), false))
    (
     let x14 := spec_l06Mark (⟨3196059648, x10, x12⟩ : Mark);
     .ask (!x14)
     (
      .leaf ((⟨0, 0, 0⟩ : Mark), false))
     (
      .leaf ((⟨3196059648, x10, x12⟩ : Mark), true)))))))
   (
    .need ((spec_l01Angle_need a1.Y a1.X)) (
    let x7 := spec_l01Angle a1.Y a1.X;
    let x8 := spec_l06Face (⟨a0.Mass, a0.Radius, a0.Spin, a0.Start⟩ : Ball) a2;
    let x9 := fsub .f32 x7 x8;
    .need ((spec_l06Wrap_need x9)) (
    let x10 := spec_l06Wrap x9;
    .need ((spec_l01VLong_need (⟨a1.X, a1.Y, a1.Z⟩ : Vec))) (
    let x11 := spec_l01VLong (⟨a1.X, a1.Y, a1.Z⟩ : Vec);
    let x12 := fsub .f32 x11 a0.Radius;
    let x13 := spec_l01Finite x9;
    .ask (!x13)
    (
     .leaf ((⟨0, 0, 0⟩ : Mark), false))
    (
     let x14 := spec_l06Mark (⟨x4, x10, x12⟩ : Mark);
     .ask (!x14)
     (
      .leaf ((⟨0, 0, 0⟩ : Mark), false))
     (
      .leaf ((⟨x4, x10, x12⟩ : Mark), true))))))))))
def spec_l06MarkOf (a0 : Ball) (a1 : Vec) (a2 : Nat) : Mark × Bool := (spec_l06MarkOf_tree a0 a1 a2).val
def spec_l06MarkOf_need (a0 : Ball) (a1 : Vec) (a2 : Nat) : Bool := (spec_l06MarkOf_tree a0 a1 a2).ok
def spec_l06MarkOf_mk (p : Mark × Bool) : Ret := ⟨.tup [.agg [.flt .f32 p.1.North, .flt .f32 p.1.East, .flt .f32 p.1.High], .bool p.2], []⟩
def spec_l06MarkOf_c0 : Con := fun args => match args with
  | [.vcell [.flt .f32 a0_0, .flt .f32 a0_1, .flt .f32 a0_2, .flt .f32 a0_3] 0, .agg [.flt .f32 a1_0, .flt .f32 a1_1, .flt .f32 a1_2], .flt .f32 a2] => some (.need (spec_l06MarkOf_need (⟨a0_0, a0_1, a0_2, a0_3⟩ : Ball) (⟨a1_0, a1_1, a1_2⟩ : Vec) a2) (.leaf (spec_l06MarkOf_mk (spec_l06MarkOf (⟨a0_0, a0_1, a0_2, a0_3⟩ : Ball) (⟨a1_0, a1_1, a1_2⟩ : Vec) a2))))
  | _ => none
set_option maxRecDepth 100000 in
theorem spec_l06MarkOf_ok0 : FunOK Try.prog 89 spec_l06MarkOf_c0.fn := by
  refine con_ok (Γ := gam [(103, spec_l01Sqrt_c), (168, spec_l01Angle_c), (169, spec_l06Face_c), (170, spec_l06Wrap_c), (171, spec_l01VLong_c), (88, spec_l01Finite_c), (172, spec_l06Mark_c)]) (gam_cons spec_l01Sqrt_ok (gam_cons spec_l01Angle_ok (gam_cons spec_l06Face_ok (gam_cons spec_l06Wrap_ok (gam_cons spec_l01VLong_ok (gam_cons spec_l01Finite_ok (gam_cons spec_l06Mark_ok (gam_nil)))))))) tab_ok (by kernel_rfl) Try.func89 (by kernel_rfl) (by kernel_rfl) Try.ntmps89 Try.results89 (loopsOK_none rfl _) 100000 fun args t h => ?_
  unfold spec_l06MarkOf_c0 at h
  split at h
  · rename_i a0_0 a0_1 a0_2 a0_3 a1_0 a1_1 a1_2 a2
    cases h
    exact ⟨rfl, agree_need (mk := spec_l06MarkOf_mk) (t := spec_l06MarkOf_tree (⟨a0_0, a0_1, a0_2, a0_3⟩ : Ball) (⟨a1_0, a1_1, a1_2⟩ : Vec) a2) (by unfold Agree; kernel_rfl)⟩
  · cases h
def spec_l06MarkOf_c : Con := fun args => spec_l06MarkOf_c0 (norms 0 [.ptr 4, .none, .none] args)
set_option maxRecDepth 100000 in
theorem spec_l06MarkOf_ok : FunOK Try.prog 89 spec_l06MarkOf_c.fn := con_norm [.ptr 4, .none, .none] spec_l06MarkOf_ok0

/-- loop.example/g01284/spec.MarkOf -/
def spec_MarkOf_tree (a0 : Ball) (a1 : Vec) (a2 : Nat) : DT (Mark × Bool) :=
  let x0 := spec_l06Ball (⟨a0.Mass, a0.Radius, a0.Spin, a0.Start⟩ : Ball);
  .ask (!x0)
  (
   .leaf ((⟨0, 0, 0⟩ : Mark), false))
  (
   let x1 := spec_l01VFinite (⟨a1.X, a1.Y, a1.Z⟩ : Vec);
   .ask (!x1)
   (
    .leaf ((⟨0, 0, 0⟩ : Mark), false))
   (
    let x2 := spec_l01Finite a2;
    .ask (!x2)
    (
     .leaf ((⟨0, 0, 0⟩ : Mark), false))
    (
     .need ((spec_l06MarkOf_need (⟨a0.Mass, a0.Radius, a0.Spin, a0.Start⟩ : Ball) (⟨a1.X, a1.Y, a1.Z⟩ : Vec) a2)) (
     let x3 := spec_l06MarkOf (⟨a0.Mass, a0.Radius, a0.Spin, a0.Start⟩ : Ball) (⟨a1.X, a1.Y, a1.Z⟩ : Vec) a2;
     .leaf ((⟨x3.1.North, x3.1.East, x3.1.High⟩ : Mark), x3.2)))))
def spec_MarkOf (a0 : Ball) (a1 : Vec) (a2 : Nat) : Mark × Bool := (spec_MarkOf_tree a0 a1 a2).val
def spec_MarkOf_need (a0 : Ball) (a1 : Vec) (a2 : Nat) : Bool := (spec_MarkOf_tree a0 a1 a2).ok
def spec_MarkOf_mk (p : Mark × Bool) : Ret := ⟨.tup [.agg [.flt .f32 p.1.North, .flt .f32 p.1.East, .flt .f32 p.1.High], .bool p.2], []⟩
def spec_MarkOf_c : Con := fun args => match args with
  | [.agg [.flt .f32 a0_0, .flt .f32 a0_1, .flt .f32 a0_2, .flt .f32 a0_3], .agg [.flt .f32 a1_0, .flt .f32 a1_1, .flt .f32 a1_2], .flt .f32 a2] => some (.need (spec_MarkOf_need (⟨a0_0, a0_1, a0_2, a0_3⟩ : Ball) (⟨a1_0, a1_1, a1_2⟩ : Vec) a2) (.leaf (spec_MarkOf_mk (spec_MarkOf (⟨a0_0, a0_1, a0_2, a0_3⟩ : Ball) (⟨a1_0, a1_1, a1_2⟩ : Vec) a2))))
  | _ => none
set_option maxRecDepth 100000 in
theorem spec_MarkOf_ok : FunOK Try.prog 24 spec_MarkOf_c.fn := by
  refine con_ok (Γ := gam [(86, spec_l06Ball_c), (87, spec_l01VFinite_c), (88, spec_l01Finite_c), (89, spec_l06MarkOf_c)]) (gam_cons spec_l06Ball_ok (gam_cons spec_l01VFinite_ok (gam_cons spec_l01Finite_ok (gam_cons spec_l06MarkOf_ok (gam_nil))))) tab_ok (by kernel_rfl) Try.func24 (by kernel_rfl) (by kernel_rfl) Try.ntmps24 Try.results24 (loopsOK_none rfl _) 100000 fun args t h => ?_
  unfold spec_MarkOf_c at h
  split at h
  · rename_i a0_0 a0_1 a0_2 a0_3 a1_0 a1_1 a1_2 a2
    cases h
    exact ⟨rfl, agree_need (mk := spec_MarkOf_mk) (t := spec_MarkOf_tree (⟨a0_0, a0_1, a0_2, a0_3⟩ : Ball) (⟨a1_0, a1_1, a1_2⟩ : Vec) a2) (by unfold Agree; kernel_rfl)⟩
  · cases h

/-- a loop of impl_areLengths -/
def impl_areLengths_loop0_step (p : List Nat × Int) (s : Int) : Round (Int) ((Unit) ⊕ (Unit)) :=
  let x0 := decide (s < p.2);
  .ask x0
  (
   .need ((decide (0 ≤ s) && decide (s < ((List.length p.1 : Nat) : Int)))) (
   let x1 := List.getD p.1 (Int.toNat s) default;
   .need ((impl_aLength_need x1)) (
   let x2 := impl_aLength x1;
   .ask (!x2)
   (
    .leaf (.inr (.inl ()), []))
   (
    let x3 := IntKind.wrap .i64 (s + 1);
    .leaf (.inl x3, [])))))
  (
   .leaf (.inr (.inr ()), []))
def impl_areLengths_loop0_L (p : List Nat × Int) : LoopS (Int) ((Unit) ⊕ (Unit)) := { tl := fun s => [.junk, .junk, .junk, .junk, .junk, .vslc 1 (.flt .f32) p.1, .int .i64 p.2, .int .i64 s], hl := fun s => [], ex := fun r => match r with | .inl r => .ret | .inr r => .exit 0, otl := fun r => match r with | .inl r => [.junk, .junk, .bool false] | .inr r => [.junk], ohl := fun r => match r with | .inl r => [] | .inr r => [] }
def impl_areLengths_loop0_ext : St → Option ((List Nat × Int) × (Int) × List Nat) := fun S => match (S.tm 5).unK, (S.tm 6).unK, (S.tm 7).unK with
  | .vslc 1 (.flt .f32) q0, .int .i64 q1, .int .i64 q2 => some ((q0, q1), q2, [])
  | _, _, _ => none
def impl_areLengths_loop0_post (p : List Nat × Int) (r : (Unit) ⊕ (Unit)) : DT (Ex × St) := .ask (isL r) (.leaf (.ret, LSt [.junk, .junk, .bool false] [])) (.leaf (.exit 0, LSt [.junk] []))
def impl_areLengths_loop0 (p : List Nat × Int) (s : Int) : (Unit) ⊕ (Unit) := loopVal (impl_areLengths_loop0_step p) s
def impl_areLengths_loop0_ends (p : List Nat × Int) (s : Int) : Bool := loopEnds (impl_areLengths_loop0_step p) s
def impl_areLengths_loop0_F : LoopF := loopF impl_areLengths_loop0_step impl_areLengths_loop0_ext impl_areLengths_loop0_post
theorem impl_areLengths_loop0_hext : ∀ S p s fl, impl_areLengths_loop0_ext S = some (p, s, fl) → Norm S fl ((impl_areLengths_loop0_L p).tl s) ((impl_areLengths_loop0_L p).hl s) (impl_areLengths_loop0_L p).gl := by
  intro S p s fl h
  unfold impl_areLengths_loop0_ext at h
  (repeat' split at h) <;> first
    | (cases h; constructor <;> simp_all [impl_areLengths_loop0_L, keepT, keepH, rens, renH, PV.ren, Blk.ren, fOf, lget, nodup, natIn, lenEq, gtm, PV.unK])
    | cases h
theorem impl_areLengths_loop0_hpost : ∀ p r e S', (impl_areLengths_loop0_post p r).get = some (e, S') → e = (impl_areLengths_loop0_L p).ex r ∧ S' = LSt ((impl_areLengths_loop0_L p).otl r) ((impl_areLengths_loop0_L p).ohl r) ((impl_areLengths_loop0_L p).ogl r) := by
  intro p r e S' h
  unfold impl_areLengths_loop0_post at h
  cases r <;> (simp only [isL, DT.get, Option.some.injEq, Prod.mk.injEq] at h; exact ⟨h.1.symm, h.2.symm⟩)

def impl_areLengths_loops : Nat → Option LoopF := loopTab [(2, impl_areLengths_loop0_F)]
set_option maxRecDepth 100000 in
theorem impl_areLengths_l0 : LoopOK Try.prog ⟨gam [(106, impl_aLength_c)], tab, 15, impl_areLengths_loops⟩ (lp Try.f173 0) :=
  loopOK_some (F := impl_areLengths_loop0_F) (by kernel_rfl) (loopF_ok (E := ⟨gam [(106, impl_aLength_c)], tab, 15, impl_areLengths_loops⟩) ⟨gam_cons impl_aLength_ok (gam_nil), tab_ok, by kernel_rfl⟩ (fuel := 100000) (loopsOK_list (l := []) (by kernel_rfl) trivial) (L := impl_areLengths_loop0_L) (fun p s => by unfold AgreeL; exact ⟨by kernel_rfl, by kernel_rfl⟩) (fun _ r h => by cases r <;> exact Ex.noConfusion h) impl_areLengths_loop0_hext impl_areLengths_loop0_hpost)
/-- loop.example/g01284/impl.areLengths -/
def impl_areLengths_tree (a0 : List Nat) : DT (Bool) :=
  let x0 := ((List.length a0 : Nat) : Int);
  .need ((impl_areLengths_loop0_ends (a0, x0) 0)) (
  let x1 := impl_areLengths_loop0 (a0, x0) 0;
  .ask ((isL x1))
  (
   .leaf false)
  (
   .leaf true))
def impl_areLengths (a0 : List Nat) : Bool := (impl_areLengths_tree a0).val
def impl_areLengths_need (a0 : List Nat) : Bool := (impl_areLengths_tree a0).ok
def impl_areLengths_mk (p : Bool) : Ret := ⟨.bool p, []⟩
def impl_areLengths_c0 : Con := fun args => match args with
  | [.vslc 1 (.flt .f32) a0] => some (.need (impl_areLengths_need a0) (.leaf (impl_areLengths_mk (impl_areLengths a0))))
  | _ => none
set_option maxRecDepth 100000 in
theorem impl_areLengths_ok0 : FunOK Try.prog 173 impl_areLengths_c0.fn := by
  refine con_ok (Γ := gam [(106, impl_aLength_c)]) (gam_cons impl_aLength_ok (gam_nil)) tab_ok (by kernel_rfl) Try.func173 (by kernel_rfl) (by kernel_rfl) Try.ntmps173 Try.results173 (loops := impl_areLengths_loops) (loopsOK_list (l := [lp Try.f173 0]) (by kernel_rfl) ⟨impl_areLengths_l0, trivial⟩) 100000 fun args t h => ?_
  unfold impl_areLengths_c0 at h
  split at h
  · rename_i a0
    cases h
    exact ⟨rfl, agree_need (mk := impl_areLengths_mk) (t := impl_areLengths_tree a0) (by unfold Agree; kernel_rfl)⟩
  · cases h
def impl_areLengths_c : Con := fun args => impl_areLengths_c0 (norms 0 [.slc (.flt .f32)] args)
set_option maxRecDepth 100000 in
theorem impl_areLengths_ok : FunOK Try.prog 173 impl_areLengths_c.fn := con_norm [.slc (.flt .f32)] impl_areLengths_ok0

/-- loop.example/g01284/impl.ValidBall -/
def impl_ValidBall_tree (a0 : Ball) : DT (Bool) :=
  .need ((impl_areLengths_need ([a0.Mass, a0.Radius]))) (
  let x0 := impl_areLengths ([a0.Mass, a0.Radius]);
  .ask x0
  (
   .need ((impl_areFinite_need ([a0.Spin, a0.Start]))) (
   let x1 := impl_areFinite ([a0.Spin, a0.Start]);
   .leaf x1))
  (
   .leaf false))
def impl_ValidBall (a0 : Ball) : Bool := (impl_ValidBall_tree a0).val
def impl_ValidBall_need (a0 : Ball) : Bool := (impl_ValidBall_tree a0).ok
def impl_ValidBall_mk (p : Bool) : Ret := ⟨.bool p, []⟩
def impl_ValidBall_c : Con := fun args => match args with
  | [.agg [.flt .f32 a0_0, .flt .f32 a0_1, .flt .f32 a0_2, .flt .f32 a0_3]] => some (.need (impl_ValidBall_need (⟨a0_0, a0_1, a0_2, a0_3⟩ : Ball)) (.leaf (impl_ValidBall_mk (impl_ValidBall (⟨a0_0, a0_1, a0_2, a0_3⟩ : Ball)))))
  | _ => none
set_option maxRecDepth 100000 in
theorem impl_ValidBall_ok : FunOK Try.prog 90 impl_ValidBall_c.fn := by
  refine con_ok (Γ := gam [(173, impl_areLengths_c), (113, impl_areFinite_c)]) (gam_cons impl_areLengths_ok (gam_cons impl_areFinite_ok (gam_nil))) tab_ok (by kernel_rfl) Try.func90 (by kernel_rfl) (by kernel_rfl) Try.ntmps90 Try.results90 (loopsOK_none rfl _) 100000 fun args t h => ?_
  unfold impl_ValidBall_c at h
  split at h
  · rename_i a0_0 a0_1 a0_2 a0_3
    cases h
    exact ⟨rfl, agree_need (mk := impl_ValidBall_mk) (t := impl_ValidBall_tree (⟨a0_0, a0_1, a0_2, a0_3⟩ : Ball)) (by unfold Agree; kernel_rfl)⟩
  · cases h

/-- loop.example/g01284/impl.AngleTurns -/
def impl_AngleTurns_tree (a0 : Nat) (a1 : Nat) : DT (Nat) :=
  .need ((impl_IsFinite_need a0)) (
  let x0 := impl_IsFinite a0;
  .ask (!x0)
  (
   let x1 := math_NaN ;
   .need ((fconvOk .f64 x1 .f32)) (
   let x2 := fconv .f64 x1 .f32;
   .leaf x2))
  (
   .need ((impl_IsFinite_need a1)) (
   let x1 := impl_IsFinite a1;
   .ask (!x1)
   (
    let x2 := math_NaN ;
    .need ((fconvOk .f64 x2 .f32)) (
    let x3 := fconv .f64 x2 .f32;
    .leaf x3))
   (
    let x2 := feq .f32 a0 0;
    .ask x2
    (
     let x3 := feq .f32 a1 0;
     .ask x3
     (
      .leaf 0)
     (
      .need ((fconvOk .f32 a0 .f64)) (
      let x4 := fconv .f32 a0 .f64;
      .need ((fconvOk .f32 a1 .f64)) (
      let x5 := fconv .f32 a1 .f64;
      let x6 := impl_angle x4 x5;
      .need ((fconvOk .f64 x6 .f32)) (
      let x7 := fconv .f64 x6 .f32;
      .leaf x7)))))
    (
     .need ((fconvOk .f32 a0 .f64)) (
     let x3 := fconv .f32 a0 .f64;
     .need ((fconvOk .f32 a1 .f64)) (
     let x4 := fconv .f32 a1 .f64;
     let x5 := impl_angle x3 x4;
     .need ((fconvOk .f64 x5 .f32)) (
     let x6 := fconv .f64 x5 .f32;
     .leaf x6))))))))
def impl_AngleTurns (a0 : Nat) (a1 : Nat) : Nat := (impl_AngleTurns_tree a0 a1).val
def impl_AngleTurns_need (a0 : Nat) (a1 : Nat) : Bool := (impl_AngleTurns_tree a0 a1).ok
def impl_AngleTurns_mk (p : Nat) : Ret := ⟨.flt .f32 p, []⟩
def impl_AngleTurns_c : Con := fun args => match args with
  | [.flt .f32 a0, .flt .f32 a1] => some (.need (impl_AngleTurns_need a0 a1) (.leaf (impl_AngleTurns_mk (impl_AngleTurns a0 a1))))
  | _ => none
set_option maxRecDepth 100000 in
theorem impl_AngleTurns_ok : FunOK Try.prog 94 impl_AngleTurns_c.fn := by
  refine con_ok (Γ := gam [(92, impl_IsFinite_c), (157, math_NaN_c), (167, impl_angle_c)]) (gam_cons impl_IsFinite_ok (gam_cons math_NaN_ok (gam_cons impl_angle_ok (gam_nil)))) tab_ok (by kernel_rfl) Try.func94 (by kernel_rfl) (by kernel_rfl) Try.ntmps94 Try.results94 (loopsOK_none rfl _) 100000 fun args t h => ?_
  unfold impl_AngleTurns_c at h
  split at h
  · rename_i a0 a1
    cases h
    exact ⟨rfl, agree_need (mk := impl_AngleTurns_mk) (t := impl_AngleTurns_tree a0 a1) (by unfold Agree; kernel_rfl)⟩
  · cases h

/-- (loop.example/g01284/impl.Ball).face -/
def impl_Ball_face_tree (a0 : Ball) (a1 : Nat) : DT (Nat) :=
  let x0 := fmul .f32 a0.Spin a1;
  let x1 := fadd .f32 a0.Start x0;
  .leaf x1
def impl_Ball_face (a0 : Ball) (a1 : Nat) : Nat := (impl_Ball_face_tree a0 a1).val
def impl_Ball_face_mk (p : Nat) : Ret := ⟨.flt .f32 p, []⟩
def impl_Ball_face_c : Con := fun args => match args with
  | [.agg [.flt .f32 a0_0, .flt .f32 a0_1, .flt .f32 a0_2, .flt .f32 a0_3], .flt .f32 a1] => some (.leaf (impl_Ball_face_mk (impl_Ball_face (⟨a0_0, a0_1, a0_2, a0_3⟩ : Ball) a1)))
  | _ => none
set_option maxRecDepth 100000 in
theorem impl_Ball_face_ok : FunOK Try.prog 95 impl_Ball_face_c.fn := by
  refine con_ok (Γ := gam []) (gam_nil) tab_ok (by kernel_rfl) Try.func95 (by kernel_rfl) (by kernel_rfl) Try.ntmps95 Try.results95 (loopsOK_none rfl _) 100000 fun args t h => ?_
  unfold impl_Ball_face_c at h
  split at h
  · rename_i a0_0 a0_1 a0_2 a0_3 a1
    cases h
    exact ⟨rfl, agree_tot (mk := impl_Ball_face_mk) (t := impl_Ball_face_tree (⟨a0_0, a0_1, a0_2, a0_3⟩ : Ball) a1) (by unfold Agree; kernel_rfl) (by kernel_rfl)⟩
  · cases h

/-- loop.example/g01284/impl.floor32 -/
def impl_floor32_tree (a0 : Nat) : DT (Nat) :=
  .need ((fconvOk .f32 a0 .f64)) (
  let x0 := fconv .f32 a0 .f64;
  let x1 := math_Floor x0;
  .need ((fconvOk .f64 x1 .f32)) (
  let x2 := fconv .f64 x1 .f32;
  .leaf x2))
def impl_floor32 (a0 : Nat) : Nat := (impl_floor32_tree a0).val
def impl_floor32_need (a0 : Nat) : Bool := (impl_floor32_tree a0).ok
def impl_floor32_mk (p : Nat) : Ret := ⟨.flt .f32 p, []⟩
def impl_floor32_c : Con := fun args => match args with
  | [.flt .f32 a0] => some (.need (impl_floor32_need a0) (.leaf (impl_floor32_mk (impl_floor32 a0))))
  | _ => none
set_option maxRecDepth 100000 in
theorem impl_floor32_ok : FunOK Try.prog 175 impl_floor32_c.fn := by
  refine con_ok (Γ := gam [(214, math_Floor_c)]) (gam_cons math_Floor_ok (gam_nil)) tab_ok (by kernel_rfl) Try.func175 (by kernel_rfl) (by kernel_rfl) Try.ntmps175 Try.results175 (loopsOK_none rfl _) 100000 fun args t h => ?_
  unfold impl_floor32_c at h
  split at h
  · rename_i a0
    cases h
    exact ⟨rfl, agree_need (mk := impl_floor32_mk) (t := impl_floor32_tree a0) (by unfold Agree; kernel_rfl)⟩
  · cases h

/-- loop.example/g01284/impl.wrapTurn -/
def impl_wrapTurn_tree (a0 : Nat) : DT (Nat) :=
  let x0 := fadd .f32 a0 1056964608;
  .need ((impl_floor32_need x0)) (
  let x1 := impl_floor32 x0;
  let x2 := fsub .f32 a0 x1;
  let x3 := flt .f32 x2 3204448256;
  .ask x3
  (
   let x4 := fadd .f32 x2 1065353216;
   let x5 := flt .f32 x4 1056964608;
   .ask (!x5)
   (
    .leaf 3204448256)
   (
    .leaf x4))
  (
   let x4 := flt .f32 x2 1056964608;
   .ask (!x4)
   (
    .leaf 3204448256)
   (
    .leaf x2)))
def impl_wrapTurn (a0 : Nat) : Nat := (impl_wrapTurn_tree a0).val
def impl_wrapTurn_need (a0 : Nat) : Bool := (impl_wrapTurn_tree a0).ok
def impl_wrapTurn_mk (p : Nat) : Ret := ⟨.flt .f32 p, []⟩
def impl_wrapTurn_c : Con := fun args => match args with
  | [.flt .f32 a0] => some (.need (impl_wrapTurn_need a0) (.leaf (impl_wrapTurn_mk (impl_wrapTurn a0))))
  | _ => none
set_option maxRecDepth 100000 in
theorem impl_wrapTurn_ok : FunOK Try.prog 96 impl_wrapTurn_c.fn := by
  refine con_ok (Γ := gam [(175, impl_floor32_c)]) (gam_cons impl_floor32_ok (gam_nil)) tab_ok (by kernel_rfl) Try.func96 (by kernel_rfl) (by kernel_rfl) Try.ntmps96 Try.results96 (loopsOK_none rfl _) 100000 fun args t h => ?_
  unfold impl_wrapTurn_c at h
  split at h
  · rename_i a0
    cases h
    exact ⟨rfl, agree_need (mk := impl_wrapTurn_mk) (t := impl_wrapTurn_tree a0) (by unfold Agree; kernel_rfl)⟩
  · cases h

/-- loop.example/g01284/impl.InnerOf -/
def impl_InnerOf_tree (a0 : Vec) (a1 : Vec) : DT (Nat) :=
  let x0 := fmul .f32 a0.X a1.X;
  let x1 := fmul .f32 a0.Y a1.Y;
  let x2 := fadd .f32 x0 x1;
  let x3 := fmul .f32 a0.Z a1.Z;
  let x4 := fadd .f32 x2 x3;
  .leaf x4
def impl_InnerOf (a0 : Vec) (a1 : Vec) : Nat := (impl_InnerOf_tree a0 a1).val
def impl_InnerOf_mk (p : Nat) : Ret := ⟨.flt .f32 p, []⟩
def impl_InnerOf_c : Con := fun args => match args with
  | [.agg [.flt .f32 a0_0, .flt .f32 a0_1, .flt .f32 a0_2], .agg [.flt .f32 a1_0, .flt .f32 a1_1, .flt .f32 a1_2]] => some (.leaf (impl_InnerOf_mk (impl_InnerOf (⟨a0_0, a0_1, a0_2⟩ : Vec) (⟨a1_0, a1_1, a1_2⟩ : Vec))))
  | _ => none
set_option maxRecDepth 100000 in
theorem impl_InnerOf_ok : FunOK Try.prog 176 impl_InnerOf_c.fn := by
  refine con_ok (Γ := gam []) (gam_nil) tab_ok (by kernel_rfl) Try.func176 (by kernel_rfl) (by kernel_rfl) Try.ntmps176 Try.results176 (loopsOK_none rfl _) 100000 fun args t h => ?_
  unfold impl_InnerOf_c at h
  split at h
  · rename_i a0_0 a0_1 a0_2 a1_0 a1_1 a1_2
    cases h
    exact ⟨rfl, agree_tot (mk := impl_InnerOf_mk) (t := impl_InnerOf_tree (⟨a0_0, a0_1, a0_2⟩ : Vec) (⟨a1_0, a1_1, a1_2⟩ : Vec)) (by unfold Agree; kernel_rfl) (by kernel_rfl)⟩
  · cases h

/-- loop.example/g01284/impl.SizeOfVector -/
def impl_SizeOfVector_tree (a0 : Vec) : DT (Nat) :=
  let x0 := impl_InnerOf (⟨a0.X, a0.Y, a0.Z⟩ : Vec) (⟨a0.X, a0.Y, a0.Z⟩ : Vec);
  .need ((impl_RootNumber_need x0)) (
  let x1 := impl_RootNumber x0;
  .leaf x1)
def impl_SizeOfVector (a0 : Vec) : Nat := (impl_SizeOfVector_tree a0).val
def impl_SizeOfVector_need (a0 : Vec) : Bool := (impl_SizeOfVector_tree a0).ok
def impl_SizeOfVector_mk (p : Nat) : Ret := ⟨.flt .f32 p, []⟩
def impl_SizeOfVector_c : Con := fun args => match args with
  | [.agg [.flt .f32 a0_0, .flt .f32 a0_1, .flt .f32 a0_2]] => some (.need (impl_SizeOfVector_need (⟨a0_0, a0_1, a0_2⟩ : Vec)) (.leaf (impl_SizeOfVector_mk (impl_SizeOfVector (⟨a0_0, a0_1, a0_2⟩ : Vec)))))
  | _ => none
set_option maxRecDepth 100000 in
theorem impl_SizeOfVector_ok : FunOK Try.prog 97 impl_SizeOfVector_c.fn := by
  refine con_ok (Γ := gam [(176, impl_InnerOf_c), (93, impl_RootNumber_c)]) (gam_cons impl_InnerOf_ok (gam_cons impl_RootNumber_ok (gam_nil))) tab_ok (by kernel_rfl) Try.func97 (by kernel_rfl) (by kernel_rfl) Try.ntmps97 Try.results97 (loopsOK_none rfl _) 100000 fun args t h => ?_
  unfold impl_SizeOfVector_c at h
  split at h
  · rename_i a0_0 a0_1 a0_2
    cases h
    exact ⟨rfl, agree_need (mk := impl_SizeOfVector_mk) (t := impl_SizeOfVector_tree (⟨a0_0, a0_1, a0_2⟩ : Vec)) (by unfold Agree; kernel_rfl)⟩
  · cases h

/-- loop.example/g01284/impl.ValidMark -/
def impl_ValidMark_tree (a0 : Mark) : DT (Bool) :=
  let x0 := fge .f32 a0.North 3196059648;
  .ask x0
  (
   let x1 := fle .f32 a0.North 1048576000;
   .ask x1
   (
    let x2 := fge .f32 a0.East 3204448256;
    .ask x2
    (
     let x3 := flt .f32 a0.East 1056964608;
     .ask x3
     (
      .need ((impl_IsFinite_need a0.High)) (
      let x4 := impl_IsFinite a0.High;
      .leaf x4))
     (
      .leaf false))
    (
     .leaf false))
   (
    .leaf false))
  (
   .leaf false)
def impl_ValidMark (a0 : Mark) : Bool := (impl_ValidMark_tree a0).val
def impl_ValidMark_need (a0 : Mark) : Bool := (impl_ValidMark_tree a0).ok
def impl_ValidMark_mk (p : Bool) : Ret := ⟨.bool p, []⟩
def impl_ValidMark_c : Con := fun args => match args with
  | [.agg [.flt .f32 a0_0, .flt .f32 a0_1, .flt .f32 a0_2]] => some (.need (impl_ValidMark_need (⟨a0_0, a0_1, a0_2⟩ : Mark)) (.leaf (impl_ValidMark_mk (impl_ValidMark (⟨a0_0, a0_1, a0_2⟩ : Mark)))))
  | _ => none
set_option maxRecDepth 100000 in
theorem impl_ValidMark_ok : FunOK Try.prog 98 impl_ValidMark_c.fn := by
  refine con_ok (Γ := gam [(92, impl_IsFinite_c)]) (gam_cons impl_IsFinite_ok (gam_nil)) tab_ok (by kernel_rfl) Try.func98 (by kernel_rfl) (by kernel_rfl) Try.ntmps98 Try.results98 (loopsOK_none rfl _) 100000 fun args t h => ?_
  unfold impl_ValidMark_c at h
  split at h
  · rename_i a0_0 a0_1 a0_2
    cases h
    exact ⟨rfl, agree_need (mk := impl_ValidMark_mk) (t := impl_ValidMark_tree (⟨a0_0, a0_1, a0_2⟩ : Mark)) (by unfold Agree; kernel_rfl)⟩
  · cases h

/-- loop.example/g01284/impl.MarkOf -/
def impl_MarkOf_tree (a0 : Ball) (a1 : Vec) (a2 : Nat) : DT (Mark × Bool) :=
  .need ((impl_ValidBall_need (⟨a0.Mass, a0.Radius, a0.Spin, a0.Start⟩ : Ball))) (
  let x0 := impl_ValidBall (⟨a0.Mass, a0.Radius, a0.Spin, a0.Start⟩ : Ball);
  .ask (!x0)
  (
   .leaf ((⟨0, 0, 0⟩ : Mark), false))
  (
   .need ((impl_isFiniteVector_need (⟨a1.X, a1.Y, a1.Z⟩ : Vec))) (
   let x1 := impl_isFiniteVector (⟨a1.X, a1.Y, a1.Z⟩ : Vec);
   .ask (!x1)
   (
    .leaf ((⟨0, 0, 0⟩ : Mark), false))
   (
    .need ((impl_IsFinite_need a2)) (
    let x2 := impl_IsFinite a2;
    .ask (!x2)
    (
     .leaf ((⟨0, 0, 0⟩ : Mark), false))
    (
     let x3 := fmul .f32 a1.X a1.X;
     let x4 := fmul .f32 a1.Y a1.Y;
     let x5 := fadd .f32 x3 x4;
     .need ((impl_RootNumber_need x5)) (
     let x6 := impl_RootNumber x5;
     .need ((impl_AngleTurns_need a1.Z x6)) (
     let x7 := impl_AngleTurns a1.Z x6;
     let x8 := fgt .f32 x7 1048576000;
     .ask x8
     (
      let x9 := flt .f32 1048576000 3196059648;
      .ask x9
      (
       .need ((impl_AngleTurns_need a1.Y a1.X)) (
       let x10 := impl_AngleTurns a1.Y a1.X;
       let x11 := impl_Ball_face (⟨a0.Mass, a0.Radius, a0.Spin, a0.Start⟩ : Ball) a2;
       let x12 := fsub .f32 x10 x11;
       .need ((impl_IsFinite_need x12)) (
       let x13 := impl_IsFinite x12;
       .ask (!x13)
       (
        .leaf ((⟨0, 0, 0⟩ : Mark), false))
       (
        .need ((impl_wrapTurn_need x12)) (
        let x14 := impl_wrapTurn x12;
        .need ((impl_SizeOfVector_need (⟨a1.X, a1.Y, a1.Z⟩ : Vec))) (
        let x15 := impl_SizeOfVector (⟨a1.X, a1.Y, a1.Z⟩ : Vec);
        let x16 := fsub .f32 x15 a0.Radius;
        .need ((impl_ValidMark_need (⟨3196059648, x14, x16⟩ : Mark))) (
        let x17 := impl_ValidMark (⟨3196059648, x14, x16⟩ : Mark);
        .ask (!x17)
        (
         .leaf ((⟨0, 0, 0⟩ : Mark), false))
        (
         .leaf ((⟨3196059648, x14, x16⟩ : Mark), true)))))))))
      (
       .need ((impl_AngleTurns_need a1.Y a1.X)) (
       let x10 := impl_AngleTurns a1.Y a1.X;
       let x11 := impl_Ball_face (⟨a0.Mass, a0.Radius, a0.Spin, a0.Start⟩ : Ball) a2;
       let x12 := fsub .f32 x10 x11;
       .need ((impl_IsFinite_need x12)) (
       let x13 := impl_IsFinite x12;
       .ask (!x13)
       (
        .leaf ((⟨0, 0, 0⟩ : Mark), false))
       (
        .need ((impl_wrapTurn_need x12)) (
        let x14 := impl_wrapTurn x12;
        .need ((impl_SizeOfVector_need (⟨a1.X, a1.Y, a1.Z⟩ : Vec))) (
        let x15 := impl_SizeOfVector (⟨a1.X, a1.Y, a1.Z⟩ : Vec);
        let x16 := fsub .f32 x15 a0.Radius;
        .need ((impl_ValidMark_need (⟨1048576000, x14, x16⟩ : Mark))) (
        let x17 := impl_ValidMark (⟨1048576000, x14, x16⟩ : Mark);
        .ask (!x17)
        (
         .leaf ((⟨0, 0, 0⟩ : Mark), false))
        (
         .leaf ((⟨1048576000, x14, x16⟩ : Mark), true))))))))))
     (
      let x9 := flt .f32 x7 3196059648;
      .ask x9
      (
       .need ((impl_AngleTurns_need a1.Y a1.X)) (
       let x10 := impl_AngleTurns a1.Y a1.X;
       let x11 := impl_Ball_face (⟨a0.Mass, a0.Radius, a0.Spin, a0.Start⟩ : Ball) a2;
       let x12 := fsub .f32 x10 x11;
       .need ((impl_IsFinite_need x12)) (
       let x13 := impl_IsFinite x12;
       .ask (!x13)
       (
        .leaf ((⟨0, 0, 0⟩ : Mark), false))
       (
        .need ((impl_wrapTurn_need x12)) (
        let x14 := impl_wrapTurn x12;
        .need ((impl_SizeOfVector_need (⟨a1.X, a1.Y, a1.Z⟩ : Vec))) (
        let x15 := impl_SizeOfVector (⟨a1.X, a1.Y, a1.Z⟩ : Vec);
        let x16 := fsub .f32 x15 a0.Radius;
        .need ((impl_ValidMark_need (⟨3196059648, x14, x16⟩ : Mark))) (
        let x17 := impl_ValidMark (⟨3196059648, x14, x16⟩ : Mark);
        .ask (!x17)
        (
         .leaf ((⟨0, 0, 0⟩ : Mark), false))
        (
         .leaf ((⟨3196059648, x14, x16⟩ : Mark), true)))))))))
      (
       .need ((impl_AngleTurns_need a1.Y a1.X)) (
       let x10 := impl_AngleTurns a1.Y a1.X;
       let x11 := impl_Ball_face (⟨a0.Mass, a0.Radius, a0.Spin, a0.Start⟩ : Ball) a2;
       let x12 := fsub .f32 x10 x11;
       .need ((impl_IsFinite_need x12)) (
       let x13 := impl_IsFinite x12;
       .ask (!x13)
       (
        .leaf ((⟨0, 0, 0⟩ : Mark), false))
       (
        .need ((impl_wrapTurn_need x12)) (
        let x14 := impl_wrapTurn x12;
        .need ((impl_SizeOfVector_need (⟨a1.X, a1.Y, a1.Z⟩ : Vec))) (
        let x15 := impl_SizeOfVector (⟨a1.X, a1.Y, a1.Z⟩ : Vec);
        let x16 := fsub .f32 x15 a0.Radius;
        .need ((impl_ValidMark_need (⟨x7, x14, x16⟩ : Mark))) (
        let x17 := impl_ValidMark (⟨x7, x14, x16⟩ : Mark);
        .ask (!x17)
        (
         .leaf ((⟨0, 0, 0⟩ : Mark), false))
        (
         .leaf ((⟨x7, x14, x16⟩ : Mark), true))))))))))))))))))
def impl_MarkOf (a0 : Ball) (a1 : Vec) (a2 : Nat) : Mark × Bool := (impl_MarkOf_tree a0 a1 a2).val
def impl_MarkOf_need (a0 : Ball) (a1 : Vec) (a2 : Nat) : Bool := (impl_MarkOf_tree a0 a1 a2).ok
def impl_MarkOf_mk (p : Mark × Bool) : Ret := ⟨.tup [.agg [.flt .f32 p.1.North, .flt .f32 p.1.East, .flt .f32 p.1.High], .bool p.2], []⟩
def impl_MarkOf_c : Con := fun args => match args with
  | [.agg [.flt .f32 a0_0, .flt .f32 a0_1, .flt .f32 a0_2, .flt .f32 a0_3], .agg [.flt .f32 a1_0, .flt .f32 a1_1, .flt .f32 a1_2], .flt .f32 a2] => some (.need (impl_MarkOf_need (⟨a0_0, a0_1, a0_2, a0_3⟩ : Ball) (⟨a1_0, a1_1, a1_2⟩ : Vec) a2) (.leaf (impl_MarkOf_mk (impl_MarkOf (⟨a0_0, a0_1, a0_2, a0_3⟩ : Ball) (⟨a1_0, a1_1, a1_2⟩ : Vec) a2))))
  | _ => none
set_option maxRecDepth 100000 in
theorem impl_MarkOf_ok : FunOK Try.prog 27 impl_MarkOf_c.fn := by
  refine con_ok (Γ := gam [(90, impl_ValidBall_c), (91, impl_isFiniteVector_c), (92, impl_IsFinite_c), (93, impl_RootNumber_c), (94, impl_AngleTurns_c), (95, impl_Ball_face_c), (96, impl_wrapTurn_c), (97, impl_SizeOfVector_c), (98, impl_ValidMark_c)]) (gam_cons impl_ValidBall_ok (gam_cons impl_isFiniteVector_ok (gam_cons impl_IsFinite_ok (gam_cons impl_RootNumber_ok (gam_cons impl_AngleTurns_ok (gam_cons impl_Ball_face_ok (gam_cons impl_wrapTurn_ok (gam_cons impl_SizeOfVector_ok (gam_cons impl_ValidMark_ok (gam_nil)))))))))) tab_ok (by kernel_rfl) Try.func27 (by kernel_rfl) (by kernel_rfl) Try.ntmps27 Try.results27 (loopsOK_none rfl _) 100000 fun args t h => ?_
  unfold impl_MarkOf_c at h
  split at h
  · rename_i a0_0 a0_1 a0_2 a0_3 a1_0 a1_1 a1_2 a2
    cases h
    exact ⟨rfl, agree_need (mk := impl_MarkOf_mk) (t := impl_MarkOf_tree (⟨a0_0, a0_1, a0_2, a0_3⟩ : Ball) (⟨a1_0, a1_1, a1_2⟩ : Vec) a2) (by unfold Agree; kernel_rfl)⟩
  · cases h

/-- loop.example/g01284/laws.eqMark -/
def laws_eqMark_tree (a0 : Mark) (a1 : Mark) : DT (Bool) :=
  .need ((fconvOk .f32 a0.North .f64)) (
  let x0 := fconv .f32 a0.North .f64;
  .need ((fconvOk .f32 a1.North .f64)) (
  let x1 := fconv .f32 a1.North .f64;
  let x2 := laws_sameFloat x0 x1;
  .ask (!x2)
  (
   .leaf false)
  (
   .need ((fconvOk .f32 a0.East .f64)) (
   let x3 := fconv .f32 a0.East .f64;
   .need ((fconvOk .f32 a1.East .f64)) (
   let x4 := fconv .f32 a1.East .f64;
   let x5 := laws_sameFloat x3 x4;
   .ask (!x5)
   (
    .leaf false)
   (
    .need ((fconvOk .f32 a0.High .f64)) (
    let x6 := fconv .f32 a0.High .f64;
    .need ((fconvOk .f32 a1.High .f64)) (
    let x7 := fconv .f32 a1.High .f64;
    let x8 := laws_sameFloat x6 x7;
    .ask (!x8)
    (
     .leaf false)
    (
     .leaf true)))))))))
def laws_eqMark (a0 : Mark) (a1 : Mark) : Bool := (laws_eqMark_tree a0 a1).val
def laws_eqMark_need (a0 : Mark) (a1 : Mark) : Bool := (laws_eqMark_tree a0 a1).ok
def laws_eqMark_mk (p : Bool) : Ret := ⟨.bool p, []⟩
def laws_eqMark_c : Con := fun args => match args with
  | [.agg [.flt .f32 a0_0, .flt .f32 a0_1, .flt .f32 a0_2], .agg [.flt .f32 a1_0, .flt .f32 a1_1, .flt .f32 a1_2]] => some (.need (laws_eqMark_need (⟨a0_0, a0_1, a0_2⟩ : Mark) (⟨a1_0, a1_1, a1_2⟩ : Mark)) (.leaf (laws_eqMark_mk (laws_eqMark (⟨a0_0, a0_1, a0_2⟩ : Mark) (⟨a1_0, a1_1, a1_2⟩ : Mark)))))
  | _ => none
set_option maxRecDepth 100000 in
theorem laws_eqMark_ok : FunOK Try.prog 28 laws_eqMark_c.fn := by
  refine con_ok (Γ := gam [(23, laws_sameFloat_c)]) (gam_cons laws_sameFloat_ok (gam_nil)) tab_ok (by kernel_rfl) Try.func28 (by kernel_rfl) (by kernel_rfl) Try.ntmps28 Try.results28 (loopsOK_none rfl _) 100000 fun args t h => ?_
  unfold laws_eqMark_c at h
  split at h
  · rename_i a0_0 a0_1 a0_2 a1_0 a1_1 a1_2
    cases h
    exact ⟨rfl, agree_need (mk := laws_eqMark_mk) (t := laws_eqMark_tree (⟨a0_0, a0_1, a0_2⟩ : Mark) (⟨a1_0, a1_1, a1_2⟩ : Mark)) (by unfold Agree; kernel_rfl)⟩
  · cases h

/-- loop.example/g01284/laws.FnExactMarkOf -/
def laws_FnExactMarkOf_tree (a0 : Ball) (a1 : Vec) (a2 : Nat) : DT (Bool) :=
  let x0 := laws_toBall (⟨a0.Mass, a0.Radius, a0.Spin, a0.Start⟩ : Ball);
  let x1 := laws_toVector (⟨a1.X, a1.Y, a1.Z⟩ : Vec);
  .need ((spec_MarkOf_need (⟨x0.Mass, x0.Radius, x0.Spin, x0.Start⟩ : Ball) (⟨x1.X, x1.Y, x1.Z⟩ : Vec) a2)) (
  let x2 := spec_MarkOf (⟨x0.Mass, x0.Radius, x0.Spin, x0.Start⟩ : Ball) (⟨x1.X, x1.Y, x1.Z⟩ : Vec) a2;
  let x3 := laws_toBall (⟨a0.Mass, a0.Radius, a0.Spin, a0.Start⟩ : Ball);
  let x4 := laws_toVector (⟨a1.X, a1.Y, a1.Z⟩ : Vec);
  .need ((impl_MarkOf_need (⟨x3.Mass, x3.Radius, x3.Spin, x3.Start⟩ : Ball) (⟨x4.X, x4.Y, x4.Z⟩ : Vec) a2)) (
  let x5 := impl_MarkOf (⟨x3.Mass, x3.Radius, x3.Spin, x3.Start⟩ : Ball) (⟨x4.X, x4.Y, x4.Z⟩ : Vec) a2;
  .need ((laws_eqMark_need (⟨x5.1.North, x5.1.East, x5.1.High⟩ : Mark) (⟨x2.1.North, x2.1.East, x2.1.High⟩ : Mark))) (
  let x6 := laws_eqMark (⟨x5.1.North, x5.1.East, x5.1.High⟩ : Mark) (⟨x2.1.North, x2.1.East, x2.1.High⟩ : Mark);
  .ask (!x6)
  (
   .leaf false)
  (
   let x7 := (!(x5.2 == x2.2));
   .ask x7
   (
    .leaf false)
   (
    .leaf true)))))
def laws_FnExactMarkOf (a0 : Ball) (a1 : Vec) (a2 : Nat) : Bool := (laws_FnExactMarkOf_tree a0 a1 a2).val
def laws_FnExactMarkOf_need (a0 : Ball) (a1 : Vec) (a2 : Nat) : Bool := (laws_FnExactMarkOf_tree a0 a1 a2).ok
def laws_FnExactMarkOf_mk (p : Bool) : Ret := ⟨.bool p, []⟩
def laws_FnExactMarkOf_c : Con := fun args => match args with
  | [.agg [.flt .f32 a0_0, .flt .f32 a0_1, .flt .f32 a0_2, .flt .f32 a0_3], .agg [.flt .f32 a1_0, .flt .f32 a1_1, .flt .f32 a1_2], .flt .f32 a2] => some (.need (laws_FnExactMarkOf_need (⟨a0_0, a0_1, a0_2, a0_3⟩ : Ball) (⟨a1_0, a1_1, a1_2⟩ : Vec) a2) (.leaf (laws_FnExactMarkOf_mk (laws_FnExactMarkOf (⟨a0_0, a0_1, a0_2, a0_3⟩ : Ball) (⟨a1_0, a1_1, a1_2⟩ : Vec) a2))))
  | _ => none
set_option maxRecDepth 100000 in
theorem laws_FnExactMarkOf_ok : FunOK Try.prog 5 laws_FnExactMarkOf_c.fn := by
  refine con_ok (Γ := gam [(25, laws_toBall_c), (26, laws_toVector_c), (24, spec_MarkOf_c), (27, impl_MarkOf_c), (28, laws_eqMark_c)]) (gam_cons laws_toBall_ok (gam_cons laws_toVector_ok (gam_cons spec_MarkOf_ok (gam_cons impl_MarkOf_ok (gam_cons laws_eqMark_ok (gam_nil)))))) tab_ok (by kernel_rfl) Try.func5 (by kernel_rfl) (by kernel_rfl) Try.ntmps5 Try.results5 (loopsOK_none rfl _) 100000 fun args t h => ?_
  unfold laws_FnExactMarkOf_c at h
  split at h
  · rename_i a0_0 a0_1 a0_2 a0_3 a1_0 a1_1 a1_2 a2
    cases h
    exact ⟨rfl, agree_need (mk := laws_FnExactMarkOf_mk) (t := laws_FnExactMarkOf_tree (⟨a0_0, a0_1, a0_2, a0_3⟩ : Ball) (⟨a1_0, a1_1, a1_2⟩ : Vec) a2) (by unfold Agree; kernel_rfl)⟩
  · cases h

/-- loop.example/g01284/spec.l06Grid -/
def spec_l06Grid_tree (a0 : Int) (a1 : Int) : DT (Bool) :=
  let x0 := spec_l00In a0 1 16;
  .ask x0
  (
   let x1 := spec_l00In a1 1 16;
   .leaf x1)
  (
   .leaf false)
def spec_l06Grid (a0 : Int) (a1 : Int) : Bool := (spec_l06Grid_tree a0 a1).val
def spec_l06Grid_mk (p : Bool) : Ret := ⟨.bool p, []⟩
def spec_l06Grid_c : Con := fun args => match args with
  | [.int .i64 a0, .int .i64 a1] => some (.leaf (spec_l06Grid_mk (spec_l06Grid a0 a1)))
  | _ => none
set_option maxRecDepth 100000 in
theorem spec_l06Grid_ok : FunOK Try.prog 111 spec_l06Grid_c.fn := by
  refine con_ok (Γ := gam [(99, spec_l00In_c)]) (gam_cons spec_l00In_ok (gam_nil)) tab_ok (by kernel_rfl) Try.func111 (by kernel_rfl) (by kernel_rfl) Try.ntmps111 Try.results111 (loopsOK_none rfl _) 100000 fun args t h => ?_
  unfold spec_l06Grid_c at h
  split at h
  · rename_i a0 a1
    cases h
    exact ⟨rfl, agree_tot (mk := spec_l06Grid_mk) (t := spec_l06Grid_tree a0 a1) (by unfold Agree; kernel_rfl) (by kernel_rfl)⟩
  · cases h

/-- loop.example/g01284/spec.l06Spot -/
def spec_l06Spot_tree (a0 : Int) (a1 : Int) (a2 : Int) : DT (Mark) :=
  .need ((a1 != 0)) (
  let x0 := IntKind.wrap .i64 (Int.tdiv a0 a1);
  let x1 := IntKind.wrap .i64 (2 * x0);
  let x2 := IntKind.wrap .i64 (x1 + 1);
  let x3 := fofInt .f32 x2;
  let x4 := IntKind.wrap .i64 (4 * a2);
  let x5 := fofInt .f32 x4;
  let x6 := fdiv .f32 x3 x5;
  let x7 := fsub .f32 x6 1048576000;
  .need ((a1 != 0)) (
  let x8 := Int.tmod a0 a1;
  let x9 := IntKind.wrap .i64 (2 * x8);
  let x10 := IntKind.wrap .i64 (x9 + 1);
  let x11 := fofInt .f32 x10;
  let x12 := IntKind.wrap .i64 (2 * a1);
  let x13 := fofInt .f32 x12;
  let x14 := fdiv .f32 x11 x13;
  let x15 := fsub .f32 x14 1056964608;
  .leaf ((⟨x7, x15, 0⟩ : Mark))))
def spec_l06Spot (a0 : Int) (a1 : Int) (a2 : Int) : Mark := (spec_l06Spot_tree a0 a1 a2).val
def spec_l06Spot_need (a0 : Int) (a1 : Int) (a2 : Int) : Bool := (spec_l06Spot_tree a0 a1 a2).ok
def spec_l06Spot_mk (p : Mark) : Ret := ⟨.agg [.flt .f32 p.North, .flt .f32 p.East, .flt .f32 p.High], []⟩
def spec_l06Spot_c : Con := fun args => match args with
  | [.int .i64 a0, .int .i64 a1, .int .i64 a2] => some (.need (spec_l06Spot_need a0 a1 a2) (.leaf (spec_l06Spot_mk (spec_l06Spot a0 a1 a2))))
  | _ => none
set_option maxRecDepth 100000 in
theorem spec_l06Spot_ok : FunOK Try.prog 179 spec_l06Spot_c.fn := by
  refine con_ok (Γ := gam []) (gam_nil) tab_ok (by kernel_rfl) Try.func179 (by kernel_rfl) (by kernel_rfl) Try.ntmps179 Try.results179 (loopsOK_none rfl _) 100000 fun args t h => ?_
  unfold spec_l06Spot_c at h
  split at h
  · rename_i a0 a1 a2
    cases h
    exact ⟨rfl, agree_need (mk := spec_l06Spot_mk) (t := spec_l06Spot_tree a0 a1 a2) (by unfold Agree; kernel_rfl)⟩
  · cases h

/-- loop.example/g01284/spec.l06Cosine -/
def spec_l06Cosine_tree (a0 : Nat) : DT (Nat) :=
  let x0 := fadd .f32 a0 1048576000;
  .need ((spec_l01Sine_need x0)) (
  let x1 := spec_l01Sine x0;
  .leaf x1)
def spec_l06Cosine (a0 : Nat) : Nat := (spec_l06Cosine_tree a0).val
def spec_l06Cosine_need (a0 : Nat) : Bool := (spec_l06Cosine_tree a0).ok
def spec_l06Cosine_mk (p : Nat) : Ret := ⟨.flt .f32 p, []⟩
def spec_l06Cosine_c : Con := fun args => match args with
  | [.flt .f32 a0] => some (.need (spec_l06Cosine_need a0) (.leaf (spec_l06Cosine_mk (spec_l06Cosine a0))))
  | _ => none
set_option maxRecDepth 100000 in
theorem spec_l06Cosine_ok : FunOK Try.prog 230 spec_l06Cosine_c.fn := by
  refine con_ok (Γ := gam [(102, spec_l01Sine_c)]) (gam_cons spec_l01Sine_ok (gam_nil)) tab_ok (by kernel_rfl) Try.func230 (by kernel_rfl) (by kernel_rfl) Try.ntmps230 Try.results230 (loopsOK_none rfl _) 100000 fun args t h => ?_
  unfold spec_l06Cosine_c at h
  split at h
  · rename_i a0
    cases h
    exact ⟨rfl, agree_need (mk := spec_l06Cosine_mk) (t := spec_l06Cosine_tree a0) (by unfold Agree; kernel_rfl)⟩
  · cases h

/-- loop.example/g01284/spec.l02Vector -/
def spec_l02Vector_tree (a0 : Vec) : DT (Vec × Bool) :=
  let x0 := spec_l01VFinite (⟨a0.X, a0.Y, a0.Z⟩ : Vec);
  .ask (!x0)
  (
   .leaf ((⟨0, 0, 0⟩ : Vec), false))
  (
   .leaf ((⟨a0.X, a0.Y, a0.Z⟩ : Vec), true))
def spec_l02Vector (a0 : Vec) : Vec × Bool := (spec_l02Vector_tree a0).val
def spec_l02Vector_mk (p : Vec × Bool) : Ret := ⟨.tup [.agg [.flt .f32 p.1.X, .flt .f32 p.1.Y, .flt .f32 p.1.Z], .bool p.2], []⟩
def spec_l02Vector_c : Con := fun args => match args with
  | [.agg [.flt .f32 a0_0, .flt .f32 a0_1, .flt .f32 a0_2]] => some (.leaf (spec_l02Vector_mk (spec_l02Vector (⟨a0_0, a0_1, a0_2⟩ : Vec))))
  | _ => none
set_option maxRecDepth 100000 in
theorem spec_l02Vector_ok : FunOK Try.prog 231 spec_l02Vector_c.fn := by
  refine con_ok (Γ := gam [(87, spec_l01VFinite_c)]) (gam_cons spec_l01VFinite_ok (gam_nil)) tab_ok (by kernel_rfl) Try.func231 (by kernel_rfl) (by kernel_rfl) Try.ntmps231 Try.results231 (loopsOK_none rfl _) 100000 fun args t h => ?_
  unfold spec_l02Vector_c at h
  split at h
  · rename_i a0_0 a0_1 a0_2
    cases h
    exact ⟨rfl, agree_tot (mk := spec_l02Vector_mk) (t := spec_l02Vector_tree (⟨a0_0, a0_1, a0_2⟩ : Vec)) (by unfold Agree; kernel_rfl) (by kernel_rfl)⟩
  · cases h

/-- loop.example/g01284/spec.l06Place -/
def spec_l06Place_tree (a0 : Ball) (a1 : Mark) (a2 : Nat) : DT (Vec × Bool) :=
  let x0 := fadd .f32 a0.Radius a1.High;
  .need ((spec_l06Cosine_need a1.North)) (
  let x1 := spec_l06Cosine a1.North;
  let x2 := fmul .f32 x0 x1;
  let x3 := spec_l06Face (⟨a0.Mass, a0.Radius, a0.Spin, a0.Start⟩ : Ball) a2;
  let x4 := fadd .f32 a1.East x3;
  .need ((spec_l06Cosine_need x4)) (
  let x5 := spec_l06Cosine x4;
  let x6 := fmul .f32 x2 x5;
  .need ((spec_l01Sine_need x4)) (
  let x7 := spec_l01Sine x4;
  let x8 := fmul .f32 x2 x7;
  .need ((spec_l01Sine_need a1.North)) (
  let x9 := spec_l01Sine a1.North;
  let x10 := fmul .f32 x0 x9;
  let x11 := spec_l02Vector (⟨x6, x8, x10⟩ : Vec);
  .leaf ((⟨x11.1.X, x11.1.Y, x11.1.Z⟩ : Vec), x11.2)))))
def spec_l06Place (a0 : Ball) (a1 : Mark) (a2 : Nat) : Vec × Bool := (spec_l06Place_tree a0 a1 a2).val
def spec_l06Place_need (a0 : Ball) (a1 : Mark) (a2 : Nat) : Bool := (spec_l06Place_tree a0 a1 a2).ok
def spec_l06Place_mk (p : Vec × Bool) : Ret := ⟨.tup [.agg [.flt .f32 p.1.X, .flt .f32 p.1.Y, .flt .f32 p.1.Z], .bool p.2], []⟩
def spec_l06Place_c0 : Con := fun args => match args with
  | [.vcell [.flt .f32 a0_0, .flt .f32 a0_1, .flt .f32 a0_2, .flt .f32 a0_3] 0, .vcell [.flt .f32 a1_0, .flt .f32 a1_1, .flt .f32 a1_2] 0, .flt .f32 a2] => some (.need (spec_l06Place_need (⟨a0_0, a0_1, a0_2, a0_3⟩ : Ball) (⟨a1_0, a1_1, a1_2⟩ : Mark) a2) (.leaf (spec_l06Place_mk (spec_l06Place (⟨a0_0, a0_1, a0_2, a0_3⟩ : Ball) (⟨a1_0, a1_1, a1_2⟩ : Mark) a2))))
  | _ => none
set_option maxRecDepth 100000 in
theorem spec_l06Place_ok0 : FunOK Try.prog 216 spec_l06Place_c0.fn := by
  refine con_ok (Γ := gam [(230, spec_l06Cosine_c), (169, spec_l06Face_c), (102, spec_l01Sine_c), (231, spec_l02Vector_c)]) (gam_cons spec_l06Cosine_ok (gam_cons spec_l06Face_ok (gam_cons spec_l01Sine_ok (gam_cons spec_l02Vector_ok (gam_nil))))) tab_ok (by kernel_rfl) Try.func216 (by kernel_rfl) (by kernel_rfl) Try.ntmps216 Try.results216 (loopsOK_none rfl _) 100000 fun args t h => ?_
  unfold spec_l06Place_c0 at h
  split at h
  · rename_i a0_0 a0_1 a0_2 a0_3 a1_0 a1_1 a1_2 a2
    cases h
    exact ⟨rfl, agree_need (mk := spec_l06Place_mk) (t := spec_l06Place_tree (⟨a0_0, a0_1, a0_2, a0_3⟩ : Ball) (⟨a1_0, a1_1, a1_2⟩ : Mark) a2) (by unfold Agree; kernel_rfl)⟩
  · cases h
def spec_l06Place_c : Con := fun args => spec_l06Place_c0 (norms 0 [.ptr 4, .ptr 3, .none] args)
set_option maxRecDepth 100000 in
theorem spec_l06Place_ok : FunOK Try.prog 216 spec_l06Place_c.fn := con_norm [.ptr 4, .ptr 3, .none] spec_l06Place_ok0

/-- loop.example/g01284/spec.l01VLess -/
def spec_l01VLess_tree (a0 : Vec) (a1 : Vec) : DT (Vec) :=
  let x0 := fsub .f32 a0.X a1.X;
  let x1 := fsub .f32 a0.Y a1.Y;
  let x2 := fsub .f32 a0.Z a1.Z;
  .leaf ((⟨x0, x1, x2⟩ : Vec))
def spec_l01VLess (a0 : Vec) (a1 : Vec) : Vec := (spec_l01VLess_tree a0 a1).val
def spec_l01VLess_mk (p : Vec) : Ret := ⟨.agg [.flt .f32 p.X, .flt .f32 p.Y, .flt .f32 p.Z], []⟩
def spec_l01VLess_c : Con := fun args => match args with
  | [.agg [.flt .f32 a0_0, .flt .f32 a0_1, .flt .f32 a0_2], .agg [.flt .f32 a1_0, .flt .f32 a1_1, .flt .f32 a1_2]] => some (.leaf (spec_l01VLess_mk (spec_l01VLess (⟨a0_0, a0_1, a0_2⟩ : Vec) (⟨a1_0, a1_1, a1_2⟩ : Vec))))
  | _ => none
set_option maxRecDepth 100000 in
theorem spec_l01VLess_ok : FunOK Try.prog 217 spec_l01VLess_c.fn := by
  refine con_ok (Γ := gam []) (gam_nil) tab_ok (by kernel_rfl) Try.func217 (by kernel_rfl) (by kernel_rfl) Try.ntmps217 Try.results217 (loopsOK_none rfl _) 100000 fun args t h => ?_
  unfold spec_l01VLess_c at h
  split at h
  · rename_i a0_0 a0_1 a0_2 a1_0 a1_1 a1_2
    cases h
    exact ⟨rfl, agree_tot (mk := spec_l01VLess_mk) (t := spec_l01VLess_tree (⟨a0_0, a0_1, a0_2⟩ : Vec) (⟨a1_0, a1_1, a1_2⟩ : Vec)) (by unfold Agree; kernel_rfl) (by kernel_rfl)⟩
  · cases h

/-- loop.example/g01284/spec.l02Number -/
def spec_l02Number_tree (a0 : Nat) : DT (Nat × Bool) :=
  let x0 := spec_l01Finite a0;
  .ask (!x0)
  (
   .leaf (0, false))
  (
   .leaf (a0, true))
def spec_l02Number (a0 : Nat) : Nat × Bool := (spec_l02Number_tree a0).val
def spec_l02Number_mk (p : Nat × Bool) : Ret := ⟨.tup [.flt .f32 p.1, .bool p.2], []⟩
def spec_l02Number_c : Con := fun args => match args with
  | [.flt .f32 a0] => some (.leaf (spec_l02Number_mk (spec_l02Number a0)))
  | _ => none
set_option maxRecDepth 100000 in
theorem spec_l02Number_ok : FunOK Try.prog 218 spec_l02Number_c.fn := by
  refine con_ok (Γ := gam [(88, spec_l01Finite_c)]) (gam_cons spec_l01Finite_ok (gam_nil)) tab_ok (by kernel_rfl) Try.func218 (by kernel_rfl) (by kernel_rfl) Try.ntmps218 Try.results218 (loopsOK_none rfl _) 100000 fun args t h => ?_
  unfold spec_l02Number_c at h
  split at h
  · rename_i a0
    cases h
    exact ⟨rfl, agree_tot (mk := spec_l02Number_mk) (t := spec_l02Number_tree a0) (by unfold Agree; kernel_rfl) (by kernel_rfl)⟩
  · cases h

/-- loop.example/g01284/spec.l06Rise -/
def spec_l06Rise_tree (a0 : Ball) (a1 : Mark) (a2 : Vec) (a3 : Nat) : DT (Nat × Bool) :=
  .need ((spec_l06Place_need (⟨a0.Mass, a0.Radius, a0.Spin, a0.Start⟩ : Ball) (⟨a1.North, a1.East, a1.High⟩ : Mark) a3)) (
  let x0 := spec_l06Place (⟨a0.Mass, a0.Radius, a0.Spin, a0.Start⟩ : Ball) (⟨a1.North, a1.East, a1.High⟩ : Mark) a3;
  .ask (!x0.2)
  (
   .leaf (0, false))
  (
   let x1 := spec_l01VLess (⟨a2.X, a2.Y, a2.Z⟩ : Vec) (⟨x0.1.X, x0.1.Y, x0.1.Z⟩ : Vec);
   let x2 := spec_l01VInner (⟨x0.1.X, x0.1.Y, x0.1.Z⟩ : Vec) (⟨x1.X, x1.Y, x1.Z⟩ : Vec);
   .need ((spec_l01VLong_need (⟨x0.1.X, x0.1.Y, x0.1.Z⟩ : Vec))) (
   let x3 := spec_l01VLong (⟨x0.1.X, x0.1.Y, x0.1.Z⟩ : Vec);
   .need ((spec_l01VLong_need (⟨x1.X, x1.Y, x1.Z⟩ : Vec))) (
   let x4 := spec_l01VLong (⟨x1.X, x1.Y, x1.Z⟩ : Vec);
   let x5 := fmul .f32 x3 x4;
   let x6 := fdiv .f32 x2 x5;
   let x7 := spec_l02Number x6;
   .leaf (x7.1, x7.2)))))
def spec_l06Rise (a0 : Ball) (a1 : Mark) (a2 : Vec) (a3 : Nat) : Nat × Bool := (spec_l06Rise_tree a0 a1 a2 a3).val
def spec_l06Rise_need (a0 : Ball) (a1 : Mark) (a2 : Vec) (a3 : Nat) : Bool := (spec_l06Rise_tree a0 a1 a2 a3).ok
def spec_l06Rise_mk (p : Nat × Bool) : Ret := ⟨.tup [.flt .f32 p.1, .bool p.2], []⟩
def spec_l06Rise_c0 : Con := fun args => match args with
  | [.vcell [.flt .f32 a0_0, .flt .f32 a0_1, .flt .f32 a0_2, .flt .f32 a0_3] 0, .vcell [.flt .f32 a1_0, .flt .f32 a1_1, .flt .f32 a1_2] 0, .agg [.flt .f32 a2_0, .flt .f32 a2_1, .flt .f32 a2_2], .flt .f32 a3] => some (.need (spec_l06Rise_need (⟨a0_0, a0_1, a0_2, a0_3⟩ : Ball) (⟨a1_0, a1_1, a1_2⟩ : Mark) (⟨a2_0, a2_1, a2_2⟩ : Vec) a3) (.leaf (spec_l06Rise_mk (spec_l06Rise (⟨a0_0, a0_1, a0_2, a0_3⟩ : Ball) (⟨a1_0, a1_1, a1_2⟩ : Mark) (⟨a2_0, a2_1, a2_2⟩ : Vec) a3))))
  | _ => none
set_option maxRecDepth 100000 in
theorem spec_l06Rise_ok0 : FunOK Try.prog 180 spec_l06Rise_c0.fn := by
  refine con_ok (Γ := gam [(216, spec_l06Place_c), (217, spec_l01VLess_c), (213, spec_l01VInner_c), (171, spec_l01VLong_c), (218, spec_l02Number_c)]) (gam_cons spec_l06Place_ok (gam_cons spec_l01VLess_ok (gam_cons spec_l01VInner_ok (gam_cons spec_l01VLong_ok (gam_cons spec_l02Number_ok (gam_nil)))))) tab_ok (by kernel_rfl) Try.func180 (by kernel_rfl) (by kernel_rfl) Try.ntmps180 Try.results180 (loopsOK_none rfl _) 100000 fun args t h => ?_
  unfold spec_l06Rise_c0 at h
  split at h
  · rename_i a0_0 a0_1 a0_2 a0_3 a1_0 a1_1 a1_2 a2_0 a2_1 a2_2 a3
    cases h
    exact ⟨rfl, agree_need (mk := spec_l06Rise_mk) (t := spec_l06Rise_tree (⟨a0_0, a0_1, a0_2, a0_3⟩ : Ball) (⟨a1_0, a1_1, a1_2⟩ : Mark) (⟨a2_0, a2_1, a2_2⟩ : Vec) a3) (by unfold Agree; kernel_rfl)⟩
  · cases h
def spec_l06Rise_c : Con := fun args => spec_l06Rise_c0 (norms 0 [.ptr 4, .ptr 3, .none, .none] args)
set_option maxRecDepth 100000 in
theorem spec_l06Rise_ok : FunOK Try.prog 180 spec_l06Rise_c.fn := con_norm [.ptr 4, .ptr 3, .none, .none] spec_l06Rise_ok0

/-- a loop of spec_l06Cover -/
def spec_l06Cover_loop0_step (p : Nat × Nat × Nat × Nat × Nat × Int × Int × Nat × Nat × Nat × Nat) (s : Int × List Bool) : Round (Int × List Bool) ((Unit) ⊕ (List Bool)) :=
  let x0 := IntKind.wrap .i64 (p.2.2.2.2.2.1 * p.2.2.2.2.2.2.1);
  let x1 := decide (s.1 < x0);
  .ask x1
  (
   .need ((spec_l06Spot_need s.1 p.2.2.2.2.2.1 p.2.2.2.2.2.2.1)) (
   let x2 := spec_l06Spot s.1 p.2.2.2.2.2.1 p.2.2.2.2.2.2.1;
   .need ((spec_l06Rise_need (⟨p.1, p.2.1, p.2.2.1, p.2.2.2.1⟩ : Ball) (⟨x2.North, x2.East, x2.High⟩ : Mark) (⟨p.2.2.2.2.2.2.2.2.1, p.2.2.2.2.2.2.2.2.2.1, p.2.2.2.2.2.2.2.2.2.2⟩ : Vec) p.2.2.2.2.1)) (
   let x3 := spec_l06Rise (⟨p.1, p.2.1, p.2.2.1, p.2.2.2.1⟩ : Ball) (⟨x2.North, x2.East, x2.High⟩ : Mark) (⟨p.2.2.2.2.2.2.2.2.1, p.2.2.2.2.2.2.2.2.2.1, p.2.2.2.2.2.2.2.2.2.2⟩ : Vec) p.2.2.2.2.1;
   .ask (!x3.2)
   (
    .leaf (.inr (.inl ()), []))
   (
    let x4 := fge .f32 x3.1 p.2.2.2.2.2.2.2.1;
    .need ((decide ((List.length s.2 + List.length [x4]) * 1 ≤ 140737488355328) && decide (List.length s.2 + List.length [x4] ≤ 9223372036854775807))) (
    let x5 := s.2 ++ [x4];
    let x6 := IntKind.wrap .i64 (s.1 + 1);
    .leaf (.inl (x6, x5), [0, 218]))))))
  (
   .leaf (.inr (.inr s.2), [1]))
def spec_l06Cover_loop0_L (p : Nat × Nat × Nat × Nat × Nat × Int × Int × Nat × Nat × Nat × Nat) : LoopS (Int × List Bool) ((Unit) ⊕ (List Bool)) := { tl := fun s => [.vcell [.flt .f32 p.1, .flt .f32 p.2.1, .flt .f32 p.2.2.1, .flt .f32 p.2.2.2.1] 0, .junk, .flt .f32 p.2.2.2.2.1, .junk, .int .i64 p.2.2.2.2.2.1, .int .i64 p.2.2.2.2.2.2.1, .junk, .ptr 0 0, .junk, .junk, .junk, .junk, .junk, .junk, .flt .f32 p.2.2.2.2.2.2.2.1, .own 1, .int .i64 s.1], hl := fun s => [some (.cells [.flt .f32 p.2.2.2.2.2.2.2.2.1, .flt .f32 p.2.2.2.2.2.2.2.2.2.1, .flt .f32 p.2.2.2.2.2.2.2.2.2.2]), some (.typed 4 .bool s.2)], ex := fun r => match r with | .inl r => .ret | .inr r => .exit 0, otl := fun r => match r with | .inl r => [.junk, .junk, .junk, .junk, .junk, .junk, .junk, .junk, .junk, .junk, .junk, .junk, .nils, .bool false] | .inr r => [.junk, .junk, .junk, .junk, .junk, .junk, .junk, .junk, .junk, .junk, .junk, .junk, .junk, .junk, .junk, .own 0], ohl := fun r => match r with | .inl r => [] | .inr r => [some (.typed 4 .bool r)] }
def spec_l06Cover_loop0_ext : St → Option ((Nat × Nat × Nat × Nat × Nat × Int × Int × Nat × Nat × Nat × Nat) × (Int × List Bool) × List Nat) := fun S => match (S.tm 0).unK, (S.tm 2).unK, (S.tm 4).unK, (S.tm 5).unK, (S.tm 7).unK, (S.tm 14).unK, (S.tm 15).unK, (S.tm 16).unK with
  | .vcell [.flt .f32 q0, .flt .f32 q1, .flt .f32 q2, .flt .f32 q3] 0, .flt .f32 q4, .int .i64 q5, .int .i64 q6, .ptr i0 0, .flt .f32 q7, .own i1, .int .i64 q8 => (match S.hp i0 with
    | some (.cells [.flt .f32 q9, .flt .f32 q10, .flt .f32 q11]) => (match S.hp i1 with
    | some (.typed 4 .bool q12) => (if nodup [i0, i1] = true then some ((q0, q1, q2, q3, q4, q5, q6, q7, q9, q10, q11), (q8, q12), [i0, i1]) else none)
    | _ => none)
    | _ => none)
  | _, _, _, _, _, _, _, _ => none
def spec_l06Cover_loop0_post (p : Nat × Nat × Nat × Nat × Nat × Int × Int × Nat × Nat × Nat × Nat) (r : (Unit) ⊕ (List Bool)) : DT (Ex × St) := .ask (isL r) (.leaf (.ret, LSt [.junk, .junk, .junk, .junk, .junk, .junk, .junk, .junk, .junk, .junk, .junk, .junk, .nils, .bool false] [])) (.leaf (.exit 0, LSt [.junk, .junk, .junk, .junk, .junk, .junk, .junk, .junk, .junk, .junk, .junk, .junk, .junk, .junk, .junk, .own 0] [some (.typed 4 .bool ((rightD r)))]))
def spec_l06Cover_loop0 (p : Nat × Nat × Nat × Nat × Nat × Int × Int × Nat × Nat × Nat × Nat) (s : Int × List Bool) : (Unit) ⊕ (List Bool) := loopVal (spec_l06Cover_loop0_step p) s
def spec_l06Cover_loop0_ends (p : Nat × Nat × Nat × Nat × Nat × Int × Int × Nat × Nat × Nat × Nat) (s : Int × List Bool) : Bool := loopEnds (spec_l06Cover_loop0_step p) s
def spec_l06Cover_loop0_F : LoopF := loopF spec_l06Cover_loop0_step spec_l06Cover_loop0_ext spec_l06Cover_loop0_post
theorem spec_l06Cover_loop0_hext : ∀ S p s fl, spec_l06Cover_loop0_ext S = some (p, s, fl) → Norm S fl ((spec_l06Cover_loop0_L p).tl s) ((spec_l06Cover_loop0_L p).hl s) (spec_l06Cover_loop0_L p).gl := by
  intro S p s fl h
  unfold spec_l06Cover_loop0_ext at h
  (repeat' split at h) <;> first
    | (cases h; constructor <;> simp_all [spec_l06Cover_loop0_L, keepT, keepH, rens, renH, PV.ren, Blk.ren, fOf, lget, nodup, natIn, lenEq, gtm, PV.unK])
    | cases h
theorem spec_l06Cover_loop0_hpost : ∀ p r e S', (spec_l06Cover_loop0_post p r).get = some (e, S') → e = (spec_l06Cover_loop0_L p).ex r ∧ S' = LSt ((spec_l06Cover_loop0_L p).otl r) ((spec_l06Cover_loop0_L p).ohl r) ((spec_l06Cover_loop0_L p).ogl r) := by
  intro p r e S' h
  unfold spec_l06Cover_loop0_post at h
  cases r <;> (simp only [isL, DT.get, Option.some.injEq, Prod.mk.injEq] at h; exact ⟨h.1.symm, h.2.symm⟩)

def spec_l06Cover_loops : Nat → Option LoopF := loopTab [(4, spec_l06Cover_loop0_F)]
set_option maxRecDepth 100000 in
theorem spec_l06Cover_l0 : LoopOK Try.prog ⟨gam [(102, spec_l01Sine_c), (179, spec_l06Spot_c), (180, spec_l06Rise_c)], tab, 50, spec_l06Cover_loops⟩ (lp Try.f112 0) :=
  loopOK_some (F := spec_l06Cover_loop0_F) (by kernel_rfl) (loopF_ok (E := ⟨gam [(102, spec_l01Sine_c), (179, spec_l06Spot_c), (180, spec_l06Rise_c)], tab, 50, spec_l06Cover_loops⟩) ⟨gam_cons spec_l01Sine_ok (gam_cons spec_l06Spot_ok (gam_cons spec_l06Rise_ok (gam_nil))), tab_ok, by kernel_rfl⟩ (fuel := 100000) (loopsOK_list (l := []) (by kernel_rfl) trivial) (L := spec_l06Cover_loop0_L) (fun p s => by unfold AgreeL; exact ⟨by kernel_rfl, by kernel_rfl⟩) (fun _ r h => by cases r <;> exact Ex.noConfusion h) spec_l06Cover_loop0_hext spec_l06Cover_loop0_hpost)
/-- loop.example/g01284/spec.l06Cover -/
def spec_l06Cover_tree (a0 : Ball) (a1 : Vec) (a2 : Nat) (a3 : Nat) (a4 : Int) (a5 : Int) : DT ((Unit) ⊕ (List Bool)) :=
  .need ((spec_l01Sine_need a3)) (
  let x0 := spec_l01Sine a3;
  .need ((spec_l06Cover_loop0_ends (a0.Mass, a0.Radius, a0.Spin, a0.Start, a2, a4, a5, x0, a1.X, a1.Y, a1.Z) (0, []))) (
  let x1 := spec_l06Cover_loop0 (a0.Mass, a0.Radius, a0.Spin, a0.Start, a2, a4, a5, x0, a1.X, a1.Y, a1.Z) (0, []);
  .ask ((isL x1))
  (
   .leaf (.inl ()))
  (
   .leaf (.inr ((rightD x1))))))
def spec_l06Cover (a0 : Ball) (a1 : Vec) (a2 : Nat) (a3 : Nat) (a4 : Int) (a5 : Int) : (Unit) ⊕ (List Bool) := (spec_l06Cover_tree a0 a1 a2 a3 a4 a5).val
def spec_l06Cover_need (a0 : Ball) (a1 : Vec) (a2 : Nat) (a3 : Nat) (a4 : Int) (a5 : Int) : Bool := (spec_l06Cover_tree a0 a1 a2 a3 a4 a5).ok
def spec_l06Cover_mk0 (p : Unit) : Ret := ⟨.tup [.nils, .bool false], []⟩
def spec_l06Cover_mk1 (p : List Bool) : Ret := ⟨.tup [.own 0, .bool true], [.typed 4 .bool p]⟩
def spec_l06Cover_mk : (Unit) ⊕ (List Bool) → Ret := fun v => match v with
  | (.inl p) => spec_l06Cover_mk0 p
  | (.inr p) => spec_l06Cover_mk1 p
def spec_l06Cover_forms (v : (Unit) ⊕ (List Bool)) : DT Ret := .ask (isL v) (.leaf (spec_l06Cover_mk0 (leftD v))) (.leaf (spec_l06Cover_mk1 (rightD v)))
theorem spec_l06Cover_forms_get : ∀ v, (spec_l06Cover_forms v).get = some (spec_l06Cover_mk v) := by
  intro v
  rcases v with v | v <;> rfl
def spec_l06Cover_c0 : Con := fun args => match args with
  | [.vcell [.flt .f32 a0_0, .flt .f32 a0_1, .flt .f32 a0_2, .flt .f32 a0_3] 0, .agg [.flt .f32 a1_0, .flt .f32 a1_1, .flt .f32 a1_2], .flt .f32 a2, .flt .f32 a3, .int .i64 a4, .int .i64 a5] => some (.need (spec_l06Cover_need (⟨a0_0, a0_1, a0_2, a0_3⟩ : Ball) (⟨a1_0, a1_1, a1_2⟩ : Vec) a2 a3 a4 a5) (spec_l06Cover_forms (spec_l06Cover (⟨a0_0, a0_1, a0_2, a0_3⟩ : Ball) (⟨a1_0, a1_1, a1_2⟩ : Vec) a2 a3 a4 a5)))
  | _ => none
set_option maxRecDepth 100000 in
theorem spec_l06Cover_ok0 : FunOK Try.prog 112 spec_l06Cover_c0.fn := by
  refine con_ok (Γ := gam [(102, spec_l01Sine_c), (179, spec_l06Spot_c), (180, spec_l06Rise_c)]) (gam_cons spec_l01Sine_ok (gam_cons spec_l06Spot_ok (gam_cons spec_l06Rise_ok (gam_nil)))) tab_ok (by kernel_rfl) Try.func112 (by kernel_rfl) (by kernel_rfl) Try.ntmps112 Try.results112 (loops := spec_l06Cover_loops) (loopsOK_list (l := [lp Try.f112 0]) (by kernel_rfl) ⟨spec_l06Cover_l0, trivial⟩) 100000 fun args t h => ?_
  unfold spec_l06Cover_c0 at h
  split at h
  · rename_i a0_0 a0_1 a0_2 a0_3 a1_0 a1_1 a1_2 a2 a3 a4 a5
    cases h
    exact ⟨rfl, agree_forms (mk := spec_l06Cover_mk) (t := spec_l06Cover_tree (⟨a0_0, a0_1, a0_2, a0_3⟩ : Ball) (⟨a1_0, a1_1, a1_2⟩ : Vec) a2 a3 a4 a5) (by unfold Agree; kernel_rfl) (fun h => h) (spec_l06Cover_forms_get _)⟩
  · cases h
def spec_l06Cover_c : Con := fun args => spec_l06Cover_c0 (norms 0 [.ptr 4, .none, .none, .none, .none, .none] args)
set_option maxRecDepth 100000 in
theorem spec_l06Cover_ok : FunOK Try.prog 112 spec_l06Cover_c.fn := con_norm [.ptr 4, .none, .none, .none, .none, .none] spec_l06Cover_ok0

/-- loop.example/g01284/spec.CoverOf -/
def spec_CoverOf_tree (a0 : Ball) (a1 : Vec) (a2 : Nat) (a3 : Nat) (a4 : Int) (a5 : Int) : DT ((Unit) ⊕ (List Bool)) :=
  let x0 := spec_l06Ball (⟨a0.Mass, a0.Radius, a0.Spin, a0.Start⟩ : Ball);
  .ask (!x0)
  (
   .leaf (.inl ()))
  (
   let x1 := spec_l01VFinite (⟨a1.X, a1.Y, a1.Z⟩ : Vec);
   .ask (!x1)
   (
    .leaf (.inl ()))
   (
    let x2 := spec_l01Finite a2;
    .ask (!x2)
    (
     .leaf (.inl ()))
    (
     let x3 := spec_l01Finite a3;
     .ask (!x3)
     (
      .leaf (.inl ()))
     (
      let x4 := spec_l06Grid a4 a5;
      .ask (!x4)
      (
       .leaf (.inl ()))
      (
       .need ((spec_l06Cover_need (⟨a0.Mass, a0.Radius, a0.Spin, a0.Start⟩ : Ball) (⟨a1.X, a1.Y, a1.Z⟩ : Vec) a2 a3 a4 a5)) (
       let x5 := spec_l06Cover (⟨a0.Mass, a0.Radius, a0.Spin, a0.Start⟩ : Ball) (⟨a1.X, a1.Y, a1.Z⟩ : Vec) a2 a3 a4 a5;
       .ask ((isL x5))
       (
        .leaf (.inl ()))
       (
        .leaf (.inr ((rightD x5))))))))))
def spec_CoverOf (a0 : Ball) (a1 : Vec) (a2 : Nat) (a3 : Nat) (a4 : Int) (a5 : Int) : (Unit) ⊕ (List Bool) := (spec_CoverOf_tree a0 a1 a2 a3 a4 a5).val
def spec_CoverOf_need (a0 : Ball) (a1 : Vec) (a2 : Nat) (a3 : Nat) (a4 : Int) (a5 : Int) : Bool := (spec_CoverOf_tree a0 a1 a2 a3 a4 a5).ok
def spec_CoverOf_mk0 (p : Unit) : Ret := ⟨.tup [.nils, .bool false], []⟩
def spec_CoverOf_mk1 (p : List Bool) : Ret := ⟨.tup [.own 0, .bool true], [.typed 4 .bool p]⟩
def spec_CoverOf_mk : (Unit) ⊕ (List Bool) → Ret := fun v => match v with
  | (.inl p) => spec_CoverOf_mk0 p
  | (.inr p) => spec_CoverOf_mk1 p
def spec_CoverOf_forms (v : (Unit) ⊕ (List Bool)) : DT Ret := .ask (isL v) (.leaf (spec_CoverOf_mk0 (leftD v))) (.leaf (spec_CoverOf_mk1 (rightD v)))
theorem spec_CoverOf_forms_get : ∀ v, (spec_CoverOf_forms v).get = some (spec_CoverOf_mk v) := by
  intro v
  rcases v with v | v <;> rfl
def spec_CoverOf_c : Con := fun args => match args with
  | [.agg [.flt .f32 a0_0, .flt .f32 a0_1, .flt .f32 a0_2, .flt .f32 a0_3], .agg [.flt .f32 a1_0, .flt .f32 a1_1, .flt .f32 a1_2], .flt .f32 a2, .flt .f32 a3, .int .i64 a4, .int .i64 a5] => some (.need (spec_CoverOf_need (⟨a0_0, a0_1, a0_2, a0_3⟩ : Ball) (⟨a1_0, a1_1, a1_2⟩ : Vec) a2 a3 a4 a5) (spec_CoverOf_forms (spec_CoverOf (⟨a0_0, a0_1, a0_2, a0_3⟩ : Ball) (⟨a1_0, a1_1, a1_2⟩ : Vec) a2 a3 a4 a5)))
  | _ => none
set_option maxRecDepth 100000 in
theorem spec_CoverOf_ok : FunOK Try.prog 34 spec_CoverOf_c.fn := by
  refine con_ok (Γ := gam [(86, spec_l06Ball_c), (87, spec_l01VFinite_c), (88, spec_l01Finite_c), (111, spec_l06Grid_c), (112, spec_l06Cover_c)]) (gam_cons spec_l06Ball_ok (gam_cons spec_l01VFinite_ok (gam_cons spec_l01Finite_ok (gam_cons spec_l06Grid_ok (gam_cons spec_l06Cover_ok (gam_nil)))))) tab_ok (by kernel_rfl) Try.func34 (by kernel_rfl) (by kernel_rfl) Try.ntmps34 Try.results34 (loopsOK_none rfl _) 100000 fun args t h => ?_
  unfold spec_CoverOf_c at h
  split at h
  · rename_i a0_0 a0_1 a0_2 a0_3 a1_0 a1_1 a1_2 a2 a3 a4 a5
    cases h
    exact ⟨rfl, agree_forms (mk := spec_CoverOf_mk) (t := spec_CoverOf_tree (⟨a0_0, a0_1, a0_2, a0_3⟩ : Ball) (⟨a1_0, a1_1, a1_2⟩ : Vec) a2 a3 a4 a5) (by unfold Agree; kernel_rfl) (fun h => h) (spec_CoverOf_forms_get _)⟩
  · cases h

/-- loop.example/g01284/impl.isGrid -/
def impl_isGrid_tree (a0 : Int) (a1 : Int) : DT (Bool) :=
  let x0 := impl_within a0 1 16;
  .ask x0
  (
   let x1 := impl_within a1 1 16;
   .leaf x1)
  (
   .leaf false)
def impl_isGrid (a0 : Int) (a1 : Int) : Bool := (impl_isGrid_tree a0 a1).val
def impl_isGrid_mk (p : Bool) : Ret := ⟨.bool p, []⟩
def impl_isGrid_c : Con := fun args => match args with
  | [.int .i64 a0, .int .i64 a1] => some (.leaf (impl_isGrid_mk (impl_isGrid a0 a1)))
  | _ => none
set_option maxRecDepth 100000 in
theorem impl_isGrid_ok : FunOK Try.prog 114 impl_isGrid_c.fn := by
  refine con_ok (Γ := gam [(105, impl_within_c)]) (gam_cons impl_within_ok (gam_nil)) tab_ok (by kernel_rfl) Try.func114 (by kernel_rfl) (by kernel_rfl) Try.ntmps114 Try.results114 (loopsOK_none rfl _) 100000 fun args t h => ?_
  unfold impl_isGrid_c at h
  split at h
  · rename_i a0 a1
    cases h
    exact ⟨rfl, agree_tot (mk := impl_isGrid_mk) (t := impl_isGrid_tree a0 a1) (by unfold Agree; kernel_rfl) (by kernel_rfl)⟩
  · cases h

/-- loop.example/g01284/impl.gridMark -/
def impl_gridMark_tree (a0 : Int) (a1 : Int) (a2 : Int) (a3 : Int) : DT (Mark) :=
  let x0 := IntKind.wrap .i64 (2 * a1);
  let x1 := IntKind.wrap .i64 (x0 + 1);
  let x2 := fofInt .f32 x1;
  let x3 := IntKind.wrap .i64 (4 * a3);
  let x4 := fofInt .f32 x3;
  let x5 := fdiv .f32 x2 x4;
  let x6 := fsub .f32 x5 1048576000;
  let x7 := IntKind.wrap .i64 (2 * a0);
  let x8 := IntKind.wrap .i64 (x7 + 1);
  let x9 := fofInt .f32 x8;
  let x10 := IntKind.wrap .i64 (2 * a2);
  let x11 := fofInt .f32 x10;
  let x12 := fdiv .f32 x9 x11;
  let x13 := fsub .f32 x12 1056964608;
  .leaf ((⟨x6, x13, 0⟩ : Mark))
def impl_gridMark (a0 : Int) (a1 : Int) (a2 : Int) (a3 : Int) : Mark := (impl_gridMark_tree a0 a1 a2 a3).val
def impl_gridMark_mk (p : Mark) : Ret := ⟨.agg [.flt .f32 p.North, .flt .f32 p.East, .flt .f32 p.High], []⟩
def impl_gridMark_c : Con := fun args => match args with
  | [.int .i64 a0, .int .i64 a1, .int .i64 a2, .int .i64 a3] => some (.leaf (impl_gridMark_mk (impl_gridMark a0 a1 a2 a3)))
  | _ => none
set_option maxRecDepth 100000 in
theorem impl_gridMark_ok : FunOK Try.prog 116 impl_gridMark_c.fn := by
  refine con_ok (Γ := gam []) (gam_nil) tab_ok (by kernel_rfl) Try.func116 (by kernel_rfl) (by kernel_rfl) Try.ntmps116 Try.results116 (loopsOK_none rfl _) 100000 fun args t h => ?_
  unfold impl_gridMark_c at h
  split at h
  · rename_i a0 a1 a2 a3
    cases h
    exact ⟨rfl, agree_tot (mk := impl_gridMark_mk) (t := impl_gridMark_tree a0 a1 a2 a3) (by unfold Agree; kernel_rfl) (by kernel_rfl)⟩
  · cases h

/-- loop.example/g01284/impl.cos -/
def impl_cos_tree (a0 : Nat) : DT (Nat) :=
  let x0 := fadd .f32 a0 1048576000;
  .need ((impl_SineTurns_need x0)) (
  let x1 := impl_SineTurns x0;
  .leaf x1)
def impl_cos (a0 : Nat) : Nat := (impl_cos_tree a0).val
def impl_cos_need (a0 : Nat) : Bool := (impl_cos_tree a0).ok
def impl_cos_mk (p : Nat) : Ret := ⟨.flt .f32 p, []⟩
def impl_cos_c : Con := fun args => match args with
  | [.flt .f32 a0] => some (.need (impl_cos_need a0) (.leaf (impl_cos_mk (impl_cos a0))))
  | _ => none
set_option maxRecDepth 100000 in
theorem impl_cos_ok : FunOK Try.prog 232 impl_cos_c.fn := by
  refine con_ok (Γ := gam [(108, impl_SineTurns_c)]) (gam_cons impl_SineTurns_ok (gam_nil)) tab_ok (by kernel_rfl) Try.func232 (by kernel_rfl) (by kernel_rfl) Try.ntmps232 Try.results232 (loopsOK_none rfl _) 100000 fun args t h => ?_
  unfold impl_cos_c at h
  split at h
  · rename_i a0
    cases h
    exact ⟨rfl, agree_need (mk := impl_cos_mk) (t := impl_cos_tree a0) (by unfold Agree; kernel_rfl)⟩
  · cases h

/-- (loop.example/g01284/impl.Ball).place -/
def impl_Ball_place_tree (a0 : Ball) (a1 : Mark) (a2 : Nat) : DT (Vec) :=
  let x0 := fadd .f32 a0.Radius a1.High;
  .need ((impl_cos_need a1.North)) (
  let x1 := impl_cos a1.North;
  let x2 := fmul .f32 x0 x1;
  let x3 := impl_Ball_face (⟨a0.Mass, a0.Radius, a0.Spin, a0.Start⟩ : Ball) a2;
  let x4 := fadd .f32 a1.East x3;
  .need ((impl_cos_need x4)) (
  let x5 := impl_cos x4;
  let x6 := fmul .f32 x2 x5;
  .need ((impl_SineTurns_need x4)) (
  let x7 := impl_SineTurns x4;
  let x8 := fmul .f32 x2 x7;
  .need ((impl_SineTurns_need a1.North)) (
  let x9 := impl_SineTurns a1.North;
  let x10 := fmul .f32 x0 x9;
  .leaf ((⟨x6, x8, x10⟩ : Vec))))))
def impl_Ball_place (a0 : Ball) (a1 : Mark) (a2 : Nat) : Vec := (impl_Ball_place_tree a0 a1 a2).val
def impl_Ball_place_need (a0 : Ball) (a1 : Mark) (a2 : Nat) : Bool := (impl_Ball_place_tree a0 a1 a2).ok
def impl_Ball_place_mk (p : Vec) : Ret := ⟨.agg [.flt .f32 p.X, .flt .f32 p.Y, .flt .f32 p.Z], []⟩
def impl_Ball_place_c : Con := fun args => match args with
  | [.agg [.flt .f32 a0_0, .flt .f32 a0_1, .flt .f32 a0_2, .flt .f32 a0_3], .agg [.flt .f32 a1_0, .flt .f32 a1_1, .flt .f32 a1_2], .flt .f32 a2] => some (.need (impl_Ball_place_need (⟨a0_0, a0_1, a0_2, a0_3⟩ : Ball) (⟨a1_0, a1_1, a1_2⟩ : Mark) a2) (.leaf (impl_Ball_place_mk (impl_Ball_place (⟨a0_0, a0_1, a0_2, a0_3⟩ : Ball) (⟨a1_0, a1_1, a1_2⟩ : Mark) a2))))
  | _ => none
set_option maxRecDepth 100000 in
theorem impl_Ball_place_ok : FunOK Try.prog 220 impl_Ball_place_c.fn := by
  refine con_ok (Γ := gam [(232, impl_cos_c), (95, impl_Ball_face_c), (108, impl_SineTurns_c)]) (gam_cons impl_cos_ok (gam_cons impl_Ball_face_ok (gam_cons impl_SineTurns_ok (gam_nil)))) tab_ok (by kernel_rfl) Try.func220 (by kernel_rfl) (by kernel_rfl) Try.ntmps220 Try.results220 (loopsOK_none rfl _) 100000 fun args t h => ?_
  unfold impl_Ball_place_c at h
  split at h
  · rename_i a0_0 a0_1 a0_2 a0_3 a1_0 a1_1 a1_2 a2
    cases h
    exact ⟨rfl, agree_need (mk := impl_Ball_place_mk) (t := impl_Ball_place_tree (⟨a0_0, a0_1, a0_2, a0_3⟩ : Ball) (⟨a1_0, a1_1, a1_2⟩ : Mark) a2) (by unfold Agree; kernel_rfl)⟩
  · cases h

/-- loop.example/g01284/impl.LessVectors -/
def impl_LessVectors_tree (a0 : Vec) (a1 : Vec) : DT (Vec) :=
  let x0 := fsub .f32 a0.X a1.X;
  let x1 := fsub .f32 a0.Y a1.Y;
  let x2 := fsub .f32 a0.Z a1.Z;
  .leaf ((⟨x0, x1, x2⟩ : Vec))
def impl_LessVectors (a0 : Vec) (a1 : Vec) : Vec := (impl_LessVectors_tree a0 a1).val
def impl_LessVectors_mk (p : Vec) : Ret := ⟨.agg [.flt .f32 p.X, .flt .f32 p.Y, .flt .f32 p.Z], []⟩
def impl_LessVectors_c : Con := fun args => match args with
  | [.agg [.flt .f32 a0_0, .flt .f32 a0_1, .flt .f32 a0_2], .agg [.flt .f32 a1_0, .flt .f32 a1_1, .flt .f32 a1_2]] => some (.leaf (impl_LessVectors_mk (impl_LessVectors (⟨a0_0, a0_1, a0_2⟩ : Vec) (⟨a1_0, a1_1, a1_2⟩ : Vec))))
  | _ => none
set_option maxRecDepth 100000 in
theorem impl_LessVectors_ok : FunOK Try.prog 192 impl_LessVectors_c.fn := by
  refine con_ok (Γ := gam []) (gam_nil) tab_ok (by kernel_rfl) Try.func192 (by kernel_rfl) (by kernel_rfl) Try.ntmps192 Try.results192 (loopsOK_none rfl _) 100000 fun args t h => ?_
  unfold impl_LessVectors_c at h
  split at h
  · rename_i a0_0 a0_1 a0_2 a1_0 a1_1 a1_2
    cases h
    exact ⟨rfl, agree_tot (mk := impl_LessVectors_mk) (t := impl_LessVectors_tree (⟨a0_0, a0_1, a0_2⟩ : Vec) (⟨a1_0, a1_1, a1_2⟩ : Vec)) (by unfold Agree; kernel_rfl) (by kernel_rfl)⟩
  · cases h

/-- (loop.example/g01284/impl.Ball).rise -/
def impl_Ball_rise_tree (a0 : Ball) (a1 : Mark) (a2 : Vec) (a3 : Nat) : DT (Nat) :=
  .need ((impl_Ball_place_need (⟨a0.Mass, a0.Radius, a0.Spin, a0.Start⟩ : Ball) (⟨a1.North, a1.East, a1.High⟩ : Mark) a3)) (
  let x0 := impl_Ball_place (⟨a0.Mass, a0.Radius, a0.Spin, a0.Start⟩ : Ball) (⟨a1.North, a1.East, a1.High⟩ : Mark) a3;
  let x1 := impl_LessVectors (⟨a2.X, a2.Y, a2.Z⟩ : Vec) (⟨x0.X, x0.Y, x0.Z⟩ : Vec);
  let x2 := impl_InnerOf (⟨x0.X, x0.Y, x0.Z⟩ : Vec) (⟨x1.X, x1.Y, x1.Z⟩ : Vec);
  .need ((impl_SizeOfVector_need (⟨x0.X, x0.Y, x0.Z⟩ : Vec))) (
  let x3 := impl_SizeOfVector (⟨x0.X, x0.Y, x0.Z⟩ : Vec);
  .need ((impl_SizeOfVector_need (⟨x1.X, x1.Y, x1.Z⟩ : Vec))) (
  let x4 := impl_SizeOfVector (⟨x1.X, x1.Y, x1.Z⟩ : Vec);
  let x5 := fmul .f32 x3 x4;
  let x6 := fdiv .f32 x2 x5;
  .leaf x6)))
def impl_Ball_rise (a0 : Ball) (a1 : Mark) (a2 : Vec) (a3 : Nat) : Nat := (impl_Ball_rise_tree a0 a1 a2 a3).val
def impl_Ball_rise_need (a0 : Ball) (a1 : Mark) (a2 : Vec) (a3 : Nat) : Bool := (impl_Ball_rise_tree a0 a1 a2 a3).ok
def impl_Ball_rise_mk (p : Nat) : Ret := ⟨.flt .f32 p, []⟩
def impl_Ball_rise_c : Con := fun args => match args with
  | [.agg [.flt .f32 a0_0, .flt .f32 a0_1, .flt .f32 a0_2, .flt .f32 a0_3], .agg [.flt .f32 a1_0, .flt .f32 a1_1, .flt .f32 a1_2], .agg [.flt .f32 a2_0, .flt .f32 a2_1, .flt .f32 a2_2], .flt .f32 a3] => some (.need (impl_Ball_rise_need (⟨a0_0, a0_1, a0_2, a0_3⟩ : Ball) (⟨a1_0, a1_1, a1_2⟩ : Mark) (⟨a2_0, a2_1, a2_2⟩ : Vec) a3) (.leaf (impl_Ball_rise_mk (impl_Ball_rise (⟨a0_0, a0_1, a0_2, a0_3⟩ : Ball) (⟨a1_0, a1_1, a1_2⟩ : Mark) (⟨a2_0, a2_1, a2_2⟩ : Vec) a3))))
  | _ => none
set_option maxRecDepth 100000 in
theorem impl_Ball_rise_ok : FunOK Try.prog 183 impl_Ball_rise_c.fn := by
  refine con_ok (Γ := gam [(220, impl_Ball_place_c), (192, impl_LessVectors_c), (176, impl_InnerOf_c), (97, impl_SizeOfVector_c)]) (gam_cons impl_Ball_place_ok (gam_cons impl_LessVectors_ok (gam_cons impl_InnerOf_ok (gam_cons impl_SizeOfVector_ok (gam_nil))))) tab_ok (by kernel_rfl) Try.func183 (by kernel_rfl) (by kernel_rfl) Try.ntmps183 Try.results183 (loopsOK_none rfl _) 100000 fun args t h => ?_
  unfold impl_Ball_rise_c at h
  split at h
  · rename_i a0_0 a0_1 a0_2 a0_3 a1_0 a1_1 a1_2 a2_0 a2_1 a2_2 a3
    cases h
    exact ⟨rfl, agree_need (mk := impl_Ball_rise_mk) (t := impl_Ball_rise_tree (⟨a0_0, a0_1, a0_2, a0_3⟩ : Ball) (⟨a1_0, a1_1, a1_2⟩ : Mark) (⟨a2_0, a2_1, a2_2⟩ : Vec) a3) (by unfold Agree; kernel_rfl)⟩
  · cases h

/-- loop.example/g01284/impl.RiseAt -/
def impl_RiseAt_tree (a0 : Ball) (a1 : Mark) (a2 : Vec) (a3 : Nat) : DT (Nat × Bool) :=
  .need ((impl_ValidBall_need (⟨a0.Mass, a0.Radius, a0.Spin, a0.Start⟩ : Ball))) (
  let x0 := impl_ValidBall (⟨a0.Mass, a0.Radius, a0.Spin, a0.Start⟩ : Ball);
  .ask (!x0)
  (
   .leaf (0, false))
  (
   .need ((impl_ValidMark_need (⟨a1.North, a1.East, a1.High⟩ : Mark))) (
   let x1 := impl_ValidMark (⟨a1.North, a1.East, a1.High⟩ : Mark);
   .ask (!x1)
   (
    .leaf (0, false))
   (
    .need ((impl_isFiniteVector_need (⟨a2.X, a2.Y, a2.Z⟩ : Vec))) (
    let x2 := impl_isFiniteVector (⟨a2.X, a2.Y, a2.Z⟩ : Vec);
    .ask (!x2)
    (
     .leaf (0, false))
    (
     .need ((impl_IsFinite_need a3)) (
     let x3 := impl_IsFinite a3;
     .ask (!x3)
     (
      .leaf (0, false))
     (
      .need ((impl_Ball_rise_need (⟨a0.Mass, a0.Radius, a0.Spin, a0.Start⟩ : Ball) (⟨a1.North, a1.East, a1.High⟩ : Mark) (⟨a2.X, a2.Y, a2.Z⟩ : Vec) a3)) (
      let x4 := impl_Ball_rise (⟨a0.Mass, a0.Radius, a0.Spin, a0.Start⟩ : Ball) (⟨a1.North, a1.East, a1.High⟩ : Mark) (⟨a2.X, a2.Y, a2.Z⟩ : Vec) a3;
      .need ((impl_told_need x4)) (
      let x5 := impl_told x4;
      .leaf (x5.1, x5.2)))))))))))
def impl_RiseAt (a0 : Ball) (a1 : Mark) (a2 : Vec) (a3 : Nat) : Nat × Bool := (impl_RiseAt_tree a0 a1 a2 a3).val
def impl_RiseAt_need (a0 : Ball) (a1 : Mark) (a2 : Vec) (a3 : Nat) : Bool := (impl_RiseAt_tree a0 a1 a2 a3).ok
def impl_RiseAt_mk (p : Nat × Bool) : Ret := ⟨.tup [.flt .f32 p.1, .bool p.2], []⟩
def impl_RiseAt_c : Con := fun args => match args with
  | [.agg [.flt .f32 a0_0, .flt .f32 a0_1, .flt .f32 a0_2, .flt .f32 a0_3], .agg [.flt .f32 a1_0, .flt .f32 a1_1, .flt .f32 a1_2], .agg [.flt .f32 a2_0, .flt .f32 a2_1, .flt .f32 a2_2], .flt .f32 a3] => some (.need (impl_RiseAt_need (⟨a0_0, a0_1, a0_2, a0_3⟩ : Ball) (⟨a1_0, a1_1, a1_2⟩ : Mark) (⟨a2_0, a2_1, a2_2⟩ : Vec) a3) (.leaf (impl_RiseAt_mk (impl_RiseAt (⟨a0_0, a0_1, a0_2, a0_3⟩ : Ball) (⟨a1_0, a1_1, a1_2⟩ : Mark) (⟨a2_0, a2_1, a2_2⟩ : Vec) a3))))
  | _ => none
set_option maxRecDepth 100000 in
theorem impl_RiseAt_ok : FunOK Try.prog 115 impl_RiseAt_c.fn := by
  refine con_ok (Γ := gam [(90, impl_ValidBall_c), (98, impl_ValidMark_c), (91, impl_isFiniteVector_c), (92, impl_IsFinite_c), (183, impl_Ball_rise_c), (165, impl_told_c)]) (gam_cons impl_ValidBall_ok (gam_cons impl_ValidMark_ok (gam_cons impl_isFiniteVector_ok (gam_cons impl_IsFinite_ok (gam_cons impl_Ball_rise_ok (gam_cons impl_told_ok (gam_nil))))))) tab_ok (by kernel_rfl) Try.func115 (by kernel_rfl) (by kernel_rfl) Try.ntmps115 Try.results115 (loopsOK_none rfl _) 100000 fun args t h => ?_
  unfold impl_RiseAt_c at h
  split at h
  · rename_i a0_0 a0_1 a0_2 a0_3 a1_0 a1_1 a1_2 a2_0 a2_1 a2_2 a3
    cases h
    exact ⟨rfl, agree_need (mk := impl_RiseAt_mk) (t := impl_RiseAt_tree (⟨a0_0, a0_1, a0_2, a0_3⟩ : Ball) (⟨a1_0, a1_1, a1_2⟩ : Mark) (⟨a2_0, a2_1, a2_2⟩ : Vec) a3) (by unfold Agree; kernel_rfl)⟩
  · cases h

/-- a loop of impl_CoverOf -/
def impl_CoverOf_loop1_step (p : Nat × Nat × Int × Int × Int × Int × Int × Int × Nat × Nat × Nat × Nat × Nat × Nat × Nat) (s : Int × List Bool) : Round (Int × List Bool) ((Unit) ⊕ (List Bool)) :=
  let x0 := decide (s.1 < p.2.2.2.2.2.2.2.1);
  .ask x0
  (
   let x1 := impl_gridMark s.1 p.2.2.2.2.1 p.2.2.1 p.2.2.2.1;
   .need ((impl_RiseAt_need (⟨p.2.2.2.2.2.2.2.2.1, p.2.2.2.2.2.2.2.2.2.1, p.2.2.2.2.2.2.2.2.2.2.1, p.2.2.2.2.2.2.2.2.2.2.2.1⟩ : Ball) (⟨x1.North, x1.East, x1.High⟩ : Mark) (⟨p.2.2.2.2.2.2.2.2.2.2.2.2.1, p.2.2.2.2.2.2.2.2.2.2.2.2.2.1, p.2.2.2.2.2.2.2.2.2.2.2.2.2.2⟩ : Vec) p.1)) (
   let x2 := impl_RiseAt (⟨p.2.2.2.2.2.2.2.2.1, p.2.2.2.2.2.2.2.2.2.1, p.2.2.2.2.2.2.2.2.2.2.1, p.2.2.2.2.2.2.2.2.2.2.2.1⟩ : Ball) (⟨x1.North, x1.East, x1.High⟩ : Mark) (⟨p.2.2.2.2.2.2.2.2.2.2.2.2.1, p.2.2.2.2.2.2.2.2.2.2.2.2.2.1, p.2.2.2.2.2.2.2.2.2.2.2.2.2.2⟩ : Vec) p.1;
   .ask (!x2.2)
   (
    .leaf (.inr (.inl ()), []))
   (
    .need ((impl_SineTurns_need p.2.1)) (
    let x3 := impl_SineTurns p.2.1;
    let x4 := fge .f32 x2.1 x3;
    .need ((decide ((List.length s.2 + List.length [x4]) * 1 ≤ 140737488355328) && decide (List.length s.2 + List.length [x4] ≤ 9223372036854775807))) (
    let x5 := s.2 ++ [x4];
    let x6 := IntKind.wrap .i64 (s.1 + 1);
    .leaf (.inl (x6, x5), [0, 1, 203]))))))
  (
   .leaf (.inr (.inr s.2), [0, 1, 2]))
def impl_CoverOf_loop1_L (p : Nat × Nat × Int × Int × Int × Int × Int × Int × Nat × Nat × Nat × Nat × Nat × Nat × Nat) : LoopS (Int × List Bool) ((Unit) ⊕ (List Bool)) := { tl := fun s => [.junk, .junk, .flt .f32 p.1, .flt .f32 p.2.1, .int .i64 p.2.2.1, .int .i64 p.2.2.2.1, .ptr 0 0, .ptr 1 0, .junk, .junk, .junk, .junk, .junk, .junk, .own 2, .int .i64 p.2.2.2.2.1, .junk, .junk, .junk, .junk, .junk, .junk, .junk, .junk, .junk, .junk, .junk, .junk, .junk, .junk, .junk, .junk, .junk, .junk, .junk, .junk, .junk, .junk, .junk, .junk, .junk, .int .i64 p.2.2.2.2.2.1, .int .i64 p.2.2.2.2.2.2.1, .junk, .junk, .int .i64 p.2.2.2.2.2.2.2.1, .int .i64 s.1], hl := fun s => [some (.cells [.flt .f32 p.2.2.2.2.2.2.2.2.1, .flt .f32 p.2.2.2.2.2.2.2.2.2.1, .flt .f32 p.2.2.2.2.2.2.2.2.2.2.1, .flt .f32 p.2.2.2.2.2.2.2.2.2.2.2.1]), some (.cells [.flt .f32 p.2.2.2.2.2.2.2.2.2.2.2.2.1, .flt .f32 p.2.2.2.2.2.2.2.2.2.2.2.2.2.1, .flt .f32 p.2.2.2.2.2.2.2.2.2.2.2.2.2.2]), some (.typed 4 .bool s.2)], ex := fun r => match r with | .inl r => .ret | .inr r => .exit 2, otl := fun r => match r with | .inl r => [.junk, .junk, .junk, .junk, .junk, .junk, .junk, .junk, .junk, .junk, .junk, .junk, .nils, .bool false] | .inr r => [.junk, .junk, .flt .f32 p.1, .flt .f32 p.2.1, .int .i64 p.2.2.1, .int .i64 p.2.2.2.1, .ptr 0 0, .ptr 1 0, .junk, .junk, .junk, .junk, .junk, .junk, .own 2, .junk, .junk, .junk, .junk, .junk, .junk, .junk, .junk, .junk, .junk, .junk, .junk, .junk, .junk, .junk, .junk, .junk, .junk, .junk, .junk, .junk, .junk, .junk, .junk, .junk, .junk, .int .i64 p.2.2.2.2.2.1, .int .i64 p.2.2.2.2.2.2.1], ohl := fun r => match r with | .inl r => [] | .inr r => [some (.cells [.flt .f32 p.2.2.2.2.2.2.2.2.1, .flt .f32 p.2.2.2.2.2.2.2.2.2.1, .flt .f32 p.2.2.2.2.2.2.2.2.2.2.1, .flt .f32 p.2.2.2.2.2.2.2.2.2.2.2.1]), some (.cells [.flt .f32 p.2.2.2.2.2.2.2.2.2.2.2.2.1, .flt .f32 p.2.2.2.2.2.2.2.2.2.2.2.2.2.1, .flt .f32 p.2.2.2.2.2.2.2.2.2.2.2.2.2.2]), some (.typed 4 .bool r)] }
def impl_CoverOf_loop1_ext : St → Option ((Nat × Nat × Int × Int × Int × Int × Int × Int × Nat × Nat × Nat × Nat × Nat × Nat × Nat) × (Int × List Bool) × List Nat) := fun S => match (S.tm 2).unK, (S.tm 3).unK, (S.tm 4).unK, (S.tm 5).unK, (S.tm 6).unK, (S.tm 7).unK, (S.tm 14).unK, (S.tm 15).unK, (S.tm 41).unK, (S.tm 42).unK, (S.tm 45).unK, (S.tm 46).unK with
  | .flt .f32 q0, .flt .f32 q1, .int .i64 q2, .int .i64 q3, .ptr i0 0, .ptr i1 0, .own i2, .int .i64 q4, .int .i64 q5, .int .i64 q6, .int .i64 q7, .int .i64 q8 => (match S.hp i0 with
    | some (.cells [.flt .f32 q9, .flt .f32 q10, .flt .f32 q11, .flt .f32 q12]) => (match S.hp i1 with
    | some (.cells [.flt .f32 q13, .flt .f32 q14, .flt .f32 q15]) => (match S.hp i2 with
    | some (.typed 4 .bool q16) => (if nodup [i0, i1, i2] = true then some ((q0, q1, q2, q3, q4, q5, q6, q7, q9, q10, q11, q12, q13, q14, q15), (q8, q16), [i0, i1, i2]) else none)
    | _ => none)
    | _ => none)
    | _ => none)
  | _, _, _, _, _, _, _, _, _, _, _, _ => none
def impl_CoverOf_loop1_post (p : Nat × Nat × Int × Int × Int × Int × Int × Int × Nat × Nat × Nat × Nat × Nat × Nat × Nat) (r : (Unit) ⊕ (List Bool)) : DT (Ex × St) := .ask (isL r) (.leaf (.ret, LSt [.junk, .junk, .junk, .junk, .junk, .junk, .junk, .junk, .junk, .junk, .junk, .junk, .nils, .bool false] [])) (.leaf (.exit 2, LSt [.junk, .junk, .flt .f32 p.1, .flt .f32 p.2.1, .int .i64 p.2.2.1, .int .i64 p.2.2.2.1, .ptr 0 0, .ptr 1 0, .junk, .junk, .junk, .junk, .junk, .junk, .own 2, .junk, .junk, .junk, .junk, .junk, .junk, .junk, .junk, .junk, .junk, .junk, .junk, .junk, .junk, .junk, .junk, .junk, .junk, .junk, .junk, .junk, .junk, .junk, .junk, .junk, .junk, .int .i64 p.2.2.2.2.2.1, .int .i64 p.2.2.2.2.2.2.1] [some (.cells [.flt .f32 p.2.2.2.2.2.2.2.2.1, .flt .f32 p.2.2.2.2.2.2.2.2.2.1, .flt .f32 p.2.2.2.2.2.2.2.2.2.2.1, .flt .f32 p.2.2.2.2.2.2.2.2.2.2.2.1]), some (.cells [.flt .f32 p.2.2.2.2.2.2.2.2.2.2.2.2.1, .flt .f32 p.2.2.2.2.2.2.2.2.2.2.2.2.2.1, .flt .f32 p.2.2.2.2.2.2.2.2.2.2.2.2.2.2]), some (.typed 4 .bool ((rightD r)))]))
def impl_CoverOf_loop1 (p : Nat × Nat × Int × Int × Int × Int × Int × Int × Nat × Nat × Nat × Nat × Nat × Nat × Nat) (s : Int × List Bool) : (Unit) ⊕ (List Bool) := loopVal (impl_CoverOf_loop1_step p) s
def impl_CoverOf_loop1_ends (p : Nat × Nat × Int × Int × Int × Int × Int × Int × Nat × Nat × Nat × Nat × Nat × Nat × Nat) (s : Int × List Bool) : Bool := loopEnds (impl_CoverOf_loop1_step p) s
def impl_CoverOf_loop1_F : LoopF := loopF impl_CoverOf_loop1_step impl_CoverOf_loop1_ext impl_CoverOf_loop1_post
theorem impl_CoverOf_loop1_hext : ∀ S p s fl, impl_CoverOf_loop1_ext S = some (p, s, fl) → Norm S fl ((impl_CoverOf_loop1_L p).tl s) ((impl_CoverOf_loop1_L p).hl s) (impl_CoverOf_loop1_L p).gl := by
  intro S p s fl h
  unfold impl_CoverOf_loop1_ext at h
  (repeat' split at h) <;> first
    | (cases h; constructor <;> simp_all [impl_CoverOf_loop1_L, keepT, keepH, rens, renH, PV.ren, Blk.ren, fOf, lget, nodup, natIn, lenEq, gtm, PV.unK])
    | cases h
theorem impl_CoverOf_loop1_hpost : ∀ p r e S', (impl_CoverOf_loop1_post p r).get = some (e, S') → e = (impl_CoverOf_loop1_L p).ex r ∧ S' = LSt ((impl_CoverOf_loop1_L p).otl r) ((impl_CoverOf_loop1_L p).ohl r) ((impl_CoverOf_loop1_L p).ogl r) := by
  intro p r e S' h
  unfold impl_CoverOf_loop1_post at h
  cases r <;> (simp only [isL, DT.get, Option.some.injEq, Prod.mk.injEq] at h; exact ⟨h.1.symm, h.2.symm⟩)

/-- a loop of impl_CoverOf -/
def impl_CoverOf_loop0_step (p : Nat × Nat × Int × Int × Int × Nat × Nat × Nat × Nat × Nat × Nat × Nat) (s : Int × List Bool) : Round (Int × List Bool) ((Unit) ⊕ (List Bool)) :=
  let x0 := decide (s.1 < p.2.2.2.2.1);
  .ask x0
  (
   .need ((impl_CoverOf_loop1_ends (p.1, p.2.1, p.2.2.1, p.2.2.2.1, s.1, p.2.2.2.2.1, s.1, p.2.2.1, p.2.2.2.2.2.1, p.2.2.2.2.2.2.1, p.2.2.2.2.2.2.2.1, p.2.2.2.2.2.2.2.2.1, p.2.2.2.2.2.2.2.2.2.1, p.2.2.2.2.2.2.2.2.2.2.1, p.2.2.2.2.2.2.2.2.2.2.2) (0, s.2))) (
   let x1 := impl_CoverOf_loop1 (p.1, p.2.1, p.2.2.1, p.2.2.2.1, s.1, p.2.2.2.2.1, s.1, p.2.2.1, p.2.2.2.2.2.1, p.2.2.2.2.2.2.1, p.2.2.2.2.2.2.2.1, p.2.2.2.2.2.2.2.2.1, p.2.2.2.2.2.2.2.2.2.1, p.2.2.2.2.2.2.2.2.2.2.1, p.2.2.2.2.2.2.2.2.2.2.2) (0, s.2);
   .ask ((isL x1))
   (
    .leaf (.inr (.inl ()), []))
   (
    let x2 := IntKind.wrap .i64 (s.1 + 1);
    .leaf (.inl (x2, (rightD x1)), [0, 1, 2]))))
  (
   .leaf (.inr (.inr s.2), [2]))
def impl_CoverOf_loop0_L (p : Nat × Nat × Int × Int × Int × Nat × Nat × Nat × Nat × Nat × Nat × Nat) : LoopS (Int × List Bool) ((Unit) ⊕ (List Bool)) := { tl := fun s => [.junk, .junk, .flt .f32 p.1, .flt .f32 p.2.1, .int .i64 p.2.2.1, .int .i64 p.2.2.2.1, .ptr 0 0, .ptr 1 0, .junk, .junk, .junk, .junk, .junk, .junk, .own 2, .junk, .junk, .junk, .junk, .junk, .junk, .junk, .junk, .junk, .junk, .junk, .junk, .junk, .junk, .junk, .junk, .junk, .junk, .junk, .junk, .junk, .junk, .junk, .junk, .junk, .junk, .int .i64 p.2.2.2.2.1, .int .i64 s.1], hl := fun s => [some (.cells [.flt .f32 p.2.2.2.2.2.1, .flt .f32 p.2.2.2.2.2.2.1, .flt .f32 p.2.2.2.2.2.2.2.1, .flt .f32 p.2.2.2.2.2.2.2.2.1]), some (.cells [.flt .f32 p.2.2.2.2.2.2.2.2.2.1, .flt .f32 p.2.2.2.2.2.2.2.2.2.2.1, .flt .f32 p.2.2.2.2.2.2.2.2.2.2.2]), some (.typed 4 .bool s.2)], ex := fun r => match r with | .inl r => .ret | .inr r => .exit 0, otl := fun r => match r with | .inl r => [.junk, .junk, .junk, .junk, .junk, .junk, .junk, .junk, .junk, .junk, .junk, .junk, .nils, .bool false] | .inr r => [.junk, .junk, .junk, .junk, .junk, .junk, .junk, .junk, .junk, .junk, .junk, .junk, .junk, .junk, .own 0], ohl := fun r => match r with | .inl r => [] | .inr r => [some (.typed 4 .bool r)] }
def impl_CoverOf_loop0_ext : St → Option ((Nat × Nat × Int × Int × Int × Nat × Nat × Nat × Nat × Nat × Nat × Nat) × (Int × List Bool) × List Nat) := fun S => match (S.tm 2).unK, (S.tm 3).unK, (S.tm 4).unK, (S.tm 5).unK, (S.tm 6).unK, (S.tm 7).unK, (S.tm 14).unK, (S.tm 41).unK, (S.tm 42).unK with
  | .flt .f32 q0, .flt .f32 q1, .int .i64 q2, .int .i64 q3, .ptr i0 0, .ptr i1 0, .own i2, .int .i64 q4, .int .i64 q5 => (match S.hp i0 with
    | some (.cells [.flt .f32 q6, .flt .f32 q7, .flt .f32 q8, .flt .f32 q9]) => (match S.hp i1 with
    | some (.cells [.flt .f32 q10, .flt .f32 q11, .flt .f32 q12]) => (match S.hp i2 with
    | some (.typed 4 .bool q13) => (if nodup [i0, i1, i2] = true then some ((q0, q1, q2, q3, q4, q6, q7, q8, q9, q10, q11, q12), (q5, q13), [i0, i1, i2]) else none)
    | _ => none)
    | _ => none)
    | _ => none)
  | _, _, _, _, _, _, _, _, _ => none
def impl_CoverOf_loop0_post (p : Nat × Nat × Int × Int × Int × Nat × Nat × Nat × Nat × Nat × Nat × Nat) (r : (Unit) ⊕ (List Bool)) : DT (Ex × St) := .ask (isL r) (.leaf (.ret, LSt [.junk, .junk, .junk, .junk, .junk, .junk, .junk, .junk, .junk, .junk, .junk, .junk, .nils, .bool false] [])) (.leaf (.exit 0, LSt [.junk, .junk, .junk, .junk, .junk, .junk, .junk, .junk, .junk, .junk, .junk, .junk, .junk, .junk, .own 0] [some (.typed 4 .bool ((rightD r)))]))
def impl_CoverOf_loop0 (p : Nat × Nat × Int × Int × Int × Nat × Nat × Nat × Nat × Nat × Nat × Nat) (s : Int × List Bool) : (Unit) ⊕ (List Bool) := loopVal (impl_CoverOf_loop0_step p) s
def impl_CoverOf_loop0_ends (p : Nat × Nat × Int × Int × Int × Nat × Nat × Nat × Nat × Nat × Nat × Nat) (s : Int × List Bool) : Bool := loopEnds (impl_CoverOf_loop0_step p) s
def impl_CoverOf_loop0_F : LoopF := loopF impl_CoverOf_loop0_step impl_CoverOf_loop0_ext impl_CoverOf_loop0_post
theorem impl_CoverOf_loop0_hext : ∀ S p s fl, impl_CoverOf_loop0_ext S = some (p, s, fl) → Norm S fl ((impl_CoverOf_loop0_L p).tl s) ((impl_CoverOf_loop0_L p).hl s) (impl_CoverOf_loop0_L p).gl := by
  intro S p s fl h
  unfold impl_CoverOf_loop0_ext at h
  (repeat' split at h) <;> first
    | (cases h; constructor <;> simp_all [impl_CoverOf_loop0_L, keepT, keepH, rens, renH, PV.ren, Blk.ren, fOf, lget, nodup, natIn, lenEq, gtm, PV.unK])
    | cases h
theorem impl_CoverOf_loop0_hpost : ∀ p r e S', (impl_CoverOf_loop0_post p r).get = some (e, S') → e = (impl_CoverOf_loop0_L p).ex r ∧ S' = LSt ((impl_CoverOf_loop0_L p).otl r) ((impl_CoverOf_loop0_L p).ohl r) ((impl_CoverOf_loop0_L p).ogl r) := by
  intro p r e S' h
  unfold impl_CoverOf_loop0_post at h
  cases r <;> (simp only [isL, DT.get, Option.some.injEq, Prod.mk.injEq] at h; exact ⟨h.1.symm, h.2.symm⟩)

def impl_CoverOf_loops : Nat → Option LoopF := loopTab [(8, impl_CoverOf_loop1_F), (5, impl_CoverOf_loop0_F)]
set_option maxRecDepth 100000 in
theorem impl_CoverOf_l1 : LoopOK Try.prog ⟨gam [(90, impl_ValidBall_c), (91, impl_isFiniteVector_c), (113, impl_areFinite_c), (114, impl_isGrid_c), (116, impl_gridMark_c), (115, impl_RiseAt_c), (108, impl_SineTurns_c)], tab, 73, impl_CoverOf_loops⟩ (lp Try.f35 1) :=
  loopOK_some (F := impl_CoverOf_loop1_F) (by kernel_rfl) (loopF_ok (E := ⟨gam [(90, impl_ValidBall_c), (91, impl_isFiniteVector_c), (113, impl_areFinite_c), (114, impl_isGrid_c), (116, impl_gridMark_c), (115, impl_RiseAt_c), (108, impl_SineTurns_c)], tab, 73, impl_CoverOf_loops⟩) ⟨gam_cons impl_ValidBall_ok (gam_cons impl_isFiniteVector_ok (gam_cons impl_areFinite_ok (gam_cons impl_isGrid_ok (gam_cons impl_gridMark_ok (gam_cons impl_RiseAt_ok (gam_cons impl_SineTurns_ok (gam_nil))))))), tab_ok, by kernel_rfl⟩ (fuel := 100000) (loopsOK_list (l := []) (by kernel_rfl) trivial) (L := impl_CoverOf_loop1_L) (fun p s => by unfold AgreeL; exact ⟨by kernel_rfl, by kernel_rfl⟩) (fun _ r h => by cases r <;> exact Ex.noConfusion h) impl_CoverOf_loop1_hext impl_CoverOf_loop1_hpost)
set_option maxRecDepth 100000 in
theorem impl_CoverOf_l0 : LoopOK Try.prog ⟨gam [(90, impl_ValidBall_c), (91, impl_isFiniteVector_c), (113, impl_areFinite_c), (114, impl_isGrid_c), (116, impl_gridMark_c), (115, impl_RiseAt_c), (108, impl_SineTurns_c)], tab, 73, impl_CoverOf_loops⟩ (lp Try.f35 0) :=
  loopOK_some (F := impl_CoverOf_loop0_F) (by kernel_rfl) (loopF_ok (E := ⟨gam [(90, impl_ValidBall_c), (91, impl_isFiniteVector_c), (113, impl_areFinite_c), (114, impl_isGrid_c), (116, impl_gridMark_c), (115, impl_RiseAt_c), (108, impl_SineTurns_c)], tab, 73, impl_CoverOf_loops⟩) ⟨gam_cons impl_ValidBall_ok (gam_cons impl_isFiniteVector_ok (gam_cons impl_areFinite_ok (gam_cons impl_isGrid_ok (gam_cons impl_gridMark_ok (gam_cons impl_RiseAt_ok (gam_cons impl_SineTurns_ok (gam_nil))))))), tab_ok, by kernel_rfl⟩ (fuel := 100000) (loopsOK_list (l := [lp Try.f35 1]) (by kernel_rfl) ⟨impl_CoverOf_l1, trivial⟩) (L := impl_CoverOf_loop0_L) (fun p s => by unfold AgreeL; exact ⟨by kernel_rfl, by kernel_rfl⟩) (fun _ r h => by cases r <;> exact Ex.noConfusion h) impl_CoverOf_loop0_hext impl_CoverOf_loop0_hpost)
/-- loop.example/g01284/impl.CoverOf -/
def impl_CoverOf_tree (a0 : Ball) (a1 : Vec) (a2 : Nat) (a3 : Nat) (a4 : Int) (a5 : Int) : DT ((Unit) ⊕ (List Bool)) :=
  .need ((impl_ValidBall_need (⟨a0.Mass, a0.Radius, a0.Spin, a0.Start⟩ : Ball))) (
  let x0 := impl_ValidBall (⟨a0.Mass, a0.Radius, a0.Spin, a0.Start⟩ : Ball);
  .ask (!x0)
  (
   .leaf (.inl ()))
  (
   .need ((impl_isFiniteVector_need (⟨a1.X, a1.Y, a1.Z⟩ : Vec))) (
   let x1 := impl_isFiniteVector (⟨a1.X, a1.Y, a1.Z⟩ : Vec);
   .ask (!x1)
   (
    .leaf (.inl ()))
   (
    .need ((impl_areFinite_need ([a2, a3]))) (
    let x2 := impl_areFinite ([a2, a3]);
    .ask (!x2)
    (
     .leaf (.inl ()))
    (
     let x3 := impl_isGrid a4 a5;
     .ask (!x3)
     (
      .leaf (.inl ()))
     (
      .need ((impl_CoverOf_loop0_ends (a2, a3, a4, a5, a5, a0.Mass, a0.Radius, a0.Spin, a0.Start, a1.X, a1.Y, a1.Z) (0, []))) (
      let x4 := impl_CoverOf_loop0 (a2, a3, a4, a5, a5, a0.Mass, a0.Radius, a0.Spin, a0.Start, a1.X, a1.Y, a1.Z) (0, []);
      .ask ((isL x4))
      (
       .leaf (.inl ()))
      (
       .leaf (.inr ((rightD x4))))))))))))
def impl_CoverOf (a0 : Ball) (a1 : Vec) (a2 : Nat) (a3 : Nat) (a4 : Int) (a5 : Int) : (Unit) ⊕ (List Bool) := (impl_CoverOf_tree a0 a1 a2 a3 a4 a5).val
def impl_CoverOf_need (a0 : Ball) (a1 : Vec) (a2 : Nat) (a3 : Nat) (a4 : Int) (a5 : Int) : Bool := (impl_CoverOf_tree a0 a1 a2 a3 a4 a5).ok
def impl_CoverOf_mk0 (p : Unit) : Ret := ⟨.tup [.nils, .bool false], []⟩
def impl_CoverOf_mk1 (p : List Bool) : Ret := ⟨.tup [.own 0, .bool true], [.typed 4 .bool p]⟩
def impl_CoverOf_mk : (Unit) ⊕ (List Bool) → Ret := fun v => match v with
  | (.inl p) => impl_CoverOf_mk0 p
  | (.inr p) => impl_CoverOf_mk1 p
def impl_CoverOf_forms (v : (Unit) ⊕ (List Bool)) : DT Ret := .ask (isL v) (.leaf (impl_CoverOf_mk0 (leftD v))) (.leaf (impl_CoverOf_mk1 (rightD v)))
theorem impl_CoverOf_forms_get : ∀ v, (impl_CoverOf_forms v).get = some (impl_CoverOf_mk v) := by
  intro v
  rcases v with v | v <;> rfl
def impl_CoverOf_c : Con := fun args => match args with
  | [.agg [.flt .f32 a0_0, .flt .f32 a0_1, .flt .f32 a0_2, .flt .f32 a0_3], .agg [.flt .f32 a1_0, .flt .f32 a1_1, .flt .f32 a1_2], .flt .f32 a2, .flt .f32 a3, .int .i64 a4, .int .i64 a5] => some (.need (impl_CoverOf_need (⟨a0_0, a0_1, a0_2, a0_3⟩ : Ball) (⟨a1_0, a1_1, a1_2⟩ : Vec) a2 a3 a4 a5) (impl_CoverOf_forms (impl_CoverOf (⟨a0_0, a0_1, a0_2, a0_3⟩ : Ball) (⟨a1_0, a1_1, a1_2⟩ : Vec) a2 a3 a4 a5)))
  | _ => none
set_option maxRecDepth 100000 in
theorem impl_CoverOf_ok : FunOK Try.prog 35 impl_CoverOf_c.fn := by
  refine con_ok (Γ := gam [(90, impl_ValidBall_c), (91, impl_isFiniteVector_c), (113, impl_areFinite_c), (114, impl_isGrid_c), (116, impl_gridMark_c), (115, impl_RiseAt_c), (108, impl_SineTurns_c)]) (gam_cons impl_ValidBall_ok (gam_cons impl_isFiniteVector_ok (gam_cons impl_areFinite_ok (gam_cons impl_isGrid_ok (gam_cons impl_gridMark_ok (gam_cons impl_RiseAt_ok (gam_cons impl_SineTurns_ok (gam_nil)))))))) tab_ok (by kernel_rfl) Try.func35 (by kernel_rfl) (by kernel_rfl) Try.ntmps35 Try.results35 (loops := impl_CoverOf_loops) (loopsOK_list (l := [lp Try.f35 0, lp Try.f35 1]) (by kernel_rfl) ⟨impl_CoverOf_l0, ⟨impl_CoverOf_l1, trivial⟩⟩) 100000 fun args t h => ?_
  unfold impl_CoverOf_c at h
  split at h
  · rename_i a0_0 a0_1 a0_2 a0_3 a1_0 a1_1 a1_2 a2 a3 a4 a5
    cases h
    exact ⟨rfl, agree_forms (mk := impl_CoverOf_mk) (t := impl_CoverOf_tree (⟨a0_0, a0_1, a0_2, a0_3⟩ : Ball) (⟨a1_0, a1_1, a1_2⟩ : Vec) a2 a3 a4 a5) (by unfold Agree; kernel_rfl) (fun h => h) (impl_CoverOf_forms_get _)⟩
  · cases h

/-- a loop of laws_eqBoolS -/
def laws_eqBoolS_loop0_step (p : List Bool × List Bool) (s : Int) : Round (Int) ((Unit) ⊕ (Unit)) :=
  let x0 := ((List.length p.1 : Nat) : Int);
  let x1 := decide (s < x0);
  .ask x1
  (
   .need ((decide (0 ≤ s) && decide (s < ((List.length p.1 : Nat) : Int)))) (
   let x2 := List.getD p.1 (Int.toNat s) default;
   .need ((decide (0 ≤ s) && decide (s < ((List.length p.2 : Nat) : Int)))) (
   let x3 := List.getD p.2 (Int.toNat s) default;
   let x4 := (!(x2 == x3));
   .ask x4
   (
    .leaf (.inr (.inl ()), []))
   (
    let x5 := IntKind.wrap .i64 (s + 1);
    .leaf (.inl x5, [])))))
  (
   .leaf (.inr (.inr ()), []))
def laws_eqBoolS_loop0_L (p : List Bool × List Bool) : LoopS (Int) ((Unit) ⊕ (Unit)) := { tl := fun s => [.vslc 1 .bool p.1, .vslc 2 .bool p.2, .junk, .junk, .junk, .int .i64 s], hl := fun s => [], ex := fun r => match r with | .inl r => .ret | .inr r => .exit 0, otl := fun r => match r with | .inl r => [.junk, .junk, .junk, .junk, .bool false] | .inr r => [.junk], ohl := fun r => match r with | .inl r => [] | .inr r => [] }
def laws_eqBoolS_loop0_ext : St → Option ((List Bool × List Bool) × (Int) × List Nat) := fun S => match (S.tm 0).unK, (S.tm 1).unK, (S.tm 5).unK with
  | .vslc 1 .bool q0, .vslc 2 .bool q1, .int .i64 q2 => some ((q0, q1), q2, [])
  | _, _, _ => none
def laws_eqBoolS_loop0_post (p : List Bool × List Bool) (r : (Unit) ⊕ (Unit)) : DT (Ex × St) := .ask (isL r) (.leaf (.ret, LSt [.junk, .junk, .junk, .junk, .bool false] [])) (.leaf (.exit 0, LSt [.junk] []))
def laws_eqBoolS_loop0 (p : List Bool × List Bool) (s : Int) : (Unit) ⊕ (Unit) := loopVal (laws_eqBoolS_loop0_step p) s
def laws_eqBoolS_loop0_ends (p : List Bool × List Bool) (s : Int) : Bool := loopEnds (laws_eqBoolS_loop0_step p) s
def laws_eqBoolS_loop0_F : LoopF := loopF laws_eqBoolS_loop0_step laws_eqBoolS_loop0_ext laws_eqBoolS_loop0_post
theorem laws_eqBoolS_loop0_hext : ∀ S p s fl, laws_eqBoolS_loop0_ext S = some (p, s, fl) → Norm S fl ((laws_eqBoolS_loop0_L p).tl s) ((laws_eqBoolS_loop0_L p).hl s) (laws_eqBoolS_loop0_L p).gl := by
  intro S p s fl h
  unfold laws_eqBoolS_loop0_ext at h
  (repeat' split at h) <;> first
    | (cases h; constructor <;> simp_all [laws_eqBoolS_loop0_L, keepT, keepH, rens, renH, PV.ren, Blk.ren, fOf, lget, nodup, natIn, lenEq, gtm, PV.unK])
    | cases h
theorem laws_eqBoolS_loop0_hpost : ∀ p r e S', (laws_eqBoolS_loop0_post p r).get = some (e, S') → e = (laws_eqBoolS_loop0_L p).ex r ∧ S' = LSt ((laws_eqBoolS_loop0_L p).otl r) ((laws_eqBoolS_loop0_L p).ohl r) ((laws_eqBoolS_loop0_L p).ogl r) := by
  intro p r e S' h
  unfold laws_eqBoolS_loop0_post at h
  cases r <;> (simp only [isL, DT.get, Option.some.injEq, Prod.mk.injEq] at h; exact ⟨h.1.symm, h.2.symm⟩)

def laws_eqBoolS_loops : Nat → Option LoopF := loopTab [(4, laws_eqBoolS_loop0_F)]
set_option maxRecDepth 100000 in
theorem laws_eqBoolS_l0 : LoopOK Try.prog ⟨gam [], tab, 26, laws_eqBoolS_loops⟩ (lp Try.f36 0) :=
  loopOK_some (F := laws_eqBoolS_loop0_F) (by kernel_rfl) (loopF_ok (E := ⟨gam [], tab, 26, laws_eqBoolS_loops⟩) ⟨gam_nil, tab_ok, by kernel_rfl⟩ (fuel := 100000) (loopsOK_list (l := []) (by kernel_rfl) trivial) (L := laws_eqBoolS_loop0_L) (fun p s => by unfold AgreeL; exact ⟨by kernel_rfl, by kernel_rfl⟩) (fun _ r h => by cases r <;> exact Ex.noConfusion h) laws_eqBoolS_loop0_hext laws_eqBoolS_loop0_hpost)
/-- loop.example/g01284/laws.eqBoolS -/
def laws_eqBoolS_tree (a0 : List Bool) (a1 : List Bool) : DT (Bool) :=
  let x0 := ((List.length a0 : Nat) : Int);
  let x1 := ((List.length a1 : Nat) : Int);
  let x2 := (x0 != x1);
  .ask x2
  (
   .leaf false)
  (
   .need ((laws_eqBoolS_loop0_ends (a0, a1) 0)) (
   let x3 := laws_eqBoolS_loop0 (a0, a1) 0;
   .ask ((isL x3))
   (
    .leaf false)
   (
    .leaf true)))
def laws_eqBoolS (a0 : List Bool) (a1 : List Bool) : Bool := (laws_eqBoolS_tree a0 a1).val
def laws_eqBoolS_need (a0 : List Bool) (a1 : List Bool) : Bool := (laws_eqBoolS_tree a0 a1).ok
def laws_eqBoolS_mk (p : Bool) : Ret := ⟨.bool p, []⟩
def laws_eqBoolS_c0 : Con := fun args => match args with
  | [.vslc 1 .bool a0, .vslc 2 .bool a1] => some (.need (laws_eqBoolS_need a0 a1) (.leaf (laws_eqBoolS_mk (laws_eqBoolS a0 a1))))
  | _ => none
set_option maxRecDepth 100000 in
theorem laws_eqBoolS_ok0 : FunOK Try.prog 36 laws_eqBoolS_c0.fn := by
  refine con_ok (Γ := gam []) (gam_nil) tab_ok (by kernel_rfl) Try.func36 (by kernel_rfl) (by kernel_rfl) Try.ntmps36 Try.results36 (loops := laws_eqBoolS_loops) (loopsOK_list (l := [lp Try.f36 0]) (by kernel_rfl) ⟨laws_eqBoolS_l0, trivial⟩) 100000 fun args t h => ?_
  unfold laws_eqBoolS_c0 at h
  split at h
  · rename_i a0 a1
    cases h
    exact ⟨rfl, agree_need (mk := laws_eqBoolS_mk) (t := laws_eqBoolS_tree a0 a1) (by unfold Agree; kernel_rfl)⟩
  · cases h
def laws_eqBoolS_c : Con := fun args => laws_eqBoolS_c0 (norms 0 [.slc .bool, .slc .bool] args)
set_option maxRecDepth 100000 in
theorem laws_eqBoolS_ok : FunOK Try.prog 36 laws_eqBoolS_c.fn := con_norm [.slc .bool, .slc .bool] laws_eqBoolS_ok0

/-- a loop of laws_markBoolS -/
def laws_markBoolS_loop0_step (p : Unit) (s : Int × Int × List Bool) : Round (Int × Int × List Bool) (Int × List Bool) :=
  let x0 := ((List.length s.2.2 : Nat) : Int);
  let x1 := decide (s.2.1 < x0);
  .ask x1
  (
   .skip (
   let x2 := Int.tmod s.1 3;
   let x3 := (x2 == 0);
   .need ((decide (0 ≤ s.2.1) && decide (s.2.1 < ((List.length s.2.2 : Nat) : Int)))) (
   .need ((decide ((Int.toNat s.2.1) < List.length s.2.2))) (
   let x4 := List.set s.2.2 (Int.toNat s.2.1) x3;
   let x5 := IntKind.wrap .i64 (s.1 + 1);
   let x6 := IntKind.wrap .i64 (s.2.1 + 1);
   .leaf (.inl (x5, x6, x4), [0])))))
  (
   .leaf (.inr (s.1, s.2.2), [0]))
def laws_markBoolS_loop0_L (p : Unit) : LoopS (Int × Int × List Bool) (Int × List Bool) := { tl := fun s => [.own 0, .int .i64 s.1, .junk, .junk, .junk, .int .i64 s.2.1], hl := fun s => [some (.typed 4 .bool s.2.2)], ex := fun r => .exit 0, otl := fun r => [.junk, .int .i64 r.1], ohl := fun r => [some (.typed 4 .bool r.2)], gl := [.own 0], ogl := fun _ => [.own 0] }
def laws_markBoolS_loop0_ext : St → Option ((Unit) × (Int × Int × List Bool) × List Nat) := fun S => match (S.tm 0).unK, (S.tm 1).unK, (S.tm 5).unK with
  | .own i0, .int .i64 q0, .int .i64 q1 => (match S.gs with
    | [.own g0] => if g0 = i0 then (match S.hp i0 with
    | some (.typed 4 .bool q2) => some ((), (q0, q1, q2), [i0])
    | _ => none) else none
    | _ => none)
  | _, _, _ => none
def laws_markBoolS_loop0_post (p : Unit) (r : Int × List Bool) : DT (Ex × St) := .leaf (.exit 0, LSt [.junk, .int .i64 r.1] [some (.typed 4 .bool r.2)] [.own 0])
def laws_markBoolS_loop0 (p : Unit) (s : Int × Int × List Bool) : Int × List Bool := loopVal (laws_markBoolS_loop0_step p) s
def laws_markBoolS_loop0_ends (p : Unit) (s : Int × Int × List Bool) : Bool := loopEnds (laws_markBoolS_loop0_step p) s
def laws_markBoolS_loop0_F : LoopF := loopF laws_markBoolS_loop0_step laws_markBoolS_loop0_ext laws_markBoolS_loop0_post
theorem laws_markBoolS_loop0_hext : ∀ S p s fl, laws_markBoolS_loop0_ext S = some (p, s, fl) → Norm S fl ((laws_markBoolS_loop0_L p).tl s) ((laws_markBoolS_loop0_L p).hl s) (laws_markBoolS_loop0_L p).gl := by
  intro S p s fl h
  unfold laws_markBoolS_loop0_ext at h
  (repeat' split at h) <;> first
    | (cases h; constructor <;> simp_all [laws_markBoolS_loop0_L, keepT, keepH, rens, renH, PV.ren, Blk.ren, fOf, lget, nodup, natIn, lenEq, gtm, PV.unK])
    | cases h
theorem laws_markBoolS_loop0_hpost : ∀ p r e S', (laws_markBoolS_loop0_post p r).get = some (e, S') → e = (laws_markBoolS_loop0_L p).ex r ∧ S' = LSt ((laws_markBoolS_loop0_L p).otl r) ((laws_markBoolS_loop0_L p).ohl r) ((laws_markBoolS_loop0_L p).ogl r) := by
  intro p r e S' h
  unfold laws_markBoolS_loop0_post at h
  simp only [DT.get, Option.some.injEq, Prod.mk.injEq] at h; exact ⟨h.1.symm, h.2.symm⟩

def laws_markBoolS_loops : Nat → Option LoopF := loopTab [(2, laws_markBoolS_loop0_F)]
set_option maxRecDepth 100000 in
theorem laws_markBoolS_l0 : LoopOK Try.prog ⟨gam [], tab, 21, laws_markBoolS_loops⟩ (lp Try.f37 0) :=
  loopOK_some (F := laws_markBoolS_loop0_F) (by kernel_rfl) (loopF_ok (E := ⟨gam [], tab, 21, laws_markBoolS_loops⟩) ⟨gam_nil, tab_ok, by kernel_rfl⟩ (fuel := 100000) (loopsOK_list (l := []) (by kernel_rfl) trivial) (L := laws_markBoolS_loop0_L) (fun p s => by unfold AgreeL; exact ⟨by kernel_rfl, by kernel_rfl⟩) (fun _ _ h => Ex.noConfusion h) laws_markBoolS_loop0_hext laws_markBoolS_loop0_hpost)
/-- loop.example/g01284/laws.markBoolS -/
def laws_markBoolS_tree (a0 : List Bool) (a1 : Int) : DT (Int × List Bool) :=
  .need ((laws_markBoolS_loop0_ends () (a1, 0, a0))) (
  let x0 := laws_markBoolS_loop0 () (a1, 0, a0);
  .leaf (x0.1, x0.2))
def laws_markBoolS (a0 : List Bool) (a1 : Int) : Int × List Bool := (laws_markBoolS_tree a0 a1).val
def laws_markBoolS_need (a0 : List Bool) (a1 : Int) : Bool := (laws_markBoolS_tree a0 a1).ok
def laws_markBoolS_mk (p : Int × List Bool) : PV × List (.bool : UC).T := (.int .i64 p.1, p.2)
def laws_markBoolS_M : MCon := ⟨4, .bool, fun a0 ps => match ps with
  | [.int .i64 a1] => some (.need (laws_markBoolS_need a0 a1) (.leaf (laws_markBoolS_mk (laws_markBoolS a0 a1))))
  | _ => none⟩
set_option maxRecDepth 100000 in
theorem laws_markBoolS_ok : MutOK Try.prog 37 laws_markBoolS_M := by
  refine mut_ok (Γ := gam []) (gam_nil) tab_ok (by kernel_rfl) Try.func37 (by kernel_rfl) (by kernel_rfl) Try.ntmps37 Try.results37 (loops := laws_markBoolS_loops) (loopsOK_list (l := [lp Try.f37 0]) (by kernel_rfl) ⟨laws_markBoolS_l0, trivial⟩) 100000 fun a0 ps t h => ?_
  simp only [laws_markBoolS_M] at h
  split at h
  · rename_i a1
    cases h
    exact ⟨rfl, agreeM_need (mk := laws_markBoolS_mk) (t := laws_markBoolS_tree a0 a1) (by unfold AgreeM; kernel_rfl)⟩
  · cases h

/-- a loop of laws_heldBoolS -/
def laws_heldBoolS_loop0_step (p : List Bool) (s : Int × Int) : Round (Int × Int) ((Int) ⊕ (Int)) :=
  let x0 := ((List.length p : Nat) : Int);
  let x1 := decide (s.2 < x0);
  .ask x1
  (
   .need ((decide (0 ≤ s.2) && decide (s.2 < ((List.length p : Nat) : Int)))) (
   let x2 := List.getD p (Int.toNat s.2) default;
   .skip (
   let x3 := Int.tmod s.1 3;
   let x4 := (x3 == 0);
   let x5 := (!(x2 == x4));
   .ask x5
   (
    .leaf (.inr (.inl (-1)), []))
   (
    let x6 := IntKind.wrap .i64 (s.1 + 1);
    let x7 := IntKind.wrap .i64 (s.2 + 1);
    .leaf (.inl (x6, x7), [])))))
  (
   .leaf (.inr (.inr s.1), []))
def laws_heldBoolS_loop0_L (p : List Bool) : LoopS (Int × Int) ((Int) ⊕ (Int)) := { tl := fun s => [.vslc 1 .bool p, .int .i64 s.1, .junk, .junk, .junk, .int .i64 s.2], hl := fun s => [], ex := fun r => match r with | .inl r => .ret | .inr r => .exit 0, otl := fun r => match r with | .inl r => [.junk, .junk, .junk, .junk, .int .i64 r] | .inr r => [.junk, .int .i64 r], ohl := fun r => match r with | .inl r => [] | .inr r => [] }
def laws_heldBoolS_loop0_ext : St → Option ((List Bool) × (Int × Int) × List Nat) := fun S => match (S.tm 0).unK, (S.tm 1).unK, (S.tm 5).unK with
  | .vslc 1 .bool q0, .int .i64 q1, .int .i64 q2 => some (q0, (q1, q2), [])
  | _, _, _ => none
def laws_heldBoolS_loop0_post (p : List Bool) (r : (Int) ⊕ (Int)) : DT (Ex × St) := .ask (isL r) (.leaf (.ret, LSt [.junk, .junk, .junk, .junk, .int .i64 ((leftD r))] [])) (.leaf (.exit 0, LSt [.junk, .int .i64 ((rightD r))] []))
def laws_heldBoolS_loop0 (p : List Bool) (s : Int × Int) : (Int) ⊕ (Int) := loopVal (laws_heldBoolS_loop0_step p) s
def laws_heldBoolS_loop0_ends (p : List Bool) (s : Int × Int) : Bool := loopEnds (laws_heldBoolS_loop0_step p) s
def laws_heldBoolS_loop0_F : LoopF := loopF laws_heldBoolS_loop0_step laws_heldBoolS_loop0_ext laws_heldBoolS_loop0_post
theorem laws_heldBoolS_loop0_hext : ∀ S p s fl, laws_heldBoolS_loop0_ext S = some (p, s, fl) → Norm S fl ((laws_heldBoolS_loop0_L p).tl s) ((laws_heldBoolS_loop0_L p).hl s) (laws_heldBoolS_loop0_L p).gl := by
  intro S p s fl h
  unfold laws_heldBoolS_loop0_ext at h
  (repeat' split at h) <;> first
    | (cases h; constructor <;> simp_all [laws_heldBoolS_loop0_L, keepT, keepH, rens, renH, PV.ren, Blk.ren, fOf, lget, nodup, natIn, lenEq, gtm, PV.unK])
    | cases h
theorem laws_heldBoolS_loop0_hpost : ∀ p r e S', (laws_heldBoolS_loop0_post p r).get = some (e, S') → e = (laws_heldBoolS_loop0_L p).ex r ∧ S' = LSt ((laws_heldBoolS_loop0_L p).otl r) ((laws_heldBoolS_loop0_L p).ohl r) ((laws_heldBoolS_loop0_L p).ogl r) := by
  intro p r e S' h
  unfold laws_heldBoolS_loop0_post at h
  cases r <;> (simp only [isL, DT.get, Option.some.injEq, Prod.mk.injEq] at h; exact ⟨h.1.symm, h.2.symm⟩)

def laws_heldBoolS_loops : Nat → Option LoopF := loopTab [(2, laws_heldBoolS_loop0_F)]
set_option maxRecDepth 100000 in
theorem laws_heldBoolS_l0 : LoopOK Try.prog ⟨gam [], tab, 23, laws_heldBoolS_loops⟩ (lp Try.f38 0) :=
  loopOK_some (F := laws_heldBoolS_loop0_F) (by kernel_rfl) (loopF_ok (E := ⟨gam [], tab, 23, laws_heldBoolS_loops⟩) ⟨gam_nil, tab_ok, by kernel_rfl⟩ (fuel := 100000) (loopsOK_list (l := []) (by kernel_rfl) trivial) (L := laws_heldBoolS_loop0_L) (fun p s => by unfold AgreeL; exact ⟨by kernel_rfl, by kernel_rfl⟩) (fun _ r h => by cases r <;> exact Ex.noConfusion h) laws_heldBoolS_loop0_hext laws_heldBoolS_loop0_hpost)
/-- loop.example/g01284/laws.heldBoolS -/
def laws_heldBoolS_tree (a0 : List Bool) (a1 : Int) : DT (Int) :=
  .need ((laws_heldBoolS_loop0_ends a0 (a1, 0))) (
  let x0 := laws_heldBoolS_loop0 a0 (a1, 0);
  .ask ((isL x0))
  (
   .leaf ((leftD x0)))
  (
   .leaf ((rightD x0))))
def laws_heldBoolS (a0 : List Bool) (a1 : Int) : Int := (laws_heldBoolS_tree a0 a1).val
def laws_heldBoolS_need (a0 : List Bool) (a1 : Int) : Bool := (laws_heldBoolS_tree a0 a1).ok
def laws_heldBoolS_mk (p : Int) : Ret := ⟨.int .i64 p, []⟩
def laws_heldBoolS_c0 : Con := fun args => match args with
  | [.vslc 1 .bool a0, .int .i64 a1] => some (.need (laws_heldBoolS_need a0 a1) (.leaf (laws_heldBoolS_mk (laws_heldBoolS a0 a1))))
  | _ => none
set_option maxRecDepth 100000 in
theorem laws_heldBoolS_ok0 : FunOK Try.prog 38 laws_heldBoolS_c0.fn := by
  refine con_ok (Γ := gam []) (gam_nil) tab_ok (by kernel_rfl) Try.func38 (by kernel_rfl) (by kernel_rfl) Try.ntmps38 Try.results38 (loops := laws_heldBoolS_loops) (loopsOK_list (l := [lp Try.f38 0]) (by kernel_rfl) ⟨laws_heldBoolS_l0, trivial⟩) 100000 fun args t h => ?_
  unfold laws_heldBoolS_c0 at h
  split at h
  · rename_i a0 a1
    cases h
    exact ⟨rfl, agree_need (mk := laws_heldBoolS_mk) (t := laws_heldBoolS_tree a0 a1) (by unfold Agree; kernel_rfl)⟩
  · cases h
def laws_heldBoolS_c : Con := fun args => laws_heldBoolS_c0 (norms 0 [.slc .bool, .none] args)
set_option maxRecDepth 100000 in
theorem laws_heldBoolS_ok : FunOK Try.prog 38 laws_heldBoolS_c.fn := con_norm [.slc .bool, .none] laws_heldBoolS_ok0

/-- loop.example/g01284/laws.FnExactCoverOf -/
def laws_FnExactCoverOf_tree (a0 : Ball) (a1 : Vec) (a2 : Nat) (a3 : Nat) (a4 : Int) (a5 : Int) : DT (Bool) :=
  let x0 := laws_toBall (⟨a0.Mass, a0.Radius, a0.Spin, a0.Start⟩ : Ball);
  let x1 := laws_toVector (⟨a1.X, a1.Y, a1.Z⟩ : Vec);
  .need ((spec_CoverOf_need (⟨x0.Mass, x0.Radius, x0.Spin, x0.Start⟩ : Ball) (⟨x1.X, x1.Y, x1.Z⟩ : Vec) a2 a3 a4 a5)) (
  let x2 := spec_CoverOf (⟨x0.Mass, x0.Radius, x0.Spin, x0.Start⟩ : Ball) (⟨x1.X, x1.Y, x1.Z⟩ : Vec) a2 a3 a4 a5;
  .ask ((isL x2))
  (
   let x3 := laws_toBall (⟨a0.Mass, a0.Radius, a0.Spin, a0.Start⟩ : Ball);
   let x4 := laws_toVector (⟨a1.X, a1.Y, a1.Z⟩ : Vec);
   .need ((impl_CoverOf_need (⟨x3.Mass, x3.Radius, x3.Spin, x3.Start⟩ : Ball) (⟨x4.X, x4.Y, x4.Z⟩ : Vec) a2 a3 a4 a5)) (
   let x5 := impl_CoverOf (⟨x3.Mass, x3.Radius, x3.Spin, x3.Start⟩ : Ball) (⟨x4.X, x4.Y, x4.Z⟩ : Vec) a2 a3 a4 a5;
   .ask ((isL x5))
   (
    .need ((laws_eqBoolS_need [] [])) (
    let x6 := laws_eqBoolS [] [];
    .ask (!x6)
    (
     .leaf false)
    (
     .skip (
     .need ((laws_markBoolS_need [] 1)) (
     let x7 := laws_markBoolS [] 1;
     .need ((laws_heldBoolS_need [] 1)) (
     let x8 := laws_heldBoolS [] 1;
     let x9 := decide (x8 < 0);
     .ask x9
     (
      .leaf false)
     (
      let x10 := (x8 != x7.1);
      .ask x10
      (
       .leaf false)
      (
       let x11 := laws_toBall (⟨a0.Mass, a0.Radius, a0.Spin, a0.Start⟩ : Ball);
       let x12 := laws_toVector (⟨a1.X, a1.Y, a1.Z⟩ : Vec);
       .need ((impl_CoverOf_need (⟨x11.Mass, x11.Radius, x11.Spin, x11.Start⟩ : Ball) (⟨x12.X, x12.Y, x12.Z⟩ : Vec) a2 a3 a4 a5)) (
       let x13 := impl_CoverOf (⟨x11.Mass, x11.Radius, x11.Spin, x11.Start⟩ : Ball) (⟨x12.X, x12.Y, x12.Z⟩ : Vec) a2 a3 a4 a5;
       .ask ((isL x13))
       (
        .need ((laws_eqBoolS_need [] [])) (
        let x14 := laws_eqBoolS [] [];
        .ask (!x14)
        (
         .leaf false)
        (
         .skip (
         .need ((laws_heldBoolS_need [] 1)) (
         let x15 := laws_heldBoolS [] 1;
         let x16 := decide (x15 < 0);
         .ask x16
         (
          .leaf false)
         (
          let x17 := (x15 != x7.1);
          .ask x17
          (
           .leaf false)
          (
           .leaf true)))))))
       (
        .need ((laws_eqBoolS_need ((rightD x13)) [])) (
        let x14 := laws_eqBoolS ((rightD x13)) [];
        .ask (!x14)
        (
         .leaf false)
        (
         .skip (
         .leaf false)))))))))))))
   (
    .need ((laws_eqBoolS_need ((rightD x5)) [])) (
    let x6 := laws_eqBoolS ((rightD x5)) [];
    .ask (!x6)
    (
     .leaf false)
    (
     .skip (
     .leaf false))))))
  (
   let x3 := laws_toBall (⟨a0.Mass, a0.Radius, a0.Spin, a0.Start⟩ : Ball);
   let x4 := laws_toVector (⟨a1.X, a1.Y, a1.Z⟩ : Vec);
   .need ((impl_CoverOf_need (⟨x3.Mass, x3.Radius, x3.Spin, x3.Start⟩ : Ball) (⟨x4.X, x4.Y, x4.Z⟩ : Vec) a2 a3 a4 a5)) (
   let x5 := impl_CoverOf (⟨x3.Mass, x3.Radius, x3.Spin, x3.Start⟩ : Ball) (⟨x4.X, x4.Y, x4.Z⟩ : Vec) a2 a3 a4 a5;
   .ask ((isL x5))
   (
    .need ((laws_eqBoolS_need [] ((rightD x2)))) (
    let x6 := laws_eqBoolS [] ((rightD x2));
    .ask (!x6)
    (
     .leaf false)
    (
     .skip (
     .leaf false))))
   (
    .need ((laws_eqBoolS_need ((rightD x5)) ((rightD x2)))) (
    let x6 := laws_eqBoolS ((rightD x5)) ((rightD x2));
    .ask (!x6)
    (
     .leaf false)
    (
     .skip (
     .need ((laws_markBoolS_need ((rightD x5)) 1)) (
     let x7 := laws_markBoolS ((rightD x5)) 1;
     .need ((laws_heldBoolS_need x7.2 1)) (
     let x8 := laws_heldBoolS x7.2 1;
     let x9 := decide (x8 < 0);
     .ask x9
     (
      .leaf false)
     (
      let x10 := (x8 != x7.1);
      .ask x10
      (
       .leaf false)
      (
       let x11 := laws_toBall (⟨a0.Mass, a0.Radius, a0.Spin, a0.Start⟩ : Ball);
       let x12 := laws_toVector (⟨a1.X, a1.Y, a1.Z⟩ : Vec);
       .need ((impl_CoverOf_need (⟨x11.Mass, x11.Radius, x11.Spin, x11.Start⟩ : Ball) (⟨x12.X, x12.Y, x12.Z⟩ : Vec) a2 a3 a4 a5)) (
       let x13 := impl_CoverOf (⟨x11.Mass, x11.Radius, x11.Spin, x11.Start⟩ : Ball) (⟨x12.X, x12.Y, x12.Z⟩ : Vec) a2 a3 a4 a5;
       .ask ((isL x13))
       (
        .need ((laws_eqBoolS_need [] ((rightD x2)))) (
        let x14 := laws_eqBoolS [] ((rightD x2));
        .ask (!x14)
        (
         .leaf false)
        (
         .skip (
         .leaf false))))
       (
        .need ((laws_eqBoolS_need ((rightD x13)) ((rightD x2)))) (
        let x14 := laws_eqBoolS ((rightD x13)) ((rightD x2));
        .ask (!x14)
        (
         .leaf false)
        (
         .skip (
         .need ((laws_heldBoolS_need x7.2 1)) (
         let x15 := laws_heldBoolS x7.2 1;
         let x16 := decide (x15 < 0);
         .ask x16
         (
          .leaf false)
         (
          let x17 := (x15 != x7.1);
          .ask x17
          (
           .leaf false)
          (
           .leaf true)))))))))))))))))))
def laws_FnExactCoverOf (a0 : Ball) (a1 : Vec) (a2 : Nat) (a3 : Nat) (a4 : Int) (a5 : Int) : Bool := (laws_FnExactCoverOf_tree a0 a1 a2 a3 a4 a5).val
def laws_FnExactCoverOf_need (a0 : Ball) (a1 : Vec) (a2 : Nat) (a3 : Nat) (a4 : Int) (a5 : Int) : Bool := (laws_FnExactCoverOf_tree a0 a1 a2 a3 a4 a5).ok
def laws_FnExactCoverOf_mk (p : Bool) : Ret := ⟨.bool p, []⟩
def laws_FnExactCoverOf_c : Con := fun args => match args with
  | [.agg [.flt .f32 a0_0, .flt .f32 a0_1, .flt .f32 a0_2, .flt .f32 a0_3], .agg [.flt .f32 a1_0, .flt .f32 a1_1, .flt .f32 a1_2], .flt .f32 a2, .flt .f32 a3, .int .i64 a4, .int .i64 a5] => some (.need (laws_FnExactCoverOf_need (⟨a0_0, a0_1, a0_2, a0_3⟩ : Ball) (⟨a1_0, a1_1, a1_2⟩ : Vec) a2 a3 a4 a5) (.leaf (laws_FnExactCoverOf_mk (laws_FnExactCoverOf (⟨a0_0, a0_1, a0_2, a0_3⟩ : Ball) (⟨a1_0, a1_1, a1_2⟩ : Vec) a2 a3 a4 a5))))
  | _ => none
set_option maxRecDepth 100000 in
theorem laws_FnExactCoverOf_ok : FunOK Try.prog 7 laws_FnExactCoverOf_c.fn := by
  refine con_ok (Γ := gam [(25, laws_toBall_c), (26, laws_toVector_c), (34, spec_CoverOf_c), (35, impl_CoverOf_c), (36, laws_eqBoolS_c), (38, laws_heldBoolS_c)] [(37, laws_markBoolS_M)]) (gam_cons laws_toBall_ok (gam_cons laws_toVector_ok (gam_cons spec_CoverOf_ok (gam_cons impl_CoverOf_ok (gam_cons laws_eqBoolS_ok (gam_cons laws_heldBoolS_ok (gam_mut laws_markBoolS_ok (gam_nil)))))))) tab_ok (by kernel_rfl) Try.func7 (by kernel_rfl) (by kernel_rfl) Try.ntmps7 Try.results7 (loopsOK_none rfl _) 100000 fun args t h => ?_
  unfold laws_FnExactCoverOf_c at h
  split at h
  · rename_i a0_0 a0_1 a0_2 a0_3 a1_0 a1_1 a1_2 a2 a3 a4 a5
    cases h
    exact ⟨rfl, agree_need (mk := laws_FnExactCoverOf_mk) (t := laws_FnExactCoverOf_tree (⟨a0_0, a0_1, a0_2, a0_3⟩ : Ball) (⟨a1_0, a1_1, a1_2⟩ : Vec) a2 a3 a4 a5) (by unfold Agree; kernel_rfl)⟩
  · cases h

/-- loop.example/g01284/spec.CoverShared -/
def spec_CoverShared_tree (a0 : Ball) (a1 : Vec) (a2 : Nat) (a3 : Nat) (a4 : Int) (a5 : Int) (a6 : Int) : DT ((Unit) ⊕ (List Bool)) :=
  let x0 := spec_l00In a6 1 8;
  .ask (!x0)
  (
   .leaf (.inl ()))
  (
   .need ((spec_CoverOf_need (⟨a0.Mass, a0.Radius, a0.Spin, a0.Start⟩ : Ball) (⟨a1.X, a1.Y, a1.Z⟩ : Vec) a2 a3 a4 a5)) (
   let x1 := spec_CoverOf (⟨a0.Mass, a0.Radius, a0.Spin, a0.Start⟩ : Ball) (⟨a1.X, a1.Y, a1.Z⟩ : Vec) a2 a3 a4 a5;
   .ask ((isL x1))
   (
    .leaf (.inl ()))
   (
    .leaf (.inr ((rightD x1))))))
def spec_CoverShared (a0 : Ball) (a1 : Vec) (a2 : Nat) (a3 : Nat) (a4 : Int) (a5 : Int) (a6 : Int) : (Unit) ⊕ (List Bool) := (spec_CoverShared_tree a0 a1 a2 a3 a4 a5 a6).val
def spec_CoverShared_need (a0 : Ball) (a1 : Vec) (a2 : Nat) (a3 : Nat) (a4 : Int) (a5 : Int) (a6 : Int) : Bool := (spec_CoverShared_tree a0 a1 a2 a3 a4 a5 a6).ok
def spec_CoverShared_mk0 (p : Unit) : Ret := ⟨.tup [.nils, .bool false], []⟩
def spec_CoverShared_mk1 (p : List Bool) : Ret := ⟨.tup [.own 0, .bool true], [.typed 4 .bool p]⟩
def spec_CoverShared_mk : (Unit) ⊕ (List Bool) → Ret := fun v => match v with
  | (.inl p) => spec_CoverShared_mk0 p
  | (.inr p) => spec_CoverShared_mk1 p
def spec_CoverShared_forms (v : (Unit) ⊕ (List Bool)) : DT Ret := .ask (isL v) (.leaf (spec_CoverShared_mk0 (leftD v))) (.leaf (spec_CoverShared_mk1 (rightD v)))
theorem spec_CoverShared_forms_get : ∀ v, (spec_CoverShared_forms v).get = some (spec_CoverShared_mk v) := by
  intro v
  rcases v with v | v <;> rfl
def spec_CoverShared_c : Con := fun args => match args with
  | [.agg [.flt .f32 a0_0, .flt .f32 a0_1, .flt .f32 a0_2, .flt .f32 a0_3], .agg [.flt .f32 a1_0, .flt .f32 a1_1, .flt .f32 a1_2], .flt .f32 a2, .flt .f32 a3, .int .i64 a4, .int .i64 a5, .int .i64 a6] => some (.need (spec_CoverShared_need (⟨a0_0, a0_1, a0_2, a0_3⟩ : Ball) (⟨a1_0, a1_1, a1_2⟩ : Vec) a2 a3 a4 a5 a6) (spec_CoverShared_forms (spec_CoverShared (⟨a0_0, a0_1, a0_2, a0_3⟩ : Ball) (⟨a1_0, a1_1, a1_2⟩ : Vec) a2 a3 a4 a5 a6)))
  | _ => none
set_option maxRecDepth 100000 in
theorem spec_CoverShared_ok : FunOK Try.prog 39 spec_CoverShared_c.fn := by
  refine con_ok (Γ := gam [(99, spec_l00In_c), (34, spec_CoverOf_c)]) (gam_cons spec_l00In_ok (gam_cons spec_CoverOf_ok (gam_nil))) tab_ok (by kernel_rfl) Try.func39 (by kernel_rfl) (by kernel_rfl) Try.ntmps39 Try.results39 (loopsOK_none rfl _) 100000 fun args t h => ?_
  unfold spec_CoverShared_c at h
  split at h
  · rename_i a0_0 a0_1 a0_2 a0_3 a1_0 a1_1 a1_2 a2 a3 a4 a5 a6
    cases h
    exact ⟨rfl, agree_forms (mk := spec_CoverShared_mk) (t := spec_CoverShared_tree (⟨a0_0, a0_1, a0_2, a0_3⟩ : Ball) (⟨a1_0, a1_1, a1_2⟩ : Vec) a2 a3 a4 a5 a6) (by unfold Agree; kernel_rfl) (fun h => h) (spec_CoverShared_forms_get _)⟩
  · cases h

/-- loop.example/g01284/impl.CoverShared -/
def impl_CoverShared_tree (a0 : Ball) (a1 : Vec) (a2 : Nat) (a3 : Nat) (a4 : Int) (a5 : Int) (a6 : Int) : DT ((Unit) ⊕ (List Bool)) :=
  let x0 := impl_within a6 1 8;
  .ask (!x0)
  (
   .leaf (.inl ()))
  (
   .need ((impl_CoverOf_need (⟨a0.Mass, a0.Radius, a0.Spin, a0.Start⟩ : Ball) (⟨a1.X, a1.Y, a1.Z⟩ : Vec) a2 a3 a4 a5)) (
   let x1 := impl_CoverOf (⟨a0.Mass, a0.Radius, a0.Spin, a0.Start⟩ : Ball) (⟨a1.X, a1.Y, a1.Z⟩ : Vec) a2 a3 a4 a5;
   .ask ((isL x1))
   (
    .leaf (.inl ()))
   (
    .leaf (.inr ((rightD x1))))))
def impl_CoverShared (a0 : Ball) (a1 : Vec) (a2 : Nat) (a3 : Nat) (a4 : Int) (a5 : Int) (a6 : Int) : (Unit) ⊕ (List Bool) := (impl_CoverShared_tree a0 a1 a2 a3 a4 a5 a6).val
def impl_CoverShared_need (a0 : Ball) (a1 : Vec) (a2 : Nat) (a3 : Nat) (a4 : Int) (a5 : Int) (a6 : Int) : Bool := (impl_CoverShared_tree a0 a1 a2 a3 a4 a5 a6).ok
def impl_CoverShared_mk0 (p : Unit) : Ret := ⟨.tup [.nils, .bool false], []⟩
def impl_CoverShared_mk1 (p : List Bool) : Ret := ⟨.tup [.own 0, .bool true], [.typed 4 .bool p]⟩
def impl_CoverShared_mk : (Unit) ⊕ (List Bool) → Ret := fun v => match v with
  | (.inl p) => impl_CoverShared_mk0 p
  | (.inr p) => impl_CoverShared_mk1 p
def impl_CoverShared_forms (v : (Unit) ⊕ (List Bool)) : DT Ret := .ask (isL v) (.leaf (impl_CoverShared_mk0 (leftD v))) (.leaf (impl_CoverShared_mk1 (rightD v)))
theorem impl_CoverShared_forms_get : ∀ v, (impl_CoverShared_forms v).get = some (impl_CoverShared_mk v) := by
  intro v
  rcases v with v | v <;> rfl
def impl_CoverShared_c : Con := fun args => match args with
  | [.agg [.flt .f32 a0_0, .flt .f32 a0_1, .flt .f32 a0_2, .flt .f32 a0_3], .agg [.flt .f32 a1_0, .flt .f32 a1_1, .flt .f32 a1_2], .flt .f32 a2, .flt .f32 a3, .int .i64 a4, .int .i64 a5, .int .i64 a6] => some (.need (impl_CoverShared_need (⟨a0_0, a0_1, a0_2, a0_3⟩ : Ball) (⟨a1_0, a1_1, a1_2⟩ : Vec) a2 a3 a4 a5 a6) (impl_CoverShared_forms (impl_CoverShared (⟨a0_0, a0_1, a0_2, a0_3⟩ : Ball) (⟨a1_0, a1_1, a1_2⟩ : Vec) a2 a3 a4 a5 a6)))
  | _ => none
set_option maxRecDepth 100000 in
theorem impl_CoverShared_ok : FunOK Try.prog 40 impl_CoverShared_c.fn := by
  refine con_ok (Γ := gam [(105, impl_within_c), (35, impl_CoverOf_c)]) (gam_cons impl_within_ok (gam_cons impl_CoverOf_ok (gam_nil))) tab_ok (by kernel_rfl) Try.func40 (by kernel_rfl) (by kernel_rfl) Try.ntmps40 Try.results40 (loopsOK_none rfl _) 100000 fun args t h => ?_
  unfold impl_CoverShared_c at h
  split at h
  · rename_i a0_0 a0_1 a0_2 a0_3 a1_0 a1_1 a1_2 a2 a3 a4 a5 a6
    cases h
    exact ⟨rfl, agree_forms (mk := impl_CoverShared_mk) (t := impl_CoverShared_tree (⟨a0_0, a0_1, a0_2, a0_3⟩ : Ball) (⟨a1_0, a1_1, a1_2⟩ : Vec) a2 a3 a4 a5 a6) (by unfold Agree; kernel_rfl) (fun h => h) (impl_CoverShared_forms_get _)⟩
  · cases h

/-- loop.example/g01284/laws.FnExactCoverShared -/
def laws_FnExactCoverShared_tree (a0 : Ball) (a1 : Vec) (a2 : Nat) (a3 : Nat) (a4 : Int) (a5 : Int) (a6 : Int) : DT (Bool) :=
  let x0 := laws_toBall (⟨a0.Mass, a0.Radius, a0.Spin, a0.Start⟩ : Ball);
  let x1 := laws_toVector (⟨a1.X, a1.Y, a1.Z⟩ : Vec);
  .need ((spec_CoverShared_need (⟨x0.Mass, x0.Radius, x0.Spin, x0.Start⟩ : Ball) (⟨x1.X, x1.Y, x1.Z⟩ : Vec) a2 a3 a4 a5 a6)) (
  let x2 := spec_CoverShared (⟨x0.Mass, x0.Radius, x0.Spin, x0.Start⟩ : Ball) (⟨x1.X, x1.Y, x1.Z⟩ : Vec) a2 a3 a4 a5 a6;
  .ask ((isL x2))
  (
   let x3 := laws_toBall (⟨a0.Mass, a0.Radius, a0.Spin, a0.Start⟩ : Ball);
   let x4 := laws_toVector (⟨a1.X, a1.Y, a1.Z⟩ : Vec);
   .need ((impl_CoverShared_need (⟨x3.Mass, x3.Radius, x3.Spin, x3.Start⟩ : Ball) (⟨x4.X, x4.Y, x4.Z⟩ : Vec) a2 a3 a4 a5 a6)) (
   let x5 := impl_CoverShared (⟨x3.Mass, x3.Radius, x3.Spin, x3.Start⟩ : Ball) (⟨x4.X, x4.Y, x4.Z⟩ : Vec) a2 a3 a4 a5 a6;
   .ask ((isL x5))
   (
    .need ((laws_eqBoolS_need [] [])) (
    let x6 := laws_eqBoolS [] [];
    .ask (!x6)
    (
     .leaf false)
    (
     .skip (
     .need ((laws_markBoolS_need [] 1)) (
     let x7 := laws_markBoolS [] 1;
     .need ((laws_heldBoolS_need [] 1)) (
     let x8 := laws_heldBoolS [] 1;
     let x9 := decide (x8 < 0);
     .ask x9
     (
      .leaf false)
     (
      let x10 := (x8 != x7.1);
      .ask x10
      (
       .leaf false)
      (
       let x11 := laws_toBall (⟨a0.Mass, a0.Radius, a0.Spin, a0.Start⟩ : Ball);
       let x12 := laws_toVector (⟨a1.X, a1.Y, a1.Z⟩ : Vec);
       .need ((impl_CoverShared_need (⟨x11.Mass, x11.Radius, x11.Spin, x11.Start⟩ : Ball) (⟨x12.X, x12.Y, x12.Z⟩ : Vec) a2 a3 a4 a5 a6)) (
       let x13 := impl_CoverShared (⟨x11.Mass, x11.Radius, x11.Spin, x11.Start⟩ : Ball) (⟨x12.X, x12.Y, x12.Z⟩ : Vec) a2 a3 a4 a5 a6;
       .ask ((isL x13))
       (
        .need ((laws_eqBoolS_need [] [])) (
        let x14 := laws_eqBoolS [] [];
        .ask (!x14)
        (
         .leaf false)
        (
         .skip (
         .need ((laws_heldBoolS_need [] 1)) (
         let x15 := laws_heldBoolS [] 1;
         let x16 := decide (x15 < 0);
         .ask x16
         (
          .leaf false)
         (
          let x17 := (x15 != x7.1);
          .ask x17
          (
           .leaf false)
          (
           .leaf true)))))))
       (
        .need ((laws_eqBoolS_need ((rightD x13)) [])) (
        let x14 := laws_eqBoolS ((rightD x13)) [];
        .ask (!x14)
        (
         .leaf false)
        (
         .skip (
         .leaf false)))))))))))))
   (
    .need ((laws_eqBoolS_need ((rightD x5)) [])) (
    let x6 := laws_eqBoolS ((rightD x5)) [];
    .ask (!x6)
    (
     .leaf false)
    (
     .skip (
     .leaf false))))))
  (
   let x3 := laws_toBall (⟨a0.Mass, a0.Radius, a0.Spin, a0.Start⟩ : Ball);
   let x4 := laws_toVector (⟨a1.X, a1.Y, a1.Z⟩ : Vec);
   .need ((impl_CoverShared_need (⟨x3.Mass, x3.Radius, x3.Spin, x3.Start⟩ : Ball) (⟨x4.X, x4.Y, x4.Z⟩ : Vec) a2 a3 a4 a5 a6)) (
   let x5 := impl_CoverShared (⟨x3.Mass, x3.Radius, x3.Spin, x3.Start⟩ : Ball) (⟨x4.X, x4.Y, x4.Z⟩ : Vec) a2 a3 a4 a5 a6;
   .ask ((isL x5))
   (
    .need ((laws_eqBoolS_need [] ((rightD x2)))) (
    let x6 := laws_eqBoolS [] ((rightD x2));
    .ask (!x6)
    (
     .leaf false)
    (
     .skip (
     .leaf false))))
   (
    .need ((laws_eqBoolS_need ((rightD x5)) ((rightD x2)))) (
    let x6 := laws_eqBoolS ((rightD x5)) ((rightD x2));
    .ask (!x6)
    (
     .leaf false)
    (
     .skip (
     .need ((laws_markBoolS_need ((rightD x5)) 1)) (
     let x7 := laws_markBoolS ((rightD x5)) 1;
     .need ((laws_heldBoolS_need x7.2 1)) (
     let x8 := laws_heldBoolS x7.2 1;
     let x9 := decide (x8 < 0);
     .ask x9
     (
      .leaf false)
     (
      let x10 := (x8 != x7.1);
      .ask x10
      (
       .leaf false)
      (
       let x11 := laws_toBall (⟨a0.Mass, a0.Radius, a0.Spin, a0.Start⟩ : Ball);
       let x12 := laws_toVector (⟨a1.X, a1.Y, a1.Z⟩ : Vec);
       .need ((impl_CoverShared_need (⟨x11.Mass, x11.Radius, x11.Spin, x11.Start⟩ : Ball) (⟨x12.X, x12.Y, x12.Z⟩ : Vec) a2 a3 a4 a5 a6)) (
       let x13 := impl_CoverShared (⟨x11.Mass, x11.Radius, x11.Spin, x11.Start⟩ : Ball) (⟨x12.X, x12.Y, x12.Z⟩ : Vec) a2 a3 a4 a5 a6;
       .ask ((isL x13))
       (
        .need ((laws_eqBoolS_need [] ((rightD x2)))) (
        let x14 := laws_eqBoolS [] ((rightD x2));
        .ask (!x14)
        (
         .leaf false)
        (
         .skip (
         .leaf false))))
       (
        .need ((laws_eqBoolS_need ((rightD x13)) ((rightD x2)))) (
        let x14 := laws_eqBoolS ((rightD x13)) ((rightD x2));
        .ask (!x14)
        (
         .leaf false)
        (
         .skip (
         .need ((laws_heldBoolS_need x7.2 1)) (
         let x15 := laws_heldBoolS x7.2 1;
         let x16 := decide (x15 < 0);
         .ask x16
         (
          .leaf false)
         (
          let x17 := (x15 != x7.1);
          .ask x17
          (
           .leaf false)
          (
           .leaf true)))))))))))))))))))
def laws_FnExactCoverShared (a0 : Ball) (a1 : Vec) (a2 : Nat) (a3 : Nat) (a4 : Int) (a5 : Int) (a6 : Int) : Bool := (laws_FnExactCoverShared_tree a0 a1 a2 a3 a4 a5 a6).val
def laws_FnExactCoverShared_need (a0 : Ball) (a1 : Vec) (a2 : Nat) (a3 : Nat) (a4 : Int) (a5 : Int) (a6 : Int) : Bool := (laws_FnExactCoverShared_tree a0 a1 a2 a3 a4 a5 a6).ok
def laws_FnExactCoverShared_mk (p : Bool) : Ret := ⟨.bool p, []⟩
def laws_FnExactCoverShared_c : Con := fun args => match args with
  | [.agg [.flt .f32 a0_0, .flt .f32 a0_1, .flt .f32 a0_2, .flt .f32 a0_3], .agg [.flt .f32 a1_0, .flt .f32 a1_1, .flt .f32 a1_2], .flt .f32 a2, .flt .f32 a3, .int .i64 a4, .int .i64 a5, .int .i64 a6] => some (.need (laws_FnExactCoverShared_need (⟨a0_0, a0_1, a0_2, a0_3⟩ : Ball) (⟨a1_0, a1_1, a1_2⟩ : Vec) a2 a3 a4 a5 a6) (.leaf (laws_FnExactCoverShared_mk (laws_FnExactCoverShared (⟨a0_0, a0_1, a0_2, a0_3⟩ : Ball) (⟨a1_0, a1_1, a1_2⟩ : Vec) a2 a3 a4 a5 a6))))
  | _ => none
set_option maxRecDepth 100000 in
theorem laws_FnExactCoverShared_ok : FunOK Try.prog 8 laws_FnExactCoverShared_c.fn := by
  refine con_ok (Γ := gam [(25, laws_toBall_c), (26, laws_toVector_c), (39, spec_CoverShared_c), (40, impl_CoverShared_c), (36, laws_eqBoolS_c), (38, laws_heldBoolS_c)] [(37, laws_markBoolS_M)]) (gam_cons laws_toBall_ok (gam_cons laws_toVector_ok (gam_cons spec_CoverShared_ok (gam_cons impl_CoverShared_ok (gam_cons laws_eqBoolS_ok (gam_cons laws_heldBoolS_ok (gam_mut laws_markBoolS_ok (gam_nil)))))))) tab_ok (by kernel_rfl) Try.func8 (by kernel_rfl) (by kernel_rfl) Try.ntmps8 Try.results8 (loopsOK_none rfl _) 100000 fun args t h => ?_
  unfold laws_FnExactCoverShared_c at h
  split at h
  · rename_i a0_0 a0_1 a0_2 a0_3 a1_0 a1_1 a1_2 a2 a3 a4 a5 a6
    cases h
    exact ⟨rfl, agree_need (mk := laws_FnExactCoverShared_mk) (t := laws_FnExactCoverShared_tree (⟨a0_0, a0_1, a0_2, a0_3⟩ : Ball) (⟨a1_0, a1_1, a1_2⟩ : Vec) a2 a3 a4 a5 a6) (by unfold Agree; kernel_rfl)⟩
  · cases h

end
end Go.Proofs.Ytodhhjcgjkfmpaa
