/- THE WALK, BY A PROGRAM: typed functions, and that the code is they. -/
import Derived.Test.YtodhhjcgjkfmpaaTab
namespace Go.Proofs.Ytodhhjcgjkfmpaa
set_option linter.unusedVariables false
set_option linter.unusedSimpArgs false
open Go.Extern
noncomputable section

set_option maxRecDepth 100000 in
theorem math_Float64frombits_ok : FunOK Try.prog 206 math_Float64frombits_c.fn := frombits64_ok (run_callFunc_extern Try.func206 (by kernel_rfl) (by kernel_rfl) (by kernel_rfl) (by kernel_rfl))

set_option maxRecDepth 100000 in
theorem math_sqrt_ok : FunOK Try.prog 208 math_sqrt_c.fn := sqrt_ok (run_callFunc_extern Try.func208 (by kernel_rfl) (by kernel_rfl) (by kernel_rfl) (by kernel_rfl))

set_option maxRecDepth 100000 in
theorem math_Float64bits_ok : FunOK Try.prog 207 math_Float64bits_c.fn := bits64_ok (run_callFunc_extern Try.func207 (by kernel_rfl) (by kernel_rfl) (by kernel_rfl) (by kernel_rfl))

set_option maxRecDepth 100000 in
theorem math_archTrunc_ok : FunOK Try.prog 235 math_archTrunc_c.fn := trunc_ok (run_callFunc_extern Try.func235 (by kernel_rfl) (by kernel_rfl) (by kernel_rfl) (by kernel_rfl))

/-- loop.example/g01284/laws.toOrbit -/
def laws_toOrbit_tree (a0 : Orbit) : DT (Orbit) :=
  .leaf ((⟨a0.Long, a0.Round, a0.Tilt, a0.Node, a0.Peri, a0.Phase⟩ : Orbit))
def laws_toOrbit (a0 : Orbit) : Orbit := (laws_toOrbit_tree a0).val
def laws_toOrbit_mk (p : Orbit) : Ret := ⟨.agg [.flt .f32 p.Long, .flt .f32 p.Round, .flt .f32 p.Tilt, .flt .f32 p.Node, .flt .f32 p.Peri, .flt .f32 p.Phase], []⟩
def laws_toOrbit_c : Con := fun args => match args with
  | [.agg [.flt .f32 a0_0, .flt .f32 a0_1, .flt .f32 a0_2, .flt .f32 a0_3, .flt .f32 a0_4, .flt .f32 a0_5]] => some (.leaf (laws_toOrbit_mk (laws_toOrbit (⟨a0_0, a0_1, a0_2, a0_3, a0_4, a0_5⟩ : Orbit))))
  | _ => none
set_option maxRecDepth 100000 in
theorem laws_toOrbit_ok : FunOK Try.prog 21 laws_toOrbit_c.fn := by
  refine con_ok (Γ := gam []) (gam_nil) tab_ok (by kernel_rfl) Try.func21 (by kernel_rfl) (by kernel_rfl) Try.ntmps21 Try.results21 (loopsOK_none rfl _) 100000 fun args t h => ?_
  unfold laws_toOrbit_c at h
  split at h
  · rename_i a0_0 a0_1 a0_2 a0_3 a0_4 a0_5
    cases h
    exact ⟨rfl, agree_tot (mk := laws_toOrbit_mk) (t := laws_toOrbit_tree (⟨a0_0, a0_1, a0_2, a0_3, a0_4, a0_5⟩ : Orbit)) (by unfold Agree; kernel_rfl) (by kernel_rfl)⟩
  · cases h

/-- loop.example/g01284/spec.l01Finite -/
def spec_l01Finite_tree (a0 : Nat) : DT (Bool) :=
  let x0 := fsub .f32 a0 a0;
  let x1 := feq .f32 x0 0;
  .leaf x1
def spec_l01Finite (a0 : Nat) : Bool := (spec_l01Finite_tree a0).val
def spec_l01Finite_mk (p : Bool) : Ret := ⟨.bool p, []⟩
def spec_l01Finite_c : Con := fun args => match args with
  | [.flt .f32 a0] => some (.leaf (spec_l01Finite_mk (spec_l01Finite a0)))
  | _ => none
set_option maxRecDepth 100000 in
theorem spec_l01Finite_ok : FunOK Try.prog 88 spec_l01Finite_c.fn := by
  refine con_ok (Γ := gam []) (gam_nil) tab_ok (by kernel_rfl) Try.func88 (by kernel_rfl) (by kernel_rfl) Try.ntmps88 Try.results88 (loopsOK_none rfl _) 100000 fun args t h => ?_
  unfold spec_l01Finite_c at h
  split at h
  · rename_i a0
    cases h
    exact ⟨rfl, agree_tot (mk := spec_l01Finite_mk) (t := spec_l01Finite_tree a0) (by unfold Agree; kernel_rfl) (by kernel_rfl)⟩
  · cases h

/-- loop.example/g01284/spec.l03Turn -/
def spec_l03Turn_tree (a0 : Nat) : DT (Bool) :=
  let x0 := fge .f32 a0 0;
  .ask x0
  (
   let x1 := flt .f32 a0 1065353216;
   .leaf x1)
  (
   .leaf false)
def spec_l03Turn (a0 : Nat) : Bool := (spec_l03Turn_tree a0).val
def spec_l03Turn_mk (p : Bool) : Ret := ⟨.bool p, []⟩
def spec_l03Turn_c : Con := fun args => match args with
  | [.flt .f32 a0] => some (.leaf (spec_l03Turn_mk (spec_l03Turn a0)))
  | _ => none
set_option maxRecDepth 100000 in
theorem spec_l03Turn_ok : FunOK Try.prog 153 spec_l03Turn_c.fn := by
  refine con_ok (Γ := gam []) (gam_nil) tab_ok (by kernel_rfl) Try.func153 (by kernel_rfl) (by kernel_rfl) Try.ntmps153 Try.results153 (loopsOK_none rfl _) 100000 fun args t h => ?_
  unfold spec_l03Turn_c at h
  split at h
  · rename_i a0
    cases h
    exact ⟨rfl, agree_tot (mk := spec_l03Turn_mk) (t := spec_l03Turn_tree a0) (by unfold Agree; kernel_rfl) (by kernel_rfl)⟩
  · cases h

/-- loop.example/g01284/spec.l03Is -/
def spec_l03Is_tree (a0 : Orbit) : DT (Bool) :=
  let x0 := spec_l01Finite a0.Long;
  .ask (!x0)
  (
   .leaf false)
  (
   let x1 := spec_l01Finite a0.Round;
   .ask (!x1)
   (
    .leaf false)
   (
    let x2 := fge .f32 a0.Tilt 0;
    .ask x2
    (
     let x3 := fle .f32 a0.Tilt 1056964608;
     .ask (!x3)
     (
      .leaf false)
     (
      let x4 := spec_l03Turn a0.Node;
      .ask (!x4)
      (
       .leaf false)
      (
       let x5 := spec_l03Turn a0.Peri;
       .ask (!x5)
       (
        .leaf false)
       (
        let x6 := fgt .f32 a0.Long 0;
        .ask x6
        (
         let x7 := fge .f32 a0.Round 0;
         .ask x7
         (
          let x8 := flt .f32 a0.Round 1065353216;
          .ask x8
          (
           let x9 := spec_l03Turn a0.Phase;
           .leaf x9)
          (
           .leaf false))
         (
          .leaf false))
        (
         let x7 := flt .f32 a0.Long 0;
         .ask x7
         (
          let x8 := fgt .f32 a0.Round 1065353216;
          .ask x8
          (
           let x9 := fge .f32 a0.Phase 3246391296;
           .ask x9
           (
            let x10 := fle .f32 a0.Phase 1098907648;
            .leaf x10)
           (
            .leaf false))
          (
           .leaf false))
         (
          .leaf false))))))
    (
     .leaf false)))
def spec_l03Is (a0 : Orbit) : Bool := (spec_l03Is_tree a0).val
def spec_l03Is_mk (p : Bool) : Ret := ⟨.bool p, []⟩
def spec_l03Is_c0 : Con := fun args => match args with
  | [.vcell [.flt .f32 a0_0, .flt .f32 a0_1, .flt .f32 a0_2, .flt .f32 a0_3, .flt .f32 a0_4, .flt .f32 a0_5] 0] => some (.leaf (spec_l03Is_mk (spec_l03Is (⟨a0_0, a0_1, a0_2, a0_3, a0_4, a0_5⟩ : Orbit))))
  | _ => none
set_option maxRecDepth 100000 in
theorem spec_l03Is_ok0 : FunOK Try.prog 72 spec_l03Is_c0.fn := by
  refine con_ok (Γ := gam [(88, spec_l01Finite_c), (153, spec_l03Turn_c)]) (gam_cons spec_l01Finite_ok (gam_cons spec_l03Turn_ok (gam_nil))) tab_ok (by kernel_rfl) Try.func72 (by kernel_rfl) (by kernel_rfl) Try.ntmps72 Try.results72 (loopsOK_none rfl _) 100000 fun args t h => ?_
  unfold spec_l03Is_c0 at h
  split at h
  · rename_i a0_0 a0_1 a0_2 a0_3 a0_4 a0_5
    cases h
    exact ⟨rfl, agree_tot (mk := spec_l03Is_mk) (t := spec_l03Is_tree (⟨a0_0, a0_1, a0_2, a0_3, a0_4, a0_5⟩ : Orbit)) (by unfold Agree; kernel_rfl) (by kernel_rfl)⟩
  · cases h
def spec_l03Is_c : Con := fun args => spec_l03Is_c0 (norms 0 [.ptr 6] args)
set_option maxRecDepth 100000 in
theorem spec_l03Is_ok : FunOK Try.prog 72 spec_l03Is_c.fn := con_norm [.ptr 6] spec_l03Is_ok0

/-- math.NaN -/
def math_NaN_tree  : DT (Nat) :=
  let x0 := canon .f64 (Int.toNat 9221120237041090561);
  .leaf x0
def math_NaN  : Nat := (math_NaN_tree ).val
def math_NaN_mk (p : Nat) : Ret := ⟨.flt .f64 p, []⟩
def math_NaN_c : Con := fun args => match args with
  | [] => some (.leaf (math_NaN_mk (math_NaN )))
  | _ => none
set_option maxRecDepth 100000 in
theorem math_NaN_ok : FunOK Try.prog 157 math_NaN_c.fn := by
  refine con_ok (Γ := gam [(206, math_Float64frombits_c)]) (gam_cons math_Float64frombits_ok (gam_nil)) tab_ok (by kernel_rfl) Try.func157 (by kernel_rfl) (by kernel_rfl) Try.ntmps157 Try.results157 (loopsOK_none rfl _) 100000 fun args t h => ?_
  unfold math_NaN_c at h
  split at h
  · cases h
    exact ⟨rfl, agree_tot (mk := math_NaN_mk) (t := math_NaN_tree ) (by unfold Agree; kernel_rfl) (by kernel_rfl)⟩
  · cases h

/-- loop.example/g01284/spec.l01SineWide -/
def spec_l01SineWide_tree (a0 : Nat) : DT (Nat) :=
  let x0 := fsub .f64 a0 a0;
  let x1 := fne .f64 x0 0;
  .ask x1
  (
   let x2 := math_NaN ;
   .leaf x2)
  (
   let x2 := fge .f64 a0 4841369599423283200;
   .ask x2
   (
    .leaf 0)
   (
    let x3 := fle .f64 a0 14064741636278059008;
    .ask x3
    (
     .leaf 0)
    (
     .need ((ftoIntOk .f64 a0 .i64)) (
     let x4 := ftoInt .f64 a0;
     let x5 := fofInt .f64 x4;
     let x6 := fsub .f64 a0 x5;
     let x7 := flt .f64 x6 0;
     .ask x7
     (
      let x8 := fadd .f64 x6 4607182418800017408;
      let x9 := fge .f64 x8 4602678819172646912;
      .ask x9
      (
       let x10 := fsub .f64 x8 4602678819172646912;
       let x11 := fgt .f64 x10 4598175219545276416;
       .ask x11
       (
        let x12 := fsub .f64 4602678819172646912 x10;
        let x13 := fmul .f64 x12 4618760256179416344;
        let x14 := fmul .f64 x13 x13;
        .skip (
        let x15 := fmul .f64 x14 4607182418800017408;
        let x16 := fofInt .f64 272;
        let x17 := fdiv .f64 x15 x16;
        let x18 := fsub .f64 4607182418800017408 x17;
        .skip (
        let x19 := fmul .f64 x14 x18;
        let x20 := fofInt .f64 210;
        let x21 := fdiv .f64 x19 x20;
        let x22 := fsub .f64 4607182418800017408 x21;
        .skip (
        let x23 := fmul .f64 x14 x22;
        let x24 := fofInt .f64 156;
        let x25 := fdiv .f64 x23 x24;
        let x26 := fsub .f64 4607182418800017408 x25;
        .skip (
        let x27 := fmul .f64 x14 x26;
        let x28 := fofInt .f64 110;
        let x29 := fdiv .f64 x27 x28;
        let x30 := fsub .f64 4607182418800017408 x29;
        .skip (
        let x31 := fmul .f64 x14 x30;
        let x32 := fofInt .f64 72;
        let x33 := fdiv .f64 x31 x32;
        let x34 := fsub .f64 4607182418800017408 x33;
        .skip (
        let x35 := fmul .f64 x14 x34;
        let x36 := fofInt .f64 42;
        let x37 := fdiv .f64 x35 x36;
        let x38 := fsub .f64 4607182418800017408 x37;
        .skip (
        let x39 := fmul .f64 x14 x38;
        let x40 := fofInt .f64 20;
        let x41 := fdiv .f64 x39 x40;
        let x42 := fsub .f64 4607182418800017408 x41;
        .skip (
        let x43 := fmul .f64 x14 x42;
        let x44 := fofInt .f64 6;
        let x45 := fdiv .f64 x43 x44;
        let x46 := fsub .f64 4607182418800017408 x45;
        .skip (
        .ask x9
        (
         let x47 := fmul .f64 x13 x46;
         let x48 := fneg .f64 x47;
         .leaf x48)
        (
         let x47 := fmul .f64 x13 x46;
         .leaf x47)))))))))))
       (
        let x12 := fmul .f64 x10 4618760256179416344;
        let x13 := fmul .f64 x12 x12;
        .skip (
        let x14 := fmul .f64 x13 4607182418800017408;
        let x15 := fofInt .f64 272;
        let x16 := fdiv .f64 x14 x15;
        let x17 := fsub .f64 4607182418800017408 x16;
        .skip (
        let x18 := fmul .f64 x13 x17;
        let x19 := fofInt .f64 210;
        let x20 := fdiv .f64 x18 x19;
        let x21 := fsub .f64 4607182418800017408 x20;
        .skip (
        let x22 := fmul .f64 x13 x21;
        let x23 := fofInt .f64 156;
        let x24 := fdiv .f64 x22 x23;
        let x25 := fsub .f64 4607182418800017408 x24;
        .skip (
        let x26 := fmul .f64 x13 x25;
        let x27 := fofInt .f64 110;
        let x28 := fdiv .f64 x26 x27;
        let x29 := fsub .f64 4607182418800017408 x28;
        .skip (
        let x30 := fmul .f64 x13 x29;
        let x31 := fofInt .f64 72;
        let x32 := fdiv .f64 x30 x31;
        let x33 := fsub .f64 4607182418800017408 x32;
        .skip (
        let x34 := fmul .f64 x13 x33;
        let x35 := fofInt .f64 42;
        let x36 := fdiv .f64 x34 x35;
        let x37 := fsub .f64 4607182418800017408 x36;
        .skip (
        let x38 := fmul .f64 x13 x37;
        let x39 := fofInt .f64 20;
        let x40 := fdiv .f64 x38 x39;
        let x41 := fsub .f64 4607182418800017408 x40;
        .skip (
        let x42 := fmul .f64 x13 x41;
        let x43 := fofInt .f64 6;
        let x44 := fdiv .f64 x42 x43;
        let x45 := fsub .f64 4607182418800017408 x44;
        .skip (
        .ask x9
        (
         let x46 := fmul .f64 x12 x45;
         let x47 := fneg .f64 x46;
         .leaf x47)
        (
         let x46 := fmul .f64 x12 x45;
         .leaf x46))))))))))))
      (
       let x10 := fgt .f64 x8 4598175219545276416;
       .ask x10
       (
        let x11 := fsub .f64 4602678819172646912 x8;
        let x12 := fmul .f64 x11 4618760256179416344;
        let x13 := fmul .f64 x12 x12;
        .skip (
        let x14 := fmul .f64 x13 4607182418800017408;
        let x15 := fofInt .f64 272;
        let x16 := fdiv .f64 x14 x15;
        let x17 := fsub .f64 4607182418800017408 x16;
        .skip (
        let x18 := fmul .f64 x13 x17;
        let x19 := fofInt .f64 210;
        let x20 := fdiv .f64 x18 x19;
        let x21 := fsub .f64 4607182418800017408 x20;
        .skip (
        let x22 := fmul .f64 x13 x21;
        let x23 := fofInt .f64 156;
        let x24 := fdiv .f64 x22 x23;
        let x25 := fsub .f64 4607182418800017408 x24;
        .skip (
        let x26 := fmul .f64 x13 x25;
        let x27 := fofInt .f64 110;
        let x28 := fdiv .f64 x26 x27;
        let x29 := fsub .f64 4607182418800017408 x28;
        .skip (
        let x30 := fmul .f64 x13 x29;
        let x31 := fofInt .f64 72;
        let x32 := fdiv .f64 x30 x31;
        let x33 := fsub .f64 4607182418800017408 x32;
        .skip (
        let x34 := fmul .f64 x13 x33;
        let x35 := fofInt .f64 42;
        let x36 := fdiv .f64 x34 x35;
        let x37 := fsub .f64 4607182418800017408 x36;
        .skip (
        let x38 := fmul .f64 x13 x37;
        let x39 := fofInt .f64 20;
        let x40 := fdiv .f64 x38 x39;
        let x41 := fsub .f64 4607182418800017408 x40;
        .skip (
        let x42 := fmul .f64 x13 x41;
        let x43 := fofInt .f64 6;
        let x44 := fdiv .f64 x42 x43;
        let x45 := fsub .f64 4607182418800017408 x44;
        .skip (
        .ask x9
        (
         let x46 := fmul .f64 x12 x45;
         let x47 := fneg .f64 x46;
         .leaf x47)
        (
         let x46 := fmul .f64 x12 x45;
         .leaf x46)))))))))))
       (
        let x11 := fmul .f64 x8 4618760256179416344;
        let x12 := fmul .f64 x11 x11;
        .skip (
        let x13 := fmul .f64 x12 4607182418800017408;
        let x14 := fofInt .f64 272;
        let x15 := fdiv .f64 x13 x14;
        let x16 := fsub .f64 4607182418800017408 x15;
        .skip (
        let x17 := fmul .f64 x12 x16;
        let x18 := fofInt .f64 210;
        let x19 := fdiv .f64 x17 x18;
        let x20 := fsub .f64 4607182418800017408 x19;
        .skip (
        let x21 := fmul .f64 x12 x20;
        let x22 := fofInt .f64 156;
        let x23 := fdiv .f64 x21 x22;
        let x24 := fsub .f64 4607182418800017408 x23;
        .skip (
        let x25 := fmul .f64 x12 x24;
        let x26 := fofInt .f64 110;
        let x27 := fdiv .f64 x25 x26;
        let x28 := fsub .f64 4607182418800017408 x27;
        .skip (
        let x29 := fmul .f64 x12 x28;
        let x30 := fofInt .f64 72;
        let x31 := fdiv .f64 x29 x30;
        let x32 := fsub .f64 4607182418800017408 x31;
        .skip (
        let x33 := fmul .f64 x12 x32;
        let x34 := fofInt .f64 42;
        let x35 := fdiv .f64 x33 x34;
        let x36 := fsub .f64 4607182418800017408 x35;
        .skip (
        let x37 := fmul .f64 x12 x36;
        let x38 := fofInt .f64 20;
        let x39 := fdiv .f64 x37 x38;
        let x40 := fsub .f64 4607182418800017408 x39;
        .skip (
        let x41 := fmul .f64 x12 x40;
        let x42 := fofInt .f64 6;
        let x43 := fdiv .f64 x41 x42;
        let x44 := fsub .f64 4607182418800017408 x43;
        .skip (
        .ask x9
        (
         let x45 := fmul .f64 x11 x44;
         let x46 := fneg .f64 x45;
         .leaf x46)
        (
         let x45 := fmul .f64 x11 x44;
         .leaf x45)))))))))))))
     (
      let x8 := fge .f64 x6 4602678819172646912;
      .ask x8
      (
       let x9 := fsub .f64 x6 4602678819172646912;
       let x10 := fgt .f64 x9 4598175219545276416;
       .ask x10
       (
        let x11 := fsub .f64 4602678819172646912 x9;
        let x12 := fmul .f64 x11 4618760256179416344;
        let x13 := fmul .f64 x12 x12;
        .skip (
        let x14 := fmul .f64 x13 4607182418800017408;
        let x15 := fofInt .f64 272;
        let x16 := fdiv .f64 x14 x15;
        let x17 := fsub .f64 4607182418800017408 x16;
        .skip (
        let x18 := fmul .f64 x13 x17;
        let x19 := fofInt .f64 210;
        let x20 := fdiv .f64 x18 x19;
        let x21 := fsub .f64 4607182418800017408 x20;
        .skip (
        let x22 := fmul .f64 x13 x21;
        let x23 := fofInt .f64 156;
        let x24 := fdiv .f64 x22 x23;
        let x25 := fsub .f64 4607182418800017408 x24;
        .skip (
        let x26 := fmul .f64 x13 x25;
        let x27 := fofInt .f64 110;
        let x28 := fdiv .f64 x26 x27;
        let x29 := fsub .f64 4607182418800017408 x28;
        .skip (
        let x30 := fmul .f64 x13 x29;
        let x31 := fofInt .f64 72;
        let x32 := fdiv .f64 x30 x31;
        let x33 := fsub .f64 4607182418800017408 x32;
        .skip (
        let x34 := fmul .f64 x13 x33;
        let x35 := fofInt .f64 42;
        let x36 := fdiv .f64 x34 x35;
        let x37 := fsub .f64 4607182418800017408 x36;
        .skip (
        let x38 := fmul .f64 x13 x37;
        let x39 := fofInt .f64 20;
        let x40 := fdiv .f64 x38 x39;
        let x41 := fsub .f64 4607182418800017408 x40;
        .skip (
        let x42 := fmul .f64 x13 x41;
        let x43 := fofInt .f64 6;
        let x44 := fdiv .f64 x42 x43;
        let x45 := fsub .f64 4607182418800017408 x44;
        .skip (
        .ask x8
        (
         let x46 := fmul .f64 x12 x45;
         let x47 := fneg .f64 x46;
         .leaf x47)
        (
         let x46 := fmul .f64 x12 x45;
         .leaf x46)))))))))))
       (
        let x11 := fmul .f64 x9 4618760256179416344;
        let x12 := fmul .f64 x11 x11;
        .skip (
        let x13 := fmul .f64 x12 4607182418800017408;
        let x14 := fofInt .f64 272;
        let x15 := fdiv .f64 x13 x14;
        let x16 := fsub .f64 4607182418800017408 x15;
        .skip (
        let x17 := fmul .f64 x12 x16;
        let x18 := fofInt .f64 210;
        let x19 := fdiv .f64 x17 x18;
        let x20 := fsub .f64 4607182418800017408 x19;
        .skip (
        let x21 := fmul .f64 x12 x20;
        let x22 := fofInt .f64 156;
        let x23 := fdiv .f64 x21 x22;
        let x24 := fsub .f64 4607182418800017408 x23;
        .skip (
        let x25 := fmul .f64 x12 x24;
        let x26 := fofInt .f64 110;
        let x27 := fdiv .f64 x25 x26;
        let x28 := fsub .f64 4607182418800017408 x27;
        .skip (
        let x29 := fmul .f64 x12 x28;
        let x30 := fofInt .f64 72;
        let x31 := fdiv .f64 x29 x30;
        let x32 := fsub .f64 4607182418800017408 x31;
        .skip (
        let x33 := fmul .f64 x12 x32;
        let x34 := fofInt .f64 42;
        let x35 := fdiv .f64 x33 x34;
        let x36 := fsub .f64 4607182418800017408 x35;
        .skip (
        let x37 := fmul .f64 x12 x36;
        let x38 := fofInt .f64 20;
        let x39 := fdiv .f64 x37 x38;
        let x40 := fsub .f64 4607182418800017408 x39;
        .skip (
        let x41 := fmul .f64 x12 x40;
        let x42 := fofInt .f64 6;
        let x43 := fdiv .f64 x41 x42;
        let x44 := fsub .f64 4607182418800017408 x43;
        .skip (
        .ask x8
        (
         let x45 := fmul .f64 x11 x44;
         let x46 := fneg .f64 x45;
         .leaf x46)
        (
         let x45 := fmul .f64 x11 x44;
         .leaf x45))))))))))))
      (
       let x9 := fgt .f64 x6 4598175219545276416;
       .ask x9
       (
        let x10 := fsub .f64 4602678819172646912 x6;
        let x11 := fmul .f64 x10 4618760256179416344;
        let x12 := fmul .f64 x11 x11;
        .skip (
        let x13 := fmul .f64 x12 4607182418800017408;
        let x14 := fofInt .f64 272;
        let x15 := fdiv .f64 x13 x14;
        let x16 := fsub .f64 4607182418800017408 x15;
        .skip (
        let x17 := fmul .f64 x12 x16;
        let x18 := fofInt .f64 210;
        let x19 := fdiv .f64 x17 x18;
        let x20 := fsub .f64 4607182418800017408 x19;
        .skip (
        let x21 := fmul .f64 x12 x20;
        let x22 := fofInt .f64 156;
        let x23 := fdiv .f64 x21 x22;
        let x24 := fsub .f64 4607182418800017408 x23;
        .skip (
        let x25 := fmul .f64 x12 x24;
        let x26 := fofInt .f64 110;
        let x27 := fdiv .f64 x25 x26;
        let x28 := fsub .f64 4607182418800017408 x27;
        .skip (
        let x29 := fmul .f64 x12 x28;
        let x30 := fofInt .f64 72;
        let x31 := fdiv .f64 x29 x30;
        let x32 := fsub .f64 4607182418800017408 x31;
        .skip (
        let x33 := fmul .f64 x12 x32;
        let x34 := fofInt .f64 42;
        let x35 := fdiv .f64 x33 x34;
        let x36 := fsub .f64 4607182418800017408 x35;
        .skip (
        let x37 := fmul .f64 x12 x36;
        let x38 := fofInt .f64 20;
        let x39 := fdiv .f64 x37 x38;
        let x40 := fsub .f64 4607182418800017408 x39;
        .skip (
        let x41 := fmul .f64 x12 x40;
        let x42 := fofInt .f64 6;
        let x43 := fdiv .f64 x41 x42;
        let x44 := fsub .f64 4607182418800017408 x43;
        .skip (
        .ask x8
        (
         let x45 := fmul .f64 x11 x44;
         let x46 := fneg .f64 x45;
         .leaf x46)
        (
         let x45 := fmul .f64 x11 x44;
         .leaf x45)))))))))))
       (
        let x10 := fmul .f64 x6 4618760256179416344;
        let x11 := fmul .f64 x10 x10;
        .skip (
        let x12 := fmul .f64 x11 4607182418800017408;
        let x13 := fofInt .f64 272;
        let x14 := fdiv .f64 x12 x13;
        let x15 := fsub .f64 4607182418800017408 x14;
        .skip (
        let x16 := fmul .f64 x11 x15;
        let x17 := fofInt .f64 210;
        let x18 := fdiv .f64 x16 x17;
        let x19 := fsub .f64 4607182418800017408 x18;
        .skip (
        let x20 := fmul .f64 x11 x19;
        let x21 := fofInt .f64 156;
        let x22 := fdiv .f64 x20 x21;
        let x23 := fsub .f64 4607182418800017408 x22;
        .skip (
        let x24 := fmul .f64 x11 x23;
        let x25 := fofInt .f64 110;
        let x26 := fdiv .f64 x24 x25;
        let x27 := fsub .f64 4607182418800017408 x26;
        .skip (
        let x28 := fmul .f64 x11 x27;
        let x29 := fofInt .f64 72;
        let x30 := fdiv .f64 x28 x29;
        let x31 := fsub .f64 4607182418800017408 x30;
        .skip (
        let x32 := fmul .f64 x11 x31;
        let x33 := fofInt .f64 42;
        let x34 := fdiv .f64 x32 x33;
        let x35 := fsub .f64 4607182418800017408 x34;
        .skip (
        let x36 := fmul .f64 x11 x35;
        let x37 := fofInt .f64 20;
        let x38 := fdiv .f64 x36 x37;
        let x39 := fsub .f64 4607182418800017408 x38;
        .skip (
        let x40 := fmul .f64 x11 x39;
        let x41 := fofInt .f64 6;
        let x42 := fdiv .f64 x40 x41;
        let x43 := fsub .f64 4607182418800017408 x42;
        .skip (
        .ask x8
        (
         let x44 := fmul .f64 x10 x43;
         let x45 := fneg .f64 x44;
         .leaf x45)
        (
         let x44 := fmul .f64 x10 x43;
         .leaf x44)))))))))))))))))
def spec_l01SineWide (a0 : Nat) : Nat := (spec_l01SineWide_tree a0).val
def spec_l01SineWide_need (a0 : Nat) : Bool := (spec_l01SineWide_tree a0).ok
def spec_l01SineWide_mk (p : Nat) : Ret := ⟨.flt .f64 p, []⟩
def spec_l01SineWide_c : Con := fun args => match args with
  | [.flt .f64 a0] => some (.need (spec_l01SineWide_need a0) (.leaf (spec_l01SineWide_mk (spec_l01SineWide a0))))
  | _ => none
set_option maxRecDepth 100000 in
theorem spec_l01SineWide_ok : FunOK Try.prog 154 spec_l01SineWide_c.fn := by
  refine con_ok (Γ := gam [(157, math_NaN_c)]) (gam_cons math_NaN_ok (gam_nil)) tab_ok (by kernel_rfl) Try.func154 (by kernel_rfl) (by kernel_rfl) Try.ntmps154 Try.results154 (loopsOK_none rfl _) 100000 fun args t h => ?_
  unfold spec_l01SineWide_c at h
  split at h
  · rename_i a0
    cases h
    exact ⟨rfl, agree_need (mk := spec_l01SineWide_mk) (t := spec_l01SineWide_tree a0) (by unfold Agree; kernel_rfl)⟩
  · cases h

/-- loop.example/g01284/spec.l03Cos -/
def spec_l03Cos_tree (a0 : Nat) : DT (Nat) :=
  let x0 := fadd .f64 a0 4598175219545276416;
  .need ((spec_l01SineWide_need x0)) (
  let x1 := spec_l01SineWide x0;
  .leaf x1)
def spec_l03Cos (a0 : Nat) : Nat := (spec_l03Cos_tree a0).val
def spec_l03Cos_need (a0 : Nat) : Bool := (spec_l03Cos_tree a0).ok
def spec_l03Cos_mk (p : Nat) : Ret := ⟨.flt .f64 p, []⟩
def spec_l03Cos_c : Con := fun args => match args with
  | [.flt .f64 a0] => some (.need (spec_l03Cos_need a0) (.leaf (spec_l03Cos_mk (spec_l03Cos a0))))
  | _ => none
set_option maxRecDepth 100000 in
theorem spec_l03Cos_ok : FunOK Try.prog 155 spec_l03Cos_c.fn := by
  refine con_ok (Γ := gam [(154, spec_l01SineWide_c)]) (gam_cons spec_l01SineWide_ok (gam_nil)) tab_ok (by kernel_rfl) Try.func155 (by kernel_rfl) (by kernel_rfl) Try.ntmps155 Try.results155 (loopsOK_none rfl _) 100000 fun args t h => ?_
  unfold spec_l03Cos_c at h
  split at h
  · rename_i a0
    cases h
    exact ⟨rfl, agree_need (mk := spec_l03Cos_mk) (t := spec_l03Cos_tree a0) (by unfold Agree; kernel_rfl)⟩
  · cases h

/-- loop.example/g01284/spec.l03Normal -/
def spec_l03Normal_tree (a0 : Orbit) : DT (Nat × Nat × Nat) :=
  .need ((fconvOk .f32 a0.Tilt .f64)) (
  let x0 := fconv .f32 a0.Tilt .f64;
  .need ((spec_l01SineWide_need x0)) (
  let x1 := spec_l01SineWide x0;
  .need ((fconvOk .f32 a0.Node .f64)) (
  let x2 := fconv .f32 a0.Node .f64;
  .need ((spec_l01SineWide_need x2)) (
  let x3 := spec_l01SineWide x2;
  let x4 := fmul .f64 x1 x3;
  .need ((fconvOk .f32 a0.Node .f64)) (
  let x5 := fconv .f32 a0.Node .f64;
  .need ((spec_l03Cos_need x5)) (
  let x6 := spec_l03Cos x5;
  let x7 := fmul .f64 x1 x6;
  let x8 := fneg .f64 x7;
  .need ((fconvOk .f32 a0.Tilt .f64)) (
  let x9 := fconv .f32 a0.Tilt .f64;
  .need ((spec_l03Cos_need x9)) (
  let x10 := spec_l03Cos x9;
  .leaf (x4, x8, x10)))))))))
def spec_l03Normal (a0 : Orbit) : Nat × Nat × Nat := (spec_l03Normal_tree a0).val
def spec_l03Normal_need (a0 : Orbit) : Bool := (spec_l03Normal_tree a0).ok
def spec_l03Normal_mk (p : Nat × Nat × Nat) : Ret := ⟨.agg [.flt .f64 p.1, .flt .f64 p.2.1, .flt .f64 p.2.2], []⟩
def spec_l03Normal_c0 : Con := fun args => match args with
  | [.vcell [.flt .f32 a0_0, .flt .f32 a0_1, .flt .f32 a0_2, .flt .f32 a0_3, .flt .f32 a0_4, .flt .f32 a0_5] 0] => some (.need (spec_l03Normal_need (⟨a0_0, a0_1, a0_2, a0_3, a0_4, a0_5⟩ : Orbit)) (.leaf (spec_l03Normal_mk (spec_l03Normal (⟨a0_0, a0_1, a0_2, a0_3, a0_4, a0_5⟩ : Orbit)))))
  | _ => none
set_option maxRecDepth 100000 in
theorem spec_l03Normal_ok0 : FunOK Try.prog 73 spec_l03Normal_c0.fn := by
  refine con_ok (Γ := gam [(154, spec_l01SineWide_c), (155, spec_l03Cos_c)]) (gam_cons spec_l01SineWide_ok (gam_cons spec_l03Cos_ok (gam_nil))) tab_ok (by kernel_rfl) Try.func73 (by kernel_rfl) (by kernel_rfl) Try.ntmps73 Try.results73 (loopsOK_none rfl _) 100000 fun args t h => ?_
  unfold spec_l03Normal_c0 at h
  split at h
  · rename_i a0_0 a0_1 a0_2 a0_3 a0_4 a0_5
    cases h
    exact ⟨rfl, agree_need (mk := spec_l03Normal_mk) (t := spec_l03Normal_tree (⟨a0_0, a0_1, a0_2, a0_3, a0_4, a0_5⟩ : Orbit)) (by unfold Agree; kernel_rfl)⟩
  · cases h
def spec_l03Normal_c : Con := fun args => spec_l03Normal_c0 (norms 0 [.ptr 6] args)
set_option maxRecDepth 100000 in
theorem spec_l03Normal_ok : FunOK Try.prog 73 spec_l03Normal_c.fn := con_norm [.ptr 6] spec_l03Normal_ok0

/-- loop.example/g01284/spec.l03Cross -/
def spec_l03Cross_tree (a0_0 : Nat) (a0_1 : Nat) (a0_2 : Nat) (a1_0 : Nat) (a1_1 : Nat) (a1_2 : Nat) : DT (Nat × Nat × Nat) :=
  .skip (
  .skip (
  let x0 := fmul .f64 a0_1 a1_2;
  .skip (
  .skip (
  let x1 := fmul .f64 a0_2 a1_1;
  let x2 := fsub .f64 x0 x1;
  .skip (
  .skip (
  let x3 := fmul .f64 a0_2 a1_0;
  .skip (
  .skip (
  let x4 := fmul .f64 a0_0 a1_2;
  let x5 := fsub .f64 x3 x4;
  .skip (
  .skip (
  let x6 := fmul .f64 a0_0 a1_1;
  .skip (
  .skip (
  let x7 := fmul .f64 a0_1 a1_0;
  let x8 := fsub .f64 x6 x7;
  .leaf (x2, x5, x8)))))))))))))
def spec_l03Cross (a0_0 : Nat) (a0_1 : Nat) (a0_2 : Nat) (a1_0 : Nat) (a1_1 : Nat) (a1_2 : Nat) : Nat × Nat × Nat := (spec_l03Cross_tree a0_0 a0_1 a0_2 a1_0 a1_1 a1_2).val
def spec_l03Cross_mk (p : Nat × Nat × Nat) : Ret := ⟨.agg [.flt .f64 p.1, .flt .f64 p.2.1, .flt .f64 p.2.2], []⟩
def spec_l03Cross_c : Con := fun args => match args with
  | [.agg [.flt .f64 a0_0, .flt .f64 a0_1, .flt .f64 a0_2], .agg [.flt .f64 a1_0, .flt .f64 a1_1, .flt .f64 a1_2]] => some (.leaf (spec_l03Cross_mk (spec_l03Cross a0_0 a0_1 a0_2 a1_0 a1_1 a1_2)))
  | _ => none
set_option maxRecDepth 100000 in
theorem spec_l03Cross_ok : FunOK Try.prog 77 spec_l03Cross_c.fn := by
  refine con_ok (Γ := gam []) (gam_nil) tab_ok (by kernel_rfl) Try.func77 (by kernel_rfl) (by kernel_rfl) Try.ntmps77 Try.results77 (loopsOK_none rfl _) 100000 fun args t h => ?_
  unfold spec_l03Cross_c at h
  split at h
  · rename_i a0_0 a0_1 a0_2 a1_0 a1_1 a1_2
    cases h
    exact ⟨rfl, agree_tot (mk := spec_l03Cross_mk) (t := spec_l03Cross_tree a0_0 a0_1 a0_2 a1_0 a1_1 a1_2) (by unfold Agree; kernel_rfl) (by kernel_rfl)⟩
  · cases h

/-- loop.example/g01284/spec.l03Dot -/
def spec_l03Dot_tree (a0_0 : Nat) (a0_1 : Nat) (a0_2 : Nat) (a1_0 : Nat) (a1_1 : Nat) (a1_2 : Nat) : DT (Nat) :=
  .skip (
  .skip (
  let x0 := fmul .f64 a0_0 a1_0;
  .skip (
  .skip (
  let x1 := fmul .f64 a0_1 a1_1;
  let x2 := fadd .f64 x0 x1;
  .skip (
  .skip (
  let x3 := fmul .f64 a0_2 a1_2;
  let x4 := fadd .f64 x2 x3;
  .leaf x4))))))
def spec_l03Dot (a0_0 : Nat) (a0_1 : Nat) (a0_2 : Nat) (a1_0 : Nat) (a1_1 : Nat) (a1_2 : Nat) : Nat := (spec_l03Dot_tree a0_0 a0_1 a0_2 a1_0 a1_1 a1_2).val
def spec_l03Dot_mk (p : Nat) : Ret := ⟨.flt .f64 p, []⟩
def spec_l03Dot_c : Con := fun args => match args with
  | [.agg [.flt .f64 a0_0, .flt .f64 a0_1, .flt .f64 a0_2], .agg [.flt .f64 a1_0, .flt .f64 a1_1, .flt .f64 a1_2]] => some (.leaf (spec_l03Dot_mk (spec_l03Dot a0_0 a0_1 a0_2 a1_0 a1_1 a1_2)))
  | _ => none
set_option maxRecDepth 100000 in
theorem spec_l03Dot_ok : FunOK Try.prog 78 spec_l03Dot_c.fn := by
  refine con_ok (Γ := gam []) (gam_nil) tab_ok (by kernel_rfl) Try.func78 (by kernel_rfl) (by kernel_rfl) Try.ntmps78 Try.results78 (loopsOK_none rfl _) 100000 fun args t h => ?_
  unfold spec_l03Dot_c at h
  split at h
  · rename_i a0_0 a0_1 a0_2 a1_0 a1_1 a1_2
    cases h
    exact ⟨rfl, agree_tot (mk := spec_l03Dot_mk) (t := spec_l03Dot_tree a0_0 a0_1 a0_2 a1_0 a1_1 a1_2) (by unfold Agree; kernel_rfl) (by kernel_rfl)⟩
  · cases h

/-- math.Sqrt -/
def math_Sqrt_tree (a0 : Nat) : DT (Nat) :=
  let x0 := fsqrt a0;
  .leaf x0
def math_Sqrt (a0 : Nat) : Nat := (math_Sqrt_tree a0).val
def math_Sqrt_mk (p : Nat) : Ret := ⟨.flt .f64 p, []⟩
def math_Sqrt_c : Con := fun args => match args with
  | [.flt .f64 a0] => some (.leaf (math_Sqrt_mk (math_Sqrt a0)))
  | _ => none
set_option maxRecDepth 100000 in
theorem math_Sqrt_ok : FunOK Try.prog 159 math_Sqrt_c.fn := by
  refine con_ok (Γ := gam [(208, math_sqrt_c)]) (gam_cons math_sqrt_ok (gam_nil)) tab_ok (by kernel_rfl) Try.func159 (by kernel_rfl) (by kernel_rfl) Try.ntmps159 Try.results159 (loopsOK_none rfl _) 100000 fun args t h => ?_
  unfold math_Sqrt_c at h
  split at h
  · rename_i a0
    cases h
    exact ⟨rfl, agree_tot (mk := math_Sqrt_mk) (t := math_Sqrt_tree a0) (by unfold Agree; kernel_rfl) (by kernel_rfl)⟩
  · cases h

/-- loop.example/g01284/spec.l03Size -/
def spec_l03Size_tree (a0_0 : Nat) (a0_1 : Nat) (a0_2 : Nat) : DT (Nat) :=
  let x0 := spec_l03Dot a0_0 a0_1 a0_2 a0_0 a0_1 a0_2;
  let x1 := math_Sqrt x0;
  .leaf x1
def spec_l03Size (a0_0 : Nat) (a0_1 : Nat) (a0_2 : Nat) : Nat := (spec_l03Size_tree a0_0 a0_1 a0_2).val
def spec_l03Size_mk (p : Nat) : Ret := ⟨.flt .f64 p, []⟩
def spec_l03Size_c : Con := fun args => match args with
  | [.agg [.flt .f64 a0_0, .flt .f64 a0_1, .flt .f64 a0_2]] => some (.leaf (spec_l03Size_mk (spec_l03Size a0_0 a0_1 a0_2)))
  | _ => none
set_option maxRecDepth 100000 in
theorem spec_l03Size_ok : FunOK Try.prog 76 spec_l03Size_c.fn := by
  refine con_ok (Γ := gam [(78, spec_l03Dot_c), (159, math_Sqrt_c)]) (gam_cons spec_l03Dot_ok (gam_cons math_Sqrt_ok (gam_nil))) tab_ok (by kernel_rfl) Try.func76 (by kernel_rfl) (by kernel_rfl) Try.ntmps76 Try.results76 (loopsOK_none rfl _) 100000 fun args t h => ?_
  unfold spec_l03Size_c at h
  split at h
  · rename_i a0_0 a0_1 a0_2
    cases h
    exact ⟨rfl, agree_tot (mk := spec_l03Size_mk) (t := spec_l03Size_tree a0_0 a0_1 a0_2) (by unfold Agree; kernel_rfl) (by kernel_rfl)⟩
  · cases h

/-- math.Abs -/
def math_Abs_tree (a0 : Nat) : DT (Nat) :=
  .ask ((isNaN .f64 a0))
  (
   .leaf 9221120237041090560)
  (
   let x0 := IntKind.wrap .u64 (BitVec.ofInt (IntKind.bits .u64) ((a0 : Nat) : Int) &&& ~~~ BitVec.ofInt (IntKind.bits .u64) 9223372036854775808).toNat;
   let x1 := canon .f64 (Int.toNat x0);
   .leaf x1)
def math_Abs (a0 : Nat) : Nat := (math_Abs_tree a0).val
def math_Abs_mk (p : Nat) : Ret := ⟨.flt .f64 p, []⟩
def math_Abs_c : Con := fun args => match args with
  | [.flt .f64 a0] => some (.leaf (math_Abs_mk (math_Abs a0)))
  | _ => none
set_option maxRecDepth 100000 in
theorem math_Abs_ok : FunOK Try.prog 158 math_Abs_c.fn := by
  refine con_ok (Γ := gam [(207, math_Float64bits_c), (206, math_Float64frombits_c)]) (gam_cons math_Float64bits_ok (gam_cons math_Float64frombits_ok (gam_nil))) tab_ok (by kernel_rfl) Try.func158 (by kernel_rfl) (by kernel_rfl) Try.ntmps158 Try.results158 (loopsOK_none rfl _) 100000 fun args t h => ?_
  unfold math_Abs_c at h
  split at h
  · rename_i a0
    cases h
    exact ⟨rfl, agree_tot (mk := math_Abs_mk) (t := math_Abs_tree a0) (by unfold Agree; kernel_rfl) (by kernel_rfl)⟩
  · cases h

/-- loop.example/g01284/spec.l01AngleWide -/
def spec_l01AngleWide_tree (a0 : Nat) (a1 : Nat) : DT (Nat) :=
  let x0 := fsub .f64 a0 a0;
  let x1 := fne .f64 x0 0;
  .ask x1
  (
   let x2 := math_NaN ;
   .leaf x2)
  (
   let x2 := fsub .f64 a1 a1;
   let x3 := fne .f64 x2 0;
   .ask x3
   (
    let x4 := math_NaN ;
    .leaf x4)
   (
    let x4 := feq .f64 a1 0;
    .ask x4
    (
     let x5 := feq .f64 a0 0;
     .ask x5
     (
      .leaf 0)
     (
      let x6 := math_Abs a0;
      let x7 := math_Abs a1;
      let x8 := fgt .f64 x6 x7;
      .ask x8
      (
       let x9 := fdiv .f64 x7 x6;
       .skip (
       let x10 := fmul .f64 x9 x9;
       let x11 := fadd .f64 4607182418800017408 x10;
       let x12 := math_Sqrt x11;
       let x13 := fadd .f64 4607182418800017408 x12;
       let x14 := fdiv .f64 x9 x13;
       .skip (
       let x15 := fmul .f64 x14 x14;
       let x16 := fadd .f64 4607182418800017408 x15;
       let x17 := math_Sqrt x16;
       let x18 := fadd .f64 4607182418800017408 x17;
       let x19 := fdiv .f64 x14 x18;
       .skip (
       let x20 := fmul .f64 x19 x19;
       let x21 := fadd .f64 4607182418800017408 x20;
       let x22 := math_Sqrt x21;
       let x23 := fadd .f64 4607182418800017408 x22;
       let x24 := fdiv .f64 x19 x23;
       .skip (
       let x25 := fmul .f64 x24 x24;
       .skip (
       let x26 := fofInt .f64 15;
       let x27 := fdiv .f64 4607182418800017408 x26;
       let x28 := fmul .f64 x25 0;
       let x29 := fsub .f64 x27 x28;
       .skip (
       let x30 := fofInt .f64 13;
       let x31 := fdiv .f64 4607182418800017408 x30;
       let x32 := fmul .f64 x25 x29;
       let x33 := fsub .f64 x31 x32;
       .skip (
       let x34 := fofInt .f64 11;
       let x35 := fdiv .f64 4607182418800017408 x34;
       let x36 := fmul .f64 x25 x33;
       let x37 := fsub .f64 x35 x36;
       .skip (
       let x38 := fofInt .f64 9;
       let x39 := fdiv .f64 4607182418800017408 x38;
       let x40 := fmul .f64 x25 x37;
       let x41 := fsub .f64 x39 x40;
       .skip (
       let x42 := fofInt .f64 7;
       let x43 := fdiv .f64 4607182418800017408 x42;
       let x44 := fmul .f64 x25 x41;
       let x45 := fsub .f64 x43 x44;
       .skip (
       let x46 := fofInt .f64 5;
       let x47 := fdiv .f64 4607182418800017408 x46;
       let x48 := fmul .f64 x25 x45;
       let x49 := fsub .f64 x47 x48;
       .skip (
       let x50 := fofInt .f64 3;
       let x51 := fdiv .f64 4607182418800017408 x50;
       let x52 := fmul .f64 x25 x49;
       let x53 := fsub .f64 x51 x52;
       .skip (
       let x54 := fofInt .f64 1;
       let x55 := fdiv .f64 4607182418800017408 x54;
       let x56 := fmul .f64 x25 x53;
       let x57 := fsub .f64 x55 x56;
       .skip (
       let x58 := fmul .f64 x24 x57;
       let x59 := fmul .f64 4620693217682128896 x58;
       let x60 := fdiv .f64 x59 4618760256179416344;
       .ask x8
       (
        let x61 := fsub .f64 4598175219545276416 x60;
        let x62 := flt .f64 a1 0;
        .ask x62
        (
         let x63 := fsub .f64 4602678819172646912 x61;
         let x64 := flt .f64 a0 0;
         .ask x64
         (
          let x65 := fneg .f64 x63;
          .leaf x65)
         (
          .leaf x63))
        (
         let x63 := flt .f64 a0 0;
         .ask x63
         (
          let x64 := fneg .f64 x61;
          .leaf x64)
         (
          .leaf x61)))
       (
        let x61 := flt .f64 a1 0;
        .ask x61
        (
         let x62 := fsub .f64 4602678819172646912 x60;
         let x63 := flt .f64 a0 0;
         .ask x63
         (
          let x64 := fneg .f64 x62;
          .leaf x64)
         (
          .leaf x62))
        (
         let x62 := flt .f64 a0 0;
         .ask x62
         (
          let x63 := fneg .f64 x60;
          .leaf x63)
         (
          .leaf x60)))))))))))))))))
      (
       let x9 := fdiv .f64 x6 x7;
       .skip (
       let x10 := fmul .f64 x9 x9;
       let x11 := fadd .f64 4607182418800017408 x10;
       let x12 := math_Sqrt x11;
       let x13 := fadd .f64 4607182418800017408 x12;
       let x14 := fdiv .f64 x9 x13;
       .skip (
       let x15 := fmul .f64 x14 x14;
       let x16 := fadd .f64 4607182418800017408 x15;
       let x17 := math_Sqrt x16;
       let x18 := fadd .f64 4607182418800017408 x17;
       let x19 := fdiv .f64 x14 x18;
       .skip (
       let x20 := fmul .f64 x19 x19;
       let x21 := fadd .f64 4607182418800017408 x20;
       let x22 := math_Sqrt x21;
       let x23 := fadd .f64 4607182418800017408 x22;
       let x24 := fdiv .f64 x19 x23;
       .skip (
       let x25 := fmul .f64 x24 x24;
       .skip (
       let x26 := fofInt .f64 15;
       let x27 := fdiv .f64 4607182418800017408 x26;
       let x28 := fmul .f64 x25 0;
       let x29 := fsub .f64 x27 x28;
       .skip (
       let x30 := fofInt .f64 13;
       let x31 := fdiv .f64 4607182418800017408 x30;
       let x32 := fmul .f64 x25 x29;
       let x33 := fsub .f64 x31 x32;
       .skip (
       let x34 := fofInt .f64 11;
       let x35 := fdiv .f64 4607182418800017408 x34;
       let x36 := fmul .f64 x25 x33;
       let x37 := fsub .f64 x35 x36;
       .skip (
       let x38 := fofInt .f64 9;
       let x39 := fdiv .f64 4607182418800017408 x38;
       let x40 := fmul .f64 x25 x37;
       let x41 := fsub .f64 x39 x40;
       .skip (
       let x42 := fofInt .f64 7;
       let x43 := fdiv .f64 4607182418800017408 x42;
       let x44 := fmul .f64 x25 x41;
       let x45 := fsub .f64 x43 x44;
       .skip (
       let x46 := fofInt .f64 5;
       let x47 := fdiv .f64 4607182418800017408 x46;
       let x48 := fmul .f64 x25 x45;
       let x49 := fsub .f64 x47 x48;
       .skip (
       let x50 := fofInt .f64 3;
       let x51 := fdiv .f64 4607182418800017408 x50;
       let x52 := fmul .f64 x25 x49;
       let x53 := fsub .f64 x51 x52;
       .skip (
       let x54 := fofInt .f64 1;
       let x55 := fdiv .f64 4607182418800017408 x54;
       let x56 := fmul .f64 x25 x53;
       let x57 := fsub .f64 x55 x56;
       .skip (
       let x58 := fmul .f64 x24 x57;
       let x59 := fmul .f64 4620693217682128896 x58;
       let x60 := fdiv .f64 x59 4618760256179416344;
       .ask x8
       (
        let x61 := fsub .f64 4598175219545276416 x60;
        let x62 := flt .f64 a1 0;
        .ask x62
        (
         let x63 := fsub .f64 4602678819172646912 x61;
         let x64 := flt .f64 a0 0;
         .ask x64
         (
          let x65 := fneg .f64 x63;
          .leaf x65)
         (
          .leaf x63))
        (
         let x63 := flt .f64 a0 0;
         .ask x63
         (
          let x64 := fneg .f64 x61;
          .leaf x64)
         (
          .leaf x61)))
       (
        let x61 := flt .f64 a1 0;
        .ask x61
        (
         let x62 := fsub .f64 4602678819172646912 x60;
         let x63 := flt .f64 a0 0;
         .ask x63
         (
          let x64 := fneg .f64 x62;
          .leaf x64)
         (
          .leaf x62))
        (
         let x62 := flt .f64 a0 0;
         .ask x62
         (
          let x63 := fneg .f64 x60;
          .leaf x63)
         (
          .leaf x60)))))))))))))))))))
    (
     let x5 := math_Abs a0;
     let x6 := math_Abs a1;
     let x7 := fgt .f64 x5 x6;
     .ask x7
     (
      let x8 := fdiv .f64 x6 x5;
      .skip (
      let x9 := fmul .f64 x8 x8;
      let x10 := fadd .f64 4607182418800017408 x9;
      let x11 := math_Sqrt x10;
      let x12 := fadd .f64 4607182418800017408 x11;
      let x13 := fdiv .f64 x8 x12;
      .skip (
      let x14 := fmul .f64 x13 x13;
      let x15 := fadd .f64 4607182418800017408 x14;
      let x16 := math_Sqrt x15;
      let x17 := fadd .f64 4607182418800017408 x16;
      let x18 := fdiv .f64 x13 x17;
      .skip (
      let x19 := fmul .f64 x18 x18;
      let x20 := fadd .f64 4607182418800017408 x19;
      let x21 := math_Sqrt x20;
      let x22 := fadd .f64 4607182418800017408 x21;
      let x23 := fdiv .f64 x18 x22;
      .skip (
      let x24 := fmul .f64 x23 x23;
      .skip (
      let x25 := fofInt .f64 15;
      let x26 := fdiv .f64 4607182418800017408 x25;
      let x27 := fmul .f64 x24 0;
      let x28 := fsub .f64 x26 x27;
      .skip (
      let x29 := fofInt .f64 13;
      let x30 := fdiv .f64 4607182418800017408 x29;
      let x31 := fmul .f64 x24 x28;
      let x32 := fsub .f64 x30 x31;
      .skip (
      let x33 := fofInt .f64 11;
      let x34 := fdiv .f64 4607182418800017408 x33;
      let x35 := fmul .f64 x24 x32;
      let x36 := fsub .f64 x34 x35;
      .skip (
      let x37 := fofInt .f64 9;
      let x38 := fdiv .f64 4607182418800017408 x37;
      let x39 := fmul .f64 x24 x36;
      let x40 := fsub .f64 x38 x39;
      .skip (
      let x41 := fofInt .f64 7;
      let x42 := fdiv .f64 4607182418800017408 x41;
      let x43 := fmul .f64 x24 x40;
      let x44 := fsub .f64 x42 x43;
      .skip (
      let x45 := fofInt .f64 5;
      let x46 := fdiv .f64 4607182418800017408 x45;
      let x47 := fmul .f64 x24 x44;
      let x48 := fsub .f64 x46 x47;
      .skip (
      let x49 := fofInt .f64 3;
      let x50 := fdiv .f64 4607182418800017408 x49;
      let x51 := fmul .f64 x24 x48;
      let x52 := fsub .f64 x50 x51;
      .skip (
      let x53 := fofInt .f64 1;
      let x54 := fdiv .f64 4607182418800017408 x53;
      let x55 := fmul .f64 x24 x52;
      let x56 := fsub .f64 x54 x55;
      .skip (
      let x57 := fmul .f64 x23 x56;
      let x58 := fmul .f64 4620693217682128896 x57;
      let x59 := fdiv .f64 x58 4618760256179416344;
      .ask x7
      (
       let x60 := fsub .f64 4598175219545276416 x59;
       let x61 := flt .f64 a1 0;
       .ask x61
       (
        let x62 := fsub .f64 4602678819172646912 x60;
        let x63 := flt .f64 a0 0;
        .ask x63
        (
         let x64 := fneg .f64 x62;
         .leaf x64)
        (
         .leaf x62))
       (
        let x62 := flt .f64 a0 0;
        .ask x62
        (
         let x63 := fneg .f64 x60;
         .leaf x63)
        (
         .leaf x60)))
      (
       let x60 := flt .f64 a1 0;
       .ask x60
       (
        let x61 := fsub .f64 4602678819172646912 x59;
        let x62 := flt .f64 a0 0;
        .ask x62
        (
         let x63 := fneg .f64 x61;
         .leaf x63)
        (
         .leaf x61))
       (
        let x61 := flt .f64 a0 0;
        .ask x61
        (
         let x62 := fneg .f64 x59;
         .leaf x62)
        (
         .leaf x59)))))))))))))))))
     (
      let x8 := fdiv .f64 x5 x6;
      .skip (
      let x9 := fmul .f64 x8 x8;
      let x10 := fadd .f64 4607182418800017408 x9;
      let x11 := math_Sqrt x10;
      let x12 := fadd .f64 4607182418800017408 x11;
      let x13 := fdiv .f64 x8 x12;
      .skip (
      let x14 := fmul .f64 x13 x13;
      let x15 := fadd .f64 4607182418800017408 x14;
      let x16 := math_Sqrt x15;
      let x17 := fadd .f64 4607182418800017408 x16;
      let x18 := fdiv .f64 x13 x17;
      .skip (
      let x19 := fmul .f64 x18 x18;
      let x20 := fadd .f64 4607182418800017408 x19;
      let x21 := math_Sqrt x20;
      let x22 := fadd .f64 4607182418800017408 x21;
      let x23 := fdiv .f64 x18 x22;
      .skip (
      let x24 := fmul .f64 x23 x23;
      .skip (
      let x25 := fofInt .f64 15;
      let x26 := fdiv .f64 4607182418800017408 x25;
      let x27 := fmul .f64 x24 0;
      let x28 := fsub .f64 x26 x27;
      .skip (
      let x29 := fofInt .f64 13;
      let x30 := fdiv .f64 4607182418800017408 x29;
      let x31 := fmul .f64 x24 x28;
      let x32 := fsub .f64 x30 x31;
      .skip (
      let x33 := fofInt .f64 11;
      let x34 := fdiv .f64 4607182418800017408 x33;
      let x35 := fmul .f64 x24 x32;
      let x36 := fsub .f64 x34 x35;
      .skip (
      let x37 := fofInt .f64 9;
      let x38 := fdiv .f64 4607182418800017408 x37;
      let x39 := fmul .f64 x24 x36;
      let x40 := fsub .f64 x38 x39;
      .skip (
      let x41 := fofInt .f64 7;
      let x42 := fdiv .f64 4607182418800017408 x41;
      let x43 := fmul .f64 x24 x40;
      let x44 := fsub .f64 x42 x43;
      .skip (
      let x45 := fofInt .f64 5;
      let x46 := fdiv .f64 4607182418800017408 x45;
      let x47 := fmul .f64 x24 x44;
      let x48 := fsub .f64 x46 x47;
      .skip (
      let x49 := fofInt .f64 3;
      let x50 := fdiv .f64 4607182418800017408 x49;
      let x51 := fmul .f64 x24 x48;
      let x52 := fsub .f64 x50 x51;
      .skip (
      let x53 := fofInt .f64 1;
      let x54 := fdiv .f64 4607182418800017408 x53;
      let x55 := fmul .f64 x24 x52;
      let x56 := fsub .f64 x54 x55;
      .skip (
      let x57 := fmul .f64 x23 x56;
      let x58 := fmul .f64 4620693217682128896 x57;
      let x59 := fdiv .f64 x58 4618760256179416344;
      .ask x7
      (
       let x60 := fsub .f64 4598175219545276416 x59;
       let x61 := flt .f64 a1 0;
       .ask x61
       (
        let x62 := fsub .f64 4602678819172646912 x60;
        let x63 := flt .f64 a0 0;
        .ask x63
        (
         let x64 := fneg .f64 x62;
         .leaf x64)
        (
         .leaf x62))
       (
        let x62 := flt .f64 a0 0;
        .ask x62
        (
         let x63 := fneg .f64 x60;
         .leaf x63)
        (
         .leaf x60)))
      (
       let x60 := flt .f64 a1 0;
       .ask x60
       (
        let x61 := fsub .f64 4602678819172646912 x59;
        let x62 := flt .f64 a0 0;
        .ask x62
        (
         let x63 := fneg .f64 x61;
         .leaf x63)
        (
         .leaf x61))
       (
        let x61 := flt .f64 a0 0;
        .ask x61
        (
         let x62 := fneg .f64 x59;
         .leaf x62)
        (
         .leaf x59))))))))))))))))))))
def spec_l01AngleWide (a0 : Nat) (a1 : Nat) : Nat := (spec_l01AngleWide_tree a0 a1).val
def spec_l01AngleWide_mk (p : Nat) : Ret := ⟨.flt .f64 p, []⟩
def spec_l01AngleWide_c : Con := fun args => match args with
  | [.flt .f64 a0, .flt .f64 a1] => some (.leaf (spec_l01AngleWide_mk (spec_l01AngleWide a0 a1)))
  | _ => none
set_option maxRecDepth 100000 in
theorem spec_l01AngleWide_ok : FunOK Try.prog 75 spec_l01AngleWide_c.fn := by
  refine con_ok (Γ := gam [(157, math_NaN_c), (158, math_Abs_c), (159, math_Sqrt_c)]) (gam_cons math_NaN_ok (gam_cons math_Abs_ok (gam_cons math_Sqrt_ok (gam_nil)))) tab_ok (by kernel_rfl) Try.func75 (by kernel_rfl) (by kernel_rfl) Try.ntmps75 Try.results75 (loopsOK_none rfl _) 100000 fun args t h => ?_
  unfold spec_l01AngleWide_c at h
  split at h
  · rename_i a0 a1
    cases h
    exact ⟨rfl, agree_tot (mk := spec_l01AngleWide_mk) (t := spec_l01AngleWide_tree a0 a1) (by unfold Agree; kernel_rfl) (by kernel_rfl)⟩
  · cases h

/-- loop.example/g01284/spec.l01Narrow -/
def spec_l01Narrow_tree (a0 : Nat) : DT (Nat) :=
  .need ((fconvOk .f64 a0 .f32)) (
  let x0 := fconv .f64 a0 .f32;
  .leaf x0)
def spec_l01Narrow (a0 : Nat) : Nat := (spec_l01Narrow_tree a0).val
def spec_l01Narrow_need (a0 : Nat) : Bool := (spec_l01Narrow_tree a0).ok
def spec_l01Narrow_mk (p : Nat) : Ret := ⟨.flt .f32 p, []⟩
def spec_l01Narrow_c : Con := fun args => match args with
  | [.flt .f64 a0] => some (.need (spec_l01Narrow_need a0) (.leaf (spec_l01Narrow_mk (spec_l01Narrow a0))))
  | _ => none
set_option maxRecDepth 100000 in
theorem spec_l01Narrow_ok : FunOK Try.prog 156 spec_l01Narrow_c.fn := by
  refine con_ok (Γ := gam []) (gam_nil) tab_ok (by kernel_rfl) Try.func156 (by kernel_rfl) (by kernel_rfl) Try.ntmps156 Try.results156 (loopsOK_none rfl _) 100000 fun args t h => ?_
  unfold spec_l01Narrow_c at h
  split at h
  · rename_i a0
    cases h
    exact ⟨rfl, agree_need (mk := spec_l01Narrow_mk) (t := spec_l01Narrow_tree a0) (by unfold Agree; kernel_rfl)⟩
  · cases h

/-- loop.example/g01284/spec.l03Narrow -/
def spec_l03Narrow_tree (a0 : Nat) : DT (Nat × Bool) :=
  .need ((spec_l01Narrow_need a0)) (
  let x0 := spec_l01Narrow a0;
  let x1 := spec_l01Finite x0;
  .ask (!x1)
  (
   .leaf (0, false))
  (
   .leaf (x0, true)))
def spec_l03Narrow (a0 : Nat) : Nat × Bool := (spec_l03Narrow_tree a0).val
def spec_l03Narrow_need (a0 : Nat) : Bool := (spec_l03Narrow_tree a0).ok
def spec_l03Narrow_mk (p : Nat × Bool) : Ret := ⟨.tup [.flt .f32 p.1, .bool p.2], []⟩
def spec_l03Narrow_c : Con := fun args => match args with
  | [.flt .f64 a0] => some (.need (spec_l03Narrow_need a0) (.leaf (spec_l03Narrow_mk (spec_l03Narrow a0))))
  | _ => none
set_option maxRecDepth 100000 in
theorem spec_l03Narrow_ok : FunOK Try.prog 74 spec_l03Narrow_c.fn := by
  refine con_ok (Γ := gam [(156, spec_l01Narrow_c), (88, spec_l01Finite_c)]) (gam_cons spec_l01Narrow_ok (gam_cons spec_l01Finite_ok (gam_nil))) tab_ok (by kernel_rfl) Try.func74 (by kernel_rfl) (by kernel_rfl) Try.ntmps74 Try.results74 (loopsOK_none rfl _) 100000 fun args t h => ?_
  unfold spec_l03Narrow_c at h
  split at h
  · rename_i a0
    cases h
    exact ⟨rfl, agree_need (mk := spec_l03Narrow_mk) (t := spec_l03Narrow_tree a0) (by unfold Agree; kernel_rfl)⟩
  · cases h

/-- loop.example/g01284/spec.TiltBetween -/
def spec_TiltBetween_tree (a0 : Orbit) (a1 : Orbit) : DT (Nat × Bool) :=
  let x0 := spec_l03Is (⟨a0.Long, a0.Round, a0.Tilt, a0.Node, a0.Peri, a0.Phase⟩ : Orbit);
  .ask (!x0)
  (
   .leaf (0, false))
  (
   let x1 := spec_l03Is (⟨a1.Long, a1.Round, a1.Tilt, a1.Node, a1.Peri, a1.Phase⟩ : Orbit);
   .ask (!x1)
   (
    .leaf (0, false))
   (
    .need ((spec_l03Normal_need (⟨a0.Long, a0.Round, a0.Tilt, a0.Node, a0.Peri, a0.Phase⟩ : Orbit))) (
    let x2 := spec_l03Normal (⟨a0.Long, a0.Round, a0.Tilt, a0.Node, a0.Peri, a0.Phase⟩ : Orbit);
    .need ((spec_l03Normal_need (⟨a1.Long, a1.Round, a1.Tilt, a1.Node, a1.Peri, a1.Phase⟩ : Orbit))) (
    let x3 := spec_l03Normal (⟨a1.Long, a1.Round, a1.Tilt, a1.Node, a1.Peri, a1.Phase⟩ : Orbit);
    let x4 := spec_l03Cross x2.1 x2.2.1 x2.2.2 x3.1 x3.2.1 x3.2.2;
    let x5 := spec_l03Size x4.1 x4.2.1 x4.2.2;
    let x6 := spec_l03Dot x2.1 x2.2.1 x2.2.2 x3.1 x3.2.1 x3.2.2;
    let x7 := spec_l01AngleWide x5 x6;
    .need ((spec_l03Narrow_need x7)) (
    let x8 := spec_l03Narrow x7;
    .leaf (x8.1, x8.2))))))
def spec_TiltBetween (a0 : Orbit) (a1 : Orbit) : Nat × Bool := (spec_TiltBetween_tree a0 a1).val
def spec_TiltBetween_need (a0 : Orbit) (a1 : Orbit) : Bool := (spec_TiltBetween_tree a0 a1).ok
def spec_TiltBetween_mk (p : Nat × Bool) : Ret := ⟨.tup [.flt .f32 p.1, .bool p.2], []⟩
def spec_TiltBetween_c : Con := fun args => match args with
  | [.agg [.flt .f32 a0_0, .flt .f32 a0_1, .flt .f32 a0_2, .flt .f32 a0_3, .flt .f32 a0_4, .flt .f32 a0_5], .agg [.flt .f32 a1_0, .flt .f32 a1_1, .flt .f32 a1_2, .flt .f32 a1_3, .flt .f32 a1_4, .flt .f32 a1_5]] => some (.need (spec_TiltBetween_need (⟨a0_0, a0_1, a0_2, a0_3, a0_4, a0_5⟩ : Orbit) (⟨a1_0, a1_1, a1_2, a1_3, a1_4, a1_5⟩ : Orbit)) (.leaf (spec_TiltBetween_mk (spec_TiltBetween (⟨a0_0, a0_1, a0_2, a0_3, a0_4, a0_5⟩ : Orbit) (⟨a1_0, a1_1, a1_2, a1_3, a1_4, a1_5⟩ : Orbit)))))
  | _ => none
set_option maxRecDepth 100000 in
theorem spec_TiltBetween_ok : FunOK Try.prog 20 spec_TiltBetween_c.fn := by
  refine con_ok (Γ := gam [(72, spec_l03Is_c), (73, spec_l03Normal_c), (77, spec_l03Cross_c), (76, spec_l03Size_c), (78, spec_l03Dot_c), (75, spec_l01AngleWide_c), (74, spec_l03Narrow_c)]) (gam_cons spec_l03Is_ok (gam_cons spec_l03Normal_ok (gam_cons spec_l03Cross_ok (gam_cons spec_l03Size_ok (gam_cons spec_l03Dot_ok (gam_cons spec_l01AngleWide_ok (gam_cons spec_l03Narrow_ok (gam_nil)))))))) tab_ok (by kernel_rfl) Try.func20 (by kernel_rfl) (by kernel_rfl) Try.ntmps20 Try.results20 (loopsOK_none rfl _) 100000 fun args t h => ?_
  unfold spec_TiltBetween_c at h
  split at h
  · rename_i a0_0 a0_1 a0_2 a0_3 a0_4 a0_5 a1_0 a1_1 a1_2 a1_3 a1_4 a1_5
    cases h
    exact ⟨rfl, agree_need (mk := spec_TiltBetween_mk) (t := spec_TiltBetween_tree (⟨a0_0, a0_1, a0_2, a0_3, a0_4, a0_5⟩ : Orbit) (⟨a1_0, a1_1, a1_2, a1_3, a1_4, a1_5⟩ : Orbit)) (by unfold Agree; kernel_rfl)⟩
  · cases h

/-- math.IsNaN -/
def math_IsNaN_tree (a0 : Nat) : DT (Bool) :=
  let x0 := fne .f64 a0 a0;
  .leaf x0
def math_IsNaN (a0 : Nat) : Bool := (math_IsNaN_tree a0).val
def math_IsNaN_mk (p : Bool) : Ret := ⟨.bool p, []⟩
def math_IsNaN_c : Con := fun args => match args with
  | [.flt .f64 a0] => some (.leaf (math_IsNaN_mk (math_IsNaN a0)))
  | _ => none
set_option maxRecDepth 100000 in
theorem math_IsNaN_ok : FunOK Try.prog 210 math_IsNaN_c.fn := by
  refine con_ok (Γ := gam []) (gam_nil) tab_ok (by kernel_rfl) Try.func210 (by kernel_rfl) (by kernel_rfl) Try.ntmps210 Try.results210 (loopsOK_none rfl _) 100000 fun args t h => ?_
  unfold math_IsNaN_c at h
  split at h
  · rename_i a0
    cases h
    exact ⟨rfl, agree_tot (mk := math_IsNaN_mk) (t := math_IsNaN_tree a0) (by unfold Agree; kernel_rfl) (by kernel_rfl)⟩
  · cases h

/-- math.IsInf -/
def math_IsInf_tree (a0 : Nat) (a1 : Int) : DT (Bool) :=
  let x0 := (a1 == 0);
  .ask x0
  (
   let x1 := math_Abs a0;
   let x2 := fgt .f64 x1 9218868437227405311;
   .leaf x2)
  (
   let x1 := decide (a1 < 0);
   .ask x1
   (
    let x2 := fneg .f64 a0;
    let x3 := fgt .f64 x2 9218868437227405311;
    .leaf x3)
   (
    let x2 := fgt .f64 a0 9218868437227405311;
    .leaf x2))
def math_IsInf (a0 : Nat) (a1 : Int) : Bool := (math_IsInf_tree a0 a1).val
def math_IsInf_mk (p : Bool) : Ret := ⟨.bool p, []⟩
def math_IsInf_c : Con := fun args => match args with
  | [.flt .f64 a0, .int .i64 a1] => some (.leaf (math_IsInf_mk (math_IsInf a0 a1)))
  | _ => none
set_option maxRecDepth 100000 in
theorem math_IsInf_ok : FunOK Try.prog 211 math_IsInf_c.fn := by
  refine con_ok (Γ := gam [(158, math_Abs_c)]) (gam_cons math_Abs_ok (gam_nil)) tab_ok (by kernel_rfl) Try.func211 (by kernel_rfl) (by kernel_rfl) Try.ntmps211 Try.results211 (loopsOK_none rfl _) 100000 fun args t h => ?_
  unfold math_IsInf_c at h
  split at h
  · rename_i a0 a1
    cases h
    exact ⟨rfl, agree_tot (mk := math_IsInf_mk) (t := math_IsInf_tree a0 a1) (by unfold Agree; kernel_rfl) (by kernel_rfl)⟩
  · cases h

/-- loop.example/g01284/impl.finite -/
def impl_finite_tree (a0 : Nat) : DT (Bool) :=
  let x0 := math_IsNaN a0;
  .ask (!x0)
  (
   let x1 := math_IsInf a0 0;
   .leaf (!x1))
  (
   .leaf false)
def impl_finite (a0 : Nat) : Bool := (impl_finite_tree a0).val
def impl_finite_mk (p : Bool) : Ret := ⟨.bool p, []⟩
def impl_finite_c : Con := fun args => match args with
  | [.flt .f64 a0] => some (.leaf (impl_finite_mk (impl_finite a0)))
  | _ => none
set_option maxRecDepth 100000 in
theorem impl_finite_ok : FunOK Try.prog 166 impl_finite_c.fn := by
  refine con_ok (Γ := gam [(210, math_IsNaN_c), (211, math_IsInf_c)]) (gam_cons math_IsNaN_ok (gam_cons math_IsInf_ok (gam_nil))) tab_ok (by kernel_rfl) Try.func166 (by kernel_rfl) (by kernel_rfl) Try.ntmps166 Try.results166 (loopsOK_none rfl _) 100000 fun args t h => ?_
  unfold impl_finite_c at h
  split at h
  · rename_i a0
    cases h
    exact ⟨rfl, agree_tot (mk := impl_finite_mk) (t := impl_finite_tree a0) (by unfold Agree; kernel_rfl) (by kernel_rfl)⟩
  · cases h

/-- loop.example/g01284/impl.IsFinite -/
def impl_IsFinite_tree (a0 : Nat) : DT (Bool) :=
  .need ((fconvOk .f32 a0 .f64)) (
  let x0 := fconv .f32 a0 .f64;
  let x1 := impl_finite x0;
  .leaf x1)
def impl_IsFinite (a0 : Nat) : Bool := (impl_IsFinite_tree a0).val
def impl_IsFinite_need (a0 : Nat) : Bool := (impl_IsFinite_tree a0).ok
def impl_IsFinite_mk (p : Bool) : Ret := ⟨.bool p, []⟩
def impl_IsFinite_c : Con := fun args => match args with
  | [.flt .f32 a0] => some (.need (impl_IsFinite_need a0) (.leaf (impl_IsFinite_mk (impl_IsFinite a0))))
  | _ => none
set_option maxRecDepth 100000 in
theorem impl_IsFinite_ok : FunOK Try.prog 92 impl_IsFinite_c.fn := by
  refine con_ok (Γ := gam [(166, impl_finite_c)]) (gam_cons impl_finite_ok (gam_nil)) tab_ok (by kernel_rfl) Try.func92 (by kernel_rfl) (by kernel_rfl) Try.ntmps92 Try.results92 (loopsOK_none rfl _) 100000 fun args t h => ?_
  unfold impl_IsFinite_c at h
  split at h
  · rename_i a0
    cases h
    exact ⟨rfl, agree_need (mk := impl_IsFinite_mk) (t := impl_IsFinite_tree a0) (by unfold Agree; kernel_rfl)⟩
  · cases h

/-- loop.example/g01284/impl.areFinite$1 -/
def impl_areFinite_1_tree (a0 : Nat) : DT (Bool) :=
  .need ((impl_IsFinite_need a0)) (
  let x0 := impl_IsFinite a0;
  .leaf (!x0))
def impl_areFinite_1 (a0 : Nat) : Bool := (impl_areFinite_1_tree a0).val
def impl_areFinite_1_need (a0 : Nat) : Bool := (impl_areFinite_1_tree a0).ok
def impl_areFinite_1_mk (p : Bool) : Ret := ⟨.bool p, []⟩
def impl_areFinite_1_c : Con := fun args => match args with
  | [.flt .f32 a0] => some (.need (impl_areFinite_1_need a0) (.leaf (impl_areFinite_1_mk (impl_areFinite_1 a0))))
  | _ => none
set_option maxRecDepth 100000 in
theorem impl_areFinite_1_ok : FunOK Try.prog 182 impl_areFinite_1_c.fn := by
  refine con_ok (Γ := gam [(92, impl_IsFinite_c)]) (gam_cons impl_IsFinite_ok (gam_nil)) tab_ok (by kernel_rfl) Try.func182 (by kernel_rfl) (by kernel_rfl) Try.ntmps182 Try.results182 (loopsOK_none rfl _) 100000 fun args t h => ?_
  unfold impl_areFinite_1_c at h
  split at h
  · rename_i a0
    cases h
    exact ⟨rfl, agree_need (mk := impl_areFinite_1_mk) (t := impl_areFinite_1_tree a0) (by unfold Agree; kernel_rfl)⟩
  · cases h

/-- a loop of slices_IndexFunc___float32_float32__impl_areFinite_1 -/
def slices_IndexFunc___float32_float32__impl_areFinite_1_loop0_step (p : List Nat × Int) (s : Int) : Round (Int) ((Int) ⊕ (Unit)) :=
  let x0 := decide (s < p.2);
  .ask x0
  (
   .need ((decide (0 ≤ s) && decide (s < ((List.length p.1 : Nat) : Int)))) (
   let x1 := List.getD p.1 (Int.toNat s) default;
   .need ((impl_areFinite_1_need x1)) (
   let x2 := impl_areFinite_1 x1;
   .ask x2
   (
    .leaf (.inr (.inl s), []))
   (
    let x3 := IntKind.wrap .i64 (s + 1);
    .leaf (.inl x3, [])))))
  (
   .leaf (.inr (.inr ()), []))
def slices_IndexFunc___float32_float32__impl_areFinite_1_loop0_L (p : List Nat × Int) : LoopS (Int) ((Int) ⊕ (Unit)) := { tl := fun s => [.vslc 1 (.flt .f32) p.1, .func (.func 182) [] [], .junk, .junk, .junk, .junk, .junk, .int .i64 p.2, .int .i64 s], hl := fun s => [], ex := fun r => match r with | .inl r => .ret | .inr r => .exit 0, otl := fun r => match r with | .inl r => [.junk, .junk, .junk, .junk, .int .i64 r] | .inr r => [.junk], ohl := fun r => match r with | .inl r => [] | .inr r => [] }
def slices_IndexFunc___float32_float32__impl_areFinite_1_loop0_ext : St → Option ((List Nat × Int) × (Int) × List Nat) := fun S => match (S.tm 0).unK, (S.tm 1).unK, (S.tm 7).unK, (S.tm 8).unK with
  | .vslc 1 (.flt .f32) q0, .func (.func 182) [] [], .int .i64 q1, .int .i64 q2 => some ((q0, q1), q2, [])
  | _, _, _, _ => none
def slices_IndexFunc___float32_float32__impl_areFinite_1_loop0_post (p : List Nat × Int) (r : (Int) ⊕ (Unit)) : DT (Ex × St) := .ask (isL r) (.leaf (.ret, LSt [.junk, .junk, .junk, .junk, .int .i64 ((leftD r))] [])) (.leaf (.exit 0, LSt [.junk] []))
def slices_IndexFunc___float32_float32__impl_areFinite_1_loop0 (p : List Nat × Int) (s : Int) : (Int) ⊕ (Unit) := loopVal (slices_IndexFunc___float32_float32__impl_areFinite_1_loop0_step p) s
def slices_IndexFunc___float32_float32__impl_areFinite_1_loop0_ends (p : List Nat × Int) (s : Int) : Bool := loopEnds (slices_IndexFunc___float32_float32__impl_areFinite_1_loop0_step p) s
def slices_IndexFunc___float32_float32__impl_areFinite_1_loop0_F : LoopF := loopF slices_IndexFunc___float32_float32__impl_areFinite_1_loop0_step slices_IndexFunc___float32_float32__impl_areFinite_1_loop0_ext slices_IndexFunc___float32_float32__impl_areFinite_1_loop0_post
theorem slices_IndexFunc___float32_float32__impl_areFinite_1_loop0_hext : ∀ S p s fl, slices_IndexFunc___float32_float32__impl_areFinite_1_loop0_ext S = some (p, s, fl) → Norm S fl ((slices_IndexFunc___float32_float32__impl_areFinite_1_loop0_L p).tl s) ((slices_IndexFunc___float32_float32__impl_areFinite_1_loop0_L p).hl s) (slices_IndexFunc___float32_float32__impl_areFinite_1_loop0_L p).gl := by
  intro S p s fl h
  unfold slices_IndexFunc___float32_float32__impl_areFinite_1_loop0_ext at h
  (repeat' split at h) <;> first
    | (cases h; constructor <;> simp_all [slices_IndexFunc___float32_float32__impl_areFinite_1_loop0_L, keepT, keepH, rens, renH, PV.ren, Blk.ren, fOf, lget, nodup, natIn, lenEq, gtm, PV.unK])
    | cases h
theorem slices_IndexFunc___float32_float32__impl_areFinite_1_loop0_hpost : ∀ p r e S', (slices_IndexFunc___float32_float32__impl_areFinite_1_loop0_post p r).get = some (e, S') → e = (slices_IndexFunc___float32_float32__impl_areFinite_1_loop0_L p).ex r ∧ S' = LSt ((slices_IndexFunc___float32_float32__impl_areFinite_1_loop0_L p).otl r) ((slices_IndexFunc___float32_float32__impl_areFinite_1_loop0_L p).ohl r) ((slices_IndexFunc___float32_float32__impl_areFinite_1_loop0_L p).ogl r) := by
  intro p r e S' h
  unfold slices_IndexFunc___float32_float32__impl_areFinite_1_loop0_post at h
  cases r <;> (simp only [isL, DT.get, Option.some.injEq, Prod.mk.injEq] at h; exact ⟨h.1.symm, h.2.symm⟩)

def slices_IndexFunc___float32_float32__impl_areFinite_1_loops : Nat → Option LoopF := loopTab [(2, slices_IndexFunc___float32_float32__impl_areFinite_1_loop0_F)]
set_option maxRecDepth 100000 in
theorem slices_IndexFunc___float32_float32__impl_areFinite_1_l0 : LoopOK Try.prog ⟨gam [(182, impl_areFinite_1_c)], tab, 19, slices_IndexFunc___float32_float32__impl_areFinite_1_loops⟩ (lp Try.f219 0) :=
  loopOK_some (F := slices_IndexFunc___float32_float32__impl_areFinite_1_loop0_F) (by kernel_rfl) (loopF_ok (E := ⟨gam [(182, impl_areFinite_1_c)], tab, 19, slices_IndexFunc___float32_float32__impl_areFinite_1_loops⟩) ⟨gam_cons impl_areFinite_1_ok (gam_nil), tab_ok, by kernel_rfl⟩ (fuel := 100000) (loopsOK_list (l := []) (by kernel_rfl) trivial) (L := slices_IndexFunc___float32_float32__impl_areFinite_1_loop0_L) (fun p s => by unfold AgreeL; exact ⟨by kernel_rfl, by kernel_rfl⟩) (fun _ r h => by cases r <;> exact Ex.noConfusion h) slices_IndexFunc___float32_float32__impl_areFinite_1_loop0_hext slices_IndexFunc___float32_float32__impl_areFinite_1_loop0_hpost)
/-- slices.IndexFunc[[]float32,float32] -/
def slices_IndexFunc___float32_float32__impl_areFinite_1_tree (a0 : List Nat) : DT (Int) :=
  let x0 := ((List.length a0 : Nat) : Int);
  .need ((slices_IndexFunc___float32_float32__impl_areFinite_1_loop0_ends (a0, x0) 0)) (
  let x1 := slices_IndexFunc___float32_float32__impl_areFinite_1_loop0 (a0, x0) 0;
  .ask ((isL x1))
  (
   .leaf ((leftD x1)))
  (
   .leaf (-1)))
def slices_IndexFunc___float32_float32__impl_areFinite_1 (a0 : List Nat) : Int := (slices_IndexFunc___float32_float32__impl_areFinite_1_tree a0).val
def slices_IndexFunc___float32_float32__impl_areFinite_1_need (a0 : List Nat) : Bool := (slices_IndexFunc___float32_float32__impl_areFinite_1_tree a0).ok
def slices_IndexFunc___float32_float32__impl_areFinite_1_mk (p : Int) : Ret := ⟨.int .i64 p, []⟩
def slices_IndexFunc___float32_float32__impl_areFinite_1_c0 : Con := fun args => match args with
  | [.vslc 1 (.flt .f32) a0, .func (.func 182) [] []] => some (.need (slices_IndexFunc___float32_float32__impl_areFinite_1_need a0) (.leaf (slices_IndexFunc___float32_float32__impl_areFinite_1_mk (slices_IndexFunc___float32_float32__impl_areFinite_1 a0))))
  | _ => none
set_option maxRecDepth 100000 in
theorem slices_IndexFunc___float32_float32__impl_areFinite_1_ok0 : FunOK Try.prog 219 slices_IndexFunc___float32_float32__impl_areFinite_1_c0.fn := by
  refine con_ok (Γ := gam [(182, impl_areFinite_1_c)]) (gam_cons impl_areFinite_1_ok (gam_nil)) tab_ok (by kernel_rfl) Try.func219 (by kernel_rfl) (by kernel_rfl) Try.ntmps219 Try.results219 (loops := slices_IndexFunc___float32_float32__impl_areFinite_1_loops) (loopsOK_list (l := [lp Try.f219 0]) (by kernel_rfl) ⟨slices_IndexFunc___float32_float32__impl_areFinite_1_l0, trivial⟩) 100000 fun args t h => ?_
  unfold slices_IndexFunc___float32_float32__impl_areFinite_1_c0 at h
  split at h
  · rename_i a0
    cases h
    exact ⟨rfl, agree_need (mk := slices_IndexFunc___float32_float32__impl_areFinite_1_mk) (t := slices_IndexFunc___float32_float32__impl_areFinite_1_tree a0) (by unfold Agree; kernel_rfl)⟩
  · cases h
def slices_IndexFunc___float32_float32__impl_areFinite_1_c : Con := fun args => slices_IndexFunc___float32_float32__impl_areFinite_1_c0 (norms 0 [.slc (.flt .f32), .none] args)
set_option maxRecDepth 100000 in
theorem slices_IndexFunc___float32_float32__impl_areFinite_1_ok : FunOK Try.prog 219 slices_IndexFunc___float32_float32__impl_areFinite_1_c.fn := con_norm [.slc (.flt .f32), .none] slices_IndexFunc___float32_float32__impl_areFinite_1_ok0

/-- slices.ContainsFunc[[]float32,float32] -/
def slices_ContainsFunc___float32_float32__impl_areFinite_1_tree (a0 : List Nat) : DT (Bool) :=
  .need ((slices_IndexFunc___float32_float32__impl_areFinite_1_need a0 )) (
  let x0 := slices_IndexFunc___float32_float32__impl_areFinite_1 a0 ;
  let x1 := decide (x0 ≥ 0);
  .leaf x1)
def slices_ContainsFunc___float32_float32__impl_areFinite_1 (a0 : List Nat) : Bool := (slices_ContainsFunc___float32_float32__impl_areFinite_1_tree a0).val
def slices_ContainsFunc___float32_float32__impl_areFinite_1_need (a0 : List Nat) : Bool := (slices_ContainsFunc___float32_float32__impl_areFinite_1_tree a0).ok
def slices_ContainsFunc___float32_float32__impl_areFinite_1_mk (p : Bool) : Ret := ⟨.bool p, []⟩
def slices_ContainsFunc___float32_float32__impl_areFinite_1_c0 : Con := fun args => match args with
  | [.vslc 1 (.flt .f32) a0, .func (.func 182) [] []] => some (.need (slices_ContainsFunc___float32_float32__impl_areFinite_1_need a0) (.leaf (slices_ContainsFunc___float32_float32__impl_areFinite_1_mk (slices_ContainsFunc___float32_float32__impl_areFinite_1 a0))))
  | _ => none
set_option maxRecDepth 100000 in
theorem slices_ContainsFunc___float32_float32__impl_areFinite_1_ok0 : FunOK Try.prog 181 slices_ContainsFunc___float32_float32__impl_areFinite_1_c0.fn := by
  refine con_ok (Γ := gam [(219, slices_IndexFunc___float32_float32__impl_areFinite_1_c)]) (gam_cons slices_IndexFunc___float32_float32__impl_areFinite_1_ok (gam_nil)) tab_ok (by kernel_rfl) Try.func181 (by kernel_rfl) (by kernel_rfl) Try.ntmps181 Try.results181 (loopsOK_none rfl _) 100000 fun args t h => ?_
  unfold slices_ContainsFunc___float32_float32__impl_areFinite_1_c0 at h
  split at h
  · rename_i a0
    cases h
    exact ⟨rfl, agree_need (mk := slices_ContainsFunc___float32_float32__impl_areFinite_1_mk) (t := slices_ContainsFunc___float32_float32__impl_areFinite_1_tree a0) (by unfold Agree; kernel_rfl)⟩
  · cases h
def slices_ContainsFunc___float32_float32__impl_areFinite_1_c : Con := fun args => slices_ContainsFunc___float32_float32__impl_areFinite_1_c0 (norms 0 [.slc (.flt .f32), .none] args)
set_option maxRecDepth 100000 in
theorem slices_ContainsFunc___float32_float32__impl_areFinite_1_ok : FunOK Try.prog 181 slices_ContainsFunc___float32_float32__impl_areFinite_1_c.fn := con_norm [.slc (.flt .f32), .none] slices_ContainsFunc___float32_float32__impl_areFinite_1_ok0

/-- loop.example/g01284/impl.areFinite -/
def impl_areFinite_tree (a0 : List Nat) : DT (Bool) :=
  .need ((slices_ContainsFunc___float32_float32__impl_areFinite_1_need a0 )) (
  let x0 := slices_ContainsFunc___float32_float32__impl_areFinite_1 a0 ;
  .leaf (!x0))
def impl_areFinite (a0 : List Nat) : Bool := (impl_areFinite_tree a0).val
def impl_areFinite_need (a0 : List Nat) : Bool := (impl_areFinite_tree a0).ok
def impl_areFinite_mk (p : Bool) : Ret := ⟨.bool p, []⟩
def impl_areFinite_c0 : Con := fun args => match args with
  | [.vslc 1 (.flt .f32) a0] => some (.need (impl_areFinite_need a0) (.leaf (impl_areFinite_mk (impl_areFinite a0))))
  | _ => none
set_option maxRecDepth 100000 in
theorem impl_areFinite_ok0 : FunOK Try.prog 113 impl_areFinite_c0.fn := by
  refine con_ok (Γ := gam [(181, slices_ContainsFunc___float32_float32__impl_areFinite_1_c)]) (gam_cons slices_ContainsFunc___float32_float32__impl_areFinite_1_ok (gam_nil)) tab_ok (by kernel_rfl) Try.func113 (by kernel_rfl) (by kernel_rfl) Try.ntmps113 Try.results113 (loopsOK_none rfl _) 100000 fun args t h => ?_
  unfold impl_areFinite_c0 at h
  split at h
  · rename_i a0
    cases h
    exact ⟨rfl, agree_need (mk := impl_areFinite_mk) (t := impl_areFinite_tree a0) (by unfold Agree; kernel_rfl)⟩
  · cases h
def impl_areFinite_c : Con := fun args => impl_areFinite_c0 (norms 0 [.slc (.flt .f32)] args)
set_option maxRecDepth 100000 in
theorem impl_areFinite_ok : FunOK Try.prog 113 impl_areFinite_c.fn := con_norm [.slc (.flt .f32)] impl_areFinite_ok0

/-- loop.example/g01284/impl.isTurn -/
def impl_isTurn_tree (a0 : Nat) : DT (Bool) :=
  let x0 := fge .f32 a0 0;
  .ask x0
  (
   let x1 := flt .f32 a0 1065353216;
   .leaf x1)
  (
   .leaf false)
def impl_isTurn (a0 : Nat) : Bool := (impl_isTurn_tree a0).val
def impl_isTurn_mk (p : Bool) : Ret := ⟨.bool p, []⟩
def impl_isTurn_c : Con := fun args => match args with
  | [.flt .f32 a0] => some (.leaf (impl_isTurn_mk (impl_isTurn a0)))
  | _ => none
set_option maxRecDepth 100000 in
theorem impl_isTurn_ok : FunOK Try.prog 160 impl_isTurn_c.fn := by
  refine con_ok (Γ := gam []) (gam_nil) tab_ok (by kernel_rfl) Try.func160 (by kernel_rfl) (by kernel_rfl) Try.ntmps160 Try.results160 (loopsOK_none rfl _) 100000 fun args t h => ?_
  unfold impl_isTurn_c at h
  split at h
  · rename_i a0
    cases h
    exact ⟨rfl, agree_tot (mk := impl_isTurn_mk) (t := impl_isTurn_tree a0) (by unfold Agree; kernel_rfl) (by kernel_rfl)⟩
  · cases h

/-- (loop.example/g01284/impl.Orbit).isEllipse -/
def impl_Orbit_isEllipse_tree (a0 : Orbit) : DT (Bool) :=
  let x0 := fgt .f32 a0.Long 0;
  .ask x0
  (
   let x1 := fge .f32 a0.Round 0;
   .ask x1
   (
    let x2 := flt .f32 a0.Round 1065353216;
    .ask x2
    (
     let x3 := impl_isTurn a0.Phase;
     .leaf x3)
    (
     .leaf false))
   (
    .leaf false))
  (
   .leaf false)
def impl_Orbit_isEllipse (a0 : Orbit) : Bool := (impl_Orbit_isEllipse_tree a0).val
def impl_Orbit_isEllipse_mk (p : Bool) : Ret := ⟨.bool p, []⟩
def impl_Orbit_isEllipse_c : Con := fun args => match args with
  | [.agg [.flt .f32 a0_0, .flt .f32 a0_1, .flt .f32 a0_2, .flt .f32 a0_3, .flt .f32 a0_4, .flt .f32 a0_5]] => some (.leaf (impl_Orbit_isEllipse_mk (impl_Orbit_isEllipse (⟨a0_0, a0_1, a0_2, a0_3, a0_4, a0_5⟩ : Orbit))))
  | _ => none
set_option maxRecDepth 100000 in
theorem impl_Orbit_isEllipse_ok : FunOK Try.prog 161 impl_Orbit_isEllipse_c.fn := by
  refine con_ok (Γ := gam [(160, impl_isTurn_c)]) (gam_cons impl_isTurn_ok (gam_nil)) tab_ok (by kernel_rfl) Try.func161 (by kernel_rfl) (by kernel_rfl) Try.ntmps161 Try.results161 (loopsOK_none rfl _) 100000 fun args t h => ?_
  unfold impl_Orbit_isEllipse_c at h
  split at h
  · rename_i a0_0 a0_1 a0_2 a0_3 a0_4 a0_5
    cases h
    exact ⟨rfl, agree_tot (mk := impl_Orbit_isEllipse_mk) (t := impl_Orbit_isEllipse_tree (⟨a0_0, a0_1, a0_2, a0_3, a0_4, a0_5⟩ : Orbit)) (by unfold Agree; kernel_rfl) (by kernel_rfl)⟩
  · cases h

/-- (loop.example/g01284/impl.Orbit).isBranch -/
def impl_Orbit_isBranch_tree (a0 : Orbit) : DT (Bool) :=
  let x0 := flt .f32 a0.Long 0;
  .ask x0
  (
   let x1 := fgt .f32 a0.Round 1065353216;
   .ask x1
   (
    let x2 := fge .f32 a0.Phase 3246391296;
    .ask x2
    (
     let x3 := fle .f32 a0.Phase 1098907648;
     .leaf x3)
    (
     .leaf false))
   (
    .leaf false))
  (
   .leaf false)
def impl_Orbit_isBranch (a0 : Orbit) : Bool := (impl_Orbit_isBranch_tree a0).val
def impl_Orbit_isBranch_mk (p : Bool) : Ret := ⟨.bool p, []⟩
def impl_Orbit_isBranch_c : Con := fun args => match args with
  | [.agg [.flt .f32 a0_0, .flt .f32 a0_1, .flt .f32 a0_2, .flt .f32 a0_3, .flt .f32 a0_4, .flt .f32 a0_5]] => some (.leaf (impl_Orbit_isBranch_mk (impl_Orbit_isBranch (⟨a0_0, a0_1, a0_2, a0_3, a0_4, a0_5⟩ : Orbit))))
  | _ => none
set_option maxRecDepth 100000 in
theorem impl_Orbit_isBranch_ok : FunOK Try.prog 162 impl_Orbit_isBranch_c.fn := by
  refine con_ok (Γ := gam []) (gam_nil) tab_ok (by kernel_rfl) Try.func162 (by kernel_rfl) (by kernel_rfl) Try.ntmps162 Try.results162 (loopsOK_none rfl _) 100000 fun args t h => ?_
  unfold impl_Orbit_isBranch_c at h
  split at h
  · rename_i a0_0 a0_1 a0_2 a0_3 a0_4 a0_5
    cases h
    exact ⟨rfl, agree_tot (mk := impl_Orbit_isBranch_mk) (t := impl_Orbit_isBranch_tree (⟨a0_0, a0_1, a0_2, a0_3, a0_4, a0_5⟩ : Orbit)) (by unfold Agree; kernel_rfl) (by kernel_rfl)⟩
  · cases h

/-- loop.example/g01284/impl.ValidOrbit -/
def impl_ValidOrbit_tree (a0 : Orbit) : DT (Bool) :=
  .need ((impl_areFinite_need ([a0.Long, a0.Round, a0.Tilt, a0.Node, a0.Peri, a0.Phase]))) (
  let x0 := impl_areFinite ([a0.Long, a0.Round, a0.Tilt, a0.Node, a0.Peri, a0.Phase]);
  .ask x0
  (
   let x1 := fge .f32 a0.Tilt 0;
   .ask x1
   (
    let x2 := fle .f32 a0.Tilt 1056964608;
    .ask x2
    (
     let x3 := impl_isTurn a0.Node;
     .ask x3
     (
      let x4 := impl_isTurn a0.Peri;
      .ask x4
      (
       let x5 := impl_Orbit_isEllipse (⟨a0.Long, a0.Round, a0.Tilt, a0.Node, a0.Peri, a0.Phase⟩ : Orbit);
       .ask x5
       (
        .leaf true)
       (
        let x6 := impl_Orbit_isBranch (⟨a0.Long, a0.Round, a0.Tilt, a0.Node, a0.Peri, a0.Phase⟩ : Orbit);
        .leaf x6))
      (
       .leaf false))
     (
      .leaf false))
    (
     .leaf false))
   (
    .leaf false))
  (
   .leaf false))
def impl_ValidOrbit (a0 : Orbit) : Bool := (impl_ValidOrbit_tree a0).val
def impl_ValidOrbit_need (a0 : Orbit) : Bool := (impl_ValidOrbit_tree a0).ok
def impl_ValidOrbit_mk (p : Bool) : Ret := ⟨.bool p, []⟩
def impl_ValidOrbit_c : Con := fun args => match args with
  | [.agg [.flt .f32 a0_0, .flt .f32 a0_1, .flt .f32 a0_2, .flt .f32 a0_3, .flt .f32 a0_4, .flt .f32 a0_5]] => some (.need (impl_ValidOrbit_need (⟨a0_0, a0_1, a0_2, a0_3, a0_4, a0_5⟩ : Orbit)) (.leaf (impl_ValidOrbit_mk (impl_ValidOrbit (⟨a0_0, a0_1, a0_2, a0_3, a0_4, a0_5⟩ : Orbit)))))
  | _ => none
set_option maxRecDepth 100000 in
theorem impl_ValidOrbit_ok : FunOK Try.prog 79 impl_ValidOrbit_c.fn := by
  refine con_ok (Γ := gam [(113, impl_areFinite_c), (160, impl_isTurn_c), (161, impl_Orbit_isEllipse_c), (162, impl_Orbit_isBranch_c)]) (gam_cons impl_areFinite_ok (gam_cons impl_isTurn_ok (gam_cons impl_Orbit_isEllipse_ok (gam_cons impl_Orbit_isBranch_ok (gam_nil))))) tab_ok (by kernel_rfl) Try.func79 (by kernel_rfl) (by kernel_rfl) Try.ntmps79 Try.results79 (loopsOK_none rfl _) 100000 fun args t h => ?_
  unfold impl_ValidOrbit_c at h
  split at h
  · rename_i a0_0 a0_1 a0_2 a0_3 a0_4 a0_5
    cases h
    exact ⟨rfl, agree_need (mk := impl_ValidOrbit_mk) (t := impl_ValidOrbit_tree (⟨a0_0, a0_1, a0_2, a0_3, a0_4, a0_5⟩ : Orbit)) (by unfold Agree; kernel_rfl)⟩
  · cases h

-- FAILED 239 math.Copysign: nanb

-- FAILED 236 math.trunc: no contract: math.Copysign 

/-- math.Trunc -/
def math_Trunc_tree (a0 : Nat) : DT (Nat) :=
  let x0 := ftrunc a0;
  .leaf x0
def math_Trunc (a0 : Nat) : Nat := (math_Trunc_tree a0).val
def math_Trunc_mk (p : Nat) : Ret := ⟨.flt .f64 p, []⟩
def math_Trunc_c : Con := fun args => match args with
  | [.flt .f64 a0] => some (.leaf (math_Trunc_mk (math_Trunc a0)))
  | _ => none
set_option maxRecDepth 100000 in
theorem math_Trunc_ok : FunOK Try.prog 227 math_Trunc_c.fn := by
  refine con_ok (Γ := gam [(235, math_archTrunc_c)]) (gam_cons math_archTrunc_ok (gam_nil)) tab_ok (by kernel_rfl) Try.func227 (by kernel_rfl) (by kernel_rfl) Try.ntmps227 Try.results227 (loopsOK_none rfl _) 100000 fun args t h => ?_
  unfold math_Trunc_c at h
  split at h
  · rename_i a0
    cases h
    exact ⟨rfl, agree_tot (mk := math_Trunc_mk) (t := math_Trunc_tree a0) (by unfold Agree; kernel_rfl) (by kernel_rfl)⟩
  · cases h

/-- loop.example/g01284/impl.behind -/
def impl_behind_tree (a0 : Nat) : DT (Nat) :=
  let x0 := math_Trunc a0;
  let x1 := fadd .f64 x0 0;
  let x2 := fsub .f64 a0 x1;
  let x3 := flt .f64 x2 0;
  .ask x3
  (
   let x4 := fadd .f64 x2 4607182418800017408;
   .leaf x4)
  (
   .leaf x2)
def impl_behind (a0 : Nat) : Nat := (impl_behind_tree a0).val
def impl_behind_mk (p : Nat) : Ret := ⟨.flt .f64 p, []⟩
def impl_behind_c : Con := fun args => match args with
  | [.flt .f64 a0] => some (.leaf (impl_behind_mk (impl_behind a0)))
  | _ => none
set_option maxRecDepth 100000 in
theorem impl_behind_ok : FunOK Try.prog 209 impl_behind_c.fn := by
  refine con_ok (Γ := gam [(227, math_Trunc_c)]) (gam_cons math_Trunc_ok (gam_nil)) tab_ok (by kernel_rfl) Try.func209 (by kernel_rfl) (by kernel_rfl) Try.ntmps209 Try.results209 (loopsOK_none rfl _) 100000 fun args t h => ?_
  unfold impl_behind_c at h
  split at h
  · rename_i a0
    cases h
    exact ⟨rfl, agree_tot (mk := impl_behind_mk) (t := impl_behind_tree a0) (by unfold Agree; kernel_rfl) (by kernel_rfl)⟩
  · cases h

/-- loop.example/g01284/impl.sine -/
def impl_sine_tree (a0 : Nat) : DT (Nat) :=
  let x0 := impl_behind a0;
  let x1 := fge .f64 x0 4602678819172646912;
  .ask x1
  (
   let x2 := fsub .f64 x0 4602678819172646912;
   let x3 := fgt .f64 x2 4598175219545276416;
   .ask x3
   (
    let x4 := fsub .f64 4602678819172646912 x2;
    let x5 := fmul .f64 x4 4618760256179416344;
    let x6 := fmul .f64 x5 x5;
    .skip (
    let x7 := fmul .f64 x6 4607182418800017408;
    let x8 := fofInt .f64 272;
    let x9 := fdiv .f64 x7 x8;
    let x10 := fsub .f64 4607182418800017408 x9;
    .skip (
    let x11 := fmul .f64 x6 x10;
    let x12 := fofInt .f64 210;
    let x13 := fdiv .f64 x11 x12;
    let x14 := fsub .f64 4607182418800017408 x13;
    .skip (
    let x15 := fmul .f64 x6 x14;
    let x16 := fofInt .f64 156;
    let x17 := fdiv .f64 x15 x16;
    let x18 := fsub .f64 4607182418800017408 x17;
    .skip (
    let x19 := fmul .f64 x6 x18;
    let x20 := fofInt .f64 110;
    let x21 := fdiv .f64 x19 x20;
    let x22 := fsub .f64 4607182418800017408 x21;
    .skip (
    let x23 := fmul .f64 x6 x22;
    let x24 := fofInt .f64 72;
    let x25 := fdiv .f64 x23 x24;
    let x26 := fsub .f64 4607182418800017408 x25;
    .skip (
    let x27 := fmul .f64 x6 x26;
    let x28 := fofInt .f64 42;
    let x29 := fdiv .f64 x27 x28;
    let x30 := fsub .f64 4607182418800017408 x29;
    .skip (
    let x31 := fmul .f64 x6 x30;
    let x32 := fofInt .f64 20;
    let x33 := fdiv .f64 x31 x32;
    let x34 := fsub .f64 4607182418800017408 x33;
    .skip (
    let x35 := fmul .f64 x6 x34;
    let x36 := fofInt .f64 6;
    let x37 := fdiv .f64 x35 x36;
    let x38 := fsub .f64 4607182418800017408 x37;
    .skip (
    let x39 := fmul .f64 x5 x38;
    let x40 := fneg .f64 x39;
    .leaf x40))))))))))
   (
    let x4 := fmul .f64 x2 4618760256179416344;
    let x5 := fmul .f64 x4 x4;
    .skip (
    let x6 := fmul .f64 x5 4607182418800017408;
    let x7 := fofInt .f64 272;
    let x8 := fdiv .f64 x6 x7;
    let x9 := fsub .f64 4607182418800017408 x8;
    .skip (
    let x10 := fmul .f64 x5 x9;
    let x11 := fofInt .f64 210;
    let x12 := fdiv .f64 x10 x11;
    let x13 := fsub .f64 4607182418800017408 x12;
    .skip (
    let x14 := fmul .f64 x5 x13;
    let x15 := fofInt .f64 156;
    let x16 := fdiv .f64 x14 x15;
    let x17 := fsub .f64 4607182418800017408 x16;
    .skip (
    let x18 := fmul .f64 x5 x17;
    let x19 := fofInt .f64 110;
    let x20 := fdiv .f64 x18 x19;
    let x21 := fsub .f64 4607182418800017408 x20;
    .skip (
    let x22 := fmul .f64 x5 x21;
    let x23 := fofInt .f64 72;
    let x24 := fdiv .f64 x22 x23;
    let x25 := fsub .f64 4607182418800017408 x24;
    .skip (
    let x26 := fmul .f64 x5 x25;
    let x27 := fofInt .f64 42;
    let x28 := fdiv .f64 x26 x27;
    let x29 := fsub .f64 4607182418800017408 x28;
    .skip (
    let x30 := fmul .f64 x5 x29;
    let x31 := fofInt .f64 20;
    let x32 := fdiv .f64 x30 x31;
    let x33 := fsub .f64 4607182418800017408 x32;
    .skip (
    let x34 := fmul .f64 x5 x33;
    let x35 := fofInt .f64 6;
    let x36 := fdiv .f64 x34 x35;
    let x37 := fsub .f64 4607182418800017408 x36;
    .skip (
    let x38 := fmul .f64 x4 x37;
    let x39 := fneg .f64 x38;
    .leaf x39)))))))))))
  (
   let x2 := fgt .f64 x0 4598175219545276416;
   .ask x2
   (
    let x3 := fsub .f64 4602678819172646912 x0;
    let x4 := fmul .f64 x3 4618760256179416344;
    let x5 := fmul .f64 x4 x4;
    .skip (
    let x6 := fmul .f64 x5 4607182418800017408;
    let x7 := fofInt .f64 272;
    let x8 := fdiv .f64 x6 x7;
    let x9 := fsub .f64 4607182418800017408 x8;
    .skip (
    let x10 := fmul .f64 x5 x9;
    let x11 := fofInt .f64 210;
    let x12 := fdiv .f64 x10 x11;
    let x13 := fsub .f64 4607182418800017408 x12;
    .skip (
    let x14 := fmul .f64 x5 x13;
    let x15 := fofInt .f64 156;
    let x16 := fdiv .f64 x14 x15;
    let x17 := fsub .f64 4607182418800017408 x16;
    .skip (
    let x18 := fmul .f64 x5 x17;
    let x19 := fofInt .f64 110;
    let x20 := fdiv .f64 x18 x19;
    let x21 := fsub .f64 4607182418800017408 x20;
    .skip (
    let x22 := fmul .f64 x5 x21;
    let x23 := fofInt .f64 72;
    let x24 := fdiv .f64 x22 x23;
    let x25 := fsub .f64 4607182418800017408 x24;
    .skip (
    let x26 := fmul .f64 x5 x25;
    let x27 := fofInt .f64 42;
    let x28 := fdiv .f64 x26 x27;
    let x29 := fsub .f64 4607182418800017408 x28;
    .skip (
    let x30 := fmul .f64 x5 x29;
    let x31 := fofInt .f64 20;
    let x32 := fdiv .f64 x30 x31;
    let x33 := fsub .f64 4607182418800017408 x32;
    .skip (
    let x34 := fmul .f64 x5 x33;
    let x35 := fofInt .f64 6;
    let x36 := fdiv .f64 x34 x35;
    let x37 := fsub .f64 4607182418800017408 x36;
    .skip (
    let x38 := fmul .f64 x4 x37;
    .leaf x38))))))))))
   (
    let x3 := fmul .f64 x0 4618760256179416344;
    let x4 := fmul .f64 x3 x3;
    .skip (
    let x5 := fmul .f64 x4 4607182418800017408;
    let x6 := fofInt .f64 272;
    let x7 := fdiv .f64 x5 x6;
    let x8 := fsub .f64 4607182418800017408 x7;
    .skip (
    let x9 := fmul .f64 x4 x8;
    let x10 := fofInt .f64 210;
    let x11 := fdiv .f64 x9 x10;
    let x12 := fsub .f64 4607182418800017408 x11;
    .skip (
    let x13 := fmul .f64 x4 x12;
    let x14 := fofInt .f64 156;
    let x15 := fdiv .f64 x13 x14;
    let x16 := fsub .f64 4607182418800017408 x15;
    .skip (
    let x17 := fmul .f64 x4 x16;
    let x18 := fofInt .f64 110;
    let x19 := fdiv .f64 x17 x18;
    let x20 := fsub .f64 4607182418800017408 x19;
    .skip (
    let x21 := fmul .f64 x4 x20;
    let x22 := fofInt .f64 72;
    let x23 := fdiv .f64 x21 x22;
    let x24 := fsub .f64 4607182418800017408 x23;
    .skip (
    let x25 := fmul .f64 x4 x24;
    let x26 := fofInt .f64 42;
    let x27 := fdiv .f64 x25 x26;
    let x28 := fsub .f64 4607182418800017408 x27;
    .skip (
    let x29 := fmul .f64 x4 x28;
    let x30 := fofInt .f64 20;
    let x31 := fdiv .f64 x29 x30;
    let x32 := fsub .f64 4607182418800017408 x31;
    .skip (
    let x33 := fmul .f64 x4 x32;
    let x34 := fofInt .f64 6;
    let x35 := fdiv .f64 x33 x34;
    let x36 := fsub .f64 4607182418800017408 x35;
    .skip (
    let x37 := fmul .f64 x3 x36;
    .leaf x37)))))))))))
def impl_sine (a0 : Nat) : Nat := (impl_sine_tree a0).val
def impl_sine_mk (p : Nat) : Ret := ⟨.flt .f64 p, []⟩
def impl_sine_c : Con := fun args => match args with
  | [.flt .f64 a0] => some (.leaf (impl_sine_mk (impl_sine a0)))
  | _ => none
set_option maxRecDepth 100000 in
theorem impl_sine_ok : FunOK Try.prog 163 impl_sine_c.fn := by
  refine con_ok (Γ := gam [(209, impl_behind_c)]) (gam_cons impl_behind_ok (gam_nil)) tab_ok (by kernel_rfl) Try.func163 (by kernel_rfl) (by kernel_rfl) Try.ntmps163 Try.results163 (loopsOK_none rfl _) 100000 fun args t h => ?_
  unfold impl_sine_c at h
  split at h
  · rename_i a0
    cases h
    exact ⟨rfl, agree_tot (mk := impl_sine_mk) (t := impl_sine_tree a0) (by unfold Agree; kernel_rfl) (by kernel_rfl)⟩
  · cases h

/-- loop.example/g01284/impl.cosine -/
def impl_cosine_tree (a0 : Nat) : DT (Nat) :=
  let x0 := fadd .f64 a0 4598175219545276416;
  let x1 := impl_sine x0;
  .leaf x1
def impl_cosine (a0 : Nat) : Nat := (impl_cosine_tree a0).val
def impl_cosine_mk (p : Nat) : Ret := ⟨.flt .f64 p, []⟩
def impl_cosine_c : Con := fun args => match args with
  | [.flt .f64 a0] => some (.leaf (impl_cosine_mk (impl_cosine a0)))
  | _ => none
set_option maxRecDepth 100000 in
theorem impl_cosine_ok : FunOK Try.prog 164 impl_cosine_c.fn := by
  refine con_ok (Γ := gam [(163, impl_sine_c)]) (gam_cons impl_sine_ok (gam_nil)) tab_ok (by kernel_rfl) Try.func164 (by kernel_rfl) (by kernel_rfl) Try.ntmps164 Try.results164 (loopsOK_none rfl _) 100000 fun args t h => ?_
  unfold impl_cosine_c at h
  split at h
  · rename_i a0
    cases h
    exact ⟨rfl, agree_tot (mk := impl_cosine_mk) (t := impl_cosine_tree a0) (by unfold Agree; kernel_rfl) (by kernel_rfl)⟩
  · cases h

/-- (loop.example/g01284/impl.Orbit).normal -/
def impl_Orbit_normal_tree (a0 : Orbit) : DT (Nat × Nat × Nat) :=
  .need ((fconvOk .f32 a0.Tilt .f64)) (
  let x0 := fconv .f32 a0.Tilt .f64;
  let x1 := impl_sine x0;
  .need ((fconvOk .f32 a0.Tilt .f64)) (
  let x2 := fconv .f32 a0.Tilt .f64;
  let x3 := impl_cosine x2;
  .need ((fconvOk .f32 a0.Node .f64)) (
  let x4 := fconv .f32 a0.Node .f64;
  let x5 := impl_sine x4;
  let x6 := fmul .f64 x1 x5;
  .need ((fconvOk .f32 a0.Node .f64)) (
  let x7 := fconv .f32 a0.Node .f64;
  let x8 := impl_cosine x7;
  let x9 := fmul .f64 x1 x8;
  let x10 := fneg .f64 x9;
  .leaf (x6, x10, x3)))))
def impl_Orbit_normal (a0 : Orbit) : Nat × Nat × Nat := (impl_Orbit_normal_tree a0).val
def impl_Orbit_normal_need (a0 : Orbit) : Bool := (impl_Orbit_normal_tree a0).ok
def impl_Orbit_normal_mk (p : Nat × Nat × Nat) : Ret := ⟨.agg [.flt .f64 p.1, .flt .f64 p.2.1, .flt .f64 p.2.2], []⟩
def impl_Orbit_normal_c : Con := fun args => match args with
  | [.agg [.flt .f32 a0_0, .flt .f32 a0_1, .flt .f32 a0_2, .flt .f32 a0_3, .flt .f32 a0_4, .flt .f32 a0_5]] => some (.need (impl_Orbit_normal_need (⟨a0_0, a0_1, a0_2, a0_3, a0_4, a0_5⟩ : Orbit)) (.leaf (impl_Orbit_normal_mk (impl_Orbit_normal (⟨a0_0, a0_1, a0_2, a0_3, a0_4, a0_5⟩ : Orbit)))))
  | _ => none
set_option maxRecDepth 100000 in
theorem impl_Orbit_normal_ok : FunOK Try.prog 80 impl_Orbit_normal_c.fn := by
  refine con_ok (Γ := gam [(163, impl_sine_c), (164, impl_cosine_c)]) (gam_cons impl_sine_ok (gam_cons impl_cosine_ok (gam_nil))) tab_ok (by kernel_rfl) Try.func80 (by kernel_rfl) (by kernel_rfl) Try.ntmps80 Try.results80 (loopsOK_none rfl _) 100000 fun args t h => ?_
  unfold impl_Orbit_normal_c at h
  split at h
  · rename_i a0_0 a0_1 a0_2 a0_3 a0_4 a0_5
    cases h
    exact ⟨rfl, agree_need (mk := impl_Orbit_normal_mk) (t := impl_Orbit_normal_tree (⟨a0_0, a0_1, a0_2, a0_3, a0_4, a0_5⟩ : Orbit)) (by unfold Agree; kernel_rfl)⟩
  · cases h

/-- (loop.example/g01284/impl.wide).cross -/
def impl_wide_cross_tree (a0_0 : Nat) (a0_1 : Nat) (a0_2 : Nat) (a1_0 : Nat) (a1_1 : Nat) (a1_2 : Nat) : DT (Nat × Nat × Nat) :=
  .skip (
  .skip (
  let x0 := fmul .f64 a0_1 a1_2;
  .skip (
  .skip (
  let x1 := fmul .f64 a0_2 a1_1;
  let x2 := fsub .f64 x0 x1;
  .skip (
  .skip (
  let x3 := fmul .f64 a0_2 a1_0;
  .skip (
  .skip (
  let x4 := fmul .f64 a0_0 a1_2;
  let x5 := fsub .f64 x3 x4;
  .skip (
  .skip (
  let x6 := fmul .f64 a0_0 a1_1;
  .skip (
  .skip (
  let x7 := fmul .f64 a0_1 a1_0;
  let x8 := fsub .f64 x6 x7;
  .leaf (x2, x5, x8)))))))))))))
def impl_wide_cross (a0_0 : Nat) (a0_1 : Nat) (a0_2 : Nat) (a1_0 : Nat) (a1_1 : Nat) (a1_2 : Nat) : Nat × Nat × Nat := (impl_wide_cross_tree a0_0 a0_1 a0_2 a1_0 a1_1 a1_2).val
def impl_wide_cross_mk (p : Nat × Nat × Nat) : Ret := ⟨.agg [.flt .f64 p.1, .flt .f64 p.2.1, .flt .f64 p.2.2], []⟩
def impl_wide_cross_c : Con := fun args => match args with
  | [.agg [.flt .f64 a0_0, .flt .f64 a0_1, .flt .f64 a0_2], .agg [.flt .f64 a1_0, .flt .f64 a1_1, .flt .f64 a1_2]] => some (.leaf (impl_wide_cross_mk (impl_wide_cross a0_0 a0_1 a0_2 a1_0 a1_1 a1_2)))
  | _ => none
set_option maxRecDepth 100000 in
theorem impl_wide_cross_ok : FunOK Try.prog 83 impl_wide_cross_c.fn := by
  refine con_ok (Γ := gam []) (gam_nil) tab_ok (by kernel_rfl) Try.func83 (by kernel_rfl) (by kernel_rfl) Try.ntmps83 Try.results83 (loopsOK_none rfl _) 100000 fun args t h => ?_
  unfold impl_wide_cross_c at h
  split at h
  · rename_i a0_0 a0_1 a0_2 a1_0 a1_1 a1_2
    cases h
    exact ⟨rfl, agree_tot (mk := impl_wide_cross_mk) (t := impl_wide_cross_tree a0_0 a0_1 a0_2 a1_0 a1_1 a1_2) (by unfold Agree; kernel_rfl) (by kernel_rfl)⟩
  · cases h

/-- (loop.example/g01284/impl.wide).inner -/
def impl_wide_inner_tree (a0_0 : Nat) (a0_1 : Nat) (a0_2 : Nat) (a1_0 : Nat) (a1_1 : Nat) (a1_2 : Nat) : DT (Nat) :=
  .skip (
  .skip (
  let x0 := fmul .f64 a0_0 a1_0;
  .skip (
  .skip (
  let x1 := fmul .f64 a0_1 a1_1;
  let x2 := fadd .f64 x0 x1;
  .skip (
  .skip (
  let x3 := fmul .f64 a0_2 a1_2;
  let x4 := fadd .f64 x2 x3;
  .leaf x4))))))
def impl_wide_inner (a0_0 : Nat) (a0_1 : Nat) (a0_2 : Nat) (a1_0 : Nat) (a1_1 : Nat) (a1_2 : Nat) : Nat := (impl_wide_inner_tree a0_0 a0_1 a0_2 a1_0 a1_1 a1_2).val
def impl_wide_inner_mk (p : Nat) : Ret := ⟨.flt .f64 p, []⟩
def impl_wide_inner_c : Con := fun args => match args with
  | [.agg [.flt .f64 a0_0, .flt .f64 a0_1, .flt .f64 a0_2], .agg [.flt .f64 a1_0, .flt .f64 a1_1, .flt .f64 a1_2]] => some (.leaf (impl_wide_inner_mk (impl_wide_inner a0_0 a0_1 a0_2 a1_0 a1_1 a1_2)))
  | _ => none
set_option maxRecDepth 100000 in
theorem impl_wide_inner_ok : FunOK Try.prog 85 impl_wide_inner_c.fn := by
  refine con_ok (Γ := gam []) (gam_nil) tab_ok (by kernel_rfl) Try.func85 (by kernel_rfl) (by kernel_rfl) Try.ntmps85 Try.results85 (loopsOK_none rfl _) 100000 fun args t h => ?_
  unfold impl_wide_inner_c at h
  split at h
  · rename_i a0_0 a0_1 a0_2 a1_0 a1_1 a1_2
    cases h
    exact ⟨rfl, agree_tot (mk := impl_wide_inner_mk) (t := impl_wide_inner_tree a0_0 a0_1 a0_2 a1_0 a1_1 a1_2) (by unfold Agree; kernel_rfl) (by kernel_rfl)⟩
  · cases h

/-- (loop.example/g01284/impl.wide).length -/
def impl_wide_length_tree (a0_0 : Nat) (a0_1 : Nat) (a0_2 : Nat) : DT (Nat) :=
  let x0 := impl_wide_inner a0_0 a0_1 a0_2 a0_0 a0_1 a0_2;
  let x1 := math_Sqrt x0;
  .leaf x1
def impl_wide_length (a0_0 : Nat) (a0_1 : Nat) (a0_2 : Nat) : Nat := (impl_wide_length_tree a0_0 a0_1 a0_2).val
def impl_wide_length_mk (p : Nat) : Ret := ⟨.flt .f64 p, []⟩
def impl_wide_length_c : Con := fun args => match args with
  | [.agg [.flt .f64 a0_0, .flt .f64 a0_1, .flt .f64 a0_2]] => some (.leaf (impl_wide_length_mk (impl_wide_length a0_0 a0_1 a0_2)))
  | _ => none
set_option maxRecDepth 100000 in
theorem impl_wide_length_ok : FunOK Try.prog 84 impl_wide_length_c.fn := by
  refine con_ok (Γ := gam [(85, impl_wide_inner_c), (159, math_Sqrt_c)]) (gam_cons impl_wide_inner_ok (gam_cons math_Sqrt_ok (gam_nil))) tab_ok (by kernel_rfl) Try.func84 (by kernel_rfl) (by kernel_rfl) Try.ntmps84 Try.results84 (loopsOK_none rfl _) 100000 fun args t h => ?_
  unfold impl_wide_length_c at h
  split at h
  · rename_i a0_0 a0_1 a0_2
    cases h
    exact ⟨rfl, agree_tot (mk := impl_wide_length_mk) (t := impl_wide_length_tree a0_0 a0_1 a0_2) (by unfold Agree; kernel_rfl) (by kernel_rfl)⟩
  · cases h

/-- loop.example/g01284/impl.angle -/
def impl_angle_tree (a0 : Nat) (a1 : Nat) : DT (Nat) :=
  let x0 := math_Abs a0;
  let x1 := math_Abs a1;
  let x2 := fdiv .f64 x0 x1;
  let x3 := fgt .f64 x0 x1;
  .ask x3
  (
   let x4 := fdiv .f64 x1 x0;
   .skip (
   let x5 := fmul .f64 x4 x4;
   let x6 := fadd .f64 4607182418800017408 x5;
   let x7 := math_Sqrt x6;
   let x8 := fadd .f64 4607182418800017408 x7;
   let x9 := fdiv .f64 x4 x8;
   .skip (
   let x10 := fmul .f64 x9 x9;
   let x11 := fadd .f64 4607182418800017408 x10;
   let x12 := math_Sqrt x11;
   let x13 := fadd .f64 4607182418800017408 x12;
   let x14 := fdiv .f64 x9 x13;
   .skip (
   let x15 := fmul .f64 x14 x14;
   let x16 := fadd .f64 4607182418800017408 x15;
   let x17 := math_Sqrt x16;
   let x18 := fadd .f64 4607182418800017408 x17;
   let x19 := fdiv .f64 x14 x18;
   .skip (
   let x20 := fmul .f64 x19 x19;
   .skip (
   let x21 := fofInt .f64 15;
   let x22 := fdiv .f64 4607182418800017408 x21;
   let x23 := fmul .f64 x20 0;
   let x24 := fsub .f64 x22 x23;
   .skip (
   let x25 := fofInt .f64 13;
   let x26 := fdiv .f64 4607182418800017408 x25;
   let x27 := fmul .f64 x20 x24;
   let x28 := fsub .f64 x26 x27;
   .skip (
   let x29 := fofInt .f64 11;
   let x30 := fdiv .f64 4607182418800017408 x29;
   let x31 := fmul .f64 x20 x28;
   let x32 := fsub .f64 x30 x31;
   .skip (
   let x33 := fofInt .f64 9;
   let x34 := fdiv .f64 4607182418800017408 x33;
   let x35 := fmul .f64 x20 x32;
   let x36 := fsub .f64 x34 x35;
   .skip (
   let x37 := fofInt .f64 7;
   let x38 := fdiv .f64 4607182418800017408 x37;
   let x39 := fmul .f64 x20 x36;
   let x40 := fsub .f64 x38 x39;
   .skip (
   let x41 := fofInt .f64 5;
   let x42 := fdiv .f64 4607182418800017408 x41;
   let x43 := fmul .f64 x20 x40;
   let x44 := fsub .f64 x42 x43;
   .skip (
   let x45 := fofInt .f64 3;
   let x46 := fdiv .f64 4607182418800017408 x45;
   let x47 := fmul .f64 x20 x44;
   let x48 := fsub .f64 x46 x47;
   .skip (
   let x49 := fofInt .f64 1;
   let x50 := fdiv .f64 4607182418800017408 x49;
   let x51 := fmul .f64 x20 x48;
   let x52 := fsub .f64 x50 x51;
   .skip (
   let x53 := fmul .f64 x19 x52;
   let x54 := fmul .f64 4620693217682128896 x53;
   let x55 := fdiv .f64 x54 4618760256179416344;
   let x56 := fgt .f64 x0 x1;
   .ask x56
   (
    let x57 := fsub .f64 4598175219545276416 x55;
    let x58 := flt .f64 a1 0;
    .ask x58
    (
     let x59 := fsub .f64 4602678819172646912 x57;
     let x60 := flt .f64 a0 0;
     .ask x60
     (
      let x61 := fneg .f64 x59;
      .leaf x61)
     (
      .leaf x59))
    (
     let x59 := flt .f64 a0 0;
     .ask x59
     (
      let x60 := fneg .f64 x57;
      .leaf x60)
     (
      .leaf x57)))
   (
    let x57 := flt .f64 a1 0;
    .ask x57
    (
     let x58 := fsub .f64 4602678819172646912 x55;
     let x59 := flt .f64 a0 0;
     .ask x59
     (
      let x60 := fneg .f64 x58;
      .leaf x60)
     (
      .leaf x58))
    (
     let x58 := flt .f64 a0 0;
     .ask x58
     (
      let x59 := fneg .f64 x55;
      .leaf x59)
     (
      .leaf x55)))))))))))))))))
  (
   .skip (
   let x4 := fmul .f64 x2 x2;
   let x5 := fadd .f64 4607182418800017408 x4;
   let x6 := math_Sqrt x5;
   let x7 := fadd .f64 4607182418800017408 x6;
   let x8 := fdiv .f64 x2 x7;
   .skip (
   let x9 := fmul .f64 x8 x8;
   let x10 := fadd .f64 4607182418800017408 x9;
   let x11 := math_Sqrt x10;
   let x12 := fadd .f64 4607182418800017408 x11;
   let x13 := fdiv .f64 x8 x12;
   .skip (
   let x14 := fmul .f64 x13 x13;
   let x15 := fadd .f64 4607182418800017408 x14;
   let x16 := math_Sqrt x15;
   let x17 := fadd .f64 4607182418800017408 x16;
   let x18 := fdiv .f64 x13 x17;
   .skip (
   let x19 := fmul .f64 x18 x18;
   .skip (
   let x20 := fofInt .f64 15;
   let x21 := fdiv .f64 4607182418800017408 x20;
   let x22 := fmul .f64 x19 0;
   let x23 := fsub .f64 x21 x22;
   .skip (
   let x24 := fofInt .f64 13;
   let x25 := fdiv .f64 4607182418800017408 x24;
   let x26 := fmul .f64 x19 x23;
   let x27 := fsub .f64 x25 x26;
   .skip (
   let x28 := fofInt .f64 11;
   let x29 := fdiv .f64 4607182418800017408 x28;
   let x30 := fmul .f64 x19 x27;
   let x31 := fsub .f64 x29 x30;
   .skip (
   let x32 := fofInt .f64 9;
   let x33 := fdiv .f64 4607182418800017408 x32;
   let x34 := fmul .f64 x19 x31;
   let x35 := fsub .f64 x33 x34;
   .skip (
   let x36 := fofInt .f64 7;
   let x37 := fdiv .f64 4607182418800017408 x36;
   let x38 := fmul .f64 x19 x35;
   let x39 := fsub .f64 x37 x38;
   .skip (
   let x40 := fofInt .f64 5;
   let x41 := fdiv .f64 4607182418800017408 x40;
   let x42 := fmul .f64 x19 x39;
   let x43 := fsub .f64 x41 x42;
   .skip (
   let x44 := fofInt .f64 3;
   let x45 := fdiv .f64 4607182418800017408 x44;
   let x46 := fmul .f64 x19 x43;
   let x47 := fsub .f64 x45 x46;
   .skip (
   let x48 := fofInt .f64 1;
   let x49 := fdiv .f64 4607182418800017408 x48;
   let x50 := fmul .f64 x19 x47;
   let x51 := fsub .f64 x49 x50;
   .skip (
   let x52 := fmul .f64 x18 x51;
   let x53 := fmul .f64 4620693217682128896 x52;
   let x54 := fdiv .f64 x53 4618760256179416344;
   let x55 := fgt .f64 x0 x1;
   .ask x55
   (
    let x56 := fsub .f64 4598175219545276416 x54;
    let x57 := flt .f64 a1 0;
    .ask x57
    (
     let x58 := fsub .f64 4602678819172646912 x56;
     let x59 := flt .f64 a0 0;
     .ask x59
     (
      let x60 := fneg .f64 x58;
      .leaf x60)
     (
      .leaf x58))
    (
     let x58 := flt .f64 a0 0;
     .ask x58
     (
      let x59 := fneg .f64 x56;
      .leaf x59)
     (
      .leaf x56)))
   (
    let x56 := flt .f64 a1 0;
    .ask x56
    (
     let x57 := fsub .f64 4602678819172646912 x54;
     let x58 := flt .f64 a0 0;
     .ask x58
     (
      let x59 := fneg .f64 x57;
      .leaf x59)
     (
      .leaf x57))
    (
     let x57 := flt .f64 a0 0;
     .ask x57
     (
      let x58 := fneg .f64 x54;
      .leaf x58)
     (
      .leaf x54)))))))))))))))))
def impl_angle (a0 : Nat) (a1 : Nat) : Nat := (impl_angle_tree a0 a1).val
def impl_angle_mk (p : Nat) : Ret := ⟨.flt .f64 p, []⟩
def impl_angle_c : Con := fun args => match args with
  | [.flt .f64 a0, .flt .f64 a1] => some (.leaf (impl_angle_mk (impl_angle a0 a1)))
  | _ => none
set_option maxRecDepth 100000 in
theorem impl_angle_ok : FunOK Try.prog 167 impl_angle_c.fn := by
  refine con_ok (Γ := gam [(158, math_Abs_c), (159, math_Sqrt_c)]) (gam_cons math_Abs_ok (gam_cons math_Sqrt_ok (gam_nil))) tab_ok (by kernel_rfl) Try.func167 (by kernel_rfl) (by kernel_rfl) Try.ntmps167 Try.results167 (loopsOK_none rfl _) 100000 fun args t h => ?_
  unfold impl_angle_c at h
  split at h
  · rename_i a0 a1
    cases h
    exact ⟨rfl, agree_tot (mk := impl_angle_mk) (t := impl_angle_tree a0 a1) (by unfold Agree; kernel_rfl) (by kernel_rfl)⟩
  · cases h

/-- loop.example/g01284/impl.angleOf -/
def impl_angleOf_tree (a0 : Nat) (a1 : Nat) : DT (Nat) :=
  let x0 := impl_finite a0;
  .ask (!x0)
  (
   let x1 := math_NaN ;
   .leaf x1)
  (
   let x1 := impl_finite a1;
   .ask (!x1)
   (
    let x2 := math_NaN ;
    .leaf x2)
   (
    let x2 := feq .f64 a0 0;
    .ask x2
    (
     let x3 := feq .f64 a1 0;
     .ask x3
     (
      .leaf 0)
     (
      let x4 := impl_angle a0 a1;
      .leaf x4))
    (
     let x3 := impl_angle a0 a1;
     .leaf x3)))
def impl_angleOf (a0 : Nat) (a1 : Nat) : Nat := (impl_angleOf_tree a0 a1).val
def impl_angleOf_mk (p : Nat) : Ret := ⟨.flt .f64 p, []⟩
def impl_angleOf_c : Con := fun args => match args with
  | [.flt .f64 a0, .flt .f64 a1] => some (.leaf (impl_angleOf_mk (impl_angleOf a0 a1)))
  | _ => none
set_option maxRecDepth 100000 in
theorem impl_angleOf_ok : FunOK Try.prog 82 impl_angleOf_c.fn := by
  refine con_ok (Γ := gam [(166, impl_finite_c), (157, math_NaN_c), (167, impl_angle_c)]) (gam_cons impl_finite_ok (gam_cons math_NaN_ok (gam_cons impl_angle_ok (gam_nil)))) tab_ok (by kernel_rfl) Try.func82 (by kernel_rfl) (by kernel_rfl) Try.ntmps82 Try.results82 (loopsOK_none rfl _) 100000 fun args t h => ?_
  unfold impl_angleOf_c at h
  split at h
  · rename_i a0 a1
    cases h
    exact ⟨rfl, agree_tot (mk := impl_angleOf_mk) (t := impl_angleOf_tree a0 a1) (by unfold Agree; kernel_rfl) (by kernel_rfl)⟩
  · cases h

/-- loop.example/g01284/impl.told -/
def impl_told_tree (a0 : Nat) : DT (Nat × Bool) :=
  .need ((impl_IsFinite_need a0)) (
  let x0 := impl_IsFinite a0;
  .ask (!x0)
  (
   .leaf (0, false))
  (
   .leaf (a0, true)))
def impl_told (a0 : Nat) : Nat × Bool := (impl_told_tree a0).val
def impl_told_need (a0 : Nat) : Bool := (impl_told_tree a0).ok
def impl_told_mk (p : Nat × Bool) : Ret := ⟨.tup [.flt .f32 p.1, .bool p.2], []⟩
def impl_told_c : Con := fun args => match args with
  | [.flt .f32 a0] => some (.need (impl_told_need a0) (.leaf (impl_told_mk (impl_told a0))))
  | _ => none
set_option maxRecDepth 100000 in
theorem impl_told_ok : FunOK Try.prog 165 impl_told_c.fn := by
  refine con_ok (Γ := gam [(92, impl_IsFinite_c)]) (gam_cons impl_IsFinite_ok (gam_nil)) tab_ok (by kernel_rfl) Try.func165 (by kernel_rfl) (by kernel_rfl) Try.ntmps165 Try.results165 (loopsOK_none rfl _) 100000 fun args t h => ?_
  unfold impl_told_c at h
  split at h
  · rename_i a0
    cases h
    exact ⟨rfl, agree_need (mk := impl_told_mk) (t := impl_told_tree a0) (by unfold Agree; kernel_rfl)⟩
  · cases h

/-- loop.example/g01284/impl.narrowed -/
def impl_narrowed_tree (a0 : Nat) : DT (Nat × Bool) :=
  .need ((fconvOk .f64 a0 .f32)) (
  let x0 := fconv .f64 a0 .f32;
  .need ((impl_told_need x0)) (
  let x1 := impl_told x0;
  .leaf (x1.1, x1.2)))
def impl_narrowed (a0 : Nat) : Nat × Bool := (impl_narrowed_tree a0).val
def impl_narrowed_need (a0 : Nat) : Bool := (impl_narrowed_tree a0).ok
def impl_narrowed_mk (p : Nat × Bool) : Ret := ⟨.tup [.flt .f32 p.1, .bool p.2], []⟩
def impl_narrowed_c : Con := fun args => match args with
  | [.flt .f64 a0] => some (.need (impl_narrowed_need a0) (.leaf (impl_narrowed_mk (impl_narrowed a0))))
  | _ => none
set_option maxRecDepth 100000 in
theorem impl_narrowed_ok : FunOK Try.prog 81 impl_narrowed_c.fn := by
  refine con_ok (Γ := gam [(165, impl_told_c)]) (gam_cons impl_told_ok (gam_nil)) tab_ok (by kernel_rfl) Try.func81 (by kernel_rfl) (by kernel_rfl) Try.ntmps81 Try.results81 (loopsOK_none rfl _) 100000 fun args t h => ?_
  unfold impl_narrowed_c at h
  split at h
  · rename_i a0
    cases h
    exact ⟨rfl, agree_need (mk := impl_narrowed_mk) (t := impl_narrowed_tree a0) (by unfold Agree; kernel_rfl)⟩
  · cases h

/-- loop.example/g01284/impl.TiltBetween -/
def impl_TiltBetween_tree (a0 : Orbit) (a1 : Orbit) : DT (Nat × Bool) :=
  .need ((impl_ValidOrbit_need (⟨a0.Long, a0.Round, a0.Tilt, a0.Node, a0.Peri, a0.Phase⟩ : Orbit))) (
  let x0 := impl_ValidOrbit (⟨a0.Long, a0.Round, a0.Tilt, a0.Node, a0.Peri, a0.Phase⟩ : Orbit);
  .ask (!x0)
  (
   .leaf (0, false))
  (
   .need ((impl_ValidOrbit_need (⟨a1.Long, a1.Round, a1.Tilt, a1.Node, a1.Peri, a1.Phase⟩ : Orbit))) (
   let x1 := impl_ValidOrbit (⟨a1.Long, a1.Round, a1.Tilt, a1.Node, a1.Peri, a1.Phase⟩ : Orbit);
   .ask (!x1)
   (
    .leaf (0, false))
   (
    .need ((impl_Orbit_normal_need (⟨a0.Long, a0.Round, a0.Tilt, a0.Node, a0.Peri, a0.Phase⟩ : Orbit))) (
    let x2 := impl_Orbit_normal (⟨a0.Long, a0.Round, a0.Tilt, a0.Node, a0.Peri, a0.Phase⟩ : Orbit);
    .need ((impl_Orbit_normal_need (⟨a1.Long, a1.Round, a1.Tilt, a1.Node, a1.Peri, a1.Phase⟩ : Orbit))) (
    let x3 := impl_Orbit_normal (⟨a1.Long, a1.Round, a1.Tilt, a1.Node, a1.Peri, a1.Phase⟩ : Orbit);
    let x4 := impl_wide_cross x2.1 x2.2.1 x2.2.2 x3.1 x3.2.1 x3.2.2;
    let x5 := impl_wide_length x4.1 x4.2.1 x4.2.2;
    let x6 := impl_wide_inner x2.1 x2.2.1 x2.2.2 x3.1 x3.2.1 x3.2.2;
    let x7 := impl_angleOf x5 x6;
    .need ((impl_narrowed_need x7)) (
    let x8 := impl_narrowed x7;
    .leaf (x8.1, x8.2))))))))
def impl_TiltBetween (a0 : Orbit) (a1 : Orbit) : Nat × Bool := (impl_TiltBetween_tree a0 a1).val
def impl_TiltBetween_need (a0 : Orbit) (a1 : Orbit) : Bool := (impl_TiltBetween_tree a0 a1).ok
def impl_TiltBetween_mk (p : Nat × Bool) : Ret := ⟨.tup [.flt .f32 p.1, .bool p.2], []⟩
def impl_TiltBetween_c : Con := fun args => match args with
  | [.agg [.flt .f32 a0_0, .flt .f32 a0_1, .flt .f32 a0_2, .flt .f32 a0_3, .flt .f32 a0_4, .flt .f32 a0_5], .agg [.flt .f32 a1_0, .flt .f32 a1_1, .flt .f32 a1_2, .flt .f32 a1_3, .flt .f32 a1_4, .flt .f32 a1_5]] => some (.need (impl_TiltBetween_need (⟨a0_0, a0_1, a0_2, a0_3, a0_4, a0_5⟩ : Orbit) (⟨a1_0, a1_1, a1_2, a1_3, a1_4, a1_5⟩ : Orbit)) (.leaf (impl_TiltBetween_mk (impl_TiltBetween (⟨a0_0, a0_1, a0_2, a0_3, a0_4, a0_5⟩ : Orbit) (⟨a1_0, a1_1, a1_2, a1_3, a1_4, a1_5⟩ : Orbit)))))
  | _ => none
set_option maxRecDepth 100000 in
theorem impl_TiltBetween_ok : FunOK Try.prog 22 impl_TiltBetween_c.fn := by
  refine con_ok (Γ := gam [(79, impl_ValidOrbit_c), (80, impl_Orbit_normal_c), (83, impl_wide_cross_c), (84, impl_wide_length_c), (85, impl_wide_inner_c), (82, impl_angleOf_c), (81, impl_narrowed_c)]) (gam_cons impl_ValidOrbit_ok (gam_cons impl_Orbit_normal_ok (gam_cons impl_wide_cross_ok (gam_cons impl_wide_length_ok (gam_cons impl_wide_inner_ok (gam_cons impl_angleOf_ok (gam_cons impl_narrowed_ok (gam_nil)))))))) tab_ok (by kernel_rfl) Try.func22 (by kernel_rfl) (by kernel_rfl) Try.ntmps22 Try.results22 (loopsOK_none rfl _) 100000 fun args t h => ?_
  unfold impl_TiltBetween_c at h
  split at h
  · rename_i a0_0 a0_1 a0_2 a0_3 a0_4 a0_5 a1_0 a1_1 a1_2 a1_3 a1_4 a1_5
    cases h
    exact ⟨rfl, agree_need (mk := impl_TiltBetween_mk) (t := impl_TiltBetween_tree (⟨a0_0, a0_1, a0_2, a0_3, a0_4, a0_5⟩ : Orbit) (⟨a1_0, a1_1, a1_2, a1_3, a1_4, a1_5⟩ : Orbit)) (by unfold Agree; kernel_rfl)⟩
  · cases h

/-- loop.example/g01284/laws.sameFloat -/
def laws_sameFloat_tree (a0 : Nat) (a1 : Nat) : DT (Bool) :=
  let x0 := fne .f64 a0 a0;
  .ask x0
  (
   let x1 := fne .f64 a0 a0;
   .ask x1
   (
    let x2 := fne .f64 a1 a1;
    .leaf x2)
   (
    .leaf false))
  (
   let x1 := fne .f64 a1 a1;
   .ask x1
   (
    let x2 := fne .f64 a0 a0;
    .ask x2
    (
     let x3 := fne .f64 a1 a1;
     .leaf x3)
    (
     .leaf false))
   (
    let x2 := feq .f64 a0 0;
    .ask x2
    (
     let x3 := feq .f64 a1 0;
     .ask x3
     (
      let x4 := fdiv .f64 4607182418800017408 a0;
      let x5 := fgt .f64 x4 0;
      let x6 := fdiv .f64 4607182418800017408 a1;
      let x7 := fgt .f64 x6 0;
      let x8 := (x5 == x7);
      .leaf x8)
     (
      let x4 := feq .f64 a0 a1;
      .leaf x4))
    (
     let x3 := feq .f64 a0 a1;
     .leaf x3)))
def laws_sameFloat (a0 : Nat) (a1 : Nat) : Bool := (laws_sameFloat_tree a0 a1).val
def laws_sameFloat_mk (p : Bool) : Ret := ⟨.bool p, []⟩
def laws_sameFloat_c : Con := fun args => match args with
  | [.flt .f64 a0, .flt .f64 a1] => some (.leaf (laws_sameFloat_mk (laws_sameFloat a0 a1)))
  | _ => none
set_option maxRecDepth 100000 in
theorem laws_sameFloat_ok : FunOK Try.prog 23 laws_sameFloat_c.fn := by
  refine con_ok (Γ := gam []) (gam_nil) tab_ok (by kernel_rfl) Try.func23 (by kernel_rfl) (by kernel_rfl) Try.ntmps23 Try.results23 (loopsOK_none rfl _) 100000 fun args t h => ?_
  unfold laws_sameFloat_c at h
  split at h
  · rename_i a0 a1
    cases h
    exact ⟨rfl, agree_tot (mk := laws_sameFloat_mk) (t := laws_sameFloat_tree a0 a1) (by unfold Agree; kernel_rfl) (by kernel_rfl)⟩
  · cases h

/-- loop.example/g01284/laws.FnExactTiltBetween -/
def laws_FnExactTiltBetween_tree (a0 : Orbit) (a1 : Orbit) : DT (Bool) :=
  let x0 := laws_toOrbit (⟨a0.Long, a0.Round, a0.Tilt, a0.Node, a0.Peri, a0.Phase⟩ : Orbit);
  let x1 := laws_toOrbit (⟨a1.Long, a1.Round, a1.Tilt, a1.Node, a1.Peri, a1.Phase⟩ : Orbit);
  .need ((spec_TiltBetween_need (⟨x0.Long, x0.Round, x0.Tilt, x0.Node, x0.Peri, x0.Phase⟩ : Orbit) (⟨x1.Long, x1.Round, x1.Tilt, x1.Node, x1.Peri, x1.Phase⟩ : Orbit))) (
  let x2 := spec_TiltBetween (⟨x0.Long, x0.Round, x0.Tilt, x0.Node, x0.Peri, x0.Phase⟩ : Orbit) (⟨x1.Long, x1.Round, x1.Tilt, x1.Node, x1.Peri, x1.Phase⟩ : Orbit);
  let x3 := laws_toOrbit (⟨a0.Long, a0.Round, a0.Tilt, a0.Node, a0.Peri, a0.Phase⟩ : Orbit);
  let x4 := laws_toOrbit (⟨a1.Long, a1.Round, a1.Tilt, a1.Node, a1.Peri, a1.Phase⟩ : Orbit);
  .need ((impl_TiltBetween_need (⟨x3.Long, x3.Round, x3.Tilt, x3.Node, x3.Peri, x3.Phase⟩ : Orbit) (⟨x4.Long, x4.Round, x4.Tilt, x4.Node, x4.Peri, x4.Phase⟩ : Orbit))) (
  let x5 := impl_TiltBetween (⟨x3.Long, x3.Round, x3.Tilt, x3.Node, x3.Peri, x3.Phase⟩ : Orbit) (⟨x4.Long, x4.Round, x4.Tilt, x4.Node, x4.Peri, x4.Phase⟩ : Orbit);
  .need ((fconvOk .f32 x5.1 .f64)) (
  let x6 := fconv .f32 x5.1 .f64;
  .need ((fconvOk .f32 x2.1 .f64)) (
  let x7 := fconv .f32 x2.1 .f64;
  let x8 := laws_sameFloat x6 x7;
  .ask (!x8)
  (
   .leaf false)
  (
   let x9 := (!(x5.2 == x2.2));
   .ask x9
   (
    .leaf false)
   (
    .leaf true))))))
def laws_FnExactTiltBetween (a0 : Orbit) (a1 : Orbit) : Bool := (laws_FnExactTiltBetween_tree a0 a1).val
def laws_FnExactTiltBetween_need (a0 : Orbit) (a1 : Orbit) : Bool := (laws_FnExactTiltBetween_tree a0 a1).ok
def laws_FnExactTiltBetween_mk (p : Bool) : Ret := ⟨.bool p, []⟩
def laws_FnExactTiltBetween_c : Con := fun args => match args with
  | [.agg [.flt .f32 a0_0, .flt .f32 a0_1, .flt .f32 a0_2, .flt .f32 a0_3, .flt .f32 a0_4, .flt .f32 a0_5], .agg [.flt .f32 a1_0, .flt .f32 a1_1, .flt .f32 a1_2, .flt .f32 a1_3, .flt .f32 a1_4, .flt .f32 a1_5]] => some (.need (laws_FnExactTiltBetween_need (⟨a0_0, a0_1, a0_2, a0_3, a0_4, a0_5⟩ : Orbit) (⟨a1_0, a1_1, a1_2, a1_3, a1_4, a1_5⟩ : Orbit)) (.leaf (laws_FnExactTiltBetween_mk (laws_FnExactTiltBetween (⟨a0_0, a0_1, a0_2, a0_3, a0_4, a0_5⟩ : Orbit) (⟨a1_0, a1_1, a1_2, a1_3, a1_4, a1_5⟩ : Orbit)))))
  | _ => none
set_option maxRecDepth 100000 in
theorem laws_FnExactTiltBetween_ok : FunOK Try.prog 4 laws_FnExactTiltBetween_c.fn := by
  refine con_ok (Γ := gam [(21, laws_toOrbit_c), (20, spec_TiltBetween_c), (22, impl_TiltBetween_c), (23, laws_sameFloat_c)]) (gam_cons laws_toOrbit_ok (gam_cons spec_TiltBetween_ok (gam_cons impl_TiltBetween_ok (gam_cons laws_sameFloat_ok (gam_nil))))) tab_ok (by kernel_rfl) Try.func4 (by kernel_rfl) (by kernel_rfl) Try.ntmps4 Try.results4 (loopsOK_none rfl _) 100000 fun args t h => ?_
  unfold laws_FnExactTiltBetween_c at h
  split at h
  · rename_i a0_0 a0_1 a0_2 a0_3 a0_4 a0_5 a1_0 a1_1 a1_2 a1_3 a1_4 a1_5
    cases h
    exact ⟨rfl, agree_need (mk := laws_FnExactTiltBetween_mk) (t := laws_FnExactTiltBetween_tree (⟨a0_0, a0_1, a0_2, a0_3, a0_4, a0_5⟩ : Orbit) (⟨a1_0, a1_1, a1_2, a1_3, a1_4, a1_5⟩ : Orbit)) (by unfold Agree; kernel_rfl)⟩
  · cases h

/-- loop.example/g01284/spec.l00In -/
def spec_l00In_tree (a0 : Int) (a1 : Int) (a2 : Int) : DT (Bool) :=
  let x0 := decide (a0 ≥ a1);
  .ask x0
  (
   let x1 := decide (a0 ≤ a2);
   .leaf x1)
  (
   .leaf false)
def spec_l00In (a0 : Int) (a1 : Int) (a2 : Int) : Bool := (spec_l00In_tree a0 a1 a2).val
def spec_l00In_mk (p : Bool) : Ret := ⟨.bool p, []⟩
def spec_l00In_c : Con := fun args => match args with
  | [.int .i64 a0, .int .i64 a1, .int .i64 a2] => some (.leaf (spec_l00In_mk (spec_l00In a0 a1 a2)))
  | _ => none
set_option maxRecDepth 100000 in
theorem spec_l00In_ok : FunOK Try.prog 99 spec_l00In_c.fn := by
  refine con_ok (Γ := gam []) (gam_nil) tab_ok (by kernel_rfl) Try.func99 (by kernel_rfl) (by kernel_rfl) Try.ntmps99 Try.results99 (loopsOK_none rfl _) 100000 fun args t h => ?_
  unfold spec_l00In_c at h
  split at h
  · rename_i a0 a1 a2
    cases h
    exact ⟨rfl, agree_tot (mk := spec_l00In_mk) (t := spec_l00In_tree a0 a1 a2) (by unfold Agree; kernel_rfl) (by kernel_rfl)⟩
  · cases h

/-- loop.example/g01284/spec.l02Above -/
def spec_l02Above_tree (a0 : Nat) : DT (Bool) :=
  let x0 := spec_l01Finite a0;
  .ask x0
  (
   let x1 := fgt .f32 a0 0;
   .leaf x1)
  (
   .leaf false)
def spec_l02Above (a0 : Nat) : Bool := (spec_l02Above_tree a0).val
def spec_l02Above_mk (p : Bool) : Ret := ⟨.bool p, []⟩
def spec_l02Above_c : Con := fun args => match args with
  | [.flt .f32 a0] => some (.leaf (spec_l02Above_mk (spec_l02Above a0)))
  | _ => none
set_option maxRecDepth 100000 in
theorem spec_l02Above_ok : FunOK Try.prog 100 spec_l02Above_c.fn := by
  refine con_ok (Γ := gam [(88, spec_l01Finite_c)]) (gam_cons spec_l01Finite_ok (gam_nil)) tab_ok (by kernel_rfl) Try.func100 (by kernel_rfl) (by kernel_rfl) Try.ntmps100 Try.results100 (loopsOK_none rfl _) 100000 fun args t h => ?_
  unfold spec_l02Above_c at h
  split at h
  · rename_i a0
    cases h
    exact ⟨rfl, agree_tot (mk := spec_l02Above_mk) (t := spec_l02Above_tree a0) (by unfold Agree; kernel_rfl) (by kernel_rfl)⟩
  · cases h

/-- loop.example/g01284/spec.l02Least -/
def spec_l02Least_tree (a0 : Nat) : DT (Bool) :=
  let x0 := spec_l01Finite a0;
  .ask x0
  (
   let x1 := fge .f32 a0 0;
   .leaf x1)
  (
   .leaf false)
def spec_l02Least (a0 : Nat) : Bool := (spec_l02Least_tree a0).val
def spec_l02Least_mk (p : Bool) : Ret := ⟨.bool p, []⟩
def spec_l02Least_c : Con := fun args => match args with
  | [.flt .f32 a0] => some (.leaf (spec_l02Least_mk (spec_l02Least a0)))
  | _ => none
set_option maxRecDepth 100000 in
theorem spec_l02Least_ok : FunOK Try.prog 101 spec_l02Least_c.fn := by
  refine con_ok (Γ := gam [(88, spec_l01Finite_c)]) (gam_cons spec_l01Finite_ok (gam_nil)) tab_ok (by kernel_rfl) Try.func101 (by kernel_rfl) (by kernel_rfl) Try.ntmps101 Try.results101 (loopsOK_none rfl _) 100000 fun args t h => ?_
  unfold spec_l02Least_c at h
  split at h
  · rename_i a0
    cases h
    exact ⟨rfl, agree_tot (mk := spec_l02Least_mk) (t := spec_l02Least_tree a0) (by unfold Agree; kernel_rfl) (by kernel_rfl)⟩
  · cases h

/-- loop.example/g01284/spec.l01Sine -/
def spec_l01Sine_tree (a0 : Nat) : DT (Nat) :=
  .need ((fconvOk .f32 a0 .f64)) (
  let x0 := fconv .f32 a0 .f64;
  .need ((spec_l01SineWide_need x0)) (
  let x1 := spec_l01SineWide x0;
  .need ((spec_l01Narrow_need x1)) (
  let x2 := spec_l01Narrow x1;
  .leaf x2)))
def spec_l01Sine (a0 : Nat) : Nat := (spec_l01Sine_tree a0).val
def spec_l01Sine_need (a0 : Nat) : Bool := (spec_l01Sine_tree a0).ok
def spec_l01Sine_mk (p : Nat) : Ret := ⟨.flt .f32 p, []⟩
def spec_l01Sine_c : Con := fun args => match args with
  | [.flt .f32 a0] => some (.need (spec_l01Sine_need a0) (.leaf (spec_l01Sine_mk (spec_l01Sine a0))))
  | _ => none
set_option maxRecDepth 100000 in
theorem spec_l01Sine_ok : FunOK Try.prog 102 spec_l01Sine_c.fn := by
  refine con_ok (Γ := gam [(154, spec_l01SineWide_c), (156, spec_l01Narrow_c)]) (gam_cons spec_l01SineWide_ok (gam_cons spec_l01Narrow_ok (gam_nil))) tab_ok (by kernel_rfl) Try.func102 (by kernel_rfl) (by kernel_rfl) Try.ntmps102 Try.results102 (loopsOK_none rfl _) 100000 fun args t h => ?_
  unfold spec_l01Sine_c at h
  split at h
  · rename_i a0
    cases h
    exact ⟨rfl, agree_need (mk := spec_l01Sine_mk) (t := spec_l01Sine_tree a0) (by unfold Agree; kernel_rfl)⟩
  · cases h

/-- loop.example/g01284/spec.l01Sqrt -/
def spec_l01Sqrt_tree (a0 : Nat) : DT (Nat) :=
  .need ((fconvOk .f32 a0 .f64)) (
  let x0 := fconv .f32 a0 .f64;
  let x1 := math_Sqrt x0;
  .need ((spec_l01Narrow_need x1)) (
  let x2 := spec_l01Narrow x1;
  .leaf x2))
def spec_l01Sqrt (a0 : Nat) : Nat := (spec_l01Sqrt_tree a0).val
def spec_l01Sqrt_need (a0 : Nat) : Bool := (spec_l01Sqrt_tree a0).ok
def spec_l01Sqrt_mk (p : Nat) : Ret := ⟨.flt .f32 p, []⟩
def spec_l01Sqrt_c : Con := fun args => match args with
  | [.flt .f32 a0] => some (.need (spec_l01Sqrt_need a0) (.leaf (spec_l01Sqrt_mk (spec_l01Sqrt a0))))
  | _ => none
set_option maxRecDepth 100000 in
theorem spec_l01Sqrt_ok : FunOK Try.prog 103 spec_l01Sqrt_c.fn := by
  refine con_ok (Γ := gam [(159, math_Sqrt_c), (156, spec_l01Narrow_c)]) (gam_cons math_Sqrt_ok (gam_cons spec_l01Narrow_ok (gam_nil))) tab_ok (by kernel_rfl) Try.func103 (by kernel_rfl) (by kernel_rfl) Try.ntmps103 Try.results103 (loopsOK_none rfl _) 100000 fun args t h => ?_
  unfold spec_l01Sqrt_c at h
  split at h
  · rename_i a0
    cases h
    exact ⟨rfl, agree_need (mk := spec_l01Sqrt_mk) (t := spec_l01Sqrt_tree a0) (by unfold Agree; kernel_rfl)⟩
  · cases h

/-- loop.example/g01284/spec.l01VFinite -/
def spec_l01VFinite_tree (a0 : Vec) : DT (Bool) :=
  let x0 := spec_l01Finite a0.X;
  .ask x0
  (
   let x1 := spec_l01Finite a0.Y;
   .ask x1
   (
    let x2 := spec_l01Finite a0.Z;
    .leaf x2)
   (
    .leaf false))
  (
   .leaf false)
def spec_l01VFinite (a0 : Vec) : Bool := (spec_l01VFinite_tree a0).val
def spec_l01VFinite_mk (p : Bool) : Ret := ⟨.bool p, []⟩
def spec_l01VFinite_c : Con := fun args => match args with
  | [.agg [.flt .f32 a0_0, .flt .f32 a0_1, .flt .f32 a0_2]] => some (.leaf (spec_l01VFinite_mk (spec_l01VFinite (⟨a0_0, a0_1, a0_2⟩ : Vec))))
  | _ => none
set_option maxRecDepth 100000 in
theorem spec_l01VFinite_ok : FunOK Try.prog 87 spec_l01VFinite_c.fn := by
  refine con_ok (Γ := gam [(88, spec_l01Finite_c)]) (gam_cons spec_l01Finite_ok (gam_nil)) tab_ok (by kernel_rfl) Try.func87 (by kernel_rfl) (by kernel_rfl) Try.ntmps87 Try.results87 (loopsOK_none rfl _) 100000 fun args t h => ?_
  unfold spec_l01VFinite_c at h
  split at h
  · rename_i a0_0 a0_1 a0_2
    cases h
    exact ⟨rfl, agree_tot (mk := spec_l01VFinite_mk) (t := spec_l01VFinite_tree (⟨a0_0, a0_1, a0_2⟩ : Vec)) (by unfold Agree; kernel_rfl) (by kernel_rfl)⟩
  · cases h

/-- loop.example/g01284/spec.l02Body -/
def spec_l02Body_tree (a0 : Body) : DT (Bool) :=
  let x0 := spec_l01VFinite (⟨a0.At.X, a0.At.Y, a0.At.Z⟩ : Vec);
  .ask x0
  (
   let x1 := spec_l01VFinite (⟨a0.Speed.X, a0.Speed.Y, a0.Speed.Z⟩ : Vec);
   .ask x1
   (
    let x2 := spec_l02Least a0.Mass;
    .leaf x2)
   (
    .leaf false))
  (
   .leaf false)
def spec_l02Body (a0 : Body) : Bool := (spec_l02Body_tree a0).val
def spec_l02Body_mk (p : Bool) : Ret := ⟨.bool p, []⟩
def spec_l02Body_c0 : Con := fun args => match args with
  | [.vcell [.flt .f32 a0_0, .flt .f32 a0_1, .flt .f32 a0_2, .flt .f32 a0_3, .flt .f32 a0_4, .flt .f32 a0_5, .flt .f32 a0_6] 0] => some (.leaf (spec_l02Body_mk (spec_l02Body (⟨⟨a0_0, a0_1, a0_2⟩, ⟨a0_3, a0_4, a0_5⟩, a0_6⟩ : Body))))
  | _ => none
set_option maxRecDepth 100000 in
theorem spec_l02Body_ok0 : FunOK Try.prog 215 spec_l02Body_c0.fn := by
  refine con_ok (Γ := gam [(87, spec_l01VFinite_c), (101, spec_l02Least_c)]) (gam_cons spec_l01VFinite_ok (gam_cons spec_l02Least_ok (gam_nil))) tab_ok (by kernel_rfl) Try.func215 (by kernel_rfl) (by kernel_rfl) Try.ntmps215 Try.results215 (loopsOK_none rfl _) 100000 fun args t h => ?_
  unfold spec_l02Body_c0 at h
  split at h
  · rename_i a0_0 a0_1 a0_2 a0_3 a0_4 a0_5 a0_6
    cases h
    exact ⟨rfl, agree_tot (mk := spec_l02Body_mk) (t := spec_l02Body_tree (⟨⟨a0_0, a0_1, a0_2⟩, ⟨a0_3, a0_4, a0_5⟩, a0_6⟩ : Body)) (by unfold Agree; kernel_rfl) (by kernel_rfl)⟩
  · cases h
def spec_l02Body_c : Con := fun args => spec_l02Body_c0 (norms 0 [.ptr 7] args)
set_option maxRecDepth 100000 in
theorem spec_l02Body_ok : FunOK Try.prog 215 spec_l02Body_c.fn := con_norm [.ptr 7] spec_l02Body_ok0

/-- a loop of spec_l02Are -/
def spec_l02Are_loop0_step (p : List Body) (s : Int) : Round (Int) ((Unit) ⊕ (Unit)) :=
  let x0 := ((List.length p : Nat) : Int);
  let x1 := decide (s < x0);
  .ask x1
  (
   let x2 := ((List.length p : Nat) : Int);
   let x3 := decide (x2 ≤ 16);
   .ask x3
   (
    .need ((decide (0 ≤ s) && decide (s < ((List.length p : Nat) : Int)))) (
    let x4 := List.getD p (Int.toNat s) default;
    let x5 := spec_l02Body (⟨⟨x4.At.X, x4.At.Y, x4.At.Z⟩, ⟨x4.Speed.X, x4.Speed.Y, x4.Speed.Z⟩, x4.Mass⟩ : Body);
    .ask (!x5)
    (
     .leaf (.inr (.inl ()), []))
    (
     let x6 := IntKind.wrap .i64 (s + 1);
     .leaf (.inl x6, []))))
   (
    .leaf (.inr (.inr ()), [])))
  (
   .leaf (.inr (.inr ()), []))
def spec_l02Are_loop0_L (p : List Body) : LoopS (Int) ((Unit) ⊕ (Unit)) := { tl := fun s => [.vslc 1 .body p, .junk, .junk, .int .i64 s], hl := fun s => [], ex := fun r => match r with | .inl r => .ret | .inr r => .exit 0, otl := fun r => match r with | .inl r => [.junk, .junk, .bool false] | .inr r => [.vslc 1 .body p], ohl := fun r => match r with | .inl r => [] | .inr r => [] }
def spec_l02Are_loop0_ext : St → Option ((List Body) × (Int) × List Nat) := fun S => match (S.tm 0).unK, (S.tm 3).unK with
  | .vslc 1 .body q0, .int .i64 q1 => some (q0, q1, [])
  | _, _ => none
def spec_l02Are_loop0_post (p : List Body) (r : (Unit) ⊕ (Unit)) : DT (Ex × St) := .ask (isL r) (.leaf (.ret, LSt [.junk, .junk, .bool false] [])) (.leaf (.exit 0, LSt [.vslc 1 .body p] []))
def spec_l02Are_loop0 (p : List Body) (s : Int) : (Unit) ⊕ (Unit) := loopVal (spec_l02Are_loop0_step p) s
def spec_l02Are_loop0_ends (p : List Body) (s : Int) : Bool := loopEnds (spec_l02Are_loop0_step p) s
def spec_l02Are_loop0_F : LoopF := loopF spec_l02Are_loop0_step spec_l02Are_loop0_ext spec_l02Are_loop0_post
theorem spec_l02Are_loop0_hext : ∀ S p s fl, spec_l02Are_loop0_ext S = some (p, s, fl) → Norm S fl ((spec_l02Are_loop0_L p).tl s) ((spec_l02Are_loop0_L p).hl s) (spec_l02Are_loop0_L p).gl := by
  intro S p s fl h
  unfold spec_l02Are_loop0_ext at h
  (repeat' split at h) <;> first
    | (cases h; constructor <;> simp_all [spec_l02Are_loop0_L, keepT, keepH, rens, renH, PV.ren, Blk.ren, fOf, lget, nodup, natIn, lenEq, gtm, PV.unK])
    | cases h
theorem spec_l02Are_loop0_hpost : ∀ p r e S', (spec_l02Are_loop0_post p r).get = some (e, S') → e = (spec_l02Are_loop0_L p).ex r ∧ S' = LSt ((spec_l02Are_loop0_L p).otl r) ((spec_l02Are_loop0_L p).ohl r) ((spec_l02Are_loop0_L p).ogl r) := by
  intro p r e S' h
  unfold spec_l02Are_loop0_post at h
  cases r <;> (simp only [isL, DT.get, Option.some.injEq, Prod.mk.injEq] at h; exact ⟨h.1.symm, h.2.symm⟩)

def spec_l02Are_loops : Nat → Option LoopF := loopTab [(2, spec_l02Are_loop0_F)]
set_option maxRecDepth 100000 in
theorem spec_l02Are_l0 : LoopOK Try.prog ⟨gam [(215, spec_l02Body_c)], tab, 23, spec_l02Are_loops⟩ (lp Try.f177 0) :=
  loopOK_some (F := spec_l02Are_loop0_F) (by kernel_rfl) (loopF_ok (E := ⟨gam [(215, spec_l02Body_c)], tab, 23, spec_l02Are_loops⟩) ⟨gam_cons spec_l02Body_ok (gam_nil), tab_ok, by kernel_rfl⟩ (fuel := 100000) (loopsOK_list (l := []) (by kernel_rfl) trivial) (L := spec_l02Are_loop0_L) (fun p s => by unfold AgreeL; exact ⟨by kernel_rfl, by kernel_rfl⟩) (fun _ r h => by cases r <;> exact Ex.noConfusion h) spec_l02Are_loop0_hext spec_l02Are_loop0_hpost)
/-- loop.example/g01284/spec.l02Are -/
def spec_l02Are_tree (a0 : List Body) : DT (Bool) :=
  .need ((spec_l02Are_loop0_ends a0 0)) (
  let x0 := spec_l02Are_loop0 a0 0;
  .ask ((isL x0))
  (
   .leaf false)
  (
   let x1 := ((List.length a0 : Nat) : Int);
   let x2 := decide (x1 ≤ 16);
   .leaf x2))
def spec_l02Are (a0 : List Body) : Bool := (spec_l02Are_tree a0).val
def spec_l02Are_need (a0 : List Body) : Bool := (spec_l02Are_tree a0).ok
def spec_l02Are_mk (p : Bool) : Ret := ⟨.bool p, []⟩
def spec_l02Are_c0 : Con := fun args => match args with
  | [.vslc 1 .body a0] => some (.need (spec_l02Are_need a0) (.leaf (spec_l02Are_mk (spec_l02Are a0))))
  | _ => none
set_option maxRecDepth 100000 in
theorem spec_l02Are_ok0 : FunOK Try.prog 177 spec_l02Are_c0.fn := by
  refine con_ok (Γ := gam [(215, spec_l02Body_c)]) (gam_cons spec_l02Body_ok (gam_nil)) tab_ok (by kernel_rfl) Try.func177 (by kernel_rfl) (by kernel_rfl) Try.ntmps177 Try.results177 (loops := spec_l02Are_loops) (loopsOK_list (l := [lp Try.f177 0]) (by kernel_rfl) ⟨spec_l02Are_l0, trivial⟩) 100000 fun args t h => ?_
  unfold spec_l02Are_c0 at h
  split at h
  · rename_i a0
    cases h
    exact ⟨rfl, agree_need (mk := spec_l02Are_mk) (t := spec_l02Are_tree a0) (by unfold Agree; kernel_rfl)⟩
  · cases h
def spec_l02Are_c : Con := fun args => spec_l02Are_c0 (norms 0 [.slc .body] args)
set_option maxRecDepth 100000 in
theorem spec_l02Are_ok : FunOK Try.prog 177 spec_l02Are_c.fn := con_norm [.slc .body] spec_l02Are_ok0

/-- loop.example/g01284/spec.l02Give -/
def spec_l02Give_tree (a0 : List Body) : DT ((Unit) ⊕ (List Body)) :=
  .need ((spec_l02Are_need a0)) (
  let x0 := spec_l02Are a0;
  .ask (!x0)
  (
   .leaf (.inl ()))
  (
   .leaf (.inr a0)))
def spec_l02Give (a0 : List Body) : (Unit) ⊕ (List Body) := (spec_l02Give_tree a0).val
def spec_l02Give_need (a0 : List Body) : Bool := (spec_l02Give_tree a0).ok
def spec_l02Give_mk0 (p : Unit) : Ret := ⟨.tup [.nils, .bool false], []⟩
def spec_l02Give_mk1 (p : List Body) : Ret := ⟨.tup [.vslc 1 .body p, .bool true], []⟩
def spec_l02Give_mk : (Unit) ⊕ (List Body) → Ret := fun v => match v with
  | (.inl p) => spec_l02Give_mk0 p
  | (.inr p) => spec_l02Give_mk1 p
def spec_l02Give_forms (v : (Unit) ⊕ (List Body)) : DT Ret := .ask (isL v) (.leaf (spec_l02Give_mk0 (leftD v))) (.leaf (spec_l02Give_mk1 (rightD v)))
theorem spec_l02Give_forms_get : ∀ v, (spec_l02Give_forms v).get = some (spec_l02Give_mk v) := by
  intro v
  rcases v with v | v <;> rfl
def spec_l02Give_c0 : Con := fun args => match args with
  | [.vslc 1 .body a0] => some (.need (spec_l02Give_need a0) (spec_l02Give_forms (spec_l02Give a0)))
  | _ => none
set_option maxRecDepth 100000 in
theorem spec_l02Give_ok0 : FunOK Try.prog 104 spec_l02Give_c0.fn := by
  refine con_ok (Γ := gam [(177, spec_l02Are_c)]) (gam_cons spec_l02Are_ok (gam_nil)) tab_ok (by kernel_rfl) Try.func104 (by kernel_rfl) (by kernel_rfl) Try.ntmps104 Try.results104 (loopsOK_none rfl _) 100000 fun args t h => ?_
  unfold spec_l02Give_c0 at h
  split at h
  · rename_i a0
    cases h
    exact ⟨rfl, agree_forms (mk := spec_l02Give_mk) (t := spec_l02Give_tree a0) (by unfold Agree; kernel_rfl) (fun h => h) (spec_l02Give_forms_get _)⟩
  · cases h
def spec_l02Give_c : Con := fun args => spec_l02Give_c0 (norms 0 [.slc .body] args)
set_option maxRecDepth 100000 in
theorem spec_l02Give_ok : FunOK Try.prog 104 spec_l02Give_c.fn := con_norm [.slc .body] spec_l02Give_ok0

/-- a loop of spec_PolygonBodies -/
def spec_PolygonBodies_loop0_step (p : Int × Nat × Nat) (s : Nat × Int) : Round (Nat × Int) (Nat) :=
  let x0 := decide (s.2 < p.1);
  .ask x0
  (
   let x1 := fofInt .f32 s.2;
   let x2 := IntKind.wrap .i64 (2 * p.1);
   let x3 := fofInt .f32 x2;
   let x4 := fdiv .f32 x1 x3;
   .need ((spec_l01Sine_need x4)) (
   let x5 := spec_l01Sine x4;
   let x6 := fdiv .f32 1065353216 x5;
   let x7 := fadd .f32 s.1 x6;
   let x8 := IntKind.wrap .i64 (s.2 + 1);
   .leaf (.inl (x7, x8), [])))
  (
   .leaf (.inr s.1, []))
def spec_PolygonBodies_loop0_L (p : Int × Nat × Nat) : LoopS (Nat × Int) (Nat) := { tl := fun s => [.int .i64 p.1, .flt .f32 p.2.1, .flt .f32 p.2.2, .junk, .junk, .junk, .junk, .junk, .flt .f32 s.1, .int .i64 s.2], hl := fun s => [], ex := fun r => .exit 0, otl := fun r => [.int .i64 p.1, .flt .f32 p.2.1, .flt .f32 p.2.2, .junk, .junk, .junk, .junk, .junk, .flt .f32 r], ohl := fun r => [] }
def spec_PolygonBodies_loop0_ext : St → Option ((Int × Nat × Nat) × (Nat × Int) × List Nat) := fun S => match (S.tm 0).unK, (S.tm 1).unK, (S.tm 2).unK, (S.tm 8).unK, (S.tm 9).unK with
  | .int .i64 q0, .flt .f32 q1, .flt .f32 q2, .flt .f32 q3, .int .i64 q4 => some ((q0, q1, q2), (q3, q4), [])
  | _, _, _, _, _ => none
def spec_PolygonBodies_loop0_post (p : Int × Nat × Nat) (r : Nat) : DT (Ex × St) := .leaf (.exit 0, LSt [.int .i64 p.1, .flt .f32 p.2.1, .flt .f32 p.2.2, .junk, .junk, .junk, .junk, .junk, .flt .f32 r] [])
def spec_PolygonBodies_loop0 (p : Int × Nat × Nat) (s : Nat × Int) : Nat := loopVal (spec_PolygonBodies_loop0_step p) s
def spec_PolygonBodies_loop0_ends (p : Int × Nat × Nat) (s : Nat × Int) : Bool := loopEnds (spec_PolygonBodies_loop0_step p) s
def spec_PolygonBodies_loop0_F : LoopF := loopF spec_PolygonBodies_loop0_step spec_PolygonBodies_loop0_ext spec_PolygonBodies_loop0_post
theorem spec_PolygonBodies_loop0_hext : ∀ S p s fl, spec_PolygonBodies_loop0_ext S = some (p, s, fl) → Norm S fl ((spec_PolygonBodies_loop0_L p).tl s) ((spec_PolygonBodies_loop0_L p).hl s) (spec_PolygonBodies_loop0_L p).gl := by
  intro S p s fl h
  unfold spec_PolygonBodies_loop0_ext at h
  (repeat' split at h) <;> first
    | (cases h; constructor <;> simp_all [spec_PolygonBodies_loop0_L, keepT, keepH, rens, renH, PV.ren, Blk.ren, fOf, lget, nodup, natIn, lenEq, gtm, PV.unK])
    | cases h
theorem spec_PolygonBodies_loop0_hpost : ∀ p r e S', (spec_PolygonBodies_loop0_post p r).get = some (e, S') → e = (spec_PolygonBodies_loop0_L p).ex r ∧ S' = LSt ((spec_PolygonBodies_loop0_L p).otl r) ((spec_PolygonBodies_loop0_L p).ohl r) ((spec_PolygonBodies_loop0_L p).ogl r) := by
  intro p r e S' h
  unfold spec_PolygonBodies_loop0_post at h
  simp only [DT.get, Option.some.injEq, Prod.mk.injEq] at h; exact ⟨h.1.symm, h.2.symm⟩

/-- a loop of spec_PolygonBodies -/
def spec_PolygonBodies_loop1_step (p : Int × Nat × Nat × Nat) (s : Int × List Body) : Round (Int × List Body) (List Body) :=
  let x0 := decide (s.1 < p.1);
  .ask x0
  (
   let x1 := fofInt .f32 s.1;
   let x2 := fofInt .f32 p.1;
   let x3 := fdiv .f32 x1 x2;
   let x4 := fadd .f32 x3 1048576000;
   .need ((spec_l01Sine_need x4)) (
   let x5 := spec_l01Sine x4;
   let x6 := fmul .f32 p.2.1 x5;
   .need ((spec_l01Sine_need x3)) (
   let x7 := spec_l01Sine x3;
   let x8 := fmul .f32 p.2.1 x7;
   let x9 := fmul .f32 p.2.2.2 x8;
   let x10 := fneg .f32 x9;
   let x11 := fmul .f32 p.2.2.2 x6;
   .need ((decide ((List.length s.2 + List.length [(⟨⟨x6, x8, 0⟩, ⟨x10, x11, 0⟩, p.2.2.1⟩ : Body)]) * 28 ≤ 140737488355328) && decide (List.length s.2 + List.length [(⟨⟨x6, x8, 0⟩, ⟨x10, x11, 0⟩, p.2.2.1⟩ : Body)] ≤ 9223372036854775807))) (
   let x12 := s.2 ++ [(⟨⟨x6, x8, 0⟩, ⟨x10, x11, 0⟩, p.2.2.1⟩ : Body)];
   let x13 := IntKind.wrap .i64 (s.1 + 1);
   .leaf (.inl (x13, x12), [305])))))
  (
   .leaf (.inr s.2, [0]))
def spec_PolygonBodies_loop1_L (p : Int × Nat × Nat × Nat) : LoopS (Int × List Body) (List Body) := { tl := fun s => [.int .i64 p.1, .flt .f32 p.2.1, .flt .f32 p.2.2.1, .junk, .junk, .junk, .junk, .junk, .junk, .junk, .junk, .flt .f32 p.2.2.2, .own 0, .int .i64 s.1], hl := fun s => [some (.typed 132 .body s.2)], ex := fun r => .exit 2, otl := fun r => [.junk, .junk, .junk, .junk, .junk, .junk, .junk, .junk, .junk, .junk, .junk, .junk, .own 0], ohl := fun r => [some (.typed 132 .body r)] }
def spec_PolygonBodies_loop1_ext : St → Option ((Int × Nat × Nat × Nat) × (Int × List Body) × List Nat) := fun S => match (S.tm 0).unK, (S.tm 1).unK, (S.tm 2).unK, (S.tm 11).unK, (S.tm 12).unK, (S.tm 13).unK with
  | .int .i64 q0, .flt .f32 q1, .flt .f32 q2, .flt .f32 q3, .own i0, .int .i64 q4 => (match S.hp i0 with
    | some (.typed 132 .body q5) => some ((q0, q1, q2, q3), (q4, q5), [i0])
    | _ => none)
  | _, _, _, _, _, _ => none
def spec_PolygonBodies_loop1_post (p : Int × Nat × Nat × Nat) (r : List Body) : DT (Ex × St) := .leaf (.exit 2, LSt [.junk, .junk, .junk, .junk, .junk, .junk, .junk, .junk, .junk, .junk, .junk, .junk, .own 0] [some (.typed 132 .body r)])
def spec_PolygonBodies_loop1 (p : Int × Nat × Nat × Nat) (s : Int × List Body) : List Body := loopVal (spec_PolygonBodies_loop1_step p) s
def spec_PolygonBodies_loop1_ends (p : Int × Nat × Nat × Nat) (s : Int × List Body) : Bool := loopEnds (spec_PolygonBodies_loop1_step p) s
def spec_PolygonBodies_loop1_F : LoopF := loopF spec_PolygonBodies_loop1_step spec_PolygonBodies_loop1_ext spec_PolygonBodies_loop1_post
theorem spec_PolygonBodies_loop1_hext : ∀ S p s fl, spec_PolygonBodies_loop1_ext S = some (p, s, fl) → Norm S fl ((spec_PolygonBodies_loop1_L p).tl s) ((spec_PolygonBodies_loop1_L p).hl s) (spec_PolygonBodies_loop1_L p).gl := by
  intro S p s fl h
  unfold spec_PolygonBodies_loop1_ext at h
  (repeat' split at h) <;> first
    | (cases h; constructor <;> simp_all [spec_PolygonBodies_loop1_L, keepT, keepH, rens, renH, PV.ren, Blk.ren, fOf, lget, nodup, natIn, lenEq, gtm, PV.unK])
    | cases h
theorem spec_PolygonBodies_loop1_hpost : ∀ p r e S', (spec_PolygonBodies_loop1_post p r).get = some (e, S') → e = (spec_PolygonBodies_loop1_L p).ex r ∧ S' = LSt ((spec_PolygonBodies_loop1_L p).otl r) ((spec_PolygonBodies_loop1_L p).ohl r) ((spec_PolygonBodies_loop1_L p).ogl r) := by
  intro p r e S' h
  unfold spec_PolygonBodies_loop1_post at h
  simp only [DT.get, Option.some.injEq, Prod.mk.injEq] at h; exact ⟨h.1.symm, h.2.symm⟩

def spec_PolygonBodies_loops : Nat → Option LoopF := loopTab [(5, spec_PolygonBodies_loop0_F), (12, spec_PolygonBodies_loop1_F)]
set_option maxRecDepth 100000 in
theorem spec_PolygonBodies_l1 : LoopOK Try.prog ⟨gam [(99, spec_l00In_c), (100, spec_l02Above_c), (101, spec_l02Least_c), (102, spec_l01Sine_c), (103, spec_l01Sqrt_c), (104, spec_l02Give_c)], tab, 99, spec_PolygonBodies_loops⟩ (lp Try.f29 1) :=
  loopOK_some (F := spec_PolygonBodies_loop1_F) (by kernel_rfl) (loopF_ok (E := ⟨gam [(99, spec_l00In_c), (100, spec_l02Above_c), (101, spec_l02Least_c), (102, spec_l01Sine_c), (103, spec_l01Sqrt_c), (104, spec_l02Give_c)], tab, 99, spec_PolygonBodies_loops⟩) ⟨gam_cons spec_l00In_ok (gam_cons spec_l02Above_ok (gam_cons spec_l02Least_ok (gam_cons spec_l01Sine_ok (gam_cons spec_l01Sqrt_ok (gam_cons spec_l02Give_ok (gam_nil)))))), tab_ok, by kernel_rfl⟩ (fuel := 100000) (loopsOK_list (l := []) (by kernel_rfl) trivial) (L := spec_PolygonBodies_loop1_L) (fun p s => by unfold AgreeL; exact ⟨by kernel_rfl, by kernel_rfl⟩) (fun _ _ h => Ex.noConfusion h) spec_PolygonBodies_loop1_hext spec_PolygonBodies_loop1_hpost)
set_option maxRecDepth 100000 in
theorem spec_PolygonBodies_l0 : LoopOK Try.prog ⟨gam [(99, spec_l00In_c), (100, spec_l02Above_c), (101, spec_l02Least_c), (102, spec_l01Sine_c), (103, spec_l01Sqrt_c), (104, spec_l02Give_c)], tab, 99, spec_PolygonBodies_loops⟩ (lp Try.f29 0) :=
  loopOK_some (F := spec_PolygonBodies_loop0_F) (by kernel_rfl) (loopF_ok (E := ⟨gam [(99, spec_l00In_c), (100, spec_l02Above_c), (101, spec_l02Least_c), (102, spec_l01Sine_c), (103, spec_l01Sqrt_c), (104, spec_l02Give_c)], tab, 99, spec_PolygonBodies_loops⟩) ⟨gam_cons spec_l00In_ok (gam_cons spec_l02Above_ok (gam_cons spec_l02Least_ok (gam_cons spec_l01Sine_ok (gam_cons spec_l01Sqrt_ok (gam_cons spec_l02Give_ok (gam_nil)))))), tab_ok, by kernel_rfl⟩ (fuel := 100000) (loopsOK_list (l := []) (by kernel_rfl) trivial) (L := spec_PolygonBodies_loop0_L) (fun p s => by unfold AgreeL; exact ⟨by kernel_rfl, by kernel_rfl⟩) (fun _ _ h => Ex.noConfusion h) spec_PolygonBodies_loop0_hext spec_PolygonBodies_loop0_hpost)
/-- loop.example/g01284/spec.PolygonBodies -/
def spec_PolygonBodies_tree (a0 : Int) (a1 : Nat) (a2 : Nat) : DT ((Unit) ⊕ (List Body)) :=
  let x0 := spec_l00In a0 2 16;
  .ask (!x0)
  (
   .leaf (.inl ()))
  (
   let x1 := spec_l02Above a1;
   .ask (!x1)
   (
    .leaf (.inl ()))
   (
    let x2 := spec_l02Least a2;
    .ask (!x2)
    (
     .leaf (.inl ()))
    (
     .need ((spec_PolygonBodies_loop0_ends (a0, a1, a2) (0, 1))) (
     let x3 := spec_PolygonBodies_loop0 (a0, a1, a2) (0, 1);
     let x4 := fmul .f32 1082130432 a1;
     let x5 := fmul .f32 x4 a1;
     let x6 := fmul .f32 x5 a1;
     let x7 := fmul .f32 a2 x3;
     let x8 := fdiv .f32 x7 x6;
     .need ((spec_l01Sqrt_need x8)) (
     let x9 := spec_l01Sqrt x8;
     .need ((spec_PolygonBodies_loop1_ends (a0, a1, a2, x9) (0, []))) (
     let x10 := spec_PolygonBodies_loop1 (a0, a1, a2, x9) (0, []);
     .need ((spec_l02Give_need x10)) (
     let x11 := spec_l02Give x10;
     .ask ((isL x11))
     (
      .leaf (.inl ()))
     (
      .leaf (.inr x10)))))))))
def spec_PolygonBodies (a0 : Int) (a1 : Nat) (a2 : Nat) : (Unit) ⊕ (List Body) := (spec_PolygonBodies_tree a0 a1 a2).val
def spec_PolygonBodies_need (a0 : Int) (a1 : Nat) (a2 : Nat) : Bool := (spec_PolygonBodies_tree a0 a1 a2).ok
def spec_PolygonBodies_mk0 (p : Unit) : Ret := ⟨.tup [.nils, .bool false], []⟩
def spec_PolygonBodies_mk1 (p : List Body) : Ret := ⟨.tup [.own 0, .bool true], [.typed 132 .body p]⟩
def spec_PolygonBodies_mk : (Unit) ⊕ (List Body) → Ret := fun v => match v with
  | (.inl p) => spec_PolygonBodies_mk0 p
  | (.inr p) => spec_PolygonBodies_mk1 p
def spec_PolygonBodies_forms (v : (Unit) ⊕ (List Body)) : DT Ret := .ask (isL v) (.leaf (spec_PolygonBodies_mk0 (leftD v))) (.leaf (spec_PolygonBodies_mk1 (rightD v)))
theorem spec_PolygonBodies_forms_get : ∀ v, (spec_PolygonBodies_forms v).get = some (spec_PolygonBodies_mk v) := by
  intro v
  rcases v with v | v <;> rfl
def spec_PolygonBodies_c : Con := fun args => match args with
  | [.int .i64 a0, .flt .f32 a1, .flt .f32 a2] => some (.need (spec_PolygonBodies_need a0 a1 a2) (spec_PolygonBodies_forms (spec_PolygonBodies a0 a1 a2)))
  | _ => none
set_option maxRecDepth 100000 in
theorem spec_PolygonBodies_ok : FunOK Try.prog 29 spec_PolygonBodies_c.fn := by
  refine con_ok (Γ := gam [(99, spec_l00In_c), (100, spec_l02Above_c), (101, spec_l02Least_c), (102, spec_l01Sine_c), (103, spec_l01Sqrt_c), (104, spec_l02Give_c)]) (gam_cons spec_l00In_ok (gam_cons spec_l02Above_ok (gam_cons spec_l02Least_ok (gam_cons spec_l01Sine_ok (gam_cons spec_l01Sqrt_ok (gam_cons spec_l02Give_ok (gam_nil))))))) tab_ok (by kernel_rfl) Try.func29 (by kernel_rfl) (by kernel_rfl) Try.ntmps29 Try.results29 (loops := spec_PolygonBodies_loops) (loopsOK_list (l := [lp Try.f29 0, lp Try.f29 1]) (by kernel_rfl) ⟨spec_PolygonBodies_l0, ⟨spec_PolygonBodies_l1, trivial⟩⟩) 100000 fun args t h => ?_
  unfold spec_PolygonBodies_c at h
  split at h
  · rename_i a0 a1 a2
    cases h
    exact ⟨rfl, agree_forms (mk := spec_PolygonBodies_mk) (t := spec_PolygonBodies_tree a0 a1 a2) (by unfold Agree; kernel_rfl) (fun h => h) (spec_PolygonBodies_forms_get _)⟩
  · cases h

/-- loop.example/g01284/impl.within -/
def impl_within_tree (a0 : Int) (a1 : Int) (a2 : Int) : DT (Bool) :=
  let x0 := decide (a1 ≤ a0);
  .ask x0
  (
   let x1 := decide (a0 ≤ a2);
   .leaf x1)
  (
   .leaf false)
def impl_within (a0 : Int) (a1 : Int) (a2 : Int) : Bool := (impl_within_tree a0 a1 a2).val
def impl_within_mk (p : Bool) : Ret := ⟨.bool p, []⟩
def impl_within_c : Con := fun args => match args with
  | [.int .i64 a0, .int .i64 a1, .int .i64 a2] => some (.leaf (impl_within_mk (impl_within a0 a1 a2)))
  | _ => none
set_option maxRecDepth 100000 in
theorem impl_within_ok : FunOK Try.prog 105 impl_within_c.fn := by
  refine con_ok (Γ := gam []) (gam_nil) tab_ok (by kernel_rfl) Try.func105 (by kernel_rfl) (by kernel_rfl) Try.ntmps105 Try.results105 (loopsOK_none rfl _) 100000 fun args t h => ?_
  unfold impl_within_c at h
  split at h
  · rename_i a0 a1 a2
    cases h
    exact ⟨rfl, agree_tot (mk := impl_within_mk) (t := impl_within_tree a0 a1 a2) (by unfold Agree; kernel_rfl) (by kernel_rfl)⟩
  · cases h

/-- loop.example/g01284/impl.aLength -/
def impl_aLength_tree (a0 : Nat) : DT (Bool) :=
  .need ((impl_IsFinite_need a0)) (
  let x0 := impl_IsFinite a0;
  .ask x0
  (
   let x1 := fgt .f32 a0 0;
   .leaf x1)
  (
   .leaf false))
def impl_aLength (a0 : Nat) : Bool := (impl_aLength_tree a0).val
def impl_aLength_need (a0 : Nat) : Bool := (impl_aLength_tree a0).ok
def impl_aLength_mk (p : Bool) : Ret := ⟨.bool p, []⟩
def impl_aLength_c : Con := fun args => match args with
  | [.flt .f32 a0] => some (.need (impl_aLength_need a0) (.leaf (impl_aLength_mk (impl_aLength a0))))
  | _ => none
set_option maxRecDepth 100000 in
theorem impl_aLength_ok : FunOK Try.prog 106 impl_aLength_c.fn := by
  refine con_ok (Γ := gam [(92, impl_IsFinite_c)]) (gam_cons impl_IsFinite_ok (gam_nil)) tab_ok (by kernel_rfl) Try.func106 (by kernel_rfl) (by kernel_rfl) Try.ntmps106 Try.results106 (loopsOK_none rfl _) 100000 fun args t h => ?_
  unfold impl_aLength_c at h
  split at h
  · rename_i a0
    cases h
    exact ⟨rfl, agree_need (mk := impl_aLength_mk) (t := impl_aLength_tree a0) (by unfold Agree; kernel_rfl)⟩
  · cases h

/-- loop.example/g01284/impl.aMass -/
def impl_aMass_tree (a0 : Nat) : DT (Bool) :=
  .need ((impl_IsFinite_need a0)) (
  let x0 := impl_IsFinite a0;
  .ask x0
  (
   let x1 := fge .f32 a0 0;
   .leaf x1)
  (
   .leaf false))
def impl_aMass (a0 : Nat) : Bool := (impl_aMass_tree a0).val
def impl_aMass_need (a0 : Nat) : Bool := (impl_aMass_tree a0).ok
def impl_aMass_mk (p : Bool) : Ret := ⟨.bool p, []⟩
def impl_aMass_c : Con := fun args => match args with
  | [.flt .f32 a0] => some (.need (impl_aMass_need a0) (.leaf (impl_aMass_mk (impl_aMass a0))))
  | _ => none
set_option maxRecDepth 100000 in
theorem impl_aMass_ok : FunOK Try.prog 107 impl_aMass_c.fn := by
  refine con_ok (Γ := gam [(92, impl_IsFinite_c)]) (gam_cons impl_IsFinite_ok (gam_nil)) tab_ok (by kernel_rfl) Try.func107 (by kernel_rfl) (by kernel_rfl) Try.ntmps107 Try.results107 (loopsOK_none rfl _) 100000 fun args t h => ?_
  unfold impl_aMass_c at h
  split at h
  · rename_i a0
    cases h
    exact ⟨rfl, agree_need (mk := impl_aMass_mk) (t := impl_aMass_tree a0) (by unfold Agree; kernel_rfl)⟩
  · cases h

/-- loop.example/g01284/impl.SineTurns -/
def impl_SineTurns_tree (a0 : Nat) : DT (Nat) :=
  .need ((impl_IsFinite_need a0)) (
  let x0 := impl_IsFinite a0;
  .ask (!x0)
  (
   let x1 := math_NaN ;
   .need ((fconvOk .f64 x1 .f32)) (
   let x2 := fconv .f64 x1 .f32;
   .leaf x2))
  (
   .need ((fconvOk .f32 a0 .f64)) (
   let x1 := fconv .f32 a0 .f64;
   let x2 := math_Abs x1;
   let x3 := fge .f64 x2 4841369599423283200;
   .ask x3
   (
    .leaf 0)
   (
    .need ((fconvOk .f32 a0 .f64)) (
    let x4 := fconv .f32 a0 .f64;
    let x5 := impl_sine x4;
    .need ((fconvOk .f64 x5 .f32)) (
    let x6 := fconv .f64 x5 .f32;
    .leaf x6))))))
def impl_SineTurns (a0 : Nat) : Nat := (impl_SineTurns_tree a0).val
def impl_SineTurns_need (a0 : Nat) : Bool := (impl_SineTurns_tree a0).ok
def impl_SineTurns_mk (p : Nat) : Ret := ⟨.flt .f32 p, []⟩
def impl_SineTurns_c : Con := fun args => match args with
  | [.flt .f32 a0] => some (.need (impl_SineTurns_need a0) (.leaf (impl_SineTurns_mk (impl_SineTurns a0))))
  | _ => none
set_option maxRecDepth 100000 in
theorem impl_SineTurns_ok : FunOK Try.prog 108 impl_SineTurns_c.fn := by
  refine con_ok (Γ := gam [(92, impl_IsFinite_c), (157, math_NaN_c), (158, math_Abs_c), (163, impl_sine_c)]) (gam_cons impl_IsFinite_ok (gam_cons math_NaN_ok (gam_cons math_Abs_ok (gam_cons impl_sine_ok (gam_nil))))) tab_ok (by kernel_rfl) Try.func108 (by kernel_rfl) (by kernel_rfl) Try.ntmps108 Try.results108 (loopsOK_none rfl _) 100000 fun args t h => ?_
  unfold impl_SineTurns_c at h
  split at h
  · rename_i a0
    cases h
    exact ⟨rfl, agree_need (mk := impl_SineTurns_mk) (t := impl_SineTurns_tree a0) (by unfold Agree; kernel_rfl)⟩
  · cases h

/-- loop.example/g01284/impl.RootNumber -/
def impl_RootNumber_tree (a0 : Nat) : DT (Nat) :=
  .need ((fconvOk .f32 a0 .f64)) (
  let x0 := fconv .f32 a0 .f64;
  let x1 := math_Sqrt x0;
  .need ((fconvOk .f64 x1 .f32)) (
  let x2 := fconv .f64 x1 .f32;
  .leaf x2))
def impl_RootNumber (a0 : Nat) : Nat := (impl_RootNumber_tree a0).val
def impl_RootNumber_need (a0 : Nat) : Bool := (impl_RootNumber_tree a0).ok
def impl_RootNumber_mk (p : Nat) : Ret := ⟨.flt .f32 p, []⟩
def impl_RootNumber_c : Con := fun args => match args with
  | [.flt .f32 a0] => some (.need (impl_RootNumber_need a0) (.leaf (impl_RootNumber_mk (impl_RootNumber a0))))
  | _ => none
set_option maxRecDepth 100000 in
theorem impl_RootNumber_ok : FunOK Try.prog 93 impl_RootNumber_c.fn := by
  refine con_ok (Γ := gam [(159, math_Sqrt_c)]) (gam_cons math_Sqrt_ok (gam_nil)) tab_ok (by kernel_rfl) Try.func93 (by kernel_rfl) (by kernel_rfl) Try.ntmps93 Try.results93 (loopsOK_none rfl _) 100000 fun args t h => ?_
  unfold impl_RootNumber_c at h
  split at h
  · rename_i a0
    cases h
    exact ⟨rfl, agree_need (mk := impl_RootNumber_mk) (t := impl_RootNumber_tree a0) (by unfold Agree; kernel_rfl)⟩
  · cases h

/-- (loop.example/g01284/impl.Vector).numbers -/
def impl_Vector_numbers_tree (a0 : Vec) : DT (List Nat) :=
  .leaf ([a0.X, a0.Y, a0.Z])
def impl_Vector_numbers (a0 : Vec) : List Nat := (impl_Vector_numbers_tree a0).val
def impl_Vector_numbers_mk (p : List Nat) : Ret := ⟨.own 0, [.typed 28 (.flt .f32) p]⟩
def impl_Vector_numbers_c : Con := fun args => match args with
  | [.agg [.flt .f32 a0_0, .flt .f32 a0_1, .flt .f32 a0_2]] => some (.leaf (impl_Vector_numbers_mk (impl_Vector_numbers (⟨a0_0, a0_1, a0_2⟩ : Vec))))
  | _ => none
set_option maxRecDepth 100000 in
theorem impl_Vector_numbers_ok : FunOK Try.prog 174 impl_Vector_numbers_c.fn := by
  refine con_ok (Γ := gam []) (gam_nil) tab_ok (by kernel_rfl) Try.func174 (by kernel_rfl) (by kernel_rfl) Try.ntmps174 Try.results174 (loopsOK_none rfl _) 100000 fun args t h => ?_
  unfold impl_Vector_numbers_c at h
  split at h
  · rename_i a0_0 a0_1 a0_2
    cases h
    exact ⟨rfl, agree_tot (mk := impl_Vector_numbers_mk) (t := impl_Vector_numbers_tree (⟨a0_0, a0_1, a0_2⟩ : Vec)) (by unfold Agree; kernel_rfl) (by kernel_rfl)⟩
  · cases h

/-- loop.example/g01284/impl.isFiniteVector -/
def impl_isFiniteVector_tree (a0 : Vec) : DT (Bool) :=
  let x0 := impl_Vector_numbers (⟨a0.X, a0.Y, a0.Z⟩ : Vec);
  .need ((impl_areFinite_need x0)) (
  let x1 := impl_areFinite x0;
  .leaf x1)
def impl_isFiniteVector (a0 : Vec) : Bool := (impl_isFiniteVector_tree a0).val
def impl_isFiniteVector_need (a0 : Vec) : Bool := (impl_isFiniteVector_tree a0).ok
def impl_isFiniteVector_mk (p : Bool) : Ret := ⟨.bool p, []⟩
def impl_isFiniteVector_c : Con := fun args => match args with
  | [.agg [.flt .f32 a0_0, .flt .f32 a0_1, .flt .f32 a0_2]] => some (.need (impl_isFiniteVector_need (⟨a0_0, a0_1, a0_2⟩ : Vec)) (.leaf (impl_isFiniteVector_mk (impl_isFiniteVector (⟨a0_0, a0_1, a0_2⟩ : Vec)))))
  | _ => none
set_option maxRecDepth 100000 in
theorem impl_isFiniteVector_ok : FunOK Try.prog 91 impl_isFiniteVector_c.fn := by
  refine con_ok (Γ := gam [(174, impl_Vector_numbers_c), (113, impl_areFinite_c)]) (gam_cons impl_Vector_numbers_ok (gam_cons impl_areFinite_ok (gam_nil))) tab_ok (by kernel_rfl) Try.func91 (by kernel_rfl) (by kernel_rfl) Try.ntmps91 Try.results91 (loopsOK_none rfl _) 100000 fun args t h => ?_
  unfold impl_isFiniteVector_c at h
  split at h
  · rename_i a0_0 a0_1 a0_2
    cases h
    exact ⟨rfl, agree_need (mk := impl_isFiniteVector_mk) (t := impl_isFiniteVector_tree (⟨a0_0, a0_1, a0_2⟩ : Vec)) (by unfold Agree; kernel_rfl)⟩
  · cases h

/-- loop.example/g01284/impl.AreBodies$1 -/
def impl_AreBodies_1_tree (a0 : Body) : DT (Bool) :=
  .need ((impl_isFiniteVector_need (⟨a0.At.X, a0.At.Y, a0.At.Z⟩ : Vec))) (
  let x0 := impl_isFiniteVector (⟨a0.At.X, a0.At.Y, a0.At.Z⟩ : Vec);
  .ask (!x0)
  (
   .leaf true)
  (
   .need ((impl_isFiniteVector_need (⟨a0.Speed.X, a0.Speed.Y, a0.Speed.Z⟩ : Vec))) (
   let x1 := impl_isFiniteVector (⟨a0.Speed.X, a0.Speed.Y, a0.Speed.Z⟩ : Vec);
   .ask (!x1)
   (
    .leaf true)
   (
    .need ((impl_IsFinite_need a0.Mass)) (
    let x2 := impl_IsFinite a0.Mass;
    .ask (!x2)
    (
     .leaf true)
    (
     let x3 := flt .f32 a0.Mass 0;
     .leaf x3))))))
def impl_AreBodies_1 (a0 : Body) : Bool := (impl_AreBodies_1_tree a0).val
def impl_AreBodies_1_need (a0 : Body) : Bool := (impl_AreBodies_1_tree a0).ok
def impl_AreBodies_1_mk (p : Bool) : Ret := ⟨.bool p, []⟩
def impl_AreBodies_1_c : Con := fun args => match args with
  | [.agg [.flt .f32 a0_0, .flt .f32 a0_1, .flt .f32 a0_2, .flt .f32 a0_3, .flt .f32 a0_4, .flt .f32 a0_5, .flt .f32 a0_6]] => some (.need (impl_AreBodies_1_need (⟨⟨a0_0, a0_1, a0_2⟩, ⟨a0_3, a0_4, a0_5⟩, a0_6⟩ : Body)) (.leaf (impl_AreBodies_1_mk (impl_AreBodies_1 (⟨⟨a0_0, a0_1, a0_2⟩, ⟨a0_3, a0_4, a0_5⟩, a0_6⟩ : Body)))))
  | _ => none
set_option maxRecDepth 100000 in
theorem impl_AreBodies_1_ok : FunOK Try.prog 189 impl_AreBodies_1_c.fn := by
  refine con_ok (Γ := gam [(91, impl_isFiniteVector_c), (92, impl_IsFinite_c)]) (gam_cons impl_isFiniteVector_ok (gam_cons impl_IsFinite_ok (gam_nil))) tab_ok (by kernel_rfl) Try.func189 (by kernel_rfl) (by kernel_rfl) Try.ntmps189 Try.results189 (loopsOK_none rfl _) 100000 fun args t h => ?_
  unfold impl_AreBodies_1_c at h
  split at h
  · rename_i a0_0 a0_1 a0_2 a0_3 a0_4 a0_5 a0_6
    cases h
    exact ⟨rfl, agree_need (mk := impl_AreBodies_1_mk) (t := impl_AreBodies_1_tree (⟨⟨a0_0, a0_1, a0_2⟩, ⟨a0_3, a0_4, a0_5⟩, a0_6⟩ : Body)) (by unfold Agree; kernel_rfl)⟩
  · cases h

/-- a loop of slices_IndexFunc___impl_Body_impl_Body__impl_AreBodies_1 -/
def slices_IndexFunc___impl_Body_impl_Body__impl_AreBodies_1_loop0_step (p : List Body × Int) (s : Int) : Round (Int) ((Int) ⊕ (Unit)) :=
  let x0 := decide (s < p.2);
  .ask x0
  (
   .need ((decide (0 ≤ s) && decide (s < ((List.length p.1 : Nat) : Int)))) (
   let x1 := List.getD p.1 (Int.toNat s) default;
   .need ((impl_AreBodies_1_need (⟨⟨x1.At.X, x1.At.Y, x1.At.Z⟩, ⟨x1.Speed.X, x1.Speed.Y, x1.Speed.Z⟩, x1.Mass⟩ : Body))) (
   let x2 := impl_AreBodies_1 (⟨⟨x1.At.X, x1.At.Y, x1.At.Z⟩, ⟨x1.Speed.X, x1.Speed.Y, x1.Speed.Z⟩, x1.Mass⟩ : Body);
   .ask x2
   (
    .leaf (.inr (.inl s), []))
   (
    let x3 := IntKind.wrap .i64 (s + 1);
    .leaf (.inl x3, [])))))
  (
   .leaf (.inr (.inr ()), []))
def slices_IndexFunc___impl_Body_impl_Body__impl_AreBodies_1_loop0_L (p : List Body × Int) : LoopS (Int) ((Int) ⊕ (Unit)) := { tl := fun s => [.vslc 1 .body p.1, .func (.func 189) [] [], .junk, .junk, .junk, .junk, .junk, .int .i64 p.2, .int .i64 s], hl := fun s => [], ex := fun r => match r with | .inl r => .ret | .inr r => .exit 0, otl := fun r => match r with | .inl r => [.junk, .junk, .junk, .junk, .int .i64 r] | .inr r => [.junk], ohl := fun r => match r with | .inl r => [] | .inr r => [] }
def slices_IndexFunc___impl_Body_impl_Body__impl_AreBodies_1_loop0_ext : St → Option ((List Body × Int) × (Int) × List Nat) := fun S => match (S.tm 0).unK, (S.tm 1).unK, (S.tm 7).unK, (S.tm 8).unK with
  | .vslc 1 .body q0, .func (.func 189) [] [], .int .i64 q1, .int .i64 q2 => some ((q0, q1), q2, [])
  | _, _, _, _ => none
def slices_IndexFunc___impl_Body_impl_Body__impl_AreBodies_1_loop0_post (p : List Body × Int) (r : (Int) ⊕ (Unit)) : DT (Ex × St) := .ask (isL r) (.leaf (.ret, LSt [.junk, .junk, .junk, .junk, .int .i64 ((leftD r))] [])) (.leaf (.exit 0, LSt [.junk] []))
def slices_IndexFunc___impl_Body_impl_Body__impl_AreBodies_1_loop0 (p : List Body × Int) (s : Int) : (Int) ⊕ (Unit) := loopVal (slices_IndexFunc___impl_Body_impl_Body__impl_AreBodies_1_loop0_step p) s
def slices_IndexFunc___impl_Body_impl_Body__impl_AreBodies_1_loop0_ends (p : List Body × Int) (s : Int) : Bool := loopEnds (slices_IndexFunc___impl_Body_impl_Body__impl_AreBodies_1_loop0_step p) s
def slices_IndexFunc___impl_Body_impl_Body__impl_AreBodies_1_loop0_F : LoopF := loopF slices_IndexFunc___impl_Body_impl_Body__impl_AreBodies_1_loop0_step slices_IndexFunc___impl_Body_impl_Body__impl_AreBodies_1_loop0_ext slices_IndexFunc___impl_Body_impl_Body__impl_AreBodies_1_loop0_post
theorem slices_IndexFunc___impl_Body_impl_Body__impl_AreBodies_1_loop0_hext : ∀ S p s fl, slices_IndexFunc___impl_Body_impl_Body__impl_AreBodies_1_loop0_ext S = some (p, s, fl) → Norm S fl ((slices_IndexFunc___impl_Body_impl_Body__impl_AreBodies_1_loop0_L p).tl s) ((slices_IndexFunc___impl_Body_impl_Body__impl_AreBodies_1_loop0_L p).hl s) (slices_IndexFunc___impl_Body_impl_Body__impl_AreBodies_1_loop0_L p).gl := by
  intro S p s fl h
  unfold slices_IndexFunc___impl_Body_impl_Body__impl_AreBodies_1_loop0_ext at h
  (repeat' split at h) <;> first
    | (cases h; constructor <;> simp_all [slices_IndexFunc___impl_Body_impl_Body__impl_AreBodies_1_loop0_L, keepT, keepH, rens, renH, PV.ren, Blk.ren, fOf, lget, nodup, natIn, lenEq, gtm, PV.unK])
    | cases h
theorem slices_IndexFunc___impl_Body_impl_Body__impl_AreBodies_1_loop0_hpost : ∀ p r e S', (slices_IndexFunc___impl_Body_impl_Body__impl_AreBodies_1_loop0_post p r).get = some (e, S') → e = (slices_IndexFunc___impl_Body_impl_Body__impl_AreBodies_1_loop0_L p).ex r ∧ S' = LSt ((slices_IndexFunc___impl_Body_impl_Body__impl_AreBodies_1_loop0_L p).otl r) ((slices_IndexFunc___impl_Body_impl_Body__impl_AreBodies_1_loop0_L p).ohl r) ((slices_IndexFunc___impl_Body_impl_Body__impl_AreBodies_1_loop0_L p).ogl r) := by
  intro p r e S' h
  unfold slices_IndexFunc___impl_Body_impl_Body__impl_AreBodies_1_loop0_post at h
  cases r <;> (simp only [isL, DT.get, Option.some.injEq, Prod.mk.injEq] at h; exact ⟨h.1.symm, h.2.symm⟩)

def slices_IndexFunc___impl_Body_impl_Body__impl_AreBodies_1_loops : Nat → Option LoopF := loopTab [(2, slices_IndexFunc___impl_Body_impl_Body__impl_AreBodies_1_loop0_F)]
set_option maxRecDepth 100000 in
theorem slices_IndexFunc___impl_Body_impl_Body__impl_AreBodies_1_l0 : LoopOK Try.prog ⟨gam [(189, impl_AreBodies_1_c)], tab, 19, slices_IndexFunc___impl_Body_impl_Body__impl_AreBodies_1_loops⟩ (lp Try.f223 0) :=
  loopOK_some (F := slices_IndexFunc___impl_Body_impl_Body__impl_AreBodies_1_loop0_F) (by kernel_rfl) (loopF_ok (E := ⟨gam [(189, impl_AreBodies_1_c)], tab, 19, slices_IndexFunc___impl_Body_impl_Body__impl_AreBodies_1_loops⟩) ⟨gam_cons impl_AreBodies_1_ok (gam_nil), tab_ok, by kernel_rfl⟩ (fuel := 100000) (loopsOK_list (l := []) (by kernel_rfl) trivial) (L := slices_IndexFunc___impl_Body_impl_Body__impl_AreBodies_1_loop0_L) (fun p s => by unfold AgreeL; exact ⟨by kernel_rfl, by kernel_rfl⟩) (fun _ r h => by cases r <;> exact Ex.noConfusion h) slices_IndexFunc___impl_Body_impl_Body__impl_AreBodies_1_loop0_hext slices_IndexFunc___impl_Body_impl_Body__impl_AreBodies_1_loop0_hpost)
/-- slices.IndexFunc[[]loop.example/g01284/impl.Body,loop.example/g01284/impl.Body] -/
def slices_IndexFunc___impl_Body_impl_Body__impl_AreBodies_1_tree (a0 : List Body) : DT (Int) :=
  let x0 := ((List.length a0 : Nat) : Int);
  .need ((slices_IndexFunc___impl_Body_impl_Body__impl_AreBodies_1_loop0_ends (a0, x0) 0)) (
  let x1 := slices_IndexFunc___impl_Body_impl_Body__impl_AreBodies_1_loop0 (a0, x0) 0;
  .ask ((isL x1))
  (
   .leaf ((leftD x1)))
  (
   .leaf (-1)))
def slices_IndexFunc___impl_Body_impl_Body__impl_AreBodies_1 (a0 : List Body) : Int := (slices_IndexFunc___impl_Body_impl_Body__impl_AreBodies_1_tree a0).val
def slices_IndexFunc___impl_Body_impl_Body__impl_AreBodies_1_need (a0 : List Body) : Bool := (slices_IndexFunc___impl_Body_impl_Body__impl_AreBodies_1_tree a0).ok
def slices_IndexFunc___impl_Body_impl_Body__impl_AreBodies_1_mk (p : Int) : Ret := ⟨.int .i64 p, []⟩
def slices_IndexFunc___impl_Body_impl_Body__impl_AreBodies_1_c0 : Con := fun args => match args with
  | [.vslc 1 .body a0, .func (.func 189) [] []] => some (.need (slices_IndexFunc___impl_Body_impl_Body__impl_AreBodies_1_need a0) (.leaf (slices_IndexFunc___impl_Body_impl_Body__impl_AreBodies_1_mk (slices_IndexFunc___impl_Body_impl_Body__impl_AreBodies_1 a0))))
  | _ => none
set_option maxRecDepth 100000 in
theorem slices_IndexFunc___impl_Body_impl_Body__impl_AreBodies_1_ok0 : FunOK Try.prog 223 slices_IndexFunc___impl_Body_impl_Body__impl_AreBodies_1_c0.fn := by
  refine con_ok (Γ := gam [(189, impl_AreBodies_1_c)]) (gam_cons impl_AreBodies_1_ok (gam_nil)) tab_ok (by kernel_rfl) Try.func223 (by kernel_rfl) (by kernel_rfl) Try.ntmps223 Try.results223 (loops := slices_IndexFunc___impl_Body_impl_Body__impl_AreBodies_1_loops) (loopsOK_list (l := [lp Try.f223 0]) (by kernel_rfl) ⟨slices_IndexFunc___impl_Body_impl_Body__impl_AreBodies_1_l0, trivial⟩) 100000 fun args t h => ?_
  unfold slices_IndexFunc___impl_Body_impl_Body__impl_AreBodies_1_c0 at h
  split at h
  · rename_i a0
    cases h
    exact ⟨rfl, agree_need (mk := slices_IndexFunc___impl_Body_impl_Body__impl_AreBodies_1_mk) (t := slices_IndexFunc___impl_Body_impl_Body__impl_AreBodies_1_tree a0) (by unfold Agree; kernel_rfl)⟩
  · cases h
def slices_IndexFunc___impl_Body_impl_Body__impl_AreBodies_1_c : Con := fun args => slices_IndexFunc___impl_Body_impl_Body__impl_AreBodies_1_c0 (norms 0 [.slc .body, .none] args)
set_option maxRecDepth 100000 in
theorem slices_IndexFunc___impl_Body_impl_Body__impl_AreBodies_1_ok : FunOK Try.prog 223 slices_IndexFunc___impl_Body_impl_Body__impl_AreBodies_1_c.fn := con_norm [.slc .body, .none] slices_IndexFunc___impl_Body_impl_Body__impl_AreBodies_1_ok0

/-- slices.ContainsFunc[[]loop.example/g01284/impl.Body,loop.example/g01284/impl.Body] -/
def slices_ContainsFunc___impl_Body_impl_Body__impl_AreBodies_1_tree (a0 : List Body) : DT (Bool) :=
  .need ((slices_IndexFunc___impl_Body_impl_Body__impl_AreBodies_1_need a0 )) (
  let x0 := slices_IndexFunc___impl_Body_impl_Body__impl_AreBodies_1 a0 ;
  let x1 := decide (x0 ≥ 0);
  .leaf x1)
def slices_ContainsFunc___impl_Body_impl_Body__impl_AreBodies_1 (a0 : List Body) : Bool := (slices_ContainsFunc___impl_Body_impl_Body__impl_AreBodies_1_tree a0).val
def slices_ContainsFunc___impl_Body_impl_Body__impl_AreBodies_1_need (a0 : List Body) : Bool := (slices_ContainsFunc___impl_Body_impl_Body__impl_AreBodies_1_tree a0).ok
def slices_ContainsFunc___impl_Body_impl_Body__impl_AreBodies_1_mk (p : Bool) : Ret := ⟨.bool p, []⟩
def slices_ContainsFunc___impl_Body_impl_Body__impl_AreBodies_1_c0 : Con := fun args => match args with
  | [.vslc 1 .body a0, .func (.func 189) [] []] => some (.need (slices_ContainsFunc___impl_Body_impl_Body__impl_AreBodies_1_need a0) (.leaf (slices_ContainsFunc___impl_Body_impl_Body__impl_AreBodies_1_mk (slices_ContainsFunc___impl_Body_impl_Body__impl_AreBodies_1 a0))))
  | _ => none
set_option maxRecDepth 100000 in
theorem slices_ContainsFunc___impl_Body_impl_Body__impl_AreBodies_1_ok0 : FunOK Try.prog 188 slices_ContainsFunc___impl_Body_impl_Body__impl_AreBodies_1_c0.fn := by
  refine con_ok (Γ := gam [(223, slices_IndexFunc___impl_Body_impl_Body__impl_AreBodies_1_c)]) (gam_cons slices_IndexFunc___impl_Body_impl_Body__impl_AreBodies_1_ok (gam_nil)) tab_ok (by kernel_rfl) Try.func188 (by kernel_rfl) (by kernel_rfl) Try.ntmps188 Try.results188 (loopsOK_none rfl _) 100000 fun args t h => ?_
  unfold slices_ContainsFunc___impl_Body_impl_Body__impl_AreBodies_1_c0 at h
  split at h
  · rename_i a0
    cases h
    exact ⟨rfl, agree_need (mk := slices_ContainsFunc___impl_Body_impl_Body__impl_AreBodies_1_mk) (t := slices_ContainsFunc___impl_Body_impl_Body__impl_AreBodies_1_tree a0) (by unfold Agree; kernel_rfl)⟩
  · cases h
def slices_ContainsFunc___impl_Body_impl_Body__impl_AreBodies_1_c : Con := fun args => slices_ContainsFunc___impl_Body_impl_Body__impl_AreBodies_1_c0 (norms 0 [.slc .body, .none] args)
set_option maxRecDepth 100000 in
theorem slices_ContainsFunc___impl_Body_impl_Body__impl_AreBodies_1_ok : FunOK Try.prog 188 slices_ContainsFunc___impl_Body_impl_Body__impl_AreBodies_1_c.fn := con_norm [.slc .body, .none] slices_ContainsFunc___impl_Body_impl_Body__impl_AreBodies_1_ok0

/-- loop.example/g01284/impl.AreBodies -/
def impl_AreBodies_tree (a0 : List Body) : DT (Bool) :=
  let x0 := ((List.length a0 : Nat) : Int);
  let x1 := decide (x0 ≤ 16);
  .ask x1
  (
   .need ((slices_ContainsFunc___impl_Body_impl_Body__impl_AreBodies_1_need a0 )) (
   let x2 := slices_ContainsFunc___impl_Body_impl_Body__impl_AreBodies_1 a0 ;
   .leaf (!x2)))
  (
   .leaf false)
def impl_AreBodies (a0 : List Body) : Bool := (impl_AreBodies_tree a0).val
def impl_AreBodies_need (a0 : List Body) : Bool := (impl_AreBodies_tree a0).ok
def impl_AreBodies_mk (p : Bool) : Ret := ⟨.bool p, []⟩
def impl_AreBodies_c0 : Con := fun args => match args with
  | [.vslc 1 .body a0] => some (.need (impl_AreBodies_need a0) (.leaf (impl_AreBodies_mk (impl_AreBodies a0))))
  | _ => none
set_option maxRecDepth 100000 in
theorem impl_AreBodies_ok0 : FunOK Try.prog 123 impl_AreBodies_c0.fn := by
  refine con_ok (Γ := gam [(188, slices_ContainsFunc___impl_Body_impl_Body__impl_AreBodies_1_c)]) (gam_cons slices_ContainsFunc___impl_Body_impl_Body__impl_AreBodies_1_ok (gam_nil)) tab_ok (by kernel_rfl) Try.func123 (by kernel_rfl) (by kernel_rfl) Try.ntmps123 Try.results123 (loopsOK_none rfl _) 100000 fun args t h => ?_
  unfold impl_AreBodies_c0 at h
  split at h
  · rename_i a0
    cases h
    exact ⟨rfl, agree_need (mk := impl_AreBodies_mk) (t := impl_AreBodies_tree a0) (by unfold Agree; kernel_rfl)⟩
  · cases h
def impl_AreBodies_c : Con := fun args => impl_AreBodies_c0 (norms 0 [.slc .body] args)
set_option maxRecDepth 100000 in
theorem impl_AreBodies_ok : FunOK Try.prog 123 impl_AreBodies_c.fn := con_norm [.slc .body] impl_AreBodies_ok0

/-- loop.example/g01284/impl.asBodies -/
def impl_asBodies_tree (a0 : List Body) : DT ((Unit) ⊕ (List Body)) :=
  .need ((impl_AreBodies_need a0)) (
  let x0 := impl_AreBodies a0;
  .ask (!x0)
  (
   .leaf (.inl ()))
  (
   .leaf (.inr a0)))
def impl_asBodies (a0 : List Body) : (Unit) ⊕ (List Body) := (impl_asBodies_tree a0).val
def impl_asBodies_need (a0 : List Body) : Bool := (impl_asBodies_tree a0).ok
def impl_asBodies_mk0 (p : Unit) : Ret := ⟨.tup [.nils, .bool false], []⟩
def impl_asBodies_mk1 (p : List Body) : Ret := ⟨.tup [.vslc 1 .body p, .bool true], []⟩
def impl_asBodies_mk : (Unit) ⊕ (List Body) → Ret := fun v => match v with
  | (.inl p) => impl_asBodies_mk0 p
  | (.inr p) => impl_asBodies_mk1 p
def impl_asBodies_forms (v : (Unit) ⊕ (List Body)) : DT Ret := .ask (isL v) (.leaf (impl_asBodies_mk0 (leftD v))) (.leaf (impl_asBodies_mk1 (rightD v)))
theorem impl_asBodies_forms_get : ∀ v, (impl_asBodies_forms v).get = some (impl_asBodies_mk v) := by
  intro v
  rcases v with v | v <;> rfl
def impl_asBodies_c0 : Con := fun args => match args with
  | [.vslc 1 .body a0] => some (.need (impl_asBodies_need a0) (impl_asBodies_forms (impl_asBodies a0)))
  | _ => none
set_option maxRecDepth 100000 in
theorem impl_asBodies_ok0 : FunOK Try.prog 109 impl_asBodies_c0.fn := by
  refine con_ok (Γ := gam [(123, impl_AreBodies_c)]) (gam_cons impl_AreBodies_ok (gam_nil)) tab_ok (by kernel_rfl) Try.func109 (by kernel_rfl) (by kernel_rfl) Try.ntmps109 Try.results109 (loopsOK_none rfl _) 100000 fun args t h => ?_
  unfold impl_asBodies_c0 at h
  split at h
  · rename_i a0
    cases h
    exact ⟨rfl, agree_forms (mk := impl_asBodies_mk) (t := impl_asBodies_tree a0) (by unfold Agree; kernel_rfl) (fun h => h) (impl_asBodies_forms_get _)⟩
  · cases h
def impl_asBodies_c : Con := fun args => impl_asBodies_c0 (norms 0 [.slc .body] args)
set_option maxRecDepth 100000 in
theorem impl_asBodies_ok : FunOK Try.prog 109 impl_asBodies_c.fn := con_norm [.slc .body] impl_asBodies_ok0

/-- a loop of impl_PolygonBodies -/
def impl_PolygonBodies_loop0_step (p : Int × Nat × Nat) (s : Nat × Int) : Round (Nat × Int) (Nat) :=
  let x0 := decide (s.2 < p.1);
  .ask x0
  (
   let x1 := fofInt .f32 s.2;
   let x2 := IntKind.wrap .i64 (2 * p.1);
   let x3 := fofInt .f32 x2;
   let x4 := fdiv .f32 x1 x3;
   .need ((impl_SineTurns_need x4)) (
   let x5 := impl_SineTurns x4;
   let x6 := fdiv .f32 1065353216 x5;
   let x7 := fadd .f32 s.1 x6;
   let x8 := IntKind.wrap .i64 (s.2 + 1);
   .leaf (.inl (x7, x8), [])))
  (
   .leaf (.inr s.1, []))
def impl_PolygonBodies_loop0_L (p : Int × Nat × Nat) : LoopS (Nat × Int) (Nat) := { tl := fun s => [.int .i64 p.1, .flt .f32 p.2.1, .flt .f32 p.2.2, .junk, .junk, .junk, .junk, .junk, .flt .f32 s.1, .int .i64 s.2], hl := fun s => [], ex := fun r => .exit 0, otl := fun r => [.int .i64 p.1, .flt .f32 p.2.1, .flt .f32 p.2.2, .junk, .junk, .junk, .junk, .junk, .flt .f32 r], ohl := fun r => [] }
def impl_PolygonBodies_loop0_ext : St → Option ((Int × Nat × Nat) × (Nat × Int) × List Nat) := fun S => match (S.tm 0).unK, (S.tm 1).unK, (S.tm 2).unK, (S.tm 8).unK, (S.tm 9).unK with
  | .int .i64 q0, .flt .f32 q1, .flt .f32 q2, .flt .f32 q3, .int .i64 q4 => some ((q0, q1, q2), (q3, q4), [])
  | _, _, _, _, _ => none
def impl_PolygonBodies_loop0_post (p : Int × Nat × Nat) (r : Nat) : DT (Ex × St) := .leaf (.exit 0, LSt [.int .i64 p.1, .flt .f32 p.2.1, .flt .f32 p.2.2, .junk, .junk, .junk, .junk, .junk, .flt .f32 r] [])
def impl_PolygonBodies_loop0 (p : Int × Nat × Nat) (s : Nat × Int) : Nat := loopVal (impl_PolygonBodies_loop0_step p) s
def impl_PolygonBodies_loop0_ends (p : Int × Nat × Nat) (s : Nat × Int) : Bool := loopEnds (impl_PolygonBodies_loop0_step p) s
def impl_PolygonBodies_loop0_F : LoopF := loopF impl_PolygonBodies_loop0_step impl_PolygonBodies_loop0_ext impl_PolygonBodies_loop0_post
theorem impl_PolygonBodies_loop0_hext : ∀ S p s fl, impl_PolygonBodies_loop0_ext S = some (p, s, fl) → Norm S fl ((impl_PolygonBodies_loop0_L p).tl s) ((impl_PolygonBodies_loop0_L p).hl s) (impl_PolygonBodies_loop0_L p).gl := by
  intro S p s fl h
  unfold impl_PolygonBodies_loop0_ext at h
  (repeat' split at h) <;> first
    | (cases h; constructor <;> simp_all [impl_PolygonBodies_loop0_L, keepT, keepH, rens, renH, PV.ren, Blk.ren, fOf, lget, nodup, natIn, lenEq, gtm, PV.unK])
    | cases h
theorem impl_PolygonBodies_loop0_hpost : ∀ p r e S', (impl_PolygonBodies_loop0_post p r).get = some (e, S') → e = (impl_PolygonBodies_loop0_L p).ex r ∧ S' = LSt ((impl_PolygonBodies_loop0_L p).otl r) ((impl_PolygonBodies_loop0_L p).ohl r) ((impl_PolygonBodies_loop0_L p).ogl r) := by
  intro p r e S' h
  unfold impl_PolygonBodies_loop0_post at h
  simp only [DT.get, Option.some.injEq, Prod.mk.injEq] at h; exact ⟨h.1.symm, h.2.symm⟩

/-- a loop of impl_PolygonBodies -/
def impl_PolygonBodies_loop1_step (p : Int × Nat × Nat × Nat × Int) (s : Int × List Body) : Round (Int × List Body) (List Body) :=
  let x0 := decide (s.1 < p.2.2.2.2);
  .ask x0
  (
   let x1 := fofInt .f32 s.1;
   let x2 := fofInt .f32 p.1;
   let x3 := fdiv .f32 x1 x2;
   let x4 := fadd .f32 x3 1048576000;
   .need ((impl_SineTurns_need x4)) (
   let x5 := impl_SineTurns x4;
   let x6 := fmul .f32 p.2.1 x5;
   .need ((impl_SineTurns_need x3)) (
   let x7 := impl_SineTurns x3;
   let x8 := fmul .f32 p.2.1 x7;
   let x9 := fmul .f32 p.2.2.2.1 x8;
   let x10 := fneg .f32 x9;
   let x11 := fmul .f32 p.2.2.2.1 x6;
   .need ((decide ((List.length s.2 + List.length [(⟨⟨x6, x8, 0⟩, ⟨x10, x11, 0⟩, p.2.2.1⟩ : Body)]) * 28 ≤ 140737488355328) && decide (List.length s.2 + List.length [(⟨⟨x6, x8, 0⟩, ⟨x10, x11, 0⟩, p.2.2.1⟩ : Body)] ≤ 9223372036854775807))) (
   let x12 := s.2 ++ [(⟨⟨x6, x8, 0⟩, ⟨x10, x11, 0⟩, p.2.2.1⟩ : Body)];
   let x13 := IntKind.wrap .i64 (s.1 + 1);
   .leaf (.inl (x13, x12), [281])))))
  (
   .leaf (.inr s.2, [0]))
def impl_PolygonBodies_loop1_L (p : Int × Nat × Nat × Nat × Int) : LoopS (Int × List Body) (List Body) := { tl := fun s => [.int .i64 p.1, .flt .f32 p.2.1, .flt .f32 p.2.2.1, .junk, .junk, .junk, .junk, .junk, .junk, .junk, .flt .f32 p.2.2.2.1, .own 0, .junk, .junk, .junk, .junk, .junk, .junk, .junk, .junk, .junk, .junk, .junk, .junk, .junk, .junk, .junk, .junk, .junk, .junk, .junk, .junk, .junk, .junk, .junk, .junk, .junk, .junk, .junk, .junk, .junk, .junk, .junk, .junk, .junk, .junk, .junk, .junk, .junk, .junk, .junk, .junk, .junk, .junk, .junk, .junk, .int .i64 p.2.2.2.2, .int .i64 s.1], hl := fun s => [some (.typed 132 .body s.2)], ex := fun r => .exit 2, otl := fun r => [.junk, .junk, .junk, .junk, .junk, .junk, .junk, .junk, .junk, .junk, .junk, .own 0], ohl := fun r => [some (.typed 132 .body r)] }
def impl_PolygonBodies_loop1_ext : St → Option ((Int × Nat × Nat × Nat × Int) × (Int × List Body) × List Nat) := fun S => match (S.tm 0).unK, (S.tm 1).unK, (S.tm 2).unK, (S.tm 10).unK, (S.tm 11).unK, (S.tm 56).unK, (S.tm 57).unK with
  | .int .i64 q0, .flt .f32 q1, .flt .f32 q2, .flt .f32 q3, .own i0, .int .i64 q4, .int .i64 q5 => (match S.hp i0 with
    | some (.typed 132 .body q6) => some ((q0, q1, q2, q3, q4), (q5, q6), [i0])
    | _ => none)
  | _, _, _, _, _, _, _ => none
def impl_PolygonBodies_loop1_post (p : Int × Nat × Nat × Nat × Int) (r : List Body) : DT (Ex × St) := .leaf (.exit 2, LSt [.junk, .junk, .junk, .junk, .junk, .junk, .junk, .junk, .junk, .junk, .junk, .own 0] [some (.typed 132 .body r)])
def impl_PolygonBodies_loop1 (p : Int × Nat × Nat × Nat × Int) (s : Int × List Body) : List Body := loopVal (impl_PolygonBodies_loop1_step p) s
def impl_PolygonBodies_loop1_ends (p : Int × Nat × Nat × Nat × Int) (s : Int × List Body) : Bool := loopEnds (impl_PolygonBodies_loop1_step p) s
def impl_PolygonBodies_loop1_F : LoopF := loopF impl_PolygonBodies_loop1_step impl_PolygonBodies_loop1_ext impl_PolygonBodies_loop1_post
theorem impl_PolygonBodies_loop1_hext : ∀ S p s fl, impl_PolygonBodies_loop1_ext S = some (p, s, fl) → Norm S fl ((impl_PolygonBodies_loop1_L p).tl s) ((impl_PolygonBodies_loop1_L p).hl s) (impl_PolygonBodies_loop1_L p).gl := by
  intro S p s fl h
  unfold impl_PolygonBodies_loop1_ext at h
  (repeat' split at h) <;> first
    | (cases h; constructor <;> simp_all [impl_PolygonBodies_loop1_L, keepT, keepH, rens, renH, PV.ren, Blk.ren, fOf, lget, nodup, natIn, lenEq, gtm, PV.unK])
    | cases h
theorem impl_PolygonBodies_loop1_hpost : ∀ p r e S', (impl_PolygonBodies_loop1_post p r).get = some (e, S') → e = (impl_PolygonBodies_loop1_L p).ex r ∧ S' = LSt ((impl_PolygonBodies_loop1_L p).otl r) ((impl_PolygonBodies_loop1_L p).ohl r) ((impl_PolygonBodies_loop1_L p).ogl r) := by
  intro p r e S' h
  unfold impl_PolygonBodies_loop1_post at h
  simp only [DT.get, Option.some.injEq, Prod.mk.injEq] at h; exact ⟨h.1.symm, h.2.symm⟩

def impl_PolygonBodies_loops : Nat → Option LoopF := loopTab [(5, impl_PolygonBodies_loop0_F), (11, impl_PolygonBodies_loop1_F)]
set_option maxRecDepth 100000 in
theorem impl_PolygonBodies_l1 : LoopOK Try.prog ⟨gam [(105, impl_within_c), (106, impl_aLength_c), (107, impl_aMass_c), (108, impl_SineTurns_c), (93, impl_RootNumber_c), (109, impl_asBodies_c)], tab, 95, impl_PolygonBodies_loops⟩ (lp Try.f30 1) :=
  loopOK_some (F := impl_PolygonBodies_loop1_F) (by kernel_rfl) (loopF_ok (E := ⟨gam [(105, impl_within_c), (106, impl_aLength_c), (107, impl_aMass_c), (108, impl_SineTurns_c), (93, impl_RootNumber_c), (109, impl_asBodies_c)], tab, 95, impl_PolygonBodies_loops⟩) ⟨gam_cons impl_within_ok (gam_cons impl_aLength_ok (gam_cons impl_aMass_ok (gam_cons impl_SineTurns_ok (gam_cons impl_RootNumber_ok (gam_cons impl_asBodies_ok (gam_nil)))))), tab_ok, by kernel_rfl⟩ (fuel := 100000) (loopsOK_list (l := []) (by kernel_rfl) trivial) (L := impl_PolygonBodies_loop1_L) (fun p s => by unfold AgreeL; exact ⟨by kernel_rfl, by kernel_rfl⟩) (fun _ _ h => Ex.noConfusion h) impl_PolygonBodies_loop1_hext impl_PolygonBodies_loop1_hpost)
set_option maxRecDepth 100000 in
theorem impl_PolygonBodies_l0 : LoopOK Try.prog ⟨gam [(105, impl_within_c), (106, impl_aLength_c), (107, impl_aMass_c), (108, impl_SineTurns_c), (93, impl_RootNumber_c), (109, impl_asBodies_c)], tab, 95, impl_PolygonBodies_loops⟩ (lp Try.f30 0) :=
  loopOK_some (F := impl_PolygonBodies_loop0_F) (by kernel_rfl) (loopF_ok (E := ⟨gam [(105, impl_within_c), (106, impl_aLength_c), (107, impl_aMass_c), (108, impl_SineTurns_c), (93, impl_RootNumber_c), (109, impl_asBodies_c)], tab, 95, impl_PolygonBodies_loops⟩) ⟨gam_cons impl_within_ok (gam_cons impl_aLength_ok (gam_cons impl_aMass_ok (gam_cons impl_SineTurns_ok (gam_cons impl_RootNumber_ok (gam_cons impl_asBodies_ok (gam_nil)))))), tab_ok, by kernel_rfl⟩ (fuel := 100000) (loopsOK_list (l := []) (by kernel_rfl) trivial) (L := impl_PolygonBodies_loop0_L) (fun p s => by unfold AgreeL; exact ⟨by kernel_rfl, by kernel_rfl⟩) (fun _ _ h => Ex.noConfusion h) impl_PolygonBodies_loop0_hext impl_PolygonBodies_loop0_hpost)
/-- loop.example/g01284/impl.PolygonBodies -/
def impl_PolygonBodies_tree (a0 : Int) (a1 : Nat) (a2 : Nat) : DT ((Unit) ⊕ (List Body)) :=
  let x0 := impl_within a0 2 16;
  .ask (!x0)
  (
   .leaf (.inl ()))
  (
   .need ((impl_aLength_need a1)) (
   let x1 := impl_aLength a1;
   .ask (!x1)
   (
    .leaf (.inl ()))
   (
    .need ((impl_aMass_need a2)) (
    let x2 := impl_aMass a2;
    .ask (!x2)
    (
     .leaf (.inl ()))
    (
     .need ((impl_PolygonBodies_loop0_ends (a0, a1, a2) (0, 1))) (
     let x3 := impl_PolygonBodies_loop0 (a0, a1, a2) (0, 1);
     let x4 := fmul .f32 a2 x3;
     let x5 := fmul .f32 1082130432 a1;
     let x6 := fmul .f32 x5 a1;
     let x7 := fmul .f32 x6 a1;
     let x8 := fdiv .f32 x4 x7;
     .need ((impl_RootNumber_need x8)) (
     let x9 := impl_RootNumber x8;
     .need ((impl_PolygonBodies_loop1_ends (a0, a1, a2, x9, a0) (0, []))) (
     let x10 := impl_PolygonBodies_loop1 (a0, a1, a2, x9, a0) (0, []);
     .need ((impl_asBodies_need x10)) (
     let x11 := impl_asBodies x10;
     .ask ((isL x11))
     (
      .leaf (.inl ()))
     (
      .leaf (.inr x10)))))))))))
def impl_PolygonBodies (a0 : Int) (a1 : Nat) (a2 : Nat) : (Unit) ⊕ (List Body) := (impl_PolygonBodies_tree a0 a1 a2).val
def impl_PolygonBodies_need (a0 : Int) (a1 : Nat) (a2 : Nat) : Bool := (impl_PolygonBodies_tree a0 a1 a2).ok
def impl_PolygonBodies_mk0 (p : Unit) : Ret := ⟨.tup [.nils, .bool false], []⟩
def impl_PolygonBodies_mk1 (p : List Body) : Ret := ⟨.tup [.own 0, .bool true], [.typed 132 .body p]⟩
def impl_PolygonBodies_mk : (Unit) ⊕ (List Body) → Ret := fun v => match v with
  | (.inl p) => impl_PolygonBodies_mk0 p
  | (.inr p) => impl_PolygonBodies_mk1 p
def impl_PolygonBodies_forms (v : (Unit) ⊕ (List Body)) : DT Ret := .ask (isL v) (.leaf (impl_PolygonBodies_mk0 (leftD v))) (.leaf (impl_PolygonBodies_mk1 (rightD v)))
theorem impl_PolygonBodies_forms_get : ∀ v, (impl_PolygonBodies_forms v).get = some (impl_PolygonBodies_mk v) := by
  intro v
  rcases v with v | v <;> rfl
def impl_PolygonBodies_c : Con := fun args => match args with
  | [.int .i64 a0, .flt .f32 a1, .flt .f32 a2] => some (.need (impl_PolygonBodies_need a0 a1 a2) (impl_PolygonBodies_forms (impl_PolygonBodies a0 a1 a2)))
  | _ => none
set_option maxRecDepth 100000 in
theorem impl_PolygonBodies_ok : FunOK Try.prog 30 impl_PolygonBodies_c.fn := by
  refine con_ok (Γ := gam [(105, impl_within_c), (106, impl_aLength_c), (107, impl_aMass_c), (108, impl_SineTurns_c), (93, impl_RootNumber_c), (109, impl_asBodies_c)]) (gam_cons impl_within_ok (gam_cons impl_aLength_ok (gam_cons impl_aMass_ok (gam_cons impl_SineTurns_ok (gam_cons impl_RootNumber_ok (gam_cons impl_asBodies_ok (gam_nil))))))) tab_ok (by kernel_rfl) Try.func30 (by kernel_rfl) (by kernel_rfl) Try.ntmps30 Try.results30 (loops := impl_PolygonBodies_loops) (loopsOK_list (l := [lp Try.f30 0, lp Try.f30 1]) (by kernel_rfl) ⟨impl_PolygonBodies_l0, ⟨impl_PolygonBodies_l1, trivial⟩⟩) 100000 fun args t h => ?_
  unfold impl_PolygonBodies_c at h
  split at h
  · rename_i a0 a1 a2
    cases h
    exact ⟨rfl, agree_forms (mk := impl_PolygonBodies_mk) (t := impl_PolygonBodies_tree a0 a1 a2) (by unfold Agree; kernel_rfl) (fun h => h) (impl_PolygonBodies_forms_get _)⟩
  · cases h

/-- loop.example/g01284/laws.eqVector -/
def laws_eqVector_tree (a0 : Vec) (a1 : Vec) : DT (Bool) :=
  .need ((fconvOk .f32 a0.X .f64)) (
  let x0 := fconv .f32 a0.X .f64;
  .need ((fconvOk .f32 a1.X .f64)) (
  let x1 := fconv .f32 a1.X .f64;
  let x2 := laws_sameFloat x0 x1;
  .ask (!x2)
  (
   .leaf false)
  (
   .need ((fconvOk .f32 a0.Y .f64)) (
   let x3 := fconv .f32 a0.Y .f64;
   .need ((fconvOk .f32 a1.Y .f64)) (
   let x4 := fconv .f32 a1.Y .f64;
   let x5 := laws_sameFloat x3 x4;
   .ask (!x5)
   (
    .leaf false)
   (
    .need ((fconvOk .f32 a0.Z .f64)) (
    let x6 := fconv .f32 a0.Z .f64;
    .need ((fconvOk .f32 a1.Z .f64)) (
    let x7 := fconv .f32 a1.Z .f64;
    let x8 := laws_sameFloat x6 x7;
    .ask (!x8)
    (
     .leaf false)
    (
     .leaf true)))))))))
def laws_eqVector (a0 : Vec) (a1 : Vec) : Bool := (laws_eqVector_tree a0 a1).val
def laws_eqVector_need (a0 : Vec) (a1 : Vec) : Bool := (laws_eqVector_tree a0 a1).ok
def laws_eqVector_mk (p : Bool) : Ret := ⟨.bool p, []⟩
def laws_eqVector_c : Con := fun args => match args with
  | [.agg [.flt .f32 a0_0, .flt .f32 a0_1, .flt .f32 a0_2], .agg [.flt .f32 a1_0, .flt .f32 a1_1, .flt .f32 a1_2]] => some (.need (laws_eqVector_need (⟨a0_0, a0_1, a0_2⟩ : Vec) (⟨a1_0, a1_1, a1_2⟩ : Vec)) (.leaf (laws_eqVector_mk (laws_eqVector (⟨a0_0, a0_1, a0_2⟩ : Vec) (⟨a1_0, a1_1, a1_2⟩ : Vec)))))
  | _ => none
set_option maxRecDepth 100000 in
theorem laws_eqVector_ok : FunOK Try.prog 178 laws_eqVector_c.fn := by
  refine con_ok (Γ := gam [(23, laws_sameFloat_c)]) (gam_cons laws_sameFloat_ok (gam_nil)) tab_ok (by kernel_rfl) Try.func178 (by kernel_rfl) (by kernel_rfl) Try.ntmps178 Try.results178 (loopsOK_none rfl _) 100000 fun args t h => ?_
  unfold laws_eqVector_c at h
  split at h
  · rename_i a0_0 a0_1 a0_2 a1_0 a1_1 a1_2
    cases h
    exact ⟨rfl, agree_need (mk := laws_eqVector_mk) (t := laws_eqVector_tree (⟨a0_0, a0_1, a0_2⟩ : Vec) (⟨a1_0, a1_1, a1_2⟩ : Vec)) (by unfold Agree; kernel_rfl)⟩
  · cases h

/-- loop.example/g01284/laws.eqBody -/
def laws_eqBody_tree (a0 : Body) (a1 : Body) : DT (Bool) :=
  .need ((laws_eqVector_need (⟨a0.At.X, a0.At.Y, a0.At.Z⟩ : Vec) (⟨a1.At.X, a1.At.Y, a1.At.Z⟩ : Vec))) (
  let x0 := laws_eqVector (⟨a0.At.X, a0.At.Y, a0.At.Z⟩ : Vec) (⟨a1.At.X, a1.At.Y, a1.At.Z⟩ : Vec);
  .ask (!x0)
  (
   .leaf false)
  (
   .need ((laws_eqVector_need (⟨a0.Speed.X, a0.Speed.Y, a0.Speed.Z⟩ : Vec) (⟨a1.Speed.X, a1.Speed.Y, a1.Speed.Z⟩ : Vec))) (
   let x1 := laws_eqVector (⟨a0.Speed.X, a0.Speed.Y, a0.Speed.Z⟩ : Vec) (⟨a1.Speed.X, a1.Speed.Y, a1.Speed.Z⟩ : Vec);
   .ask (!x1)
   (
    .leaf false)
   (
    .need ((fconvOk .f32 a0.Mass .f64)) (
    let x2 := fconv .f32 a0.Mass .f64;
    .need ((fconvOk .f32 a1.Mass .f64)) (
    let x3 := fconv .f32 a1.Mass .f64;
    let x4 := laws_sameFloat x2 x3;
    .ask (!x4)
    (
     .leaf false)
    (
     .leaf true)))))))
def laws_eqBody (a0 : Body) (a1 : Body) : Bool := (laws_eqBody_tree a0 a1).val
def laws_eqBody_need (a0 : Body) (a1 : Body) : Bool := (laws_eqBody_tree a0 a1).ok
def laws_eqBody_mk (p : Bool) : Ret := ⟨.bool p, []⟩
def laws_eqBody_c : Con := fun args => match args with
  | [.agg [.flt .f32 a0_0, .flt .f32 a0_1, .flt .f32 a0_2, .flt .f32 a0_3, .flt .f32 a0_4, .flt .f32 a0_5, .flt .f32 a0_6], .agg [.flt .f32 a1_0, .flt .f32 a1_1, .flt .f32 a1_2, .flt .f32 a1_3, .flt .f32 a1_4, .flt .f32 a1_5, .flt .f32 a1_6]] => some (.need (laws_eqBody_need (⟨⟨a0_0, a0_1, a0_2⟩, ⟨a0_3, a0_4, a0_5⟩, a0_6⟩ : Body) (⟨⟨a1_0, a1_1, a1_2⟩, ⟨a1_3, a1_4, a1_5⟩, a1_6⟩ : Body)) (.leaf (laws_eqBody_mk (laws_eqBody (⟨⟨a0_0, a0_1, a0_2⟩, ⟨a0_3, a0_4, a0_5⟩, a0_6⟩ : Body) (⟨⟨a1_0, a1_1, a1_2⟩, ⟨a1_3, a1_4, a1_5⟩, a1_6⟩ : Body)))))
  | _ => none
set_option maxRecDepth 100000 in
theorem laws_eqBody_ok : FunOK Try.prog 110 laws_eqBody_c.fn := by
  refine con_ok (Γ := gam [(178, laws_eqVector_c), (23, laws_sameFloat_c)]) (gam_cons laws_eqVector_ok (gam_cons laws_sameFloat_ok (gam_nil))) tab_ok (by kernel_rfl) Try.func110 (by kernel_rfl) (by kernel_rfl) Try.ntmps110 Try.results110 (loopsOK_none rfl _) 100000 fun args t h => ?_
  unfold laws_eqBody_c at h
  split at h
  · rename_i a0_0 a0_1 a0_2 a0_3 a0_4 a0_5 a0_6 a1_0 a1_1 a1_2 a1_3 a1_4 a1_5 a1_6
    cases h
    exact ⟨rfl, agree_need (mk := laws_eqBody_mk) (t := laws_eqBody_tree (⟨⟨a0_0, a0_1, a0_2⟩, ⟨a0_3, a0_4, a0_5⟩, a0_6⟩ : Body) (⟨⟨a1_0, a1_1, a1_2⟩, ⟨a1_3, a1_4, a1_5⟩, a1_6⟩ : Body)) (by unfold Agree; kernel_rfl)⟩
  · cases h

/-- a loop of laws_eqBodyS -/
def laws_eqBodyS_loop0_step (p : List Body × List Body) (s : Int) : Round (Int) ((Unit) ⊕ (Unit)) :=
  let x0 := ((List.length p.1 : Nat) : Int);
  let x1 := decide (s < x0);
  .ask x1
  (
   .need ((decide (0 ≤ s) && decide (s < ((List.length p.1 : Nat) : Int)))) (
   let x2 := List.getD p.1 (Int.toNat s) default;
   .need ((decide (0 ≤ s) && decide (s < ((List.length p.2 : Nat) : Int)))) (
   let x3 := List.getD p.2 (Int.toNat s) default;
   .need ((laws_eqBody_need (⟨⟨x2.At.X, x2.At.Y, x2.At.Z⟩, ⟨x2.Speed.X, x2.Speed.Y, x2.Speed.Z⟩, x2.Mass⟩ : Body) (⟨⟨x3.At.X, x3.At.Y, x3.At.Z⟩, ⟨x3.Speed.X, x3.Speed.Y, x3.Speed.Z⟩, x3.Mass⟩ : Body))) (
   let x4 := laws_eqBody (⟨⟨x2.At.X, x2.At.Y, x2.At.Z⟩, ⟨x2.Speed.X, x2.Speed.Y, x2.Speed.Z⟩, x2.Mass⟩ : Body) (⟨⟨x3.At.X, x3.At.Y, x3.At.Z⟩, ⟨x3.Speed.X, x3.Speed.Y, x3.Speed.Z⟩, x3.Mass⟩ : Body);
   .ask (!x4)
   (
    .leaf (.inr (.inl ()), []))
   (
    let x5 := IntKind.wrap .i64 (s + 1);
    .leaf (.inl x5, []))))))
  (
   .leaf (.inr (.inr ()), []))
def laws_eqBodyS_loop0_L (p : List Body × List Body) : LoopS (Int) ((Unit) ⊕ (Unit)) := { tl := fun s => [.vslc 1 .body p.1, .vslc 2 .body p.2, .junk, .junk, .junk, .int .i64 s], hl := fun s => [], ex := fun r => match r with | .inl r => .ret | .inr r => .exit 0, otl := fun r => match r with | .inl r => [.junk, .junk, .junk, .junk, .bool false] | .inr r => [.junk], ohl := fun r => match r with | .inl r => [] | .inr r => [] }
def laws_eqBodyS_loop0_ext : St → Option ((List Body × List Body) × (Int) × List Nat) := fun S => match (S.tm 0).unK, (S.tm 1).unK, (S.tm 5).unK with
  | .vslc 1 .body q0, .vslc 2 .body q1, .int .i64 q2 => some ((q0, q1), q2, [])
  | _, _, _ => none
def laws_eqBodyS_loop0_post (p : List Body × List Body) (r : (Unit) ⊕ (Unit)) : DT (Ex × St) := .ask (isL r) (.leaf (.ret, LSt [.junk, .junk, .junk, .junk, .bool false] [])) (.leaf (.exit 0, LSt [.junk] []))
def laws_eqBodyS_loop0 (p : List Body × List Body) (s : Int) : (Unit) ⊕ (Unit) := loopVal (laws_eqBodyS_loop0_step p) s
def laws_eqBodyS_loop0_ends (p : List Body × List Body) (s : Int) : Bool := loopEnds (laws_eqBodyS_loop0_step p) s
def laws_eqBodyS_loop0_F : LoopF := loopF laws_eqBodyS_loop0_step laws_eqBodyS_loop0_ext laws_eqBodyS_loop0_post
theorem laws_eqBodyS_loop0_hext : ∀ S p s fl, laws_eqBodyS_loop0_ext S = some (p, s, fl) → Norm S fl ((laws_eqBodyS_loop0_L p).tl s) ((laws_eqBodyS_loop0_L p).hl s) (laws_eqBodyS_loop0_L p).gl := by
  intro S p s fl h
  unfold laws_eqBodyS_loop0_ext at h
  (repeat' split at h) <;> first
    | (cases h; constructor <;> simp_all [laws_eqBodyS_loop0_L, keepT, keepH, rens, renH, PV.ren, Blk.ren, fOf, lget, nodup, natIn, lenEq, gtm, PV.unK])
    | cases h
theorem laws_eqBodyS_loop0_hpost : ∀ p r e S', (laws_eqBodyS_loop0_post p r).get = some (e, S') → e = (laws_eqBodyS_loop0_L p).ex r ∧ S' = LSt ((laws_eqBodyS_loop0_L p).otl r) ((laws_eqBodyS_loop0_L p).ohl r) ((laws_eqBodyS_loop0_L p).ogl r) := by
  intro p r e S' h
  unfold laws_eqBodyS_loop0_post at h
  cases r <;> (simp only [isL, DT.get, Option.some.injEq, Prod.mk.injEq] at h; exact ⟨h.1.symm, h.2.symm⟩)

def laws_eqBodyS_loops : Nat → Option LoopF := loopTab [(4, laws_eqBodyS_loop0_F)]
set_option maxRecDepth 100000 in
theorem laws_eqBodyS_l0 : LoopOK Try.prog ⟨gam [(110, laws_eqBody_c)], tab, 27, laws_eqBodyS_loops⟩ (lp Try.f31 0) :=
  loopOK_some (F := laws_eqBodyS_loop0_F) (by kernel_rfl) (loopF_ok (E := ⟨gam [(110, laws_eqBody_c)], tab, 27, laws_eqBodyS_loops⟩) ⟨gam_cons laws_eqBody_ok (gam_nil), tab_ok, by kernel_rfl⟩ (fuel := 100000) (loopsOK_list (l := []) (by kernel_rfl) trivial) (L := laws_eqBodyS_loop0_L) (fun p s => by unfold AgreeL; exact ⟨by kernel_rfl, by kernel_rfl⟩) (fun _ r h => by cases r <;> exact Ex.noConfusion h) laws_eqBodyS_loop0_hext laws_eqBodyS_loop0_hpost)
/-- loop.example/g01284/laws.eqBodyS -/
def laws_eqBodyS_tree (a0 : List Body) (a1 : List Body) : DT (Bool) :=
  let x0 := ((List.length a0 : Nat) : Int);
  let x1 := ((List.length a1 : Nat) : Int);
  let x2 := (x0 != x1);
  .ask x2
  (
   .leaf false)
  (
   .need ((laws_eqBodyS_loop0_ends (a0, a1) 0)) (
   let x3 := laws_eqBodyS_loop0 (a0, a1) 0;
   .ask ((isL x3))
   (
    .leaf false)
   (
    .leaf true)))
def laws_eqBodyS (a0 : List Body) (a1 : List Body) : Bool := (laws_eqBodyS_tree a0 a1).val
def laws_eqBodyS_need (a0 : List Body) (a1 : List Body) : Bool := (laws_eqBodyS_tree a0 a1).ok
def laws_eqBodyS_mk (p : Bool) : Ret := ⟨.bool p, []⟩
def laws_eqBodyS_c0 : Con := fun args => match args with
  | [.vslc 1 .body a0, .vslc 2 .body a1] => some (.need (laws_eqBodyS_need a0 a1) (.leaf (laws_eqBodyS_mk (laws_eqBodyS a0 a1))))
  | _ => none
set_option maxRecDepth 100000 in
theorem laws_eqBodyS_ok0 : FunOK Try.prog 31 laws_eqBodyS_c0.fn := by
  refine con_ok (Γ := gam [(110, laws_eqBody_c)]) (gam_cons laws_eqBody_ok (gam_nil)) tab_ok (by kernel_rfl) Try.func31 (by kernel_rfl) (by kernel_rfl) Try.ntmps31 Try.results31 (loops := laws_eqBodyS_loops) (loopsOK_list (l := [lp Try.f31 0]) (by kernel_rfl) ⟨laws_eqBodyS_l0, trivial⟩) 100000 fun args t h => ?_
  unfold laws_eqBodyS_c0 at h
  split at h
  · rename_i a0 a1
    cases h
    exact ⟨rfl, agree_need (mk := laws_eqBodyS_mk) (t := laws_eqBodyS_tree a0 a1) (by unfold Agree; kernel_rfl)⟩
  · cases h
def laws_eqBodyS_c : Con := fun args => laws_eqBodyS_c0 (norms 0 [.slc .body, .slc .body] args)
set_option maxRecDepth 100000 in
theorem laws_eqBodyS_ok : FunOK Try.prog 31 laws_eqBodyS_c.fn := con_norm [.slc .body, .slc .body] laws_eqBodyS_ok0

/-- a loop of laws_markBodyS -/
def laws_markBodyS_loop0_step (p : Unit) (s : Int × Int × List Body) : Round (Int × Int × List Body) (Int × List Body) :=
  let x0 := ((List.length s.2.2 : Nat) : Int);
  let x1 := decide (s.2.1 < x0);
  .ask x1
  (
   let x2 := fofInt .f32 s.1;
   .need ((decide (0 ≤ s.2.1) && decide (s.2.1 < ((List.length s.2.2 : Nat) : Int)))) (
   .need ((decide ((Int.toNat s.2.1) < List.length s.2.2))) (
   let x3 := List.set s.2.2 (Int.toNat s.2.1) (⟨⟨x2, (List.getD s.2.2 (Int.toNat s.2.1) default).At.Y, (List.getD s.2.2 (Int.toNat s.2.1) default).At.Z⟩, ⟨(List.getD s.2.2 (Int.toNat s.2.1) default).Speed.X, (List.getD s.2.2 (Int.toNat s.2.1) default).Speed.Y, (List.getD s.2.2 (Int.toNat s.2.1) default).Speed.Z⟩, (List.getD s.2.2 (Int.toNat s.2.1) default).Mass⟩ : Body);
   let x4 := IntKind.wrap .i64 (s.1 + 1);
   let x5 := fofInt .f32 x4;
   .need ((decide (0 ≤ s.2.1) && decide (s.2.1 < ((List.length x3 : Nat) : Int)))) (
   .need ((decide ((Int.toNat s.2.1) < List.length x3))) (
   let x6 := List.set x3 (Int.toNat s.2.1) (⟨⟨(List.getD x3 (Int.toNat s.2.1) default).At.X, x5, (List.getD x3 (Int.toNat s.2.1) default).At.Z⟩, ⟨(List.getD x3 (Int.toNat s.2.1) default).Speed.X, (List.getD x3 (Int.toNat s.2.1) default).Speed.Y, (List.getD x3 (Int.toNat s.2.1) default).Speed.Z⟩, (List.getD x3 (Int.toNat s.2.1) default).Mass⟩ : Body);
   let x7 := IntKind.wrap .i64 (x4 + 1);
   let x8 := fofInt .f32 x7;
   .need ((decide (0 ≤ s.2.1) && decide (s.2.1 < ((List.length x6 : Nat) : Int)))) (
   .need ((decide ((Int.toNat s.2.1) < List.length x6))) (
   let x9 := List.set x6 (Int.toNat s.2.1) (⟨⟨(List.getD x6 (Int.toNat s.2.1) default).At.X, (List.getD x6 (Int.toNat s.2.1) default).At.Y, x8⟩, ⟨(List.getD x6 (Int.toNat s.2.1) default).Speed.X, (List.getD x6 (Int.toNat s.2.1) default).Speed.Y, (List.getD x6 (Int.toNat s.2.1) default).Speed.Z⟩, (List.getD x6 (Int.toNat s.2.1) default).Mass⟩ : Body);
   let x10 := IntKind.wrap .i64 (x7 + 1);
   let x11 := fofInt .f32 x10;
   .need ((decide (0 ≤ s.2.1) && decide (s.2.1 < ((List.length x9 : Nat) : Int)))) (
   .need ((decide ((Int.toNat s.2.1) < List.length x9))) (
   let x12 := List.set x9 (Int.toNat s.2.1) (⟨⟨(List.getD x9 (Int.toNat s.2.1) default).At.X, (List.getD x9 (Int.toNat s.2.1) default).At.Y, (List.getD x9 (Int.toNat s.2.1) default).At.Z⟩, ⟨x11, (List.getD x9 (Int.toNat s.2.1) default).Speed.Y, (List.getD x9 (Int.toNat s.2.1) default).Speed.Z⟩, (List.getD x9 (Int.toNat s.2.1) default).Mass⟩ : Body);
   let x13 := IntKind.wrap .i64 (x10 + 1);
   let x14 := fofInt .f32 x13;
   .need ((decide (0 ≤ s.2.1) && decide (s.2.1 < ((List.length x12 : Nat) : Int)))) (
   .need ((decide ((Int.toNat s.2.1) < List.length x12))) (
   let x15 := List.set x12 (Int.toNat s.2.1) (⟨⟨(List.getD x12 (Int.toNat s.2.1) default).At.X, (List.getD x12 (Int.toNat s.2.1) default).At.Y, (List.getD x12 (Int.toNat s.2.1) default).At.Z⟩, ⟨(List.getD x12 (Int.toNat s.2.1) default).Speed.X, x14, (List.getD x12 (Int.toNat s.2.1) default).Speed.Z⟩, (List.getD x12 (Int.toNat s.2.1) default).Mass⟩ : Body);
   let x16 := IntKind.wrap .i64 (x13 + 1);
   let x17 := fofInt .f32 x16;
   .need ((decide (0 ≤ s.2.1) && decide (s.2.1 < ((List.length x15 : Nat) : Int)))) (
   .need ((decide ((Int.toNat s.2.1) < List.length x15))) (
   let x18 := List.set x15 (Int.toNat s.2.1) (⟨⟨(List.getD x15 (Int.toNat s.2.1) default).At.X, (List.getD x15 (Int.toNat s.2.1) default).At.Y, (List.getD x15 (Int.toNat s.2.1) default).At.Z⟩, ⟨(List.getD x15 (Int.toNat s.2.1) default).Speed.X, (List.getD x15 (Int.toNat s.2.1) default).Speed.Y, x17⟩, (List.getD x15 (Int.toNat s.2.1) default).Mass⟩ : Body);
   let x19 := IntKind.wrap .i64 (x16 + 1);
   let x20 := fofInt .f32 x19;
   .need ((decide (0 ≤ s.2.1) && decide (s.2.1 < ((List.length x18 : Nat) : Int)))) (
   .need ((decide ((Int.toNat s.2.1) < List.length x18))) (
   let x21 := List.set x18 (Int.toNat s.2.1) (⟨⟨(List.getD x18 (Int.toNat s.2.1) default).At.X, (List.getD x18 (Int.toNat s.2.1) default).At.Y, (List.getD x18 (Int.toNat s.2.1) default).At.Z⟩, ⟨(List.getD x18 (Int.toNat s.2.1) default).Speed.X, (List.getD x18 (Int.toNat s.2.1) default).Speed.Y, (List.getD x18 (Int.toNat s.2.1) default).Speed.Z⟩, x20⟩ : Body);
   let x22 := IntKind.wrap .i64 (x19 + 1);
   let x23 := IntKind.wrap .i64 (s.2.1 + 1);
   .leaf (.inl (x22, x23, x21), [0]))))))))))))))))
  (
   .leaf (.inr (s.1, s.2.2), [0]))
def laws_markBodyS_loop0_L (p : Unit) : LoopS (Int × Int × List Body) (Int × List Body) := { tl := fun s => [.own 0, .int .i64 s.1, .junk, .junk, .junk, .int .i64 s.2.1], hl := fun s => [some (.typed 132 .body s.2.2)], ex := fun r => .exit 0, otl := fun r => [.junk, .int .i64 r.1], ohl := fun r => [some (.typed 132 .body r.2)], gl := [.own 0], ogl := fun _ => [.own 0] }
def laws_markBodyS_loop0_ext : St → Option ((Unit) × (Int × Int × List Body) × List Nat) := fun S => match (S.tm 0).unK, (S.tm 1).unK, (S.tm 5).unK with
  | .own i0, .int .i64 q0, .int .i64 q1 => (match S.gs with
    | [.own g0] => if g0 = i0 then (match S.hp i0 with
    | some (.typed 132 .body q2) => some ((), (q0, q1, q2), [i0])
    | _ => none) else none
    | _ => none)
  | _, _, _ => none
def laws_markBodyS_loop0_post (p : Unit) (r : Int × List Body) : DT (Ex × St) := .leaf (.exit 0, LSt [.junk, .int .i64 r.1] [some (.typed 132 .body r.2)] [.own 0])
def laws_markBodyS_loop0 (p : Unit) (s : Int × Int × List Body) : Int × List Body := loopVal (laws_markBodyS_loop0_step p) s
def laws_markBodyS_loop0_ends (p : Unit) (s : Int × Int × List Body) : Bool := loopEnds (laws_markBodyS_loop0_step p) s
def laws_markBodyS_loop0_F : LoopF := loopF laws_markBodyS_loop0_step laws_markBodyS_loop0_ext laws_markBodyS_loop0_post
theorem laws_markBodyS_loop0_hext : ∀ S p s fl, laws_markBodyS_loop0_ext S = some (p, s, fl) → Norm S fl ((laws_markBodyS_loop0_L p).tl s) ((laws_markBodyS_loop0_L p).hl s) (laws_markBodyS_loop0_L p).gl := by
  intro S p s fl h
  unfold laws_markBodyS_loop0_ext at h
  (repeat' split at h) <;> first
    | (cases h; constructor <;> simp_all [laws_markBodyS_loop0_L, keepT, keepH, rens, renH, PV.ren, Blk.ren, fOf, lget, nodup, natIn, lenEq, gtm, PV.unK])
    | cases h
theorem laws_markBodyS_loop0_hpost : ∀ p r e S', (laws_markBodyS_loop0_post p r).get = some (e, S') → e = (laws_markBodyS_loop0_L p).ex r ∧ S' = LSt ((laws_markBodyS_loop0_L p).otl r) ((laws_markBodyS_loop0_L p).ohl r) ((laws_markBodyS_loop0_L p).ogl r) := by
  intro p r e S' h
  unfold laws_markBodyS_loop0_post at h
  simp only [DT.get, Option.some.injEq, Prod.mk.injEq] at h; exact ⟨h.1.symm, h.2.symm⟩

def laws_markBodyS_loops : Nat → Option LoopF := loopTab [(2, laws_markBodyS_loop0_F)]
set_option maxRecDepth 100000 in
theorem laws_markBodyS_l0 : LoopOK Try.prog ⟨gam [], tab, 75, laws_markBodyS_loops⟩ (lp Try.f32 0) :=
  loopOK_some (F := laws_markBodyS_loop0_F) (by kernel_rfl) (loopF_ok (E := ⟨gam [], tab, 75, laws_markBodyS_loops⟩) ⟨gam_nil, tab_ok, by kernel_rfl⟩ (fuel := 100000) (loopsOK_list (l := []) (by kernel_rfl) trivial) (L := laws_markBodyS_loop0_L) (fun p s => by unfold AgreeL; exact ⟨by kernel_rfl, by kernel_rfl⟩) (fun _ _ h => Ex.noConfusion h) laws_markBodyS_loop0_hext laws_markBodyS_loop0_hpost)
/-- loop.example/g01284/laws.markBodyS -/
def laws_markBodyS_tree (a0 : List Body) (a1 : Int) : DT (Int × List Body) :=
  .need ((laws_markBodyS_loop0_ends () (a1, 0, a0))) (
  let x0 := laws_markBodyS_loop0 () (a1, 0, a0);
  .leaf (x0.1, x0.2))
def laws_markBodyS (a0 : List Body) (a1 : Int) : Int × List Body := (laws_markBodyS_tree a0 a1).val
def laws_markBodyS_need (a0 : List Body) (a1 : Int) : Bool := (laws_markBodyS_tree a0 a1).ok
def laws_markBodyS_mk (p : Int × List Body) : PV × List (.body : UC).T := (.int .i64 p.1, p.2)
def laws_markBodyS_M : MCon := ⟨132, .body, fun a0 ps => match ps with
  | [.int .i64 a1] => some (.need (laws_markBodyS_need a0 a1) (.leaf (laws_markBodyS_mk (laws_markBodyS a0 a1))))
  | _ => none⟩
set_option maxRecDepth 100000 in
theorem laws_markBodyS_ok : MutOK Try.prog 32 laws_markBodyS_M := by
  refine mut_ok (Γ := gam []) (gam_nil) tab_ok (by kernel_rfl) Try.func32 (by kernel_rfl) (by kernel_rfl) Try.ntmps32 Try.results32 (loops := laws_markBodyS_loops) (loopsOK_list (l := [lp Try.f32 0]) (by kernel_rfl) ⟨laws_markBodyS_l0, trivial⟩) 100000 fun a0 ps t h => ?_
  simp only [laws_markBodyS_M] at h
  split at h
  · rename_i a1
    cases h
    exact ⟨rfl, agreeM_need (mk := laws_markBodyS_mk) (t := laws_markBodyS_tree a0 a1) (by unfold AgreeM; kernel_rfl)⟩
  · cases h

/-- a loop of laws_heldBodyS -/
def laws_heldBodyS_loop0_step (p : List Body) (s : Int × Int) : Round (Int × Int) ((Int) ⊕ (Int)) :=
  let x0 := ((List.length p : Nat) : Int);
  let x1 := decide (s.2 < x0);
  .ask x1
  (
   .need ((decide (0 ≤ s.2) && decide (s.2 < ((List.length p : Nat) : Int)))) (
   let x2 := List.getD p (Int.toNat s.2) default;
   let x3 := fofInt .f32 s.1;
   let x4 := fne .f32 x2.At.X x3;
   .ask x4
   (
    .leaf (.inr (.inl (-1)), []))
   (
    let x5 := IntKind.wrap .i64 (s.1 + 1);
    .need ((decide (0 ≤ s.2) && decide (s.2 < ((List.length p : Nat) : Int)))) (
    let x6 := List.getD p (Int.toNat s.2) default;
    let x7 := fofInt .f32 x5;
    let x8 := fne .f32 x6.At.Y x7;
    .ask x8
    (
     .leaf (.inr (.inl (-1)), []))
    (
     let x9 := IntKind.wrap .i64 (x5 + 1);
     .need ((decide (0 ≤ s.2) && decide (s.2 < ((List.length p : Nat) : Int)))) (
     let x10 := List.getD p (Int.toNat s.2) default;
     let x11 := fofInt .f32 x9;
     let x12 := fne .f32 x10.At.Z x11;
     .ask x12
     (
      .leaf (.inr (.inl (-1)), []))
     (
      let x13 := IntKind.wrap .i64 (x9 + 1);
      .need ((decide (0 ≤ s.2) && decide (s.2 < ((List.length p : Nat) : Int)))) (
      let x14 := List.getD p (Int.toNat s.2) default;
      let x15 := fofInt .f32 x13;
      let x16 := fne .f32 x14.Speed.X x15;
      .ask x16
      (
       .leaf (.inr (.inl (-1)), []))
      (
       let x17 := IntKind.wrap .i64 (x13 + 1);
       .need ((decide (0 ≤ s.2) && decide (s.2 < ((List.length p : Nat) : Int)))) (
       let x18 := List.getD p (Int.toNat s.2) default;
       let x19 := fofInt .f32 x17;
       let x20 := fne .f32 x18.Speed.Y x19;
       .ask x20
       (
        .leaf (.inr (.inl (-1)), []))
       (
        let x21 := IntKind.wrap .i64 (x17 + 1);
        .need ((decide (0 ≤ s.2) && decide (s.2 < ((List.length p : Nat) : Int)))) (
        let x22 := List.getD p (Int.toNat s.2) default;
        let x23 := fofInt .f32 x21;
        let x24 := fne .f32 x22.Speed.Z x23;
        .ask x24
        (
         .leaf (.inr (.inl (-1)), []))
        (
         let x25 := IntKind.wrap .i64 (x21 + 1);
         .need ((decide (0 ≤ s.2) && decide (s.2 < ((List.length p : Nat) : Int)))) (
         let x26 := List.getD p (Int.toNat s.2) default;
         let x27 := fofInt .f32 x25;
         let x28 := fne .f32 x26.Mass x27;
         .ask x28
         (
          .leaf (.inr (.inl (-1)), []))
         (
          let x29 := IntKind.wrap .i64 (x25 + 1);
          let x30 := IntKind.wrap .i64 (s.2 + 1);
          .leaf (.inl (x29, x30), []))))))))))))))))
  (
   .leaf (.inr (.inr s.1), []))
def laws_heldBodyS_loop0_L (p : List Body) : LoopS (Int × Int) ((Int) ⊕ (Int)) := { tl := fun s => [.vslc 1 .body p, .int .i64 s.1, .junk, .junk, .junk, .int .i64 s.2], hl := fun s => [], ex := fun r => match r with | .inl r => .ret | .inr r => .exit 0, otl := fun r => match r with | .inl r => [.junk, .junk, .junk, .junk, .int .i64 r] | .inr r => [.junk, .int .i64 r], ohl := fun r => match r with | .inl r => [] | .inr r => [] }
def laws_heldBodyS_loop0_ext : St → Option ((List Body) × (Int × Int) × List Nat) := fun S => match (S.tm 0).unK, (S.tm 1).unK, (S.tm 5).unK with
  | .vslc 1 .body q0, .int .i64 q1, .int .i64 q2 => some (q0, (q1, q2), [])
  | _, _, _ => none
def laws_heldBodyS_loop0_post (p : List Body) (r : (Int) ⊕ (Int)) : DT (Ex × St) := .ask (isL r) (.leaf (.ret, LSt [.junk, .junk, .junk, .junk, .int .i64 ((leftD r))] [])) (.leaf (.exit 0, LSt [.junk, .int .i64 ((rightD r))] []))
def laws_heldBodyS_loop0 (p : List Body) (s : Int × Int) : (Int) ⊕ (Int) := loopVal (laws_heldBodyS_loop0_step p) s
def laws_heldBodyS_loop0_ends (p : List Body) (s : Int × Int) : Bool := loopEnds (laws_heldBodyS_loop0_step p) s
def laws_heldBodyS_loop0_F : LoopF := loopF laws_heldBodyS_loop0_step laws_heldBodyS_loop0_ext laws_heldBodyS_loop0_post
theorem laws_heldBodyS_loop0_hext : ∀ S p s fl, laws_heldBodyS_loop0_ext S = some (p, s, fl) → Norm S fl ((laws_heldBodyS_loop0_L p).tl s) ((laws_heldBodyS_loop0_L p).hl s) (laws_heldBodyS_loop0_L p).gl := by
  intro S p s fl h
  unfold laws_heldBodyS_loop0_ext at h
  (repeat' split at h) <;> first
    | (cases h; constructor <;> simp_all [laws_heldBodyS_loop0_L, keepT, keepH, rens, renH, PV.ren, Blk.ren, fOf, lget, nodup, natIn, lenEq, gtm, PV.unK])
    | cases h
theorem laws_heldBodyS_loop0_hpost : ∀ p r e S', (laws_heldBodyS_loop0_post p r).get = some (e, S') → e = (laws_heldBodyS_loop0_L p).ex r ∧ S' = LSt ((laws_heldBodyS_loop0_L p).otl r) ((laws_heldBodyS_loop0_L p).ohl r) ((laws_heldBodyS_loop0_L p).ogl r) := by
  intro p r e S' h
  unfold laws_heldBodyS_loop0_post at h
  cases r <;> (simp only [isL, DT.get, Option.some.injEq, Prod.mk.injEq] at h; exact ⟨h.1.symm, h.2.symm⟩)

def laws_heldBodyS_loops : Nat → Option LoopF := loopTab [(2, laws_heldBodyS_loop0_F)]
set_option maxRecDepth 100000 in
theorem laws_heldBodyS_l0 : LoopOK Try.prog ⟨gam [], tab, 89, laws_heldBodyS_loops⟩ (lp Try.f33 0) :=
  loopOK_some (F := laws_heldBodyS_loop0_F) (by kernel_rfl) (loopF_ok (E := ⟨gam [], tab, 89, laws_heldBodyS_loops⟩) ⟨gam_nil, tab_ok, by kernel_rfl⟩ (fuel := 100000) (loopsOK_list (l := []) (by kernel_rfl) trivial) (L := laws_heldBodyS_loop0_L) (fun p s => by unfold AgreeL; exact ⟨by kernel_rfl, by kernel_rfl⟩) (fun _ r h => by cases r <;> exact Ex.noConfusion h) laws_heldBodyS_loop0_hext laws_heldBodyS_loop0_hpost)
/-- loop.example/g01284/laws.heldBodyS -/
def laws_heldBodyS_tree (a0 : List Body) (a1 : Int) : DT (Int) :=
  .need ((laws_heldBodyS_loop0_ends a0 (a1, 0))) (
  let x0 := laws_heldBodyS_loop0 a0 (a1, 0);
  .ask ((isL x0))
  (
   .leaf ((leftD x0)))
  (
   .leaf ((rightD x0))))
def laws_heldBodyS (a0 : List Body) (a1 : Int) : Int := (laws_heldBodyS_tree a0 a1).val
def laws_heldBodyS_need (a0 : List Body) (a1 : Int) : Bool := (laws_heldBodyS_tree a0 a1).ok
def laws_heldBodyS_mk (p : Int) : Ret := ⟨.int .i64 p, []⟩
def laws_heldBodyS_c0 : Con := fun args => match args with
  | [.vslc 1 .body a0, .int .i64 a1] => some (.need (laws_heldBodyS_need a0 a1) (.leaf (laws_heldBodyS_mk (laws_heldBodyS a0 a1))))
  | _ => none
set_option maxRecDepth 100000 in
theorem laws_heldBodyS_ok0 : FunOK Try.prog 33 laws_heldBodyS_c0.fn := by
  refine con_ok (Γ := gam []) (gam_nil) tab_ok (by kernel_rfl) Try.func33 (by kernel_rfl) (by kernel_rfl) Try.ntmps33 Try.results33 (loops := laws_heldBodyS_loops) (loopsOK_list (l := [lp Try.f33 0]) (by kernel_rfl) ⟨laws_heldBodyS_l0, trivial⟩) 100000 fun args t h => ?_
  unfold laws_heldBodyS_c0 at h
  split at h
  · rename_i a0 a1
    cases h
    exact ⟨rfl, agree_need (mk := laws_heldBodyS_mk) (t := laws_heldBodyS_tree a0 a1) (by unfold Agree; kernel_rfl)⟩
  · cases h
def laws_heldBodyS_c : Con := fun args => laws_heldBodyS_c0 (norms 0 [.slc .body, .none] args)
set_option maxRecDepth 100000 in
theorem laws_heldBodyS_ok : FunOK Try.prog 33 laws_heldBodyS_c.fn := con_norm [.slc .body, .none] laws_heldBodyS_ok0

/-- loop.example/g01284/laws.FnExactPolygonBodies -/
def laws_FnExactPolygonBodies_tree (a0 : Int) (a1 : Nat) (a2 : Nat) : DT (Bool) :=
  .need ((spec_PolygonBodies_need a0 a1 a2)) (
  let x0 := spec_PolygonBodies a0 a1 a2;
  .ask ((isL x0))
  (
   .need ((impl_PolygonBodies_need a0 a1 a2)) (
   let x1 := impl_PolygonBodies a0 a1 a2;
   .ask ((isL x1))
   (
    .need ((laws_eqBodyS_need [] [])) (
    let x2 := laws_eqBodyS [] [];
    .ask (!x2)
    (
     .leaf false)
    (
     .skip (
     .need ((laws_markBodyS_need [] 1)) (
     let x3 := laws_markBodyS [] 1;
     .need ((laws_heldBodyS_need [] 1)) (
     let x4 := laws_heldBodyS [] 1;
     let x5 := decide (x4 < 0);
     .ask x5
     (
      .leaf false)
     (
      let x6 := (x4 != x3.1);
      .ask x6
      (
       .leaf false)
      (
       .need ((impl_PolygonBodies_need a0 a1 a2)) (
       let x7 := impl_PolygonBodies a0 a1 a2;
       .ask ((isL x7))
       (
        .need ((laws_eqBodyS_need [] [])) (
        let x8 := laws_eqBodyS [] [];
        .ask (!x8)
        (
         .leaf false)
        (
         .skip (
         .need ((laws_heldBodyS_need [] 1)) (
         let x9 := laws_heldBodyS [] 1;
         let x10 := decide (x9 < 0);
         .ask x10
         (
          .leaf false)
         (
          let x11 := (x9 != x3.1);
          .ask x11
          (
           .leaf false)
          (
           .leaf true)))))))
       (
        .need ((laws_eqBodyS_need ((rightD x7)) [])) (
        let x8 := laws_eqBodyS ((rightD x7)) [];
        .ask (!x8)
        (
         .leaf false)
        (
         .skip (
         .leaf false)))))))))))))
   (
    .need ((laws_eqBodyS_need ((rightD x1)) [])) (
    let x2 := laws_eqBodyS ((rightD x1)) [];
    .ask (!x2)
    (
     .leaf false)
    (
     .skip (
     .leaf false))))))
  (
   .need ((impl_PolygonBodies_need a0 a1 a2)) (
   let x1 := impl_PolygonBodies a0 a1 a2;
   .ask ((isL x1))
   (
    .need ((laws_eqBodyS_need [] ((rightD x0)))) (
    let x2 := laws_eqBodyS [] ((rightD x0));
    .ask (!x2)
    (
     .leaf false)
    (
     .skip (
     .leaf false))))
   (
    .need ((laws_eqBodyS_need ((rightD x1)) ((rightD x0)))) (
    let x2 := laws_eqBodyS ((rightD x1)) ((rightD x0));
    .ask (!x2)
    (
     .leaf false)
    (
     .skip (
     .need ((laws_markBodyS_need ((rightD x1)) 1)) (
     let x3 := laws_markBodyS ((rightD x1)) 1;
     .need ((laws_heldBodyS_need x3.2 1)) (
     let x4 := laws_heldBodyS x3.2 1;
     let x5 := decide (x4 < 0);
     .ask x5
     (
      .leaf false)
     (
      let x6 := (x4 != x3.1);
      .ask x6
      (
       .leaf false)
      (
       .need ((impl_PolygonBodies_need a0 a1 a2)) (
       let x7 := impl_PolygonBodies a0 a1 a2;
       .ask ((isL x7))
       (
        .need ((laws_eqBodyS_need [] ((rightD x0)))) (
        let x8 := laws_eqBodyS [] ((rightD x0));
        .ask (!x8)
        (
         .leaf false)
        (
         .skip (
         .leaf false))))
       (
        .need ((laws_eqBodyS_need ((rightD x7)) ((rightD x0)))) (
        let x8 := laws_eqBodyS ((rightD x7)) ((rightD x0));
        .ask (!x8)
        (
         .leaf false)
        (
         .skip (
         .need ((laws_heldBodyS_need x3.2 1)) (
         let x9 := laws_heldBodyS x3.2 1;
         let x10 := decide (x9 < 0);
         .ask x10
         (
          .leaf false)
         (
          let x11 := (x9 != x3.1);
          .ask x11
          (
           .leaf false)
          (
           .leaf true)))))))))))))))))))
def laws_FnExactPolygonBodies (a0 : Int) (a1 : Nat) (a2 : Nat) : Bool := (laws_FnExactPolygonBodies_tree a0 a1 a2).val
def laws_FnExactPolygonBodies_need (a0 : Int) (a1 : Nat) (a2 : Nat) : Bool := (laws_FnExactPolygonBodies_tree a0 a1 a2).ok
def laws_FnExactPolygonBodies_mk (p : Bool) : Ret := ⟨.bool p, []⟩
def laws_FnExactPolygonBodies_c : Con := fun args => match args with
  | [.int .i64 a0, .flt .f32 a1, .flt .f32 a2] => some (.need (laws_FnExactPolygonBodies_need a0 a1 a2) (.leaf (laws_FnExactPolygonBodies_mk (laws_FnExactPolygonBodies a0 a1 a2))))
  | _ => none
set_option maxRecDepth 100000 in
theorem laws_FnExactPolygonBodies_ok : FunOK Try.prog 6 laws_FnExactPolygonBodies_c.fn := by
  refine con_ok (Γ := gam [(29, spec_PolygonBodies_c), (30, impl_PolygonBodies_c), (31, laws_eqBodyS_c), (33, laws_heldBodyS_c)] [(32, laws_markBodyS_M)]) (gam_cons spec_PolygonBodies_ok (gam_cons impl_PolygonBodies_ok (gam_cons laws_eqBodyS_ok (gam_cons laws_heldBodyS_ok (gam_mut laws_markBodyS_ok (gam_nil)))))) tab_ok (by kernel_rfl) Try.func6 (by kernel_rfl) (by kernel_rfl) Try.ntmps6 Try.results6 (loopsOK_none rfl _) 100000 fun args t h => ?_
  unfold laws_FnExactPolygonBodies_c at h
  split at h
  · rename_i a0 a1 a2
    cases h
    exact ⟨rfl, agree_need (mk := laws_FnExactPolygonBodies_mk) (t := laws_FnExactPolygonBodies_tree a0 a1 a2) (by unfold Agree; kernel_rfl)⟩
  · cases h

end
end Go.Proofs.Ytodhhjcgjkfmpaa
