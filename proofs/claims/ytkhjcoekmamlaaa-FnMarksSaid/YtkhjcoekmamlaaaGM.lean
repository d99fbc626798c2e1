/- THE WALK, BY A PROGRAM: typed functions, and that the code is they. -/
import Derived.Test.YtkhjcoekmamlaaaGMa
namespace Go.Proofs.Ytkhjcoekmamlaaa
set_option linter.unusedVariables false
set_option linter.unusedSimpArgs false
open Go.Extern
noncomputable section

/-- loop.example/g01284/laws.FnMarks -/
def laws_FnMarks_tree (a0 : List Int) (a1 : List Int) : DT (Bool) :=
  let x0 := laws_r8Long a0 a1;
  .ask x0
  (
   .leaf true)
  (
   .need ((spec_R8Ball_need a0)) (
   let x1 := spec_R8Ball a0;
   .need ((spec_R8Mark_need a1)) (
   let x2 := spec_R8Mark a1;
   .need ((laws_r8At_need a1 40 65)) (
   let x3 := laws_r8At a1 40 65;
   let x4 := IntKind.wrap .i64 (x3 - 32);
   let x5 := fofInt .f32 x4;
   let x6 := fdiv .f32 x5 1090519040;
   .need ((impl_PlaceOf_need (⟨x1.Mass, x1.Radius, x1.Spin, x1.Start⟩ : Ball) (⟨x2.North, x2.East, x2.High⟩ : Mark) x6)) (
   let x7 := impl_PlaceOf (⟨x1.Mass, x1.Radius, x1.Spin, x1.Start⟩ : Ball) (⟨x2.North, x2.East, x2.High⟩ : Mark) x6;
   .need ((impl_MarkOf_need (⟨x1.Mass, x1.Radius, x1.Spin, x1.Start⟩ : Ball) (⟨x7.1.X, x7.1.Y, x7.1.Z⟩ : Vec) x6)) (
   let x8 := impl_MarkOf (⟨x1.Mass, x1.Radius, x1.Spin, x1.Start⟩ : Ball) (⟨x7.1.X, x7.1.Y, x7.1.Z⟩ : Vec) x6;
   .ask (!x7.2)
   (
    .leaf false)
   (
    .ask (!x8.2)
    (
     .leaf false)
    (
     .need ((fconvOk .f32 x8.1.North .f64)) (
     let x9 := fconv .f32 x8.1.North .f64;
     .need ((fconvOk .f32 x2.North .f64)) (
     let x10 := fconv .f32 x2.North .f64;
     .need ((laws_r8Gap_need x9 x10)) (
     let x11 := laws_r8Gap x9 x10;
     let x12 := fgt .f64 x11 4547007122018943789;
     .ask x12
     (
      .leaf false)
     (
      .need ((laws_r8Turn_need x8.1.East x2.East)) (
      let x13 := laws_r8Turn x8.1.East x2.East;
      let x14 := fgt .f64 x13 4562254508917369340;
      .ask x14
      (
       .leaf false)
      (
       .need ((fconvOk .f32 x8.1.High .f64)) (
       let x15 := fconv .f32 x8.1.High .f64;
       .need ((fconvOk .f32 x2.High .f64)) (
       let x16 := fconv .f32 x2.High .f64;
       .need ((laws_r8Gap_need x15 x16)) (
       let x17 := laws_r8Gap x15 x16;
       let x18 := fgt .f64 x17 4562254508917369340;
       .ask x18
       (
        .leaf false)
       (
        .need ((impl_SizeOfVector_need (⟨x7.1.X, x7.1.Y, x7.1.Z⟩ : Vec))) (
        let x19 := impl_SizeOfVector (⟨x7.1.X, x7.1.Y, x7.1.Z⟩ : Vec);
        .need ((fconvOk .f32 x19 .f64)) (
        let x20 := fconv .f32 x19 .f64;
        let x21 := fadd .f32 x1.Radius x2.High;
        .need ((fconvOk .f32 x21 .f64)) (
        let x22 := fconv .f32 x21 .f64;
        .need ((laws_r8Gap_need x20 x22)) (
        let x23 := laws_r8Gap x20 x22;
        let x24 := fgt .f64 x23 4562254508917369340;
        .ask x24
        (
         .leaf false)
        (
         .need ((spec_R8Mark_need a0)) (
         let x25 := spec_R8Mark a0;
         .need ((impl_ArcBetween_need (⟨x2.North, x2.East, x2.High⟩ : Mark) (⟨x25.North, x25.East, x25.High⟩ : Mark))) (
         let x26 := impl_ArcBetween (⟨x2.North, x2.East, x2.High⟩ : Mark) (⟨x25.North, x25.East, x25.High⟩ : Mark);
         .need ((impl_ArcBetween_need (⟨x25.North, x25.East, x25.High⟩ : Mark) (⟨x2.North, x2.East, x2.High⟩ : Mark))) (
         let x27 := impl_ArcBetween (⟨x25.North, x25.East, x25.High⟩ : Mark) (⟨x2.North, x2.East, x2.High⟩ : Mark);
         .need ((impl_ArcBetween_need (⟨x2.North, x2.East, x2.High⟩ : Mark) (⟨x2.North, x2.East, x2.High⟩ : Mark))) (
         let x28 := impl_ArcBetween (⟨x2.North, x2.East, x2.High⟩ : Mark) (⟨x2.North, x2.East, x2.High⟩ : Mark);
         .ask (!x26.2)
         (
          .leaf false)
         (
          .ask (!x27.2)
          (
           .leaf false)
          (
           .ask (!x28.2)
           (
            .leaf false)
           (
            .need ((fconvOk .f32 x26.1 .f64)) (
            let x29 := fconv .f32 x26.1 .f64;
            .need ((fconvOk .f32 x27.1 .f64)) (
            let x30 := fconv .f32 x27.1 .f64;
            .need ((laws_r8Gap_need x29 x30)) (
            let x31 := laws_r8Gap x29 x30;
            let x32 := fgt .f64 x31 4562254508917369340;
            .ask x32
            (
             .leaf false)
            (
             let x33 := flt .f32 x26.1 0;
             .ask x33
             (
              .leaf false)
             (
              .need ((fconvOk .f32 x26.1 .f64)) (
              let x34 := fconv .f32 x26.1 .f64;
              let x35 := fgt .f64 x34 4602687826371901653;
              .ask x35
              (
               .leaf false)
              (
               .need ((fconvOk .f32 x28.1 .f64)) (
               let x36 := fconv .f32 x28.1 .f64;
               let x37 := fgt .f64 x36 4562254508917369340;
               .ask x37
               (
                .leaf false)
               (
                let x38 := fadd .f32 x2.High 1065353216;
                .need ((impl_PlaceOf_need (⟨x1.Mass, x1.Radius, x1.Spin, x1.Start⟩ : Ball) (⟨x2.North, x2.East, x38⟩ : Mark) x6)) (
                let x39 := impl_PlaceOf (⟨x1.Mass, x1.Radius, x1.Spin, x1.Start⟩ : Ball) (⟨x2.North, x2.East, x38⟩ : Mark) x6;
                .need ((impl_RiseAt_need (⟨x1.Mass, x1.Radius, x1.Spin, x1.Start⟩ : Ball) (⟨x2.North, x2.East, 0⟩ : Mark) (⟨x39.1.X, x39.1.Y, x39.1.Z⟩ : Vec) x6)) (
                let x40 := impl_RiseAt (⟨x1.Mass, x1.Radius, x1.Spin, x1.Start⟩ : Ball) (⟨x2.North, x2.East, 0⟩ : Mark) (⟨x39.1.X, x39.1.Y, x39.1.Z⟩ : Vec) x6;
                .need ((impl_RiseAt_need (⟨x1.Mass, x1.Radius, x1.Spin, x1.Start⟩ : Ball) (⟨x2.North, x2.East, 0⟩ : Mark) (⟨0, 0, 0⟩ : Vec) x6)) (
                let x41 := impl_RiseAt (⟨x1.Mass, x1.Radius, x1.Spin, x1.Start⟩ : Ball) (⟨x2.North, x2.East, 0⟩ : Mark) (⟨0, 0, 0⟩ : Vec) x6;
                .need ((impl_HorizonOf_need (⟨x1.Mass, x1.Radius, x1.Spin, x1.Start⟩ : Ball) x2.High)) (
                let x42 := impl_HorizonOf (⟨x1.Mass, x1.Radius, x1.Spin, x1.Start⟩ : Ball) x2.High;
                .need ((impl_HorizonOf_need (⟨x1.Mass, x1.Radius, x1.Spin, x1.Start⟩ : Ball) x38)) (
                let x43 := impl_HorizonOf (⟨x1.Mass, x1.Radius, x1.Spin, x1.Start⟩ : Ball) x38;
                .need ((laws_r8At_need a1 41 129)) (
                let x44 := laws_r8At a1 41 129;
                let x45 := IntKind.wrap .i64 (x44 - 64);
                let x46 := fofInt .f32 x45;
                let x47 := fdiv .f32 x46 1098907648;
                .need ((impl_WrapTurn_need x47)) (
                let x48 := impl_WrapTurn x47;
                let x49 := fadd .f32 x47 1065353216;
                .need ((impl_WrapTurn_need x49)) (
                let x50 := impl_WrapTurn x49;
                .ask x39.2
                (
                 .ask x40.2
                 (
                  .ask x41.2
                  (
                   .ask x42.2
                   (
                    .ask x43.2
                    (
                     .ask x48.2
                     (
                      .ask x50.2
                      (
                       .need ((fconvOk .f32 x40.1 .f64)) (
                       let x51 := fconv .f32 x40.1 .f64;
                       .need ((laws_r8Gap_need x51 4607182418800017408)) (
                       let x52 := laws_r8Gap x51 4607182418800017408;
                       let x53 := flt .f64 x52 4562254508917369340;
                       .ask x53
                       (
                        .need ((fconvOk .f32 x41.1 .f64)) (
                        let x54 := fconv .f32 x41.1 .f64;
                        .need ((laws_r8Gap_need x54 13830554455654793216)) (
                        let x55 := laws_r8Gap x54 13830554455654793216;
                        let x56 := flt .f64 x55 4562254508917369340;
                        .ask x56
                        (
                         let x57 := fge .f32 x42.1 0;
                         .ask x57
                         (
                          let x58 := fgt .f32 x43.1 x42.1;
                          .ask x58
                          (
                           .need ((fconvOk .f32 x43.1 .f64)) (
                           let x59 := fconv .f32 x43.1 .f64;
                           let x60 := flt .f64 x59 4598175219545276416;
                           .ask x60
                           (
                            let x61 := fge .f32 x48.1 3204448256;
                            .ask x61
                            (
                             let x62 := flt .f32 x48.1 1056964608;
                             .ask x62
                             (
                              let x63 := feq .f32 x48.1 x50.1;
                              .leaf x63)
                             (
                              .leaf false))
                            (
                             .leaf false))
                           (
                            .leaf false)))
                          (
                           .leaf false))
                         (
                          .leaf false))
                        (
                         .leaf false))))
                       (
                        .leaf false))))
                      (
                       .leaf false))
                     (
                      .leaf false))
                    (
                     .leaf false))
                   (
                    .leaf false))
                  (
                   .leaf false))
                 (
                  .leaf false))
                (
                 .leaf false))))))))))))))))))))))))))))))))))))))))))))))))
def laws_FnMarks (a0 : List Int) (a1 : List Int) : Bool := (laws_FnMarks_tree a0 a1).val
def laws_FnMarks_need (a0 : List Int) (a1 : List Int) : Bool := (laws_FnMarks_tree a0 a1).ok
def laws_FnMarks_mk (p : Bool) : Ret := ⟨.bool p, []⟩
def laws_FnMarks_c0 : Con := fun args => match args with
  | [.vslc 1 (.int .u8) a0, .vslc 2 (.int .u8) a1] => some (.need (laws_FnMarks_need a0 a1) (.leaf (laws_FnMarks_mk (laws_FnMarks a0 a1))))
  | _ => none
theorem agree_cut {α : Type} {E : Env} {fuel : Nat} {x : Code} {rs : List ResultVar} {args : List PV} {mk : α → Ret} {l : List (Hs × α)} (n : Nat) (h1 : Agree E fuel x rs args mk (l.take n)) (h2 : Agree E fuel x rs args mk (l.drop n)) : Agree E fuel x rs args mk l := by
  have h3 : Agree E fuel x rs args mk (l.take n ++ l.drop n) := by
    unfold Agree at *
    rw [List.map_append, List.map_append, h1, h2]
  rwa [List.take_append_drop] at h3
def laws_FnMarks_env : Env := ⟨gam [(5, laws_r8Long_c), (6, spec_R8Ball_c), (7, spec_R8Mark_c), (8, laws_r8At_c), (9, impl_PlaceOf_c), (10, impl_MarkOf_c), (11, laws_r8Gap_c), (12, laws_r8Turn_c), (13, impl_SizeOfVector_c), (14, impl_ArcBetween_c), (15, impl_RiseAt_c), (16, impl_HorizonOf_c), (17, impl_WrapTurn_c)], tab, 279, noLoops⟩
set_option maxRecDepth 100000 in
theorem laws_FnMarks_part0 (a0 a1 : List Int) : Agree laws_FnMarks_env 100000 (bodyOf Try.f3) Try.f3.results.toList [.vslc 1 (.int .u8) a0, .vslc 2 (.int .u8) a1] laws_FnMarks_mk ((laws_FnMarks_tree a0 a1).leaves.take 8) := by unfold Agree; kernel_rfl
set_option maxRecDepth 100000 in
theorem laws_FnMarks_part1 (a0 a1 : List Int) : Agree laws_FnMarks_env 100000 (bodyOf Try.f3) Try.f3.results.toList [.vslc 1 (.int .u8) a0, .vslc 2 (.int .u8) a1] laws_FnMarks_mk (((laws_FnMarks_tree a0 a1).leaves.drop 8).take 8) := by unfold Agree; kernel_rfl
set_option maxRecDepth 100000 in
theorem laws_FnMarks_part2 (a0 a1 : List Int) : Agree laws_FnMarks_env 100000 (bodyOf Try.f3) Try.f3.results.toList [.vslc 1 (.int .u8) a0, .vslc 2 (.int .u8) a1] laws_FnMarks_mk (((laws_FnMarks_tree a0 a1).leaves.drop 16).take 8) := by unfold Agree; kernel_rfl
set_option maxRecDepth 100000 in
theorem laws_FnMarks_part3 (a0 a1 : List Int) : Agree laws_FnMarks_env 100000 (bodyOf Try.f3) Try.f3.results.toList [.vslc 1 (.int .u8) a0, .vslc 2 (.int .u8) a1] laws_FnMarks_mk ((laws_FnMarks_tree a0 a1).leaves.drop 24) := by unfold Agree; kernel_rfl
theorem laws_FnMarks_parts (a0 a1 : List Int) : Agree laws_FnMarks_env 100000 (bodyOf Try.f3) Try.f3.results.toList [.vslc 1 (.int .u8) a0, .vslc 2 (.int .u8) a1] laws_FnMarks_mk (laws_FnMarks_tree a0 a1).leaves := by
  refine agree_cut 8 (laws_FnMarks_part0 a0 a1) ?_
  refine agree_cut 8 (laws_FnMarks_part1 a0 a1) ?_
  rw [List.drop_drop]
  refine agree_cut 8 (laws_FnMarks_part2 a0 a1) ?_
  rw [List.drop_drop]
  exact laws_FnMarks_part3 a0 a1
set_option maxRecDepth 100000 in
theorem laws_FnMarks_ok0 : FunOK Try.prog 3 laws_FnMarks_c0.fn := by
  refine con_ok (Γ := gam [(5, laws_r8Long_c), (6, spec_R8Ball_c), (7, spec_R8Mark_c), (8, laws_r8At_c), (9, impl_PlaceOf_c), (10, impl_MarkOf_c), (11, laws_r8Gap_c), (12, laws_r8Turn_c), (13, impl_SizeOfVector_c), (14, impl_ArcBetween_c), (15, impl_RiseAt_c), (16, impl_HorizonOf_c), (17, impl_WrapTurn_c)]) (gam_cons laws_r8Long_ok (gam_cons spec_R8Ball_ok (gam_cons spec_R8Mark_ok (gam_cons laws_r8At_ok (gam_cons impl_PlaceOf_ok (gam_cons impl_MarkOf_ok (gam_cons laws_r8Gap_ok (gam_cons laws_r8Turn_ok (gam_cons impl_SizeOfVector_ok (gam_cons impl_ArcBetween_ok (gam_cons impl_RiseAt_ok (gam_cons impl_HorizonOf_ok (gam_cons impl_WrapTurn_ok (gam_nil)))))))))))))) tab_ok (by kernel_rfl) Try.func3 (by kernel_rfl) (by kernel_rfl) Try.ntmps3 rfl (loopsOK_none rfl _) 100000 fun args t h => ?_
  unfold laws_FnMarks_c0 at h
  split at h
  · rename_i a0 a1
    cases h
    exact ⟨rfl, agree_need (mk := laws_FnMarks_mk) (t := laws_FnMarks_tree a0 a1) (laws_FnMarks_parts a0 a1)⟩
  · cases h
def laws_FnMarks_c : Con := fun args => laws_FnMarks_c0 (norms 0 [.slc (.int .u8), .slc (.int .u8)] args)
set_option maxRecDepth 100000 in
theorem laws_FnMarks_ok : FunOK Try.prog 3 laws_FnMarks_c.fn := con_norm [.slc (.int .u8), .slc (.int .u8)] laws_FnMarks_ok0

end
end Go.Proofs.Ytkhjcoekmamlaaa
