/- THE WALK, BY A PROGRAM: typed functions, and that the code is they. -/
import Derived.Test.YtfbnehkbialkaaaGreatGLa
namespace Go.Proofs.YtfbnehkbialkaaaGreat
set_option linter.unusedVariables false
set_option linter.unusedSimpArgs false
open Go.Extern
noncomputable section

/-- loop.example/g01284/laws.FnLooks -/
def laws_FnLooks_tree (a0 : List Int) (a1 : List Int) : DT (Bool) :=
  let x0 := laws_b10Long a0 a1;
  .ask x0
  (
   .leaf true)
  (
   .need ((spec_B10Orbit_need a0)) (
   let x1 := spec_B10Orbit a0;
   .need ((spec_B10Mass_need a1)) (
   let x2 := spec_B10Mass a1;
   .need ((laws_b10At_need a1 3 17)) (
   let x3 := laws_b10At a1 3 17;
   let x4 := fofInt .f32 x3;
   let x5 := fdiv .f32 x4 1090519040;
   .need ((spec_LaterOrbit_need (⟨x1.Long, x1.Round, x1.Tilt, x1.Node, x1.Peri, x1.Phase⟩ : Orbit) x2 x5)) (
   let x6 := spec_LaterOrbit (⟨x1.Long, x1.Round, x1.Tilt, x1.Node, x1.Peri, x1.Phase⟩ : Orbit) x2 x5;
   .need ((impl_LookAt_need (⟨x1.Long, x1.Round, x1.Tilt, x1.Node, x1.Peri, x1.Phase⟩ : Orbit) x2 x5)) (
   let x7 := impl_LookAt (⟨x1.Long, x1.Round, x1.Tilt, x1.Node, x1.Peri, x1.Phase⟩ : Orbit) x2 x5;
   let x8 := (!(x7.2 == x6.2));
   .ask x8
   (
    .leaf false)
   (
    .ask x7.2
    (
     .need ((spec_StateOf_need (⟨x6.1.Long, x6.1.Round, x6.1.Tilt, x6.1.Node, x6.1.Peri, x6.1.Phase⟩ : Orbit) x2)) (
     let x9 := spec_StateOf (⟨x6.1.Long, x6.1.Round, x6.1.Tilt, x6.1.Node, x6.1.Peri, x6.1.Phase⟩ : Orbit) x2;
     .need ((impl_MissOf_need (⟨x1.Long, x1.Round, x1.Tilt, x1.Node, x1.Peri, x1.Phase⟩ : Orbit) x2 (⟨x7.1.Time, x7.1.Right, x7.1.Up, x7.1.Far, x7.1.Weight⟩ : Look))) (
     let x10 := impl_MissOf (⟨x1.Long, x1.Round, x1.Tilt, x1.Node, x1.Peri, x1.Phase⟩ : Orbit) x2 (⟨x7.1.Time, x7.1.Right, x7.1.Up, x7.1.Far, x7.1.Weight⟩ : Look);
     .ask (!x9.2.2)
     (
      .leaf false)
     (
      .ask (!x10.2.2.2)
      (
       .leaf false)
      (
       let x11 := fne .f32 x10.1 0;
       .ask x11
       (
        .leaf false)
       (
        let x12 := fne .f32 x10.2.1 0;
        .ask x12
        (
         .leaf false)
        (
         let x13 := fne .f32 x10.2.2.1 0;
         .ask x13
         (
          .leaf false)
         (
          .need ((spec_SizeOfVector_need (⟨x9.1.X, x9.1.Y, x9.1.Z⟩ : Vec))) (
          let x14 := spec_SizeOfVector (⟨x9.1.X, x9.1.Y, x9.1.Z⟩ : Vec);
          .need ((spec_SameNumber_need x7.1.Far x14)) (
          let x15 := spec_SameNumber x7.1.Far x14;
          .ask (!x15)
          (
           .leaf false)
          (
           let x16 := flt .f32 x7.1.Up 3196093202;
           .ask x16
           (
            .leaf false)
           (
            let x17 := fgt .f32 x7.1.Up 1048609554;
            .ask x17
            (
             .leaf false)
            (
             let x18 := fne .f32 x7.1.Weight 1065353216;
             .ask x18
             (
              .leaf false)
             (
              .need ((spec_B10Looks_need a0 (⟨x1.Long, x1.Round, x1.Tilt, x1.Node, x1.Peri, x1.Phase⟩ : Orbit) x2)) (
              let x19 := spec_B10Looks a0 (⟨x1.Long, x1.Round, x1.Tilt, x1.Node, x1.Peri, x1.Phase⟩ : Orbit) x2;
              .ask ((isL x19))
              (
               .skip (
               .leaf true))
              (
               .skip (
               .need ((impl_SquareOfMisses_need (⟨x1.Long, x1.Round, x1.Tilt, x1.Node, x1.Peri, x1.Phase⟩ : Orbit) x2 ((rightD x19)))) (
               let x20 := impl_SquareOfMisses (⟨x1.Long, x1.Round, x1.Tilt, x1.Node, x1.Peri, x1.Phase⟩ : Orbit) x2 ((rightD x19));
               .need ((impl_WorstLook_need (⟨x1.Long, x1.Round, x1.Tilt, x1.Node, x1.Peri, x1.Phase⟩ : Orbit) x2 ((rightD x19)))) (
               let x21 := impl_WorstLook (⟨x1.Long, x1.Round, x1.Tilt, x1.Node, x1.Peri, x1.Phase⟩ : Orbit) x2 ((rightD x19));
               .need ((impl_WeighLooks_need ((rightD x19)) 1073741824)) (
               let x22 := impl_WeighLooks ((rightD x19)) 1073741824;
               .ask ((isL x22))
               (
                .need ((impl_SquareOfMisses_need (⟨x1.Long, x1.Round, x1.Tilt, x1.Node, x1.Peri, x1.Phase⟩ : Orbit) x2 [])) (
                let x23 := impl_SquareOfMisses (⟨x1.Long, x1.Round, x1.Tilt, x1.Node, x1.Peri, x1.Phase⟩ : Orbit) x2 [];
                .ask (!x20.2)
                (
                 .leaf false)
                (
                 .skip (
                 .skip (
                 .skip (
                 .leaf false))))))
               (
                .need ((impl_SquareOfMisses_need (⟨x1.Long, x1.Round, x1.Tilt, x1.Node, x1.Peri, x1.Phase⟩ : Orbit) x2 ((rightD x22)))) (
                let x23 := impl_SquareOfMisses (⟨x1.Long, x1.Round, x1.Tilt, x1.Node, x1.Peri, x1.Phase⟩ : Orbit) x2 ((rightD x22));
                .ask (!x20.2)
                (
                 .leaf false)
                (
                 .skip (
                 .skip (
                 .skip (
                 .ask (!x23.2)
                 (
                  .leaf false)
                 (
                  let x24 := ((List.length (rightD x19) : Nat) : Int);
                  let x25 := decide (x24 > 0);
                  let x26 := (!(x21.2.2 == x25));
                  .ask x26
                  (
                   .leaf false)
                  (
                   let x27 := flt .f32 x20.1 0;
                   .ask x27
                   (
                    .leaf false)
                   (
                    .need ((fconvOk .f32 x23.1 .f64)) (
                    let x28 := fconv .f32 x23.1 .f64;
                    .need ((fconvOk .f32 x20.1 .f64)) (
                    let x29 := fconv .f32 x20.1 .f64;
                    let x30 := fmul .f64 4611686018427387904 x29;
                    let x31 := laws_b10Gap x28 x30;
                    .need ((fconvOk .f32 x20.1 .f64)) (
                    let x32 := fconv .f32 x20.1 .f64;
                    let x33 := fadd .f64 4607182418800017408 x32;
                    let x34 := fmul .f64 4562254508917369340 x33;
                    let x35 := fgt .f64 x31 x34;
                    .ask x35
                    (
                     .leaf false)
                    (
                     .need ((impl_AreLooks_need ((rightD x19)))) (
                     let x36 := impl_AreLooks ((rightD x19));
                     .ask (!x36)
                     (
                      .leaf false)
                     (
                      .need ((impl_SameLooks_need ((rightD x19)) ((rightD x19)))) (
                      let x37 := impl_SameLooks ((rightD x19)) ((rightD x19));
                      .ask (!x37)
                      (
                       .leaf false)
                      (
                       .ask (!x21.2.2)
                       (
                        .leaf true)
                       (
                        .need ((impl_DropLooks_need (⟨x1.Long, x1.Round, x1.Tilt, x1.Node, x1.Peri, x1.Phase⟩ : Orbit) x2 ((rightD x19)) x21.2.1)) (
                        let x38 := impl_DropLooks (⟨x1.Long, x1.Round, x1.Tilt, x1.Node, x1.Peri, x1.Phase⟩ : Orbit) x2 ((rightD x19)) x21.2.1;
                        .ask ((isL x38))
                        (
                         let x39 := fdiv .f32 x21.2.1 1073741824;
                         .need ((impl_DropLooks_need (⟨x1.Long, x1.Round, x1.Tilt, x1.Node, x1.Peri, x1.Phase⟩ : Orbit) x2 ((rightD x19)) x39)) (
                         let x40 := impl_DropLooks (⟨x1.Long, x1.Round, x1.Tilt, x1.Node, x1.Peri, x1.Phase⟩ : Orbit) x2 ((rightD x19)) x39;
                         .ask ((isL x40))
                         (
                          let x41 := IntKind.wrap .i64 (x21.1 + 1);
                          .need ((decide (0 ≤ x41) && decide (x41 ≤ ((List.length (rightD x19) : Nat) : Int)))) (
                          .need ((decide (0 ≤ x21.1) && decide (x21.1 ≤ (((Int.toNat x41) : Nat) : Int)))) (
                          .need ((decide ((Int.toNat x21.1) + ((Int.toNat x41) - (Int.toNat x21.1)) ≤ List.length (rightD x19)))) (
                          let x42 := List.take ((Int.toNat x41) - (Int.toNat x21.1)) (List.drop (Int.toNat x21.1) (rightD x19));
                          .need ((impl_SquareOfMisses_need (⟨x1.Long, x1.Round, x1.Tilt, x1.Node, x1.Peri, x1.Phase⟩ : Orbit) x2 x42)) (
                          let x43 := impl_SquareOfMisses (⟨x1.Long, x1.Round, x1.Tilt, x1.Node, x1.Peri, x1.Phase⟩ : Orbit) x2 x42;
                          .skip (
                          .skip (
                          .leaf false)))))))
                         (
                          let x41 := IntKind.wrap .i64 (x21.1 + 1);
                          .need ((decide (0 ≤ x41) && decide (x41 ≤ ((List.length (rightD x19) : Nat) : Int)))) (
                          .need ((decide (0 ≤ x21.1) && decide (x21.1 ≤ (((Int.toNat x41) : Nat) : Int)))) (
                          .need ((decide ((Int.toNat x21.1) + ((Int.toNat x41) - (Int.toNat x21.1)) ≤ List.length (rightD x19)))) (
                          let x42 := List.take ((Int.toNat x41) - (Int.toNat x21.1)) (List.drop (Int.toNat x21.1) (rightD x19));
                          .need ((impl_SquareOfMisses_need (⟨x1.Long, x1.Round, x1.Tilt, x1.Node, x1.Peri, x1.Phase⟩ : Orbit) x2 x42)) (
                          let x43 := impl_SquareOfMisses (⟨x1.Long, x1.Round, x1.Tilt, x1.Node, x1.Peri, x1.Phase⟩ : Orbit) x2 x42;
                          .skip (
                          .skip (
                          .leaf false)))))))))
                        (
                         let x39 := fdiv .f32 x21.2.1 1073741824;
                         .need ((impl_DropLooks_need (⟨x1.Long, x1.Round, x1.Tilt, x1.Node, x1.Peri, x1.Phase⟩ : Orbit) x2 ((rightD x19)) x39)) (
                         let x40 := impl_DropLooks (⟨x1.Long, x1.Round, x1.Tilt, x1.Node, x1.Peri, x1.Phase⟩ : Orbit) x2 ((rightD x19)) x39;
                         .ask ((isL x40))
                         (
                          let x41 := IntKind.wrap .i64 (x21.1 + 1);
                          .need ((decide (0 ≤ x41) && decide (x41 ≤ ((List.length (rightD x19) : Nat) : Int)))) (
                          .need ((decide (0 ≤ x21.1) && decide (x21.1 ≤ (((Int.toNat x41) : Nat) : Int)))) (
                          .need ((decide ((Int.toNat x21.1) + ((Int.toNat x41) - (Int.toNat x21.1)) ≤ List.length (rightD x19)))) (
                          let x42 := List.take ((Int.toNat x41) - (Int.toNat x21.1)) (List.drop (Int.toNat x21.1) (rightD x19));
                          .need ((impl_SquareOfMisses_need (⟨x1.Long, x1.Round, x1.Tilt, x1.Node, x1.Peri, x1.Phase⟩ : Orbit) x2 x42)) (
                          let x43 := impl_SquareOfMisses (⟨x1.Long, x1.Round, x1.Tilt, x1.Node, x1.Peri, x1.Phase⟩ : Orbit) x2 x42;
                          .skip (
                          .skip (
                          .skip (
                          .skip (
                          .leaf false)))))))))
                         (
                          let x41 := IntKind.wrap .i64 (x21.1 + 1);
                          .need ((decide (0 ≤ x41) && decide (x41 ≤ ((List.length (rightD x19) : Nat) : Int)))) (
                          .need ((decide (0 ≤ x21.1) && decide (x21.1 ≤ (((Int.toNat x41) : Nat) : Int)))) (
                          .need ((decide ((Int.toNat x21.1) + ((Int.toNat x41) - (Int.toNat x21.1)) ≤ List.length (rightD x19)))) (
                          let x42 := List.take ((Int.toNat x41) - (Int.toNat x21.1)) (List.drop (Int.toNat x21.1) (rightD x19));
                          .need ((impl_SquareOfMisses_need (⟨x1.Long, x1.Round, x1.Tilt, x1.Node, x1.Peri, x1.Phase⟩ : Orbit) x2 x42)) (
                          let x43 := impl_SquareOfMisses (⟨x1.Long, x1.Round, x1.Tilt, x1.Node, x1.Peri, x1.Phase⟩ : Orbit) x2 x42;
                          .skip (
                          .skip (
                          .skip (
                          .skip (
                          .ask x43.2
                          (
                           .need ((impl_SameLooks_need ((rightD x38)) ((rightD x19)))) (
                           let x44 := impl_SameLooks ((rightD x38)) ((rightD x19));
                           .ask x44
                           (
                            let x45 := ((List.length (rightD x40) : Nat) : Int);
                            let x46 := ((List.length (rightD x38) : Nat) : Int);
                            let x47 := decide (x45 ≤ x46);
                            .ask x47
                            (
                             let x48 := fle .f32 x21.2.1 0;
                             .ask x48
                             (
                              .need ((fconvOk .f32 x43.1 .f64)) (
                              let x49 := fconv .f32 x43.1 .f64;
                              .need ((fconvOk .f32 x21.2.1 .f64)) (
                              let x50 := fconv .f32 x21.2.1 .f64;
                              let x51 := laws_b10Gap x49 x50;
                              .need ((fconvOk .f32 x21.2.1 .f64)) (
                              let x52 := fconv .f32 x21.2.1 .f64;
                              let x53 := fadd .f64 4607182418800017408 x52;
                              let x54 := fmul .f64 4562254508917369340 x53;
                              let x55 := flt .f64 x51 x54;
                              .leaf x55))))
                             (
                              let x49 := ((List.length (rightD x40) : Nat) : Int);
                              let x50 := ((List.length (rightD x38) : Nat) : Int);
                              let x51 := decide (x49 < x50);
                              .ask x51
                              (
                               .need ((fconvOk .f32 x43.1 .f64)) (
                               let x52 := fconv .f32 x43.1 .f64;
                               .need ((fconvOk .f32 x21.2.1 .f64)) (
                               let x53 := fconv .f32 x21.2.1 .f64;
                               let x54 := laws_b10Gap x52 x53;
                               .need ((fconvOk .f32 x21.2.1 .f64)) (
                               let x55 := fconv .f32 x21.2.1 .f64;
                               let x56 := fadd .f64 4607182418800017408 x55;
                               let x57 := fmul .f64 4562254508917369340 x56;
                               let x58 := flt .f64 x54 x57;
                               .leaf x58))))
                              (
                               .leaf false)))
                            (
                             .leaf false))
                           (
                            .leaf false)))
                          (
                           .leaf false)))))))))))))))))))))))))))))))))))))))))))))))))))
    (
     .need ((spec_B10Looks_need a0 (⟨x1.Long, x1.Round, x1.Tilt, x1.Node, x1.Peri, x1.Phase⟩ : Orbit) x2)) (
     let x9 := spec_B10Looks a0 (⟨x1.Long, x1.Round, x1.Tilt, x1.Node, x1.Peri, x1.Phase⟩ : Orbit) x2;
     .ask ((isL x9))
     (
      .skip (
      .leaf true))
     (
      .skip (
      .need ((impl_SquareOfMisses_need (⟨x1.Long, x1.Round, x1.Tilt, x1.Node, x1.Peri, x1.Phase⟩ : Orbit) x2 ((rightD x9)))) (
      let x10 := impl_SquareOfMisses (⟨x1.Long, x1.Round, x1.Tilt, x1.Node, x1.Peri, x1.Phase⟩ : Orbit) x2 ((rightD x9));
      .need ((impl_WorstLook_need (⟨x1.Long, x1.Round, x1.Tilt, x1.Node, x1.Peri, x1.Phase⟩ : Orbit) x2 ((rightD x9)))) (
      let x11 := impl_WorstLook (⟨x1.Long, x1.Round, x1.Tilt, x1.Node, x1.Peri, x1.Phase⟩ : Orbit) x2 ((rightD x9));
      .need ((impl_WeighLooks_need ((rightD x9)) 1073741824)) (
      let x12 := impl_WeighLooks ((rightD x9)) 1073741824;
      .ask ((isL x12))
      (
       .need ((impl_SquareOfMisses_need (⟨x1.Long, x1.Round, x1.Tilt, x1.Node, x1.Peri, x1.Phase⟩ : Orbit) x2 [])) (
       let x13 := impl_SquareOfMisses (⟨x1.Long, x1.Round, x1.Tilt, x1.Node, x1.Peri, x1.Phase⟩ : Orbit) x2 [];
       .ask (!x10.2)
       (
        .leaf false)
       (
        .skip (
        .skip (
        .skip (
        .leaf false))))))
      (
       .need ((impl_SquareOfMisses_need (⟨x1.Long, x1.Round, x1.Tilt, x1.Node, x1.Peri, x1.Phase⟩ : Orbit) x2 ((rightD x12)))) (
       let x13 := impl_SquareOfMisses (⟨x1.Long, x1.Round, x1.Tilt, x1.Node, x1.Peri, x1.Phase⟩ : Orbit) x2 ((rightD x12));
       .ask (!x10.2)
       (
        .leaf false)
       (
        .skip (
        .skip (
        .skip (
        .ask (!x13.2)
        (
         .leaf false)
        (
         let x14 := ((List.length (rightD x9) : Nat) : Int);
         let x15 := decide (x14 > 0);
         let x16 := (!(x11.2.2 == x15));
         .ask x16
         (
          .leaf false)
         (
          let x17 := flt .f32 x10.1 0;
          .ask x17
          (
           .leaf false)
          (
           .need ((fconvOk .f32 x13.1 .f64)) (
           let x18 := fconv .f32 x13.1 .f64;
           .need ((fconvOk .f32 x10.1 .f64)) (
           let x19 := fconv .f32 x10.1 .f64;
           let x20 := fmul .f64 4611686018427387904 x19;
           let x21 := laws_b10Gap x18 x20;
           .need ((fconvOk .f32 x10.1 .f64)) (
           let x22 := fconv .f32 x10.1 .f64;
           let x23 := fadd .f64 4607182418800017408 x22;
           let x24 := fmul .f64 4562254508917369340 x23;
           let x25 := fgt .f64 x21 x24;
           .ask x25
           (
            .leaf false)
           (
            .need ((impl_AreLooks_need ((rightD x9)))) (
            let x26 := impl_AreLooks ((rightD x9));
            .ask (!x26)
            (
             .leaf false)
            (
             .need ((impl_SameLooks_need ((rightD x9)) ((rightD x9)))) (
             let x27 := impl_SameLooks ((rightD x9)) ((rightD x9));
             .ask (!x27)
             (
              .leaf false)
             (
              .ask (!x11.2.2)
              (
               .leaf true)
              (
               .need ((impl_DropLooks_need (⟨x1.Long, x1.Round, x1.Tilt, x1.Node, x1.Peri, x1.Phase⟩ : Orbit) x2 ((rightD x9)) x11.2.1)) (
               let x28 := impl_DropLooks (⟨x1.Long, x1.Round, x1.Tilt, x1.Node, x1.Peri, x1.Phase⟩ : Orbit) x2 ((rightD x9)) x11.2.1;
               .ask ((isL x28))
               (
                let x29 := fdiv .f32 x11.2.1 1073741824;
                .need ((impl_DropLooks_need (⟨x1.Long, x1.Round, x1.Tilt, x1.Node, x1.Peri, x1.Phase⟩ : Orbit) x2 ((rightD x9)) x29)) (
                let x30 := impl_DropLooks (⟨x1.Long, x1.Round, x1.Tilt, x1.Node, x1.Peri, x1.Phase⟩ : Orbit) x2 ((rightD x9)) x29;
                .ask ((isL x30))
                (
                 let x31 := IntKind.wrap .i64 (x11.1 + 1);
                 .need ((decide (0 ≤ x31) && decide (x31 ≤ ((List.length (rightD x9) : Nat) : Int)))) (
                 .need ((decide (0 ≤ x11.1) && decide (x11.1 ≤ (((Int.toNat x31) : Nat) : Int)))) (
                 .need ((decide ((Int.toNat x11.1) + ((Int.toNat x31) - (Int.toNat x11.1)) ≤ List.length (rightD x9)))) (
                 let x32 := List.take ((Int.toNat x31) - (Int.toNat x11.1)) (List.drop (Int.toNat x11.1) (rightD x9));
                 .need ((impl_SquareOfMisses_need (⟨x1.Long, x1.Round, x1.Tilt, x1.Node, x1.Peri, x1.Phase⟩ : Orbit) x2 x32)) (
                 let x33 := impl_SquareOfMisses (⟨x1.Long, x1.Round, x1.Tilt, x1.Node, x1.Peri, x1.Phase⟩ : Orbit) x2 x32;
                 .skip (
                 .skip (
                 .leaf false)))))))
                (
                 let x31 := IntKind.wrap .i64 (x11.1 + 1);
                 .need ((decide (0 ≤ x31) && decide (x31 ≤ ((List.length (rightD x9) : Nat) : Int)))) (
                 .need ((decide (0 ≤ x11.1) && decide (x11.1 ≤ (((Int.toNat x31) : Nat) : Int)))) (
                 .need ((decide ((Int.toNat x11.1) + ((Int.toNat x31) - (Int.toNat x11.1)) ≤ List.length (rightD x9)))) (
                 let x32 := List.take ((Int.toNat x31) - (Int.toNat x11.1)) (List.drop (Int.toNat x11.1) (rightD x9));
                 .need ((impl_SquareOfMisses_need (⟨x1.Long, x1.Round, x1.Tilt, x1.Node, x1.Peri, x1.Phase⟩ : Orbit) x2 x32)) (
                 let x33 := impl_SquareOfMisses (⟨x1.Long, x1.Round, x1.Tilt, x1.Node, x1.Peri, x1.Phase⟩ : Orbit) x2 x32;
                 .skip (
                 .skip (
                 .leaf false)))))))))
               (
                let x29 := fdiv .f32 x11.2.1 1073741824;
                .need ((impl_DropLooks_need (⟨x1.Long, x1.Round, x1.Tilt, x1.Node, x1.Peri, x1.Phase⟩ : Orbit) x2 ((rightD x9)) x29)) (
                let x30 := impl_DropLooks (⟨x1.Long, x1.Round, x1.Tilt, x1.Node, x1.Peri, x1.Phase⟩ : Orbit) x2 ((rightD x9)) x29;
                .ask ((isL x30))
                (
                 let x31 := IntKind.wrap .i64 (x11.1 + 1);
                 .need ((decide (0 ≤ x31) && decide (x31 ≤ ((List.length (rightD x9) : Nat) : Int)))) (
                 .need ((decide (0 ≤ x11.1) && decide (x11.1 ≤ (((Int.toNat x31) : Nat) : Int)))) (
                 .need ((decide ((Int.toNat x11.1) + ((Int.toNat x31) - (Int.toNat x11.1)) ≤ List.length (rightD x9)))) (
                 let x32 := List.take ((Int.toNat x31) - (Int.toNat x11.1)) (List.drop (Int.toNat x11.1) (rightD x9));
                 .need ((impl_SquareOfMisses_need (⟨x1.Long, x1.Round, x1.Tilt, x1.Node, x1.Peri, x1.Phase⟩ : Orbit) x2 x32)) (
                 let x33 := impl_SquareOfMisses (⟨x1.Long, x1.Round, x1.Tilt, x1.Node, x1.Peri, x1.Phase⟩ : Orbit) x2 x32;
                 .skip (
                 .skip (
                 .skip (
                 .skip (
                 .leaf false)))))))))
                (
                 let x31 := IntKind.wrap .i64 (x11.1 + 1);
                 .need ((decide (0 ≤ x31) && decide (x31 ≤ ((List.length (rightD x9) : Nat) : Int)))) (
                 .need ((decide (0 ≤ x11.1) && decide (x11.1 ≤ (((Int.toNat x31) : Nat) : Int)))) (
                 .need ((decide ((Int.toNat x11.1) + ((Int.toNat x31) - (Int.toNat x11.1)) ≤ List.length (rightD x9)))) (
                 let x32 := List.take ((Int.toNat x31) - (Int.toNat x11.1)) (List.drop (Int.toNat x11.1) (rightD x9));
                 .need ((impl_SquareOfMisses_need (⟨x1.Long, x1.Round, x1.Tilt, x1.Node, x1.Peri, x1.Phase⟩ : Orbit) x2 x32)) (
                 let x33 := impl_SquareOfMisses (⟨x1.Long, x1.Round, x1.Tilt, x1.Node, x1.Peri, x1.Phase⟩ : Orbit) x2 x32;
                 .skip (
                 .skip (
                 .skip (
                 .skip (
                 .ask x33.2
                 (
                  .need ((impl_SameLooks_need ((rightD x28)) ((rightD x9)))) (
                  let x34 := impl_SameLooks ((rightD x28)) ((rightD x9));
                  .ask x34
                  (
                   let x35 := ((List.length (rightD x30) : Nat) : Int);
                   let x36 := ((List.length (rightD x28) : Nat) : Int);
                   let x37 := decide (x35 ≤ x36);
                   .ask x37
                   (
                    let x38 := fle .f32 x11.2.1 0;
                    .ask x38
                    (
                     .need ((fconvOk .f32 x33.1 .f64)) (
                     let x39 := fconv .f32 x33.1 .f64;
                     .need ((fconvOk .f32 x11.2.1 .f64)) (
                     let x40 := fconv .f32 x11.2.1 .f64;
                     let x41 := laws_b10Gap x39 x40;
                     .need ((fconvOk .f32 x11.2.1 .f64)) (
                     let x42 := fconv .f32 x11.2.1 .f64;
                     let x43 := fadd .f64 4607182418800017408 x42;
                     let x44 := fmul .f64 4562254508917369340 x43;
                     let x45 := flt .f64 x41 x44;
                     .leaf x45))))
                    (
                     let x39 := ((List.length (rightD x30) : Nat) : Int);
                     let x40 := ((List.length (rightD x28) : Nat) : Int);
                     let x41 := decide (x39 < x40);
                     .ask x41
                     (
                      .need ((fconvOk .f32 x33.1 .f64)) (
                      let x42 := fconv .f32 x33.1 .f64;
                      .need ((fconvOk .f32 x11.2.1 .f64)) (
                      let x43 := fconv .f32 x11.2.1 .f64;
                      let x44 := laws_b10Gap x42 x43;
                      .need ((fconvOk .f32 x11.2.1 .f64)) (
                      let x45 := fconv .f32 x11.2.1 .f64;
                      let x46 := fadd .f64 4607182418800017408 x45;
                      let x47 := fmul .f64 4562254508917369340 x46;
                      let x48 := flt .f64 x44 x47;
                      .leaf x48))))
                     (
                      .leaf false)))
                   (
                    .leaf false))
                  (
                   .leaf false)))
                 (
                  .leaf false)))))))))))))))))))))))))))))))))))))))))))))
def laws_FnLooks (a0 : List Int) (a1 : List Int) : Bool := (laws_FnLooks_tree a0 a1).val
def laws_FnLooks_need (a0 : List Int) (a1 : List Int) : Bool := (laws_FnLooks_tree a0 a1).ok
def laws_FnLooks_mk (p : Bool) : Ret := ⟨.bool p, []⟩
def laws_FnLooks_c0 : Con := fun args => match args with
  | [.vslc 1 (.int .u8) a0, .vslc 2 (.int .u8) a1] => some (.need (laws_FnLooks_need a0 a1) (.leaf (laws_FnLooks_mk (laws_FnLooks a0 a1))))
  | _ => none
theorem agree_cut {α : Type} {E : Env} {fuel : Nat} {x : Code} {rs : List ResultVar} {args : List PV} {mk : α → Ret} {l : List (Hs × α)} (n : Nat) (h1 : Agree E fuel x rs args mk (l.take n)) (h2 : Agree E fuel x rs args mk (l.drop n)) : Agree E fuel x rs args mk l := by
  have h3 : Agree E fuel x rs args mk (l.take n ++ l.drop n) := by
    unfold Agree at *
    rw [List.map_append, List.map_append, h1, h2]
  rwa [List.take_append_drop] at h3
def laws_FnLooks_env : Env := ⟨gam [(4, laws_b10Long_c), (5, spec_B10Orbit_c), (6, spec_B10Mass_c), (7, laws_b10At_c), (8, spec_LaterOrbit_c), (9, impl_LookAt_c), (10, spec_StateOf_c), (11, impl_MissOf_c), (13, spec_SizeOfVector_c), (12, spec_SameNumber_c), (14, spec_B10Looks_c), (15, impl_SquareOfMisses_c), (16, impl_WorstLook_c), (17, impl_WeighLooks_c), (18, laws_b10Gap_c), (19, impl_AreLooks_c), (20, impl_SameLooks_c), (21, impl_DropLooks_c)], tab, 275, noLoops⟩
set_option maxRecDepth 100000 in
theorem laws_FnLooks_part0 (a0 a1 : List Int) : Agree laws_FnLooks_env 100000 (bodyOf Tryz.f3) Tryz.f3.results.toList [.vslc 1 (.int .u8) a0, .vslc 2 (.int .u8) a1] laws_FnLooks_mk ((laws_FnLooks_tree a0 a1).leaves.take 8) := by unfold Agree; kernel_rfl
set_option maxRecDepth 100000 in
theorem laws_FnLooks_part1 (a0 a1 : List Int) : Agree laws_FnLooks_env 100000 (bodyOf Tryz.f3) Tryz.f3.results.toList [.vslc 1 (.int .u8) a0, .vslc 2 (.int .u8) a1] laws_FnLooks_mk (((laws_FnLooks_tree a0 a1).leaves.drop 8).take 8) := by unfold Agree; kernel_rfl
set_option maxRecDepth 100000 in
theorem laws_FnLooks_part2 (a0 a1 : List Int) : Agree laws_FnLooks_env 100000 (bodyOf Tryz.f3) Tryz.f3.results.toList [.vslc 1 (.int .u8) a0, .vslc 2 (.int .u8) a1] laws_FnLooks_mk (((laws_FnLooks_tree a0 a1).leaves.drop 16).take 8) := by unfold Agree; kernel_rfl
set_option maxRecDepth 100000 in
theorem laws_FnLooks_part3 (a0 a1 : List Int) : Agree laws_FnLooks_env 100000 (bodyOf Tryz.f3) Tryz.f3.results.toList [.vslc 1 (.int .u8) a0, .vslc 2 (.int .u8) a1] laws_FnLooks_mk (((laws_FnLooks_tree a0 a1).leaves.drop 24).take 8) := by unfold Agree; kernel_rfl
set_option maxRecDepth 100000 in
theorem laws_FnLooks_part4 (a0 a1 : List Int) : Agree laws_FnLooks_env 100000 (bodyOf Tryz.f3) Tryz.f3.results.toList [.vslc 1 (.int .u8) a0, .vslc 2 (.int .u8) a1] laws_FnLooks_mk (((laws_FnLooks_tree a0 a1).leaves.drop 32).take 8) := by unfold Agree; kernel_rfl
set_option maxRecDepth 100000 in
theorem laws_FnLooks_part5 (a0 a1 : List Int) : Agree laws_FnLooks_env 100000 (bodyOf Tryz.f3) Tryz.f3.results.toList [.vslc 1 (.int .u8) a0, .vslc 2 (.int .u8) a1] laws_FnLooks_mk (((laws_FnLooks_tree a0 a1).leaves.drop 40).take 8) := by unfold Agree; kernel_rfl
set_option maxRecDepth 100000 in
theorem laws_FnLooks_part6 (a0 a1 : List Int) : Agree laws_FnLooks_env 100000 (bodyOf Tryz.f3) Tryz.f3.results.toList [.vslc 1 (.int .u8) a0, .vslc 2 (.int .u8) a1] laws_FnLooks_mk ((laws_FnLooks_tree a0 a1).leaves.drop 48) := by unfold Agree; kernel_rfl
theorem laws_FnLooks_parts (a0 a1 : List Int) : Agree laws_FnLooks_env 100000 (bodyOf Tryz.f3) Tryz.f3.results.toList [.vslc 1 (.int .u8) a0, .vslc 2 (.int .u8) a1] laws_FnLooks_mk (laws_FnLooks_tree a0 a1).leaves := by
  refine agree_cut 8 (laws_FnLooks_part0 a0 a1) ?_
  refine agree_cut 8 (laws_FnLooks_part1 a0 a1) ?_
  rw [List.drop_drop]
  refine agree_cut 8 (laws_FnLooks_part2 a0 a1) ?_
  rw [List.drop_drop]
  refine agree_cut 8 (laws_FnLooks_part3 a0 a1) ?_
  rw [List.drop_drop]
  refine agree_cut 8 (laws_FnLooks_part4 a0 a1) ?_
  rw [List.drop_drop]
  refine agree_cut 8 (laws_FnLooks_part5 a0 a1) ?_
  rw [List.drop_drop]
  exact laws_FnLooks_part6 a0 a1
set_option maxRecDepth 100000 in
theorem laws_FnLooks_ok0 : FunOK Tryz.prog 3 laws_FnLooks_c0.fn := by
  refine con_ok (Γ := gam [(4, laws_b10Long_c), (5, spec_B10Orbit_c), (6, spec_B10Mass_c), (7, laws_b10At_c), (8, spec_LaterOrbit_c), (9, impl_LookAt_c), (10, spec_StateOf_c), (11, impl_MissOf_c), (13, spec_SizeOfVector_c), (12, spec_SameNumber_c), (14, spec_B10Looks_c), (15, impl_SquareOfMisses_c), (16, impl_WorstLook_c), (17, impl_WeighLooks_c), (18, laws_b10Gap_c), (19, impl_AreLooks_c), (20, impl_SameLooks_c), (21, impl_DropLooks_c)]) (gam_cons laws_b10Long_ok (gam_cons spec_B10Orbit_ok (gam_cons spec_B10Mass_ok (gam_cons laws_b10At_ok (gam_cons spec_LaterOrbit_ok (gam_cons impl_LookAt_ok (gam_cons spec_StateOf_ok (gam_cons impl_MissOf_ok (gam_cons spec_SizeOfVector_ok (gam_cons spec_SameNumber_ok (gam_cons spec_B10Looks_ok (gam_cons impl_SquareOfMisses_ok (gam_cons impl_WorstLook_ok (gam_cons impl_WeighLooks_ok (gam_cons laws_b10Gap_ok (gam_cons impl_AreLooks_ok (gam_cons impl_SameLooks_ok (gam_cons impl_DropLooks_ok (gam_nil))))))))))))))))))) tab_ok (by kernel_rfl) Tryz.func3 (by kernel_rfl) (by kernel_rfl) Tryz.ntmps3 rfl (loopsOK_none rfl _) 100000 fun args t h => ?_
  unfold laws_FnLooks_c0 at h
  split at h
  · rename_i a0 a1
    cases h
    exact ⟨rfl, agree_need (mk := laws_FnLooks_mk) (t := laws_FnLooks_tree a0 a1) (laws_FnLooks_parts a0 a1)⟩
  · cases h
def laws_FnLooks_c : Con := fun args => laws_FnLooks_c0 (norms 0 [.slc (.int .u8), .slc (.int .u8)] args)
set_option maxRecDepth 100000 in
theorem laws_FnLooks_ok : FunOK Tryz.prog 3 laws_FnLooks_c.fn := con_norm [.slc (.int .u8), .slc (.int .u8)] laws_FnLooks_ok0

end
end Go.Proofs.YtfbnehkbialkaaaGreat
