/- THE WALK, BY A PROGRAM: typed functions, and that the code is they. -/
import Derived.Test.YtomdjbkididieaaGLa
namespace Go.Proofs.Ytomdjbkididieaa
set_option linter.unusedVariables false
set_option linter.unusedSimpArgs false
open Go.Extern
noncomputable section

/-- a loop of laws_FnLater -/
def laws_FnLater_loop0_step (p : List Int × Nat × Nat × Nat × Int × Nat × Nat × Nat × Nat × Nat × Nat × List Vec) (s : Int) : Round (Int) ((Unit) ⊕ (Unit)) :=
  let x0 := decide (s < p.2.2.2.2.1);
  .ask x0
  (
   .need ((decide (0 ≤ s) && decide (s < ((List.length p.2.2.2.2.2.2.2.2.2.2.2 : Nat) : Int)))) (
   .need ((decide ((Int.toNat s) < List.length p.2.2.2.2.2.2.2.2.2.2.2))) (
   let x1 := List.getD p.2.2.2.2.2.2.2.2.2.2.2 (Int.toNat s) default;
   .need ((spec_SizeOfVector_need (⟨x1.X, x1.Y, x1.Z⟩ : Vec))) (
   let x2 := spec_SizeOfVector (⟨x1.X, x1.Y, x1.Z⟩ : Vec);
   .need ((fconvOk .f32 x2 .f64)) (
   let x3 := fconv .f32 x2 .f64;
   .need ((fconvOk .f32 p.2.2.1 .f64)) (
   let x4 := fconv .f32 p.2.2.1 .f64;
   let x5 := fsub .f64 x4 4562254508917369340;
   let x6 := flt .f64 x3 x5;
   .ask x6
   (
    .leaf (.inr (.inl ()), []))
   (
    .need ((fconvOk .f32 p.2.2.2.1 .f64)) (
    let x7 := fconv .f32 p.2.2.2.1 .f64;
    let x8 := fadd .f64 x7 4562254508917369340;
    let x9 := fgt .f64 x3 x8;
    .ask x9
    (
     .leaf (.inr (.inl ()), []))
    (
     let x10 := IntKind.wrap .i64 (s + 1);
     .leaf (.inl x10, [0, 1]))))))))))
  (
   .leaf (.inr (.inr ()), [0]))
def laws_FnLater_loop0_L (p : List Int × Nat × Nat × Nat × Int × Nat × Nat × Nat × Nat × Nat × Nat × List Vec) : LoopS (Int) ((Unit) ⊕ (Unit)) := { tl := fun s => [.junk, .vslc 2 (.int .u8) p.1, .junk, .junk, .junk, .ptr 0 0, .flt .f32 p.2.1, .junk, .junk, .junk, .junk, .junk, .junk, .junk, .junk, .junk, .junk, .flt .f32 p.2.2.1, .junk, .flt .f32 p.2.2.2.1, .junk, .junk, .own 1, .junk, .junk, .junk, .junk, .junk, .junk, .junk, .junk, .junk, .junk, .junk, .junk, .junk, .junk, .junk, .junk, .junk, .junk, .junk, .junk, .junk, .junk, .junk, .junk, .junk, .junk, .junk, .junk, .junk, .junk, .junk, .junk, .junk, .junk, .junk, .junk, .junk, .junk, .junk, .junk, .junk, .junk, .junk, .junk, .junk, .junk, .junk, .junk, .junk, .junk, .junk, .junk, .junk, .junk, .junk, .junk, .junk, .junk, .junk, .junk, .junk, .junk, .junk, .junk, .junk, .junk, .junk, .junk, .junk, .junk, .junk, .junk, .junk, .junk, .junk, .junk, .junk, .junk, .junk, .junk, .junk, .junk, .junk, .junk, .junk, .junk, .junk, .junk, .junk, .junk, .junk, .junk, .junk, .junk, .junk, .junk, .junk, .junk, .junk, .junk, .junk, .junk, .junk, .junk, .junk, .junk, .junk, .junk, .junk, .junk, .junk, .junk, .junk, .junk, .junk, .junk, .junk, .junk, .junk, .junk, .junk, .junk, .junk, .junk, .junk, .junk, .junk, .junk, .junk, .junk, .junk, .junk, .junk, .junk, .junk, .junk, .junk, .junk, .junk, .junk, .junk, .junk, .junk, .junk, .junk, .junk, .junk, .junk, .junk, .junk, .junk, .junk, .junk, .junk, .junk, .junk, .junk, .junk, .junk, .junk, .junk, .junk, .junk, .junk, .junk, .junk, .junk, .junk, .junk, .junk, .junk, .junk, .junk, .junk, .junk, .junk, .junk, .junk, .junk, .junk, .junk, .junk, .junk, .junk, .junk, .junk, .junk, .junk, .junk, .junk, .int .i64 p.2.2.2.2.1, .int .i64 s], hl := fun s => [some (.cells [.flt .f32 p.2.2.2.2.2.1, .flt .f32 p.2.2.2.2.2.2.1, .flt .f32 p.2.2.2.2.2.2.2.1, .flt .f32 p.2.2.2.2.2.2.2.2.1, .flt .f32 p.2.2.2.2.2.2.2.2.2.1, .flt .f32 p.2.2.2.2.2.2.2.2.2.2.1]), some (.typed 45 .vec p.2.2.2.2.2.2.2.2.2.2.2)], ex := fun r => match r with | .inl r => .ret | .inr r => .exit 0, otl := fun r => match r with | .inl r => [.junk, .junk, .junk, .junk, .bool false] | .inr r => [.junk, .vslc 2 (.int .u8) p.1, .junk, .junk, .junk, .ptr 0 0, .flt .f32 p.2.1], ohl := fun r => match r with | .inl r => [] | .inr r => [some (.cells [.flt .f32 p.2.2.2.2.2.1, .flt .f32 p.2.2.2.2.2.2.1, .flt .f32 p.2.2.2.2.2.2.2.1, .flt .f32 p.2.2.2.2.2.2.2.2.1, .flt .f32 p.2.2.2.2.2.2.2.2.2.1, .flt .f32 p.2.2.2.2.2.2.2.2.2.2.1])] }
def laws_FnLater_loop0_ext : St → Option ((List Int × Nat × Nat × Nat × Int × Nat × Nat × Nat × Nat × Nat × Nat × List Vec) × (Int) × List Nat) := fun S => match (S.tm 1).unK, (S.tm 5).unK, (S.tm 6).unK, (S.tm 17).unK, (S.tm 19).unK, (S.tm 22).unK, (S.tm 213).unK, (S.tm 214).unK with
  | .vslc 2 (.int .u8) q0, .ptr i0 0, .flt .f32 q1, .flt .f32 q2, .flt .f32 q3, .own i1, .int .i64 q4, .int .i64 q5 => (match S.hp i0 with
    | some (.cells [.flt .f32 q6, .flt .f32 q7, .flt .f32 q8, .flt .f32 q9, .flt .f32 q10, .flt .f32 q11]) => (match S.hp i1 with
    | some (.typed 45 .vec q12) => (if nodup [i0, i1] = true then some ((q0, q1, q2, q3, q4, q6, q7, q8, q9, q10, q11, q12), q5, [i0, i1]) else none)
    | _ => none)
    | _ => none)
  | _, _, _, _, _, _, _, _ => none
def laws_FnLater_loop0_post (p : List Int × Nat × Nat × Nat × Int × Nat × Nat × Nat × Nat × Nat × Nat × List Vec) (r : (Unit) ⊕ (Unit)) : DT (Ex × St) := .ask (isL r) (.leaf (.ret, LSt [.junk, .junk, .junk, .junk, .bool false] [])) (.leaf (.exit 0, LSt [.junk, .vslc 2 (.int .u8) p.1, .junk, .junk, .junk, .ptr 0 0, .flt .f32 p.2.1] [some (.cells [.flt .f32 p.2.2.2.2.2.1, .flt .f32 p.2.2.2.2.2.2.1, .flt .f32 p.2.2.2.2.2.2.2.1, .flt .f32 p.2.2.2.2.2.2.2.2.1, .flt .f32 p.2.2.2.2.2.2.2.2.2.1, .flt .f32 p.2.2.2.2.2.2.2.2.2.2.1])]))
def laws_FnLater_loop0 (p : List Int × Nat × Nat × Nat × Int × Nat × Nat × Nat × Nat × Nat × Nat × List Vec) (s : Int) : (Unit) ⊕ (Unit) := loopVal (laws_FnLater_loop0_step p) s
def laws_FnLater_loop0_ends (p : List Int × Nat × Nat × Nat × Int × Nat × Nat × Nat × Nat × Nat × Nat × List Vec) (s : Int) : Bool := loopEnds (laws_FnLater_loop0_step p) s
def laws_FnLater_loop0_F : LoopF := loopF laws_FnLater_loop0_step laws_FnLater_loop0_ext laws_FnLater_loop0_post
set_option maxRecDepth 100000 in
theorem laws_FnLater_loop0_hext : ∀ S p s fl, laws_FnLater_loop0_ext S = some (p, s, fl) → Norm S fl ((laws_FnLater_loop0_L p).tl s) ((laws_FnLater_loop0_L p).hl s) (laws_FnLater_loop0_L p).gl := by
  intro S p s fl h
  unfold laws_FnLater_loop0_ext at h
  (repeat' split at h) <;> first
    | (cases h; constructor <;> simp_all [laws_FnLater_loop0_L, keepT, keepH, rens, renH, PV.ren, Blk.ren, fOf, lget, nodup, natIn, lenEq, gtm, PV.unK])
    | cases h
set_option maxRecDepth 100000 in
theorem laws_FnLater_loop0_hpost : ∀ p r e S', (laws_FnLater_loop0_post p r).get = some (e, S') → e = (laws_FnLater_loop0_L p).ex r ∧ S' = LSt ((laws_FnLater_loop0_L p).otl r) ((laws_FnLater_loop0_L p).ohl r) ((laws_FnLater_loop0_L p).ogl r) := by
  intro p r e S' h
  unfold laws_FnLater_loop0_post at h
  cases r <;> (simp only [isL, DT.get, Option.some.injEq, Prod.mk.injEq] at h; exact ⟨h.1.symm, h.2.symm⟩)

def laws_FnLater_loops : Nat → Option LoopF := loopTab [(20, laws_FnLater_loop0_F)]
set_option maxRecDepth 100000 in
theorem laws_FnLater_l0 : LoopOK Try.prog ⟨gam [(4, laws_b10Long_c), (5, spec_B10Ellipse_c), (6, spec_B10Mass_c), (7, impl_PeriodOf_c), (8, impl_RateOf_c), (9, impl_LaterOrbit_c), (10, laws_b10Turns_c), (11, laws_b10Gap_c), (12, impl_NearOf_c), (13, impl_FarOf_c), (14, laws_b10At_c), (15, impl_PlacesOf_c), (16, impl_NearestOrbits_c), (17, spec_SizeOfVector_c), (18, impl_TiltBetween_c), (19, impl_TrueTurn_c)], tab, 309, laws_FnLater_loops⟩ (lp Try.f3 0) :=
  loopOK_some (F := laws_FnLater_loop0_F) (by kernel_rfl) (loopF_ok (E := ⟨gam [(4, laws_b10Long_c), (5, spec_B10Ellipse_c), (6, spec_B10Mass_c), (7, impl_PeriodOf_c), (8, impl_RateOf_c), (9, impl_LaterOrbit_c), (10, laws_b10Turns_c), (11, laws_b10Gap_c), (12, impl_NearOf_c), (13, impl_FarOf_c), (14, laws_b10At_c), (15, impl_PlacesOf_c), (16, impl_NearestOrbits_c), (17, spec_SizeOfVector_c), (18, impl_TiltBetween_c), (19, impl_TrueTurn_c)], tab, 309, laws_FnLater_loops⟩) ⟨gam_cons laws_b10Long_ok (gam_cons spec_B10Ellipse_ok (gam_cons spec_B10Mass_ok (gam_cons impl_PeriodOf_ok (gam_cons impl_RateOf_ok (gam_cons impl_LaterOrbit_ok (gam_cons laws_b10Turns_ok (gam_cons laws_b10Gap_ok (gam_cons impl_NearOf_ok (gam_cons impl_FarOf_ok (gam_cons laws_b10At_ok (gam_cons impl_PlacesOf_ok (gam_cons impl_NearestOrbits_ok (gam_cons spec_SizeOfVector_ok (gam_cons impl_TiltBetween_ok (gam_cons impl_TrueTurn_ok (gam_nil)))))))))))))))), tab_ok, by kernel_rfl⟩ (fuel := 100000) (loopsOK_list (l := []) (by kernel_rfl) trivial) (L := laws_FnLater_loop0_L) (fun p s => by unfold AgreeL; exact ⟨by kernel_rfl, by kernel_rfl⟩) (fun _ r h => by cases r <;> exact Ex.noConfusion h) laws_FnLater_loop0_hext laws_FnLater_loop0_hpost)
/-- loop.example/g01284/laws.FnLater -/
def laws_FnLater_tree (a0 : List Int) (a1 : List Int) : DT (Bool) :=
  let x0 := laws_b10Long a0 a1;
  .ask x0
  (
   .leaf true)
  (
   .need ((spec_B10Ellipse_need a0)) (
   let x1 := spec_B10Ellipse a0;
   .need ((spec_B10Mass_need a1)) (
   let x2 := spec_B10Mass a1;
   .need ((impl_PeriodOf_need (⟨x1.Long, x1.Round, x1.Tilt, x1.Node, x1.Peri, x1.Phase⟩ : Orbit) x2)) (
   let x3 := impl_PeriodOf (⟨x1.Long, x1.Round, x1.Tilt, x1.Node, x1.Peri, x1.Phase⟩ : Orbit) x2;
   .need ((impl_RateOf_need (⟨x1.Long, x1.Round, x1.Tilt, x1.Node, x1.Peri, x1.Phase⟩ : Orbit) x2)) (
   let x4 := impl_RateOf (⟨x1.Long, x1.Round, x1.Tilt, x1.Node, x1.Peri, x1.Phase⟩ : Orbit) x2;
   .need ((impl_LaterOrbit_need (⟨x1.Long, x1.Round, x1.Tilt, x1.Node, x1.Peri, x1.Phase⟩ : Orbit) x2 x3.1)) (
   let x5 := impl_LaterOrbit (⟨x1.Long, x1.Round, x1.Tilt, x1.Node, x1.Peri, x1.Phase⟩ : Orbit) x2 x3.1;
   let x6 := fdiv .f32 x3.1 1073741824;
   .need ((impl_LaterOrbit_need (⟨x1.Long, x1.Round, x1.Tilt, x1.Node, x1.Peri, x1.Phase⟩ : Orbit) x2 x6)) (
   let x7 := impl_LaterOrbit (⟨x1.Long, x1.Round, x1.Tilt, x1.Node, x1.Peri, x1.Phase⟩ : Orbit) x2 x6;
   let x8 := fneg .f32 x3.1;
   let x9 := fdiv .f32 x8 1073741824;
   .need ((impl_LaterOrbit_need (⟨x7.1.Long, x7.1.Round, x7.1.Tilt, x7.1.Node, x7.1.Peri, x7.1.Phase⟩ : Orbit) x2 x9)) (
   let x10 := impl_LaterOrbit (⟨x7.1.Long, x7.1.Round, x7.1.Tilt, x7.1.Node, x7.1.Peri, x7.1.Phase⟩ : Orbit) x2 x9;
   .ask (!x3.2)
   (
    .leaf false)
   (
    .ask (!x4.2)
    (
     .leaf false)
    (
     .ask (!x5.2)
     (
      .leaf false)
     (
      .ask (!x7.2)
      (
       .leaf false)
      (
       .ask (!x10.2)
       (
        .leaf false)
       (
        .need ((laws_b10Turns_need x5.1.Phase x1.Phase)) (
        let x11 := laws_b10Turns x5.1.Phase x1.Phase;
        let x12 := fgt .f64 x11 4562254508917369340;
        .ask x12
        (
         .leaf false)
        (
         .need ((laws_b10Turns_need x10.1.Phase x1.Phase)) (
         let x13 := laws_b10Turns x10.1.Phase x1.Phase;
         let x14 := fgt .f64 x13 4562254508917369340;
         .ask x14
         (
          .leaf false)
         (
          .need ((laws_b10Turns_need x7.1.Phase x1.Phase)) (
          let x15 := laws_b10Turns x7.1.Phase x1.Phase;
          let x16 := laws_b10Gap x15 4602678819172646912;
          let x17 := fgt .f64 x16 4562254508917369340;
          .ask x17
          (
           .leaf false)
          (
           .need ((fconvOk .f32 x3.1 .f64)) (
           let x18 := fconv .f32 x3.1 .f64;
           .need ((fconvOk .f32 x4.1 .f64)) (
           let x19 := fconv .f32 x4.1 .f64;
           let x20 := fmul .f64 x18 x19;
           let x21 := laws_b10Gap x20 4618760256396512830;
           let x22 := fgt .f64 x21 4562254508917369340;
           .ask x22
           (
            .leaf false)
           (
            let x23 := fne .f32 x5.1.Long x1.Long;
            .ask x23
            (
             .leaf false)
            (
             let x24 := fne .f32 x5.1.Tilt x1.Tilt;
             .ask x24
             (
              .leaf false)
             (
              .need ((impl_NearOf_need (⟨x1.Long, x1.Round, x1.Tilt, x1.Node, x1.Peri, x1.Phase⟩ : Orbit))) (
              let x25 := impl_NearOf (⟨x1.Long, x1.Round, x1.Tilt, x1.Node, x1.Peri, x1.Phase⟩ : Orbit);
              .need ((impl_FarOf_need (⟨x1.Long, x1.Round, x1.Tilt, x1.Node, x1.Peri, x1.Phase⟩ : Orbit))) (
              let x26 := impl_FarOf (⟨x1.Long, x1.Round, x1.Tilt, x1.Node, x1.Peri, x1.Phase⟩ : Orbit);
              .need ((laws_b10At_need a1 3 12)) (
              let x27 := laws_b10At a1 3 12;
              let x28 := IntKind.wrap .i64 (1 + x27);
              .need ((impl_PlacesOf_need (⟨x1.Long, x1.Round, x1.Tilt, x1.Node, x1.Peri, x1.Phase⟩ : Orbit) x2 x28)) (
              let x29 := impl_PlacesOf (⟨x1.Long, x1.Round, x1.Tilt, x1.Node, x1.Peri, x1.Phase⟩ : Orbit) x2 x28;
              .ask ((isL x29))
              (
               .need ((impl_NearestOrbits_need (⟨x1.Long, x1.Round, x1.Tilt, x1.Node, x1.Peri, x1.Phase⟩ : Orbit) (⟨x1.Long, x1.Round, x1.Tilt, x1.Node, x1.Peri, x1.Phase⟩ : Orbit) x2 x28)) (
               let x30 := impl_NearestOrbits (⟨x1.Long, x1.Round, x1.Tilt, x1.Node, x1.Peri, x1.Phase⟩ : Orbit) (⟨x1.Long, x1.Round, x1.Tilt, x1.Node, x1.Peri, x1.Phase⟩ : Orbit) x2 x28;
               .ask (!x25.2)
               (
                .leaf false)
               (
                .ask (!x26.2)
                (
                 .leaf false)
                (
                 .skip (
                 .skip (
                 .skip (
                 .leaf false)))))))
              (
               .need ((impl_NearestOrbits_need (⟨x1.Long, x1.Round, x1.Tilt, x1.Node, x1.Peri, x1.Phase⟩ : Orbit) (⟨x1.Long, x1.Round, x1.Tilt, x1.Node, x1.Peri, x1.Phase⟩ : Orbit) x2 x28)) (
               let x30 := impl_NearestOrbits (⟨x1.Long, x1.Round, x1.Tilt, x1.Node, x1.Peri, x1.Phase⟩ : Orbit) (⟨x1.Long, x1.Round, x1.Tilt, x1.Node, x1.Peri, x1.Phase⟩ : Orbit) x2 x28;
               .ask (!x25.2)
               (
                .leaf false)
               (
                .ask (!x26.2)
                (
                 .leaf false)
                (
                 .skip (
                 .skip (
                 .skip (
                 .ask (!x30.2.2.2)
                 (
                  .leaf false)
                 (
                  let x31 := ((List.length (rightD x29) : Nat) : Int);
                  let x32 := (x31 != x28);
                  .ask x32
                  (
                   .leaf false)
                  (
                   let x33 := (x30.1 != 0);
                   .ask x33
                   (
                    .leaf false)
                   (
                    let x34 := (x30.2.1 != 0);
                    .ask x34
                    (
                     .leaf false)
                    (
                     let x35 := fne .f32 x30.2.2.1 0;
                     .ask x35
                     (
                      .leaf false)
                     (
                      let x36 := ((List.length (rightD x29) : Nat) : Int);
                      .need ((laws_FnLater_loop0_ends (a1, x2, x25.1, x26.1, x36, x1.Long, x1.Round, x1.Tilt, x1.Node, x1.Peri, x1.Phase, (rightD x29)) 0)) (
                      let x37 := laws_FnLater_loop0 (a1, x2, x25.1, x26.1, x36, x1.Long, x1.Round, x1.Tilt, x1.Node, x1.Peri, x1.Phase, (rightD x29)) 0;
                      .ask ((isL x37))
                      (
                       .leaf false)
                      (
                       .need ((spec_B10Ellipse_need a1)) (
                       let x38 := spec_B10Ellipse a1;
                       .need ((impl_TiltBetween_need (⟨x1.Long, x1.Round, x1.Tilt, x1.Node, x1.Peri, x1.Phase⟩ : Orbit) (⟨x38.Long, x38.Round, x38.Tilt, x38.Node, x38.Peri, x38.Phase⟩ : Orbit))) (
                       let x39 := impl_TiltBetween (⟨x1.Long, x1.Round, x1.Tilt, x1.Node, x1.Peri, x1.Phase⟩ : Orbit) (⟨x38.Long, x38.Round, x38.Tilt, x38.Node, x38.Peri, x38.Phase⟩ : Orbit);
                       .need ((impl_TiltBetween_need (⟨x38.Long, x38.Round, x38.Tilt, x38.Node, x38.Peri, x38.Phase⟩ : Orbit) (⟨x1.Long, x1.Round, x1.Tilt, x1.Node, x1.Peri, x1.Phase⟩ : Orbit))) (
                       let x40 := impl_TiltBetween (⟨x38.Long, x38.Round, x38.Tilt, x38.Node, x38.Peri, x38.Phase⟩ : Orbit) (⟨x1.Long, x1.Round, x1.Tilt, x1.Node, x1.Peri, x1.Phase⟩ : Orbit);
                       .need ((impl_TiltBetween_need (⟨x1.Long, x1.Round, x1.Tilt, x1.Node, x1.Peri, x1.Phase⟩ : Orbit) (⟨x1.Long, x1.Round, x1.Tilt, x1.Node, x1.Peri, x1.Phase⟩ : Orbit))) (
                       let x41 := impl_TiltBetween (⟨x1.Long, x1.Round, x1.Tilt, x1.Node, x1.Peri, x1.Phase⟩ : Orbit) (⟨x1.Long, x1.Round, x1.Tilt, x1.Node, x1.Peri, x1.Phase⟩ : Orbit);
                       .need ((impl_TrueTurn_need (⟨x1.Long, x1.Round, x1.Tilt, x1.Node, x1.Peri, x1.Phase⟩ : Orbit))) (
                       let x42 := impl_TrueTurn (⟨x1.Long, x1.Round, x1.Tilt, x1.Node, x1.Peri, x1.Phase⟩ : Orbit);
                       .need ((impl_PeriodOf_need (⟨3212836864, 1073741824, 0, 0, 0, 0⟩ : Orbit) x2)) (
                       let x43 := impl_PeriodOf (⟨3212836864, 1073741824, 0, 0, 0, 0⟩ : Orbit) x2;
                       .ask x39.2
                       (
                        .ask x40.2
                        (
                         .ask x41.2
                         (
                          .ask x42.2
                          (
                           .ask (!x43.2)
                           (
                            .need ((fconvOk .f32 x39.1 .f64)) (
                            let x44 := fconv .f32 x39.1 .f64;
                            .need ((fconvOk .f32 x40.1 .f64)) (
                            let x45 := fconv .f32 x40.1 .f64;
                            let x46 := laws_b10Gap x44 x45;
                            let x47 := flt .f64 x46 4562254508917369340;
                            .ask x47
                            (
                             let x48 := fge .f32 x39.1 0;
                             .ask x48
                             (
                              let x49 := fle .f32 x39.1 1056964608;
                              .ask x49
                              (
                               let x50 := flt .f32 x41.1 981668463;
                               .ask x50
                               (
                                let x51 := fgt .f32 x42.1 3204465033;
                                .ask x51
                                (
                                 let x52 := flt .f32 x42.1 1056981385;
                                 .leaf x52)
                                (
                                 .leaf false))
                               (
                                .leaf false))
                              (
                               .leaf false))
                             (
                              .leaf false))
                            (
                             .leaf false))))
                           (
                            .leaf false))
                          (
                           .leaf false))
                         (
                          .leaf false))
                        (
                         .leaf false))
                       (
                        .leaf false)))))))))))))))))))))))))))))))))))))))))))))))))
def laws_FnLater (a0 : List Int) (a1 : List Int) : Bool := (laws_FnLater_tree a0 a1).val
def laws_FnLater_need (a0 : List Int) (a1 : List Int) : Bool := (laws_FnLater_tree a0 a1).ok
def laws_FnLater_mk (p : Bool) : Ret := ⟨.bool p, []⟩
def laws_FnLater_c0 : Con := fun args => match args with
  | [.vslc 1 (.int .u8) a0, .vslc 2 (.int .u8) a1] => some (.need (laws_FnLater_need a0 a1) (.leaf (laws_FnLater_mk (laws_FnLater a0 a1))))
  | _ => none
theorem agree_cut {α : Type} {E : Env} {fuel : Nat} {x : Code} {rs : List ResultVar} {args : List PV} {mk : α → Ret} {l : List (Hs × α)} (n : Nat) (h1 : Agree E fuel x rs args mk (l.take n)) (h2 : Agree E fuel x rs args mk (l.drop n)) : Agree E fuel x rs args mk l := by
  have h3 : Agree E fuel x rs args mk (l.take n ++ l.drop n) := by
    unfold Agree at *
    rw [List.map_append, List.map_append, h1, h2]
  rwa [List.take_append_drop] at h3
def laws_FnLater_env : Env := ⟨gam [(4, laws_b10Long_c), (5, spec_B10Ellipse_c), (6, spec_B10Mass_c), (7, impl_PeriodOf_c), (8, impl_RateOf_c), (9, impl_LaterOrbit_c), (10, laws_b10Turns_c), (11, laws_b10Gap_c), (12, impl_NearOf_c), (13, impl_FarOf_c), (14, laws_b10At_c), (15, impl_PlacesOf_c), (16, impl_NearestOrbits_c), (17, spec_SizeOfVector_c), (18, impl_TiltBetween_c), (19, impl_TrueTurn_c)], tab, 309, laws_FnLater_loops⟩
set_option maxRecDepth 100000 in
theorem laws_FnLater_part0 (a0 a1 : List Int) : Agree laws_FnLater_env 100000 (bodyOf Try.f3) Try.f3.results.toList [.vslc 1 (.int .u8) a0, .vslc 2 (.int .u8) a1] laws_FnLater_mk ((laws_FnLater_tree a0 a1).leaves.take 8) := by unfold Agree; kernel_rfl
set_option maxRecDepth 100000 in
theorem laws_FnLater_part1 (a0 a1 : List Int) : Agree laws_FnLater_env 100000 (bodyOf Try.f3) Try.f3.results.toList [.vslc 1 (.int .u8) a0, .vslc 2 (.int .u8) a1] laws_FnLater_mk (((laws_FnLater_tree a0 a1).leaves.drop 8).take 8) := by unfold Agree; kernel_rfl
set_option maxRecDepth 100000 in
theorem laws_FnLater_part2 (a0 a1 : List Int) : Agree laws_FnLater_env 100000 (bodyOf Try.f3) Try.f3.results.toList [.vslc 1 (.int .u8) a0, .vslc 2 (.int .u8) a1] laws_FnLater_mk (((laws_FnLater_tree a0 a1).leaves.drop 16).take 8) := by unfold Agree; kernel_rfl
set_option maxRecDepth 100000 in
theorem laws_FnLater_part3 (a0 a1 : List Int) : Agree laws_FnLater_env 100000 (bodyOf Try.f3) Try.f3.results.toList [.vslc 1 (.int .u8) a0, .vslc 2 (.int .u8) a1] laws_FnLater_mk (((laws_FnLater_tree a0 a1).leaves.drop 24).take 8) := by unfold Agree; kernel_rfl
set_option maxRecDepth 100000 in
theorem laws_FnLater_part4 (a0 a1 : List Int) : Agree laws_FnLater_env 100000 (bodyOf Try.f3) Try.f3.results.toList [.vslc 1 (.int .u8) a0, .vslc 2 (.int .u8) a1] laws_FnLater_mk ((laws_FnLater_tree a0 a1).leaves.drop 32) := by unfold Agree; kernel_rfl
theorem laws_FnLater_parts (a0 a1 : List Int) : Agree laws_FnLater_env 100000 (bodyOf Try.f3) Try.f3.results.toList [.vslc 1 (.int .u8) a0, .vslc 2 (.int .u8) a1] laws_FnLater_mk (laws_FnLater_tree a0 a1).leaves := by
  refine agree_cut 8 (laws_FnLater_part0 a0 a1) ?_
  refine agree_cut 8 (laws_FnLater_part1 a0 a1) ?_
  rw [List.drop_drop]
  refine agree_cut 8 (laws_FnLater_part2 a0 a1) ?_
  rw [List.drop_drop]
  refine agree_cut 8 (laws_FnLater_part3 a0 a1) ?_
  rw [List.drop_drop]
  exact laws_FnLater_part4 a0 a1
set_option maxRecDepth 100000 in
theorem laws_FnLater_ok0 : FunOK Try.prog 3 laws_FnLater_c0.fn := by
  refine con_ok (Γ := gam [(4, laws_b10Long_c), (5, spec_B10Ellipse_c), (6, spec_B10Mass_c), (7, impl_PeriodOf_c), (8, impl_RateOf_c), (9, impl_LaterOrbit_c), (10, laws_b10Turns_c), (11, laws_b10Gap_c), (12, impl_NearOf_c), (13, impl_FarOf_c), (14, laws_b10At_c), (15, impl_PlacesOf_c), (16, impl_NearestOrbits_c), (17, spec_SizeOfVector_c), (18, impl_TiltBetween_c), (19, impl_TrueTurn_c)]) (gam_cons laws_b10Long_ok (gam_cons spec_B10Ellipse_ok (gam_cons spec_B10Mass_ok (gam_cons impl_PeriodOf_ok (gam_cons impl_RateOf_ok (gam_cons impl_LaterOrbit_ok (gam_cons laws_b10Turns_ok (gam_cons laws_b10Gap_ok (gam_cons impl_NearOf_ok (gam_cons impl_FarOf_ok (gam_cons laws_b10At_ok (gam_cons impl_PlacesOf_ok (gam_cons impl_NearestOrbits_ok (gam_cons spec_SizeOfVector_ok (gam_cons impl_TiltBetween_ok (gam_cons impl_TrueTurn_ok (gam_nil))))))))))))))))) tab_ok (by kernel_rfl) Try.func3 (by kernel_rfl) (by kernel_rfl) Try.ntmps3 rfl (loops := laws_FnLater_loops) (loopsOK_list (l := [lp Try.f3 0]) (by kernel_rfl) ⟨laws_FnLater_l0, trivial⟩) 100000 fun args t h => ?_
  unfold laws_FnLater_c0 at h
  split at h
  · rename_i a0 a1
    cases h
    exact ⟨rfl, agree_need (mk := laws_FnLater_mk) (t := laws_FnLater_tree a0 a1) (laws_FnLater_parts a0 a1)⟩
  · cases h
def laws_FnLater_c : Con := fun args => laws_FnLater_c0 (norms 0 [.slc (.int .u8), .slc (.int .u8)] args)
set_option maxRecDepth 100000 in
theorem laws_FnLater_ok : FunOK Try.prog 3 laws_FnLater_c.fn := con_norm [.slc (.int .u8), .slc (.int .u8)] laws_FnLater_ok0

end
end Go.Proofs.Ytomdjbkididieaa
