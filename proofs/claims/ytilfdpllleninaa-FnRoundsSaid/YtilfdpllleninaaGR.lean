/- THE WALK, BY A PROGRAM: typed functions, and that the code is they. -/
import Derived.Test.YtilfdpllleninaaGRa
namespace Go.Proofs.Ytilfdpllleninaa
set_option linter.unusedVariables false
set_option linter.unusedSimpArgs false
open Go.Extern
noncomputable section

/-- a loop of laws_FnRounds -/
def laws_FnRounds_loop0_step (p : List Int × List Int × Nat × Int × List Body) (s : Int) : Round (Int) ((Unit) ⊕ (Unit)) :=
  let x0 := decide (s < p.2.2.2.1);
  .ask x0
  (
   .need ((decide (0 ≤ s) && decide (s < ((List.length p.2.2.2.2 : Nat) : Int)))) (
   .need ((decide ((Int.toNat s) < List.length p.2.2.2.2))) (
   let x1 := List.getD p.2.2.2.2 (Int.toNat s) default;
   .need ((impl_SizeOfVector_need (⟨x1.At.X, x1.At.Y, x1.At.Z⟩ : Vec))) (
   let x2 := impl_SizeOfVector (⟨x1.At.X, x1.At.Y, x1.At.Z⟩ : Vec);
   .need ((fconvOk .f32 x2 .f64)) (
   let x3 := fconv .f32 x2 .f64;
   .need ((fconvOk .f32 p.2.2.1 .f64)) (
   let x4 := fconv .f32 p.2.2.1 .f64;
   .need ((laws_r8Gap_need x3 x4)) (
   let x5 := laws_r8Gap x3 x4;
   .need ((fconvOk .f32 p.2.2.1 .f64)) (
   let x6 := fconv .f32 p.2.2.1 .f64;
   let x7 := fmul .f64 4581421828931458171 x6;
   let x8 := fgt .f64 x5 x7;
   .ask x8
   (
    .leaf (.inr (.inl ()), []))
   (
    let x9 := IntKind.wrap .i64 (s + 1);
    .leaf (.inl x9, [0]))))))))))
  (
   .leaf (.inr (.inr ()), []))
def laws_FnRounds_loop0_L (p : List Int × List Int × Nat × Int × List Body) : LoopS (Int) ((Unit) ⊕ (Unit)) := { tl := fun s => [.vslc 1 (.int .u8) p.1, .vslc 2 (.int .u8) p.2.1, .junk, .junk, .junk, .junk, .junk, .flt .f32 p.2.2.1, .junk, .junk, .junk, .junk, .junk, .junk, .junk, .junk, .junk, .junk, .junk, .junk, .int .i64 p.2.2.2.1, .junk, .junk, .own 0, .junk, .int .i64 s], hl := fun s => [some (.typed 43 .body p.2.2.2.2)], ex := fun r => match r with | .inl r => .ret | .inr r => .exit 0, otl := fun r => match r with | .inl r => [.junk, .junk, .junk, .junk, .bool false] | .inr r => [.vslc 1 (.int .u8) p.1, .vslc 2 (.int .u8) p.2.1], ohl := fun r => match r with | .inl r => [] | .inr r => [] }
def laws_FnRounds_loop0_ext : St → Option ((List Int × List Int × Nat × Int × List Body) × (Int) × List Nat) := fun S => match (S.tm 0).unK, (S.tm 1).unK, (S.tm 7).unK, (S.tm 20).unK, (S.tm 23).unK, (S.tm 25).unK with
  | .vslc 1 (.int .u8) q0, .vslc 2 (.int .u8) q1, .flt .f32 q2, .int .i64 q3, .own i0, .int .i64 q4 => (match S.hp i0 with
    | some (.typed 43 .body q5) => some ((q0, q1, q2, q3, q5), q4, [i0])
    | _ => none)
  | _, _, _, _, _, _ => none
def laws_FnRounds_loop0_post (p : List Int × List Int × Nat × Int × List Body) (r : (Unit) ⊕ (Unit)) : DT (Ex × St) := .ask (isL r) (.leaf (.ret, LSt [.junk, .junk, .junk, .junk, .bool false] [])) (.leaf (.exit 0, LSt [.vslc 1 (.int .u8) p.1, .vslc 2 (.int .u8) p.2.1] []))
def laws_FnRounds_loop0 (p : List Int × List Int × Nat × Int × List Body) (s : Int) : (Unit) ⊕ (Unit) := loopVal (laws_FnRounds_loop0_step p) s
def laws_FnRounds_loop0_ends (p : List Int × List Int × Nat × Int × List Body) (s : Int) : Bool := loopEnds (laws_FnRounds_loop0_step p) s
def laws_FnRounds_loop0_F : LoopF := loopF laws_FnRounds_loop0_step laws_FnRounds_loop0_ext laws_FnRounds_loop0_post
set_option maxRecDepth 100000 in
theorem laws_FnRounds_loop0_hext : ∀ S p s fl, laws_FnRounds_loop0_ext S = some (p, s, fl) → Norm S fl ((laws_FnRounds_loop0_L p).tl s) ((laws_FnRounds_loop0_L p).hl s) (laws_FnRounds_loop0_L p).gl := by
  intro S p s fl h
  unfold laws_FnRounds_loop0_ext at h
  (repeat' split at h) <;> first
    | (cases h; constructor <;> simp_all [laws_FnRounds_loop0_L, keepT, keepH, rens, renH, PV.ren, Blk.ren, fOf, lget, nodup, natIn, lenEq, gtm, PV.unK])
    | cases h
set_option maxRecDepth 100000 in
theorem laws_FnRounds_loop0_hpost : ∀ p r e S', (laws_FnRounds_loop0_post p r).get = some (e, S') → e = (laws_FnRounds_loop0_L p).ex r ∧ S' = LSt ((laws_FnRounds_loop0_L p).otl r) ((laws_FnRounds_loop0_L p).ohl r) ((laws_FnRounds_loop0_L p).ogl r) := by
  intro p r e S' h
  unfold laws_FnRounds_loop0_post at h
  cases r <;> (simp only [isL, DT.get, Option.some.injEq, Prod.mk.injEq] at h; exact ⟨h.1.symm, h.2.symm⟩)

/-- a loop of laws_FnRounds -/
def laws_FnRounds_loop3_step (p : Nat × List Body × List Body) (s : Int) : Round (Int) ((Unit) ⊕ (Unit)) :=
  let x0 := ((List.length p.2.1 : Nat) : Int);
  let x1 := decide (s < x0);
  .ask x1
  (
   .need ((decide (0 ≤ s) && decide (s < ((List.length p.2.2 : Nat) : Int)))) (
   .need ((decide ((Int.toNat s) < List.length p.2.2))) (
   let x2 := List.getD p.2.2 (Int.toNat s) default;
   .need ((decide (0 ≤ s) && decide (s < ((List.length p.2.1 : Nat) : Int)))) (
   .need ((decide ((Int.toNat s) < List.length p.2.1))) (
   let x3 := List.getD p.2.1 (Int.toNat s) default;
   .need ((laws_r8Far_need (⟨x2.At.X, x2.At.Y, x2.At.Z⟩ : Vec) (⟨x3.At.X, x3.At.Y, x3.At.Z⟩ : Vec))) (
   let x4 := laws_r8Far (⟨x2.At.X, x2.At.Y, x2.At.Z⟩ : Vec) (⟨x3.At.X, x3.At.Y, x3.At.Z⟩ : Vec);
   .need ((fconvOk .f32 p.1 .f64)) (
   let x5 := fconv .f32 p.1 .f64;
   let x6 := fgt .f64 x4 x5;
   .ask x6
   (
    .leaf (.inr (.inl ()), []))
   (
    let x7 := IntKind.wrap .i64 (s + 1);
    .leaf (.inl x7, [0, 1])))))))))
  (
   .leaf (.inr (.inr ()), []))
def laws_FnRounds_loop3_L (p : Nat × List Body × List Body) : LoopS (Int) ((Unit) ⊕ (Unit)) := { tl := fun s => [.junk, .junk, .junk, .junk, .junk, .junk, .junk, .junk, .junk, .junk, .junk, .junk, .junk, .junk, .junk, .junk, .junk, .junk, .junk, .junk, .junk, .junk, .junk, .junk, .junk, .junk, .junk, .junk, .junk, .junk, .junk, .junk, .junk, .junk, .junk, .junk, .junk, .junk, .junk, .junk, .junk, .junk, .flt .f32 p.1, .own 0, .junk, .junk, .own 1, .junk, .int .i64 s], hl := fun s => [some (.typed 43 .body p.2.1), some (.typed 43 .body p.2.2)], ex := fun r => match r with | .inl r => .ret | .inr r => .exit 6, otl := fun r => match r with | .inl r => [.junk, .junk, .junk, .junk, .bool false] | .inr r => [.junk], ohl := fun r => match r with | .inl r => [] | .inr r => [] }
def laws_FnRounds_loop3_ext : St → Option ((Nat × List Body × List Body) × (Int) × List Nat) := fun S => match (S.tm 42).unK, (S.tm 43).unK, (S.tm 46).unK, (S.tm 48).unK with
  | .flt .f32 q0, .own i0, .own i1, .int .i64 q1 => (match S.hp i0 with
    | some (.typed 43 .body q2) => (match S.hp i1 with
    | some (.typed 43 .body q3) => (if nodup [i0, i1] = true then some ((q0, q2, q3), q1, [i0, i1]) else none)
    | _ => none)
    | _ => none)
  | _, _, _, _ => none
def laws_FnRounds_loop3_post (p : Nat × List Body × List Body) (r : (Unit) ⊕ (Unit)) : DT (Ex × St) := .ask (isL r) (.leaf (.ret, LSt [.junk, .junk, .junk, .junk, .bool false] [])) (.leaf (.exit 6, LSt [.junk] []))
def laws_FnRounds_loop3 (p : Nat × List Body × List Body) (s : Int) : (Unit) ⊕ (Unit) := loopVal (laws_FnRounds_loop3_step p) s
def laws_FnRounds_loop3_ends (p : Nat × List Body × List Body) (s : Int) : Bool := loopEnds (laws_FnRounds_loop3_step p) s
def laws_FnRounds_loop3_F : LoopF := loopF laws_FnRounds_loop3_step laws_FnRounds_loop3_ext laws_FnRounds_loop3_post
set_option maxRecDepth 100000 in
theorem laws_FnRounds_loop3_hext : ∀ S p s fl, laws_FnRounds_loop3_ext S = some (p, s, fl) → Norm S fl ((laws_FnRounds_loop3_L p).tl s) ((laws_FnRounds_loop3_L p).hl s) (laws_FnRounds_loop3_L p).gl := by
  intro S p s fl h
  unfold laws_FnRounds_loop3_ext at h
  (repeat' split at h) <;> first
    | (cases h; constructor <;> simp_all [laws_FnRounds_loop3_L, keepT, keepH, rens, renH, PV.ren, Blk.ren, fOf, lget, nodup, natIn, lenEq, gtm, PV.unK])
    | cases h
set_option maxRecDepth 100000 in
theorem laws_FnRounds_loop3_hpost : ∀ p r e S', (laws_FnRounds_loop3_post p r).get = some (e, S') → e = (laws_FnRounds_loop3_L p).ex r ∧ S' = LSt ((laws_FnRounds_loop3_L p).otl r) ((laws_FnRounds_loop3_L p).ohl r) ((laws_FnRounds_loop3_L p).ogl r) := by
  intro p r e S' h
  unfold laws_FnRounds_loop3_post at h
  cases r <;> (simp only [isL, DT.get, Option.some.injEq, Prod.mk.injEq] at h; exact ⟨h.1.symm, h.2.symm⟩)

def laws_FnRounds_loops : Nat → Option LoopF := loopTab [(19, laws_FnRounds_loop0_F), (48, laws_FnRounds_loop3_F)]
set_option maxRecDepth 100000 in
theorem laws_FnRounds_l3 : LoopOK Try.prog ⟨gam [(5, laws_r8Long_c), (6, laws_r8At_c), (7, impl_CircleBodies_c), (8, impl_RunBodies_c), (9, impl_MomentumOfBodies_c), (10, impl_BoundTo_c), (11, impl_NearestBodies_c), (12, impl_SizeOfVector_c), (13, laws_r8Gap_c), (14, impl_PolygonBodies_c), (15, spec_R8Bodies_c), (16, laws_r8Far_c), (17, impl_NearestPass_c), (18, impl_HalvedBodies_c)], tab, 351, laws_FnRounds_loops⟩ (lp Try.f3 3) :=
  loopOK_some (F := laws_FnRounds_loop3_F) (by kernel_rfl) (loopF_ok (E := ⟨gam [(5, laws_r8Long_c), (6, laws_r8At_c), (7, impl_CircleBodies_c), (8, impl_RunBodies_c), (9, impl_MomentumOfBodies_c), (10, impl_BoundTo_c), (11, impl_NearestBodies_c), (12, impl_SizeOfVector_c), (13, laws_r8Gap_c), (14, impl_PolygonBodies_c), (15, spec_R8Bodies_c), (16, laws_r8Far_c), (17, impl_NearestPass_c), (18, impl_HalvedBodies_c)], tab, 351, laws_FnRounds_loops⟩) ⟨gam_cons laws_r8Long_ok (gam_cons laws_r8At_ok (gam_cons impl_CircleBodies_ok (gam_cons impl_RunBodies_ok (gam_cons impl_MomentumOfBodies_ok (gam_cons impl_BoundTo_ok (gam_cons impl_NearestBodies_ok (gam_cons impl_SizeOfVector_ok (gam_cons laws_r8Gap_ok (gam_cons impl_PolygonBodies_ok (gam_cons spec_R8Bodies_ok (gam_cons laws_r8Far_ok (gam_cons impl_NearestPass_ok (gam_cons impl_HalvedBodies_ok (gam_nil)))))))))))))), tab_ok, by kernel_rfl⟩ (fuel := 100000) (loopsOK_list (l := []) (by kernel_rfl) trivial) (L := laws_FnRounds_loop3_L) (fun p s => by unfold AgreeL; exact ⟨by kernel_rfl, by kernel_rfl⟩) (fun _ r h => by cases r <;> exact Ex.noConfusion h) laws_FnRounds_loop3_hext laws_FnRounds_loop3_hpost)
theorem laws_FnRounds_l2 : LoopOK Try.prog ⟨gam [(5, laws_r8Long_c), (6, laws_r8At_c), (7, impl_CircleBodies_c), (8, impl_RunBodies_c), (9, impl_MomentumOfBodies_c), (10, impl_BoundTo_c), (11, impl_NearestBodies_c), (12, impl_SizeOfVector_c), (13, laws_r8Gap_c), (14, impl_PolygonBodies_c), (15, spec_R8Bodies_c), (16, laws_r8Far_c), (17, impl_NearestPass_c), (18, impl_HalvedBodies_c)], tab, 351, laws_FnRounds_loops⟩ (lp Try.f3 2) := loopOK_none (by kernel_rfl)
theorem laws_FnRounds_l1 : LoopOK Try.prog ⟨gam [(5, laws_r8Long_c), (6, laws_r8At_c), (7, impl_CircleBodies_c), (8, impl_RunBodies_c), (9, impl_MomentumOfBodies_c), (10, impl_BoundTo_c), (11, impl_NearestBodies_c), (12, impl_SizeOfVector_c), (13, laws_r8Gap_c), (14, impl_PolygonBodies_c), (15, spec_R8Bodies_c), (16, laws_r8Far_c), (17, impl_NearestPass_c), (18, impl_HalvedBodies_c)], tab, 351, laws_FnRounds_loops⟩ (lp Try.f3 1) := loopOK_none (by kernel_rfl)
set_option maxRecDepth 100000 in
theorem laws_FnRounds_l0 : LoopOK Try.prog ⟨gam [(5, laws_r8Long_c), (6, laws_r8At_c), (7, impl_CircleBodies_c), (8, impl_RunBodies_c), (9, impl_MomentumOfBodies_c), (10, impl_BoundTo_c), (11, impl_NearestBodies_c), (12, impl_SizeOfVector_c), (13, laws_r8Gap_c), (14, impl_PolygonBodies_c), (15, spec_R8Bodies_c), (16, laws_r8Far_c), (17, impl_NearestPass_c), (18, impl_HalvedBodies_c)], tab, 351, laws_FnRounds_loops⟩ (lp Try.f3 0) :=
  loopOK_some (F := laws_FnRounds_loop0_F) (by kernel_rfl) (loopF_ok (E := ⟨gam [(5, laws_r8Long_c), (6, laws_r8At_c), (7, impl_CircleBodies_c), (8, impl_RunBodies_c), (9, impl_MomentumOfBodies_c), (10, impl_BoundTo_c), (11, impl_NearestBodies_c), (12, impl_SizeOfVector_c), (13, laws_r8Gap_c), (14, impl_PolygonBodies_c), (15, spec_R8Bodies_c), (16, laws_r8Far_c), (17, impl_NearestPass_c), (18, impl_HalvedBodies_c)], tab, 351, laws_FnRounds_loops⟩) ⟨gam_cons laws_r8Long_ok (gam_cons laws_r8At_ok (gam_cons impl_CircleBodies_ok (gam_cons impl_RunBodies_ok (gam_cons impl_MomentumOfBodies_ok (gam_cons impl_BoundTo_ok (gam_cons impl_NearestBodies_ok (gam_cons impl_SizeOfVector_ok (gam_cons laws_r8Gap_ok (gam_cons impl_PolygonBodies_ok (gam_cons spec_R8Bodies_ok (gam_cons laws_r8Far_ok (gam_cons impl_NearestPass_ok (gam_cons impl_HalvedBodies_ok (gam_nil)))))))))))))), tab_ok, by kernel_rfl⟩ (fuel := 100000) (loopsOK_list (l := []) (by kernel_rfl) trivial) (L := laws_FnRounds_loop0_L) (fun p s => by unfold AgreeL; exact ⟨by kernel_rfl, by kernel_rfl⟩) (fun _ r h => by cases r <;> exact Ex.noConfusion h) laws_FnRounds_loop0_hext laws_FnRounds_loop0_hpost)
/-- loop.example/g01284/laws.FnRounds -/
def laws_FnRounds_tree (a0 : List Int) (a1 : List Int) : DT (Bool) :=
  let x0 := laws_r8Long a0 a1;
  .ask x0
  (
   .leaf true)
  (
   .need ((laws_r8At_need a1 0 8)) (
   let x1 := laws_r8At a1 0 8;
   let x2 := IntKind.wrap .i64 (1 + x1);
   let x3 := fofInt .f32 x2;
   let x4 := fdiv .f32 x3 1082130432;
   .need ((laws_r8At_need a1 1 8)) (
   let x5 := laws_r8At a1 1 8;
   let x6 := IntKind.wrap .i64 (1 + x5);
   let x7 := fofInt .f32 x6;
   let x8 := fdiv .f32 x7 1082130432;
   .need ((laws_r8At_need a1 2 8)) (
   let x9 := laws_r8At a1 2 8;
   let x10 := IntKind.wrap .i64 (4 + x9);
   let x11 := fofInt .f32 x10;
   let x12 := fdiv .f32 x11 1082130432;
   .need ((impl_CircleBodies_need x4 x8 x12)) (
   let x13 := impl_CircleBodies x4 x8 x12;
   .ask ((isL x13))
   (
    .need ((impl_RunBodies_need [] 0 1023410176 8)) (
    let x14 := impl_RunBodies [] 0 1023410176 8;
    .ask ((isL x14))
    (
     .need ((impl_MomentumOfBodies_need [])) (
     let x15 := impl_MomentumOfBodies [];
     .need ((impl_BoundTo_need [] 0 1)) (
     let x16 := impl_BoundTo [] 0 1;
     .need ((impl_NearestBodies_need [])) (
     let x17 := impl_NearestBodies [];
     .skip (
     .skip (
     .skip (
     .leaf false)))))))
    (
     .need ((impl_MomentumOfBodies_need [])) (
     let x15 := impl_MomentumOfBodies [];
     .need ((impl_BoundTo_need [] 0 1)) (
     let x16 := impl_BoundTo [] 0 1;
     .need ((impl_NearestBodies_need ((rightD x14)))) (
     let x17 := impl_NearestBodies ((rightD x14));
     .skip (
     .skip (
     .skip (
     .leaf false)))))))))
   (
    .need ((impl_RunBodies_need ((rightD x13)) 0 1023410176 8)) (
    let x14 := impl_RunBodies ((rightD x13)) 0 1023410176 8;
    .ask ((isL x14))
    (
     .need ((impl_MomentumOfBodies_need ((rightD x13)))) (
     let x15 := impl_MomentumOfBodies ((rightD x13));
     .need ((impl_BoundTo_need ((rightD x13)) 0 1)) (
     let x16 := impl_BoundTo ((rightD x13)) 0 1;
     .need ((impl_NearestBodies_need [])) (
     let x17 := impl_NearestBodies [];
     .skip (
     .skip (
     .skip (
     .skip (
     .skip (
     .skip (
     .leaf false))))))))))
    (
     .need ((impl_MomentumOfBodies_need ((rightD x13)))) (
     let x15 := impl_MomentumOfBodies ((rightD x13));
     .need ((impl_BoundTo_need ((rightD x13)) 0 1)) (
     let x16 := impl_BoundTo ((rightD x13)) 0 1;
     .need ((impl_NearestBodies_need ((rightD x14)))) (
     let x17 := impl_NearestBodies ((rightD x14));
     .skip (
     .skip (
     .skip (
     .skip (
     .skip (
     .skip (
     .ask (!x15.2)
     (
      .leaf false)
     (
      .ask (!x16.2)
      (
       .leaf false)
      (
       .ask (!x17.2.2.2)
       (
        .leaf false)
       (
        .ask (!x16.1)
        (
         .leaf false)
        (
         .need ((impl_SizeOfVector_need (⟨x15.1.X, x15.1.Y, x15.1.Z⟩ : Vec))) (
         let x18 := impl_SizeOfVector (⟨x15.1.X, x15.1.Y, x15.1.Z⟩ : Vec);
         let x19 := fgt .f32 x18 981668463;
         .ask x19
         (
          .leaf false)
         (
          .need ((fconvOk .f32 x17.2.2.1 .f64)) (
          let x20 := fconv .f32 x17.2.2.1 .f64;
          .need ((fconvOk .f32 x12 .f64)) (
          let x21 := fconv .f32 x12 .f64;
          .need ((laws_r8Gap_need x20 x21)) (
          let x22 := laws_r8Gap x20 x21;
          .need ((fconvOk .f32 x12 .f64)) (
          let x23 := fconv .f32 x12 .f64;
          let x24 := fmul .f64 4581421828931458171 x23;
          let x25 := fgt .f64 x22 x24;
          .ask x25
          (
           .leaf false)
          (
           .need ((laws_r8At_need a1 3 6)) (
           let x26 := laws_r8At a1 3 6;
           let x27 := IntKind.wrap .i64 (2 + x26);
           .need ((impl_PolygonBodies_need x27 x12 x4)) (
           let x28 := impl_PolygonBodies x27 x12 x4;
           .ask ((isL x28))
           (
            .need ((impl_RunBodies_need [] 0 1023410176 4)) (
            let x29 := impl_RunBodies [] 0 1023410176 4;
            .ask ((isL x29))
            (
             .skip (
             .skip (
             .skip (
             .leaf false))))
            (
             .skip (
             .skip (
             .skip (
             .leaf false))))))
           (
            .need ((impl_RunBodies_need ((rightD x28)) 0 1023410176 4)) (
            let x29 := impl_RunBodies ((rightD x28)) 0 1023410176 4;
            .ask ((isL x29))
            (
             .skip (
             .skip (
             .skip (
             .skip (
             .skip (
             .skip (
             .skip (
             .skip (
             .leaf false)))))))))
            (
             .skip (
             .skip (
             .skip (
             .skip (
             .skip (
             let x30 := ((List.length (rightD x29) : Nat) : Int);
             .skip (
             .skip (
             let x31 := (x30 != x27);
             .skip (
             .ask x31
             (
              .leaf false)
             (
              .need ((laws_FnRounds_loop0_ends (a0, a1, x12, x27, (rightD x29)) 0)) (
              let x32 := laws_FnRounds_loop0 (a0, a1, x12, x27, (rightD x29)) 0;
              .ask ((isL x32))
              (
               .leaf false)
              (
               .need ((spec_R8Bodies_need a0 4)) (
               let x33 := spec_R8Bodies a0 4;
               .need ((impl_NearestBodies_need x33)) (
               let x34 := impl_NearestBodies x33;
               .ask (!x34.2.2.2)
               (
                .leaf false)
               (
                let x35 := decide (x34.1 < 0);
                .ask x35
                (
                 .leaf false)
                (
                 let x36 := decide (x34.2.1 ≤ x34.1);
                 .ask x36
                 (
                  .leaf false)
                 (
                  let x37 := decide (x34.2.1 > 3);
                  .ask x37
                  (
                   .leaf false)
                  (
                   .need ((decide (0 ≤ x34.2.1) && decide (x34.2.1 < ((List.length x33 : Nat) : Int)))) (
                   .need ((decide ((Int.toNat x34.2.1) < List.length x33))) (
                   let x38 := List.getD x33 (Int.toNat x34.2.1) default;
                   .need ((decide (0 ≤ x34.1) && decide (x34.1 < ((List.length x33 : Nat) : Int)))) (
                   .need ((decide ((Int.toNat x34.1) < List.length x33))) (
                   let x39 := List.getD x33 (Int.toNat x34.1) default;
                   .need ((laws_r8Far_need (⟨x38.At.X, x38.At.Y, x38.At.Z⟩ : Vec) (⟨x39.At.X, x39.At.Y, x39.At.Z⟩ : Vec))) (
                   let x40 := laws_r8Far (⟨x38.At.X, x38.At.Y, x38.At.Z⟩ : Vec) (⟨x39.At.X, x39.At.Y, x39.At.Z⟩ : Vec);
                   .need ((fconvOk .f32 x34.2.2.1 .f64)) (
                   let x41 := fconv .f32 x34.2.2.1 .f64;
                   let x42 := fne .f64 x40 x41;
                   .ask x42
                   (
                    .leaf false)
                   (
                    .skip (
                    .skip (
                    .need ((decide (0 ≤ 1) && decide (1 < ((List.length x33 : Nat) : Int)))) (
                    .need ((decide (1 < List.length x33))) (
                    let x43 := List.getD x33 1 default;
                    .need ((decide (0 ≤ 0) && decide (0 < ((List.length x33 : Nat) : Int)))) (
                    .need ((decide (0 < List.length x33))) (
                    let x44 := List.getD x33 0 default;
                    .need ((laws_r8Far_need (⟨x43.At.X, x43.At.Y, x43.At.Z⟩ : Vec) (⟨x44.At.X, x44.At.Y, x44.At.Z⟩ : Vec))) (
                    let x45 := laws_r8Far (⟨x43.At.X, x43.At.Y, x43.At.Z⟩ : Vec) (⟨x44.At.X, x44.At.Y, x44.At.Z⟩ : Vec);
                    .need ((fconvOk .f32 x34.2.2.1 .f64)) (
                    let x46 := fconv .f32 x34.2.2.1 .f64;
                    let x47 := flt .f64 x45 x46;
                    .ask x47
                    (
                     .leaf false)
                    (
                     .skip (
                     .need ((decide (0 ≤ 2) && decide (2 < ((List.length x33 : Nat) : Int)))) (
                     .need ((decide (2 < List.length x33))) (
                     let x48 := List.getD x33 2 default;
                     .need ((decide (0 ≤ 0) && decide (0 < ((List.length x33 : Nat) : Int)))) (
                     .need ((decide (0 < List.length x33))) (
                     let x49 := List.getD x33 0 default;
                     .need ((laws_r8Far_need (⟨x48.At.X, x48.At.Y, x48.At.Z⟩ : Vec) (⟨x49.At.X, x49.At.Y, x49.At.Z⟩ : Vec))) (
                     let x50 := laws_r8Far (⟨x48.At.X, x48.At.Y, x48.At.Z⟩ : Vec) (⟨x49.At.X, x49.At.Y, x49.At.Z⟩ : Vec);
                     .need ((fconvOk .f32 x34.2.2.1 .f64)) (
                     let x51 := fconv .f32 x34.2.2.1 .f64;
                     let x52 := flt .f64 x50 x51;
                     .ask x52
                     (
                      .leaf false)
                     (
                      .skip (
                      .need ((decide (0 ≤ 3) && decide (3 < ((List.length x33 : Nat) : Int)))) (
                      .need ((decide (3 < List.length x33))) (
                      let x53 := List.getD x33 3 default;
                      .need ((decide (0 ≤ 0) && decide (0 < ((List.length x33 : Nat) : Int)))) (
                      .need ((decide (0 < List.length x33))) (
                      let x54 := List.getD x33 0 default;
                      .need ((laws_r8Far_need (⟨x53.At.X, x53.At.Y, x53.At.Z⟩ : Vec) (⟨x54.At.X, x54.At.Y, x54.At.Z⟩ : Vec))) (
                      let x55 := laws_r8Far (⟨x53.At.X, x53.At.Y, x53.At.Z⟩ : Vec) (⟨x54.At.X, x54.At.Y, x54.At.Z⟩ : Vec);
                      .need ((fconvOk .f32 x34.2.2.1 .f64)) (
                      let x56 := fconv .f32 x34.2.2.1 .f64;
                      let x57 := flt .f64 x55 x56;
                      .ask x57
                      (
                       .leaf false)
                      (
                       .skip (
                       .skip (
                       .skip (
                       .need ((decide (0 ≤ 2) && decide (2 < ((List.length x33 : Nat) : Int)))) (
                       .need ((decide (2 < List.length x33))) (
                       let x58 := List.getD x33 2 default;
                       .need ((decide (0 ≤ 1) && decide (1 < ((List.length x33 : Nat) : Int)))) (
                       .need ((decide (1 < List.length x33))) (
                       let x59 := List.getD x33 1 default;
                       .need ((laws_r8Far_need (⟨x58.At.X, x58.At.Y, x58.At.Z⟩ : Vec) (⟨x59.At.X, x59.At.Y, x59.At.Z⟩ : Vec))) (
                       let x60 := laws_r8Far (⟨x58.At.X, x58.At.Y, x58.At.Z⟩ : Vec) (⟨x59.At.X, x59.At.Y, x59.At.Z⟩ : Vec);
                       .need ((fconvOk .f32 x34.2.2.1 .f64)) (
                       let x61 := fconv .f32 x34.2.2.1 .f64;
                       let x62 := flt .f64 x60 x61;
                       .ask x62
                       (
                        .leaf false)
                       (
                        .skip (
                        .need ((decide (0 ≤ 3) && decide (3 < ((List.length x33 : Nat) : Int)))) (
                        .need ((decide (3 < List.length x33))) (
                        let x63 := List.getD x33 3 default;
                        .need ((decide (0 ≤ 1) && decide (1 < ((List.length x33 : Nat) : Int)))) (
                        .need ((decide (1 < List.length x33))) (
                        let x64 := List.getD x33 1 default;
                        .need ((laws_r8Far_need (⟨x63.At.X, x63.At.Y, x63.At.Z⟩ : Vec) (⟨x64.At.X, x64.At.Y, x64.At.Z⟩ : Vec))) (
                        let x65 := laws_r8Far (⟨x63.At.X, x63.At.Y, x63.At.Z⟩ : Vec) (⟨x64.At.X, x64.At.Y, x64.At.Z⟩ : Vec);
                        .need ((fconvOk .f32 x34.2.2.1 .f64)) (
                        let x66 := fconv .f32 x34.2.2.1 .f64;
                        let x67 := flt .f64 x65 x66;
                        .ask x67
                        (
                         .leaf false)
                        (
                         .skip (
                         .skip (
                         .skip (
                         .need ((decide (0 ≤ 3) && decide (3 < ((List.length x33 : Nat) : Int)))) (
                         .need ((decide (3 < List.length x33))) (
                         let x68 := List.getD x33 3 default;
                         .need ((decide (0 ≤ 2) && decide (2 < ((List.length x33 : Nat) : Int)))) (
                         .need ((decide (2 < List.length x33))) (
                         let x69 := List.getD x33 2 default;
                         .need ((laws_r8Far_need (⟨x68.At.X, x68.At.Y, x68.At.Z⟩ : Vec) (⟨x69.At.X, x69.At.Y, x69.At.Z⟩ : Vec))) (
                         let x70 := laws_r8Far (⟨x68.At.X, x68.At.Y, x68.At.Z⟩ : Vec) (⟨x69.At.X, x69.At.Y, x69.At.Z⟩ : Vec);
                         .need ((fconvOk .f32 x34.2.2.1 .f64)) (
                         let x71 := fconv .f32 x34.2.2.1 .f64;
                         let x72 := flt .f64 x70 x71;
                         .ask x72
                         (
                          .leaf false)
                         (
                          .skip (
                          .skip (
                          .skip (
                          .skip (
                          .need ((impl_NearestPass_need x33 1056964608 1031798784 6)) (
                          let x73 := impl_NearestPass x33 1056964608 1031798784 6;
                          .need ((impl_RunBodies_need x33 1056964608 1031798784 x73.1)) (
                          let x74 := impl_RunBodies x33 1056964608 1031798784 x73.1;
                          .ask ((isL x74))
                          (
                           .need ((impl_NearestBodies_need [])) (
                           let x75 := impl_NearestBodies [];
                           .ask (!x73.2.2)
                           (
                            .leaf false)
                           (
                            .skip (
                            .skip (
                            .skip (
                            .leaf false))))))
                          (
                           .need ((impl_NearestBodies_need ((rightD x74)))) (
                           let x75 := impl_NearestBodies ((rightD x74));
                           .ask (!x73.2.2)
                           (
                            .leaf false)
                           (
                            .skip (
                            .skip (
                            .skip (
                            .ask (!x75.2.2.2)
                            (
                             .leaf false)
                            (
                             let x76 := decide (x73.1 < 0);
                             .ask x76
                             (
                              .leaf false)
                             (
                              let x77 := decide (x73.1 > 6);
                              .ask x77
                              (
                               .leaf false)
                              (
                               let x78 := fne .f32 x75.2.2.1 x73.2.1;
                               .ask x78
                               (
                                .leaf false)
                               (
                                let x79 := fgt .f32 x73.2.1 x34.2.2.1;
                                .ask x79
                                (
                                 .leaf false)
                                (
                                 .need ((laws_r8At_need a1 4 8)) (
                                 let x80 := laws_r8At a1 4 8;
                                 let x81 := IntKind.wrap .i64 (1 + x80);
                                 let x82 := fofInt .f32 x81;
                                 let x83 := fdiv .f32 x82 1098907648;
                                 .need ((impl_HalvedBodies_need x33 1056964608 1056964608 x83)) (
                                 let x84 := impl_HalvedBodies x33 1056964608 1056964608 x83;
                                 .ask ((isL x84))
                                 (
                                  .skip (
                                  .leaf true))
                                 (
                                  .skip (
                                  let x85 := fofInt .f32 (rightD x84).2;
                                  let x86 := fdiv .f32 1056964608 x85;
                                  .need ((impl_RunBodies_need x33 1056964608 x86 ((rightD x84).2))) (
                                  let x87 := impl_RunBodies x33 1056964608 x86 ((rightD x84).2);
                                  .ask ((isL x87))
                                  (
                                   .skip (
                                   .skip (
                                   .skip (
                                   .leaf false))))
                                  (
                                   .skip (
                                   .skip (
                                   let x88 := decide ((rightD x84).2 < 1);
                                   .skip (
                                   .ask x88
                                   (
                                    .leaf false)
                                   (
                                    let x89 := decide ((rightD x84).2 > 16);
                                    .ask x89
                                    (
                                     .leaf false)
                                    (
                                     let x90 := ((List.length (rightD x87) : Nat) : Int);
                                     let x91 := ((List.length (rightD x84).1 : Nat) : Int);
                                     let x92 := (x90 != x91);
                                     .ask x92
                                     (
                                      .leaf false)
                                     (
                                      .need ((laws_FnRounds_loop3_ends (x83, (rightD x84).1, (rightD x87)) 0)) (
                                      let x93 := laws_FnRounds_loop3 (x83, (rightD x84).1, (rightD x87)) 0;
                                      .ask ((isL x93))
                                      (
                                       .leaf false)
                                      (
                                       .leaf true)))))))))))))))))))))))))))))))))))))))))))))))))))))))))))))))))))))))))))))))))))))))))))))))))))))))))))))))))))))))))))))))))))))))))))))
def laws_FnRounds (a0 : List Int) (a1 : List Int) : Bool := (laws_FnRounds_tree a0 a1).val
def laws_FnRounds_need (a0 : List Int) (a1 : List Int) : Bool := (laws_FnRounds_tree a0 a1).ok
def laws_FnRounds_mk (p : Bool) : Ret := ⟨.bool p, []⟩
def laws_FnRounds_c0 : Con := fun args => match args with
  | [.vslc 1 (.int .u8) a0, .vslc 2 (.int .u8) a1] => some (.need (laws_FnRounds_need a0 a1) (.leaf (laws_FnRounds_mk (laws_FnRounds a0 a1))))
  | _ => none
theorem agree_cut {α : Type} {E : Env} {fuel : Nat} {x : Code} {rs : List ResultVar} {args : List PV} {mk : α → Ret} {l : List (Hs × α)} (n : Nat) (h1 : Agree E fuel x rs args mk (l.take n)) (h2 : Agree E fuel x rs args mk (l.drop n)) : Agree E fuel x rs args mk l := by
  have h3 : Agree E fuel x rs args mk (l.take n ++ l.drop n) := by
    unfold Agree at *
    rw [List.map_append, List.map_append, h1, h2]
  rwa [List.take_append_drop] at h3
def laws_FnRounds_env : Env := ⟨gam [(5, laws_r8Long_c), (6, laws_r8At_c), (7, impl_CircleBodies_c), (8, impl_RunBodies_c), (9, impl_MomentumOfBodies_c), (10, impl_BoundTo_c), (11, impl_NearestBodies_c), (12, impl_SizeOfVector_c), (13, laws_r8Gap_c), (14, impl_PolygonBodies_c), (15, spec_R8Bodies_c), (16, laws_r8Far_c), (17, impl_NearestPass_c), (18, impl_HalvedBodies_c)], tab, 351, laws_FnRounds_loops⟩
set_option maxRecDepth 100000 in
theorem laws_FnRounds_part0 (a0 a1 : List Int) : Agree laws_FnRounds_env 100000 (bodyOf Try.f3) Try.f3.results.toList [.vslc 1 (.int .u8) a0, .vslc 2 (.int .u8) a1] laws_FnRounds_mk ((laws_FnRounds_tree a0 a1).leaves.take 6) := by unfold Agree; kernel_rfl
set_option maxRecDepth 100000 in
theorem laws_FnRounds_part1 (a0 a1 : List Int) : Agree laws_FnRounds_env 100000 (bodyOf Try.f3) Try.f3.results.toList [.vslc 1 (.int .u8) a0, .vslc 2 (.int .u8) a1] laws_FnRounds_mk (((laws_FnRounds_tree a0 a1).leaves.drop 6).take 6) := by unfold Agree; kernel_rfl
set_option maxRecDepth 100000 in
theorem laws_FnRounds_part2 (a0 a1 : List Int) : Agree laws_FnRounds_env 100000 (bodyOf Try.f3) Try.f3.results.toList [.vslc 1 (.int .u8) a0, .vslc 2 (.int .u8) a1] laws_FnRounds_mk (((laws_FnRounds_tree a0 a1).leaves.drop 12).take 6) := by unfold Agree; kernel_rfl
set_option maxRecDepth 100000 in
theorem laws_FnRounds_part3 (a0 a1 : List Int) : Agree laws_FnRounds_env 100000 (bodyOf Try.f3) Try.f3.results.toList [.vslc 1 (.int .u8) a0, .vslc 2 (.int .u8) a1] laws_FnRounds_mk (((laws_FnRounds_tree a0 a1).leaves.drop 18).take 6) := by unfold Agree; kernel_rfl
set_option maxRecDepth 100000 in
theorem laws_FnRounds_part4 (a0 a1 : List Int) : Agree laws_FnRounds_env 100000 (bodyOf Try.f3) Try.f3.results.toList [.vslc 1 (.int .u8) a0, .vslc 2 (.int .u8) a1] laws_FnRounds_mk (((laws_FnRounds_tree a0 a1).leaves.drop 24).take 6) := by unfold Agree; kernel_rfl
set_option maxRecDepth 100000 in
theorem laws_FnRounds_part5 (a0 a1 : List Int) : Agree laws_FnRounds_env 100000 (bodyOf Try.f3) Try.f3.results.toList [.vslc 1 (.int .u8) a0, .vslc 2 (.int .u8) a1] laws_FnRounds_mk (((laws_FnRounds_tree a0 a1).leaves.drop 30).take 6) := by unfold Agree; kernel_rfl
set_option maxRecDepth 100000 in
theorem laws_FnRounds_part6 (a0 a1 : List Int) : Agree laws_FnRounds_env 100000 (bodyOf Try.f3) Try.f3.results.toList [.vslc 1 (.int .u8) a0, .vslc 2 (.int .u8) a1] laws_FnRounds_mk ((laws_FnRounds_tree a0 a1).leaves.drop 36) := by unfold Agree; kernel_rfl
theorem laws_FnRounds_parts (a0 a1 : List Int) : Agree laws_FnRounds_env 100000 (bodyOf Try.f3) Try.f3.results.toList [.vslc 1 (.int .u8) a0, .vslc 2 (.int .u8) a1] laws_FnRounds_mk (laws_FnRounds_tree a0 a1).leaves := by
  refine agree_cut 6 (laws_FnRounds_part0 a0 a1) ?_
  refine agree_cut 6 (laws_FnRounds_part1 a0 a1) ?_
  rw [List.drop_drop]
  refine agree_cut 6 (laws_FnRounds_part2 a0 a1) ?_
  rw [List.drop_drop]
  refine agree_cut 6 (laws_FnRounds_part3 a0 a1) ?_
  rw [List.drop_drop]
  refine agree_cut 6 (laws_FnRounds_part4 a0 a1) ?_
  rw [List.drop_drop]
  refine agree_cut 6 (laws_FnRounds_part5 a0 a1) ?_
  rw [List.drop_drop]
  exact laws_FnRounds_part6 a0 a1
set_option maxRecDepth 100000 in
theorem laws_FnRounds_ok0 : FunOK Try.prog 3 laws_FnRounds_c0.fn := by
  refine con_ok (Γ := gam [(5, laws_r8Long_c), (6, laws_r8At_c), (7, impl_CircleBodies_c), (8, impl_RunBodies_c), (9, impl_MomentumOfBodies_c), (10, impl_BoundTo_c), (11, impl_NearestBodies_c), (12, impl_SizeOfVector_c), (13, laws_r8Gap_c), (14, impl_PolygonBodies_c), (15, spec_R8Bodies_c), (16, laws_r8Far_c), (17, impl_NearestPass_c), (18, impl_HalvedBodies_c)]) (gam_cons laws_r8Long_ok (gam_cons laws_r8At_ok (gam_cons impl_CircleBodies_ok (gam_cons impl_RunBodies_ok (gam_cons impl_MomentumOfBodies_ok (gam_cons impl_BoundTo_ok (gam_cons impl_NearestBodies_ok (gam_cons impl_SizeOfVector_ok (gam_cons laws_r8Gap_ok (gam_cons impl_PolygonBodies_ok (gam_cons spec_R8Bodies_ok (gam_cons laws_r8Far_ok (gam_cons impl_NearestPass_ok (gam_cons impl_HalvedBodies_ok (gam_nil))))))))))))))) tab_ok (by kernel_rfl) Try.func3 (by kernel_rfl) (by kernel_rfl) Try.ntmps3 rfl (loops := laws_FnRounds_loops) (loopsOK_list (l := [lp Try.f3 0, lp Try.f3 1, lp Try.f3 2, lp Try.f3 3]) (by kernel_rfl) ⟨laws_FnRounds_l0, ⟨laws_FnRounds_l1, ⟨laws_FnRounds_l2, ⟨laws_FnRounds_l3, trivial⟩⟩⟩⟩) 100000 fun args t h => ?_
  unfold laws_FnRounds_c0 at h
  split at h
  · rename_i a0 a1
    cases h
    exact ⟨rfl, agree_need (mk := laws_FnRounds_mk) (t := laws_FnRounds_tree a0 a1) (laws_FnRounds_parts a0 a1)⟩
  · cases h
def laws_FnRounds_c : Con := fun args => laws_FnRounds_c0 (norms 0 [.slc (.int .u8), .slc (.int .u8)] args)
set_option maxRecDepth 100000 in
theorem laws_FnRounds_ok : FunOK Try.prog 3 laws_FnRounds_c.fn := con_norm [.slc (.int .u8), .slc (.int .u8)] laws_FnRounds_ok0

end
end Go.Proofs.Ytilfdpllleninaa
