/- THE WALK, BY A PROGRAM: typed functions, and that the code is they. -/
import Derived.Test.YtkmcgfjhjfiomaaGSa
namespace Go.Proofs.Ytkmcgfjhjfiomaa
set_option linter.unusedVariables false
set_option linter.unusedSimpArgs false
open Go.Extern
noncomputable section

/-- a loop of laws_FnPasses -/
def laws_FnPasses_loop0_step (p : List Int × List Int) (s : Int × List Bool) : Round (Int × List Bool) (List Bool) :=
  .need ((laws_r8At_need p.2 0 12)) (
  let x0 := laws_r8At p.2 0 12;
  let x1 := IntKind.wrap .i64 (3 + x0);
  let x2 := decide (s.1 < x1);
  .ask x2
  (
   let x3 := IntKind.wrap .i64 (1 + s.1);
   .need ((laws_r8At_need p.2 x3 2)) (
   let x4 := laws_r8At p.2 x3 2;
   let x5 := (x4 == 1);
   .need ((decide ((List.length s.2 + List.length [x5]) * 1 ≤ 140737488355328) && decide (List.length s.2 + List.length [x5] ≤ 9223372036854775807))) (
   let x6 := s.2 ++ [x5];
   let x7 := IntKind.wrap .i64 (s.1 + 1);
   .leaf (.inl (x7, x6), [97]))))
  (
   .leaf (.inr s.2, [0])))
def laws_FnPasses_loop0_L (p : List Int × List Int) : LoopS (Int × List Bool) (List Bool) := { tl := fun s => [.vslc 1 (.int .u8) p.1, .vslc 2 (.int .u8) p.2, .junk, .junk, .junk, .own 0, .int .i64 s.1], hl := fun s => [some (.typed 4 .bool s.2)], ex := fun r => .exit 0, otl := fun r => [.vslc 1 (.int .u8) p.1, .vslc 2 (.int .u8) p.2, .junk, .junk, .junk, .own 0], ohl := fun r => [some (.typed 4 .bool r)] }
def laws_FnPasses_loop0_ext : St → Option ((List Int × List Int) × (Int × List Bool) × List Nat) := fun S => match (S.tm 0).unK, (S.tm 1).unK, (S.tm 5).unK, (S.tm 6).unK with
  | .vslc 1 (.int .u8) q0, .vslc 2 (.int .u8) q1, .own i0, .int .i64 q2 => (match S.hp i0 with
    | some (.typed 4 .bool q3) => some ((q0, q1), (q2, q3), [i0])
    | _ => none)
  | _, _, _, _ => none
def laws_FnPasses_loop0_post (p : List Int × List Int) (r : List Bool) : DT (Ex × St) := .leaf (.exit 0, LSt [.vslc 1 (.int .u8) p.1, .vslc 2 (.int .u8) p.2, .junk, .junk, .junk, .own 0] [some (.typed 4 .bool r)])
def laws_FnPasses_loop0 (p : List Int × List Int) (s : Int × List Bool) : List Bool := loopVal (laws_FnPasses_loop0_step p) s
def laws_FnPasses_loop0_ends (p : List Int × List Int) (s : Int × List Bool) : Bool := loopEnds (laws_FnPasses_loop0_step p) s
def laws_FnPasses_loop0_F : LoopF := loopF laws_FnPasses_loop0_step laws_FnPasses_loop0_ext laws_FnPasses_loop0_post
set_option maxRecDepth 100000 in
theorem laws_FnPasses_loop0_hext : ∀ S p s fl, laws_FnPasses_loop0_ext S = some (p, s, fl) → Norm S fl ((laws_FnPasses_loop0_L p).tl s) ((laws_FnPasses_loop0_L p).hl s) (laws_FnPasses_loop0_L p).gl := by
  intro S p s fl h
  unfold laws_FnPasses_loop0_ext at h
  (repeat' split at h) <;> first
    | (cases h; constructor <;> simp_all [laws_FnPasses_loop0_L, keepT, keepH, rens, renH, PV.ren, Blk.ren, fOf, lget, nodup, natIn, lenEq, gtm, PV.unK])
    | cases h
set_option maxRecDepth 100000 in
theorem laws_FnPasses_loop0_hpost : ∀ p r e S', (laws_FnPasses_loop0_post p r).get = some (e, S') → e = (laws_FnPasses_loop0_L p).ex r ∧ S' = LSt ((laws_FnPasses_loop0_L p).otl r) ((laws_FnPasses_loop0_L p).ohl r) ((laws_FnPasses_loop0_L p).ogl r) := by
  intro p r e S' h
  unfold laws_FnPasses_loop0_post at h
  simp only [DT.get, Option.some.injEq, Prod.mk.injEq] at h; exact ⟨h.1.symm, h.2.symm⟩

/-- a loop of laws_FnPasses -/
def laws_FnPasses_loop1_step (p : List Int × List Int × List Bool × List Int × List Int) (s : Int × Bool × Int) : Round (Int × Bool × Int) (Int × Bool) :=
  let x0 := ((List.length p.2.2.1 : Nat) : Int);
  let x1 := decide (s.2.2 < x0);
  .ask x1
  (
   .ask s.2.1
   (
    let x2 := decide (s.2.2 > 0);
    .ask x2
    (
     .need ((decide (0 ≤ s.2.2) && decide (s.2.2 < ((List.length p.2.2.1 : Nat) : Int)))) (
     .need ((decide ((Int.toNat s.2.2) < List.length p.2.2.1))) (
     let x3 := List.getD p.2.2.1 (Int.toNat s.2.2) default;
     let x4 := IntKind.wrap .i64 (s.2.2 - 1);
     .need ((decide (0 ≤ x4) && decide (x4 < ((List.length p.2.2.1 : Nat) : Int)))) (
     .need ((decide ((Int.toNat x4) < List.length p.2.2.1))) (
     let x5 := List.getD p.2.2.1 (Int.toNat x4) default;
     let x6 := (!(x3 == x5));
     .ask x6
     (
      let x7 := IntKind.wrap .i64 (s.1 + 1);
      let x8 := IntKind.wrap .i64 (s.2.2 + 1);
      .leaf (.inl (x7, true, x8), [0, 1, 2]))
     (
      let x7 := IntKind.wrap .i64 (s.2.2 + 1);
      .leaf (.inl (s.1, true, x7), [0, 1, 2])))))))
    (
     let x3 := IntKind.wrap .i64 (s.2.2 + 1);
     .leaf (.inl (s.1, true, x3), [0, 1, 2])))
   (
    .need ((decide (0 ≤ s.2.2) && decide (s.2.2 < ((List.length p.2.2.1 : Nat) : Int)))) (
    .need ((decide ((Int.toNat s.2.2) < List.length p.2.2.1))) (
    let x2 := List.getD p.2.2.1 (Int.toNat s.2.2) default;
    let x3 := decide (s.2.2 > 0);
    .ask x3
    (
     .need ((decide (0 ≤ s.2.2) && decide (s.2.2 < ((List.length p.2.2.1 : Nat) : Int)))) (
     .need ((decide ((Int.toNat s.2.2) < List.length p.2.2.1))) (
     let x4 := List.getD p.2.2.1 (Int.toNat s.2.2) default;
     let x5 := IntKind.wrap .i64 (s.2.2 - 1);
     .need ((decide (0 ≤ x5) && decide (x5 < ((List.length p.2.2.1 : Nat) : Int)))) (
     .need ((decide ((Int.toNat x5) < List.length p.2.2.1))) (
     let x6 := List.getD p.2.2.1 (Int.toNat x5) default;
     let x7 := (!(x4 == x6));
     .ask x7
     (
      let x8 := IntKind.wrap .i64 (s.1 + 1);
      let x9 := IntKind.wrap .i64 (s.2.2 + 1);
      .leaf (.inl (x8, x2, x9), [0, 1, 2]))
     (
      let x8 := IntKind.wrap .i64 (s.2.2 + 1);
      .leaf (.inl (s.1, x2, x8), [0, 1, 2])))))))
    (
     let x4 := IntKind.wrap .i64 (s.2.2 + 1);
     .leaf (.inl (s.1, x2, x4), [0, 1, 2]))))))
  (
   .leaf (.inr (s.1, s.2.1), [0, 1, 2]))
def laws_FnPasses_loop1_L (p : List Int × List Int × List Bool × List Int × List Int) : LoopS (Int × Bool × Int) (Int × Bool) := { tl := fun s => [.vslc 1 (.int .u8) p.1, .vslc 2 (.int .u8) p.2.1, .junk, .junk, .junk, .own 0, .junk, .own 1, .junk, .own 2, .junk, .int .i64 s.1, .bool s.2.1, .int .i64 s.2.2], hl := fun s => [some (.typed 4 .bool p.2.2.1), some (.typed 2 (.int .i64) p.2.2.2.1), some (.typed 2 (.int .i64) p.2.2.2.2)], ex := fun r => .exit 2, otl := fun r => [.vslc 1 (.int .u8) p.1, .vslc 2 (.int .u8) p.2.1, .junk, .junk, .junk, .own 0, .junk, .own 1, .junk, .own 2, .junk, .int .i64 r.1, .bool r.2], ohl := fun r => [some (.typed 4 .bool p.2.2.1), some (.typed 2 (.int .i64) p.2.2.2.1), some (.typed 2 (.int .i64) p.2.2.2.2)] }
def laws_FnPasses_loop1_ext : St → Option ((List Int × List Int × List Bool × List Int × List Int) × (Int × Bool × Int) × List Nat) := fun S => match (S.tm 0).unK, (S.tm 1).unK, (S.tm 5).unK, (S.tm 7).unK, (S.tm 9).unK, (S.tm 11).unK, (S.tm 12).unK, (S.tm 13).unK with
  | .vslc 1 (.int .u8) q0, .vslc 2 (.int .u8) q1, .own i0, .own i1, .own i2, .int .i64 q2, .bool q3, .int .i64 q4 => (match S.hp i0 with
    | some (.typed 4 .bool q5) => (match S.hp i1 with
    | some (.typed 2 (.int .i64) q6) => (match S.hp i2 with
    | some (.typed 2 (.int .i64) q7) => (if nodup [i0, i1, i2] = true then some ((q0, q1, q5, q6, q7), (q2, q3, q4), [i0, i1, i2]) else none)
    | _ => none)
    | _ => none)
    | _ => none)
  | _, _, _, _, _, _, _, _ => none
def laws_FnPasses_loop1_post (p : List Int × List Int × List Bool × List Int × List Int) (r : Int × Bool) : DT (Ex × St) := .leaf (.exit 2, LSt [.vslc 1 (.int .u8) p.1, .vslc 2 (.int .u8) p.2.1, .junk, .junk, .junk, .own 0, .junk, .own 1, .junk, .own 2, .junk, .int .i64 r.1, .bool r.2] [some (.typed 4 .bool p.2.2.1), some (.typed 2 (.int .i64) p.2.2.2.1), some (.typed 2 (.int .i64) p.2.2.2.2)])
def laws_FnPasses_loop1 (p : List Int × List Int × List Bool × List Int × List Int) (s : Int × Bool × Int) : Int × Bool := loopVal (laws_FnPasses_loop1_step p) s
def laws_FnPasses_loop1_ends (p : List Int × List Int × List Bool × List Int × List Int) (s : Int × Bool × Int) : Bool := loopEnds (laws_FnPasses_loop1_step p) s
def laws_FnPasses_loop1_F : LoopF := loopF laws_FnPasses_loop1_step laws_FnPasses_loop1_ext laws_FnPasses_loop1_post
set_option maxRecDepth 100000 in
theorem laws_FnPasses_loop1_hext : ∀ S p s fl, laws_FnPasses_loop1_ext S = some (p, s, fl) → Norm S fl ((laws_FnPasses_loop1_L p).tl s) ((laws_FnPasses_loop1_L p).hl s) (laws_FnPasses_loop1_L p).gl := by
  intro S p s fl h
  unfold laws_FnPasses_loop1_ext at h
  (repeat' split at h) <;> first
    | (cases h; constructor <;> simp_all [laws_FnPasses_loop1_L, keepT, keepH, rens, renH, PV.ren, Blk.ren, fOf, lget, nodup, natIn, lenEq, gtm, PV.unK])
    | cases h
set_option maxRecDepth 100000 in
theorem laws_FnPasses_loop1_hpost : ∀ p r e S', (laws_FnPasses_loop1_post p r).get = some (e, S') → e = (laws_FnPasses_loop1_L p).ex r ∧ S' = LSt ((laws_FnPasses_loop1_L p).otl r) ((laws_FnPasses_loop1_L p).ohl r) ((laws_FnPasses_loop1_L p).ogl r) := by
  intro p r e S' h
  unfold laws_FnPasses_loop1_post at h
  simp only [DT.get, Option.some.injEq, Prod.mk.injEq] at h; exact ⟨h.1.symm, h.2.symm⟩

/-- a loop of laws_FnPasses -/
def laws_FnPasses_loop2_step (p : List Int × List Int × Int × Int × List Bool) (s : Int × Int) : Round (Int × Int) ((Unit) ⊕ (Unit)) :=
  let x0 := ((List.length p.2.2.2.2 : Nat) : Int);
  let x1 := decide (s.2 < x0);
  .ask x1
  (
   .need ((decide (0 ≤ s.2) && decide (s.2 < ((List.length p.2.2.2.2 : Nat) : Int)))) (
   .need ((decide ((Int.toNat s.2) < List.length p.2.2.2.2))) (
   let x2 := List.getD p.2.2.2.2 (Int.toNat s.2) default;
   .ask (!x2)
   (
    let x3 := IntKind.wrap .i64 (s.2 + 1);
    .leaf (.inl (0, x3), [0]))
   (
    let x3 := IntKind.wrap .i64 (s.1 + 1);
    let x4 := decide (x3 > p.2.2.2.1);
    .ask x4
    (
     .leaf (.inr (.inl ()), []))
    (
     let x5 := decide (s.2 ≥ p.2.2.1);
     .ask x5
     (
      let x6 := IntKind.wrap .i64 (p.2.2.1 + p.2.2.2.1);
      let x7 := decide (s.2 < x6);
      .ask x7
      (
       .need ((decide (0 ≤ s.2) && decide (s.2 < ((List.length p.2.2.2.2 : Nat) : Int)))) (
       .need ((decide ((Int.toNat s.2) < List.length p.2.2.2.2))) (
       let x8 := List.getD p.2.2.2.2 (Int.toNat s.2) default;
       .ask (!x8)
       (
        .leaf (.inr (.inl ()), []))
       (
        let x9 := IntKind.wrap .i64 (s.2 + 1);
        .leaf (.inl (x3, x9), [0])))))
      (
       let x8 := IntKind.wrap .i64 (s.2 + 1);
       .leaf (.inl (x3, x8), [0])))
     (
      let x6 := IntKind.wrap .i64 (s.2 + 1);
      .leaf (.inl (x3, x6), [0])))))))
  (
   .leaf (.inr (.inr ()), [0]))
def laws_FnPasses_loop2_L (p : List Int × List Int × Int × Int × List Bool) : LoopS (Int × Int) ((Unit) ⊕ (Unit)) := { tl := fun s => [.vslc 1 (.int .u8) p.1, .vslc 2 (.int .u8) p.2.1, .junk, .junk, .junk, .own 0, .junk, .junk, .junk, .junk, .junk, .junk, .junk, .junk, .int .i64 p.2.2.1, .int .i64 p.2.2.2.1, .junk, .int .i64 s.1, .int .i64 s.2], hl := fun s => [some (.typed 4 .bool p.2.2.2.2)], ex := fun r => match r with | .inl r => .ret | .inr r => .exit 4, otl := fun r => match r with | .inl r => [.junk, .junk, .junk, .junk, .bool false] | .inr r => [.vslc 1 (.int .u8) p.1, .vslc 2 (.int .u8) p.2.1, .junk, .junk, .junk, .own 0, .junk, .junk, .junk, .junk, .junk, .junk, .junk, .junk, .int .i64 p.2.2.1, .int .i64 p.2.2.2.1], ohl := fun r => match r with | .inl r => [] | .inr r => [some (.typed 4 .bool p.2.2.2.2)] }
def laws_FnPasses_loop2_ext : St → Option ((List Int × List Int × Int × Int × List Bool) × (Int × Int) × List Nat) := fun S => match (S.tm 0).unK, (S.tm 1).unK, (S.tm 5).unK, (S.tm 14).unK, (S.tm 15).unK, (S.tm 17).unK, (S.tm 18).unK with
  | .vslc 1 (.int .u8) q0, .vslc 2 (.int .u8) q1, .own i0, .int .i64 q2, .int .i64 q3, .int .i64 q4, .int .i64 q5 => (match S.hp i0 with
    | some (.typed 4 .bool q6) => some ((q0, q1, q2, q3, q6), (q4, q5), [i0])
    | _ => none)
  | _, _, _, _, _, _, _ => none
def laws_FnPasses_loop2_post (p : List Int × List Int × Int × Int × List Bool) (r : (Unit) ⊕ (Unit)) : DT (Ex × St) := .ask (isL r) (.leaf (.ret, LSt [.junk, .junk, .junk, .junk, .bool false] [])) (.leaf (.exit 4, LSt [.vslc 1 (.int .u8) p.1, .vslc 2 (.int .u8) p.2.1, .junk, .junk, .junk, .own 0, .junk, .junk, .junk, .junk, .junk, .junk, .junk, .junk, .int .i64 p.2.2.1, .int .i64 p.2.2.2.1] [some (.typed 4 .bool p.2.2.2.2)]))
def laws_FnPasses_loop2 (p : List Int × List Int × Int × Int × List Bool) (s : Int × Int) : (Unit) ⊕ (Unit) := loopVal (laws_FnPasses_loop2_step p) s
def laws_FnPasses_loop2_ends (p : List Int × List Int × Int × Int × List Bool) (s : Int × Int) : Bool := loopEnds (laws_FnPasses_loop2_step p) s
def laws_FnPasses_loop2_F : LoopF := loopF laws_FnPasses_loop2_step laws_FnPasses_loop2_ext laws_FnPasses_loop2_post
set_option maxRecDepth 100000 in
theorem laws_FnPasses_loop2_hext : ∀ S p s fl, laws_FnPasses_loop2_ext S = some (p, s, fl) → Norm S fl ((laws_FnPasses_loop2_L p).tl s) ((laws_FnPasses_loop2_L p).hl s) (laws_FnPasses_loop2_L p).gl := by
  intro S p s fl h
  unfold laws_FnPasses_loop2_ext at h
  (repeat' split at h) <;> first
    | (cases h; constructor <;> simp_all [laws_FnPasses_loop2_L, keepT, keepH, rens, renH, PV.ren, Blk.ren, fOf, lget, nodup, natIn, lenEq, gtm, PV.unK])
    | cases h
set_option maxRecDepth 100000 in
theorem laws_FnPasses_loop2_hpost : ∀ p r e S', (laws_FnPasses_loop2_post p r).get = some (e, S') → e = (laws_FnPasses_loop2_L p).ex r ∧ S' = LSt ((laws_FnPasses_loop2_L p).otl r) ((laws_FnPasses_loop2_L p).ohl r) ((laws_FnPasses_loop2_L p).ogl r) := by
  intro p r e S' h
  unfold laws_FnPasses_loop2_post at h
  cases r <;> (simp only [isL, DT.get, Option.some.injEq, Prod.mk.injEq] at h; exact ⟨h.1.symm, h.2.symm⟩)

/-- a loop of laws_FnPasses -/
def laws_FnPasses_loop3_step (p : List Int × List Int × Nat × Nat × Nat × Nat × Nat × Nat × Nat × Nat × Nat × Nat × List Mark × List Bool) (s : Int) : Round (Int) ((Unit) ⊕ (Unit)) :=
  let x0 := decide (s < 4);
  .ask x0
  (
   let x1 := fofInt .f32 s;
   let x2 := fmul .f32 x1 1048576000;
   let x3 := fadd .f32 1056964608 x2;
   .need ((impl_LaterOrbit_need (⟨p.2.2.2.2.2.2.1, p.2.2.2.2.2.2.2.1, p.2.2.2.2.2.2.2.2.1, p.2.2.2.2.2.2.2.2.2.1, p.2.2.2.2.2.2.2.2.2.2.1, p.2.2.2.2.2.2.2.2.2.2.2.1⟩ : Orbit) p.2.2.1 x3)) (
   let x4 := impl_LaterOrbit (⟨p.2.2.2.2.2.2.1, p.2.2.2.2.2.2.2.1, p.2.2.2.2.2.2.2.2.1, p.2.2.2.2.2.2.2.2.2.1, p.2.2.2.2.2.2.2.2.2.2.1, p.2.2.2.2.2.2.2.2.2.2.2.1⟩ : Orbit) p.2.2.1 x3;
   .need ((impl_StateOf_need (⟨x4.1.Long, x4.1.Round, x4.1.Tilt, x4.1.Node, x4.1.Peri, x4.1.Phase⟩ : Orbit) p.2.2.1)) (
   let x5 := impl_StateOf (⟨x4.1.Long, x4.1.Round, x4.1.Tilt, x4.1.Node, x4.1.Peri, x4.1.Phase⟩ : Orbit) p.2.2.1;
   .need ((impl_MarkOf_need (⟨p.2.2.1, p.2.2.2.1, p.2.2.2.2.1, p.2.2.2.2.2.1⟩ : Ball) (⟨x5.1.X, x5.1.Y, x5.1.Z⟩ : Vec) x3)) (
   let x6 := impl_MarkOf (⟨p.2.2.1, p.2.2.2.1, p.2.2.2.2.1, p.2.2.2.2.2.1⟩ : Ball) (⟨x5.1.X, x5.1.Y, x5.1.Z⟩ : Vec) x3;
   .ask (!x4.2)
   (
    .leaf (.inr (.inl ()), []))
   (
    .ask (!x5.2.2)
    (
     .leaf (.inr (.inl ()), []))
    (
     .ask (!x6.2)
     (
      .leaf (.inr (.inl ()), []))
     (
      .need ((decide (0 ≤ s) && decide (s < ((List.length p.2.2.2.2.2.2.2.2.2.2.2.2.1 : Nat) : Int)))) (
      .need ((decide ((Int.toNat s) < List.length p.2.2.2.2.2.2.2.2.2.2.2.2.1))) (
      let x7 := List.getD p.2.2.2.2.2.2.2.2.2.2.2.2.1 (Int.toNat s) default;
      .need ((impl_SameMark_need (⟨x6.1.North, x6.1.East, x6.1.High⟩ : Mark) (⟨x7.North, x7.East, x7.High⟩ : Mark))) (
      let x8 := impl_SameMark (⟨x6.1.North, x6.1.East, x6.1.High⟩ : Mark) (⟨x7.North, x7.East, x7.High⟩ : Mark);
      .ask (!x8)
      (
       .leaf (.inr (.inl ()), []))
      (
       .need ((spec_R8Mark_need p.1)) (
       let x9 := spec_R8Mark p.1;
       .need ((impl_RiseAt_need (⟨p.2.2.1, p.2.2.2.1, p.2.2.2.2.1, p.2.2.2.2.2.1⟩ : Ball) (⟨x9.North, x9.East, x9.High⟩ : Mark) (⟨x5.1.X, x5.1.Y, x5.1.Z⟩ : Vec) x3)) (
       let x10 := impl_RiseAt (⟨p.2.2.1, p.2.2.2.1, p.2.2.2.2.1, p.2.2.2.2.2.1⟩ : Ball) (⟨x9.North, x9.East, x9.High⟩ : Mark) (⟨x5.1.X, x5.1.Y, x5.1.Z⟩ : Vec) x3;
       .skip (
       .skip (
       .skip (
       .ask (!x10.2)
       (
        .skip (
        .skip (
        .leaf (.inr (.inl ()), []))))
       (
        .need ((decide (0 ≤ s) && decide (s < ((List.length p.2.2.2.2.2.2.2.2.2.2.2.2.2 : Nat) : Int)))) (
        .need ((decide ((Int.toNat s) < List.length p.2.2.2.2.2.2.2.2.2.2.2.2.2))) (
        let x11 := List.getD p.2.2.2.2.2.2.2.2.2.2.2.2.2 (Int.toNat s) default;
        let x12 := fge .f32 x10.1 0;
        let x13 := (!(x11 == x12));
        .skip (
        .skip (
        .ask x13
        (
         .leaf (.inr (.inl ()), []))
        (
         let x14 := IntKind.wrap .i64 (s + 1);
         .leaf (.inl x14, [0, 1, 2, 3])))))))))))))))))))))))
  (
   .leaf (.inr (.inr ()), [0, 1]))
def laws_FnPasses_loop3_L (p : List Int × List Int × Nat × Nat × Nat × Nat × Nat × Nat × Nat × Nat × Nat × Nat × List Mark × List Bool) : LoopS (Int) ((Unit) ⊕ (Unit)) := { tl := fun s => [.vslc 1 (.int .u8) p.1, .vslc 2 (.int .u8) p.2.1, .junk, .junk, .junk, .junk, .junk, .junk, .junk, .junk, .junk, .junk, .junk, .junk, .junk, .junk, .junk, .junk, .junk, .ptr 0 0, .ptr 1 0, .own 2, .junk, .own 3, .bool true, .int .i64 s], hl := fun s => [some (.cells [.flt .f32 p.2.2.1, .flt .f32 p.2.2.2.1, .flt .f32 p.2.2.2.2.1, .flt .f32 p.2.2.2.2.2.1]), some (.cells [.flt .f32 p.2.2.2.2.2.2.1, .flt .f32 p.2.2.2.2.2.2.2.1, .flt .f32 p.2.2.2.2.2.2.2.2.1, .flt .f32 p.2.2.2.2.2.2.2.2.2.1, .flt .f32 p.2.2.2.2.2.2.2.2.2.2.1, .flt .f32 p.2.2.2.2.2.2.2.2.2.2.2.1]), some (.typed 44 .mark p.2.2.2.2.2.2.2.2.2.2.2.2.1), some (.typed 4 .bool p.2.2.2.2.2.2.2.2.2.2.2.2.2)], ex := fun r => match r with | .inl r => .ret | .inr r => .exit 6, otl := fun r => match r with | .inl r => [.junk, .junk, .junk, .junk, .bool false] | .inr r => [.junk, .vslc 2 (.int .u8) p.2.1, .junk, .junk, .junk, .junk, .junk, .junk, .junk, .junk, .junk, .junk, .junk, .junk, .junk, .junk, .junk, .junk, .junk, .ptr 0 0, .ptr 1 0], ohl := fun r => match r with | .inl r => [] | .inr r => [some (.cells [.flt .f32 p.2.2.1, .flt .f32 p.2.2.2.1, .flt .f32 p.2.2.2.2.1, .flt .f32 p.2.2.2.2.2.1]), some (.cells [.flt .f32 p.2.2.2.2.2.2.1, .flt .f32 p.2.2.2.2.2.2.2.1, .flt .f32 p.2.2.2.2.2.2.2.2.1, .flt .f32 p.2.2.2.2.2.2.2.2.2.1, .flt .f32 p.2.2.2.2.2.2.2.2.2.2.1, .flt .f32 p.2.2.2.2.2.2.2.2.2.2.2.1])] }
def laws_FnPasses_loop3_ext : St → Option ((List Int × List Int × Nat × Nat × Nat × Nat × Nat × Nat × Nat × Nat × Nat × Nat × List Mark × List Bool) × (Int) × List Nat) := fun S => match (S.tm 0).unK, (S.tm 1).unK, (S.tm 19).unK, (S.tm 20).unK, (S.tm 21).unK, (S.tm 23).unK, (S.tm 24).unK, (S.tm 25).unK with
  | .vslc 1 (.int .u8) q0, .vslc 2 (.int .u8) q1, .ptr i0 0, .ptr i1 0, .own i2, .own i3, .bool true, .int .i64 q3 => (match S.hp i0 with
    | some (.cells [.flt .f32 q4, .flt .f32 q5, .flt .f32 q6, .flt .f32 q7]) => (match S.hp i1 with
    | some (.cells [.flt .f32 q8, .flt .f32 q9, .flt .f32 q10, .flt .f32 q11, .flt .f32 q12, .flt .f32 q13]) => (match S.hp i2 with
    | some (.typed 44 .mark q14) => (match S.hp i3 with
    | some (.typed 4 .bool q15) => (if nodup [i0, i1, i2, i3] = true then some ((q0, q1, q4, q5, q6, q7, q8, q9, q10, q11, q12, q13, q14, q15), q3, [i0, i1, i2, i3]) else none)
    | _ => none)
    | _ => none)
    | _ => none)
    | _ => none)
  | _, _, _, _, _, _, _, _ => none
def laws_FnPasses_loop3_post (p : List Int × List Int × Nat × Nat × Nat × Nat × Nat × Nat × Nat × Nat × Nat × Nat × List Mark × List Bool) (r : (Unit) ⊕ (Unit)) : DT (Ex × St) := .ask (isL r) (.leaf (.ret, LSt [.junk, .junk, .junk, .junk, .bool false] [])) (.leaf (.exit 6, LSt [.junk, .vslc 2 (.int .u8) p.2.1, .junk, .junk, .junk, .junk, .junk, .junk, .junk, .junk, .junk, .junk, .junk, .junk, .junk, .junk, .junk, .junk, .junk, .ptr 0 0, .ptr 1 0] [some (.cells [.flt .f32 p.2.2.1, .flt .f32 p.2.2.2.1, .flt .f32 p.2.2.2.2.1, .flt .f32 p.2.2.2.2.2.1]), some (.cells [.flt .f32 p.2.2.2.2.2.2.1, .flt .f32 p.2.2.2.2.2.2.2.1, .flt .f32 p.2.2.2.2.2.2.2.2.1, .flt .f32 p.2.2.2.2.2.2.2.2.2.1, .flt .f32 p.2.2.2.2.2.2.2.2.2.2.1, .flt .f32 p.2.2.2.2.2.2.2.2.2.2.2.1])]))
def laws_FnPasses_loop3 (p : List Int × List Int × Nat × Nat × Nat × Nat × Nat × Nat × Nat × Nat × Nat × Nat × List Mark × List Bool) (s : Int) : (Unit) ⊕ (Unit) := loopVal (laws_FnPasses_loop3_step p) s
def laws_FnPasses_loop3_ends (p : List Int × List Int × Nat × Nat × Nat × Nat × Nat × Nat × Nat × Nat × Nat × Nat × List Mark × List Bool) (s : Int) : Bool := loopEnds (laws_FnPasses_loop3_step p) s
def laws_FnPasses_loop3_F : LoopF := loopF laws_FnPasses_loop3_step laws_FnPasses_loop3_ext laws_FnPasses_loop3_post
set_option maxRecDepth 100000 in
theorem laws_FnPasses_loop3_hext : ∀ S p s fl, laws_FnPasses_loop3_ext S = some (p, s, fl) → Norm S fl ((laws_FnPasses_loop3_L p).tl s) ((laws_FnPasses_loop3_L p).hl s) (laws_FnPasses_loop3_L p).gl := by
  intro S p s fl h
  unfold laws_FnPasses_loop3_ext at h
  (repeat' split at h) <;> first
    | (cases h; constructor <;> simp_all [laws_FnPasses_loop3_L, keepT, keepH, rens, renH, PV.ren, Blk.ren, fOf, lget, nodup, natIn, lenEq, gtm, PV.unK])
    | cases h
set_option maxRecDepth 100000 in
theorem laws_FnPasses_loop3_hpost : ∀ p r e S', (laws_FnPasses_loop3_post p r).get = some (e, S') → e = (laws_FnPasses_loop3_L p).ex r ∧ S' = LSt ((laws_FnPasses_loop3_L p).otl r) ((laws_FnPasses_loop3_L p).ohl r) ((laws_FnPasses_loop3_L p).ogl r) := by
  intro p r e S' h
  unfold laws_FnPasses_loop3_post at h
  cases r <;> (simp only [isL, DT.get, Option.some.injEq, Prod.mk.injEq] at h; exact ⟨h.1.symm, h.2.symm⟩)

def laws_FnPasses_loops : Nat → Option LoopF := loopTab [(5, laws_FnPasses_loop0_F), (15, laws_FnPasses_loop1_F), (26, laws_FnPasses_loop2_F), (42, laws_FnPasses_loop3_F)]
set_option maxRecDepth 100000 in
theorem laws_FnPasses_l3 : LoopOK Try.prog ⟨gam [(5, laws_r8Long_c), (6, laws_r8At_c), (7, impl_RisesIn_c), (8, impl_SetsIn_c), (9, impl_LongestPass_c), (10, spec_R8Ball_c), (11, spec_R8Orbit_c), (12, impl_TrackOf_c), (14, spec_R8Mark_c), (13, impl_SeenFrom_c), (15, impl_LaterOrbit_c), (16, impl_StateOf_c), (17, impl_MarkOf_c), (18, impl_SameMark_c), (19, impl_RiseAt_c), (21, impl_ScaleVector_c), (20, impl_InShadow_c), (22, impl_ShadowShare_c)], tab, 389, laws_FnPasses_loops⟩ (lp Try.f3 3) :=
  loopOK_some (F := laws_FnPasses_loop3_F) (by kernel_rfl) (loopF_ok (E := ⟨gam [(5, laws_r8Long_c), (6, laws_r8At_c), (7, impl_RisesIn_c), (8, impl_SetsIn_c), (9, impl_LongestPass_c), (10, spec_R8Ball_c), (11, spec_R8Orbit_c), (12, impl_TrackOf_c), (14, spec_R8Mark_c), (13, impl_SeenFrom_c), (15, impl_LaterOrbit_c), (16, impl_StateOf_c), (17, impl_MarkOf_c), (18, impl_SameMark_c), (19, impl_RiseAt_c), (21, impl_ScaleVector_c), (20, impl_InShadow_c), (22, impl_ShadowShare_c)], tab, 389, laws_FnPasses_loops⟩) ⟨gam_cons laws_r8Long_ok (gam_cons laws_r8At_ok (gam_cons impl_RisesIn_ok (gam_cons impl_SetsIn_ok (gam_cons impl_LongestPass_ok (gam_cons spec_R8Ball_ok (gam_cons spec_R8Orbit_ok (gam_cons impl_TrackOf_ok (gam_cons spec_R8Mark_ok (gam_cons impl_SeenFrom_ok (gam_cons impl_LaterOrbit_ok (gam_cons impl_StateOf_ok (gam_cons impl_MarkOf_ok (gam_cons impl_SameMark_ok (gam_cons impl_RiseAt_ok (gam_cons impl_ScaleVector_ok (gam_cons impl_InShadow_ok (gam_cons impl_ShadowShare_ok (gam_nil)))))))))))))))))), tab_ok, by kernel_rfl⟩ (fuel := 100000) (loopsOK_list (l := []) (by kernel_rfl) trivial) (L := laws_FnPasses_loop3_L) (fun p s => by unfold AgreeL; exact ⟨by kernel_rfl, by kernel_rfl⟩) (fun _ r h => by cases r <;> exact Ex.noConfusion h) laws_FnPasses_loop3_hext laws_FnPasses_loop3_hpost)
set_option maxRecDepth 100000 in
theorem laws_FnPasses_l2 : LoopOK Try.prog ⟨gam [(5, laws_r8Long_c), (6, laws_r8At_c), (7, impl_RisesIn_c), (8, impl_SetsIn_c), (9, impl_LongestPass_c), (10, spec_R8Ball_c), (11, spec_R8Orbit_c), (12, impl_TrackOf_c), (14, spec_R8Mark_c), (13, impl_SeenFrom_c), (15, impl_LaterOrbit_c), (16, impl_StateOf_c), (17, impl_MarkOf_c), (18, impl_SameMark_c), (19, impl_RiseAt_c), (21, impl_ScaleVector_c), (20, impl_InShadow_c), (22, impl_ShadowShare_c)], tab, 389, laws_FnPasses_loops⟩ (lp Try.f3 2) :=
  loopOK_some (F := laws_FnPasses_loop2_F) (by kernel_rfl) (loopF_ok (E := ⟨gam [(5, laws_r8Long_c), (6, laws_r8At_c), (7, impl_RisesIn_c), (8, impl_SetsIn_c), (9, impl_LongestPass_c), (10, spec_R8Ball_c), (11, spec_R8Orbit_c), (12, impl_TrackOf_c), (14, spec_R8Mark_c), (13, impl_SeenFrom_c), (15, impl_LaterOrbit_c), (16, impl_StateOf_c), (17, impl_MarkOf_c), (18, impl_SameMark_c), (19, impl_RiseAt_c), (21, impl_ScaleVector_c), (20, impl_InShadow_c), (22, impl_ShadowShare_c)], tab, 389, laws_FnPasses_loops⟩) ⟨gam_cons laws_r8Long_ok (gam_cons laws_r8At_ok (gam_cons impl_RisesIn_ok (gam_cons impl_SetsIn_ok (gam_cons impl_LongestPass_ok (gam_cons spec_R8Ball_ok (gam_cons spec_R8Orbit_ok (gam_cons impl_TrackOf_ok (gam_cons spec_R8Mark_ok (gam_cons impl_SeenFrom_ok (gam_cons impl_LaterOrbit_ok (gam_cons impl_StateOf_ok (gam_cons impl_MarkOf_ok (gam_cons impl_SameMark_ok (gam_cons impl_RiseAt_ok (gam_cons impl_ScaleVector_ok (gam_cons impl_InShadow_ok (gam_cons impl_ShadowShare_ok (gam_nil)))))))))))))))))), tab_ok, by kernel_rfl⟩ (fuel := 100000) (loopsOK_list (l := []) (by kernel_rfl) trivial) (L := laws_FnPasses_loop2_L) (fun p s => by unfold AgreeL; exact ⟨by kernel_rfl, by kernel_rfl⟩) (fun _ r h => by cases r <;> exact Ex.noConfusion h) laws_FnPasses_loop2_hext laws_FnPasses_loop2_hpost)
set_option maxRecDepth 100000 in
theorem laws_FnPasses_l1 : LoopOK Try.prog ⟨gam [(5, laws_r8Long_c), (6, laws_r8At_c), (7, impl_RisesIn_c), (8, impl_SetsIn_c), (9, impl_LongestPass_c), (10, spec_R8Ball_c), (11, spec_R8Orbit_c), (12, impl_TrackOf_c), (14, spec_R8Mark_c), (13, impl_SeenFrom_c), (15, impl_LaterOrbit_c), (16, impl_StateOf_c), (17, impl_MarkOf_c), (18, impl_SameMark_c), (19, impl_RiseAt_c), (21, impl_ScaleVector_c), (20, impl_InShadow_c), (22, impl_ShadowShare_c)], tab, 389, laws_FnPasses_loops⟩ (lp Try.f3 1) :=
  loopOK_some (F := laws_FnPasses_loop1_F) (by kernel_rfl) (loopF_ok (E := ⟨gam [(5, laws_r8Long_c), (6, laws_r8At_c), (7, impl_RisesIn_c), (8, impl_SetsIn_c), (9, impl_LongestPass_c), (10, spec_R8Ball_c), (11, spec_R8Orbit_c), (12, impl_TrackOf_c), (14, spec_R8Mark_c), (13, impl_SeenFrom_c), (15, impl_LaterOrbit_c), (16, impl_StateOf_c), (17, impl_MarkOf_c), (18, impl_SameMark_c), (19, impl_RiseAt_c), (21, impl_ScaleVector_c), (20, impl_InShadow_c), (22, impl_ShadowShare_c)], tab, 389, laws_FnPasses_loops⟩) ⟨gam_cons laws_r8Long_ok (gam_cons laws_r8At_ok (gam_cons impl_RisesIn_ok (gam_cons impl_SetsIn_ok (gam_cons impl_LongestPass_ok (gam_cons spec_R8Ball_ok (gam_cons spec_R8Orbit_ok (gam_cons impl_TrackOf_ok (gam_cons spec_R8Mark_ok (gam_cons impl_SeenFrom_ok (gam_cons impl_LaterOrbit_ok (gam_cons impl_StateOf_ok (gam_cons impl_MarkOf_ok (gam_cons impl_SameMark_ok (gam_cons impl_RiseAt_ok (gam_cons impl_ScaleVector_ok (gam_cons impl_InShadow_ok (gam_cons impl_ShadowShare_ok (gam_nil)))))))))))))))))), tab_ok, by kernel_rfl⟩ (fuel := 100000) (loopsOK_list (l := []) (by kernel_rfl) trivial) (L := laws_FnPasses_loop1_L) (fun p s => by unfold AgreeL; exact ⟨by kernel_rfl, by kernel_rfl⟩) (fun _ _ h => Ex.noConfusion h) laws_FnPasses_loop1_hext laws_FnPasses_loop1_hpost)
set_option maxRecDepth 100000 in
theorem laws_FnPasses_l0 : LoopOK Try.prog ⟨gam [(5, laws_r8Long_c), (6, laws_r8At_c), (7, impl_RisesIn_c), (8, impl_SetsIn_c), (9, impl_LongestPass_c), (10, spec_R8Ball_c), (11, spec_R8Orbit_c), (12, impl_TrackOf_c), (14, spec_R8Mark_c), (13, impl_SeenFrom_c), (15, impl_LaterOrbit_c), (16, impl_StateOf_c), (17, impl_MarkOf_c), (18, impl_SameMark_c), (19, impl_RiseAt_c), (21, impl_ScaleVector_c), (20, impl_InShadow_c), (22, impl_ShadowShare_c)], tab, 389, laws_FnPasses_loops⟩ (lp Try.f3 0) :=
  loopOK_some (F := laws_FnPasses_loop0_F) (by kernel_rfl) (loopF_ok (E := ⟨gam [(5, laws_r8Long_c), (6, laws_r8At_c), (7, impl_RisesIn_c), (8, impl_SetsIn_c), (9, impl_LongestPass_c), (10, spec_R8Ball_c), (11, spec_R8Orbit_c), (12, impl_TrackOf_c), (14, spec_R8Mark_c), (13, impl_SeenFrom_c), (15, impl_LaterOrbit_c), (16, impl_StateOf_c), (17, impl_MarkOf_c), (18, impl_SameMark_c), (19, impl_RiseAt_c), (21, impl_ScaleVector_c), (20, impl_InShadow_c), (22, impl_ShadowShare_c)], tab, 389, laws_FnPasses_loops⟩) ⟨gam_cons laws_r8Long_ok (gam_cons laws_r8At_ok (gam_cons impl_RisesIn_ok (gam_cons impl_SetsIn_ok (gam_cons impl_LongestPass_ok (gam_cons spec_R8Ball_ok (gam_cons spec_R8Orbit_ok (gam_cons impl_TrackOf_ok (gam_cons spec_R8Mark_ok (gam_cons impl_SeenFrom_ok (gam_cons impl_LaterOrbit_ok (gam_cons impl_StateOf_ok (gam_cons impl_MarkOf_ok (gam_cons impl_SameMark_ok (gam_cons impl_RiseAt_ok (gam_cons impl_ScaleVector_ok (gam_cons impl_InShadow_ok (gam_cons impl_ShadowShare_ok (gam_nil)))))))))))))))))), tab_ok, by kernel_rfl⟩ (fuel := 100000) (loopsOK_list (l := []) (by kernel_rfl) trivial) (L := laws_FnPasses_loop0_L) (fun p s => by unfold AgreeL; exact ⟨by kernel_rfl, by kernel_rfl⟩) (fun _ _ h => Ex.noConfusion h) laws_FnPasses_loop0_hext laws_FnPasses_loop0_hpost)
/-- loop.example/g01284/laws.FnPasses -/
def laws_FnPasses_tree (a0 : List Int) (a1 : List Int) : DT (Bool) :=
  let x0 := laws_r8Long a0 a1;
  .ask x0
  (
   .leaf true)
  (
   .need ((laws_FnPasses_loop0_ends (a0, a1) (0, []))) (
   let x1 := laws_FnPasses_loop0 (a0, a1) (0, []);
   .need ((impl_RisesIn_need x1)) (
   let x2 := impl_RisesIn x1;
   .ask ((isL x2))
   (
    .need ((impl_SetsIn_need x1)) (
    let x3 := impl_SetsIn x1;
    .ask ((isL x3))
    (
     .skip (
     .skip (
     .skip (
     .leaf false))))
    (
     .skip (
     .skip (
     .skip (
     .leaf false))))))
   (
    .need ((impl_SetsIn_need x1)) (
    let x3 := impl_SetsIn x1;
    .ask ((isL x3))
    (
     .skip (
     .skip (
     .skip (
     .skip (
     .skip (
     .skip (
     .skip (
     .skip (
     .skip (
     .skip (
     .leaf false)))))))))))
    (
     .skip (
     .skip (
     .skip (
     .skip (
     .skip (
     let x4 := ((List.length (rightD x2) : Nat) : Int);
     .skip (
     .skip (
     let x5 := ((List.length (rightD x3) : Nat) : Int);
     .skip (
     let x6 := IntKind.wrap .i64 (x5 + 1);
     .skip (
     let x7 := decide (x4 > x6);
     .skip (
     .ask x7
     (
      .leaf false)
     (
      let x8 := ((List.length (rightD x3) : Nat) : Int);
      let x9 := ((List.length (rightD x2) : Nat) : Int);
      let x10 := IntKind.wrap .i64 (x9 + 1);
      let x11 := decide (x8 > x10);
      .ask x11
      (
       .leaf false)
      (
       .need ((laws_FnPasses_loop1_ends (a0, a1, x1, (rightD x2), (rightD x3)) (0, false, 0))) (
       let x12 := laws_FnPasses_loop1 (a0, a1, x1, (rightD x2), (rightD x3)) (0, false, 0);
       .need ((impl_LongestPass_need x1)) (
       let x13 := impl_LongestPass x1;
       let x14 := (!(x13.2.2 == x12.2));
       .ask x14
       (
        .leaf false)
       (
        let x15 := ((List.length (rightD x2) : Nat) : Int);
        let x16 := ((List.length (rightD x3) : Nat) : Int);
        let x17 := IntKind.wrap .i64 (x15 + x16);
        let x18 := (x17 != x12.1);
        .ask x18
        (
         .leaf false)
        (
         .ask x13.2.2
         (
          .need ((laws_FnPasses_loop2_ends (a0, a1, x13.1, x13.2.1, x1) (0, 0))) (
          let x19 := laws_FnPasses_loop2 (a0, a1, x13.1, x13.2.1, x1) (0, 0);
          .ask ((isL x19))
          (
           .leaf false)
          (
           let x20 := decide (x13.1 < 0);
           .ask x20
           (
            .leaf false)
           (
            let x21 := IntKind.wrap .i64 (x13.1 + x13.2.1);
            let x22 := ((List.length x1 : Nat) : Int);
            let x23 := decide (x21 > x22);
            .ask x23
            (
             .leaf false)
            (
             .need ((decide (0 ≤ x13.1) && decide (x13.1 < ((List.length x1 : Nat) : Int)))) (
             .need ((decide ((Int.toNat x13.1) < List.length x1))) (
             let x24 := List.getD x1 (Int.toNat x13.1) default;
             .ask (!x24)
             (
              .leaf false)
             (
              let x25 := IntKind.wrap .i64 (x13.1 + x13.2.1);
              let x26 := IntKind.wrap .i64 (x25 - 1);
              .need ((decide (0 ≤ x26) && decide (x26 < ((List.length x1 : Nat) : Int)))) (
              .need ((decide ((Int.toNat x26) < List.length x1))) (
              let x27 := List.getD x1 (Int.toNat x26) default;
              .ask (!x27)
              (
               .leaf false)
              (
               .need ((spec_R8Ball_need a0)) (
               let x28 := spec_R8Ball a0;
               .need ((spec_R8Orbit_need a1)) (
               let x29 := spec_R8Orbit a1;
               .need ((impl_TrackOf_need (⟨x28.Mass, x28.Radius, x28.Spin, x28.Start⟩ : Ball) (⟨x29.Long, x29.Round, x29.Tilt, x29.Node, x29.Peri, x29.Phase⟩ : Orbit) 1056964608 1048576000 4)) (
               let x30 := impl_TrackOf (⟨x28.Mass, x28.Radius, x28.Spin, x28.Start⟩ : Ball) (⟨x29.Long, x29.Round, x29.Tilt, x29.Node, x29.Peri, x29.Phase⟩ : Orbit) 1056964608 1048576000 4;
               .ask ((isL x30))
               (
                .need ((spec_R8Mark_need a0)) (
                let x31 := spec_R8Mark a0;
                .need ((impl_SeenFrom_need (⟨x28.Mass, x28.Radius, x28.Spin, x28.Start⟩ : Ball) (⟨x31.North, x31.East, x31.High⟩ : Mark) (⟨x29.Long, x29.Round, x29.Tilt, x29.Node, x29.Peri, x29.Phase⟩ : Orbit) 0 1056964608 1048576000 4)) (
                let x32 := impl_SeenFrom (⟨x28.Mass, x28.Radius, x28.Spin, x28.Start⟩ : Ball) (⟨x31.North, x31.East, x31.High⟩ : Mark) (⟨x29.Long, x29.Round, x29.Tilt, x29.Node, x29.Peri, x29.Phase⟩ : Orbit) 0 1056964608 1048576000 4;
                .ask ((isL x32))
                (
                 .skip (
                 .skip (
                 .skip (
                 .skip (
                 .leaf false)))))
                (
                 .skip (
                 .skip (
                 .skip (
                 .skip (
                 .leaf false))))))))
               (
                .need ((spec_R8Mark_need a0)) (
                let x31 := spec_R8Mark a0;
                .need ((impl_SeenFrom_need (⟨x28.Mass, x28.Radius, x28.Spin, x28.Start⟩ : Ball) (⟨x31.North, x31.East, x31.High⟩ : Mark) (⟨x29.Long, x29.Round, x29.Tilt, x29.Node, x29.Peri, x29.Phase⟩ : Orbit) 0 1056964608 1048576000 4)) (
                let x32 := impl_SeenFrom (⟨x28.Mass, x28.Radius, x28.Spin, x28.Start⟩ : Ball) (⟨x31.North, x31.East, x31.High⟩ : Mark) (⟨x29.Long, x29.Round, x29.Tilt, x29.Node, x29.Peri, x29.Phase⟩ : Orbit) 0 1056964608 1048576000 4;
                .ask ((isL x32))
                (
                 .skip (
                 .skip (
                 let x33 := ((List.length (rightD x30) : Nat) : Int);
                 .skip (
                 let x34 := (x33 != 4);
                 .skip (
                 .ask x34
                 (
                  .leaf false)
                 (
                  .skip (
                  .skip (
                  .skip (
                  .skip (
                  .skip (
                  let x35 := fofInt .f32 0;
                  let x36 := fmul .f32 x35 1048576000;
                  let x37 := fadd .f32 1056964608 x36;
                  .need ((impl_LaterOrbit_need (⟨x29.Long, x29.Round, x29.Tilt, x29.Node, x29.Peri, x29.Phase⟩ : Orbit) x28.Mass x37)) (
                  let x38 := impl_LaterOrbit (⟨x29.Long, x29.Round, x29.Tilt, x29.Node, x29.Peri, x29.Phase⟩ : Orbit) x28.Mass x37;
                  .need ((impl_StateOf_need (⟨x38.1.Long, x38.1.Round, x38.1.Tilt, x38.1.Node, x38.1.Peri, x38.1.Phase⟩ : Orbit) x28.Mass)) (
                  let x39 := impl_StateOf (⟨x38.1.Long, x38.1.Round, x38.1.Tilt, x38.1.Node, x38.1.Peri, x38.1.Phase⟩ : Orbit) x28.Mass;
                  .need ((impl_MarkOf_need (⟨x28.Mass, x28.Radius, x28.Spin, x28.Start⟩ : Ball) (⟨x39.1.X, x39.1.Y, x39.1.Z⟩ : Vec) x37)) (
                  let x40 := impl_MarkOf (⟨x28.Mass, x28.Radius, x28.Spin, x28.Start⟩ : Ball) (⟨x39.1.X, x39.1.Y, x39.1.Z⟩ : Vec) x37;
                  .ask (!x38.2)
                  (
                   .leaf false)
                  (
                   .ask (!x39.2.2)
                   (
                    .leaf false)
                   (
                    .ask (!x40.2)
                    (
                     .leaf false)
                    (
                     .need ((decide (0 ≤ 0) && decide (0 < ((List.length (rightD x30) : Nat) : Int)))) (
                     .need ((decide (0 < List.length (rightD x30)))) (
                     let x41 := List.getD (rightD x30) 0 default;
                     .need ((impl_SameMark_need (⟨x40.1.North, x40.1.East, x40.1.High⟩ : Mark) (⟨x41.North, x41.East, x41.High⟩ : Mark))) (
                     let x42 := impl_SameMark (⟨x40.1.North, x40.1.East, x40.1.High⟩ : Mark) (⟨x41.North, x41.East, x41.High⟩ : Mark);
                     .ask (!x42)
                     (
                      .leaf false)
                     (
                      .need ((spec_R8Mark_need a0)) (
                      let x43 := spec_R8Mark a0;
                      .need ((impl_RiseAt_need (⟨x28.Mass, x28.Radius, x28.Spin, x28.Start⟩ : Ball) (⟨x43.North, x43.East, x43.High⟩ : Mark) (⟨x39.1.X, x39.1.Y, x39.1.Z⟩ : Vec) x37)) (
                      let x44 := impl_RiseAt (⟨x28.Mass, x28.Radius, x28.Spin, x28.Start⟩ : Ball) (⟨x43.North, x43.East, x43.High⟩ : Mark) (⟨x39.1.X, x39.1.Y, x39.1.Z⟩ : Vec) x37;
                      .skip (
                      .skip (
                      .skip (
                      .skip (
                      .skip (
                      .skip (
                      let x45 := fofInt .f32 1;
                      let x46 := fmul .f32 x45 1048576000;
                      let x47 := fadd .f32 1056964608 x46;
                      .need ((impl_LaterOrbit_need (⟨x29.Long, x29.Round, x29.Tilt, x29.Node, x29.Peri, x29.Phase⟩ : Orbit) x28.Mass x47)) (
                      let x48 := impl_LaterOrbit (⟨x29.Long, x29.Round, x29.Tilt, x29.Node, x29.Peri, x29.Phase⟩ : Orbit) x28.Mass x47;
                      .need ((impl_StateOf_need (⟨x48.1.Long, x48.1.Round, x48.1.Tilt, x48.1.Node, x48.1.Peri, x48.1.Phase⟩ : Orbit) x28.Mass)) (
                      let x49 := impl_StateOf (⟨x48.1.Long, x48.1.Round, x48.1.Tilt, x48.1.Node, x48.1.Peri, x48.1.Phase⟩ : Orbit) x28.Mass;
                      .need ((impl_MarkOf_need (⟨x28.Mass, x28.Radius, x28.Spin, x28.Start⟩ : Ball) (⟨x49.1.X, x49.1.Y, x49.1.Z⟩ : Vec) x47)) (
                      let x50 := impl_MarkOf (⟨x28.Mass, x28.Radius, x28.Spin, x28.Start⟩ : Ball) (⟨x49.1.X, x49.1.Y, x49.1.Z⟩ : Vec) x47;
                      .ask (!x48.2)
                      (
                       .leaf false)
                      (
                       .ask (!x49.2.2)
                       (
                        .leaf false)
                       (
                        .ask (!x50.2)
                        (
                         .leaf false)
                        (
                         .need ((decide (0 ≤ 1) && decide (1 < ((List.length (rightD x30) : Nat) : Int)))) (
                         .need ((decide (1 < List.length (rightD x30)))) (
                         let x51 := List.getD (rightD x30) 1 default;
                         .need ((impl_SameMark_need (⟨x50.1.North, x50.1.East, x50.1.High⟩ : Mark) (⟨x51.North, x51.East, x51.High⟩ : Mark))) (
                         let x52 := impl_SameMark (⟨x50.1.North, x50.1.East, x50.1.High⟩ : Mark) (⟨x51.North, x51.East, x51.High⟩ : Mark);
                         .ask (!x52)
                         (
                          .leaf false)
                         (
                          .need ((spec_R8Mark_need a0)) (
                          let x53 := spec_R8Mark a0;
                          .need ((impl_RiseAt_need (⟨x28.Mass, x28.Radius, x28.Spin, x28.Start⟩ : Ball) (⟨x53.North, x53.East, x53.High⟩ : Mark) (⟨x49.1.X, x49.1.Y, x49.1.Z⟩ : Vec) x47)) (
                          let x54 := impl_RiseAt (⟨x28.Mass, x28.Radius, x28.Spin, x28.Start⟩ : Ball) (⟨x53.North, x53.East, x53.High⟩ : Mark) (⟨x49.1.X, x49.1.Y, x49.1.Z⟩ : Vec) x47;
                          .skip (
                          .skip (
                          .skip (
                          .skip (
                          .skip (
                          .skip (
                          let x55 := fofInt .f32 2;
                          let x56 := fmul .f32 x55 1048576000;
                          let x57 := fadd .f32 1056964608 x56;
                          .need ((impl_LaterOrbit_need (⟨x29.Long, x29.Round, x29.Tilt, x29.Node, x29.Peri, x29.Phase⟩ : Orbit) x28.Mass x57)) (
                          let x58 := impl_LaterOrbit (⟨x29.Long, x29.Round, x29.Tilt, x29.Node, x29.Peri, x29.Phase⟩ : Orbit) x28.Mass x57;
                          .need ((impl_StateOf_need (⟨x58.1.Long, x58.1.Round, x58.1.Tilt, x58.1.Node, x58.1.Peri, x58.1.Phase⟩ : Orbit) x28.Mass)) (
                          let x59 := impl_StateOf (⟨x58.1.Long, x58.1.Round, x58.1.Tilt, x58.1.Node, x58.1.Peri, x58.1.Phase⟩ : Orbit) x28.Mass;
                          .need ((impl_MarkOf_need (⟨x28.Mass, x28.Radius, x28.Spin, x28.Start⟩ : Ball) (⟨x59.1.X, x59.1.Y, x59.1.Z⟩ : Vec) x57)) (
                          let x60 := impl_MarkOf (⟨x28.Mass, x28.Radius, x28.Spin, x28.Start⟩ : Ball) (⟨x59.1.X, x59.1.Y, x59.1.Z⟩ : Vec) x57;
                          .ask (!x58.2)
                          (
                           .leaf false)
                          (
                           .ask (!x59.2.2)
                           (
                            .leaf false)
                           (
                            .ask (!x60.2)
                            (
                             .leaf false)
                            (
                             .need ((decide (0 ≤ 2) && decide (2 < ((List.length (rightD x30) : Nat) : Int)))) (
                             .need ((decide (2 < List.length (rightD x30)))) (
                             let x61 := List.getD (rightD x30) 2 default;
                             .need ((impl_SameMark_need (⟨x60.1.North, x60.1.East, x60.1.High⟩ : Mark) (⟨x61.North, x61.East, x61.High⟩ : Mark))) (
                             let x62 := impl_SameMark (⟨x60.1.North, x60.1.East, x60.1.High⟩ : Mark) (⟨x61.North, x61.East, x61.High⟩ : Mark);
                             .ask (!x62)
                             (
                              .leaf false)
                             (
                              .need ((spec_R8Mark_need a0)) (
                              let x63 := spec_R8Mark a0;
                              .need ((impl_RiseAt_need (⟨x28.Mass, x28.Radius, x28.Spin, x28.Start⟩ : Ball) (⟨x63.North, x63.East, x63.High⟩ : Mark) (⟨x59.1.X, x59.1.Y, x59.1.Z⟩ : Vec) x57)) (
                              let x64 := impl_RiseAt (⟨x28.Mass, x28.Radius, x28.Spin, x28.Start⟩ : Ball) (⟨x63.North, x63.East, x63.High⟩ : Mark) (⟨x59.1.X, x59.1.Y, x59.1.Z⟩ : Vec) x57;
                              .skip (
                              .skip (
                              .skip (
                              .skip (
                              .skip (
                              .skip (
                              let x65 := fofInt .f32 3;
                              let x66 := fmul .f32 x65 1048576000;
                              let x67 := fadd .f32 1056964608 x66;
                              .need ((impl_LaterOrbit_need (⟨x29.Long, x29.Round, x29.Tilt, x29.Node, x29.Peri, x29.Phase⟩ : Orbit) x28.Mass x67)) (
                              let x68 := impl_LaterOrbit (⟨x29.Long, x29.Round, x29.Tilt, x29.Node, x29.Peri, x29.Phase⟩ : Orbit) x28.Mass x67;
                              .need ((impl_StateOf_need (⟨x68.1.Long, x68.1.Round, x68.1.Tilt, x68.1.Node, x68.1.Peri, x68.1.Phase⟩ : Orbit) x28.Mass)) (
                              let x69 := impl_StateOf (⟨x68.1.Long, x68.1.Round, x68.1.Tilt, x68.1.Node, x68.1.Peri, x68.1.Phase⟩ : Orbit) x28.Mass;
                              .need ((impl_MarkOf_need (⟨x28.Mass, x28.Radius, x28.Spin, x28.Start⟩ : Ball) (⟨x69.1.X, x69.1.Y, x69.1.Z⟩ : Vec) x67)) (
                              let x70 := impl_MarkOf (⟨x28.Mass, x28.Radius, x28.Spin, x28.Start⟩ : Ball) (⟨x69.1.X, x69.1.Y, x69.1.Z⟩ : Vec) x67;
                              .ask (!x68.2)
                              (
                               .leaf false)
                              (
                               .ask (!x69.2.2)
                               (
                                .leaf false)
                               (
                                .ask (!x70.2)
                                (
                                 .leaf false)
                                (
                                 .need ((decide (0 ≤ 3) && decide (3 < ((List.length (rightD x30) : Nat) : Int)))) (
                                 .need ((decide (3 < List.length (rightD x30)))) (
                                 let x71 := List.getD (rightD x30) 3 default;
                                 .need ((impl_SameMark_need (⟨x70.1.North, x70.1.East, x70.1.High⟩ : Mark) (⟨x71.North, x71.East, x71.High⟩ : Mark))) (
                                 let x72 := impl_SameMark (⟨x70.1.North, x70.1.East, x70.1.High⟩ : Mark) (⟨x71.North, x71.East, x71.High⟩ : Mark);
                                 .ask (!x72)
                                 (
                                  .leaf false)
                                 (
                                  .need ((spec_R8Mark_need a0)) (
                                  let x73 := spec_R8Mark a0;
                                  .need ((impl_RiseAt_need (⟨x28.Mass, x28.Radius, x28.Spin, x28.Start⟩ : Ball) (⟨x73.North, x73.East, x73.High⟩ : Mark) (⟨x69.1.X, x69.1.Y, x69.1.Z⟩ : Vec) x67)) (
                                  let x74 := impl_RiseAt (⟨x28.Mass, x28.Radius, x28.Spin, x28.Start⟩ : Ball) (⟨x73.North, x73.East, x73.High⟩ : Mark) (⟨x69.1.X, x69.1.Y, x69.1.Z⟩ : Vec) x67;
                                  .skip (
                                  .skip (
                                  .skip (
                                  .skip (
                                  .skip (
                                  .skip (
                                  .need ((laws_r8At_need a1 40 4)) (
                                  let x75 := laws_r8At a1 40 4;
                                  let x76 := IntKind.wrap .i64 (1 + x75);
                                  let x77 := fofInt .f32 x76;
                                  .need ((laws_r8At_need a1 41 5)) (
                                  let x78 := laws_r8At a1 41 5;
                                  let x79 := IntKind.wrap .i64 (x78 - 2);
                                  let x80 := fofInt .f32 x79;
                                  let x81 := impl_ScaleVector (⟨x77, x80, 0⟩ : Vec) 3221225472;
                                  .need ((impl_InShadow_need (⟨x28.Mass, x28.Radius, x28.Spin, x28.Start⟩ : Ball) (⟨x77, x80, 0⟩ : Vec) (⟨x81.X, x81.Y, x81.Z⟩ : Vec))) (
                                  let x82 := impl_InShadow (⟨x28.Mass, x28.Radius, x28.Spin, x28.Start⟩ : Ball) (⟨x77, x80, 0⟩ : Vec) (⟨x81.X, x81.Y, x81.Z⟩ : Vec);
                                  let x83 := impl_ScaleVector (⟨x77, x80, 0⟩ : Vec) 1073741824;
                                  .need ((impl_InShadow_need (⟨x28.Mass, x28.Radius, x28.Spin, x28.Start⟩ : Ball) (⟨x77, x80, 0⟩ : Vec) (⟨x83.X, x83.Y, x83.Z⟩ : Vec))) (
                                  let x84 := impl_InShadow (⟨x28.Mass, x28.Radius, x28.Spin, x28.Start⟩ : Ball) (⟨x77, x80, 0⟩ : Vec) (⟨x83.X, x83.Y, x83.Z⟩ : Vec);
                                  let x85 := fneg .f32 x77;
                                  let x86 := fneg .f32 x80;
                                  let x87 := fmul .f32 x28.Radius 1073741824;
                                  .need ((impl_InShadow_need (⟨x28.Mass, x28.Radius, x28.Spin, x28.Start⟩ : Ball) (⟨x77, x80, 0⟩ : Vec) (⟨x85, x86, x87⟩ : Vec))) (
                                  let x88 := impl_InShadow (⟨x28.Mass, x28.Radius, x28.Spin, x28.Start⟩ : Ball) (⟨x77, x80, 0⟩ : Vec) (⟨x85, x86, x87⟩ : Vec);
                                  .need ((impl_ShadowShare_need (⟨x28.Mass, x28.Radius, x28.Spin, x28.Start⟩ : Ball) (⟨x29.Long, x29.Round, x29.Tilt, x29.Node, x29.Peri, x29.Phase⟩ : Orbit) (⟨x77, x80, 0⟩ : Vec) 8)) (
                                  let x89 := impl_ShadowShare (⟨x28.Mass, x28.Radius, x28.Spin, x28.Start⟩ : Ball) (⟨x29.Long, x29.Round, x29.Tilt, x29.Node, x29.Peri, x29.Phase⟩ : Orbit) (⟨x77, x80, 0⟩ : Vec) 8;
                                  .ask x82.2
                                  (
                                   .ask x84.2
                                   (
                                    .ask x88.2
                                    (
                                     .ask x89.2
                                     (
                                      .ask x82.1
                                      (
                                       .ask (!x84.1)
                                       (
                                        .ask (!x88.1)
                                        (
                                         let x90 := fge .f32 x89.1 0;
                                         .ask x90
                                         (
                                          let x91 := fle .f32 x89.1 1065353216;
                                          .leaf x91)
                                         (
                                          .leaf false))
                                        (
                                         .leaf false))
                                       (
                                        .leaf false))
                                      (
                                       .leaf false))
                                     (
                                      .leaf false))
                                    (
                                     .leaf false))
                                   (
                                    .leaf false))
                                  (
                                   .leaf false))))))))))))))))))))))))))))))))))))))))))))))))))))))))))))))))))))))))))))))))))))))))))
                (
                 .skip (
                 .skip (
                 let x33 := ((List.length (rightD x30) : Nat) : Int);
                 .skip (
                 let x34 := (x33 != 4);
                 .skip (
                 .ask x34
                 (
                  .leaf false)
                 (
                  .skip (
                  .skip (
                  let x35 := ((List.length (rightD x32) : Nat) : Int);
                  .skip (
                  let x36 := (x35 != 4);
                  .skip (
                  .ask x36
                  (
                   .leaf false)
                  (
                   .need ((laws_FnPasses_loop3_ends (a0, a1, x28.Mass, x28.Radius, x28.Spin, x28.Start, x29.Long, x29.Round, x29.Tilt, x29.Node, x29.Peri, x29.Phase, (rightD x30), (rightD x32)) 0)) (
                   let x37 := laws_FnPasses_loop3 (a0, a1, x28.Mass, x28.Radius, x28.Spin, x28.Start, x29.Long, x29.Round, x29.Tilt, x29.Node, x29.Peri, x29.Phase, (rightD x30), (rightD x32)) 0;
                   .ask ((isL x37))
                   (
                    .leaf false)
                   (
                    .need ((laws_r8At_need a1 40 4)) (
                    let x38 := laws_r8At a1 40 4;
                    let x39 := IntKind.wrap .i64 (1 + x38);
                    let x40 := fofInt .f32 x39;
                    .need ((laws_r8At_need a1 41 5)) (
                    let x41 := laws_r8At a1 41 5;
                    let x42 := IntKind.wrap .i64 (x41 - 2);
                    let x43 := fofInt .f32 x42;
                    let x44 := impl_ScaleVector (⟨x40, x43, 0⟩ : Vec) 3221225472;
                    .need ((impl_InShadow_need (⟨x28.Mass, x28.Radius, x28.Spin, x28.Start⟩ : Ball) (⟨x40, x43, 0⟩ : Vec) (⟨x44.X, x44.Y, x44.Z⟩ : Vec))) (
                    let x45 := impl_InShadow (⟨x28.Mass, x28.Radius, x28.Spin, x28.Start⟩ : Ball) (⟨x40, x43, 0⟩ : Vec) (⟨x44.X, x44.Y, x44.Z⟩ : Vec);
                    let x46 := impl_ScaleVector (⟨x40, x43, 0⟩ : Vec) 1073741824;
                    .need ((impl_InShadow_need (⟨x28.Mass, x28.Radius, x28.Spin, x28.Start⟩ : Ball) (⟨x40, x43, 0⟩ : Vec) (⟨x46.X, x46.Y, x46.Z⟩ : Vec))) (
                    let x47 := impl_InShadow (⟨x28.Mass, x28.Radius, x28.Spin, x28.Start⟩ : Ball) (⟨x40, x43, 0⟩ : Vec) (⟨x46.X, x46.Y, x46.Z⟩ : Vec);
                    let x48 := fneg .f32 x40;
                    let x49 := fneg .f32 x43;
                    let x50 := fmul .f32 x28.Radius 1073741824;
                    .need ((impl_InShadow_need (⟨x28.Mass, x28.Radius, x28.Spin, x28.Start⟩ : Ball) (⟨x40, x43, 0⟩ : Vec) (⟨x48, x49, x50⟩ : Vec))) (
                    let x51 := impl_InShadow (⟨x28.Mass, x28.Radius, x28.Spin, x28.Start⟩ : Ball) (⟨x40, x43, 0⟩ : Vec) (⟨x48, x49, x50⟩ : Vec);
                    .need ((impl_ShadowShare_need (⟨x28.Mass, x28.Radius, x28.Spin, x28.Start⟩ : Ball) (⟨x29.Long, x29.Round, x29.Tilt, x29.Node, x29.Peri, x29.Phase⟩ : Orbit) (⟨x40, x43, 0⟩ : Vec) 8)) (
                    let x52 := impl_ShadowShare (⟨x28.Mass, x28.Radius, x28.Spin, x28.Start⟩ : Ball) (⟨x29.Long, x29.Round, x29.Tilt, x29.Node, x29.Peri, x29.Phase⟩ : Orbit) (⟨x40, x43, 0⟩ : Vec) 8;
                    .ask x45.2
                    (
                     .ask x47.2
                     (
                      .ask x51.2
                      (
                       .ask x52.2
                       (
                        .ask x45.1
                        (
                         .ask (!x47.1)
                         (
                          .ask (!x51.1)
                          (
                           let x53 := fge .f32 x52.1 0;
                           .ask x53
                           (
                            let x54 := fle .f32 x52.1 1065353216;
                            .leaf x54)
                           (
                            .leaf false))
                          (
                           .leaf false))
                         (
                          .leaf false))
                        (
                         .leaf false))
                       (
                        .leaf false))
                      (
                       .leaf false))
                     (
                      .leaf false))
                    (
                     .leaf false)))))))))))))))))))))))))))))))))))))
         (
          .need ((spec_R8Ball_need a0)) (
          let x19 := spec_R8Ball a0;
          .need ((spec_R8Orbit_need a1)) (
          let x20 := spec_R8Orbit a1;
          .need ((impl_TrackOf_need (⟨x19.Mass, x19.Radius, x19.Spin, x19.Start⟩ : Ball) (⟨x20.Long, x20.Round, x20.Tilt, x20.Node, x20.Peri, x20.Phase⟩ : Orbit) 1056964608 1048576000 4)) (
          let x21 := impl_TrackOf (⟨x19.Mass, x19.Radius, x19.Spin, x19.Start⟩ : Ball) (⟨x20.Long, x20.Round, x20.Tilt, x20.Node, x20.Peri, x20.Phase⟩ : Orbit) 1056964608 1048576000 4;
          .ask ((isL x21))
          (
           .need ((spec_R8Mark_need a0)) (
           let x22 := spec_R8Mark a0;
           .need ((impl_SeenFrom_need (⟨x19.Mass, x19.Radius, x19.Spin, x19.Start⟩ : Ball) (⟨x22.North, x22.East, x22.High⟩ : Mark) (⟨x20.Long, x20.Round, x20.Tilt, x20.Node, x20.Peri, x20.Phase⟩ : Orbit) 0 1056964608 1048576000 4)) (
           let x23 := impl_SeenFrom (⟨x19.Mass, x19.Radius, x19.Spin, x19.Start⟩ : Ball) (⟨x22.North, x22.East, x22.High⟩ : Mark) (⟨x20.Long, x20.Round, x20.Tilt, x20.Node, x20.Peri, x20.Phase⟩ : Orbit) 0 1056964608 1048576000 4;
           .ask ((isL x23))
           (
            .skip (
            .skip (
            .skip (
            .skip (
            .leaf false)))))
           (
            .skip (
            .skip (
            .skip (
            .skip (
            .leaf false))))))))
          (
           .need ((spec_R8Mark_need a0)) (
           let x22 := spec_R8Mark a0;
           .need ((impl_SeenFrom_need (⟨x19.Mass, x19.Radius, x19.Spin, x19.Start⟩ : Ball) (⟨x22.North, x22.East, x22.High⟩ : Mark) (⟨x20.Long, x20.Round, x20.Tilt, x20.Node, x20.Peri, x20.Phase⟩ : Orbit) 0 1056964608 1048576000 4)) (
           let x23 := impl_SeenFrom (⟨x19.Mass, x19.Radius, x19.Spin, x19.Start⟩ : Ball) (⟨x22.North, x22.East, x22.High⟩ : Mark) (⟨x20.Long, x20.Round, x20.Tilt, x20.Node, x20.Peri, x20.Phase⟩ : Orbit) 0 1056964608 1048576000 4;
           .ask ((isL x23))
           (
            .skip (
            .skip (
            let x24 := ((List.length (rightD x21) : Nat) : Int);
            .skip (
            let x25 := (x24 != 4);
            .skip (
            .ask x25
            (
             .leaf false)
            (
             .skip (
             .skip (
             .skip (
             .skip (
             .skip (
             let x26 := fofInt .f32 0;
             let x27 := fmul .f32 x26 1048576000;
             let x28 := fadd .f32 1056964608 x27;
             .need ((impl_LaterOrbit_need (⟨x20.Long, x20.Round, x20.Tilt, x20.Node, x20.Peri, x20.Phase⟩ : Orbit) x19.Mass x28)) (
             let x29 := impl_LaterOrbit (⟨x20.Long, x20.Round, x20.Tilt, x20.Node, x20.Peri, x20.Phase⟩ : Orbit) x19.Mass x28;
             .need ((impl_StateOf_need (⟨x29.1.Long, x29.1.Round, x29.1.Tilt, x29.1.Node, x29.1.Peri, x29.1.Phase⟩ : Orbit) x19.Mass)) (
             let x30 := impl_StateOf (⟨x29.1.Long, x29.1.Round, x29.1.Tilt, x29.1.Node, x29.1.Peri, x29.1.Phase⟩ : Orbit) x19.Mass;
             .need ((impl_MarkOf_need (⟨x19.Mass, x19.Radius, x19.Spin, x19.Start⟩ : Ball) (⟨x30.1.X, x30.1.Y, x30.1.Z⟩ : Vec) x28)) (
             let x31 := impl_MarkOf (⟨x19.Mass, x19.Radius, x19.Spin, x19.Start⟩ : Ball) (⟨x30.1.X, x30.1.Y, x30.1.Z⟩ : Vec) x28;
             .ask (!x29.2)
             (
              .leaf false)
             (
              .ask (!x30.2.2)
              (
               .leaf false)
              (
               .ask (!x31.2)
               (
                .leaf false)
               (
                .need ((decide (0 ≤ 0) && decide (0 < ((List.length (rightD x21) : Nat) : Int)))) (
                .need ((decide (0 < List.length (rightD x21)))) (
                let x32 := List.getD (rightD x21) 0 default;
                .need ((impl_SameMark_need (⟨x31.1.North, x31.1.East, x31.1.High⟩ : Mark) (⟨x32.North, x32.East, x32.High⟩ : Mark))) (
                let x33 := impl_SameMark (⟨x31.1.North, x31.1.East, x31.1.High⟩ : Mark) (⟨x32.North, x32.East, x32.High⟩ : Mark);
                .ask (!x33)
                (
                 .leaf false)
                (
                 .need ((spec_R8Mark_need a0)) (
                 let x34 := spec_R8Mark a0;
                 .need ((impl_RiseAt_need (⟨x19.Mass, x19.Radius, x19.Spin, x19.Start⟩ : Ball) (⟨x34.North, x34.East, x34.High⟩ : Mark) (⟨x30.1.X, x30.1.Y, x30.1.Z⟩ : Vec) x28)) (
                 let x35 := impl_RiseAt (⟨x19.Mass, x19.Radius, x19.Spin, x19.Start⟩ : Ball) (⟨x34.North, x34.East, x34.High⟩ : Mark) (⟨x30.1.X, x30.1.Y, x30.1.Z⟩ : Vec) x28;
                 .skip (
                 .skip (
                 .skip (
                 .skip (
                 .skip (
                 .skip (
                 let x36 := fofInt .f32 1;
                 let x37 := fmul .f32 x36 1048576000;
                 let x38 := fadd .f32 1056964608 x37;
                 .need ((impl_LaterOrbit_need (⟨x20.Long, x20.Round, x20.Tilt, x20.Node, x20.Peri, x20.Phase⟩ : Orbit) x19.Mass x38)) (
                 let x39 := impl_LaterOrbit (⟨x20.Long, x20.Round, x20.Tilt, x20.Node, x20.Peri, x20.Phase⟩ : Orbit) x19.Mass x38;
                 .need ((impl_StateOf_need (⟨x39.1.Long, x39.1.Round, x39.1.Tilt, x39.1.Node, x39.1.Peri, x39.1.Phase⟩ : Orbit) x19.Mass)) (
                 let x40 := impl_StateOf (⟨x39.1.Long, x39.1.Round, x39.1.Tilt, x39.1.Node, x39.1.Peri, x39.1.Phase⟩ : Orbit) x19.Mass;
                 .need ((impl_MarkOf_need (⟨x19.Mass, x19.Radius, x19.Spin, x19.Start⟩ : Ball) (⟨x40.1.X, x40.1.Y, x40.1.Z⟩ : Vec) x38)) (
                 let x41 := impl_MarkOf (⟨x19.Mass, x19.Radius, x19.Spin, x19.Start⟩ : Ball) (⟨x40.1.X, x40.1.Y, x40.1.Z⟩ : Vec) x38;
                 .ask (!x39.2)
                 (
                  .leaf false)
                 (
                  .ask (!x40.2.2)
                  (
                   .leaf false)
                  (
                   .ask (!x41.2)
                   (
                    .leaf false)
                   (
                    .need ((decide (0 ≤ 1) && decide (1 < ((List.length (rightD x21) : Nat) : Int)))) (
                    .need ((decide (1 < List.length (rightD x21)))) (
                    let x42 := List.getD (rightD x21) 1 default;
                    .need ((impl_SameMark_need (⟨x41.1.North, x41.1.East, x41.1.High⟩ : Mark) (⟨x42.North, x42.East, x42.High⟩ : Mark))) (
                    let x43 := impl_SameMark (⟨x41.1.North, x41.1.East, x41.1.High⟩ : Mark) (⟨x42.North, x42.East, x42.High⟩ : Mark);
                    .ask (!x43)
                    (
                     .leaf false)
                    (
                     .need ((spec_R8Mark_need a0)) (
                     let x44 := spec_R8Mark a0;
                     .need ((impl_RiseAt_need (⟨x19.Mass, x19.Radius, x19.Spin, x19.Start⟩ : Ball) (⟨x44.North, x44.East, x44.High⟩ : Mark) (⟨x40.1.X, x40.1.Y, x40.1.Z⟩ : Vec) x38)) (
                     let x45 := impl_RiseAt (⟨x19.Mass, x19.Radius, x19.Spin, x19.Start⟩ : Ball) (⟨x44.North, x44.East, x44.High⟩ : Mark) (⟨x40.1.X, x40.1.Y, x40.1.Z⟩ : Vec) x38;
                     .skip (
                     .skip (
                     .skip (
                     .skip (
                     .skip (
                     .skip (
                     let x46 := fofInt .f32 2;
                     let x47 := fmul .f32 x46 1048576000;
                     let x48 := fadd .f32 1056964608 x47;
                     .need ((impl_LaterOrbit_need (⟨x20.Long, x20.Round, x20.Tilt, x20.Node, x20.Peri, x20.Phase⟩ : Orbit) x19.Mass x48)) (
                     let x49 := impl_LaterOrbit (⟨x20.Long, x20.Round, x20.Tilt, x20.Node, x20.Peri, x20.Phase⟩ : Orbit) x19.Mass x48;
                     .need ((impl_StateOf_need (⟨x49.1.Long, x49.1.Round, x49.1.Tilt, x49.1.Node, x49.1.Peri, x49.1.Phase⟩ : Orbit) x19.Mass)) (
                     let x50 := impl_StateOf (⟨x49.1.Long, x49.1.Round, x49.1.Tilt, x49.1.Node, x49.1.Peri, x49.1.Phase⟩ : Orbit) x19.Mass;
                     .need ((impl_MarkOf_need (⟨x19.Mass, x19.Radius, x19.Spin, x19.Start⟩ : Ball) (⟨x50.1.X, x50.1.Y, x50.1.Z⟩ : Vec) x48)) (
                     let x51 := impl_MarkOf (⟨x19.Mass, x19.Radius, x19.Spin, x19.Start⟩ : Ball) (⟨x50.1.X, x50.1.Y, x50.1.Z⟩ : Vec) x48;
                     .ask (!x49.2)
                     (
                      .leaf false)
                     (
                      .ask (!x50.2.2)
                      (
                       .leaf false)
                      (
                       .ask (!x51.2)
                       (
                        .leaf false)
                       (
                        .need ((decide (0 ≤ 2) && decide (2 < ((List.length (rightD x21) : Nat) : Int)))) (
                        .need ((decide (2 < List.length (rightD x21)))) (
                        let x52 := List.getD (rightD x21) 2 default;
                        .need ((impl_SameMark_need (⟨x51.1.North, x51.1.East, x51.1.High⟩ : Mark) (⟨x52.North, x52.East, x52.High⟩ : Mark))) (
                        let x53 := impl_SameMark (⟨x51.1.North, x51.1.East, x51.1.High⟩ : Mark) (⟨x52.North, x52.East, x52.High⟩ : Mark);
                        .ask (!x53)
                        (
                         .leaf false)
                        (
                         .need ((spec_R8Mark_need a0)) (
                         let x54 := spec_R8Mark a0;
                         .need ((impl_RiseAt_need (⟨x19.Mass, x19.Radius, x19.Spin, x19.Start⟩ : Ball) (⟨x54.North, x54.East, x54.High⟩ : Mark) (⟨x50.1.X, x50.1.Y, x50.1.Z⟩ : Vec) x48)) (
                         let x55 := impl_RiseAt (⟨x19.Mass, x19.Radius, x19.Spin, x19.Start⟩ : Ball) (⟨x54.North, x54.East, x54.High⟩ : Mark) (⟨x50.1.X, x50.1.Y, x50.1.Z⟩ : Vec) x48;
                         .skip (
                         .skip (
                         .skip (
                         .skip (
                         .skip (
                         .skip (
                         let x56 := fofInt .f32 3;
                         let x57 := fmul .f32 x56 1048576000;
                         let x58 := fadd .f32 1056964608 x57;
                         .need ((impl_LaterOrbit_need (⟨x20.Long, x20.Round, x20.Tilt, x20.Node, x20.Peri, x20.Phase⟩ : Orbit) x19.Mass x58)) (
                         let x59 := impl_LaterOrbit (⟨x20.Long, x20.Round, x20.Tilt, x20.Node, x20.Peri, x20.Phase⟩ : Orbit) x19.Mass x58;
                         .need ((impl_StateOf_need (⟨x59.1.Long, x59.1.Round, x59.1.Tilt, x59.1.Node, x59.1.Peri, x59.1.Phase⟩ : Orbit) x19.Mass)) (
                         let x60 := impl_StateOf (⟨x59.1.Long, x59.1.Round, x59.1.Tilt, x59.1.Node, x59.1.Peri, x59.1.Phase⟩ : Orbit) x19.Mass;
                         .need ((impl_MarkOf_need (⟨x19.Mass, x19.Radius, x19.Spin, x19.Start⟩ : Ball) (⟨x60.1.X, x60.1.Y, x60.1.Z⟩ : Vec) x58)) (
                         let x61 := impl_MarkOf (⟨x19.Mass, x19.Radius, x19.Spin, x19.Start⟩ : Ball) (⟨x60.1.X, x60.1.Y, x60.1.Z⟩ : Vec) x58;
                         .ask (!x59.2)
                         (
                          .leaf false)
                         (
                          .ask (!x60.2.2)
                          (
                           .leaf false)
                          (
                           .ask (!x61.2)
                           (
                            .leaf false)
                           (
                            .need ((decide (0 ≤ 3) && decide (3 < ((List.length (rightD x21) : Nat) : Int)))) (
                            .need ((decide (3 < List.length (rightD x21)))) (
                            let x62 := List.getD (rightD x21) 3 default;
                            .need ((impl_SameMark_need (⟨x61.1.North, x61.1.East, x61.1.High⟩ : Mark) (⟨x62.North, x62.East, x62.High⟩ : Mark))) (
                            let x63 := impl_SameMark (⟨x61.1.North, x61.1.East, x61.1.High⟩ : Mark) (⟨x62.North, x62.East, x62.High⟩ : Mark);
                            .ask (!x63)
                            (
                             .leaf false)
                            (
                             .need ((spec_R8Mark_need a0)) (
                             let x64 := spec_R8Mark a0;
                             .need ((impl_RiseAt_need (⟨x19.Mass, x19.Radius, x19.Spin, x19.Start⟩ : Ball) (⟨x64.North, x64.East, x64.High⟩ : Mark) (⟨x60.1.X, x60.1.Y, x60.1.Z⟩ : Vec) x58)) (
                             let x65 := impl_RiseAt (⟨x19.Mass, x19.Radius, x19.Spin, x19.Start⟩ : Ball) (⟨x64.North, x64.East, x64.High⟩ : Mark) (⟨x60.1.X, x60.1.Y, x60.1.Z⟩ : Vec) x58;
                             .skip (
                             .skip (
                             .skip (
                             .skip (
                             .skip (
                             .skip (
                             .need ((laws_r8At_need a1 40 4)) (
                             let x66 := laws_r8At a1 40 4;
                             let x67 := IntKind.wrap .i64 (1 + x66);
                             let x68 := fofInt .f32 x67;
                             .need ((laws_r8At_need a1 41 5)) (
                             let x69 := laws_r8At a1 41 5;
                             let x70 := IntKind.wrap .i64 (x69 - 2);
                             let x71 := fofInt .f32 x70;
                             let x72 := impl_ScaleVector (⟨x68, x71, 0⟩ : Vec) 3221225472;
                             .need ((impl_InShadow_need (⟨x19.Mass, x19.Radius, x19.Spin, x19.Start⟩ : Ball) (⟨x68, x71, 0⟩ : Vec) (⟨x72.X, x72.Y, x72.Z⟩ : Vec))) (
                             let x73 := impl_InShadow (⟨x19.Mass, x19.Radius, x19.Spin, x19.Start⟩ : Ball) (⟨x68, x71, 0⟩ : Vec) (⟨x72.X, x72.Y, x72.Z⟩ : Vec);
                             let x74 := impl_ScaleVector (⟨x68, x71, 0⟩ : Vec) 1073741824;
                             .need ((impl_InShadow_need (⟨x19.Mass, x19.Radius, x19.Spin, x19.Start⟩ : Ball) (⟨x68, x71, 0⟩ : Vec) (⟨x74.X, x74.Y, x74.Z⟩ : Vec))) (
                             let x75 := impl_InShadow (⟨x19.Mass, x19.Radius, x19.Spin, x19.Start⟩ : Ball) (⟨x68, x71, 0⟩ : Vec) (⟨x74.X, x74.Y, x74.Z⟩ : Vec);
                             let x76 := fneg .f32 x68;
                             let x77 := fneg .f32 x71;
                             let x78 := fmul .f32 x19.Radius 1073741824;
                             .need ((impl_InShadow_need (⟨x19.Mass, x19.Radius, x19.Spin, x19.Start⟩ : Ball) (⟨x68, x71, 0⟩ : Vec) (⟨x76, x77, x78⟩ : Vec))) (
                             let x79 := impl_InShadow (⟨x19.Mass, x19.Radius, x19.Spin, x19.Start⟩ : Ball) (⟨x68, x71, 0⟩ : Vec) (⟨x76, x77, x78⟩ : Vec);
                             .need ((impl_ShadowShare_need (⟨x19.Mass, x19.Radius, x19.Spin, x19.Start⟩ : Ball) (⟨x20.Long, x20.Round, x20.Tilt, x20.Node, x20.Peri, x20.Phase⟩ : Orbit) (⟨x68, x71, 0⟩ : Vec) 8)) (
                             let x80 := impl_ShadowShare (⟨x19.Mass, x19.Radius, x19.Spin, x19.Start⟩ : Ball) (⟨x20.Long, x20.Round, x20.Tilt, x20.Node, x20.Peri, x20.Phase⟩ : Orbit) (⟨x68, x71, 0⟩ : Vec) 8;
                             .ask x73.2
                             (
                              .ask x75.2
                              (
                               .ask x79.2
                               (
                                .ask x80.2
                                (
                                 .ask x73.1
                                 (
                                  .ask (!x75.1)
                                  (
                                   .ask (!x79.1)
                                   (
                                    let x81 := fge .f32 x80.1 0;
                                    .ask x81
                                    (
                                     let x82 := fle .f32 x80.1 1065353216;
                                     .leaf x82)
                                    (
                                     .leaf false))
                                   (
                                    .leaf false))
                                  (
                                   .leaf false))
                                 (
                                  .leaf false))
                                (
                                 .leaf false))
                               (
                                .leaf false))
                              (
                               .leaf false))
                             (
                              .leaf false))))))))))))))))))))))))))))))))))))))))))))))))))))))))))))))))))))))))))))))))))))))))))
           (
            .skip (
            .skip (
            let x24 := ((List.length (rightD x21) : Nat) : Int);
            .skip (
            let x25 := (x24 != 4);
            .skip (
            .ask x25
            (
             .leaf false)
            (
             .skip (
             .skip (
             let x26 := ((List.length (rightD x23) : Nat) : Int);
             .skip (
             let x27 := (x26 != 4);
             .skip (
             .ask x27
             (
              .leaf false)
             (
              .need ((laws_FnPasses_loop3_ends (a0, a1, x19.Mass, x19.Radius, x19.Spin, x19.Start, x20.Long, x20.Round, x20.Tilt, x20.Node, x20.Peri, x20.Phase, (rightD x21), (rightD x23)) 0)) (
              let x28 := laws_FnPasses_loop3 (a0, a1, x19.Mass, x19.Radius, x19.Spin, x19.Start, x20.Long, x20.Round, x20.Tilt, x20.Node, x20.Peri, x20.Phase, (rightD x21), (rightD x23)) 0;
              .ask ((isL x28))
              (
               .leaf false)
              (
               .need ((laws_r8At_need a1 40 4)) (
               let x29 := laws_r8At a1 40 4;
               let x30 := IntKind.wrap .i64 (1 + x29);
               let x31 := fofInt .f32 x30;
               .need ((laws_r8At_need a1 41 5)) (
               let x32 := laws_r8At a1 41 5;
               let x33 := IntKind.wrap .i64 (x32 - 2);
               let x34 := fofInt .f32 x33;
               let x35 := impl_ScaleVector (⟨x31, x34, 0⟩ : Vec) 3221225472;
               .need ((impl_InShadow_need (⟨x19.Mass, x19.Radius, x19.Spin, x19.Start⟩ : Ball) (⟨x31, x34, 0⟩ : Vec) (⟨x35.X, x35.Y, x35.Z⟩ : Vec))) (
               let x36 := impl_InShadow (⟨x19.Mass, x19.Radius, x19.Spin, x19.Start⟩ : Ball) (⟨x31, x34, 0⟩ : Vec) (⟨x35.X, x35.Y, x35.Z⟩ : Vec);
               let x37 := impl_ScaleVector (⟨x31, x34, 0⟩ : Vec) 1073741824;
               .need ((impl_InShadow_need (⟨x19.Mass, x19.Radius, x19.Spin, x19.Start⟩ : Ball) (⟨x31, x34, 0⟩ : Vec) (⟨x37.X, x37.Y, x37.Z⟩ : Vec))) (
               let x38 := impl_InShadow (⟨x19.Mass, x19.Radius, x19.Spin, x19.Start⟩ : Ball) (⟨x31, x34, 0⟩ : Vec) (⟨x37.X, x37.Y, x37.Z⟩ : Vec);
               let x39 := fneg .f32 x31;
               let x40 := fneg .f32 x34;
               let x41 := fmul .f32 x19.Radius 1073741824;
               .need ((impl_InShadow_need (⟨x19.Mass, x19.Radius, x19.Spin, x19.Start⟩ : Ball) (⟨x31, x34, 0⟩ : Vec) (⟨x39, x40, x41⟩ : Vec))) (
               let x42 := impl_InShadow (⟨x19.Mass, x19.Radius, x19.Spin, x19.Start⟩ : Ball) (⟨x31, x34, 0⟩ : Vec) (⟨x39, x40, x41⟩ : Vec);
               .need ((impl_ShadowShare_need (⟨x19.Mass, x19.Radius, x19.Spin, x19.Start⟩ : Ball) (⟨x20.Long, x20.Round, x20.Tilt, x20.Node, x20.Peri, x20.Phase⟩ : Orbit) (⟨x31, x34, 0⟩ : Vec) 8)) (
               let x43 := impl_ShadowShare (⟨x19.Mass, x19.Radius, x19.Spin, x19.Start⟩ : Ball) (⟨x20.Long, x20.Round, x20.Tilt, x20.Node, x20.Peri, x20.Phase⟩ : Orbit) (⟨x31, x34, 0⟩ : Vec) 8;
               .ask x36.2
               (
                .ask x38.2
                (
                 .ask x42.2
                 (
                  .ask x43.2
                  (
                   .ask x36.1
                   (
                    .ask (!x38.1)
                    (
                     .ask (!x42.1)
                     (
                      let x44 := fge .f32 x43.1 0;
                      .ask x44
                      (
                       let x45 := fle .f32 x43.1 1065353216;
                       .leaf x45)
                      (
                       .leaf false))
                     (
                      .leaf false))
                    (
                     .leaf false))
                   (
                    .leaf false))
                  (
                   .leaf false))
                 (
                  .leaf false))
                (
                 .leaf false))
               (
                .leaf false)))))))))))))))))))))))))))))))))))))))))))))))))
def laws_FnPasses (a0 : List Int) (a1 : List Int) : Bool := (laws_FnPasses_tree a0 a1).val
def laws_FnPasses_need (a0 : List Int) (a1 : List Int) : Bool := (laws_FnPasses_tree a0 a1).ok
def laws_FnPasses_mk (p : Bool) : Ret := ⟨.bool p, []⟩
def laws_FnPasses_c0 : Con := fun args => match args with
  | [.vslc 1 (.int .u8) a0, .vslc 2 (.int .u8) a1] => some (.need (laws_FnPasses_need a0 a1) (.leaf (laws_FnPasses_mk (laws_FnPasses a0 a1))))
  | _ => none
theorem agree_cut {α : Type} {E : Env} {fuel : Nat} {x : Code} {rs : List ResultVar} {args : List PV} {mk : α → Ret} {l : List (Hs × α)} (n : Nat) (h1 : Agree E fuel x rs args mk (l.take n)) (h2 : Agree E fuel x rs args mk (l.drop n)) : Agree E fuel x rs args mk l := by
  have h3 : Agree E fuel x rs args mk (l.take n ++ l.drop n) := by
    unfold Agree at *
    rw [List.map_append, List.map_append, h1, h2]
  rwa [List.take_append_drop] at h3
def laws_FnPasses_env : Env := ⟨gam [(5, laws_r8Long_c), (6, laws_r8At_c), (7, impl_RisesIn_c), (8, impl_SetsIn_c), (9, impl_LongestPass_c), (10, spec_R8Ball_c), (11, spec_R8Orbit_c), (12, impl_TrackOf_c), (14, spec_R8Mark_c), (13, impl_SeenFrom_c), (15, impl_LaterOrbit_c), (16, impl_StateOf_c), (17, impl_MarkOf_c), (18, impl_SameMark_c), (19, impl_RiseAt_c), (21, impl_ScaleVector_c), (20, impl_InShadow_c), (22, impl_ShadowShare_c)], tab, 389, laws_FnPasses_loops⟩
set_option maxRecDepth 100000 in
theorem laws_FnPasses_part0 (a0 a1 : List Int) : Agree laws_FnPasses_env 100000 (bodyOf Try.f3) Try.f3.results.toList [.vslc 1 (.int .u8) a0, .vslc 2 (.int .u8) a1] laws_FnPasses_mk ((laws_FnPasses_tree a0 a1).leaves.take 10) := by unfold Agree; kernel_rfl
set_option maxRecDepth 100000 in
theorem laws_FnPasses_part1 (a0 a1 : List Int) : Agree laws_FnPasses_env 100000 (bodyOf Try.f3) Try.f3.results.toList [.vslc 1 (.int .u8) a0, .vslc 2 (.int .u8) a1] laws_FnPasses_mk (((laws_FnPasses_tree a0 a1).leaves.drop 10).take 10) := by unfold Agree; kernel_rfl
set_option maxRecDepth 100000 in
theorem laws_FnPasses_part2 (a0 a1 : List Int) : Agree laws_FnPasses_env 100000 (bodyOf Try.f3) Try.f3.results.toList [.vslc 1 (.int .u8) a0, .vslc 2 (.int .u8) a1] laws_FnPasses_mk (((laws_FnPasses_tree a0 a1).leaves.drop 20).take 10) := by unfold Agree; kernel_rfl
set_option maxRecDepth 100000 in
theorem laws_FnPasses_part3 (a0 a1 : List Int) : Agree laws_FnPasses_env 100000 (bodyOf Try.f3) Try.f3.results.toList [.vslc 1 (.int .u8) a0, .vslc 2 (.int .u8) a1] laws_FnPasses_mk (((laws_FnPasses_tree a0 a1).leaves.drop 30).take 10) := by unfold Agree; kernel_rfl
set_option maxRecDepth 100000 in
theorem laws_FnPasses_part4 (a0 a1 : List Int) : Agree laws_FnPasses_env 100000 (bodyOf Try.f3) Try.f3.results.toList [.vslc 1 (.int .u8) a0, .vslc 2 (.int .u8) a1] laws_FnPasses_mk (((laws_FnPasses_tree a0 a1).leaves.drop 40).take 10) := by unfold Agree; kernel_rfl
set_option maxRecDepth 100000 in
theorem laws_FnPasses_part5 (a0 a1 : List Int) : Agree laws_FnPasses_env 100000 (bodyOf Try.f3) Try.f3.results.toList [.vslc 1 (.int .u8) a0, .vslc 2 (.int .u8) a1] laws_FnPasses_mk (((laws_FnPasses_tree a0 a1).leaves.drop 50).take 10) := by unfold Agree; kernel_rfl
set_option maxRecDepth 100000 in
theorem laws_FnPasses_part6 (a0 a1 : List Int) : Agree laws_FnPasses_env 100000 (bodyOf Try.f3) Try.f3.results.toList [.vslc 1 (.int .u8) a0, .vslc 2 (.int .u8) a1] laws_FnPasses_mk (((laws_FnPasses_tree a0 a1).leaves.drop 60).take 10) := by unfold Agree; kernel_rfl
set_option maxRecDepth 100000 in
theorem laws_FnPasses_part7 (a0 a1 : List Int) : Agree laws_FnPasses_env 100000 (bodyOf Try.f3) Try.f3.results.toList [.vslc 1 (.int .u8) a0, .vslc 2 (.int .u8) a1] laws_FnPasses_mk (((laws_FnPasses_tree a0 a1).leaves.drop 70).take 10) := by unfold Agree; kernel_rfl
set_option maxRecDepth 100000 in
theorem laws_FnPasses_part8 (a0 a1 : List Int) : Agree laws_FnPasses_env 100000 (bodyOf Try.f3) Try.f3.results.toList [.vslc 1 (.int .u8) a0, .vslc 2 (.int .u8) a1] laws_FnPasses_mk (((laws_FnPasses_tree a0 a1).leaves.drop 80).take 10) := by unfold Agree; kernel_rfl
set_option maxRecDepth 100000 in
theorem laws_FnPasses_part9 (a0 a1 : List Int) : Agree laws_FnPasses_env 100000 (bodyOf Try.f3) Try.f3.results.toList [.vslc 1 (.int .u8) a0, .vslc 2 (.int .u8) a1] laws_FnPasses_mk ((laws_FnPasses_tree a0 a1).leaves.drop 90) := by unfold Agree; kernel_rfl
theorem laws_FnPasses_parts (a0 a1 : List Int) : Agree laws_FnPasses_env 100000 (bodyOf Try.f3) Try.f3.results.toList [.vslc 1 (.int .u8) a0, .vslc 2 (.int .u8) a1] laws_FnPasses_mk (laws_FnPasses_tree a0 a1).leaves := by
  refine agree_cut 10 (laws_FnPasses_part0 a0 a1) ?_
  refine agree_cut 10 (laws_FnPasses_part1 a0 a1) ?_
  rw [List.drop_drop]
  refine agree_cut 10 (laws_FnPasses_part2 a0 a1) ?_
  rw [List.drop_drop]
  refine agree_cut 10 (laws_FnPasses_part3 a0 a1) ?_
  rw [List.drop_drop]
  refine agree_cut 10 (laws_FnPasses_part4 a0 a1) ?_
  rw [List.drop_drop]
  refine agree_cut 10 (laws_FnPasses_part5 a0 a1) ?_
  rw [List.drop_drop]
  refine agree_cut 10 (laws_FnPasses_part6 a0 a1) ?_
  rw [List.drop_drop]
  refine agree_cut 10 (laws_FnPasses_part7 a0 a1) ?_
  rw [List.drop_drop]
  refine agree_cut 10 (laws_FnPasses_part8 a0 a1) ?_
  rw [List.drop_drop]
  exact laws_FnPasses_part9 a0 a1
set_option maxRecDepth 100000 in
theorem laws_FnPasses_ok0 : FunOK Try.prog 3 laws_FnPasses_c0.fn := by
  refine con_ok (Γ := gam [(5, laws_r8Long_c), (6, laws_r8At_c), (7, impl_RisesIn_c), (8, impl_SetsIn_c), (9, impl_LongestPass_c), (10, spec_R8Ball_c), (11, spec_R8Orbit_c), (12, impl_TrackOf_c), (14, spec_R8Mark_c), (13, impl_SeenFrom_c), (15, impl_LaterOrbit_c), (16, impl_StateOf_c), (17, impl_MarkOf_c), (18, impl_SameMark_c), (19, impl_RiseAt_c), (21, impl_ScaleVector_c), (20, impl_InShadow_c), (22, impl_ShadowShare_c)]) (gam_cons laws_r8Long_ok (gam_cons laws_r8At_ok (gam_cons impl_RisesIn_ok (gam_cons impl_SetsIn_ok (gam_cons impl_LongestPass_ok (gam_cons spec_R8Ball_ok (gam_cons spec_R8Orbit_ok (gam_cons impl_TrackOf_ok (gam_cons spec_R8Mark_ok (gam_cons impl_SeenFrom_ok (gam_cons impl_LaterOrbit_ok (gam_cons impl_StateOf_ok (gam_cons impl_MarkOf_ok (gam_cons impl_SameMark_ok (gam_cons impl_RiseAt_ok (gam_cons impl_ScaleVector_ok (gam_cons impl_InShadow_ok (gam_cons impl_ShadowShare_ok (gam_nil))))))))))))))))))) tab_ok (by kernel_rfl) Try.func3 (by kernel_rfl) (by kernel_rfl) Try.ntmps3 rfl (loops := laws_FnPasses_loops) (loopsOK_list (l := [lp Try.f3 0, lp Try.f3 1, lp Try.f3 2, lp Try.f3 3]) (by kernel_rfl) ⟨laws_FnPasses_l0, ⟨laws_FnPasses_l1, ⟨laws_FnPasses_l2, ⟨laws_FnPasses_l3, trivial⟩⟩⟩⟩) 100000 fun args t h => ?_
  unfold laws_FnPasses_c0 at h
  split at h
  · rename_i a0 a1
    cases h
    exact ⟨rfl, agree_need (mk := laws_FnPasses_mk) (t := laws_FnPasses_tree a0 a1) (laws_FnPasses_parts a0 a1)⟩
  · cases h
def laws_FnPasses_c : Con := fun args => laws_FnPasses_c0 (norms 0 [.slc (.int .u8), .slc (.int .u8)] args)
set_option maxRecDepth 100000 in
theorem laws_FnPasses_ok : FunOK Try.prog 3 laws_FnPasses_c.fn := con_norm [.slc (.int .u8), .slc (.int .u8)] laws_FnPasses_ok0

end
end Go.Proofs.Ytkmcgfjhjfiomaa
