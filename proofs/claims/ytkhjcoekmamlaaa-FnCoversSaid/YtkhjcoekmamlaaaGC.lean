/- THE WALK, BY A PROGRAM: typed functions, and that the code is they. -/
import Derived.Test.YtkhjcoekmamlaaaGCa
namespace Go.Proofs.Ytkhjcoekmamlaaa
set_option linter.unusedVariables false
set_option linter.unusedSimpArgs false
open Go.Extern
noncomputable section

/-- a loop of laws_FnCovers -/
def laws_FnCovers_loop0_step (p : List Int × Bool × Bool × Nat × Bool × Nat × Bool × Nat × Bool × Nat × Nat × Nat × Nat) (s : Int × List Bool) : Round (Int × List Bool) (List Bool) :=
  let x0 := decide (s.1 < 30);
  .ask x0
  (
   .need ((decide (0 ≤ s.1) && decide (s.1 < ((List.length s.2 : Nat) : Int)))) (
   .need ((decide ((Int.toNat s.1) < List.length s.2))) (
   let x1 := List.set s.2 (Int.toNat s.1) true;
   let x2 := IntKind.wrap .i64 (s.1 + 1);
   .leaf (.inl (x2, x1), [0, 1]))))
  (
   .leaf (.inr s.2, [0, 1]))
def laws_FnCovers_loop0_L (p : List Int × Bool × Bool × Nat × Bool × Nat × Bool × Nat × Bool × Nat × Nat × Nat × Nat) : LoopS (Int × List Bool) (List Bool) := { tl := fun s => [.junk, .vslc 2 (.int .u8) p.1, .junk, .junk, .junk, .ptr 0 0, .junk, .junk, .bool p.2.1, .junk, .bool p.2.2.1, .nils, .bool false, .nils, .bool false, .nils, .bool false, .flt .f32 p.2.2.2.1, .bool p.2.2.2.2.1, .flt .f32 p.2.2.2.2.2.1, .bool p.2.2.2.2.2.2.1, .own 1, .flt .f32 p.2.2.2.2.2.2.2.1, .bool p.2.2.2.2.2.2.2.2.1, .int .i64 s.1], hl := fun s => [some (.cells [.flt .f32 p.2.2.2.2.2.2.2.2.2.1, .flt .f32 p.2.2.2.2.2.2.2.2.2.2.1, .flt .f32 p.2.2.2.2.2.2.2.2.2.2.2.1, .flt .f32 p.2.2.2.2.2.2.2.2.2.2.2.2]), some (.typed 4 .bool s.2)], ex := fun r => .exit 0, otl := fun r => [.junk, .vslc 2 (.int .u8) p.1, .junk, .junk, .junk, .ptr 0 0, .junk, .junk, .bool p.2.1, .junk, .bool p.2.2.1, .nils, .bool false, .nils, .bool false, .nils, .bool false, .flt .f32 p.2.2.2.1, .bool p.2.2.2.2.1, .flt .f32 p.2.2.2.2.2.1, .bool p.2.2.2.2.2.2.1, .own 1, .flt .f32 p.2.2.2.2.2.2.2.1, .bool p.2.2.2.2.2.2.2.2.1], ohl := fun r => [some (.cells [.flt .f32 p.2.2.2.2.2.2.2.2.2.1, .flt .f32 p.2.2.2.2.2.2.2.2.2.2.1, .flt .f32 p.2.2.2.2.2.2.2.2.2.2.2.1, .flt .f32 p.2.2.2.2.2.2.2.2.2.2.2.2]), some (.typed 4 .bool r)] }
def laws_FnCovers_loop0_ext : St → Option ((List Int × Bool × Bool × Nat × Bool × Nat × Bool × Nat × Bool × Nat × Nat × Nat × Nat) × (Int × List Bool) × List Nat) := fun S => match (S.tm 1).unK, (S.tm 5).unK, (S.tm 8).unK, (S.tm 10).unK, (S.tm 11).unK, (S.tm 12).unK, (S.tm 13).unK, (S.tm 14).unK, (S.tm 15).unK, (S.tm 16).unK, (S.tm 17).unK, (S.tm 18).unK, (S.tm 19).unK, (S.tm 20).unK, (S.tm 21).unK, (S.tm 22).unK, (S.tm 23).unK, (S.tm 24).unK with
  | .vslc 2 (.int .u8) q0, .ptr i0 0, .bool q1, .bool q2, .nils, .bool false, .nils, .bool false, .nils, .bool false, .flt .f32 q6, .bool q7, .flt .f32 q8, .bool q9, .own i1, .flt .f32 q10, .bool q11, .int .i64 q12 => (match S.hp i0 with
    | some (.cells [.flt .f32 q13, .flt .f32 q14, .flt .f32 q15, .flt .f32 q16]) => (match S.hp i1 with
    | some (.typed 4 .bool q17) => (if nodup [i0, i1] = true then some ((q0, q1, q2, q6, q7, q8, q9, q10, q11, q13, q14, q15, q16), (q12, q17), [i0, i1]) else none)
    | _ => none)
    | _ => none)
  | _, _, _, _, _, _, _, _, _, _, _, _, _, _, _, _, _, _ => none
def laws_FnCovers_loop0_post (p : List Int × Bool × Bool × Nat × Bool × Nat × Bool × Nat × Bool × Nat × Nat × Nat × Nat) (r : List Bool) : DT (Ex × St) := .leaf (.exit 0, LSt [.junk, .vslc 2 (.int .u8) p.1, .junk, .junk, .junk, .ptr 0 0, .junk, .junk, .bool p.2.1, .junk, .bool p.2.2.1, .nils, .bool false, .nils, .bool false, .nils, .bool false, .flt .f32 p.2.2.2.1, .bool p.2.2.2.2.1, .flt .f32 p.2.2.2.2.2.1, .bool p.2.2.2.2.2.2.1, .own 1, .flt .f32 p.2.2.2.2.2.2.2.1, .bool p.2.2.2.2.2.2.2.2.1] [some (.cells [.flt .f32 p.2.2.2.2.2.2.2.2.2.1, .flt .f32 p.2.2.2.2.2.2.2.2.2.2.1, .flt .f32 p.2.2.2.2.2.2.2.2.2.2.2.1, .flt .f32 p.2.2.2.2.2.2.2.2.2.2.2.2]), some (.typed 4 .bool r)])
def laws_FnCovers_loop0 (p : List Int × Bool × Bool × Nat × Bool × Nat × Bool × Nat × Bool × Nat × Nat × Nat × Nat) (s : Int × List Bool) : List Bool := loopVal (laws_FnCovers_loop0_step p) s
def laws_FnCovers_loop0_ends (p : List Int × Bool × Bool × Nat × Bool × Nat × Bool × Nat × Bool × Nat × Nat × Nat × Nat) (s : Int × List Bool) : Bool := loopEnds (laws_FnCovers_loop0_step p) s
def laws_FnCovers_loop0_F : LoopF := loopF laws_FnCovers_loop0_step laws_FnCovers_loop0_ext laws_FnCovers_loop0_post
set_option maxRecDepth 100000 in
theorem laws_FnCovers_loop0_hext : ∀ S p s fl, laws_FnCovers_loop0_ext S = some (p, s, fl) → Norm S fl ((laws_FnCovers_loop0_L p).tl s) ((laws_FnCovers_loop0_L p).hl s) (laws_FnCovers_loop0_L p).gl := by
  intro S p s fl h
  unfold laws_FnCovers_loop0_ext at h
  (repeat' split at h) <;> first
    | (cases h; constructor <;> simp_all [laws_FnCovers_loop0_L, keepT, keepH, rens, renH, PV.ren, Blk.ren, fOf, lget, nodup, natIn, lenEq, gtm, PV.unK])
    | cases h
set_option maxRecDepth 100000 in
theorem laws_FnCovers_loop0_hpost : ∀ p r e S', (laws_FnCovers_loop0_post p r).get = some (e, S') → e = (laws_FnCovers_loop0_L p).ex r ∧ S' = LSt ((laws_FnCovers_loop0_L p).otl r) ((laws_FnCovers_loop0_L p).ohl r) ((laws_FnCovers_loop0_L p).ogl r) := by
  intro p r e S' h
  unfold laws_FnCovers_loop0_post at h
  simp only [DT.get, Option.some.injEq, Prod.mk.injEq] at h; exact ⟨h.1.symm, h.2.symm⟩

/-- a loop of laws_FnCovers -/
def laws_FnCovers_loop0v1_step (p : List Int × Bool × Bool × Nat × Bool × Nat × Bool × Nat × Bool × Nat × Nat × Nat × Nat × List Bool) (s : Int × List Bool) : Round (Int × List Bool) (List Bool) :=
  let x0 := decide (s.1 < 30);
  .ask x0
  (
   .need ((decide (0 ≤ s.1) && decide (s.1 < ((List.length s.2 : Nat) : Int)))) (
   .need ((decide ((Int.toNat s.1) < List.length s.2))) (
   let x1 := List.set s.2 (Int.toNat s.1) true;
   let x2 := IntKind.wrap .i64 (s.1 + 1);
   .leaf (.inl (x2, x1), [0, 1, 2]))))
  (
   .leaf (.inr s.2, [0, 1, 2]))
def laws_FnCovers_loop0v1_L (p : List Int × Bool × Bool × Nat × Bool × Nat × Bool × Nat × Bool × Nat × Nat × Nat × Nat × List Bool) : LoopS (Int × List Bool) (List Bool) := { tl := fun s => [.junk, .vslc 2 (.int .u8) p.1, .junk, .junk, .junk, .ptr 0 0, .junk, .junk, .bool p.2.1, .junk, .bool p.2.2.1, .nils, .bool false, .nils, .bool false, .own 1, .bool true, .flt .f32 p.2.2.2.1, .bool p.2.2.2.2.1, .flt .f32 p.2.2.2.2.2.1, .bool p.2.2.2.2.2.2.1, .own 2, .flt .f32 p.2.2.2.2.2.2.2.1, .bool p.2.2.2.2.2.2.2.2.1, .int .i64 s.1], hl := fun s => [some (.cells [.flt .f32 p.2.2.2.2.2.2.2.2.2.1, .flt .f32 p.2.2.2.2.2.2.2.2.2.2.1, .flt .f32 p.2.2.2.2.2.2.2.2.2.2.2.1, .flt .f32 p.2.2.2.2.2.2.2.2.2.2.2.2.1]), some (.typed 4 .bool p.2.2.2.2.2.2.2.2.2.2.2.2.2), some (.typed 4 .bool s.2)], ex := fun r => .exit 0, otl := fun r => [.junk, .vslc 2 (.int .u8) p.1, .junk, .junk, .junk, .ptr 0 0, .junk, .junk, .bool p.2.1, .junk, .bool p.2.2.1, .nils, .bool false, .nils, .bool false, .own 1, .bool true, .flt .f32 p.2.2.2.1, .bool p.2.2.2.2.1, .flt .f32 p.2.2.2.2.2.1, .bool p.2.2.2.2.2.2.1, .own 2, .flt .f32 p.2.2.2.2.2.2.2.1, .bool p.2.2.2.2.2.2.2.2.1], ohl := fun r => [some (.cells [.flt .f32 p.2.2.2.2.2.2.2.2.2.1, .flt .f32 p.2.2.2.2.2.2.2.2.2.2.1, .flt .f32 p.2.2.2.2.2.2.2.2.2.2.2.1, .flt .f32 p.2.2.2.2.2.2.2.2.2.2.2.2.1]), some (.typed 4 .bool p.2.2.2.2.2.2.2.2.2.2.2.2.2), some (.typed 4 .bool r)] }
def laws_FnCovers_loop0v1_ext : St → Option ((List Int × Bool × Bool × Nat × Bool × Nat × Bool × Nat × Bool × Nat × Nat × Nat × Nat × List Bool) × (Int × List Bool) × List Nat) := fun S => match (S.tm 1).unK, (S.tm 5).unK, (S.tm 8).unK, (S.tm 10).unK, (S.tm 11).unK, (S.tm 12).unK, (S.tm 13).unK, (S.tm 14).unK, (S.tm 15).unK, (S.tm 16).unK, (S.tm 17).unK, (S.tm 18).unK, (S.tm 19).unK, (S.tm 20).unK, (S.tm 21).unK, (S.tm 22).unK, (S.tm 23).unK, (S.tm 24).unK with
  | .vslc 2 (.int .u8) q0, .ptr i0 0, .bool q1, .bool q2, .nils, .bool false, .nils, .bool false, .own i1, .bool true, .flt .f32 q6, .bool q7, .flt .f32 q8, .bool q9, .own i2, .flt .f32 q10, .bool q11, .int .i64 q12 => (match S.hp i0 with
    | some (.cells [.flt .f32 q13, .flt .f32 q14, .flt .f32 q15, .flt .f32 q16]) => (match S.hp i1 with
    | some (.typed 4 .bool q17) => (match S.hp i2 with
    | some (.typed 4 .bool q18) => (if nodup [i0, i1, i2] = true then some ((q0, q1, q2, q6, q7, q8, q9, q10, q11, q13, q14, q15, q16, q17), (q12, q18), [i0, i1, i2]) else none)
    | _ => none)
    | _ => none)
    | _ => none)
  | _, _, _, _, _, _, _, _, _, _, _, _, _, _, _, _, _, _ => none
def laws_FnCovers_loop0v1_post (p : List Int × Bool × Bool × Nat × Bool × Nat × Bool × Nat × Bool × Nat × Nat × Nat × Nat × List Bool) (r : List Bool) : DT (Ex × St) := .leaf (.exit 0, LSt [.junk, .vslc 2 (.int .u8) p.1, .junk, .junk, .junk, .ptr 0 0, .junk, .junk, .bool p.2.1, .junk, .bool p.2.2.1, .nils, .bool false, .nils, .bool false, .own 1, .bool true, .flt .f32 p.2.2.2.1, .bool p.2.2.2.2.1, .flt .f32 p.2.2.2.2.2.1, .bool p.2.2.2.2.2.2.1, .own 2, .flt .f32 p.2.2.2.2.2.2.2.1, .bool p.2.2.2.2.2.2.2.2.1] [some (.cells [.flt .f32 p.2.2.2.2.2.2.2.2.2.1, .flt .f32 p.2.2.2.2.2.2.2.2.2.2.1, .flt .f32 p.2.2.2.2.2.2.2.2.2.2.2.1, .flt .f32 p.2.2.2.2.2.2.2.2.2.2.2.2.1]), some (.typed 4 .bool p.2.2.2.2.2.2.2.2.2.2.2.2.2), some (.typed 4 .bool r)])
def laws_FnCovers_loop0v1 (p : List Int × Bool × Bool × Nat × Bool × Nat × Bool × Nat × Bool × Nat × Nat × Nat × Nat × List Bool) (s : Int × List Bool) : List Bool := loopVal (laws_FnCovers_loop0v1_step p) s
def laws_FnCovers_loop0v1_ends (p : List Int × Bool × Bool × Nat × Bool × Nat × Bool × Nat × Bool × Nat × Nat × Nat × Nat × List Bool) (s : Int × List Bool) : Bool := loopEnds (laws_FnCovers_loop0v1_step p) s
def laws_FnCovers_loop0v1_F : LoopF := loopF laws_FnCovers_loop0v1_step laws_FnCovers_loop0v1_ext laws_FnCovers_loop0v1_post
set_option maxRecDepth 100000 in
theorem laws_FnCovers_loop0v1_hext : ∀ S p s fl, laws_FnCovers_loop0v1_ext S = some (p, s, fl) → Norm S fl ((laws_FnCovers_loop0v1_L p).tl s) ((laws_FnCovers_loop0v1_L p).hl s) (laws_FnCovers_loop0v1_L p).gl := by
  intro S p s fl h
  unfold laws_FnCovers_loop0v1_ext at h
  (repeat' split at h) <;> first
    | (cases h; constructor <;> simp_all [laws_FnCovers_loop0v1_L, keepT, keepH, rens, renH, PV.ren, Blk.ren, fOf, lget, nodup, natIn, lenEq, gtm, PV.unK])
    | cases h
set_option maxRecDepth 100000 in
theorem laws_FnCovers_loop0v1_hpost : ∀ p r e S', (laws_FnCovers_loop0v1_post p r).get = some (e, S') → e = (laws_FnCovers_loop0v1_L p).ex r ∧ S' = LSt ((laws_FnCovers_loop0v1_L p).otl r) ((laws_FnCovers_loop0v1_L p).ohl r) ((laws_FnCovers_loop0v1_L p).ogl r) := by
  intro p r e S' h
  unfold laws_FnCovers_loop0v1_post at h
  simp only [DT.get, Option.some.injEq, Prod.mk.injEq] at h; exact ⟨h.1.symm, h.2.symm⟩

/-- a loop of laws_FnCovers -/
def laws_FnCovers_loop0v2_step (p : List Int × Bool × Bool × Nat × Bool × Nat × Bool × Nat × Bool × Nat × Nat × Nat × Nat × List Bool) (s : Int × List Bool) : Round (Int × List Bool) (List Bool) :=
  let x0 := decide (s.1 < 30);
  .ask x0
  (
   .need ((decide (0 ≤ s.1) && decide (s.1 < ((List.length s.2 : Nat) : Int)))) (
   .need ((decide ((Int.toNat s.1) < List.length s.2))) (
   let x1 := List.set s.2 (Int.toNat s.1) true;
   let x2 := IntKind.wrap .i64 (s.1 + 1);
   .leaf (.inl (x2, x1), [0, 1, 2]))))
  (
   .leaf (.inr s.2, [0, 1, 2]))
def laws_FnCovers_loop0v2_L (p : List Int × Bool × Bool × Nat × Bool × Nat × Bool × Nat × Bool × Nat × Nat × Nat × Nat × List Bool) : LoopS (Int × List Bool) (List Bool) := { tl := fun s => [.junk, .vslc 2 (.int .u8) p.1, .junk, .junk, .junk, .ptr 0 0, .junk, .junk, .bool p.2.1, .junk, .bool p.2.2.1, .nils, .bool false, .own 1, .bool true, .nils, .bool false, .flt .f32 p.2.2.2.1, .bool p.2.2.2.2.1, .flt .f32 p.2.2.2.2.2.1, .bool p.2.2.2.2.2.2.1, .own 2, .flt .f32 p.2.2.2.2.2.2.2.1, .bool p.2.2.2.2.2.2.2.2.1, .int .i64 s.1], hl := fun s => [some (.cells [.flt .f32 p.2.2.2.2.2.2.2.2.2.1, .flt .f32 p.2.2.2.2.2.2.2.2.2.2.1, .flt .f32 p.2.2.2.2.2.2.2.2.2.2.2.1, .flt .f32 p.2.2.2.2.2.2.2.2.2.2.2.2.1]), some (.typed 4 .bool p.2.2.2.2.2.2.2.2.2.2.2.2.2), some (.typed 4 .bool s.2)], ex := fun r => .exit 0, otl := fun r => [.junk, .vslc 2 (.int .u8) p.1, .junk, .junk, .junk, .ptr 0 0, .junk, .junk, .bool p.2.1, .junk, .bool p.2.2.1, .nils, .bool false, .own 1, .bool true, .nils, .bool false, .flt .f32 p.2.2.2.1, .bool p.2.2.2.2.1, .flt .f32 p.2.2.2.2.2.1, .bool p.2.2.2.2.2.2.1, .own 2, .flt .f32 p.2.2.2.2.2.2.2.1, .bool p.2.2.2.2.2.2.2.2.1], ohl := fun r => [some (.cells [.flt .f32 p.2.2.2.2.2.2.2.2.2.1, .flt .f32 p.2.2.2.2.2.2.2.2.2.2.1, .flt .f32 p.2.2.2.2.2.2.2.2.2.2.2.1, .flt .f32 p.2.2.2.2.2.2.2.2.2.2.2.2.1]), some (.typed 4 .bool p.2.2.2.2.2.2.2.2.2.2.2.2.2), some (.typed 4 .bool r)] }
def laws_FnCovers_loop0v2_ext : St → Option ((List Int × Bool × Bool × Nat × Bool × Nat × Bool × Nat × Bool × Nat × Nat × Nat × Nat × List Bool) × (Int × List Bool) × List Nat) := fun S => match (S.tm 1).unK, (S.tm 5).unK, (S.tm 8).unK, (S.tm 10).unK, (S.tm 11).unK, (S.tm 12).unK, (S.tm 13).unK, (S.tm 14).unK, (S.tm 15).unK, (S.tm 16).unK, (S.tm 17).unK, (S.tm 18).unK, (S.tm 19).unK, (S.tm 20).unK, (S.tm 21).unK, (S.tm 22).unK, (S.tm 23).unK, (S.tm 24).unK with
  | .vslc 2 (.int .u8) q0, .ptr i0 0, .bool q1, .bool q2, .nils, .bool false, .own i1, .bool true, .nils, .bool false, .flt .f32 q6, .bool q7, .flt .f32 q8, .bool q9, .own i2, .flt .f32 q10, .bool q11, .int .i64 q12 => (match S.hp i0 with
    | some (.cells [.flt .f32 q13, .flt .f32 q14, .flt .f32 q15, .flt .f32 q16]) => (match S.hp i1 with
    | some (.typed 4 .bool q17) => (match S.hp i2 with
    | some (.typed 4 .bool q18) => (if nodup [i0, i1, i2] = true then some ((q0, q1, q2, q6, q7, q8, q9, q10, q11, q13, q14, q15, q16, q17), (q12, q18), [i0, i1, i2]) else none)
    | _ => none)
    | _ => none)
    | _ => none)
  | _, _, _, _, _, _, _, _, _, _, _, _, _, _, _, _, _, _ => none
def laws_FnCovers_loop0v2_post (p : List Int × Bool × Bool × Nat × Bool × Nat × Bool × Nat × Bool × Nat × Nat × Nat × Nat × List Bool) (r : List Bool) : DT (Ex × St) := .leaf (.exit 0, LSt [.junk, .vslc 2 (.int .u8) p.1, .junk, .junk, .junk, .ptr 0 0, .junk, .junk, .bool p.2.1, .junk, .bool p.2.2.1, .nils, .bool false, .own 1, .bool true, .nils, .bool false, .flt .f32 p.2.2.2.1, .bool p.2.2.2.2.1, .flt .f32 p.2.2.2.2.2.1, .bool p.2.2.2.2.2.2.1, .own 2, .flt .f32 p.2.2.2.2.2.2.2.1, .bool p.2.2.2.2.2.2.2.2.1] [some (.cells [.flt .f32 p.2.2.2.2.2.2.2.2.2.1, .flt .f32 p.2.2.2.2.2.2.2.2.2.2.1, .flt .f32 p.2.2.2.2.2.2.2.2.2.2.2.1, .flt .f32 p.2.2.2.2.2.2.2.2.2.2.2.2.1]), some (.typed 4 .bool p.2.2.2.2.2.2.2.2.2.2.2.2.2), some (.typed 4 .bool r)])
def laws_FnCovers_loop0v2 (p : List Int × Bool × Bool × Nat × Bool × Nat × Bool × Nat × Bool × Nat × Nat × Nat × Nat × List Bool) (s : Int × List Bool) : List Bool := loopVal (laws_FnCovers_loop0v2_step p) s
def laws_FnCovers_loop0v2_ends (p : List Int × Bool × Bool × Nat × Bool × Nat × Bool × Nat × Bool × Nat × Nat × Nat × Nat × List Bool) (s : Int × List Bool) : Bool := loopEnds (laws_FnCovers_loop0v2_step p) s
def laws_FnCovers_loop0v2_F : LoopF := loopF laws_FnCovers_loop0v2_step laws_FnCovers_loop0v2_ext laws_FnCovers_loop0v2_post
set_option maxRecDepth 100000 in
theorem laws_FnCovers_loop0v2_hext : ∀ S p s fl, laws_FnCovers_loop0v2_ext S = some (p, s, fl) → Norm S fl ((laws_FnCovers_loop0v2_L p).tl s) ((laws_FnCovers_loop0v2_L p).hl s) (laws_FnCovers_loop0v2_L p).gl := by
  intro S p s fl h
  unfold laws_FnCovers_loop0v2_ext at h
  (repeat' split at h) <;> first
    | (cases h; constructor <;> simp_all [laws_FnCovers_loop0v2_L, keepT, keepH, rens, renH, PV.ren, Blk.ren, fOf, lget, nodup, natIn, lenEq, gtm, PV.unK])
    | cases h
set_option maxRecDepth 100000 in
theorem laws_FnCovers_loop0v2_hpost : ∀ p r e S', (laws_FnCovers_loop0v2_post p r).get = some (e, S') → e = (laws_FnCovers_loop0v2_L p).ex r ∧ S' = LSt ((laws_FnCovers_loop0v2_L p).otl r) ((laws_FnCovers_loop0v2_L p).ohl r) ((laws_FnCovers_loop0v2_L p).ogl r) := by
  intro p r e S' h
  unfold laws_FnCovers_loop0v2_post at h
  simp only [DT.get, Option.some.injEq, Prod.mk.injEq] at h; exact ⟨h.1.symm, h.2.symm⟩

/-- a loop of laws_FnCovers -/
def laws_FnCovers_loop0v3_step (p : List Int × Bool × Bool × Nat × Bool × Nat × Bool × Nat × Bool × Nat × Nat × Nat × Nat × List Bool × List Bool) (s : Int × List Bool) : Round (Int × List Bool) (List Bool) :=
  let x0 := decide (s.1 < 30);
  .ask x0
  (
   .need ((decide (0 ≤ s.1) && decide (s.1 < ((List.length s.2 : Nat) : Int)))) (
   .need ((decide ((Int.toNat s.1) < List.length s.2))) (
   let x1 := List.set s.2 (Int.toNat s.1) true;
   let x2 := IntKind.wrap .i64 (s.1 + 1);
   .leaf (.inl (x2, x1), [0, 1, 2, 3]))))
  (
   .leaf (.inr s.2, [0, 1, 2, 3]))
def laws_FnCovers_loop0v3_L (p : List Int × Bool × Bool × Nat × Bool × Nat × Bool × Nat × Bool × Nat × Nat × Nat × Nat × List Bool × List Bool) : LoopS (Int × List Bool) (List Bool) := { tl := fun s => [.junk, .vslc 2 (.int .u8) p.1, .junk, .junk, .junk, .ptr 0 0, .junk, .junk, .bool p.2.1, .junk, .bool p.2.2.1, .nils, .bool false, .own 1, .bool true, .own 2, .bool true, .flt .f32 p.2.2.2.1, .bool p.2.2.2.2.1, .flt .f32 p.2.2.2.2.2.1, .bool p.2.2.2.2.2.2.1, .own 3, .flt .f32 p.2.2.2.2.2.2.2.1, .bool p.2.2.2.2.2.2.2.2.1, .int .i64 s.1], hl := fun s => [some (.cells [.flt .f32 p.2.2.2.2.2.2.2.2.2.1, .flt .f32 p.2.2.2.2.2.2.2.2.2.2.1, .flt .f32 p.2.2.2.2.2.2.2.2.2.2.2.1, .flt .f32 p.2.2.2.2.2.2.2.2.2.2.2.2.1]), some (.typed 4 .bool p.2.2.2.2.2.2.2.2.2.2.2.2.2.1), some (.typed 4 .bool p.2.2.2.2.2.2.2.2.2.2.2.2.2.2), some (.typed 4 .bool s.2)], ex := fun r => .exit 0, otl := fun r => [.junk, .vslc 2 (.int .u8) p.1, .junk, .junk, .junk, .ptr 0 0, .junk, .junk, .bool p.2.1, .junk, .bool p.2.2.1, .nils, .bool false, .own 1, .bool true, .own 2, .bool true, .flt .f32 p.2.2.2.1, .bool p.2.2.2.2.1, .flt .f32 p.2.2.2.2.2.1, .bool p.2.2.2.2.2.2.1, .own 3, .flt .f32 p.2.2.2.2.2.2.2.1, .bool p.2.2.2.2.2.2.2.2.1], ohl := fun r => [some (.cells [.flt .f32 p.2.2.2.2.2.2.2.2.2.1, .flt .f32 p.2.2.2.2.2.2.2.2.2.2.1, .flt .f32 p.2.2.2.2.2.2.2.2.2.2.2.1, .flt .f32 p.2.2.2.2.2.2.2.2.2.2.2.2.1]), some (.typed 4 .bool p.2.2.2.2.2.2.2.2.2.2.2.2.2.1), some (.typed 4 .bool p.2.2.2.2.2.2.2.2.2.2.2.2.2.2), some (.typed 4 .bool r)] }
def laws_FnCovers_loop0v3_ext : St → Option ((List Int × Bool × Bool × Nat × Bool × Nat × Bool × Nat × Bool × Nat × Nat × Nat × Nat × List Bool × List Bool) × (Int × List Bool) × List Nat) := fun S => match (S.tm 1).unK, (S.tm 5).unK, (S.tm 8).unK, (S.tm 10).unK, (S.tm 11).unK, (S.tm 12).unK, (S.tm 13).unK, (S.tm 14).unK, (S.tm 15).unK, (S.tm 16).unK, (S.tm 17).unK, (S.tm 18).unK, (S.tm 19).unK, (S.tm 20).unK, (S.tm 21).unK, (S.tm 22).unK, (S.tm 23).unK, (S.tm 24).unK with
  | .vslc 2 (.int .u8) q0, .ptr i0 0, .bool q1, .bool q2, .nils, .bool false, .own i1, .bool true, .own i2, .bool true, .flt .f32 q6, .bool q7, .flt .f32 q8, .bool q9, .own i3, .flt .f32 q10, .bool q11, .int .i64 q12 => (match S.hp i0 with
    | some (.cells [.flt .f32 q13, .flt .f32 q14, .flt .f32 q15, .flt .f32 q16]) => (match S.hp i1 with
    | some (.typed 4 .bool q17) => (match S.hp i2 with
    | some (.typed 4 .bool q18) => (match S.hp i3 with
    | some (.typed 4 .bool q19) => (if nodup [i0, i1, i2, i3] = true then some ((q0, q1, q2, q6, q7, q8, q9, q10, q11, q13, q14, q15, q16, q17, q18), (q12, q19), [i0, i1, i2, i3]) else none)
    | _ => none)
    | _ => none)
    | _ => none)
    | _ => none)
  | _, _, _, _, _, _, _, _, _, _, _, _, _, _, _, _, _, _ => none
def laws_FnCovers_loop0v3_post (p : List Int × Bool × Bool × Nat × Bool × Nat × Bool × Nat × Bool × Nat × Nat × Nat × Nat × List Bool × List Bool) (r : List Bool) : DT (Ex × St) := .leaf (.exit 0, LSt [.junk, .vslc 2 (.int .u8) p.1, .junk, .junk, .junk, .ptr 0 0, .junk, .junk, .bool p.2.1, .junk, .bool p.2.2.1, .nils, .bool false, .own 1, .bool true, .own 2, .bool true, .flt .f32 p.2.2.2.1, .bool p.2.2.2.2.1, .flt .f32 p.2.2.2.2.2.1, .bool p.2.2.2.2.2.2.1, .own 3, .flt .f32 p.2.2.2.2.2.2.2.1, .bool p.2.2.2.2.2.2.2.2.1] [some (.cells [.flt .f32 p.2.2.2.2.2.2.2.2.2.1, .flt .f32 p.2.2.2.2.2.2.2.2.2.2.1, .flt .f32 p.2.2.2.2.2.2.2.2.2.2.2.1, .flt .f32 p.2.2.2.2.2.2.2.2.2.2.2.2.1]), some (.typed 4 .bool p.2.2.2.2.2.2.2.2.2.2.2.2.2.1), some (.typed 4 .bool p.2.2.2.2.2.2.2.2.2.2.2.2.2.2), some (.typed 4 .bool r)])
def laws_FnCovers_loop0v3 (p : List Int × Bool × Bool × Nat × Bool × Nat × Bool × Nat × Bool × Nat × Nat × Nat × Nat × List Bool × List Bool) (s : Int × List Bool) : List Bool := loopVal (laws_FnCovers_loop0v3_step p) s
def laws_FnCovers_loop0v3_ends (p : List Int × Bool × Bool × Nat × Bool × Nat × Bool × Nat × Bool × Nat × Nat × Nat × Nat × List Bool × List Bool) (s : Int × List Bool) : Bool := loopEnds (laws_FnCovers_loop0v3_step p) s
def laws_FnCovers_loop0v3_F : LoopF := loopF laws_FnCovers_loop0v3_step laws_FnCovers_loop0v3_ext laws_FnCovers_loop0v3_post
set_option maxRecDepth 100000 in
theorem laws_FnCovers_loop0v3_hext : ∀ S p s fl, laws_FnCovers_loop0v3_ext S = some (p, s, fl) → Norm S fl ((laws_FnCovers_loop0v3_L p).tl s) ((laws_FnCovers_loop0v3_L p).hl s) (laws_FnCovers_loop0v3_L p).gl := by
  intro S p s fl h
  unfold laws_FnCovers_loop0v3_ext at h
  (repeat' split at h) <;> first
    | (cases h; constructor <;> simp_all [laws_FnCovers_loop0v3_L, keepT, keepH, rens, renH, PV.ren, Blk.ren, fOf, lget, nodup, natIn, lenEq, gtm, PV.unK])
    | cases h
set_option maxRecDepth 100000 in
theorem laws_FnCovers_loop0v3_hpost : ∀ p r e S', (laws_FnCovers_loop0v3_post p r).get = some (e, S') → e = (laws_FnCovers_loop0v3_L p).ex r ∧ S' = LSt ((laws_FnCovers_loop0v3_L p).otl r) ((laws_FnCovers_loop0v3_L p).ohl r) ((laws_FnCovers_loop0v3_L p).ogl r) := by
  intro p r e S' h
  unfold laws_FnCovers_loop0v3_post at h
  simp only [DT.get, Option.some.injEq, Prod.mk.injEq] at h; exact ⟨h.1.symm, h.2.symm⟩

/-- a loop of laws_FnCovers -/
def laws_FnCovers_loop0v4_step (p : List Int × Bool × Bool × Nat × Bool × Nat × Bool × Nat × Bool × Nat × Nat × Nat × Nat × List Bool) (s : Int × List Bool) : Round (Int × List Bool) (List Bool) :=
  let x0 := decide (s.1 < 30);
  .ask x0
  (
   .need ((decide (0 ≤ s.1) && decide (s.1 < ((List.length s.2 : Nat) : Int)))) (
   .need ((decide ((Int.toNat s.1) < List.length s.2))) (
   let x1 := List.set s.2 (Int.toNat s.1) true;
   let x2 := IntKind.wrap .i64 (s.1 + 1);
   .leaf (.inl (x2, x1), [0, 1, 2]))))
  (
   .leaf (.inr s.2, [0, 1, 2]))
def laws_FnCovers_loop0v4_L (p : List Int × Bool × Bool × Nat × Bool × Nat × Bool × Nat × Bool × Nat × Nat × Nat × Nat × List Bool) : LoopS (Int × List Bool) (List Bool) := { tl := fun s => [.junk, .vslc 2 (.int .u8) p.1, .junk, .junk, .junk, .ptr 0 0, .junk, .junk, .bool p.2.1, .junk, .bool p.2.2.1, .own 1, .bool true, .nils, .bool false, .nils, .bool false, .flt .f32 p.2.2.2.1, .bool p.2.2.2.2.1, .flt .f32 p.2.2.2.2.2.1, .bool p.2.2.2.2.2.2.1, .own 2, .flt .f32 p.2.2.2.2.2.2.2.1, .bool p.2.2.2.2.2.2.2.2.1, .int .i64 s.1], hl := fun s => [some (.cells [.flt .f32 p.2.2.2.2.2.2.2.2.2.1, .flt .f32 p.2.2.2.2.2.2.2.2.2.2.1, .flt .f32 p.2.2.2.2.2.2.2.2.2.2.2.1, .flt .f32 p.2.2.2.2.2.2.2.2.2.2.2.2.1]), some (.typed 4 .bool p.2.2.2.2.2.2.2.2.2.2.2.2.2), some (.typed 4 .bool s.2)], ex := fun r => .exit 0, otl := fun r => [.junk, .vslc 2 (.int .u8) p.1, .junk, .junk, .junk, .ptr 0 0, .junk, .junk, .bool p.2.1, .junk, .bool p.2.2.1, .own 1, .bool true, .nils, .bool false, .nils, .bool false, .flt .f32 p.2.2.2.1, .bool p.2.2.2.2.1, .flt .f32 p.2.2.2.2.2.1, .bool p.2.2.2.2.2.2.1, .own 2, .flt .f32 p.2.2.2.2.2.2.2.1, .bool p.2.2.2.2.2.2.2.2.1], ohl := fun r => [some (.cells [.flt .f32 p.2.2.2.2.2.2.2.2.2.1, .flt .f32 p.2.2.2.2.2.2.2.2.2.2.1, .flt .f32 p.2.2.2.2.2.2.2.2.2.2.2.1, .flt .f32 p.2.2.2.2.2.2.2.2.2.2.2.2.1]), some (.typed 4 .bool p.2.2.2.2.2.2.2.2.2.2.2.2.2), some (.typed 4 .bool r)] }
def laws_FnCovers_loop0v4_ext : St → Option ((List Int × Bool × Bool × Nat × Bool × Nat × Bool × Nat × Bool × Nat × Nat × Nat × Nat × List Bool) × (Int × List Bool) × List Nat) := fun S => match (S.tm 1).unK, (S.tm 5).unK, (S.tm 8).unK, (S.tm 10).unK, (S.tm 11).unK, (S.tm 12).unK, (S.tm 13).unK, (S.tm 14).unK, (S.tm 15).unK, (S.tm 16).unK, (S.tm 17).unK, (S.tm 18).unK, (S.tm 19).unK, (S.tm 20).unK, (S.tm 21).unK, (S.tm 22).unK, (S.tm 23).unK, (S.tm 24).unK with
  | .vslc 2 (.int .u8) q0, .ptr i0 0, .bool q1, .bool q2, .own i1, .bool true, .nils, .bool false, .nils, .bool false, .flt .f32 q6, .bool q7, .flt .f32 q8, .bool q9, .own i2, .flt .f32 q10, .bool q11, .int .i64 q12 => (match S.hp i0 with
    | some (.cells [.flt .f32 q13, .flt .f32 q14, .flt .f32 q15, .flt .f32 q16]) => (match S.hp i1 with
    | some (.typed 4 .bool q17) => (match S.hp i2 with
    | some (.typed 4 .bool q18) => (if nodup [i0, i1, i2] = true then some ((q0, q1, q2, q6, q7, q8, q9, q10, q11, q13, q14, q15, q16, q17), (q12, q18), [i0, i1, i2]) else none)
    | _ => none)
    | _ => none)
    | _ => none)
  | _, _, _, _, _, _, _, _, _, _, _, _, _, _, _, _, _, _ => none
def laws_FnCovers_loop0v4_post (p : List Int × Bool × Bool × Nat × Bool × Nat × Bool × Nat × Bool × Nat × Nat × Nat × Nat × List Bool) (r : List Bool) : DT (Ex × St) := .leaf (.exit 0, LSt [.junk, .vslc 2 (.int .u8) p.1, .junk, .junk, .junk, .ptr 0 0, .junk, .junk, .bool p.2.1, .junk, .bool p.2.2.1, .own 1, .bool true, .nils, .bool false, .nils, .bool false, .flt .f32 p.2.2.2.1, .bool p.2.2.2.2.1, .flt .f32 p.2.2.2.2.2.1, .bool p.2.2.2.2.2.2.1, .own 2, .flt .f32 p.2.2.2.2.2.2.2.1, .bool p.2.2.2.2.2.2.2.2.1] [some (.cells [.flt .f32 p.2.2.2.2.2.2.2.2.2.1, .flt .f32 p.2.2.2.2.2.2.2.2.2.2.1, .flt .f32 p.2.2.2.2.2.2.2.2.2.2.2.1, .flt .f32 p.2.2.2.2.2.2.2.2.2.2.2.2.1]), some (.typed 4 .bool p.2.2.2.2.2.2.2.2.2.2.2.2.2), some (.typed 4 .bool r)])
def laws_FnCovers_loop0v4 (p : List Int × Bool × Bool × Nat × Bool × Nat × Bool × Nat × Bool × Nat × Nat × Nat × Nat × List Bool) (s : Int × List Bool) : List Bool := loopVal (laws_FnCovers_loop0v4_step p) s
def laws_FnCovers_loop0v4_ends (p : List Int × Bool × Bool × Nat × Bool × Nat × Bool × Nat × Bool × Nat × Nat × Nat × Nat × List Bool) (s : Int × List Bool) : Bool := loopEnds (laws_FnCovers_loop0v4_step p) s
def laws_FnCovers_loop0v4_F : LoopF := loopF laws_FnCovers_loop0v4_step laws_FnCovers_loop0v4_ext laws_FnCovers_loop0v4_post
set_option maxRecDepth 100000 in
theorem laws_FnCovers_loop0v4_hext : ∀ S p s fl, laws_FnCovers_loop0v4_ext S = some (p, s, fl) → Norm S fl ((laws_FnCovers_loop0v4_L p).tl s) ((laws_FnCovers_loop0v4_L p).hl s) (laws_FnCovers_loop0v4_L p).gl := by
  intro S p s fl h
  unfold laws_FnCovers_loop0v4_ext at h
  (repeat' split at h) <;> first
    | (cases h; constructor <;> simp_all [laws_FnCovers_loop0v4_L, keepT, keepH, rens, renH, PV.ren, Blk.ren, fOf, lget, nodup, natIn, lenEq, gtm, PV.unK])
    | cases h
set_option maxRecDepth 100000 in
theorem laws_FnCovers_loop0v4_hpost : ∀ p r e S', (laws_FnCovers_loop0v4_post p r).get = some (e, S') → e = (laws_FnCovers_loop0v4_L p).ex r ∧ S' = LSt ((laws_FnCovers_loop0v4_L p).otl r) ((laws_FnCovers_loop0v4_L p).ohl r) ((laws_FnCovers_loop0v4_L p).ogl r) := by
  intro p r e S' h
  unfold laws_FnCovers_loop0v4_post at h
  simp only [DT.get, Option.some.injEq, Prod.mk.injEq] at h; exact ⟨h.1.symm, h.2.symm⟩

/-- a loop of laws_FnCovers -/
def laws_FnCovers_loop0v5_step (p : List Int × Bool × Bool × Nat × Bool × Nat × Bool × Nat × Bool × Nat × Nat × Nat × Nat × List Bool × List Bool) (s : Int × List Bool) : Round (Int × List Bool) (List Bool) :=
  let x0 := decide (s.1 < 30);
  .ask x0
  (
   .need ((decide (0 ≤ s.1) && decide (s.1 < ((List.length s.2 : Nat) : Int)))) (
   .need ((decide ((Int.toNat s.1) < List.length s.2))) (
   let x1 := List.set s.2 (Int.toNat s.1) true;
   let x2 := IntKind.wrap .i64 (s.1 + 1);
   .leaf (.inl (x2, x1), [0, 1, 2, 3]))))
  (
   .leaf (.inr s.2, [0, 1, 2, 3]))
def laws_FnCovers_loop0v5_L (p : List Int × Bool × Bool × Nat × Bool × Nat × Bool × Nat × Bool × Nat × Nat × Nat × Nat × List Bool × List Bool) : LoopS (Int × List Bool) (List Bool) := { tl := fun s => [.junk, .vslc 2 (.int .u8) p.1, .junk, .junk, .junk, .ptr 0 0, .junk, .junk, .bool p.2.1, .junk, .bool p.2.2.1, .own 1, .bool true, .nils, .bool false, .own 2, .bool true, .flt .f32 p.2.2.2.1, .bool p.2.2.2.2.1, .flt .f32 p.2.2.2.2.2.1, .bool p.2.2.2.2.2.2.1, .own 3, .flt .f32 p.2.2.2.2.2.2.2.1, .bool p.2.2.2.2.2.2.2.2.1, .int .i64 s.1], hl := fun s => [some (.cells [.flt .f32 p.2.2.2.2.2.2.2.2.2.1, .flt .f32 p.2.2.2.2.2.2.2.2.2.2.1, .flt .f32 p.2.2.2.2.2.2.2.2.2.2.2.1, .flt .f32 p.2.2.2.2.2.2.2.2.2.2.2.2.1]), some (.typed 4 .bool p.2.2.2.2.2.2.2.2.2.2.2.2.2.1), some (.typed 4 .bool p.2.2.2.2.2.2.2.2.2.2.2.2.2.2), some (.typed 4 .bool s.2)], ex := fun r => .exit 0, otl := fun r => [.junk, .vslc 2 (.int .u8) p.1, .junk, .junk, .junk, .ptr 0 0, .junk, .junk, .bool p.2.1, .junk, .bool p.2.2.1, .own 1, .bool true, .nils, .bool false, .own 2, .bool true, .flt .f32 p.2.2.2.1, .bool p.2.2.2.2.1, .flt .f32 p.2.2.2.2.2.1, .bool p.2.2.2.2.2.2.1, .own 3, .flt .f32 p.2.2.2.2.2.2.2.1, .bool p.2.2.2.2.2.2.2.2.1], ohl := fun r => [some (.cells [.flt .f32 p.2.2.2.2.2.2.2.2.2.1, .flt .f32 p.2.2.2.2.2.2.2.2.2.2.1, .flt .f32 p.2.2.2.2.2.2.2.2.2.2.2.1, .flt .f32 p.2.2.2.2.2.2.2.2.2.2.2.2.1]), some (.typed 4 .bool p.2.2.2.2.2.2.2.2.2.2.2.2.2.1), some (.typed 4 .bool p.2.2.2.2.2.2.2.2.2.2.2.2.2.2), some (.typed 4 .bool r)] }
def laws_FnCovers_loop0v5_ext : St → Option ((List Int × Bool × Bool × Nat × Bool × Nat × Bool × Nat × Bool × Nat × Nat × Nat × Nat × List Bool × List Bool) × (Int × List Bool) × List Nat) := fun S => match (S.tm 1).unK, (S.tm 5).unK, (S.tm 8).unK, (S.tm 10).unK, (S.tm 11).unK, (S.tm 12).unK, (S.tm 13).unK, (S.tm 14).unK, (S.tm 15).unK, (S.tm 16).unK, (S.tm 17).unK, (S.tm 18).unK, (S.tm 19).unK, (S.tm 20).unK, (S.tm 21).unK, (S.tm 22).unK, (S.tm 23).unK, (S.tm 24).unK with
  | .vslc 2 (.int .u8) q0, .ptr i0 0, .bool q1, .bool q2, .own i1, .bool true, .nils, .bool false, .own i2, .bool true, .flt .f32 q6, .bool q7, .flt .f32 q8, .bool q9, .own i3, .flt .f32 q10, .bool q11, .int .i64 q12 => (match S.hp i0 with
    | some (.cells [.flt .f32 q13, .flt .f32 q14, .flt .f32 q15, .flt .f32 q16]) => (match S.hp i1 with
    | some (.typed 4 .bool q17) => (match S.hp i2 with
    | some (.typed 4 .bool q18) => (match S.hp i3 with
    | some (.typed 4 .bool q19) => (if nodup [i0, i1, i2, i3] = true then some ((q0, q1, q2, q6, q7, q8, q9, q10, q11, q13, q14, q15, q16, q17, q18), (q12, q19), [i0, i1, i2, i3]) else none)
    | _ => none)
    | _ => none)
    | _ => none)
    | _ => none)
  | _, _, _, _, _, _, _, _, _, _, _, _, _, _, _, _, _, _ => none
def laws_FnCovers_loop0v5_post (p : List Int × Bool × Bool × Nat × Bool × Nat × Bool × Nat × Bool × Nat × Nat × Nat × Nat × List Bool × List Bool) (r : List Bool) : DT (Ex × St) := .leaf (.exit 0, LSt [.junk, .vslc 2 (.int .u8) p.1, .junk, .junk, .junk, .ptr 0 0, .junk, .junk, .bool p.2.1, .junk, .bool p.2.2.1, .own 1, .bool true, .nils, .bool false, .own 2, .bool true, .flt .f32 p.2.2.2.1, .bool p.2.2.2.2.1, .flt .f32 p.2.2.2.2.2.1, .bool p.2.2.2.2.2.2.1, .own 3, .flt .f32 p.2.2.2.2.2.2.2.1, .bool p.2.2.2.2.2.2.2.2.1] [some (.cells [.flt .f32 p.2.2.2.2.2.2.2.2.2.1, .flt .f32 p.2.2.2.2.2.2.2.2.2.2.1, .flt .f32 p.2.2.2.2.2.2.2.2.2.2.2.1, .flt .f32 p.2.2.2.2.2.2.2.2.2.2.2.2.1]), some (.typed 4 .bool p.2.2.2.2.2.2.2.2.2.2.2.2.2.1), some (.typed 4 .bool p.2.2.2.2.2.2.2.2.2.2.2.2.2.2), some (.typed 4 .bool r)])
def laws_FnCovers_loop0v5 (p : List Int × Bool × Bool × Nat × Bool × Nat × Bool × Nat × Bool × Nat × Nat × Nat × Nat × List Bool × List Bool) (s : Int × List Bool) : List Bool := loopVal (laws_FnCovers_loop0v5_step p) s
def laws_FnCovers_loop0v5_ends (p : List Int × Bool × Bool × Nat × Bool × Nat × Bool × Nat × Bool × Nat × Nat × Nat × Nat × List Bool × List Bool) (s : Int × List Bool) : Bool := loopEnds (laws_FnCovers_loop0v5_step p) s
def laws_FnCovers_loop0v5_F : LoopF := loopF laws_FnCovers_loop0v5_step laws_FnCovers_loop0v5_ext laws_FnCovers_loop0v5_post
set_option maxRecDepth 100000 in
theorem laws_FnCovers_loop0v5_hext : ∀ S p s fl, laws_FnCovers_loop0v5_ext S = some (p, s, fl) → Norm S fl ((laws_FnCovers_loop0v5_L p).tl s) ((laws_FnCovers_loop0v5_L p).hl s) (laws_FnCovers_loop0v5_L p).gl := by
  intro S p s fl h
  unfold laws_FnCovers_loop0v5_ext at h
  (repeat' split at h) <;> first
    | (cases h; constructor <;> simp_all [laws_FnCovers_loop0v5_L, keepT, keepH, rens, renH, PV.ren, Blk.ren, fOf, lget, nodup, natIn, lenEq, gtm, PV.unK])
    | cases h
set_option maxRecDepth 100000 in
theorem laws_FnCovers_loop0v5_hpost : ∀ p r e S', (laws_FnCovers_loop0v5_post p r).get = some (e, S') → e = (laws_FnCovers_loop0v5_L p).ex r ∧ S' = LSt ((laws_FnCovers_loop0v5_L p).otl r) ((laws_FnCovers_loop0v5_L p).ohl r) ((laws_FnCovers_loop0v5_L p).ogl r) := by
  intro p r e S' h
  unfold laws_FnCovers_loop0v5_post at h
  simp only [DT.get, Option.some.injEq, Prod.mk.injEq] at h; exact ⟨h.1.symm, h.2.symm⟩

/-- a loop of laws_FnCovers -/
def laws_FnCovers_loop0v6_step (p : List Int × Bool × Bool × Nat × Bool × Nat × Bool × Nat × Bool × Nat × Nat × Nat × Nat × List Bool × List Bool) (s : Int × List Bool) : Round (Int × List Bool) (List Bool) :=
  let x0 := decide (s.1 < 30);
  .ask x0
  (
   .need ((decide (0 ≤ s.1) && decide (s.1 < ((List.length s.2 : Nat) : Int)))) (
   .need ((decide ((Int.toNat s.1) < List.length s.2))) (
   let x1 := List.set s.2 (Int.toNat s.1) true;
   let x2 := IntKind.wrap .i64 (s.1 + 1);
   .leaf (.inl (x2, x1), [0, 1, 2, 3]))))
  (
   .leaf (.inr s.2, [0, 1, 2, 3]))
def laws_FnCovers_loop0v6_L (p : List Int × Bool × Bool × Nat × Bool × Nat × Bool × Nat × Bool × Nat × Nat × Nat × Nat × List Bool × List Bool) : LoopS (Int × List Bool) (List Bool) := { tl := fun s => [.junk, .vslc 2 (.int .u8) p.1, .junk, .junk, .junk, .ptr 0 0, .junk, .junk, .bool p.2.1, .junk, .bool p.2.2.1, .own 1, .bool true, .own 2, .bool true, .nils, .bool false, .flt .f32 p.2.2.2.1, .bool p.2.2.2.2.1, .flt .f32 p.2.2.2.2.2.1, .bool p.2.2.2.2.2.2.1, .own 3, .flt .f32 p.2.2.2.2.2.2.2.1, .bool p.2.2.2.2.2.2.2.2.1, .int .i64 s.1], hl := fun s => [some (.cells [.flt .f32 p.2.2.2.2.2.2.2.2.2.1, .flt .f32 p.2.2.2.2.2.2.2.2.2.2.1, .flt .f32 p.2.2.2.2.2.2.2.2.2.2.2.1, .flt .f32 p.2.2.2.2.2.2.2.2.2.2.2.2.1]), some (.typed 4 .bool p.2.2.2.2.2.2.2.2.2.2.2.2.2.1), some (.typed 4 .bool p.2.2.2.2.2.2.2.2.2.2.2.2.2.2), some (.typed 4 .bool s.2)], ex := fun r => .exit 0, otl := fun r => [.junk, .vslc 2 (.int .u8) p.1, .junk, .junk, .junk, .ptr 0 0, .junk, .junk, .bool p.2.1, .junk, .bool p.2.2.1, .own 1, .bool true, .own 2, .bool true, .nils, .bool false, .flt .f32 p.2.2.2.1, .bool p.2.2.2.2.1, .flt .f32 p.2.2.2.2.2.1, .bool p.2.2.2.2.2.2.1, .own 3, .flt .f32 p.2.2.2.2.2.2.2.1, .bool p.2.2.2.2.2.2.2.2.1], ohl := fun r => [some (.cells [.flt .f32 p.2.2.2.2.2.2.2.2.2.1, .flt .f32 p.2.2.2.2.2.2.2.2.2.2.1, .flt .f32 p.2.2.2.2.2.2.2.2.2.2.2.1, .flt .f32 p.2.2.2.2.2.2.2.2.2.2.2.2.1]), some (.typed 4 .bool p.2.2.2.2.2.2.2.2.2.2.2.2.2.1), some (.typed 4 .bool p.2.2.2.2.2.2.2.2.2.2.2.2.2.2), some (.typed 4 .bool r)] }
def laws_FnCovers_loop0v6_ext : St → Option ((List Int × Bool × Bool × Nat × Bool × Nat × Bool × Nat × Bool × Nat × Nat × Nat × Nat × List Bool × List Bool) × (Int × List Bool) × List Nat) := fun S => match (S.tm 1).unK, (S.tm 5).unK, (S.tm 8).unK, (S.tm 10).unK, (S.tm 11).unK, (S.tm 12).unK, (S.tm 13).unK, (S.tm 14).unK, (S.tm 15).unK, (S.tm 16).unK, (S.tm 17).unK, (S.tm 18).unK, (S.tm 19).unK, (S.tm 20).unK, (S.tm 21).unK, (S.tm 22).unK, (S.tm 23).unK, (S.tm 24).unK with
  | .vslc 2 (.int .u8) q0, .ptr i0 0, .bool q1, .bool q2, .own i1, .bool true, .own i2, .bool true, .nils, .bool false, .flt .f32 q6, .bool q7, .flt .f32 q8, .bool q9, .own i3, .flt .f32 q10, .bool q11, .int .i64 q12 => (match S.hp i0 with
    | some (.cells [.flt .f32 q13, .flt .f32 q14, .flt .f32 q15, .flt .f32 q16]) => (match S.hp i1 with
    | some (.typed 4 .bool q17) => (match S.hp i2 with
    | some (.typed 4 .bool q18) => (match S.hp i3 with
    | some (.typed 4 .bool q19) => (if nodup [i0, i1, i2, i3] = true then some ((q0, q1, q2, q6, q7, q8, q9, q10, q11, q13, q14, q15, q16, q17, q18), (q12, q19), [i0, i1, i2, i3]) else none)
    | _ => none)
    | _ => none)
    | _ => none)
    | _ => none)
  | _, _, _, _, _, _, _, _, _, _, _, _, _, _, _, _, _, _ => none
def laws_FnCovers_loop0v6_post (p : List Int × Bool × Bool × Nat × Bool × Nat × Bool × Nat × Bool × Nat × Nat × Nat × Nat × List Bool × List Bool) (r : List Bool) : DT (Ex × St) := .leaf (.exit 0, LSt [.junk, .vslc 2 (.int .u8) p.1, .junk, .junk, .junk, .ptr 0 0, .junk, .junk, .bool p.2.1, .junk, .bool p.2.2.1, .own 1, .bool true, .own 2, .bool true, .nils, .bool false, .flt .f32 p.2.2.2.1, .bool p.2.2.2.2.1, .flt .f32 p.2.2.2.2.2.1, .bool p.2.2.2.2.2.2.1, .own 3, .flt .f32 p.2.2.2.2.2.2.2.1, .bool p.2.2.2.2.2.2.2.2.1] [some (.cells [.flt .f32 p.2.2.2.2.2.2.2.2.2.1, .flt .f32 p.2.2.2.2.2.2.2.2.2.2.1, .flt .f32 p.2.2.2.2.2.2.2.2.2.2.2.1, .flt .f32 p.2.2.2.2.2.2.2.2.2.2.2.2.1]), some (.typed 4 .bool p.2.2.2.2.2.2.2.2.2.2.2.2.2.1), some (.typed 4 .bool p.2.2.2.2.2.2.2.2.2.2.2.2.2.2), some (.typed 4 .bool r)])
def laws_FnCovers_loop0v6 (p : List Int × Bool × Bool × Nat × Bool × Nat × Bool × Nat × Bool × Nat × Nat × Nat × Nat × List Bool × List Bool) (s : Int × List Bool) : List Bool := loopVal (laws_FnCovers_loop0v6_step p) s
def laws_FnCovers_loop0v6_ends (p : List Int × Bool × Bool × Nat × Bool × Nat × Bool × Nat × Bool × Nat × Nat × Nat × Nat × List Bool × List Bool) (s : Int × List Bool) : Bool := loopEnds (laws_FnCovers_loop0v6_step p) s
def laws_FnCovers_loop0v6_F : LoopF := loopF laws_FnCovers_loop0v6_step laws_FnCovers_loop0v6_ext laws_FnCovers_loop0v6_post
set_option maxRecDepth 100000 in
theorem laws_FnCovers_loop0v6_hext : ∀ S p s fl, laws_FnCovers_loop0v6_ext S = some (p, s, fl) → Norm S fl ((laws_FnCovers_loop0v6_L p).tl s) ((laws_FnCovers_loop0v6_L p).hl s) (laws_FnCovers_loop0v6_L p).gl := by
  intro S p s fl h
  unfold laws_FnCovers_loop0v6_ext at h
  (repeat' split at h) <;> first
    | (cases h; constructor <;> simp_all [laws_FnCovers_loop0v6_L, keepT, keepH, rens, renH, PV.ren, Blk.ren, fOf, lget, nodup, natIn, lenEq, gtm, PV.unK])
    | cases h
set_option maxRecDepth 100000 in
theorem laws_FnCovers_loop0v6_hpost : ∀ p r e S', (laws_FnCovers_loop0v6_post p r).get = some (e, S') → e = (laws_FnCovers_loop0v6_L p).ex r ∧ S' = LSt ((laws_FnCovers_loop0v6_L p).otl r) ((laws_FnCovers_loop0v6_L p).ohl r) ((laws_FnCovers_loop0v6_L p).ogl r) := by
  intro p r e S' h
  unfold laws_FnCovers_loop0v6_post at h
  simp only [DT.get, Option.some.injEq, Prod.mk.injEq] at h; exact ⟨h.1.symm, h.2.symm⟩

/-- a loop of laws_FnCovers -/
def laws_FnCovers_loop0v7_step (p : List Int × Bool × Bool × Nat × Bool × Nat × Bool × Nat × Bool × Nat × Nat × Nat × Nat × List Bool × List Bool × List Bool) (s : Int × List Bool) : Round (Int × List Bool) (List Bool) :=
  let x0 := decide (s.1 < 30);
  .ask x0
  (
   .need ((decide (0 ≤ s.1) && decide (s.1 < ((List.length s.2 : Nat) : Int)))) (
   .need ((decide ((Int.toNat s.1) < List.length s.2))) (
   let x1 := List.set s.2 (Int.toNat s.1) true;
   let x2 := IntKind.wrap .i64 (s.1 + 1);
   .leaf (.inl (x2, x1), [0, 1, 2, 3, 4]))))
  (
   .leaf (.inr s.2, [0, 1, 2, 3, 4]))
def laws_FnCovers_loop0v7_L (p : List Int × Bool × Bool × Nat × Bool × Nat × Bool × Nat × Bool × Nat × Nat × Nat × Nat × List Bool × List Bool × List Bool) : LoopS (Int × List Bool) (List Bool) := { tl := fun s => [.junk, .vslc 2 (.int .u8) p.1, .junk, .junk, .junk, .ptr 0 0, .junk, .junk, .bool p.2.1, .junk, .bool p.2.2.1, .own 1, .bool true, .own 2, .bool true, .own 3, .bool true, .flt .f32 p.2.2.2.1, .bool p.2.2.2.2.1, .flt .f32 p.2.2.2.2.2.1, .bool p.2.2.2.2.2.2.1, .own 4, .flt .f32 p.2.2.2.2.2.2.2.1, .bool p.2.2.2.2.2.2.2.2.1, .int .i64 s.1], hl := fun s => [some (.cells [.flt .f32 p.2.2.2.2.2.2.2.2.2.1, .flt .f32 p.2.2.2.2.2.2.2.2.2.2.1, .flt .f32 p.2.2.2.2.2.2.2.2.2.2.2.1, .flt .f32 p.2.2.2.2.2.2.2.2.2.2.2.2.1]), some (.typed 4 .bool p.2.2.2.2.2.2.2.2.2.2.2.2.2.1), some (.typed 4 .bool p.2.2.2.2.2.2.2.2.2.2.2.2.2.2.1), some (.typed 4 .bool p.2.2.2.2.2.2.2.2.2.2.2.2.2.2.2), some (.typed 4 .bool s.2)], ex := fun r => .exit 0, otl := fun r => [.junk, .vslc 2 (.int .u8) p.1, .junk, .junk, .junk, .ptr 0 0, .junk, .junk, .bool p.2.1, .junk, .bool p.2.2.1, .own 1, .bool true, .own 2, .bool true, .own 3, .bool true, .flt .f32 p.2.2.2.1, .bool p.2.2.2.2.1, .flt .f32 p.2.2.2.2.2.1, .bool p.2.2.2.2.2.2.1, .own 4, .flt .f32 p.2.2.2.2.2.2.2.1, .bool p.2.2.2.2.2.2.2.2.1], ohl := fun r => [some (.cells [.flt .f32 p.2.2.2.2.2.2.2.2.2.1, .flt .f32 p.2.2.2.2.2.2.2.2.2.2.1, .flt .f32 p.2.2.2.2.2.2.2.2.2.2.2.1, .flt .f32 p.2.2.2.2.2.2.2.2.2.2.2.2.1]), some (.typed 4 .bool p.2.2.2.2.2.2.2.2.2.2.2.2.2.1), some (.typed 4 .bool p.2.2.2.2.2.2.2.2.2.2.2.2.2.2.1), some (.typed 4 .bool p.2.2.2.2.2.2.2.2.2.2.2.2.2.2.2), some (.typed 4 .bool r)] }
def laws_FnCovers_loop0v7_ext : St → Option ((List Int × Bool × Bool × Nat × Bool × Nat × Bool × Nat × Bool × Nat × Nat × Nat × Nat × List Bool × List Bool × List Bool) × (Int × List Bool) × List Nat) := fun S => match (S.tm 1).unK, (S.tm 5).unK, (S.tm 8).unK, (S.tm 10).unK, (S.tm 11).unK, (S.tm 12).unK, (S.tm 13).unK, (S.tm 14).unK, (S.tm 15).unK, (S.tm 16).unK, (S.tm 17).unK, (S.tm 18).unK, (S.tm 19).unK, (S.tm 20).unK, (S.tm 21).unK, (S.tm 22).unK, (S.tm 23).unK, (S.tm 24).unK with
  | .vslc 2 (.int .u8) q0, .ptr i0 0, .bool q1, .bool q2, .own i1, .bool true, .own i2, .bool true, .own i3, .bool true, .flt .f32 q6, .bool q7, .flt .f32 q8, .bool q9, .own i4, .flt .f32 q10, .bool q11, .int .i64 q12 => (match S.hp i0 with
    | some (.cells [.flt .f32 q13, .flt .f32 q14, .flt .f32 q15, .flt .f32 q16]) => (match S.hp i1 with
    | some (.typed 4 .bool q17) => (match S.hp i2 with
    | some (.typed 4 .bool q18) => (match S.hp i3 with
    | some (.typed 4 .bool q19) => (match S.hp i4 with
    | some (.typed 4 .bool q20) => (if nodup [i0, i1, i2, i3, i4] = true then some ((q0, q1, q2, q6, q7, q8, q9, q10, q11, q13, q14, q15, q16, q17, q18, q19), (q12, q20), [i0, i1, i2, i3, i4]) else none)
    | _ => none)
    | _ => none)
    | _ => none)
    | _ => none)
    | _ => none)
  | _, _, _, _, _, _, _, _, _, _, _, _, _, _, _, _, _, _ => none
def laws_FnCovers_loop0v7_post (p : List Int × Bool × Bool × Nat × Bool × Nat × Bool × Nat × Bool × Nat × Nat × Nat × Nat × List Bool × List Bool × List Bool) (r : List Bool) : DT (Ex × St) := .leaf (.exit 0, LSt [.junk, .vslc 2 (.int .u8) p.1, .junk, .junk, .junk, .ptr 0 0, .junk, .junk, .bool p.2.1, .junk, .bool p.2.2.1, .own 1, .bool true, .own 2, .bool true, .own 3, .bool true, .flt .f32 p.2.2.2.1, .bool p.2.2.2.2.1, .flt .f32 p.2.2.2.2.2.1, .bool p.2.2.2.2.2.2.1, .own 4, .flt .f32 p.2.2.2.2.2.2.2.1, .bool p.2.2.2.2.2.2.2.2.1] [some (.cells [.flt .f32 p.2.2.2.2.2.2.2.2.2.1, .flt .f32 p.2.2.2.2.2.2.2.2.2.2.1, .flt .f32 p.2.2.2.2.2.2.2.2.2.2.2.1, .flt .f32 p.2.2.2.2.2.2.2.2.2.2.2.2.1]), some (.typed 4 .bool p.2.2.2.2.2.2.2.2.2.2.2.2.2.1), some (.typed 4 .bool p.2.2.2.2.2.2.2.2.2.2.2.2.2.2.1), some (.typed 4 .bool p.2.2.2.2.2.2.2.2.2.2.2.2.2.2.2), some (.typed 4 .bool r)])
def laws_FnCovers_loop0v7 (p : List Int × Bool × Bool × Nat × Bool × Nat × Bool × Nat × Bool × Nat × Nat × Nat × Nat × List Bool × List Bool × List Bool) (s : Int × List Bool) : List Bool := loopVal (laws_FnCovers_loop0v7_step p) s
def laws_FnCovers_loop0v7_ends (p : List Int × Bool × Bool × Nat × Bool × Nat × Bool × Nat × Bool × Nat × Nat × Nat × Nat × List Bool × List Bool × List Bool) (s : Int × List Bool) : Bool := loopEnds (laws_FnCovers_loop0v7_step p) s
def laws_FnCovers_loop0v7_F : LoopF := loopF laws_FnCovers_loop0v7_step laws_FnCovers_loop0v7_ext laws_FnCovers_loop0v7_post
set_option maxRecDepth 100000 in
theorem laws_FnCovers_loop0v7_hext : ∀ S p s fl, laws_FnCovers_loop0v7_ext S = some (p, s, fl) → Norm S fl ((laws_FnCovers_loop0v7_L p).tl s) ((laws_FnCovers_loop0v7_L p).hl s) (laws_FnCovers_loop0v7_L p).gl := by
  intro S p s fl h
  unfold laws_FnCovers_loop0v7_ext at h
  (repeat' split at h) <;> first
    | (cases h; constructor <;> simp_all [laws_FnCovers_loop0v7_L, keepT, keepH, rens, renH, PV.ren, Blk.ren, fOf, lget, nodup, natIn, lenEq, gtm, PV.unK])
    | cases h
set_option maxRecDepth 100000 in
theorem laws_FnCovers_loop0v7_hpost : ∀ p r e S', (laws_FnCovers_loop0v7_post p r).get = some (e, S') → e = (laws_FnCovers_loop0v7_L p).ex r ∧ S' = LSt ((laws_FnCovers_loop0v7_L p).otl r) ((laws_FnCovers_loop0v7_L p).ohl r) ((laws_FnCovers_loop0v7_L p).ogl r) := by
  intro p r e S' h
  unfold laws_FnCovers_loop0v7_post at h
  simp only [DT.get, Option.some.injEq, Prod.mk.injEq] at h; exact ⟨h.1.symm, h.2.symm⟩

/-- a loop of laws_FnCovers -/
def laws_FnCovers_loop1_step (p : List Int × Nat × Nat × Nat × Nat × List Bool × List Bool × List Bool) (s : Int) : Round (Int) ((Unit) ⊕ (Unit)) :=
  let x0 := decide (s < 30);
  .ask x0
  (
   .need ((decide (0 ≤ s) && decide (s < ((List.length p.2.2.2.2.2.2.2 : Nat) : Int)))) (
   .need ((decide ((Int.toNat s) < List.length p.2.2.2.2.2.2.2))) (
   let x1 := List.getD p.2.2.2.2.2.2.2 (Int.toNat s) default;
   .need ((decide (0 ≤ s) && decide (s < ((List.length p.2.2.2.2.2.2.1 : Nat) : Int)))) (
   .need ((decide ((Int.toNat s) < List.length p.2.2.2.2.2.2.1))) (
   let x2 := List.getD p.2.2.2.2.2.2.1 (Int.toNat s) default;
   let x3 := (!(x1 == x2));
   .ask x3
   (
    .leaf (.inr (.inl ()), []))
   (
    .need ((decide (0 ≤ s) && decide (s < ((List.length p.2.2.2.2.2.1 : Nat) : Int)))) (
    .need ((decide ((Int.toNat s) < List.length p.2.2.2.2.2.1))) (
    let x4 := List.getD p.2.2.2.2.2.1 (Int.toNat s) default;
    .ask x4
    (
     .need ((decide (0 ≤ s) && decide (s < ((List.length p.2.2.2.2.2.2.1 : Nat) : Int)))) (
     .need ((decide ((Int.toNat s) < List.length p.2.2.2.2.2.2.1))) (
     let x5 := List.getD p.2.2.2.2.2.2.1 (Int.toNat s) default;
     .ask (!x5)
     (
      .leaf (.inr (.inl ()), []))
     (
      let x6 := IntKind.wrap .i64 (s + 1);
      .leaf (.inl x6, [0, 1, 2, 3])))))
    (
     let x5 := IntKind.wrap .i64 (s + 1);
     .leaf (.inl x5, [0, 1, 2, 3]))))))))))
  (
   .leaf (.inr (.inr ()), [0]))
def laws_FnCovers_loop1_L (p : List Int × Nat × Nat × Nat × Nat × List Bool × List Bool × List Bool) : LoopS (Int) ((Unit) ⊕ (Unit)) := { tl := fun s => [.junk, .vslc 2 (.int .u8) p.1, .junk, .junk, .junk, .ptr 0 0, .junk, .junk, .junk, .junk, .junk, .own 1, .junk, .own 2, .junk, .own 3, .junk, .junk, .junk, .junk, .junk, .junk, .junk, .junk, .junk, .junk, .junk, .int .i64 s], hl := fun s => [some (.cells [.flt .f32 p.2.1, .flt .f32 p.2.2.1, .flt .f32 p.2.2.2.1, .flt .f32 p.2.2.2.2.1]), some (.typed 4 .bool p.2.2.2.2.2.1), some (.typed 4 .bool p.2.2.2.2.2.2.1), some (.typed 4 .bool p.2.2.2.2.2.2.2)], ex := fun r => match r with | .inl r => .ret | .inr r => .exit 2, otl := fun r => match r with | .inl r => [.junk, .junk, .junk, .junk, .bool false] | .inr r => [.junk, .vslc 2 (.int .u8) p.1, .junk, .junk, .junk, .ptr 0 0], ohl := fun r => match r with | .inl r => [] | .inr r => [some (.cells [.flt .f32 p.2.1, .flt .f32 p.2.2.1, .flt .f32 p.2.2.2.1, .flt .f32 p.2.2.2.2.1])] }
def laws_FnCovers_loop1_ext : St → Option ((List Int × Nat × Nat × Nat × Nat × List Bool × List Bool × List Bool) × (Int) × List Nat) := fun S => match (S.tm 1).unK, (S.tm 5).unK, (S.tm 11).unK, (S.tm 13).unK, (S.tm 15).unK, (S.tm 27).unK with
  | .vslc 2 (.int .u8) q0, .ptr i0 0, .own i1, .own i2, .own i3, .int .i64 q1 => (match S.hp i0 with
    | some (.cells [.flt .f32 q2, .flt .f32 q3, .flt .f32 q4, .flt .f32 q5]) => (match S.hp i1 with
    | some (.typed 4 .bool q6) => (match S.hp i2 with
    | some (.typed 4 .bool q7) => (match S.hp i3 with
    | some (.typed 4 .bool q8) => (if nodup [i0, i1, i2, i3] = true then some ((q0, q2, q3, q4, q5, q6, q7, q8), q1, [i0, i1, i2, i3]) else none)
    | _ => none)
    | _ => none)
    | _ => none)
    | _ => none)
  | _, _, _, _, _, _ => none
def laws_FnCovers_loop1_post (p : List Int × Nat × Nat × Nat × Nat × List Bool × List Bool × List Bool) (r : (Unit) ⊕ (Unit)) : DT (Ex × St) := .ask (isL r) (.leaf (.ret, LSt [.junk, .junk, .junk, .junk, .bool false] [])) (.leaf (.exit 2, LSt [.junk, .vslc 2 (.int .u8) p.1, .junk, .junk, .junk, .ptr 0 0] [some (.cells [.flt .f32 p.2.1, .flt .f32 p.2.2.1, .flt .f32 p.2.2.2.1, .flt .f32 p.2.2.2.2.1])]))
def laws_FnCovers_loop1 (p : List Int × Nat × Nat × Nat × Nat × List Bool × List Bool × List Bool) (s : Int) : (Unit) ⊕ (Unit) := loopVal (laws_FnCovers_loop1_step p) s
def laws_FnCovers_loop1_ends (p : List Int × Nat × Nat × Nat × Nat × List Bool × List Bool × List Bool) (s : Int) : Bool := loopEnds (laws_FnCovers_loop1_step p) s
def laws_FnCovers_loop1_F : LoopF := loopF laws_FnCovers_loop1_step laws_FnCovers_loop1_ext laws_FnCovers_loop1_post
set_option maxRecDepth 100000 in
theorem laws_FnCovers_loop1_hext : ∀ S p s fl, laws_FnCovers_loop1_ext S = some (p, s, fl) → Norm S fl ((laws_FnCovers_loop1_L p).tl s) ((laws_FnCovers_loop1_L p).hl s) (laws_FnCovers_loop1_L p).gl := by
  intro S p s fl h
  unfold laws_FnCovers_loop1_ext at h
  (repeat' split at h) <;> first
    | (cases h; constructor <;> simp_all [laws_FnCovers_loop1_L, keepT, keepH, rens, renH, PV.ren, Blk.ren, fOf, lget, nodup, natIn, lenEq, gtm, PV.unK])
    | cases h
set_option maxRecDepth 100000 in
theorem laws_FnCovers_loop1_hpost : ∀ p r e S', (laws_FnCovers_loop1_post p r).get = some (e, S') → e = (laws_FnCovers_loop1_L p).ex r ∧ S' = LSt ((laws_FnCovers_loop1_L p).otl r) ((laws_FnCovers_loop1_L p).ohl r) ((laws_FnCovers_loop1_L p).ogl r) := by
  intro p r e S' h
  unfold laws_FnCovers_loop1_post at h
  cases r <;> (simp only [isL, DT.get, Option.some.injEq, Prod.mk.injEq] at h; exact ⟨h.1.symm, h.2.symm⟩)

def laws_FnCovers_loops : Nat → Option LoopF := loopTab [(17, (orF (orF (orF (orF (orF (orF (orF laws_FnCovers_loop0_F laws_FnCovers_loop0v1_F) laws_FnCovers_loop0v2_F) laws_FnCovers_loop0v3_F) laws_FnCovers_loop0v4_F) laws_FnCovers_loop0v5_F) laws_FnCovers_loop0v6_F) laws_FnCovers_loop0v7_F)), (24, laws_FnCovers_loop1_F)]
set_option maxRecDepth 100000 in
theorem laws_FnCovers_l1 : LoopOK Try.prog ⟨gam [(5, laws_r8Long_c), (6, spec_R8Ball_c), (7, spec_R8Mark_c), (9, impl_PlaceOf_c), (18, impl_CoverOf_c), (8, laws_r8At_c), (19, impl_CoverShared_c), (20, impl_CoverShare_c), (21, spec_R8Orbit_c), (22, impl_DriftsOf_c), (23, impl_DriftOrbit_c), (24, impl_LaterOrbit_c), (25, impl_StillLong_c), (26, impl_RateOf_c), (11, laws_r8Gap_c)], tab, 354, laws_FnCovers_loops⟩ (lp Try.f4 1) :=
  loopOK_some (F := laws_FnCovers_loop1_F) (by kernel_rfl) (loopF_ok (E := ⟨gam [(5, laws_r8Long_c), (6, spec_R8Ball_c), (7, spec_R8Mark_c), (9, impl_PlaceOf_c), (18, impl_CoverOf_c), (8, laws_r8At_c), (19, impl_CoverShared_c), (20, impl_CoverShare_c), (21, spec_R8Orbit_c), (22, impl_DriftsOf_c), (23, impl_DriftOrbit_c), (24, impl_LaterOrbit_c), (25, impl_StillLong_c), (26, impl_RateOf_c), (11, laws_r8Gap_c)], tab, 354, laws_FnCovers_loops⟩) ⟨gam_cons laws_r8Long_ok (gam_cons spec_R8Ball_ok (gam_cons spec_R8Mark_ok (gam_cons impl_PlaceOf_ok (gam_cons impl_CoverOf_ok (gam_cons laws_r8At_ok (gam_cons impl_CoverShared_ok (gam_cons impl_CoverShare_ok (gam_cons spec_R8Orbit_ok (gam_cons impl_DriftsOf_ok (gam_cons impl_DriftOrbit_ok (gam_cons impl_LaterOrbit_ok (gam_cons impl_StillLong_ok (gam_cons impl_RateOf_ok (gam_cons laws_r8Gap_ok (gam_nil))))))))))))))), tab_ok, by kernel_rfl⟩ (fuel := 100000) (loopsOK_list (l := []) (by kernel_rfl) trivial) (L := laws_FnCovers_loop1_L) (fun p s => by unfold AgreeL; exact ⟨by kernel_rfl, by kernel_rfl⟩) (fun _ r h => by cases r <;> exact Ex.noConfusion h) laws_FnCovers_loop1_hext laws_FnCovers_loop1_hpost)
set_option maxRecDepth 100000 in
theorem laws_FnCovers_l0 : LoopOK Try.prog ⟨gam [(5, laws_r8Long_c), (6, spec_R8Ball_c), (7, spec_R8Mark_c), (9, impl_PlaceOf_c), (18, impl_CoverOf_c), (8, laws_r8At_c), (19, impl_CoverShared_c), (20, impl_CoverShare_c), (21, spec_R8Orbit_c), (22, impl_DriftsOf_c), (23, impl_DriftOrbit_c), (24, impl_LaterOrbit_c), (25, impl_StillLong_c), (26, impl_RateOf_c), (11, laws_r8Gap_c)], tab, 354, laws_FnCovers_loops⟩ (lp Try.f4 0) :=
  loopOK_some (F := (orF (orF (orF (orF (orF (orF (orF laws_FnCovers_loop0_F laws_FnCovers_loop0v1_F) laws_FnCovers_loop0v2_F) laws_FnCovers_loop0v3_F) laws_FnCovers_loop0v4_F) laws_FnCovers_loop0v5_F) laws_FnCovers_loop0v6_F) laws_FnCovers_loop0v7_F)) (by kernel_rfl) (orF_ok (orF_ok (orF_ok (orF_ok (orF_ok (orF_ok (orF_ok (loopF_ok (E := ⟨gam [(5, laws_r8Long_c), (6, spec_R8Ball_c), (7, spec_R8Mark_c), (9, impl_PlaceOf_c), (18, impl_CoverOf_c), (8, laws_r8At_c), (19, impl_CoverShared_c), (20, impl_CoverShare_c), (21, spec_R8Orbit_c), (22, impl_DriftsOf_c), (23, impl_DriftOrbit_c), (24, impl_LaterOrbit_c), (25, impl_StillLong_c), (26, impl_RateOf_c), (11, laws_r8Gap_c)], tab, 354, laws_FnCovers_loops⟩) ⟨gam_cons laws_r8Long_ok (gam_cons spec_R8Ball_ok (gam_cons spec_R8Mark_ok (gam_cons impl_PlaceOf_ok (gam_cons impl_CoverOf_ok (gam_cons laws_r8At_ok (gam_cons impl_CoverShared_ok (gam_cons impl_CoverShare_ok (gam_cons spec_R8Orbit_ok (gam_cons impl_DriftsOf_ok (gam_cons impl_DriftOrbit_ok (gam_cons impl_LaterOrbit_ok (gam_cons impl_StillLong_ok (gam_cons impl_RateOf_ok (gam_cons laws_r8Gap_ok (gam_nil))))))))))))))), tab_ok, by kernel_rfl⟩ (fuel := 100000) (loopsOK_list (l := []) (by kernel_rfl) trivial) (L := laws_FnCovers_loop0_L) (fun p s => by unfold AgreeL; exact ⟨by kernel_rfl, by kernel_rfl⟩) (fun _ _ h => Ex.noConfusion h) laws_FnCovers_loop0_hext laws_FnCovers_loop0_hpost) (loopF_ok (E := ⟨gam [(5, laws_r8Long_c), (6, spec_R8Ball_c), (7, spec_R8Mark_c), (9, impl_PlaceOf_c), (18, impl_CoverOf_c), (8, laws_r8At_c), (19, impl_CoverShared_c), (20, impl_CoverShare_c), (21, spec_R8Orbit_c), (22, impl_DriftsOf_c), (23, impl_DriftOrbit_c), (24, impl_LaterOrbit_c), (25, impl_StillLong_c), (26, impl_RateOf_c), (11, laws_r8Gap_c)], tab, 354, laws_FnCovers_loops⟩) ⟨gam_cons laws_r8Long_ok (gam_cons spec_R8Ball_ok (gam_cons spec_R8Mark_ok (gam_cons impl_PlaceOf_ok (gam_cons impl_CoverOf_ok (gam_cons laws_r8At_ok (gam_cons impl_CoverShared_ok (gam_cons impl_CoverShare_ok (gam_cons spec_R8Orbit_ok (gam_cons impl_DriftsOf_ok (gam_cons impl_DriftOrbit_ok (gam_cons impl_LaterOrbit_ok (gam_cons impl_StillLong_ok (gam_cons impl_RateOf_ok (gam_cons laws_r8Gap_ok (gam_nil))))))))))))))), tab_ok, by kernel_rfl⟩ (fuel := 100000) (loopsOK_list (l := []) (by kernel_rfl) trivial) (L := laws_FnCovers_loop0v1_L) (fun p s => by unfold AgreeL; exact ⟨by kernel_rfl, by kernel_rfl⟩) (fun _ _ h => Ex.noConfusion h) laws_FnCovers_loop0v1_hext laws_FnCovers_loop0v1_hpost)) (loopF_ok (E := ⟨gam [(5, laws_r8Long_c), (6, spec_R8Ball_c), (7, spec_R8Mark_c), (9, impl_PlaceOf_c), (18, impl_CoverOf_c), (8, laws_r8At_c), (19, impl_CoverShared_c), (20, impl_CoverShare_c), (21, spec_R8Orbit_c), (22, impl_DriftsOf_c), (23, impl_DriftOrbit_c), (24, impl_LaterOrbit_c), (25, impl_StillLong_c), (26, impl_RateOf_c), (11, laws_r8Gap_c)], tab, 354, laws_FnCovers_loops⟩) ⟨gam_cons laws_r8Long_ok (gam_cons spec_R8Ball_ok (gam_cons spec_R8Mark_ok (gam_cons impl_PlaceOf_ok (gam_cons impl_CoverOf_ok (gam_cons laws_r8At_ok (gam_cons impl_CoverShared_ok (gam_cons impl_CoverShare_ok (gam_cons spec_R8Orbit_ok (gam_cons impl_DriftsOf_ok (gam_cons impl_DriftOrbit_ok (gam_cons impl_LaterOrbit_ok (gam_cons impl_StillLong_ok (gam_cons impl_RateOf_ok (gam_cons laws_r8Gap_ok (gam_nil))))))))))))))), tab_ok, by kernel_rfl⟩ (fuel := 100000) (loopsOK_list (l := []) (by kernel_rfl) trivial) (L := laws_FnCovers_loop0v2_L) (fun p s => by unfold AgreeL; exact ⟨by kernel_rfl, by kernel_rfl⟩) (fun _ _ h => Ex.noConfusion h) laws_FnCovers_loop0v2_hext laws_FnCovers_loop0v2_hpost)) (loopF_ok (E := ⟨gam [(5, laws_r8Long_c), (6, spec_R8Ball_c), (7, spec_R8Mark_c), (9, impl_PlaceOf_c), (18, impl_CoverOf_c), (8, laws_r8At_c), (19, impl_CoverShared_c), (20, impl_CoverShare_c), (21, spec_R8Orbit_c), (22, impl_DriftsOf_c), (23, impl_DriftOrbit_c), (24, impl_LaterOrbit_c), (25, impl_StillLong_c), (26, impl_RateOf_c), (11, laws_r8Gap_c)], tab, 354, laws_FnCovers_loops⟩) ⟨gam_cons laws_r8Long_ok (gam_cons spec_R8Ball_ok (gam_cons spec_R8Mark_ok (gam_cons impl_PlaceOf_ok (gam_cons impl_CoverOf_ok (gam_cons laws_r8At_ok (gam_cons impl_CoverShared_ok (gam_cons impl_CoverShare_ok (gam_cons spec_R8Orbit_ok (gam_cons impl_DriftsOf_ok (gam_cons impl_DriftOrbit_ok (gam_cons impl_LaterOrbit_ok (gam_cons impl_StillLong_ok (gam_cons impl_RateOf_ok (gam_cons laws_r8Gap_ok (gam_nil))))))))))))))), tab_ok, by kernel_rfl⟩ (fuel := 100000) (loopsOK_list (l := []) (by kernel_rfl) trivial) (L := laws_FnCovers_loop0v3_L) (fun p s => by unfold AgreeL; exact ⟨by kernel_rfl, by kernel_rfl⟩) (fun _ _ h => Ex.noConfusion h) laws_FnCovers_loop0v3_hext laws_FnCovers_loop0v3_hpost)) (loopF_ok (E := ⟨gam [(5, laws_r8Long_c), (6, spec_R8Ball_c), (7, spec_R8Mark_c), (9, impl_PlaceOf_c), (18, impl_CoverOf_c), (8, laws_r8At_c), (19, impl_CoverShared_c), (20, impl_CoverShare_c), (21, spec_R8Orbit_c), (22, impl_DriftsOf_c), (23, impl_DriftOrbit_c), (24, impl_LaterOrbit_c), (25, impl_StillLong_c), (26, impl_RateOf_c), (11, laws_r8Gap_c)], tab, 354, laws_FnCovers_loops⟩) ⟨gam_cons laws_r8Long_ok (gam_cons spec_R8Ball_ok (gam_cons spec_R8Mark_ok (gam_cons impl_PlaceOf_ok (gam_cons impl_CoverOf_ok (gam_cons laws_r8At_ok (gam_cons impl_CoverShared_ok (gam_cons impl_CoverShare_ok (gam_cons spec_R8Orbit_ok (gam_cons impl_DriftsOf_ok (gam_cons impl_DriftOrbit_ok (gam_cons impl_LaterOrbit_ok (gam_cons impl_StillLong_ok (gam_cons impl_RateOf_ok (gam_cons laws_r8Gap_ok (gam_nil))))))))))))))), tab_ok, by kernel_rfl⟩ (fuel := 100000) (loopsOK_list (l := []) (by kernel_rfl) trivial) (L := laws_FnCovers_loop0v4_L) (fun p s => by unfold AgreeL; exact ⟨by kernel_rfl, by kernel_rfl⟩) (fun _ _ h => Ex.noConfusion h) laws_FnCovers_loop0v4_hext laws_FnCovers_loop0v4_hpost)) (loopF_ok (E := ⟨gam [(5, laws_r8Long_c), (6, spec_R8Ball_c), (7, spec_R8Mark_c), (9, impl_PlaceOf_c), (18, impl_CoverOf_c), (8, laws_r8At_c), (19, impl_CoverShared_c), (20, impl_CoverShare_c), (21, spec_R8Orbit_c), (22, impl_DriftsOf_c), (23, impl_DriftOrbit_c), (24, impl_LaterOrbit_c), (25, impl_StillLong_c), (26, impl_RateOf_c), (11, laws_r8Gap_c)], tab, 354, laws_FnCovers_loops⟩) ⟨gam_cons laws_r8Long_ok (gam_cons spec_R8Ball_ok (gam_cons spec_R8Mark_ok (gam_cons impl_PlaceOf_ok (gam_cons impl_CoverOf_ok (gam_cons laws_r8At_ok (gam_cons impl_CoverShared_ok (gam_cons impl_CoverShare_ok (gam_cons spec_R8Orbit_ok (gam_cons impl_DriftsOf_ok (gam_cons impl_DriftOrbit_ok (gam_cons impl_LaterOrbit_ok (gam_cons impl_StillLong_ok (gam_cons impl_RateOf_ok (gam_cons laws_r8Gap_ok (gam_nil))))))))))))))), tab_ok, by kernel_rfl⟩ (fuel := 100000) (loopsOK_list (l := []) (by kernel_rfl) trivial) (L := laws_FnCovers_loop0v5_L) (fun p s => by unfold AgreeL; exact ⟨by kernel_rfl, by kernel_rfl⟩) (fun _ _ h => Ex.noConfusion h) laws_FnCovers_loop0v5_hext laws_FnCovers_loop0v5_hpost)) (loopF_ok (E := ⟨gam [(5, laws_r8Long_c), (6, spec_R8Ball_c), (7, spec_R8Mark_c), (9, impl_PlaceOf_c), (18, impl_CoverOf_c), (8, laws_r8At_c), (19, impl_CoverShared_c), (20, impl_CoverShare_c), (21, spec_R8Orbit_c), (22, impl_DriftsOf_c), (23, impl_DriftOrbit_c), (24, impl_LaterOrbit_c), (25, impl_StillLong_c), (26, impl_RateOf_c), (11, laws_r8Gap_c)], tab, 354, laws_FnCovers_loops⟩) ⟨gam_cons laws_r8Long_ok (gam_cons spec_R8Ball_ok (gam_cons spec_R8Mark_ok (gam_cons impl_PlaceOf_ok (gam_cons impl_CoverOf_ok (gam_cons laws_r8At_ok (gam_cons impl_CoverShared_ok (gam_cons impl_CoverShare_ok (gam_cons spec_R8Orbit_ok (gam_cons impl_DriftsOf_ok (gam_cons impl_DriftOrbit_ok (gam_cons impl_LaterOrbit_ok (gam_cons impl_StillLong_ok (gam_cons impl_RateOf_ok (gam_cons laws_r8Gap_ok (gam_nil))))))))))))))), tab_ok, by kernel_rfl⟩ (fuel := 100000) (loopsOK_list (l := []) (by kernel_rfl) trivial) (L := laws_FnCovers_loop0v6_L) (fun p s => by unfold AgreeL; exact ⟨by kernel_rfl, by kernel_rfl⟩) (fun _ _ h => Ex.noConfusion h) laws_FnCovers_loop0v6_hext laws_FnCovers_loop0v6_hpost)) (loopF_ok (E := ⟨gam [(5, laws_r8Long_c), (6, spec_R8Ball_c), (7, spec_R8Mark_c), (9, impl_PlaceOf_c), (18, impl_CoverOf_c), (8, laws_r8At_c), (19, impl_CoverShared_c), (20, impl_CoverShare_c), (21, spec_R8Orbit_c), (22, impl_DriftsOf_c), (23, impl_DriftOrbit_c), (24, impl_LaterOrbit_c), (25, impl_StillLong_c), (26, impl_RateOf_c), (11, laws_r8Gap_c)], tab, 354, laws_FnCovers_loops⟩) ⟨gam_cons laws_r8Long_ok (gam_cons spec_R8Ball_ok (gam_cons spec_R8Mark_ok (gam_cons impl_PlaceOf_ok (gam_cons impl_CoverOf_ok (gam_cons laws_r8At_ok (gam_cons impl_CoverShared_ok (gam_cons impl_CoverShare_ok (gam_cons spec_R8Orbit_ok (gam_cons impl_DriftsOf_ok (gam_cons impl_DriftOrbit_ok (gam_cons impl_LaterOrbit_ok (gam_cons impl_StillLong_ok (gam_cons impl_RateOf_ok (gam_cons laws_r8Gap_ok (gam_nil))))))))))))))), tab_ok, by kernel_rfl⟩ (fuel := 100000) (loopsOK_list (l := []) (by kernel_rfl) trivial) (L := laws_FnCovers_loop0v7_L) (fun p s => by unfold AgreeL; exact ⟨by kernel_rfl, by kernel_rfl⟩) (fun _ _ h => Ex.noConfusion h) laws_FnCovers_loop0v7_hext laws_FnCovers_loop0v7_hpost))
/-- loop.example/g01284/laws.FnCovers -/
def laws_FnCovers_tree (a0 : List Int) (a1 : List Int) : DT (Bool) :=
  let x0 := laws_r8Long a0 a1;
  .ask x0
  (
   .leaf true)
  (
   .need ((spec_R8Ball_need a0)) (
   let x1 := spec_R8Ball a0;
   .need ((spec_R8Mark_need a1)) (
   let x2 := spec_R8Mark a1;
   .need ((impl_PlaceOf_need (⟨x1.Mass, x1.Radius, x1.Spin, x1.Start⟩ : Ball) (⟨x2.North, x2.East, 1061158912⟩ : Mark) 0)) (
   let x3 := impl_PlaceOf (⟨x1.Mass, x1.Radius, x1.Spin, x1.Start⟩ : Ball) (⟨x2.North, x2.East, 1061158912⟩ : Mark) 0;
   .need ((impl_PlaceOf_need (⟨x1.Mass, x1.Radius, x1.Spin, x1.Start⟩ : Ball) (⟨x2.North, x2.East, 1077936128⟩ : Mark) 0)) (
   let x4 := impl_PlaceOf (⟨x1.Mass, x1.Radius, x1.Spin, x1.Start⟩ : Ball) (⟨x2.North, x2.East, 1077936128⟩ : Mark) 0;
   .need ((impl_CoverOf_need (⟨x1.Mass, x1.Radius, x1.Spin, x1.Start⟩ : Ball) (⟨x3.1.X, x3.1.Y, x3.1.Z⟩ : Vec) 0 1023410176 6 5)) (
   let x5 := impl_CoverOf (⟨x1.Mass, x1.Radius, x1.Spin, x1.Start⟩ : Ball) (⟨x3.1.X, x3.1.Y, x3.1.Z⟩ : Vec) 0 1023410176 6 5;
   .ask ((isL x5))
   (
    .need ((impl_CoverOf_need (⟨x1.Mass, x1.Radius, x1.Spin, x1.Start⟩ : Ball) (⟨x4.1.X, x4.1.Y, x4.1.Z⟩ : Vec) 0 1023410176 6 5)) (
    let x6 := impl_CoverOf (⟨x1.Mass, x1.Radius, x1.Spin, x1.Start⟩ : Ball) (⟨x4.1.X, x4.1.Y, x4.1.Z⟩ : Vec) 0 1023410176 6 5;
    .ask ((isL x6))
    (
     .need ((laws_r8At_need a1 40 8)) (
     let x7 := laws_r8At a1 40 8;
     let x8 := IntKind.wrap .i64 (1 + x7);
     .need ((impl_CoverShared_need (⟨x1.Mass, x1.Radius, x1.Spin, x1.Start⟩ : Ball) (⟨x4.1.X, x4.1.Y, x4.1.Z⟩ : Vec) 0 1023410176 6 5 x8)) (
     let x9 := impl_CoverShared (⟨x1.Mass, x1.Radius, x1.Spin, x1.Start⟩ : Ball) (⟨x4.1.X, x4.1.Y, x4.1.Z⟩ : Vec) 0 1023410176 6 5 x8;
     .ask ((isL x9))
     (
      .need ((impl_CoverShare_need [] 6 5)) (
      let x10 := impl_CoverShare [] 6 5;
      .need ((impl_CoverShare_need [] 6 5)) (
      let x11 := impl_CoverShare [] 6 5;
      .skip (
      let x12 := List.replicate (Int.toNat 30) false;
      .need ((impl_CoverShare_need x12 6 5)) (
      let x13 := impl_CoverShare x12 6 5;
      .need ((laws_FnCovers_loop0_ends (a1, x3.2, x4.2, x10.1, x10.2, x11.1, x11.2, x13.1, x13.2, x1.Mass, x1.Radius, x1.Spin, x1.Start) (0, x12))) (
      let x14 := laws_FnCovers_loop0 (a1, x3.2, x4.2, x10.1, x10.2, x11.1, x11.2, x13.1, x13.2, x1.Mass, x1.Radius, x1.Spin, x1.Start) (0, x12);
      .need ((impl_CoverShare_need x14 6 5)) (
      let x15 := impl_CoverShare x14 6 5;
      .ask (!x3.2)
      (
       .leaf false)
      (
       .ask (!x4.2)
       (
        .leaf false)
       (
        .skip (
        .skip (
        .skip (
        .leaf false))))))))))))
     (
      .need ((impl_CoverShare_need [] 6 5)) (
      let x10 := impl_CoverShare [] 6 5;
      .need ((impl_CoverShare_need [] 6 5)) (
      let x11 := impl_CoverShare [] 6 5;
      .skip (
      let x12 := List.replicate (Int.toNat 30) false;
      .need ((impl_CoverShare_need x12 6 5)) (
      let x13 := impl_CoverShare x12 6 5;
      .need ((laws_FnCovers_loop0v1_ends (a1, x3.2, x4.2, x10.1, x10.2, x11.1, x11.2, x13.1, x13.2, x1.Mass, x1.Radius, x1.Spin, x1.Start, (rightD x9)) (0, x12))) (
      let x14 := laws_FnCovers_loop0v1 (a1, x3.2, x4.2, x10.1, x10.2, x11.1, x11.2, x13.1, x13.2, x1.Mass, x1.Radius, x1.Spin, x1.Start, (rightD x9)) (0, x12);
      .need ((impl_CoverShare_need x14 6 5)) (
      let x15 := impl_CoverShare x14 6 5;
      .ask (!x3.2)
      (
       .leaf false)
      (
       .ask (!x4.2)
       (
        .leaf false)
       (
        .skip (
        .skip (
        .skip (
        .leaf false)))))))))))))))
    (
     .need ((laws_r8At_need a1 40 8)) (
     let x7 := laws_r8At a1 40 8;
     let x8 := IntKind.wrap .i64 (1 + x7);
     .need ((impl_CoverShared_need (⟨x1.Mass, x1.Radius, x1.Spin, x1.Start⟩ : Ball) (⟨x4.1.X, x4.1.Y, x4.1.Z⟩ : Vec) 0 1023410176 6 5 x8)) (
     let x9 := impl_CoverShared (⟨x1.Mass, x1.Radius, x1.Spin, x1.Start⟩ : Ball) (⟨x4.1.X, x4.1.Y, x4.1.Z⟩ : Vec) 0 1023410176 6 5 x8;
     .ask ((isL x9))
     (
      .need ((impl_CoverShare_need [] 6 5)) (
      let x10 := impl_CoverShare [] 6 5;
      .need ((impl_CoverShare_need ((rightD x6)) 6 5)) (
      let x11 := impl_CoverShare ((rightD x6)) 6 5;
      .skip (
      let x12 := List.replicate (Int.toNat 30) false;
      .need ((impl_CoverShare_need x12 6 5)) (
      let x13 := impl_CoverShare x12 6 5;
      .need ((laws_FnCovers_loop0v2_ends (a1, x3.2, x4.2, x10.1, x10.2, x11.1, x11.2, x13.1, x13.2, x1.Mass, x1.Radius, x1.Spin, x1.Start, (rightD x6)) (0, x12))) (
      let x14 := laws_FnCovers_loop0v2 (a1, x3.2, x4.2, x10.1, x10.2, x11.1, x11.2, x13.1, x13.2, x1.Mass, x1.Radius, x1.Spin, x1.Start, (rightD x6)) (0, x12);
      .need ((impl_CoverShare_need x14 6 5)) (
      let x15 := impl_CoverShare x14 6 5;
      .ask (!x3.2)
      (
       .leaf false)
      (
       .ask (!x4.2)
       (
        .leaf false)
       (
        .skip (
        .skip (
        .skip (
        .leaf false))))))))))))
     (
      .need ((impl_CoverShare_need [] 6 5)) (
      let x10 := impl_CoverShare [] 6 5;
      .need ((impl_CoverShare_need ((rightD x6)) 6 5)) (
      let x11 := impl_CoverShare ((rightD x6)) 6 5;
      .skip (
      let x12 := List.replicate (Int.toNat 30) false;
      .need ((impl_CoverShare_need x12 6 5)) (
      let x13 := impl_CoverShare x12 6 5;
      .need ((laws_FnCovers_loop0v3_ends (a1, x3.2, x4.2, x10.1, x10.2, x11.1, x11.2, x13.1, x13.2, x1.Mass, x1.Radius, x1.Spin, x1.Start, (rightD x6), (rightD x9)) (0, x12))) (
      let x14 := laws_FnCovers_loop0v3 (a1, x3.2, x4.2, x10.1, x10.2, x11.1, x11.2, x13.1, x13.2, x1.Mass, x1.Radius, x1.Spin, x1.Start, (rightD x6), (rightD x9)) (0, x12);
      .need ((impl_CoverShare_need x14 6 5)) (
      let x15 := impl_CoverShare x14 6 5;
      .ask (!x3.2)
      (
       .leaf false)
      (
       .ask (!x4.2)
       (
        .leaf false)
       (
        .skip (
        .skip (
        .skip (
        .leaf false)))))))))))))))))
   (
    .need ((impl_CoverOf_need (⟨x1.Mass, x1.Radius, x1.Spin, x1.Start⟩ : Ball) (⟨x4.1.X, x4.1.Y, x4.1.Z⟩ : Vec) 0 1023410176 6 5)) (
    let x6 := impl_CoverOf (⟨x1.Mass, x1.Radius, x1.Spin, x1.Start⟩ : Ball) (⟨x4.1.X, x4.1.Y, x4.1.Z⟩ : Vec) 0 1023410176 6 5;
    .ask ((isL x6))
    (
     .need ((laws_r8At_need a1 40 8)) (
     let x7 := laws_r8At a1 40 8;
     let x8 := IntKind.wrap .i64 (1 + x7);
     .need ((impl_CoverShared_need (⟨x1.Mass, x1.Radius, x1.Spin, x1.Start⟩ : Ball) (⟨x4.1.X, x4.1.Y, x4.1.Z⟩ : Vec) 0 1023410176 6 5 x8)) (
     let x9 := impl_CoverShared (⟨x1.Mass, x1.Radius, x1.Spin, x1.Start⟩ : Ball) (⟨x4.1.X, x4.1.Y, x4.1.Z⟩ : Vec) 0 1023410176 6 5 x8;
     .ask ((isL x9))
     (
      .need ((impl_CoverShare_need ((rightD x5)) 6 5)) (
      let x10 := impl_CoverShare ((rightD x5)) 6 5;
      .need ((impl_CoverShare_need [] 6 5)) (
      let x11 := impl_CoverShare [] 6 5;
      .skip (
      let x12 := List.replicate (Int.toNat 30) false;
      .need ((impl_CoverShare_need x12 6 5)) (
      let x13 := impl_CoverShare x12 6 5;
      .need ((laws_FnCovers_loop0v4_ends (a1, x3.2, x4.2, x10.1, x10.2, x11.1, x11.2, x13.1, x13.2, x1.Mass, x1.Radius, x1.Spin, x1.Start, (rightD x5)) (0, x12))) (
      let x14 := laws_FnCovers_loop0v4 (a1, x3.2, x4.2, x10.1, x10.2, x11.1, x11.2, x13.1, x13.2, x1.Mass, x1.Radius, x1.Spin, x1.Start, (rightD x5)) (0, x12);
      .need ((impl_CoverShare_need x14 6 5)) (
      let x15 := impl_CoverShare x14 6 5;
      .ask (!x3.2)
      (
       .leaf false)
      (
       .ask (!x4.2)
       (
        .leaf false)
       (
        .skip (
        .skip (
        .skip (
        .skip (
        .skip (
        .skip (
        .leaf false)))))))))))))))
     (
      .need ((impl_CoverShare_need ((rightD x5)) 6 5)) (
      let x10 := impl_CoverShare ((rightD x5)) 6 5;
      .need ((impl_CoverShare_need [] 6 5)) (
      let x11 := impl_CoverShare [] 6 5;
      .skip (
      let x12 := List.replicate (Int.toNat 30) false;
      .need ((impl_CoverShare_need x12 6 5)) (
      let x13 := impl_CoverShare x12 6 5;
      .need ((laws_FnCovers_loop0v5_ends (a1, x3.2, x4.2, x10.1, x10.2, x11.1, x11.2, x13.1, x13.2, x1.Mass, x1.Radius, x1.Spin, x1.Start, (rightD x5), (rightD x9)) (0, x12))) (
      let x14 := laws_FnCovers_loop0v5 (a1, x3.2, x4.2, x10.1, x10.2, x11.1, x11.2, x13.1, x13.2, x1.Mass, x1.Radius, x1.Spin, x1.Start, (rightD x5), (rightD x9)) (0, x12);
      .need ((impl_CoverShare_need x14 6 5)) (
      let x15 := impl_CoverShare x14 6 5;
      .ask (!x3.2)
      (
       .leaf false)
      (
       .ask (!x4.2)
       (
        .leaf false)
       (
        .skip (
        .skip (
        .skip (
        .skip (
        .skip (
        .skip (
        .leaf false))))))))))))))))))
    (
     .need ((laws_r8At_need a1 40 8)) (
     let x7 := laws_r8At a1 40 8;
     let x8 := IntKind.wrap .i64 (1 + x7);
     .need ((impl_CoverShared_need (⟨x1.Mass, x1.Radius, x1.Spin, x1.Start⟩ : Ball) (⟨x4.1.X, x4.1.Y, x4.1.Z⟩ : Vec) 0 1023410176 6 5 x8)) (
     let x9 := impl_CoverShared (⟨x1.Mass, x1.Radius, x1.Spin, x1.Start⟩ : Ball) (⟨x4.1.X, x4.1.Y, x4.1.Z⟩ : Vec) 0 1023410176 6 5 x8;
     .ask ((isL x9))
     (
      .need ((impl_CoverShare_need ((rightD x5)) 6 5)) (
      let x10 := impl_CoverShare ((rightD x5)) 6 5;
      .need ((impl_CoverShare_need ((rightD x6)) 6 5)) (
      let x11 := impl_CoverShare ((rightD x6)) 6 5;
      .skip (
      let x12 := List.replicate (Int.toNat 30) false;
      .need ((impl_CoverShare_need x12 6 5)) (
      let x13 := impl_CoverShare x12 6 5;
      .need ((laws_FnCovers_loop0v6_ends (a1, x3.2, x4.2, x10.1, x10.2, x11.1, x11.2, x13.1, x13.2, x1.Mass, x1.Radius, x1.Spin, x1.Start, (rightD x5), (rightD x6)) (0, x12))) (
      let x14 := laws_FnCovers_loop0v6 (a1, x3.2, x4.2, x10.1, x10.2, x11.1, x11.2, x13.1, x13.2, x1.Mass, x1.Radius, x1.Spin, x1.Start, (rightD x5), (rightD x6)) (0, x12);
      .need ((impl_CoverShare_need x14 6 5)) (
      let x15 := impl_CoverShare x14 6 5;
      .ask (!x3.2)
      (
       .leaf false)
      (
       .ask (!x4.2)
       (
        .leaf false)
       (
        .skip (
        .skip (
        .skip (
        .skip (
        .skip (
        .skip (
        .skip (
        .skip (
        .skip (
        .leaf false))))))))))))))))))
     (
      .need ((impl_CoverShare_need ((rightD x5)) 6 5)) (
      let x10 := impl_CoverShare ((rightD x5)) 6 5;
      .need ((impl_CoverShare_need ((rightD x6)) 6 5)) (
      let x11 := impl_CoverShare ((rightD x6)) 6 5;
      .skip (
      let x12 := List.replicate (Int.toNat 30) false;
      .need ((impl_CoverShare_need x12 6 5)) (
      let x13 := impl_CoverShare x12 6 5;
      .need ((laws_FnCovers_loop0v7_ends (a1, x3.2, x4.2, x10.1, x10.2, x11.1, x11.2, x13.1, x13.2, x1.Mass, x1.Radius, x1.Spin, x1.Start, (rightD x5), (rightD x6), (rightD x9)) (0, x12))) (
      let x14 := laws_FnCovers_loop0v7 (a1, x3.2, x4.2, x10.1, x10.2, x11.1, x11.2, x13.1, x13.2, x1.Mass, x1.Radius, x1.Spin, x1.Start, (rightD x5), (rightD x6), (rightD x9)) (0, x12);
      .need ((impl_CoverShare_need x14 6 5)) (
      let x15 := impl_CoverShare x14 6 5;
      .ask (!x3.2)
      (
       .leaf false)
      (
       .ask (!x4.2)
       (
        .leaf false)
       (
        .skip (
        .skip (
        .skip (
        .skip (
        .skip (
        .skip (
        .skip (
        .skip (
        .skip (
        .ask (!x10.2)
        (
         .leaf false)
        (
         .ask (!x11.2)
         (
          .leaf false)
         (
          .ask (!x13.2)
          (
           .leaf false)
          (
           .ask (!x15.2)
           (
            .leaf false)
           (
            let x16 := ((List.length (rightD x5) : Nat) : Int);
            let x17 := (x16 != 30);
            .ask x17
            (
             .leaf false)
            (
             let x18 := ((List.length (rightD x6) : Nat) : Int);
             let x19 := (x18 != 30);
             .ask x19
             (
              .leaf false)
             (
              let x20 := ((List.length (rightD x9) : Nat) : Int);
              let x21 := (x20 != 30);
              .ask x21
              (
               .leaf false)
              (
               let x22 := fne .f32 x13.1 0;
               .ask x22
               (
                .leaf false)
               (
                let x23 := fne .f32 x15.1 1065353216;
                .ask x23
                (
                 .leaf false)
                (
                 let x24 := flt .f32 x10.1 0;
                 .ask x24
                 (
                  .leaf false)
                 (
                  let x25 := flt .f32 x11.1 x10.1;
                  .ask x25
                  (
                   .leaf false)
                  (
                   let x26 := fgt .f32 x11.1 1058642330;
                   .ask x26
                   (
                    .leaf false)
                   (
                    .need ((laws_FnCovers_loop1_ends (a1, x1.Mass, x1.Radius, x1.Spin, x1.Start, (rightD x5), (rightD x6), (rightD x9)) 0)) (
                    let x27 := laws_FnCovers_loop1 (a1, x1.Mass, x1.Radius, x1.Spin, x1.Start, (rightD x5), (rightD x6), (rightD x9)) 0;
                    .ask ((isL x27))
                    (
                     .leaf false)
                    (
                     .need ((spec_R8Orbit_need a1)) (
                     let x28 := spec_R8Orbit a1;
                     .need ((laws_r8At_need a1 41 5)) (
                     let x29 := laws_r8At a1 41 5;
                     let x30 := fofInt .f32 x29;
                     let x31 := fdiv .f32 x30 1115684864;
                     .need ((impl_DriftsOf_need (⟨x1.Mass, x1.Radius, x1.Spin, x1.Start⟩ : Ball) (⟨x28.Long, x28.Round, x28.Tilt, x28.Node, x28.Peri, x28.Phase⟩ : Orbit) x31)) (
                     let x32 := impl_DriftsOf (⟨x1.Mass, x1.Radius, x1.Spin, x1.Start⟩ : Ball) (⟨x28.Long, x28.Round, x28.Tilt, x28.Node, x28.Peri, x28.Phase⟩ : Orbit) x31;
                     .need ((impl_DriftOrbit_need (⟨x1.Mass, x1.Radius, x1.Spin, x1.Start⟩ : Ball) (⟨x28.Long, x28.Round, x28.Tilt, x28.Node, x28.Peri, x28.Phase⟩ : Orbit) x31 0)) (
                     let x33 := impl_DriftOrbit (⟨x1.Mass, x1.Radius, x1.Spin, x1.Start⟩ : Ball) (⟨x28.Long, x28.Round, x28.Tilt, x28.Node, x28.Peri, x28.Phase⟩ : Orbit) x31 0;
                     .need ((impl_LaterOrbit_need (⟨x28.Long, x28.Round, x28.Tilt, x28.Node, x28.Peri, x28.Phase⟩ : Orbit) x1.Mass 1069547520)) (
                     let x34 := impl_LaterOrbit (⟨x28.Long, x28.Round, x28.Tilt, x28.Node, x28.Peri, x28.Phase⟩ : Orbit) x1.Mass 1069547520;
                     .need ((impl_DriftOrbit_need (⟨x1.Mass, x1.Radius, x1.Spin, x1.Start⟩ : Ball) (⟨x28.Long, x28.Round, x28.Tilt, x28.Node, x28.Peri, x28.Phase⟩ : Orbit) 0 1069547520)) (
                     let x35 := impl_DriftOrbit (⟨x1.Mass, x1.Radius, x1.Spin, x1.Start⟩ : Ball) (⟨x28.Long, x28.Round, x28.Tilt, x28.Node, x28.Peri, x28.Phase⟩ : Orbit) 0 1069547520;
                     .ask (!x32.2.2)
                     (
                      .leaf false)
                     (
                      .ask (!x33.2)
                      (
                       .leaf false)
                      (
                       .ask (!x34.2)
                       (
                        .leaf false)
                       (
                        .ask (!x35.2)
                        (
                         .leaf false)
                        (
                         let x36 := feq .f32 x31 0;
                         .ask x36
                         (
                          let x37 := fne .f32 x32.1 0;
                          .ask x37
                          (
                           .leaf false)
                          (
                           let x38 := fne .f32 x32.2.1 0;
                           .ask x38
                           (
                            .leaf false)
                           (
                            .need ((fconvOk .f32 x32.1 .f64)) (
                            let x39 := fconv .f32 x32.1 .f64;
                            let x40 := fgt .f64 x39 4517329193108106637;
                            .ask x40
                            (
                             let x41 := flt .f32 x28.Tilt 1048576000;
                             .ask x41
                             (
                              .leaf false)
                             (
                              .need ((fconvOk .f32 x32.1 .f64)) (
                              let x42 := fconv .f32 x32.1 .f64;
                              let x43 := flt .f64 x42 13740701229962882445;
                              .ask x43
                              (
                               let x44 := fgt .f32 x28.Tilt 1048576000;
                               .ask x44
                               (
                                .leaf false)
                               (
                                let x45 := fne .f32 x33.1.Node x28.Node;
                                .ask x45
                                (
                                 .leaf false)
                                (
                                 let x46 := fne .f32 x33.1.Peri x28.Peri;
                                 .ask x46
                                 (
                                  .leaf false)
                                 (
                                  let x47 := fne .f32 x35.1.Phase x34.1.Phase;
                                  .ask x47
                                  (
                                   .leaf false)
                                  (
                                   let x48 := fne .f32 x35.1.Node x28.Node;
                                   .ask x48
                                   (
                                    .leaf false)
                                   (
                                    .need ((laws_r8At_need a1 42 8)) (
                                    let x49 := laws_r8At a1 42 8;
                                    let x50 := IntKind.wrap .i64 (1 + x49);
                                    let x51 := fofInt .f32 x50;
                                    let x52 := fdiv .f32 x51 1107296256;
                                    .need ((impl_StillLong_need (⟨x1.Mass, x1.Radius, x52, x1.Start⟩ : Ball))) (
                                    let x53 := impl_StillLong (⟨x1.Mass, x1.Radius, x52, x1.Start⟩ : Ball);
                                    .need ((impl_RateOf_need (⟨x53.1, 0, 0, 0, 0, 0⟩ : Orbit) x1.Mass)) (
                                    let x54 := impl_RateOf (⟨x53.1, 0, 0, 0, 0, 0⟩ : Orbit) x1.Mass;
                                    .ask x53.2
                                    (
                                     .ask x54.2
                                     (
                                      .need ((fconvOk .f32 x54.1 .f64)) (
                                      let x55 := fconv .f32 x54.1 .f64;
                                      .need ((fconvOk .f32 x52 .f64)) (
                                      let x56 := fconv .f32 x52 .f64;
                                      let x57 := fmul .f64 4618760256396512830 x56;
                                      .need ((laws_r8Gap_need x55 x57)) (
                                      let x58 := laws_r8Gap x55 x57;
                                      .need ((fconvOk .f32 x54.1 .f64)) (
                                      let x59 := fconv .f32 x54.1 .f64;
                                      let x60 := fadd .f64 4607182418800017408 x59;
                                      let x61 := fmul .f64 4562254508917369340 x60;
                                      let x62 := flt .f64 x58 x61;
                                      .leaf x62)))))
                                     (
                                      .leaf false))
                                    (
                                     .leaf false))))))))))
                              (
                               let x44 := fne .f32 x33.1.Node x28.Node;
                               .ask x44
                               (
                                .leaf false)
                               (
                                let x45 := fne .f32 x33.1.Peri x28.Peri;
                                .ask x45
                                (
                                 .leaf false)
                                (
                                 let x46 := fne .f32 x35.1.Phase x34.1.Phase;
                                 .ask x46
                                 (
                                  .leaf false)
                                 (
                                  let x47 := fne .f32 x35.1.Node x28.Node;
                                  .ask x47
                                  (
                                   .leaf false)
                                  (
                                   .need ((laws_r8At_need a1 42 8)) (
                                   let x48 := laws_r8At a1 42 8;
                                   let x49 := IntKind.wrap .i64 (1 + x48);
                                   let x50 := fofInt .f32 x49;
                                   let x51 := fdiv .f32 x50 1107296256;
                                   .need ((impl_StillLong_need (⟨x1.Mass, x1.Radius, x51, x1.Start⟩ : Ball))) (
                                   let x52 := impl_StillLong (⟨x1.Mass, x1.Radius, x51, x1.Start⟩ : Ball);
                                   .need ((impl_RateOf_need (⟨x52.1, 0, 0, 0, 0, 0⟩ : Orbit) x1.Mass)) (
                                   let x53 := impl_RateOf (⟨x52.1, 0, 0, 0, 0, 0⟩ : Orbit) x1.Mass;
                                   .ask x52.2
                                   (
                                    .ask x53.2
                                    (
                                     .need ((fconvOk .f32 x53.1 .f64)) (
                                     let x54 := fconv .f32 x53.1 .f64;
                                     .need ((fconvOk .f32 x51 .f64)) (
                                     let x55 := fconv .f32 x51 .f64;
                                     let x56 := fmul .f64 4618760256396512830 x55;
                                     .need ((laws_r8Gap_need x54 x56)) (
                                     let x57 := laws_r8Gap x54 x56;
                                     .need ((fconvOk .f32 x53.1 .f64)) (
                                     let x58 := fconv .f32 x53.1 .f64;
                                     let x59 := fadd .f64 4607182418800017408 x58;
                                     let x60 := fmul .f64 4562254508917369340 x59;
                                     let x61 := flt .f64 x57 x60;
                                     .leaf x61)))))
                                    (
                                     .leaf false))
                                   (
                                    .leaf false))))))))))))
                            (
                             .need ((fconvOk .f32 x32.1 .f64)) (
                             let x41 := fconv .f32 x32.1 .f64;
                             let x42 := flt .f64 x41 13740701229962882445;
                             .ask x42
                             (
                              let x43 := fgt .f32 x28.Tilt 1048576000;
                              .ask x43
                              (
                               .leaf false)
                              (
                               let x44 := fne .f32 x33.1.Node x28.Node;
                               .ask x44
                               (
                                .leaf false)
                               (
                                let x45 := fne .f32 x33.1.Peri x28.Peri;
                                .ask x45
                                (
                                 .leaf false)
                                (
                                 let x46 := fne .f32 x35.1.Phase x34.1.Phase;
                                 .ask x46
                                 (
                                  .leaf false)
                                 (
                                  let x47 := fne .f32 x35.1.Node x28.Node;
                                  .ask x47
                                  (
                                   .leaf false)
                                  (
                                   .need ((laws_r8At_need a1 42 8)) (
                                   let x48 := laws_r8At a1 42 8;
                                   let x49 := IntKind.wrap .i64 (1 + x48);
                                   let x50 := fofInt .f32 x49;
                                   let x51 := fdiv .f32 x50 1107296256;
                                   .need ((impl_StillLong_need (⟨x1.Mass, x1.Radius, x51, x1.Start⟩ : Ball))) (
                                   let x52 := impl_StillLong (⟨x1.Mass, x1.Radius, x51, x1.Start⟩ : Ball);
                                   .need ((impl_RateOf_need (⟨x52.1, 0, 0, 0, 0, 0⟩ : Orbit) x1.Mass)) (
                                   let x53 := impl_RateOf (⟨x52.1, 0, 0, 0, 0, 0⟩ : Orbit) x1.Mass;
                                   .ask x52.2
                                   (
                                    .ask x53.2
                                    (
                                     .need ((fconvOk .f32 x53.1 .f64)) (
                                     let x54 := fconv .f32 x53.1 .f64;
                                     .need ((fconvOk .f32 x51 .f64)) (
                                     let x55 := fconv .f32 x51 .f64;
                                     let x56 := fmul .f64 4618760256396512830 x55;
                                     .need ((laws_r8Gap_need x54 x56)) (
                                     let x57 := laws_r8Gap x54 x56;
                                     .need ((fconvOk .f32 x53.1 .f64)) (
                                     let x58 := fconv .f32 x53.1 .f64;
                                     let x59 := fadd .f64 4607182418800017408 x58;
                                     let x60 := fmul .f64 4562254508917369340 x59;
                                     let x61 := flt .f64 x57 x60;
                                     .leaf x61)))))
                                    (
                                     .leaf false))
                                   (
                                    .leaf false))))))))))
                             (
                              let x43 := fne .f32 x33.1.Node x28.Node;
                              .ask x43
                              (
                               .leaf false)
                              (
                               let x44 := fne .f32 x33.1.Peri x28.Peri;
                               .ask x44
                               (
                                .leaf false)
                               (
                                let x45 := fne .f32 x35.1.Phase x34.1.Phase;
                                .ask x45
                                (
                                 .leaf false)
                                (
                                 let x46 := fne .f32 x35.1.Node x28.Node;
                                 .ask x46
                                 (
                                  .leaf false)
                                 (
                                  .need ((laws_r8At_need a1 42 8)) (
                                  let x47 := laws_r8At a1 42 8;
                                  let x48 := IntKind.wrap .i64 (1 + x47);
                                  let x49 := fofInt .f32 x48;
                                  let x50 := fdiv .f32 x49 1107296256;
                                  .need ((impl_StillLong_need (⟨x1.Mass, x1.Radius, x50, x1.Start⟩ : Ball))) (
                                  let x51 := impl_StillLong (⟨x1.Mass, x1.Radius, x50, x1.Start⟩ : Ball);
                                  .need ((impl_RateOf_need (⟨x51.1, 0, 0, 0, 0, 0⟩ : Orbit) x1.Mass)) (
                                  let x52 := impl_RateOf (⟨x51.1, 0, 0, 0, 0, 0⟩ : Orbit) x1.Mass;
                                  .ask x51.2
                                  (
                                   .ask x52.2
                                   (
                                    .need ((fconvOk .f32 x52.1 .f64)) (
                                    let x53 := fconv .f32 x52.1 .f64;
                                    .need ((fconvOk .f32 x50 .f64)) (
                                    let x54 := fconv .f32 x50 .f64;
                                    let x55 := fmul .f64 4618760256396512830 x54;
                                    .need ((laws_r8Gap_need x53 x55)) (
                                    let x56 := laws_r8Gap x53 x55;
                                    .need ((fconvOk .f32 x52.1 .f64)) (
                                    let x57 := fconv .f32 x52.1 .f64;
                                    let x58 := fadd .f64 4607182418800017408 x57;
                                    let x59 := fmul .f64 4562254508917369340 x58;
                                    let x60 := flt .f64 x56 x59;
                                    .leaf x60)))))
                                   (
                                    .leaf false))
                                  (
                                   .leaf false)))))))))))))))
                         (
                          .need ((fconvOk .f32 x32.1 .f64)) (
                          let x37 := fconv .f32 x32.1 .f64;
                          let x38 := fgt .f64 x37 4517329193108106637;
                          .ask x38
                          (
                           let x39 := flt .f32 x28.Tilt 1048576000;
                           .ask x39
                           (
                            .leaf false)
                           (
                            .need ((fconvOk .f32 x32.1 .f64)) (
                            let x40 := fconv .f32 x32.1 .f64;
                            let x41 := flt .f64 x40 13740701229962882445;
                            .ask x41
                            (
                             let x42 := fgt .f32 x28.Tilt 1048576000;
                             .ask x42
                             (
                              .leaf false)
                             (
                              let x43 := fne .f32 x33.1.Node x28.Node;
                              .ask x43
                              (
                               .leaf false)
                              (
                               let x44 := fne .f32 x33.1.Peri x28.Peri;
                               .ask x44
                               (
                                .leaf false)
                               (
                                let x45 := fne .f32 x35.1.Phase x34.1.Phase;
                                .ask x45
                                (
                                 .leaf false)
                                (
                                 let x46 := fne .f32 x35.1.Node x28.Node;
                                 .ask x46
                                 (
                                  .leaf false)
                                 (
                                  .need ((laws_r8At_need a1 42 8)) (
                                  let x47 := laws_r8At a1 42 8;
                                  let x48 := IntKind.wrap .i64 (1 + x47);
                                  let x49 := fofInt .f32 x48;
                                  let x50 := fdiv .f32 x49 1107296256;
                                  .need ((impl_StillLong_need (⟨x1.Mass, x1.Radius, x50, x1.Start⟩ : Ball))) (
                                  let x51 := impl_StillLong (⟨x1.Mass, x1.Radius, x50, x1.Start⟩ : Ball);
                                  .need ((impl_RateOf_need (⟨x51.1, 0, 0, 0, 0, 0⟩ : Orbit) x1.Mass)) (
                                  let x52 := impl_RateOf (⟨x51.1, 0, 0, 0, 0, 0⟩ : Orbit) x1.Mass;
                                  .ask x51.2
                                  (
                                   .ask x52.2
                                   (
                                    .need ((fconvOk .f32 x52.1 .f64)) (
                                    let x53 := fconv .f32 x52.1 .f64;
                                    .need ((fconvOk .f32 x50 .f64)) (
                                    let x54 := fconv .f32 x50 .f64;
                                    let x55 := fmul .f64 4618760256396512830 x54;
                                    .need ((laws_r8Gap_need x53 x55)) (
                                    let x56 := laws_r8Gap x53 x55;
                                    .need ((fconvOk .f32 x52.1 .f64)) (
                                    let x57 := fconv .f32 x52.1 .f64;
                                    let x58 := fadd .f64 4607182418800017408 x57;
                                    let x59 := fmul .f64 4562254508917369340 x58;
                                    let x60 := flt .f64 x56 x59;
                                    .leaf x60)))))
                                   (
                                    .leaf false))
                                  (
                                   .leaf false))))))))))
                            (
                             let x42 := fne .f32 x33.1.Node x28.Node;
                             .ask x42
                             (
                              .leaf false)
                             (
                              let x43 := fne .f32 x33.1.Peri x28.Peri;
                              .ask x43
                              (
                               .leaf false)
                              (
                               let x44 := fne .f32 x35.1.Phase x34.1.Phase;
                               .ask x44
                               (
                                .leaf false)
                               (
                                let x45 := fne .f32 x35.1.Node x28.Node;
                                .ask x45
                                (
                                 .leaf false)
                                (
                                 .need ((laws_r8At_need a1 42 8)) (
                                 let x46 := laws_r8At a1 42 8;
                                 let x47 := IntKind.wrap .i64 (1 + x46);
                                 let x48 := fofInt .f32 x47;
                                 let x49 := fdiv .f32 x48 1107296256;
                                 .need ((impl_StillLong_need (⟨x1.Mass, x1.Radius, x49, x1.Start⟩ : Ball))) (
                                 let x50 := impl_StillLong (⟨x1.Mass, x1.Radius, x49, x1.Start⟩ : Ball);
                                 .need ((impl_RateOf_need (⟨x50.1, 0, 0, 0, 0, 0⟩ : Orbit) x1.Mass)) (
                                 let x51 := impl_RateOf (⟨x50.1, 0, 0, 0, 0, 0⟩ : Orbit) x1.Mass;
                                 .ask x50.2
                                 (
                                  .ask x51.2
                                  (
                                   .need ((fconvOk .f32 x51.1 .f64)) (
                                   let x52 := fconv .f32 x51.1 .f64;
                                   .need ((fconvOk .f32 x49 .f64)) (
                                   let x53 := fconv .f32 x49 .f64;
                                   let x54 := fmul .f64 4618760256396512830 x53;
                                   .need ((laws_r8Gap_need x52 x54)) (
                                   let x55 := laws_r8Gap x52 x54;
                                   .need ((fconvOk .f32 x51.1 .f64)) (
                                   let x56 := fconv .f32 x51.1 .f64;
                                   let x57 := fadd .f64 4607182418800017408 x56;
                                   let x58 := fmul .f64 4562254508917369340 x57;
                                   let x59 := flt .f64 x55 x58;
                                   .leaf x59)))))
                                  (
                                   .leaf false))
                                 (
                                  .leaf false))))))))))))
                          (
                           .need ((fconvOk .f32 x32.1 .f64)) (
                           let x39 := fconv .f32 x32.1 .f64;
                           let x40 := flt .f64 x39 13740701229962882445;
                           .ask x40
                           (
                            let x41 := fgt .f32 x28.Tilt 1048576000;
                            .ask x41
                            (
                             .leaf false)
                            (
                             let x42 := fne .f32 x33.1.Node x28.Node;
                             .ask x42
                             (
                              .leaf false)
                             (
                              let x43 := fne .f32 x33.1.Peri x28.Peri;
                              .ask x43
                              (
                               .leaf false)
                              (
                               let x44 := fne .f32 x35.1.Phase x34.1.Phase;
                               .ask x44
                               (
                                .leaf false)
                               (
                                let x45 := fne .f32 x35.1.Node x28.Node;
                                .ask x45
                                (
                                 .leaf false)
                                (
                                 .need ((laws_r8At_need a1 42 8)) (
                                 let x46 := laws_r8At a1 42 8;
                                 let x47 := IntKind.wrap .i64 (1 + x46);
                                 let x48 := fofInt .f32 x47;
                                 let x49 := fdiv .f32 x48 1107296256;
                                 .need ((impl_StillLong_need (⟨x1.Mass, x1.Radius, x49, x1.Start⟩ : Ball))) (
                                 let x50 := impl_StillLong (⟨x1.Mass, x1.Radius, x49, x1.Start⟩ : Ball);
                                 .need ((impl_RateOf_need (⟨x50.1, 0, 0, 0, 0, 0⟩ : Orbit) x1.Mass)) (
                                 let x51 := impl_RateOf (⟨x50.1, 0, 0, 0, 0, 0⟩ : Orbit) x1.Mass;
                                 .ask x50.2
                                 (
                                  .ask x51.2
                                  (
                                   .need ((fconvOk .f32 x51.1 .f64)) (
                                   let x52 := fconv .f32 x51.1 .f64;
                                   .need ((fconvOk .f32 x49 .f64)) (
                                   let x53 := fconv .f32 x49 .f64;
                                   let x54 := fmul .f64 4618760256396512830 x53;
                                   .need ((laws_r8Gap_need x52 x54)) (
                                   let x55 := laws_r8Gap x52 x54;
                                   .need ((fconvOk .f32 x51.1 .f64)) (
                                   let x56 := fconv .f32 x51.1 .f64;
                                   let x57 := fadd .f64 4607182418800017408 x56;
                                   let x58 := fmul .f64 4562254508917369340 x57;
                                   let x59 := flt .f64 x55 x58;
                                   .leaf x59)))))
                                  (
                                   .leaf false))
                                 (
                                  .leaf false))))))))))
                           (
                            let x41 := fne .f32 x33.1.Node x28.Node;
                            .ask x41
                            (
                             .leaf false)
                            (
                             let x42 := fne .f32 x33.1.Peri x28.Peri;
                             .ask x42
                             (
                              .leaf false)
                             (
                              let x43 := fne .f32 x35.1.Phase x34.1.Phase;
                              .ask x43
                              (
                               .leaf false)
                              (
                               let x44 := fne .f32 x35.1.Node x28.Node;
                               .ask x44
                               (
                                .leaf false)
                               (
                                .need ((laws_r8At_need a1 42 8)) (
                                let x45 := laws_r8At a1 42 8;
                                let x46 := IntKind.wrap .i64 (1 + x45);
                                let x47 := fofInt .f32 x46;
                                let x48 := fdiv .f32 x47 1107296256;
                                .need ((impl_StillLong_need (⟨x1.Mass, x1.Radius, x48, x1.Start⟩ : Ball))) (
                                let x49 := impl_StillLong (⟨x1.Mass, x1.Radius, x48, x1.Start⟩ : Ball);
                                .need ((impl_RateOf_need (⟨x49.1, 0, 0, 0, 0, 0⟩ : Orbit) x1.Mass)) (
                                let x50 := impl_RateOf (⟨x49.1, 0, 0, 0, 0, 0⟩ : Orbit) x1.Mass;
                                .ask x49.2
                                (
                                 .ask x50.2
                                 (
                                  .need ((fconvOk .f32 x50.1 .f64)) (
                                  let x51 := fconv .f32 x50.1 .f64;
                                  .need ((fconvOk .f32 x48 .f64)) (
                                  let x52 := fconv .f32 x48 .f64;
                                  let x53 := fmul .f64 4618760256396512830 x52;
                                  .need ((laws_r8Gap_need x51 x53)) (
                                  let x54 := laws_r8Gap x51 x53;
                                  .need ((fconvOk .f32 x50.1 .f64)) (
                                  let x55 := fconv .f32 x50.1 .f64;
                                  let x56 := fadd .f64 4607182418800017408 x55;
                                  let x57 := fmul .f64 4562254508917369340 x56;
                                  let x58 := flt .f64 x54 x57;
                                  .leaf x58)))))
                                 (
                                  .leaf false))
                                (
                                 .leaf false))))))))))))))))))))))))))))))))))))))))))))))))))))))))))))))))))
def laws_FnCovers (a0 : List Int) (a1 : List Int) : Bool := (laws_FnCovers_tree a0 a1).val
def laws_FnCovers_need (a0 : List Int) (a1 : List Int) : Bool := (laws_FnCovers_tree a0 a1).ok
def laws_FnCovers_mk (p : Bool) : Ret := ⟨.bool p, []⟩
def laws_FnCovers_c0 : Con := fun args => match args with
  | [.vslc 1 (.int .u8) a0, .vslc 2 (.int .u8) a1] => some (.need (laws_FnCovers_need a0 a1) (.leaf (laws_FnCovers_mk (laws_FnCovers a0 a1))))
  | _ => none
theorem agree_cut {α : Type} {E : Env} {fuel : Nat} {x : Code} {rs : List ResultVar} {args : List PV} {mk : α → Ret} {l : List (Hs × α)} (n : Nat) (h1 : Agree E fuel x rs args mk (l.take n)) (h2 : Agree E fuel x rs args mk (l.drop n)) : Agree E fuel x rs args mk l := by
  have h3 : Agree E fuel x rs args mk (l.take n ++ l.drop n) := by
    unfold Agree at *
    rw [List.map_append, List.map_append, h1, h2]
  rwa [List.take_append_drop] at h3
def laws_FnCovers_env : Env := ⟨gam [(5, laws_r8Long_c), (6, spec_R8Ball_c), (7, spec_R8Mark_c), (9, impl_PlaceOf_c), (18, impl_CoverOf_c), (8, laws_r8At_c), (19, impl_CoverShared_c), (20, impl_CoverShare_c), (21, spec_R8Orbit_c), (22, impl_DriftsOf_c), (23, impl_DriftOrbit_c), (24, impl_LaterOrbit_c), (25, impl_StillLong_c), (26, impl_RateOf_c), (11, laws_r8Gap_c)], tab, 354, laws_FnCovers_loops⟩
set_option maxRecDepth 100000 in
theorem laws_FnCovers_part0 (a0 a1 : List Int) : Agree laws_FnCovers_env 100000 (bodyOf Try.f4) Try.f4.results.toList [.vslc 1 (.int .u8) a0, .vslc 2 (.int .u8) a1] laws_FnCovers_mk ((laws_FnCovers_tree a0 a1).leaves.take 8) := by unfold Agree; kernel_rfl
set_option maxRecDepth 100000 in
theorem laws_FnCovers_part1 (a0 a1 : List Int) : Agree laws_FnCovers_env 100000 (bodyOf Try.f4) Try.f4.results.toList [.vslc 1 (.int .u8) a0, .vslc 2 (.int .u8) a1] laws_FnCovers_mk (((laws_FnCovers_tree a0 a1).leaves.drop 8).take 8) := by unfold Agree; kernel_rfl
set_option maxRecDepth 100000 in
theorem laws_FnCovers_part2 (a0 a1 : List Int) : Agree laws_FnCovers_env 100000 (bodyOf Try.f4) Try.f4.results.toList [.vslc 1 (.int .u8) a0, .vslc 2 (.int .u8) a1] laws_FnCovers_mk (((laws_FnCovers_tree a0 a1).leaves.drop 16).take 8) := by unfold Agree; kernel_rfl
set_option maxRecDepth 100000 in
theorem laws_FnCovers_part3 (a0 a1 : List Int) : Agree laws_FnCovers_env 100000 (bodyOf Try.f4) Try.f4.results.toList [.vslc 1 (.int .u8) a0, .vslc 2 (.int .u8) a1] laws_FnCovers_mk (((laws_FnCovers_tree a0 a1).leaves.drop 24).take 8) := by unfold Agree; kernel_rfl
set_option maxRecDepth 100000 in
theorem laws_FnCovers_part4 (a0 a1 : List Int) : Agree laws_FnCovers_env 100000 (bodyOf Try.f4) Try.f4.results.toList [.vslc 1 (.int .u8) a0, .vslc 2 (.int .u8) a1] laws_FnCovers_mk (((laws_FnCovers_tree a0 a1).leaves.drop 32).take 8) := by unfold Agree; kernel_rfl
set_option maxRecDepth 100000 in
theorem laws_FnCovers_part5 (a0 a1 : List Int) : Agree laws_FnCovers_env 100000 (bodyOf Try.f4) Try.f4.results.toList [.vslc 1 (.int .u8) a0, .vslc 2 (.int .u8) a1] laws_FnCovers_mk (((laws_FnCovers_tree a0 a1).leaves.drop 40).take 8) := by unfold Agree; kernel_rfl
set_option maxRecDepth 100000 in
theorem laws_FnCovers_part6 (a0 a1 : List Int) : Agree laws_FnCovers_env 100000 (bodyOf Try.f4) Try.f4.results.toList [.vslc 1 (.int .u8) a0, .vslc 2 (.int .u8) a1] laws_FnCovers_mk (((laws_FnCovers_tree a0 a1).leaves.drop 48).take 8) := by unfold Agree; kernel_rfl
set_option maxRecDepth 100000 in
theorem laws_FnCovers_part7 (a0 a1 : List Int) : Agree laws_FnCovers_env 100000 (bodyOf Try.f4) Try.f4.results.toList [.vslc 1 (.int .u8) a0, .vslc 2 (.int .u8) a1] laws_FnCovers_mk (((laws_FnCovers_tree a0 a1).leaves.drop 56).take 8) := by unfold Agree; kernel_rfl
set_option maxRecDepth 100000 in
theorem laws_FnCovers_part8 (a0 a1 : List Int) : Agree laws_FnCovers_env 100000 (bodyOf Try.f4) Try.f4.results.toList [.vslc 1 (.int .u8) a0, .vslc 2 (.int .u8) a1] laws_FnCovers_mk (((laws_FnCovers_tree a0 a1).leaves.drop 64).take 8) := by unfold Agree; kernel_rfl
set_option maxRecDepth 100000 in
theorem laws_FnCovers_part9 (a0 a1 : List Int) : Agree laws_FnCovers_env 100000 (bodyOf Try.f4) Try.f4.results.toList [.vslc 1 (.int .u8) a0, .vslc 2 (.int .u8) a1] laws_FnCovers_mk (((laws_FnCovers_tree a0 a1).leaves.drop 72).take 8) := by unfold Agree; kernel_rfl
set_option maxRecDepth 100000 in
theorem laws_FnCovers_part10 (a0 a1 : List Int) : Agree laws_FnCovers_env 100000 (bodyOf Try.f4) Try.f4.results.toList [.vslc 1 (.int .u8) a0, .vslc 2 (.int .u8) a1] laws_FnCovers_mk (((laws_FnCovers_tree a0 a1).leaves.drop 80).take 8) := by unfold Agree; kernel_rfl
set_option maxRecDepth 100000 in
theorem laws_FnCovers_part11 (a0 a1 : List Int) : Agree laws_FnCovers_env 100000 (bodyOf Try.f4) Try.f4.results.toList [.vslc 1 (.int .u8) a0, .vslc 2 (.int .u8) a1] laws_FnCovers_mk ((laws_FnCovers_tree a0 a1).leaves.drop 88) := by unfold Agree; kernel_rfl
theorem laws_FnCovers_parts (a0 a1 : List Int) : Agree laws_FnCovers_env 100000 (bodyOf Try.f4) Try.f4.results.toList [.vslc 1 (.int .u8) a0, .vslc 2 (.int .u8) a1] laws_FnCovers_mk (laws_FnCovers_tree a0 a1).leaves := by
  refine agree_cut 8 (laws_FnCovers_part0 a0 a1) ?_
  refine agree_cut 8 (laws_FnCovers_part1 a0 a1) ?_
  rw [List.drop_drop]
  refine agree_cut 8 (laws_FnCovers_part2 a0 a1) ?_
  rw [List.drop_drop]
  refine agree_cut 8 (laws_FnCovers_part3 a0 a1) ?_
  rw [List.drop_drop]
  refine agree_cut 8 (laws_FnCovers_part4 a0 a1) ?_
  rw [List.drop_drop]
  refine agree_cut 8 (laws_FnCovers_part5 a0 a1) ?_
  rw [List.drop_drop]
  refine agree_cut 8 (laws_FnCovers_part6 a0 a1) ?_
  rw [List.drop_drop]
  refine agree_cut 8 (laws_FnCovers_part7 a0 a1) ?_
  rw [List.drop_drop]
  refine agree_cut 8 (laws_FnCovers_part8 a0 a1) ?_
  rw [List.drop_drop]
  refine agree_cut 8 (laws_FnCovers_part9 a0 a1) ?_
  rw [List.drop_drop]
  refine agree_cut 8 (laws_FnCovers_part10 a0 a1) ?_
  rw [List.drop_drop]
  exact laws_FnCovers_part11 a0 a1
set_option maxRecDepth 100000 in
theorem laws_FnCovers_ok0 : FunOK Try.prog 4 laws_FnCovers_c0.fn := by
  refine con_ok (Γ := gam [(5, laws_r8Long_c), (6, spec_R8Ball_c), (7, spec_R8Mark_c), (9, impl_PlaceOf_c), (18, impl_CoverOf_c), (8, laws_r8At_c), (19, impl_CoverShared_c), (20, impl_CoverShare_c), (21, spec_R8Orbit_c), (22, impl_DriftsOf_c), (23, impl_DriftOrbit_c), (24, impl_LaterOrbit_c), (25, impl_StillLong_c), (26, impl_RateOf_c), (11, laws_r8Gap_c)]) (gam_cons laws_r8Long_ok (gam_cons spec_R8Ball_ok (gam_cons spec_R8Mark_ok (gam_cons impl_PlaceOf_ok (gam_cons impl_CoverOf_ok (gam_cons laws_r8At_ok (gam_cons impl_CoverShared_ok (gam_cons impl_CoverShare_ok (gam_cons spec_R8Orbit_ok (gam_cons impl_DriftsOf_ok (gam_cons impl_DriftOrbit_ok (gam_cons impl_LaterOrbit_ok (gam_cons impl_StillLong_ok (gam_cons impl_RateOf_ok (gam_cons laws_r8Gap_ok (gam_nil)))))))))))))))) tab_ok (by kernel_rfl) Try.func4 (by kernel_rfl) (by kernel_rfl) Try.ntmps4 rfl (loops := laws_FnCovers_loops) (loopsOK_list (l := [lp Try.f4 0, lp Try.f4 1]) (by kernel_rfl) ⟨laws_FnCovers_l0, ⟨laws_FnCovers_l1, trivial⟩⟩) 100000 fun args t h => ?_
  unfold laws_FnCovers_c0 at h
  split at h
  · rename_i a0 a1
    cases h
    exact ⟨rfl, agree_need (mk := laws_FnCovers_mk) (t := laws_FnCovers_tree a0 a1) (laws_FnCovers_parts a0 a1)⟩
  · cases h
def laws_FnCovers_c : Con := fun args => laws_FnCovers_c0 (norms 0 [.slc (.int .u8), .slc (.int .u8)] args)
set_option maxRecDepth 100000 in
theorem laws_FnCovers_ok : FunOK Try.prog 4 laws_FnCovers_c.fn := con_norm [.slc (.int .u8), .slc (.int .u8)] laws_FnCovers_ok0

end
end Go.Proofs.Ytkhjcoekmamlaaa
