/- THE WALK, BY A PROGRAM: typed functions, and that the code is they. -/
import Derived.Test.YtcipkfndnkmjlaaGreatDoorRead
namespace Go.Proofs.YtcipkfndnkmjlaaGreatDoor
set_option linter.unusedVariables false
set_option linter.unusedSimpArgs false
open Go.Extern
noncomputable section

set_option maxRecDepth 100000 in
theorem math_Float32frombits_ok : FunOK Tryz.prog 58 math_Float32frombits_c.fn := frombits32_ok (run_callFunc_extern Tryz.func58 (by kernel_rfl) (by kernel_rfl) (by kernel_rfl) (by kernel_rfl))

set_option maxRecDepth 100000 in
theorem internal_bytealg_CountString_ok : FunOK Tryz.prog 66 internal_bytealg_CountString_c.fn := countString_ok (run_callFunc_extern Tryz.func66 (by kernel_rfl) (by kernel_rfl) (by kernel_rfl) (by kernel_rfl))

set_option maxRecDepth 100000 in
theorem internal_bytealg_IndexByteString_ok : FunOK Tryz.prog 96 internal_bytealg_IndexByteString_c.fn := indexByteString_ok (run_callFunc_extern Tryz.func96 (by kernel_rfl) (by kernel_rfl) (by kernel_rfl) (by kernel_rfl))

set_option maxRecDepth 100000 in
theorem math_Float64bits_ok : FunOK Tryz.prog 126 math_Float64bits_c.fn := bits64_ok (run_callFunc_extern Tryz.func126 (by kernel_rfl) (by kernel_rfl) (by kernel_rfl) (by kernel_rfl))

set_option maxRecDepth 100000 in
theorem math_Float64frombits_ok : FunOK Tryz.prog 125 math_Float64frombits_c.fn := frombits64_ok (run_callFunc_extern Tryz.func125 (by kernel_rfl) (by kernel_rfl) (by kernel_rfl) (by kernel_rfl))

/-- a loop of spec_l01Cut -/
def spec_l01Cut_loop0_step (p : (List UInt8) × Int) (s : Int × Int × List (List UInt8)) : Round (Int × Int × List (List UInt8)) (List (List UInt8)) :=
  let x0 := ((List.length p.1 : Nat) : Int);
  let x1 := decide (s.2.1 ≤ x0);
  .ask x1
  (
   let x2 := ((List.length p.1 : Nat) : Int);
   let x3 := (s.2.1 == x2);
   .ask x3
   (
    .need ((decide (0 ≤ s.2.1) && decide (s.2.1 ≤ ((List.length p.1 : Nat) : Int)))) (
    .need ((decide (0 ≤ s.1) && decide (s.1 ≤ (((Int.toNat s.2.1) : Nat) : Int)))) (
    let x4 := List.drop (Int.toNat s.1) (List.take (Int.toNat s.2.1) p.1);
    .need ((decide ((List.length s.2.2 + List.length [x4]) * 16 ≤ 140737488355328) && decide (List.length s.2.2 + List.length [x4] ≤ 9223372036854775807))) (
    let x5 := s.2.2 ++ [x4];
    let x6 := IntKind.wrap .i64 (s.2.1 + 1);
    let x7 := IntKind.wrap .i64 (s.2.1 + 1);
    .leaf (.inl (x6, x7, x5), [169])))))
   (
    .need ((decide (0 ≤ s.2.1) && decide (s.2.1 < ((List.length p.1 : Nat) : Int)))) (
    let x4 := ((List.getD (p.1 : List UInt8) (Int.toNat s.2.1) 0).toNat : Int);
    let x5 := (x4 == p.2);
    .ask x5
    (
     .need ((decide (0 ≤ s.2.1) && decide (s.2.1 ≤ ((List.length p.1 : Nat) : Int)))) (
     .need ((decide (0 ≤ s.1) && decide (s.1 ≤ (((Int.toNat s.2.1) : Nat) : Int)))) (
     let x6 := List.drop (Int.toNat s.1) (List.take (Int.toNat s.2.1) p.1);
     .need ((decide ((List.length s.2.2 + List.length [x6]) * 16 ≤ 140737488355328) && decide (List.length s.2.2 + List.length [x6] ≤ 9223372036854775807))) (
     let x7 := s.2.2 ++ [x6];
     let x8 := IntKind.wrap .i64 (s.2.1 + 1);
     let x9 := IntKind.wrap .i64 (s.2.1 + 1);
     .leaf (.inl (x8, x9, x7), [169])))))
    (
     let x6 := IntKind.wrap .i64 (s.2.1 + 1);
     .leaf (.inl (s.1, x6, s.2.2), [0])))))
  (
   .leaf (.inr s.2.2, [0]))
def spec_l01Cut_loop0_L (p : (List UInt8) × Int) : LoopS (Int × Int × List (List UInt8)) (List (List UInt8)) := { tl := fun s => [.str p.1, .int .u8 p.2, .junk, .junk, .junk, .own 0, .int .i64 s.1, .int .i64 s.2.1], hl := fun s => [some (.typed 9 .str s.2.2)], ex := fun r => .exit 0, otl := fun r => [.junk, .junk, .junk, .junk, .junk, .own 0], ohl := fun r => [some (.typed 9 .str r)] }
def spec_l01Cut_loop0_ext : St → Option (((List UInt8) × Int) × (Int × Int × List (List UInt8)) × List Nat) := fun S => match (S.tm 0).unK, (S.tm 1).unK, (S.tm 5).unK, (S.tm 6).unK, (S.tm 7).unK with
  | .str q0, .int .u8 q1, .own i0, .int .i64 q2, .int .i64 q3 => (match S.hp i0 with
    | some (.typed 9 .str q4) => some ((q0, q1), (q2, q3, q4), [i0])
    | _ => none)
  | _, _, _, _, _ => none
def spec_l01Cut_loop0_post (p : (List UInt8) × Int) (r : List (List UInt8)) : DT (Ex × St) := .leaf (.exit 0, LSt [.junk, .junk, .junk, .junk, .junk, .own 0] [some (.typed 9 .str r)])
def spec_l01Cut_loop0 (p : (List UInt8) × Int) (s : Int × Int × List (List UInt8)) : List (List UInt8) := loopVal (spec_l01Cut_loop0_step p) s
def spec_l01Cut_loop0_ends (p : (List UInt8) × Int) (s : Int × Int × List (List UInt8)) : Bool := loopEnds (spec_l01Cut_loop0_step p) s
def spec_l01Cut_loop0_F : LoopF := loopF spec_l01Cut_loop0_step spec_l01Cut_loop0_ext spec_l01Cut_loop0_post
theorem spec_l01Cut_loop0_hext : ∀ S p s fl, spec_l01Cut_loop0_ext S = some (p, s, fl) → Norm S fl ((spec_l01Cut_loop0_L p).tl s) ((spec_l01Cut_loop0_L p).hl s) (spec_l01Cut_loop0_L p).gl := by
  intro S p s fl h
  unfold spec_l01Cut_loop0_ext at h
  (repeat' split at h) <;> first
    | (cases h; constructor <;> simp_all [spec_l01Cut_loop0_L, keepT, keepH, rens, renH, PV.ren, Blk.ren, fOf, lget, nodup, natIn, lenEq, gtm, PV.unK])
    | cases h
theorem spec_l01Cut_loop0_hpost : ∀ p r e S', (spec_l01Cut_loop0_post p r).get = some (e, S') → e = (spec_l01Cut_loop0_L p).ex r ∧ S' = LSt ((spec_l01Cut_loop0_L p).otl r) ((spec_l01Cut_loop0_L p).ohl r) ((spec_l01Cut_loop0_L p).ogl r) := by
  intro p r e S' h
  unfold spec_l01Cut_loop0_post at h
  simp only [DT.get, Option.some.injEq, Prod.mk.injEq] at h; exact ⟨h.1.symm, h.2.symm⟩

def spec_l01Cut_loops : Nat → Option LoopF := loopTab [(4, spec_l01Cut_loop0_F)]
set_option maxRecDepth 100000 in
theorem spec_l01Cut_l0 : LoopOK Tryz.prog ⟨gam [], tab, 36, spec_l01Cut_loops⟩ (lp Tryz.f29 0) :=
  loopOK_some (F := spec_l01Cut_loop0_F) (by kernel_rfl) (loopF_ok (E := ⟨gam [], tab, 36, spec_l01Cut_loops⟩) ⟨gam_nil, tab_ok, by kernel_rfl⟩ (fuel := 100000) (loopsOK_list (l := []) (by kernel_rfl) trivial) (L := spec_l01Cut_loop0_L) (fun p s => by unfold AgreeL; exact ⟨by kernel_rfl, by kernel_rfl⟩) (fun _ _ h => Ex.noConfusion h) spec_l01Cut_loop0_hext spec_l01Cut_loop0_hpost)
/-- loop.example/g01284/spec.l01Cut -/
def spec_l01Cut_tree (a0 : (List UInt8)) (a1 : Int) : DT (List (List UInt8)) :=
  .need ((spec_l01Cut_loop0_ends (a0, a1) (0, 0, []))) (
  let x0 := spec_l01Cut_loop0 (a0, a1) (0, 0, []);
  .leaf x0)
def spec_l01Cut (a0 : (List UInt8)) (a1 : Int) : List (List UInt8) := (spec_l01Cut_tree a0 a1).val
def spec_l01Cut_need (a0 : (List UInt8)) (a1 : Int) : Bool := (spec_l01Cut_tree a0 a1).ok
def spec_l01Cut_mk (p : List (List UInt8)) : Ret := ⟨.own 0, [.typed 9 .str p]⟩
def spec_l01Cut_c : Con := fun args => match args with
  | [.str a0, .int .u8 a1] => some (.need (spec_l01Cut_need a0 a1) (.leaf (spec_l01Cut_mk (spec_l01Cut a0 a1))))
  | _ => none
set_option maxRecDepth 100000 in
theorem spec_l01Cut_ok : FunOK Tryz.prog 29 spec_l01Cut_c.fn := by
  refine con_ok (Γ := gam []) (gam_nil) tab_ok (by kernel_rfl) Tryz.func29 (by kernel_rfl) (by kernel_rfl) Tryz.ntmps29 Tryz.results29 (loops := spec_l01Cut_loops) (loopsOK_list (l := [lp Tryz.f29 0]) (by kernel_rfl) ⟨spec_l01Cut_l0, trivial⟩) 100000 fun args t h => ?_
  unfold spec_l01Cut_c at h
  split at h
  · rename_i a0 a1
    cases h
    exact ⟨rfl, agree_need (mk := spec_l01Cut_mk) (t := spec_l01Cut_tree a0 a1) (by unfold Agree; kernel_rfl)⟩
  · cases h

/-- loop.example/g01284/spec.l01From -/
def spec_l01From_tree (a0 : Int) : DT (Nat) :=
  let x0 := IntKind.wrap .u32 a0;
  let x1 := canon .f32 (Int.toNat x0);
  .leaf x1
def spec_l01From (a0 : Int) : Nat := (spec_l01From_tree a0).val
def spec_l01From_mk (p : Nat) : Ret := ⟨.flt .f32 p, []⟩
def spec_l01From_c : Con := fun args => match args with
  | [.int .i64 a0] => some (.leaf (spec_l01From_mk (spec_l01From a0)))
  | _ => none
set_option maxRecDepth 100000 in
theorem spec_l01From_ok : FunOK Tryz.prog 53 spec_l01From_c.fn := by
  refine con_ok (Γ := gam [(58, math_Float32frombits_c)]) (gam_cons math_Float32frombits_ok (gam_nil)) tab_ok (by kernel_rfl) Tryz.func53 (by kernel_rfl) (by kernel_rfl) Tryz.ntmps53 Tryz.results53 (loopsOK_none rfl _) 100000 fun args t h => ?_
  unfold spec_l01From_c at h
  split at h
  · rename_i a0
    cases h
    exact ⟨rfl, agree_tot (mk := spec_l01From_mk) (t := spec_l01From_tree a0) (by unfold Agree; kernel_rfl) (by kernel_rfl)⟩
  · cases h

/-- loop.example/g01284/spec.l01Bits -/
def spec_l01Bits_tree (a0 : Nat) : DT (Int) :=
  let x0 := fne .f32 a0 a0;
  .ask x0
  (
   .leaf 2143289344)
  (
   .need ((!isNaN .f32 a0)) (
   let x1 := IntKind.wrap .i64 ((a0 : Nat) : Int);
   .leaf x1))
def spec_l01Bits (a0 : Nat) : Int := (spec_l01Bits_tree a0).val
def spec_l01Bits_need (a0 : Nat) : Bool := (spec_l01Bits_tree a0).ok
def spec_l01Bits_mk (p : Int) : Ret := ⟨.int .i64 p, []⟩
def spec_l01Bits_c : Con := fun args => match args with
  | [.flt .f32 a0] => some (.need (spec_l01Bits_need a0) (.leaf (spec_l01Bits_mk (spec_l01Bits a0))))
  | _ => none
set_option maxRecDepth 100000 in
theorem spec_l01Bits_ok : FunOK Tryz.prog 54 spec_l01Bits_c.fn := by
  refine con_ok (Γ := gam [(71, math_Float32bits_c)]) (gam_cons math_Float32bits_ok (gam_nil)) tab_ok (by kernel_rfl) Tryz.func54 (by kernel_rfl) (by kernel_rfl) Tryz.ntmps54 Tryz.results54 (loopsOK_none rfl _) 100000 fun args t h => ?_
  unfold spec_l01Bits_c at h
  split at h
  · rename_i a0
    cases h
    exact ⟨rfl, agree_need (mk := spec_l01Bits_mk) (t := spec_l01Bits_tree a0) (by unfold Agree; kernel_rfl)⟩
  · cases h

/-- a loop of spec_l01NRead -/
def spec_l01NRead_loop1_step (p : Int × List Nat × List (List UInt8)) (s : Int × Int) : Round (Int × Int) ((Unit) ⊕ (Int)) :=
  let x0 := decide (s.2 < 8);
  .ask x0
  (
   .need ((decide (0 ≤ p.1) && decide (p.1 < ((List.length p.2.2 : Nat) : Int)))) (
   .need ((decide ((Int.toNat p.1) < List.length p.2.2))) (
   let x1 := List.getD p.2.2 (Int.toNat p.1) default;
   .need ((decide (0 ≤ s.2) && decide (s.2 < ((List.length x1 : Nat) : Int)))) (
   let x2 := ((List.getD (x1 : List UInt8) (Int.toNat s.2) 0).toNat : Int);
   let x3 := decide (x2 ≥ 48);
   .ask x3
   (
    let x4 := decide (x2 ≤ 57);
    .ask x4
    (
     let x5 := IntKind.wrap .u8 (x2 - 48);
     let x6 := IntKind.wrap .i64 x5;
     let x7 := decide (x2 ≥ 97);
     .ask x7
     (
      let x8 := decide (x2 ≤ 102);
      .ask x8
      (
       let x9 := IntKind.wrap .u8 (x2 - 97);
       let x10 := IntKind.wrap .i64 x9;
       let x11 := IntKind.wrap .i64 (x10 + 10);
       let x12 := decide (x11 < 0);
       .ask x12
       (
        .leaf (.inr (.inl ()), []))
       (
        let x13 := IntKind.wrap .i64 (16 * s.1);
        let x14 := IntKind.wrap .i64 (x13 + x11);
        let x15 := IntKind.wrap .i64 (s.2 + 1);
        .leaf (.inl (x14, x15), [0, 1])))
      (
       let x9 := decide (x6 < 0);
       .ask x9
       (
        .leaf (.inr (.inl ()), []))
       (
        let x10 := IntKind.wrap .i64 (16 * s.1);
        let x11 := IntKind.wrap .i64 (x10 + x6);
        let x12 := IntKind.wrap .i64 (s.2 + 1);
        .leaf (.inl (x11, x12), [0, 1]))))
     (
      let x8 := decide (x6 < 0);
      .ask x8
      (
       .leaf (.inr (.inl ()), []))
      (
       let x9 := IntKind.wrap .i64 (16 * s.1);
       let x10 := IntKind.wrap .i64 (x9 + x6);
       let x11 := IntKind.wrap .i64 (s.2 + 1);
       .leaf (.inl (x10, x11), [0, 1]))))
    (
     let x5 := decide (x2 ≥ 97);
     .ask x5
     (
      let x6 := decide (x2 ≤ 102);
      .ask x6
      (
       let x7 := IntKind.wrap .u8 (x2 - 97);
       let x8 := IntKind.wrap .i64 x7;
       let x9 := IntKind.wrap .i64 (x8 + 10);
       let x10 := decide (x9 < 0);
       .ask x10
       (
        .leaf (.inr (.inl ()), []))
       (
        let x11 := IntKind.wrap .i64 (16 * s.1);
        let x12 := IntKind.wrap .i64 (x11 + x9);
        let x13 := IntKind.wrap .i64 (s.2 + 1);
        .leaf (.inl (x12, x13), [0, 1])))
      (
       .skip (
       .leaf (.inr (.inl ()), []))))
     (
      .skip (
      .leaf (.inr (.inl ()), [])))))
   (
    let x4 := decide (x2 ≥ 97);
    .ask x4
    (
     let x5 := decide (x2 ≤ 102);
     .ask x5
     (
      let x6 := IntKind.wrap .u8 (x2 - 97);
      let x7 := IntKind.wrap .i64 x6;
      let x8 := IntKind.wrap .i64 (x7 + 10);
      let x9 := decide (x8 < 0);
      .ask x9
      (
       .leaf (.inr (.inl ()), []))
      (
       let x10 := IntKind.wrap .i64 (16 * s.1);
       let x11 := IntKind.wrap .i64 (x10 + x8);
       let x12 := IntKind.wrap .i64 (s.2 + 1);
       .leaf (.inl (x11, x12), [0, 1])))
     (
      .skip (
      .leaf (.inr (.inl ()), []))))
    (
     .skip (
     .leaf (.inr (.inl ()), []))))))))
  (
   .leaf (.inr (.inr s.1), [0, 1]))
def spec_l01NRead_loop1_L (p : Int × List Nat × List (List UInt8)) : LoopS (Int × Int) ((Unit) ⊕ (Int)) := { tl := fun s => [.junk, .junk, .junk, .junk, .own 0, .own 1, .int .i64 p.1, .int .i64 s.1, .int .i64 s.2], hl := fun s => [some (.typed 36 (.flt .f32) p.2.1), some (.typed 9 .str p.2.2)], ex := fun r => match r with | .inl r => .ret | .inr r => .exit 2, otl := fun r => match r with | .inl r => [.junk, .junk, .nils, .bool false] | .inr r => [.junk, .junk, .junk, .junk, .own 0, .own 1, .int .i64 p.1, .int .i64 r], ohl := fun r => match r with | .inl r => [] | .inr r => [some (.typed 36 (.flt .f32) p.2.1), some (.typed 9 .str p.2.2)] }
def spec_l01NRead_loop1_ext : St → Option ((Int × List Nat × List (List UInt8)) × (Int × Int) × List Nat) := fun S => match (S.tm 4).unK, (S.tm 5).unK, (S.tm 6).unK, (S.tm 7).unK, (S.tm 8).unK with
  | .own i0, .own i1, .int .i64 q0, .int .i64 q1, .int .i64 q2 => (match S.hp i0 with
    | some (.typed 36 (.flt .f32) q3) => (match S.hp i1 with
    | some (.typed 9 .str q4) => (if nodup [i0, i1] = true then some ((q0, q3, q4), (q1, q2), [i0, i1]) else none)
    | _ => none)
    | _ => none)
  | _, _, _, _, _ => none
def spec_l01NRead_loop1_post (p : Int × List Nat × List (List UInt8)) (r : (Unit) ⊕ (Int)) : DT (Ex × St) := .ask (isL r) (.leaf (.ret, LSt [.junk, .junk, .nils, .bool false] [])) (.leaf (.exit 2, LSt [.junk, .junk, .junk, .junk, .own 0, .own 1, .int .i64 p.1, .int .i64 ((rightD r))] [some (.typed 36 (.flt .f32) p.2.1), some (.typed 9 .str p.2.2)]))
def spec_l01NRead_loop1 (p : Int × List Nat × List (List UInt8)) (s : Int × Int) : (Unit) ⊕ (Int) := loopVal (spec_l01NRead_loop1_step p) s
def spec_l01NRead_loop1_ends (p : Int × List Nat × List (List UInt8)) (s : Int × Int) : Bool := loopEnds (spec_l01NRead_loop1_step p) s
def spec_l01NRead_loop1_F : LoopF := loopF spec_l01NRead_loop1_step spec_l01NRead_loop1_ext spec_l01NRead_loop1_post
theorem spec_l01NRead_loop1_hext : ∀ S p s fl, spec_l01NRead_loop1_ext S = some (p, s, fl) → Norm S fl ((spec_l01NRead_loop1_L p).tl s) ((spec_l01NRead_loop1_L p).hl s) (spec_l01NRead_loop1_L p).gl := by
  intro S p s fl h
  unfold spec_l01NRead_loop1_ext at h
  (repeat' split at h) <;> first
    | (cases h; constructor <;> simp_all [spec_l01NRead_loop1_L, keepT, keepH, rens, renH, PV.ren, Blk.ren, fOf, lget, nodup, natIn, lenEq, gtm, PV.unK])
    | cases h
theorem spec_l01NRead_loop1_hpost : ∀ p r e S', (spec_l01NRead_loop1_post p r).get = some (e, S') → e = (spec_l01NRead_loop1_L p).ex r ∧ S' = LSt ((spec_l01NRead_loop1_L p).otl r) ((spec_l01NRead_loop1_L p).ohl r) ((spec_l01NRead_loop1_L p).ogl r) := by
  intro p r e S' h
  unfold spec_l01NRead_loop1_post at h
  cases r <;> (simp only [isL, DT.get, Option.some.injEq, Prod.mk.injEq] at h; exact ⟨h.1.symm, h.2.symm⟩)

/-- a loop of spec_l01NRead -/
def spec_l01NRead_loop0_step (p : List (List UInt8)) (s : Int × List Nat) : Round (Int × List Nat) ((Unit) ⊕ (List Nat)) :=
  let x0 := ((List.length p : Nat) : Int);
  let x1 := decide (s.1 < x0);
  .ask x1
  (
   .need ((decide (0 ≤ s.1) && decide (s.1 < ((List.length p : Nat) : Int)))) (
   .need ((decide ((Int.toNat s.1) < List.length p))) (
   let x2 := List.getD p (Int.toNat s.1) default;
   let x3 := ((List.length x2 : Nat) : Int);
   let x4 := (x3 != 8);
   .ask x4
   (
    .leaf (.inr (.inl ()), []))
   (
    .need ((spec_l01NRead_loop1_ends (s.1, s.2, p) (0, 0))) (
    let x5 := spec_l01NRead_loop1 (s.1, s.2, p) (0, 0);
    .ask ((isL x5))
    (
     .leaf (.inr (.inl ()), []))
    (
     let x6 := spec_l01From ((rightD x5));
     .need ((spec_l01Bits_need x6)) (
     let x7 := spec_l01Bits x6;
     let x8 := (x7 != (rightD x5));
     .ask x8
     (
      .leaf (.inr (.inl ()), []))
     (
      .need ((decide ((List.length s.2 + List.length [x6]) * 4 ≤ 140737488355328) && decide (List.length s.2 + List.length [x6] ≤ 9223372036854775807))) (
      let x9 := s.2 ++ [x6];
      let x10 := IntKind.wrap .i64 (s.1 + 1);
      .leaf (.inl (x10, x9), [82, 1]))))))))))
  (
   .leaf (.inr (.inr s.2), [0]))
def spec_l01NRead_loop0_L (p : List (List UInt8)) : LoopS (Int × List Nat) ((Unit) ⊕ (List Nat)) := { tl := fun s => [.junk, .junk, .junk, .junk, .own 0, .own 1, .int .i64 s.1], hl := fun s => [some (.typed 36 (.flt .f32) s.2), some (.typed 9 .str p)], ex := fun r => match r with | .inl r => .ret | .inr r => .exit 0, otl := fun r => match r with | .inl r => [.junk, .junk, .nils, .bool false] | .inr r => [.junk, .junk, .junk, .junk, .own 0], ohl := fun r => match r with | .inl r => [] | .inr r => [some (.typed 36 (.flt .f32) r)] }
def spec_l01NRead_loop0_ext : St → Option ((List (List UInt8)) × (Int × List Nat) × List Nat) := fun S => match (S.tm 4).unK, (S.tm 5).unK, (S.tm 6).unK with
  | .own i0, .own i1, .int .i64 q0 => (match S.hp i0 with
    | some (.typed 36 (.flt .f32) q1) => (match S.hp i1 with
    | some (.typed 9 .str q2) => (if nodup [i0, i1] = true then some (q2, (q0, q1), [i0, i1]) else none)
    | _ => none)
    | _ => none)
  | _, _, _ => none
def spec_l01NRead_loop0_post (p : List (List UInt8)) (r : (Unit) ⊕ (List Nat)) : DT (Ex × St) := .ask (isL r) (.leaf (.ret, LSt [.junk, .junk, .nils, .bool false] [])) (.leaf (.exit 0, LSt [.junk, .junk, .junk, .junk, .own 0] [some (.typed 36 (.flt .f32) ((rightD r)))]))
def spec_l01NRead_loop0 (p : List (List UInt8)) (s : Int × List Nat) : (Unit) ⊕ (List Nat) := loopVal (spec_l01NRead_loop0_step p) s
def spec_l01NRead_loop0_ends (p : List (List UInt8)) (s : Int × List Nat) : Bool := loopEnds (spec_l01NRead_loop0_step p) s
def spec_l01NRead_loop0_F : LoopF := loopF spec_l01NRead_loop0_step spec_l01NRead_loop0_ext spec_l01NRead_loop0_post
theorem spec_l01NRead_loop0_hext : ∀ S p s fl, spec_l01NRead_loop0_ext S = some (p, s, fl) → Norm S fl ((spec_l01NRead_loop0_L p).tl s) ((spec_l01NRead_loop0_L p).hl s) (spec_l01NRead_loop0_L p).gl := by
  intro S p s fl h
  unfold spec_l01NRead_loop0_ext at h
  (repeat' split at h) <;> first
    | (cases h; constructor <;> simp_all [spec_l01NRead_loop0_L, keepT, keepH, rens, renH, PV.ren, Blk.ren, fOf, lget, nodup, natIn, lenEq, gtm, PV.unK])
    | cases h
theorem spec_l01NRead_loop0_hpost : ∀ p r e S', (spec_l01NRead_loop0_post p r).get = some (e, S') → e = (spec_l01NRead_loop0_L p).ex r ∧ S' = LSt ((spec_l01NRead_loop0_L p).otl r) ((spec_l01NRead_loop0_L p).ohl r) ((spec_l01NRead_loop0_L p).ogl r) := by
  intro p r e S' h
  unfold spec_l01NRead_loop0_post at h
  cases r <;> (simp only [isL, DT.get, Option.some.injEq, Prod.mk.injEq] at h; exact ⟨h.1.symm, h.2.symm⟩)

def spec_l01NRead_loops : Nat → Option LoopF := loopTab [(14, spec_l01NRead_loop1_F), (8, spec_l01NRead_loop0_F)]
set_option maxRecDepth 100000 in
theorem spec_l01NRead_l1 : LoopOK Tryz.prog ⟨gam [(29, spec_l01Cut_c), (53, spec_l01From_c), (54, spec_l01Bits_c)], tab, 79, spec_l01NRead_loops⟩ (lp Tryz.f37 1) :=
  loopOK_some (F := spec_l01NRead_loop1_F) (by kernel_rfl) (loopF_ok (E := ⟨gam [(29, spec_l01Cut_c), (53, spec_l01From_c), (54, spec_l01Bits_c)], tab, 79, spec_l01NRead_loops⟩) ⟨gam_cons spec_l01Cut_ok (gam_cons spec_l01From_ok (gam_cons spec_l01Bits_ok (gam_nil))), tab_ok, by kernel_rfl⟩ (fuel := 100000) (loopsOK_list (l := []) (by kernel_rfl) trivial) (L := spec_l01NRead_loop1_L) (fun p s => by unfold AgreeL; exact ⟨by kernel_rfl, by kernel_rfl⟩) (fun _ r h => by cases r <;> exact Ex.noConfusion h) spec_l01NRead_loop1_hext spec_l01NRead_loop1_hpost)
set_option maxRecDepth 100000 in
theorem spec_l01NRead_l0 : LoopOK Tryz.prog ⟨gam [(29, spec_l01Cut_c), (53, spec_l01From_c), (54, spec_l01Bits_c)], tab, 79, spec_l01NRead_loops⟩ (lp Tryz.f37 0) :=
  loopOK_some (F := spec_l01NRead_loop0_F) (by kernel_rfl) (loopF_ok (E := ⟨gam [(29, spec_l01Cut_c), (53, spec_l01From_c), (54, spec_l01Bits_c)], tab, 79, spec_l01NRead_loops⟩) ⟨gam_cons spec_l01Cut_ok (gam_cons spec_l01From_ok (gam_cons spec_l01Bits_ok (gam_nil))), tab_ok, by kernel_rfl⟩ (fuel := 100000) (loopsOK_list (l := [lp Tryz.f37 1]) (by kernel_rfl) ⟨spec_l01NRead_l1, trivial⟩) (L := spec_l01NRead_loop0_L) (fun p s => by unfold AgreeL; exact ⟨by kernel_rfl, by kernel_rfl⟩) (fun _ r h => by cases r <;> exact Ex.noConfusion h) spec_l01NRead_loop0_hext spec_l01NRead_loop0_hpost)
/-- loop.example/g01284/spec.l01NRead -/
def spec_l01NRead_tree (a0 : (List UInt8)) : DT ((List Nat) ⊕ (Unit)) :=
  let x0 := (a0 == [110, 111, 110, 101]);
  .ask x0
  (
   .leaf (.inl []))
  (
   .need ((spec_l01Cut_need a0 44)) (
   let x1 := spec_l01Cut a0 44;
   let x2 := ((List.length x1 : Nat) : Int);
   let x3 := decide (x2 > 256);
   .ask x3
   (
    .leaf (.inr ()))
   (
    .need ((spec_l01NRead_loop0_ends x1 (0, []))) (
    let x4 := spec_l01NRead_loop0 x1 (0, []);
    .ask ((isL x4))
    (
     .leaf (.inr ()))
    (
     .leaf (.inl ((rightD x4))))))))
def spec_l01NRead (a0 : (List UInt8)) : (List Nat) ⊕ (Unit) := (spec_l01NRead_tree a0).val
def spec_l01NRead_need (a0 : (List UInt8)) : Bool := (spec_l01NRead_tree a0).ok
def spec_l01NRead_mk0 (p : List Nat) : Ret := ⟨.tup [.own 0, .bool true], [.typed 36 (.flt .f32) p]⟩
def spec_l01NRead_mk1 (p : Unit) : Ret := ⟨.tup [.nils, .bool false], []⟩
def spec_l01NRead_mk : (List Nat) ⊕ (Unit) → Ret := fun v => match v with
  | (.inl p) => spec_l01NRead_mk0 p
  | (.inr p) => spec_l01NRead_mk1 p
def spec_l01NRead_forms (v : (List Nat) ⊕ (Unit)) : DT Ret := .ask (isL v) (.leaf (spec_l01NRead_mk0 (leftD v))) (.leaf (spec_l01NRead_mk1 (rightD v)))
theorem spec_l01NRead_forms_get : ∀ v, (spec_l01NRead_forms v).get = some (spec_l01NRead_mk v) := by
  intro v
  rcases v with v | v <;> rfl
def spec_l01NRead_c : Con := fun args => match args with
  | [.str a0] => some (.need (spec_l01NRead_need a0) (spec_l01NRead_forms (spec_l01NRead a0)))
  | _ => none
set_option maxRecDepth 100000 in
theorem spec_l01NRead_ok : FunOK Tryz.prog 37 spec_l01NRead_c.fn := by
  refine con_ok (Γ := gam [(29, spec_l01Cut_c), (53, spec_l01From_c), (54, spec_l01Bits_c)]) (gam_cons spec_l01Cut_ok (gam_cons spec_l01From_ok (gam_cons spec_l01Bits_ok (gam_nil)))) tab_ok (by kernel_rfl) Tryz.func37 (by kernel_rfl) (by kernel_rfl) Tryz.ntmps37 Tryz.results37 (loops := spec_l01NRead_loops) (loopsOK_list (l := [lp Tryz.f37 0, lp Tryz.f37 1]) (by kernel_rfl) ⟨spec_l01NRead_l0, ⟨spec_l01NRead_l1, trivial⟩⟩) 100000 fun args t h => ?_
  unfold spec_l01NRead_c at h
  split at h
  · rename_i a0
    cases h
    exact ⟨rfl, agree_forms (mk := spec_l01NRead_mk) (t := spec_l01NRead_tree a0) (by unfold Agree; kernel_rfl) (fun h => h) (spec_l01NRead_forms_get _)⟩
  · cases h

/-- loop.example/g01284/spec.l01VRead -/
def spec_l01VRead_tree (a0 : (List UInt8)) : DT (Vec × Bool) :=
  .need ((spec_l01NRead_need a0)) (
  let x0 := spec_l01NRead a0;
  .ask ((isL x0))
  (
   .skip (
   .skip (
   let x1 := ((List.length (leftD x0) : Nat) : Int);
   .skip (
   let x2 := (x1 != 3);
   .skip (
   .ask x2
   (
    .leaf ((⟨0, 0, 0⟩ : Vec), false))
   (
    .need ((decide (0 ≤ 0) && decide (0 < ((List.length (leftD x0) : Nat) : Int)))) (
    .need ((decide (0 < List.length (leftD x0)))) (
    let x3 := List.getD (leftD x0) 0 default;
    .need ((decide (0 ≤ 1) && decide (1 < ((List.length (leftD x0) : Nat) : Int)))) (
    .need ((decide (1 < List.length (leftD x0)))) (
    let x4 := List.getD (leftD x0) 1 default;
    .need ((decide (0 ≤ 2) && decide (2 < ((List.length (leftD x0) : Nat) : Int)))) (
    .need ((decide (2 < List.length (leftD x0)))) (
    let x5 := List.getD (leftD x0) 2 default;
    .leaf ((⟨x3, x4, x5⟩ : Vec), true)))))))))))))
  (
   .skip (
   .skip (
   .skip (
   .skip (
   .leaf ((⟨0, 0, 0⟩ : Vec), false)))))))
def spec_l01VRead (a0 : (List UInt8)) : Vec × Bool := (spec_l01VRead_tree a0).val
def spec_l01VRead_need (a0 : (List UInt8)) : Bool := (spec_l01VRead_tree a0).ok
def spec_l01VRead_mk (p : Vec × Bool) : Ret := ⟨.tup [.agg [.flt .f32 p.1.X, .flt .f32 p.1.Y, .flt .f32 p.1.Z], .bool p.2], []⟩
def spec_l01VRead_c : Con := fun args => match args with
  | [.str a0] => some (.need (spec_l01VRead_need a0) (.leaf (spec_l01VRead_mk (spec_l01VRead a0))))
  | _ => none
set_option maxRecDepth 100000 in
theorem spec_l01VRead_ok : FunOK Tryz.prog 30 spec_l01VRead_c.fn := by
  refine con_ok (Γ := gam [(37, spec_l01NRead_c)]) (gam_cons spec_l01NRead_ok (gam_nil)) tab_ok (by kernel_rfl) Tryz.func30 (by kernel_rfl) (by kernel_rfl) Tryz.ntmps30 Tryz.results30 (loopsOK_none rfl _) 100000 fun args t h => ?_
  unfold spec_l01VRead_c at h
  split at h
  · rename_i a0
    cases h
    exact ⟨rfl, agree_need (mk := spec_l01VRead_mk) (t := spec_l01VRead_tree a0) (by unfold Agree; kernel_rfl)⟩
  · cases h

/-- loop.example/g01284/spec.l08Number -/
def spec_l08Number_tree (a0 : (List UInt8)) : DT (Nat × Bool) :=
  .need ((spec_l01NRead_need a0)) (
  let x0 := spec_l01NRead a0;
  .ask ((isL x0))
  (
   .skip (
   .skip (
   let x1 := ((List.length (leftD x0) : Nat) : Int);
   .skip (
   let x2 := (x1 != 1);
   .skip (
   .ask x2
   (
    .leaf (0, false))
   (
    .need ((decide (0 ≤ 0) && decide (0 < ((List.length (leftD x0) : Nat) : Int)))) (
    .need ((decide (0 < List.length (leftD x0)))) (
    let x3 := List.getD (leftD x0) 0 default;
    .leaf (x3, true)))))))))
  (
   .skip (
   .skip (
   .skip (
   .skip (
   .leaf (0, false)))))))
def spec_l08Number (a0 : (List UInt8)) : Nat × Bool := (spec_l08Number_tree a0).val
def spec_l08Number_need (a0 : (List UInt8)) : Bool := (spec_l08Number_tree a0).ok
def spec_l08Number_mk (p : Nat × Bool) : Ret := ⟨.tup [.flt .f32 p.1, .bool p.2], []⟩
def spec_l08Number_c : Con := fun args => match args with
  | [.str a0] => some (.need (spec_l08Number_need a0) (.leaf (spec_l08Number_mk (spec_l08Number a0))))
  | _ => none
set_option maxRecDepth 100000 in
theorem spec_l08Number_ok : FunOK Tryz.prog 31 spec_l08Number_c.fn := by
  refine con_ok (Γ := gam [(37, spec_l01NRead_c)]) (gam_cons spec_l01NRead_ok (gam_nil)) tab_ok (by kernel_rfl) Tryz.func31 (by kernel_rfl) (by kernel_rfl) Tryz.ntmps31 Tryz.results31 (loopsOK_none rfl _) 100000 fun args t h => ?_
  unfold spec_l08Number_c at h
  split at h
  · rename_i a0
    cases h
    exact ⟨rfl, agree_need (mk := spec_l08Number_mk) (t := spec_l08Number_tree a0) (by unfold Agree; kernel_rfl)⟩
  · cases h

/-- loop.example/g01284/spec.l01Finite -/
def spec_l01Finite_tree (a0 : Nat) : DT (Bool) :=
  let x0 := fsub .f32 a0 a0;
  let x1 := feq .f32 x0 0;
  .leaf x1
def spec_l01Finite (a0 : Nat) : Bool := (spec_l01Finite_tree a0).val
def spec_l01Finite_mk (p : Bool) : Ret := ⟨.bool p, []⟩
def spec_l01Finite_c : Con := fun args => match args with
  | [.flt .f32 a0] => some (.leaf (spec_l01Finite_mk (spec_l01Finite a0)))
  | _ => none
set_option maxRecDepth 100000 in
theorem spec_l01Finite_ok : FunOK Tryz.prog 94 spec_l01Finite_c.fn := by
  refine con_ok (Γ := gam []) (gam_nil) tab_ok (by kernel_rfl) Tryz.func94 (by kernel_rfl) (by kernel_rfl) Tryz.ntmps94 Tryz.results94 (loopsOK_none rfl _) 100000 fun args t h => ?_
  unfold spec_l01Finite_c at h
  split at h
  · rename_i a0
    cases h
    exact ⟨rfl, agree_tot (mk := spec_l01Finite_mk) (t := spec_l01Finite_tree a0) (by unfold Agree; kernel_rfl) (by kernel_rfl)⟩
  · cases h

/-- loop.example/g01284/spec.l01VFinite -/
def spec_l01VFinite_tree (a0 : Vec) : DT (Bool) :=
  let x0 := spec_l01Finite a0.X;
  .ask x0
  (
   let x1 := spec_l01Finite a0.Y;
   .ask x1
   (
    let x2 := spec_l01Finite a0.Z;
    .leaf x2)
   (
    .leaf false))
  (
   .leaf false)
def spec_l01VFinite (a0 : Vec) : Bool := (spec_l01VFinite_tree a0).val
def spec_l01VFinite_mk (p : Bool) : Ret := ⟨.bool p, []⟩
def spec_l01VFinite_c : Con := fun args => match args with
  | [.agg [.flt .f32 a0_0, .flt .f32 a0_1, .flt .f32 a0_2]] => some (.leaf (spec_l01VFinite_mk (spec_l01VFinite (⟨a0_0, a0_1, a0_2⟩ : Vec))))
  | _ => none
set_option maxRecDepth 100000 in
theorem spec_l01VFinite_ok : FunOK Tryz.prog 87 spec_l01VFinite_c.fn := by
  refine con_ok (Γ := gam [(94, spec_l01Finite_c)]) (gam_cons spec_l01Finite_ok (gam_nil)) tab_ok (by kernel_rfl) Tryz.func87 (by kernel_rfl) (by kernel_rfl) Tryz.ntmps87 Tryz.results87 (loopsOK_none rfl _) 100000 fun args t h => ?_
  unfold spec_l01VFinite_c at h
  split at h
  · rename_i a0_0 a0_1 a0_2
    cases h
    exact ⟨rfl, agree_tot (mk := spec_l01VFinite_mk) (t := spec_l01VFinite_tree (⟨a0_0, a0_1, a0_2⟩ : Vec)) (by unfold Agree; kernel_rfl) (by kernel_rfl)⟩
  · cases h

/-- loop.example/g01284/spec.l02Least -/
def spec_l02Least_tree (a0 : Nat) : DT (Bool) :=
  let x0 := spec_l01Finite a0;
  .ask x0
  (
   let x1 := fge .f32 a0 0;
   .leaf x1)
  (
   .leaf false)
def spec_l02Least (a0 : Nat) : Bool := (spec_l02Least_tree a0).val
def spec_l02Least_mk (p : Bool) : Ret := ⟨.bool p, []⟩
def spec_l02Least_c : Con := fun args => match args with
  | [.flt .f32 a0] => some (.leaf (spec_l02Least_mk (spec_l02Least a0)))
  | _ => none
set_option maxRecDepth 100000 in
theorem spec_l02Least_ok : FunOK Tryz.prog 88 spec_l02Least_c.fn := by
  refine con_ok (Γ := gam [(94, spec_l01Finite_c)]) (gam_cons spec_l01Finite_ok (gam_nil)) tab_ok (by kernel_rfl) Tryz.func88 (by kernel_rfl) (by kernel_rfl) Tryz.ntmps88 Tryz.results88 (loopsOK_none rfl _) 100000 fun args t h => ?_
  unfold spec_l02Least_c at h
  split at h
  · rename_i a0
    cases h
    exact ⟨rfl, agree_tot (mk := spec_l02Least_mk) (t := spec_l02Least_tree a0) (by unfold Agree; kernel_rfl) (by kernel_rfl)⟩
  · cases h

/-- loop.example/g01284/spec.l02Body -/
def spec_l02Body_tree (a0 : Body) : DT (Bool) :=
  let x0 := spec_l01VFinite (⟨a0.At.X, a0.At.Y, a0.At.Z⟩ : Vec);
  .ask x0
  (
   let x1 := spec_l01VFinite (⟨a0.Speed.X, a0.Speed.Y, a0.Speed.Z⟩ : Vec);
   .ask x1
   (
    let x2 := spec_l02Least a0.Mass;
    .leaf x2)
   (
    .leaf false))
  (
   .leaf false)
def spec_l02Body (a0 : Body) : Bool := (spec_l02Body_tree a0).val
def spec_l02Body_mk (p : Bool) : Ret := ⟨.bool p, []⟩
def spec_l02Body_c0 : Con := fun args => match args with
  | [.vcell [.flt .f32 a0_0, .flt .f32 a0_1, .flt .f32 a0_2, .flt .f32 a0_3, .flt .f32 a0_4, .flt .f32 a0_5, .flt .f32 a0_6] 0] => some (.leaf (spec_l02Body_mk (spec_l02Body (⟨⟨a0_0, a0_1, a0_2⟩, ⟨a0_3, a0_4, a0_5⟩, a0_6⟩ : Body))))
  | _ => none
set_option maxRecDepth 100000 in
theorem spec_l02Body_ok0 : FunOK Tryz.prog 63 spec_l02Body_c0.fn := by
  refine con_ok (Γ := gam [(87, spec_l01VFinite_c), (88, spec_l02Least_c)]) (gam_cons spec_l01VFinite_ok (gam_cons spec_l02Least_ok (gam_nil))) tab_ok (by kernel_rfl) Tryz.func63 (by kernel_rfl) (by kernel_rfl) Tryz.ntmps63 Tryz.results63 (loopsOK_none rfl _) 100000 fun args t h => ?_
  unfold spec_l02Body_c0 at h
  split at h
  · rename_i a0_0 a0_1 a0_2 a0_3 a0_4 a0_5 a0_6
    cases h
    exact ⟨rfl, agree_tot (mk := spec_l02Body_mk) (t := spec_l02Body_tree (⟨⟨a0_0, a0_1, a0_2⟩, ⟨a0_3, a0_4, a0_5⟩, a0_6⟩ : Body)) (by unfold Agree; kernel_rfl) (by kernel_rfl)⟩
  · cases h
def spec_l02Body_c : Con := fun args => spec_l02Body_c0 (norms 0 [.ptr 7] args)
set_option maxRecDepth 100000 in
theorem spec_l02Body_ok : FunOK Tryz.prog 63 spec_l02Body_c.fn := con_norm [.ptr 7] spec_l02Body_ok0

/-- a loop of spec_l02Are -/
def spec_l02Are_loop0_step (p : List Body) (s : Int) : Round (Int) ((Unit) ⊕ (Unit)) :=
  let x0 := ((List.length p : Nat) : Int);
  let x1 := decide (s < x0);
  .ask x1
  (
   let x2 := ((List.length p : Nat) : Int);
   let x3 := decide (x2 ≤ 16);
   .ask x3
   (
    .need ((decide (0 ≤ s) && decide (s < ((List.length p : Nat) : Int)))) (
    let x4 := List.getD p (Int.toNat s) default;
    let x5 := spec_l02Body (⟨⟨x4.At.X, x4.At.Y, x4.At.Z⟩, ⟨x4.Speed.X, x4.Speed.Y, x4.Speed.Z⟩, x4.Mass⟩ : Body);
    .ask (!x5)
    (
     .leaf (.inr (.inl ()), []))
    (
     let x6 := IntKind.wrap .i64 (s + 1);
     .leaf (.inl x6, []))))
   (
    .leaf (.inr (.inr ()), [])))
  (
   .leaf (.inr (.inr ()), []))
def spec_l02Are_loop0_L (p : List Body) : LoopS (Int) ((Unit) ⊕ (Unit)) := { tl := fun s => [.vslc 1 .body p, .junk, .junk, .int .i64 s], hl := fun s => [], ex := fun r => match r with | .inl r => .ret | .inr r => .exit 0, otl := fun r => match r with | .inl r => [.junk, .junk, .bool false] | .inr r => [.vslc 1 .body p], ohl := fun r => match r with | .inl r => [] | .inr r => [] }
def spec_l02Are_loop0_ext : St → Option ((List Body) × (Int) × List Nat) := fun S => match (S.tm 0).unK, (S.tm 3).unK with
  | .vslc 1 .body q0, .int .i64 q1 => some (q0, q1, [])
  | _, _ => none
def spec_l02Are_loop0_post (p : List Body) (r : (Unit) ⊕ (Unit)) : DT (Ex × St) := .ask (isL r) (.leaf (.ret, LSt [.junk, .junk, .bool false] [])) (.leaf (.exit 0, LSt [.vslc 1 .body p] []))
def spec_l02Are_loop0 (p : List Body) (s : Int) : (Unit) ⊕ (Unit) := loopVal (spec_l02Are_loop0_step p) s
def spec_l02Are_loop0_ends (p : List Body) (s : Int) : Bool := loopEnds (spec_l02Are_loop0_step p) s
def spec_l02Are_loop0_F : LoopF := loopF spec_l02Are_loop0_step spec_l02Are_loop0_ext spec_l02Are_loop0_post
theorem spec_l02Are_loop0_hext : ∀ S p s fl, spec_l02Are_loop0_ext S = some (p, s, fl) → Norm S fl ((spec_l02Are_loop0_L p).tl s) ((spec_l02Are_loop0_L p).hl s) (spec_l02Are_loop0_L p).gl := by
  intro S p s fl h
  unfold spec_l02Are_loop0_ext at h
  (repeat' split at h) <;> first
    | (cases h; constructor <;> simp_all [spec_l02Are_loop0_L, keepT, keepH, rens, renH, PV.ren, Blk.ren, fOf, lget, nodup, natIn, lenEq, gtm, PV.unK])
    | cases h
theorem spec_l02Are_loop0_hpost : ∀ p r e S', (spec_l02Are_loop0_post p r).get = some (e, S') → e = (spec_l02Are_loop0_L p).ex r ∧ S' = LSt ((spec_l02Are_loop0_L p).otl r) ((spec_l02Are_loop0_L p).ohl r) ((spec_l02Are_loop0_L p).ogl r) := by
  intro p r e S' h
  unfold spec_l02Are_loop0_post at h
  cases r <;> (simp only [isL, DT.get, Option.some.injEq, Prod.mk.injEq] at h; exact ⟨h.1.symm, h.2.symm⟩)

def spec_l02Are_loops : Nat → Option LoopF := loopTab [(2, spec_l02Are_loop0_F)]
set_option maxRecDepth 100000 in
theorem spec_l02Are_l0 : LoopOK Tryz.prog ⟨gam [(63, spec_l02Body_c)], tab, 23, spec_l02Are_loops⟩ (lp Tryz.f45 0) :=
  loopOK_some (F := spec_l02Are_loop0_F) (by kernel_rfl) (loopF_ok (E := ⟨gam [(63, spec_l02Body_c)], tab, 23, spec_l02Are_loops⟩) ⟨gam_cons spec_l02Body_ok (gam_nil), tab_ok, by kernel_rfl⟩ (fuel := 100000) (loopsOK_list (l := []) (by kernel_rfl) trivial) (L := spec_l02Are_loop0_L) (fun p s => by unfold AgreeL; exact ⟨by kernel_rfl, by kernel_rfl⟩) (fun _ r h => by cases r <;> exact Ex.noConfusion h) spec_l02Are_loop0_hext spec_l02Are_loop0_hpost)
/-- loop.example/g01284/spec.l02Are -/
def spec_l02Are_tree (a0 : List Body) : DT (Bool) :=
  .need ((spec_l02Are_loop0_ends a0 0)) (
  let x0 := spec_l02Are_loop0 a0 0;
  .ask ((isL x0))
  (
   .leaf false)
  (
   let x1 := ((List.length a0 : Nat) : Int);
   let x2 := decide (x1 ≤ 16);
   .leaf x2))
def spec_l02Are (a0 : List Body) : Bool := (spec_l02Are_tree a0).val
def spec_l02Are_need (a0 : List Body) : Bool := (spec_l02Are_tree a0).ok
def spec_l02Are_mk (p : Bool) : Ret := ⟨.bool p, []⟩
def spec_l02Are_c0 : Con := fun args => match args with
  | [.vslc 1 .body a0] => some (.need (spec_l02Are_need a0) (.leaf (spec_l02Are_mk (spec_l02Are a0))))
  | _ => none
set_option maxRecDepth 100000 in
theorem spec_l02Are_ok0 : FunOK Tryz.prog 45 spec_l02Are_c0.fn := by
  refine con_ok (Γ := gam [(63, spec_l02Body_c)]) (gam_cons spec_l02Body_ok (gam_nil)) tab_ok (by kernel_rfl) Tryz.func45 (by kernel_rfl) (by kernel_rfl) Tryz.ntmps45 Tryz.results45 (loops := spec_l02Are_loops) (loopsOK_list (l := [lp Tryz.f45 0]) (by kernel_rfl) ⟨spec_l02Are_l0, trivial⟩) 100000 fun args t h => ?_
  unfold spec_l02Are_c0 at h
  split at h
  · rename_i a0
    cases h
    exact ⟨rfl, agree_need (mk := spec_l02Are_mk) (t := spec_l02Are_tree a0) (by unfold Agree; kernel_rfl)⟩
  · cases h
def spec_l02Are_c : Con := fun args => spec_l02Are_c0 (norms 0 [.slc .body] args)
set_option maxRecDepth 100000 in
theorem spec_l02Are_ok : FunOK Tryz.prog 45 spec_l02Are_c.fn := con_norm [.slc .body] spec_l02Are_ok0

/-- loop.example/g01284/spec.l02Give -/
def spec_l02Give_tree (a0 : List Body) : DT ((Unit) ⊕ (List Body)) :=
  .need ((spec_l02Are_need a0)) (
  let x0 := spec_l02Are a0;
  .ask (!x0)
  (
   .leaf (.inl ()))
  (
   .leaf (.inr a0)))
def spec_l02Give (a0 : List Body) : (Unit) ⊕ (List Body) := (spec_l02Give_tree a0).val
def spec_l02Give_need (a0 : List Body) : Bool := (spec_l02Give_tree a0).ok
def spec_l02Give_mk0 (p : Unit) : Ret := ⟨.tup [.nils, .bool false], []⟩
def spec_l02Give_mk1 (p : List Body) : Ret := ⟨.tup [.vslc 1 .body p, .bool true], []⟩
def spec_l02Give_mk : (Unit) ⊕ (List Body) → Ret := fun v => match v with
  | (.inl p) => spec_l02Give_mk0 p
  | (.inr p) => spec_l02Give_mk1 p
def spec_l02Give_forms (v : (Unit) ⊕ (List Body)) : DT Ret := .ask (isL v) (.leaf (spec_l02Give_mk0 (leftD v))) (.leaf (spec_l02Give_mk1 (rightD v)))
theorem spec_l02Give_forms_get : ∀ v, (spec_l02Give_forms v).get = some (spec_l02Give_mk v) := by
  intro v
  rcases v with v | v <;> rfl
def spec_l02Give_c0 : Con := fun args => match args with
  | [.vslc 1 .body a0] => some (.need (spec_l02Give_need a0) (spec_l02Give_forms (spec_l02Give a0)))
  | _ => none
set_option maxRecDepth 100000 in
theorem spec_l02Give_ok0 : FunOK Tryz.prog 32 spec_l02Give_c0.fn := by
  refine con_ok (Γ := gam [(45, spec_l02Are_c)]) (gam_cons spec_l02Are_ok (gam_nil)) tab_ok (by kernel_rfl) Tryz.func32 (by kernel_rfl) (by kernel_rfl) Tryz.ntmps32 Tryz.results32 (loopsOK_none rfl _) 100000 fun args t h => ?_
  unfold spec_l02Give_c0 at h
  split at h
  · rename_i a0
    cases h
    exact ⟨rfl, agree_forms (mk := spec_l02Give_mk) (t := spec_l02Give_tree a0) (by unfold Agree; kernel_rfl) (fun h => h) (spec_l02Give_forms_get _)⟩
  · cases h
def spec_l02Give_c : Con := fun args => spec_l02Give_c0 (norms 0 [.slc .body] args)
set_option maxRecDepth 100000 in
theorem spec_l02Give_ok : FunOK Tryz.prog 32 spec_l02Give_c.fn := con_norm [.slc .body] spec_l02Give_ok0

/-- a loop of spec_l08ReadBodies -/
def spec_l08ReadBodies_loop0_step (p : List (List UInt8)) (s : Int × List Body) : Round (Int × List Body) ((Unit) ⊕ (List Body)) :=
  let x0 := ((List.length p : Nat) : Int);
  let x1 := decide (s.1 < x0);
  .ask x1
  (
   .need ((decide (0 ≤ s.1) && decide (s.1 < ((List.length p : Nat) : Int)))) (
   .need ((decide ((Int.toNat s.1) < List.length p))) (
   let x2 := List.getD p (Int.toNat s.1) default;
   .need ((spec_l01Cut_need x2 58)) (
   let x3 := spec_l01Cut x2 58;
   let x4 := ((List.length x3 : Nat) : Int);
   let x5 := (x4 != 3);
   .ask x5
   (
    .leaf (.inr (.inl ()), []))
   (
    .need ((decide (0 ≤ 0) && decide (0 < ((List.length x3 : Nat) : Int)))) (
    .need ((decide (0 < List.length x3))) (
    let x6 := List.getD x3 0 default;
    .need ((spec_l01VRead_need x6)) (
    let x7 := spec_l01VRead x6;
    .need ((decide (0 ≤ 1) && decide (1 < ((List.length x3 : Nat) : Int)))) (
    .need ((decide (1 < List.length x3))) (
    let x8 := List.getD x3 1 default;
    .need ((spec_l01VRead_need x8)) (
    let x9 := spec_l01VRead x8;
    .need ((decide (0 ≤ 2) && decide (2 < ((List.length x3 : Nat) : Int)))) (
    .need ((decide (2 < List.length x3))) (
    let x10 := List.getD x3 2 default;
    .need ((spec_l08Number_need x10)) (
    let x11 := spec_l08Number x10;
    .ask (!x7.2)
    (
     .leaf (.inr (.inl ()), []))
    (
     .ask (!x9.2)
     (
      .leaf (.inr (.inl ()), []))
     (
      .ask (!x11.2)
      (
       .leaf (.inr (.inl ()), []))
      (
       .need ((decide ((List.length s.2 + List.length [(⟨⟨x7.1.X, x7.1.Y, x7.1.Z⟩, ⟨x9.1.X, x9.1.Y, x9.1.Z⟩, x11.1⟩ : Body)]) * 28 ≤ 140737488355328) && decide (List.length s.2 + List.length [(⟨⟨x7.1.X, x7.1.Y, x7.1.Z⟩, ⟨x9.1.X, x9.1.Y, x9.1.Z⟩, x11.1⟩ : Body)] ≤ 9223372036854775807))) (
       let x12 := s.2 ++ [(⟨⟨x7.1.X, x7.1.Y, x7.1.Z⟩, ⟨x9.1.X, x9.1.Y, x9.1.Z⟩, x11.1⟩ : Body)];
       let x13 := IntKind.wrap .i64 (s.1 + 1);
       .leaf (.inl (x13, x12), [466, 1])))))))))))))))))))
  (
   .leaf (.inr (.inr s.2), [0]))
def spec_l08ReadBodies_loop0_L (p : List (List UInt8)) : LoopS (Int × List Body) ((Unit) ⊕ (List Body)) := { tl := fun s => [.junk, .junk, .junk, .junk, .own 0, .own 1, .int .i64 s.1], hl := fun s => [some (.typed 44 .body s.2), some (.typed 9 .str p)], ex := fun r => match r with | .inl r => .ret | .inr r => .exit 0, otl := fun r => match r with | .inl r => [.junk, .junk, .nils, .bool false] | .inr r => [.junk, .junk, .junk, .junk, .own 0], ohl := fun r => match r with | .inl r => [] | .inr r => [some (.typed 44 .body r)] }
def spec_l08ReadBodies_loop0_ext : St → Option ((List (List UInt8)) × (Int × List Body) × List Nat) := fun S => match (S.tm 4).unK, (S.tm 5).unK, (S.tm 6).unK with
  | .own i0, .own i1, .int .i64 q0 => (match S.hp i0 with
    | some (.typed 44 .body q1) => (match S.hp i1 with
    | some (.typed 9 .str q2) => (if nodup [i0, i1] = true then some (q2, (q0, q1), [i0, i1]) else none)
    | _ => none)
    | _ => none)
  | _, _, _ => none
def spec_l08ReadBodies_loop0_post (p : List (List UInt8)) (r : (Unit) ⊕ (List Body)) : DT (Ex × St) := .ask (isL r) (.leaf (.ret, LSt [.junk, .junk, .nils, .bool false] [])) (.leaf (.exit 0, LSt [.junk, .junk, .junk, .junk, .own 0] [some (.typed 44 .body ((rightD r)))]))
def spec_l08ReadBodies_loop0 (p : List (List UInt8)) (s : Int × List Body) : (Unit) ⊕ (List Body) := loopVal (spec_l08ReadBodies_loop0_step p) s
def spec_l08ReadBodies_loop0_ends (p : List (List UInt8)) (s : Int × List Body) : Bool := loopEnds (spec_l08ReadBodies_loop0_step p) s
def spec_l08ReadBodies_loop0_F : LoopF := loopF spec_l08ReadBodies_loop0_step spec_l08ReadBodies_loop0_ext spec_l08ReadBodies_loop0_post
theorem spec_l08ReadBodies_loop0_hext : ∀ S p s fl, spec_l08ReadBodies_loop0_ext S = some (p, s, fl) → Norm S fl ((spec_l08ReadBodies_loop0_L p).tl s) ((spec_l08ReadBodies_loop0_L p).hl s) (spec_l08ReadBodies_loop0_L p).gl := by
  intro S p s fl h
  unfold spec_l08ReadBodies_loop0_ext at h
  (repeat' split at h) <;> first
    | (cases h; constructor <;> simp_all [spec_l08ReadBodies_loop0_L, keepT, keepH, rens, renH, PV.ren, Blk.ren, fOf, lget, nodup, natIn, lenEq, gtm, PV.unK])
    | cases h
theorem spec_l08ReadBodies_loop0_hpost : ∀ p r e S', (spec_l08ReadBodies_loop0_post p r).get = some (e, S') → e = (spec_l08ReadBodies_loop0_L p).ex r ∧ S' = LSt ((spec_l08ReadBodies_loop0_L p).otl r) ((spec_l08ReadBodies_loop0_L p).ohl r) ((spec_l08ReadBodies_loop0_L p).ogl r) := by
  intro p r e S' h
  unfold spec_l08ReadBodies_loop0_post at h
  cases r <;> (simp only [isL, DT.get, Option.some.injEq, Prod.mk.injEq] at h; exact ⟨h.1.symm, h.2.symm⟩)

def spec_l08ReadBodies_loops : Nat → Option LoopF := loopTab [(6, spec_l08ReadBodies_loop0_F)]
set_option maxRecDepth 100000 in
theorem spec_l08ReadBodies_l0 : LoopOK Tryz.prog ⟨gam [(29, spec_l01Cut_c), (30, spec_l01VRead_c), (31, spec_l08Number_c), (32, spec_l02Give_c)], tab, 76, spec_l08ReadBodies_loops⟩ (lp Tryz.f15 0) :=
  loopOK_some (F := spec_l08ReadBodies_loop0_F) (by kernel_rfl) (loopF_ok (E := ⟨gam [(29, spec_l01Cut_c), (30, spec_l01VRead_c), (31, spec_l08Number_c), (32, spec_l02Give_c)], tab, 76, spec_l08ReadBodies_loops⟩) ⟨gam_cons spec_l01Cut_ok (gam_cons spec_l01VRead_ok (gam_cons spec_l08Number_ok (gam_cons spec_l02Give_ok (gam_nil)))), tab_ok, by kernel_rfl⟩ (fuel := 100000) (loopsOK_list (l := []) (by kernel_rfl) trivial) (L := spec_l08ReadBodies_loop0_L) (fun p s => by unfold AgreeL; exact ⟨by kernel_rfl, by kernel_rfl⟩) (fun _ r h => by cases r <;> exact Ex.noConfusion h) spec_l08ReadBodies_loop0_hext spec_l08ReadBodies_loop0_hpost)
/-- loop.example/g01284/spec.l08ReadBodies -/
def spec_l08ReadBodies_tree (a0 : (List UInt8)) : DT ((List Body) ⊕ (Unit)) :=
  let x0 := (a0 == [110, 111, 110, 101]);
  .ask x0
  (
   .leaf (.inl []))
  (
   .need ((spec_l01Cut_need a0 47)) (
   let x1 := spec_l01Cut a0 47;
   .need ((spec_l08ReadBodies_loop0_ends x1 (0, []))) (
   let x2 := spec_l08ReadBodies_loop0 x1 (0, []);
   .ask ((isL x2))
   (
    .leaf (.inr ()))
   (
    .need ((spec_l02Give_need ((rightD x2)))) (
    let x3 := spec_l02Give ((rightD x2));
    .ask ((isL x3))
    (
     .leaf (.inr ()))
    (
     .leaf (.inl ((rightD x2)))))))))
def spec_l08ReadBodies (a0 : (List UInt8)) : (List Body) ⊕ (Unit) := (spec_l08ReadBodies_tree a0).val
def spec_l08ReadBodies_need (a0 : (List UInt8)) : Bool := (spec_l08ReadBodies_tree a0).ok
def spec_l08ReadBodies_mk0 (p : List Body) : Ret := ⟨.tup [.own 0, .bool true], [.typed 44 .body p]⟩
def spec_l08ReadBodies_mk1 (p : Unit) : Ret := ⟨.tup [.nils, .bool false], []⟩
def spec_l08ReadBodies_mk : (List Body) ⊕ (Unit) → Ret := fun v => match v with
  | (.inl p) => spec_l08ReadBodies_mk0 p
  | (.inr p) => spec_l08ReadBodies_mk1 p
def spec_l08ReadBodies_forms (v : (List Body) ⊕ (Unit)) : DT Ret := .ask (isL v) (.leaf (spec_l08ReadBodies_mk0 (leftD v))) (.leaf (spec_l08ReadBodies_mk1 (rightD v)))
theorem spec_l08ReadBodies_forms_get : ∀ v, (spec_l08ReadBodies_forms v).get = some (spec_l08ReadBodies_mk v) := by
  intro v
  rcases v with v | v <;> rfl
def spec_l08ReadBodies_c : Con := fun args => match args with
  | [.str a0] => some (.need (spec_l08ReadBodies_need a0) (spec_l08ReadBodies_forms (spec_l08ReadBodies a0)))
  | _ => none
set_option maxRecDepth 100000 in
theorem spec_l08ReadBodies_ok : FunOK Tryz.prog 15 spec_l08ReadBodies_c.fn := by
  refine con_ok (Γ := gam [(29, spec_l01Cut_c), (30, spec_l01VRead_c), (31, spec_l08Number_c), (32, spec_l02Give_c)]) (gam_cons spec_l01Cut_ok (gam_cons spec_l01VRead_ok (gam_cons spec_l08Number_ok (gam_cons spec_l02Give_ok (gam_nil))))) tab_ok (by kernel_rfl) Tryz.func15 (by kernel_rfl) (by kernel_rfl) Tryz.ntmps15 Tryz.results15 (loops := spec_l08ReadBodies_loops) (loopsOK_list (l := [lp Tryz.f15 0]) (by kernel_rfl) ⟨spec_l08ReadBodies_l0, trivial⟩) 100000 fun args t h => ?_
  unfold spec_l08ReadBodies_c at h
  split at h
  · rename_i a0
    cases h
    exact ⟨rfl, agree_forms (mk := spec_l08ReadBodies_mk) (t := spec_l08ReadBodies_tree a0) (by unfold Agree; kernel_rfl) (fun h => h) (spec_l08ReadBodies_forms_get _)⟩
  · cases h

/-- loop.example/g01284/spec.ReadBodies -/
def spec_ReadBodies_tree (a0 : (List UInt8)) : DT ((List Body) ⊕ (Unit)) :=
  .need ((spec_l08ReadBodies_need a0)) (
  let x0 := spec_l08ReadBodies a0;
  .ask ((isL x0))
  (
   .leaf (.inl ((leftD x0))))
  (
   .leaf (.inr ())))
def spec_ReadBodies (a0 : (List UInt8)) : (List Body) ⊕ (Unit) := (spec_ReadBodies_tree a0).val
def spec_ReadBodies_need (a0 : (List UInt8)) : Bool := (spec_ReadBodies_tree a0).ok
def spec_ReadBodies_mk0 (p : List Body) : Ret := ⟨.tup [.own 0, .bool true], [.typed 44 .body p]⟩
def spec_ReadBodies_mk1 (p : Unit) : Ret := ⟨.tup [.nils, .bool false], []⟩
def spec_ReadBodies_mk : (List Body) ⊕ (Unit) → Ret := fun v => match v with
  | (.inl p) => spec_ReadBodies_mk0 p
  | (.inr p) => spec_ReadBodies_mk1 p
def spec_ReadBodies_forms (v : (List Body) ⊕ (Unit)) : DT Ret := .ask (isL v) (.leaf (spec_ReadBodies_mk0 (leftD v))) (.leaf (spec_ReadBodies_mk1 (rightD v)))
theorem spec_ReadBodies_forms_get : ∀ v, (spec_ReadBodies_forms v).get = some (spec_ReadBodies_mk v) := by
  intro v
  rcases v with v | v <;> rfl
def spec_ReadBodies_c : Con := fun args => match args with
  | [.str a0] => some (.need (spec_ReadBodies_need a0) (spec_ReadBodies_forms (spec_ReadBodies a0)))
  | _ => none
set_option maxRecDepth 100000 in
theorem spec_ReadBodies_ok : FunOK Tryz.prog 5 spec_ReadBodies_c.fn := by
  refine con_ok (Γ := gam [(15, spec_l08ReadBodies_c)]) (gam_cons spec_l08ReadBodies_ok (gam_nil)) tab_ok (by kernel_rfl) Tryz.func5 (by kernel_rfl) (by kernel_rfl) Tryz.ntmps5 Tryz.results5 (loopsOK_none rfl _) 100000 fun args t h => ?_
  unfold spec_ReadBodies_c at h
  split at h
  · rename_i a0
    cases h
    exact ⟨rfl, agree_forms (mk := spec_ReadBodies_mk) (t := spec_ReadBodies_tree a0) (by unfold Agree; kernel_rfl) (fun h => h) (spec_ReadBodies_forms_get _)⟩
  · cases h

-- FAILED 64 unicode/utf8.RuneCountInString: operation

-- FAILED 89 unicode/utf8.decodeRuneInStringSlow: global

-- FAILED 65 unicode/utf8.DecodeRuneInString: no contract: unicode/utf8.decodeRuneInStringSlow 

-- FAILED 46 strings.explode: no contract: unicode/utf8.RuneCountInString 

/-- internal/stringslite.IndexByte -/
def internal_stringslite_IndexByte_tree (a0 : (List UInt8)) (a1 : Int) : DT (Int) :=
  let x0 := Go.Lib.indexByte a0 (Nat.toUInt8 (Int.toNat a1));
  .leaf x0
def internal_stringslite_IndexByte (a0 : (List UInt8)) (a1 : Int) : Int := (internal_stringslite_IndexByte_tree a0 a1).val
def internal_stringslite_IndexByte_mk (p : Int) : Ret := ⟨.int .i64 p, []⟩
def internal_stringslite_IndexByte_c : Con := fun args => match args with
  | [.str a0, .int .u8 a1] => some (.leaf (internal_stringslite_IndexByte_mk (internal_stringslite_IndexByte a0 a1)))
  | _ => none
set_option maxRecDepth 100000 in
theorem internal_stringslite_IndexByte_ok : FunOK Tryz.prog 75 internal_stringslite_IndexByte_c.fn := by
  refine con_ok (Γ := gam [(96, internal_bytealg_IndexByteString_c)]) (gam_cons internal_bytealg_IndexByteString_ok (gam_nil)) tab_ok (by kernel_rfl) Tryz.func75 (by kernel_rfl) (by kernel_rfl) Tryz.ntmps75 Tryz.results75 (loopsOK_none rfl _) 100000 fun args t h => ?_
  unfold internal_stringslite_IndexByte_c at h
  split at h
  · rename_i a0 a1
    cases h
    exact ⟨rfl, agree_tot (mk := internal_stringslite_IndexByte_mk) (t := internal_stringslite_IndexByte_tree a0 a1) (by unfold Agree; kernel_rfl) (by kernel_rfl)⟩
  · cases h

-- FAILED 76 internal/bytealg.IndexString: no body

/-- internal/bytealg.Cutover -/
def internal_bytealg_Cutover_tree (a0 : Int) : DT (Int) :=
  let x0 := IntKind.wrap .i64 (a0 + 16);
  .skip (
  let x1 := IntKind.wrap .i64 (Int.tdiv x0 8);
  .leaf x1)
def internal_bytealg_Cutover (a0 : Int) : Int := (internal_bytealg_Cutover_tree a0).val
def internal_bytealg_Cutover_mk (p : Int) : Ret := ⟨.int .i64 p, []⟩
def internal_bytealg_Cutover_c : Con := fun args => match args with
  | [.int .i64 a0] => some (.leaf (internal_bytealg_Cutover_mk (internal_bytealg_Cutover a0)))
  | _ => none
set_option maxRecDepth 100000 in
theorem internal_bytealg_Cutover_ok : FunOK Tryz.prog 77 internal_bytealg_Cutover_c.fn := by
  refine con_ok (Γ := gam []) (gam_nil) tab_ok (by kernel_rfl) Tryz.func77 (by kernel_rfl) (by kernel_rfl) Tryz.ntmps77 Tryz.results77 (loopsOK_none rfl _) 100000 fun args t h => ?_
  unfold internal_bytealg_Cutover_c at h
  split at h
  · rename_i a0
    cases h
    exact ⟨rfl, agree_tot (mk := internal_bytealg_Cutover_mk) (t := internal_bytealg_Cutover_tree a0) (by unfold Agree; kernel_rfl) (by kernel_rfl)⟩
  · cases h

/-- a loop of internal_bytealg_hashStr_string_ -/
def internal_bytealg_hashStr_string__loop0_step (p : (List UInt8)) (s : Int × Int) : Round (Int × Int) (Int) :=
  let x0 := ((List.length p : Nat) : Int);
  let x1 := decide (s.2 < x0);
  .ask x1
  (
   let x2 := IntKind.wrap .u32 (s.1 * 16777619);
   .need ((decide (0 ≤ s.2) && decide (s.2 < ((List.length p : Nat) : Int)))) (
   let x3 := ((List.getD (p : List UInt8) (Int.toNat s.2) 0).toNat : Int);
   let x4 := IntKind.wrap .u32 x3;
   let x5 := IntKind.wrap .u32 (x2 + x4);
   let x6 := IntKind.wrap .i64 (s.2 + 1);
   .leaf (.inl (x5, x6), [])))
  (
   .leaf (.inr s.1, []))
def internal_bytealg_hashStr_string__loop0_L (p : (List UInt8)) : LoopS (Int × Int) (Int) := { tl := fun s => [.str p, .junk, .junk, .junk, .int .u32 s.1, .int .i64 s.2], hl := fun s => [], ex := fun r => .exit 0, otl := fun r => [.str p, .junk, .junk, .junk, .int .u32 r], ohl := fun r => [] }
def internal_bytealg_hashStr_string__loop0_ext : St → Option (((List UInt8)) × (Int × Int) × List Nat) := fun S => match (S.tm 0).unK, (S.tm 4).unK, (S.tm 5).unK with
  | .str q0, .int .u32 q1, .int .i64 q2 => some (q0, (q1, q2), [])
  | _, _, _ => none
def internal_bytealg_hashStr_string__loop0_post (p : (List UInt8)) (r : Int) : DT (Ex × St) := .leaf (.exit 0, LSt [.str p, .junk, .junk, .junk, .int .u32 r] [])
def internal_bytealg_hashStr_string__loop0 (p : (List UInt8)) (s : Int × Int) : Int := loopVal (internal_bytealg_hashStr_string__loop0_step p) s
def internal_bytealg_hashStr_string__loop0_ends (p : (List UInt8)) (s : Int × Int) : Bool := loopEnds (internal_bytealg_hashStr_string__loop0_step p) s
def internal_bytealg_hashStr_string__loop0_F : LoopF := loopF internal_bytealg_hashStr_string__loop0_step internal_bytealg_hashStr_string__loop0_ext internal_bytealg_hashStr_string__loop0_post
theorem internal_bytealg_hashStr_string__loop0_hext : ∀ S p s fl, internal_bytealg_hashStr_string__loop0_ext S = some (p, s, fl) → Norm S fl ((internal_bytealg_hashStr_string__loop0_L p).tl s) ((internal_bytealg_hashStr_string__loop0_L p).hl s) (internal_bytealg_hashStr_string__loop0_L p).gl := by
  intro S p s fl h
  unfold internal_bytealg_hashStr_string__loop0_ext at h
  (repeat' split at h) <;> first
    | (cases h; constructor <;> simp_all [internal_bytealg_hashStr_string__loop0_L, keepT, keepH, rens, renH, PV.ren, Blk.ren, fOf, lget, nodup, natIn, lenEq, gtm, PV.unK])
    | cases h
theorem internal_bytealg_hashStr_string__loop0_hpost : ∀ p r e S', (internal_bytealg_hashStr_string__loop0_post p r).get = some (e, S') → e = (internal_bytealg_hashStr_string__loop0_L p).ex r ∧ S' = LSt ((internal_bytealg_hashStr_string__loop0_L p).otl r) ((internal_bytealg_hashStr_string__loop0_L p).ohl r) ((internal_bytealg_hashStr_string__loop0_L p).ogl r) := by
  intro p r e S' h
  unfold internal_bytealg_hashStr_string__loop0_post at h
  simp only [DT.get, Option.some.injEq, Prod.mk.injEq] at h; exact ⟨h.1.symm, h.2.symm⟩

/-- a loop of internal_bytealg_hashStr_string_ -/
def internal_bytealg_hashStr_string__loop1_step (p : Int) (s : Int × Int × Int) : Round (Int × Int × Int) (Int) :=
  let x0 := decide (s.2.2 > 0);
  .ask x0
  (
   let x1 := IntKind.wrap .i64 (BitVec.ofInt (IntKind.bits .i64) s.2.2 &&& BitVec.ofInt (IntKind.bits .i64) 1).toNat;
   let x2 := (x1 != 0);
   .ask x2
   (
    let x3 := IntKind.wrap .u32 (s.1 * s.2.1);
    let x4 := IntKind.wrap .u32 (s.2.1 * s.2.1);
    .skip (
    let x5 := Int.fdiv s.2.2 (2 ^ (min (Int.toNat 1) (IntKind.bits .i64)));
    .leaf (.inl (x3, x4, x5), [])))
   (
    let x3 := IntKind.wrap .u32 (s.2.1 * s.2.1);
    .skip (
    let x4 := Int.fdiv s.2.2 (2 ^ (min (Int.toNat 1) (IntKind.bits .i64)));
    .leaf (.inl (s.1, x3, x4), []))))
  (
   .leaf (.inr s.1, []))
def internal_bytealg_hashStr_string__loop1_L (p : Int) : LoopS (Int × Int × Int) (Int) := { tl := fun s => [.junk, .junk, .junk, .junk, .int .u32 p, .junk, .int .u32 s.1, .int .u32 s.2.1, .int .i64 s.2.2], hl := fun s => [], ex := fun r => .exit 2, otl := fun r => [.junk, .junk, .junk, .junk, .int .u32 p, .junk, .int .u32 r], ohl := fun r => [] }
def internal_bytealg_hashStr_string__loop1_ext : St → Option ((Int) × (Int × Int × Int) × List Nat) := fun S => match (S.tm 4).unK, (S.tm 6).unK, (S.tm 7).unK, (S.tm 8).unK with
  | .int .u32 q0, .int .u32 q1, .int .u32 q2, .int .i64 q3 => some (q0, (q1, q2, q3), [])
  | _, _, _, _ => none
def internal_bytealg_hashStr_string__loop1_post (p : Int) (r : Int) : DT (Ex × St) := .leaf (.exit 2, LSt [.junk, .junk, .junk, .junk, .int .u32 p, .junk, .int .u32 r] [])
def internal_bytealg_hashStr_string__loop1 (p : Int) (s : Int × Int × Int) : Int := loopVal (internal_bytealg_hashStr_string__loop1_step p) s
def internal_bytealg_hashStr_string__loop1_ends (p : Int) (s : Int × Int × Int) : Bool := loopEnds (internal_bytealg_hashStr_string__loop1_step p) s
def internal_bytealg_hashStr_string__loop1_F : LoopF := loopF internal_bytealg_hashStr_string__loop1_step internal_bytealg_hashStr_string__loop1_ext internal_bytealg_hashStr_string__loop1_post
theorem internal_bytealg_hashStr_string__loop1_hext : ∀ S p s fl, internal_bytealg_hashStr_string__loop1_ext S = some (p, s, fl) → Norm S fl ((internal_bytealg_hashStr_string__loop1_L p).tl s) ((internal_bytealg_hashStr_string__loop1_L p).hl s) (internal_bytealg_hashStr_string__loop1_L p).gl := by
  intro S p s fl h
  unfold internal_bytealg_hashStr_string__loop1_ext at h
  (repeat' split at h) <;> first
    | (cases h; constructor <;> simp_all [internal_bytealg_hashStr_string__loop1_L, keepT, keepH, rens, renH, PV.ren, Blk.ren, fOf, lget, nodup, natIn, lenEq, gtm, PV.unK])
    | cases h
theorem internal_bytealg_hashStr_string__loop1_hpost : ∀ p r e S', (internal_bytealg_hashStr_string__loop1_post p r).get = some (e, S') → e = (internal_bytealg_hashStr_string__loop1_L p).ex r ∧ S' = LSt ((internal_bytealg_hashStr_string__loop1_L p).otl r) ((internal_bytealg_hashStr_string__loop1_L p).ohl r) ((internal_bytealg_hashStr_string__loop1_L p).ogl r) := by
  intro p r e S' h
  unfold internal_bytealg_hashStr_string__loop1_post at h
  simp only [DT.get, Option.some.injEq, Prod.mk.injEq] at h; exact ⟨h.1.symm, h.2.symm⟩

def internal_bytealg_hashStr_string__loops : Nat → Option LoopF := loopTab [(3, internal_bytealg_hashStr_string__loop0_F), (8, internal_bytealg_hashStr_string__loop1_F)]
set_option maxRecDepth 100000 in
theorem internal_bytealg_hashStr_string__l1 : LoopOK Tryz.prog ⟨gam [], tab, 39, internal_bytealg_hashStr_string__loops⟩ (lp Tryz.f97 1) :=
  loopOK_some (F := internal_bytealg_hashStr_string__loop1_F) (by kernel_rfl) (loopF_ok (E := ⟨gam [], tab, 39, internal_bytealg_hashStr_string__loops⟩) ⟨gam_nil, tab_ok, by kernel_rfl⟩ (fuel := 100000) (loopsOK_list (l := []) (by kernel_rfl) trivial) (L := internal_bytealg_hashStr_string__loop1_L) (fun p s => by unfold AgreeL; exact ⟨by kernel_rfl, by kernel_rfl⟩) (fun _ _ h => Ex.noConfusion h) internal_bytealg_hashStr_string__loop1_hext internal_bytealg_hashStr_string__loop1_hpost)
set_option maxRecDepth 100000 in
theorem internal_bytealg_hashStr_string__l0 : LoopOK Tryz.prog ⟨gam [], tab, 39, internal_bytealg_hashStr_string__loops⟩ (lp Tryz.f97 0) :=
  loopOK_some (F := internal_bytealg_hashStr_string__loop0_F) (by kernel_rfl) (loopF_ok (E := ⟨gam [], tab, 39, internal_bytealg_hashStr_string__loops⟩) ⟨gam_nil, tab_ok, by kernel_rfl⟩ (fuel := 100000) (loopsOK_list (l := []) (by kernel_rfl) trivial) (L := internal_bytealg_hashStr_string__loop0_L) (fun p s => by unfold AgreeL; exact ⟨by kernel_rfl, by kernel_rfl⟩) (fun _ _ h => Ex.noConfusion h) internal_bytealg_hashStr_string__loop0_hext internal_bytealg_hashStr_string__loop0_hpost)
/-- internal/bytealg.hashStr[string] -/
def internal_bytealg_hashStr_string__tree (a0 : (List UInt8)) : DT (Int × Int) :=
  .need ((internal_bytealg_hashStr_string__loop0_ends a0 (0, 0))) (
  let x0 := internal_bytealg_hashStr_string__loop0 a0 (0, 0);
  let x1 := ((List.length a0 : Nat) : Int);
  .need ((internal_bytealg_hashStr_string__loop1_ends x0 (1, 16777619, x1))) (
  let x2 := internal_bytealg_hashStr_string__loop1 x0 (1, 16777619, x1);
  .leaf (x0, x2)))
def internal_bytealg_hashStr_string_ (a0 : (List UInt8)) : Int × Int := (internal_bytealg_hashStr_string__tree a0).val
def internal_bytealg_hashStr_string__need (a0 : (List UInt8)) : Bool := (internal_bytealg_hashStr_string__tree a0).ok
def internal_bytealg_hashStr_string__mk (p : Int × Int) : Ret := ⟨.tup [.int .u32 p.1, .int .u32 p.2], []⟩
def internal_bytealg_hashStr_string__c : Con := fun args => match args with
  | [.str a0] => some (.need (internal_bytealg_hashStr_string__need a0) (.leaf (internal_bytealg_hashStr_string__mk (internal_bytealg_hashStr_string_ a0))))
  | _ => none
set_option maxRecDepth 100000 in
theorem internal_bytealg_hashStr_string__ok : FunOK Tryz.prog 97 internal_bytealg_hashStr_string__c.fn := by
  refine con_ok (Γ := gam []) (gam_nil) tab_ok (by kernel_rfl) Tryz.func97 (by kernel_rfl) (by kernel_rfl) Tryz.ntmps97 Tryz.results97 (loops := internal_bytealg_hashStr_string__loops) (loopsOK_list (l := [lp Tryz.f97 0, lp Tryz.f97 1]) (by kernel_rfl) ⟨internal_bytealg_hashStr_string__l0, ⟨internal_bytealg_hashStr_string__l1, trivial⟩⟩) 100000 fun args t h => ?_
  unfold internal_bytealg_hashStr_string__c at h
  split at h
  · rename_i a0
    cases h
    exact ⟨rfl, agree_need (mk := internal_bytealg_hashStr_string__mk) (t := internal_bytealg_hashStr_string__tree a0) (by unfold Agree; kernel_rfl)⟩
  · cases h

/-- a loop of internal_bytealg_IndexRabinKarp_string_ -/
def internal_bytealg_IndexRabinKarp_string__loop0_step (p : (List UInt8) × (List UInt8) × Int × Int × Int) (s : Int × Int) : Round (Int × Int) (Int) :=
  let x0 := decide (s.2 < p.2.2.2.2);
  .ask x0
  (
   let x1 := IntKind.wrap .u32 (s.1 * 16777619);
   .need ((decide (0 ≤ s.2) && decide (s.2 < ((List.length p.1 : Nat) : Int)))) (
   let x2 := ((List.getD (p.1 : List UInt8) (Int.toNat s.2) 0).toNat : Int);
   let x3 := IntKind.wrap .u32 x2;
   let x4 := IntKind.wrap .u32 (x1 + x3);
   let x5 := IntKind.wrap .i64 (s.2 + 1);
   .leaf (.inl (x4, x5), [])))
  (
   .leaf (.inr s.1, []))
def internal_bytealg_IndexRabinKarp_string__loop0_L (p : (List UInt8) × (List UInt8) × Int × Int × Int) : LoopS (Int × Int) (Int) := { tl := fun s => [.str p.1, .str p.2.1, .junk, .junk, .junk, .int .u32 p.2.2.1, .int .u32 p.2.2.2.1, .int .i64 p.2.2.2.2, .int .u32 s.1, .int .i64 s.2], hl := fun s => [], ex := fun r => .exit 0, otl := fun r => [.str p.1, .str p.2.1, .junk, .junk, .junk, .int .u32 p.2.2.1, .int .u32 p.2.2.2.1, .int .i64 p.2.2.2.2, .int .u32 r], ohl := fun r => [] }
def internal_bytealg_IndexRabinKarp_string__loop0_ext : St → Option (((List UInt8) × (List UInt8) × Int × Int × Int) × (Int × Int) × List Nat) := fun S => match (S.tm 0).unK, (S.tm 1).unK, (S.tm 5).unK, (S.tm 6).unK, (S.tm 7).unK, (S.tm 8).unK, (S.tm 9).unK with
  | .str q0, .str q1, .int .u32 q2, .int .u32 q3, .int .i64 q4, .int .u32 q5, .int .i64 q6 => some ((q0, q1, q2, q3, q4), (q5, q6), [])
  | _, _, _, _, _, _, _ => none
def internal_bytealg_IndexRabinKarp_string__loop0_post (p : (List UInt8) × (List UInt8) × Int × Int × Int) (r : Int) : DT (Ex × St) := .leaf (.exit 0, LSt [.str p.1, .str p.2.1, .junk, .junk, .junk, .int .u32 p.2.2.1, .int .u32 p.2.2.2.1, .int .i64 p.2.2.2.2, .int .u32 r] [])
def internal_bytealg_IndexRabinKarp_string__loop0 (p : (List UInt8) × (List UInt8) × Int × Int × Int) (s : Int × Int) : Int := loopVal (internal_bytealg_IndexRabinKarp_string__loop0_step p) s
def internal_bytealg_IndexRabinKarp_string__loop0_ends (p : (List UInt8) × (List UInt8) × Int × Int × Int) (s : Int × Int) : Bool := loopEnds (internal_bytealg_IndexRabinKarp_string__loop0_step p) s
def internal_bytealg_IndexRabinKarp_string__loop0_F : LoopF := loopF internal_bytealg_IndexRabinKarp_string__loop0_step internal_bytealg_IndexRabinKarp_string__loop0_ext internal_bytealg_IndexRabinKarp_string__loop0_post
theorem internal_bytealg_IndexRabinKarp_string__loop0_hext : ∀ S p s fl, internal_bytealg_IndexRabinKarp_string__loop0_ext S = some (p, s, fl) → Norm S fl ((internal_bytealg_IndexRabinKarp_string__loop0_L p).tl s) ((internal_bytealg_IndexRabinKarp_string__loop0_L p).hl s) (internal_bytealg_IndexRabinKarp_string__loop0_L p).gl := by
  intro S p s fl h
  unfold internal_bytealg_IndexRabinKarp_string__loop0_ext at h
  (repeat' split at h) <;> first
    | (cases h; constructor <;> simp_all [internal_bytealg_IndexRabinKarp_string__loop0_L, keepT, keepH, rens, renH, PV.ren, Blk.ren, fOf, lget, nodup, natIn, lenEq, gtm, PV.unK])
    | cases h
theorem internal_bytealg_IndexRabinKarp_string__loop0_hpost : ∀ p r e S', (internal_bytealg_IndexRabinKarp_string__loop0_post p r).get = some (e, S') → e = (internal_bytealg_IndexRabinKarp_string__loop0_L p).ex r ∧ S' = LSt ((internal_bytealg_IndexRabinKarp_string__loop0_L p).otl r) ((internal_bytealg_IndexRabinKarp_string__loop0_L p).ohl r) ((internal_bytealg_IndexRabinKarp_string__loop0_L p).ogl r) := by
  intro p r e S' h
  unfold internal_bytealg_IndexRabinKarp_string__loop0_post at h
  simp only [DT.get, Option.some.injEq, Prod.mk.injEq] at h; exact ⟨h.1.symm, h.2.symm⟩

/-- a loop of internal_bytealg_IndexRabinKarp_string_ -/
def internal_bytealg_IndexRabinKarp_string__loop1_step (p : (List UInt8) × (List UInt8) × Int × Int × Int) (s : Int × Int) : Round (Int × Int) ((Int) ⊕ (Unit)) :=
  let x0 := ((List.length p.1 : Nat) : Int);
  let x1 := decide (s.2 < x0);
  .ask x1
  (
   let x2 := IntKind.wrap .u32 (s.1 * 16777619);
   .need ((decide (0 ≤ s.2) && decide (s.2 < ((List.length p.1 : Nat) : Int)))) (
   let x3 := ((List.getD (p.1 : List UInt8) (Int.toNat s.2) 0).toNat : Int);
   let x4 := IntKind.wrap .u32 x3;
   let x5 := IntKind.wrap .u32 (x2 + x4);
   let x6 := IntKind.wrap .i64 (s.2 - p.2.2.2.2);
   .need ((decide (0 ≤ x6) && decide (x6 < ((List.length p.1 : Nat) : Int)))) (
   let x7 := ((List.getD (p.1 : List UInt8) (Int.toNat x6) 0).toNat : Int);
   let x8 := IntKind.wrap .u32 x7;
   let x9 := IntKind.wrap .u32 (p.2.2.2.1 * x8);
   let x10 := IntKind.wrap .u32 (x5 - x9);
   let x11 := IntKind.wrap .i64 (s.2 + 1);
   let x12 := (x10 == p.2.2.1);
   .ask x12
   (
    let x13 := IntKind.wrap .i64 (x11 - p.2.2.2.2);
    .need ((decide (0 ≤ x11) && decide (x11 ≤ ((List.length p.1 : Nat) : Int)))) (
    .need ((decide (0 ≤ x13) && decide (x13 ≤ (((Int.toNat x11) : Nat) : Int)))) (
    let x14 := List.drop (Int.toNat x13) (List.take (Int.toNat x11) p.1);
    let x15 := (x14 == p.2.1);
    .ask x15
    (
     let x16 := IntKind.wrap .i64 (x11 - p.2.2.2.2);
     .leaf (.inr (.inl x16), []))
    (
     .leaf (.inl (x10, x11), [])))))
   (
    .leaf (.inl (x10, x11), [])))))
  (
   .leaf (.inr (.inr ()), []))
def internal_bytealg_IndexRabinKarp_string__loop1_L (p : (List UInt8) × (List UInt8) × Int × Int × Int) : LoopS (Int × Int) ((Int) ⊕ (Unit)) := { tl := fun s => [.str p.1, .str p.2.1, .junk, .junk, .junk, .int .u32 p.2.2.1, .int .u32 p.2.2.2.1, .int .i64 p.2.2.2.2, .int .u32 s.1, .junk, .int .i64 s.2], hl := fun s => [], ex := fun r => match r with | .inl r => .ret | .inr r => .exit 2, otl := fun r => match r with | .inl r => [.junk, .junk, .junk, .junk, .int .i64 r] | .inr r => [.junk], ohl := fun r => match r with | .inl r => [] | .inr r => [] }
def internal_bytealg_IndexRabinKarp_string__loop1_ext : St → Option (((List UInt8) × (List UInt8) × Int × Int × Int) × (Int × Int) × List Nat) := fun S => match (S.tm 0).unK, (S.tm 1).unK, (S.tm 5).unK, (S.tm 6).unK, (S.tm 7).unK, (S.tm 8).unK, (S.tm 10).unK with
  | .str q0, .str q1, .int .u32 q2, .int .u32 q3, .int .i64 q4, .int .u32 q5, .int .i64 q6 => some ((q0, q1, q2, q3, q4), (q5, q6), [])
  | _, _, _, _, _, _, _ => none
def internal_bytealg_IndexRabinKarp_string__loop1_post (p : (List UInt8) × (List UInt8) × Int × Int × Int) (r : (Int) ⊕ (Unit)) : DT (Ex × St) := .ask (isL r) (.leaf (.ret, LSt [.junk, .junk, .junk, .junk, .int .i64 ((leftD r))] [])) (.leaf (.exit 2, LSt [.junk] []))
def internal_bytealg_IndexRabinKarp_string__loop1 (p : (List UInt8) × (List UInt8) × Int × Int × Int) (s : Int × Int) : (Int) ⊕ (Unit) := loopVal (internal_bytealg_IndexRabinKarp_string__loop1_step p) s
def internal_bytealg_IndexRabinKarp_string__loop1_ends (p : (List UInt8) × (List UInt8) × Int × Int × Int) (s : Int × Int) : Bool := loopEnds (internal_bytealg_IndexRabinKarp_string__loop1_step p) s
def internal_bytealg_IndexRabinKarp_string__loop1_F : LoopF := loopF internal_bytealg_IndexRabinKarp_string__loop1_step internal_bytealg_IndexRabinKarp_string__loop1_ext internal_bytealg_IndexRabinKarp_string__loop1_post
theorem internal_bytealg_IndexRabinKarp_string__loop1_hext : ∀ S p s fl, internal_bytealg_IndexRabinKarp_string__loop1_ext S = some (p, s, fl) → Norm S fl ((internal_bytealg_IndexRabinKarp_string__loop1_L p).tl s) ((internal_bytealg_IndexRabinKarp_string__loop1_L p).hl s) (internal_bytealg_IndexRabinKarp_string__loop1_L p).gl := by
  intro S p s fl h
  unfold internal_bytealg_IndexRabinKarp_string__loop1_ext at h
  (repeat' split at h) <;> first
    | (cases h; constructor <;> simp_all [internal_bytealg_IndexRabinKarp_string__loop1_L, keepT, keepH, rens, renH, PV.ren, Blk.ren, fOf, lget, nodup, natIn, lenEq, gtm, PV.unK])
    | cases h
theorem internal_bytealg_IndexRabinKarp_string__loop1_hpost : ∀ p r e S', (internal_bytealg_IndexRabinKarp_string__loop1_post p r).get = some (e, S') → e = (internal_bytealg_IndexRabinKarp_string__loop1_L p).ex r ∧ S' = LSt ((internal_bytealg_IndexRabinKarp_string__loop1_L p).otl r) ((internal_bytealg_IndexRabinKarp_string__loop1_L p).ohl r) ((internal_bytealg_IndexRabinKarp_string__loop1_L p).ogl r) := by
  intro p r e S' h
  unfold internal_bytealg_IndexRabinKarp_string__loop1_post at h
  cases r <;> (simp only [isL, DT.get, Option.some.injEq, Prod.mk.injEq] at h; exact ⟨h.1.symm, h.2.symm⟩)

def internal_bytealg_IndexRabinKarp_string__loops : Nat → Option LoopF := loopTab [(5, internal_bytealg_IndexRabinKarp_string__loop0_F), (11, internal_bytealg_IndexRabinKarp_string__loop1_F)]
set_option maxRecDepth 100000 in
theorem internal_bytealg_IndexRabinKarp_string__l1 : LoopOK Tryz.prog ⟨gam [(97, internal_bytealg_hashStr_string__c)], tab, 81, internal_bytealg_IndexRabinKarp_string__loops⟩ (lp Tryz.f78 1) :=
  loopOK_some (F := internal_bytealg_IndexRabinKarp_string__loop1_F) (by kernel_rfl) (loopF_ok (E := ⟨gam [(97, internal_bytealg_hashStr_string__c)], tab, 81, internal_bytealg_IndexRabinKarp_string__loops⟩) ⟨gam_cons internal_bytealg_hashStr_string__ok (gam_nil), tab_ok, by kernel_rfl⟩ (fuel := 100000) (loopsOK_list (l := []) (by kernel_rfl) trivial) (L := internal_bytealg_IndexRabinKarp_string__loop1_L) (fun p s => by unfold AgreeL; exact ⟨by kernel_rfl, by kernel_rfl⟩) (fun _ r h => by cases r <;> exact Ex.noConfusion h) internal_bytealg_IndexRabinKarp_string__loop1_hext internal_bytealg_IndexRabinKarp_string__loop1_hpost)
set_option maxRecDepth 100000 in
theorem internal_bytealg_IndexRabinKarp_string__l0 : LoopOK Tryz.prog ⟨gam [(97, internal_bytealg_hashStr_string__c)], tab, 81, internal_bytealg_IndexRabinKarp_string__loops⟩ (lp Tryz.f78 0) :=
  loopOK_some (F := internal_bytealg_IndexRabinKarp_string__loop0_F) (by kernel_rfl) (loopF_ok (E := ⟨gam [(97, internal_bytealg_hashStr_string__c)], tab, 81, internal_bytealg_IndexRabinKarp_string__loops⟩) ⟨gam_cons internal_bytealg_hashStr_string__ok (gam_nil), tab_ok, by kernel_rfl⟩ (fuel := 100000) (loopsOK_list (l := []) (by kernel_rfl) trivial) (L := internal_bytealg_IndexRabinKarp_string__loop0_L) (fun p s => by unfold AgreeL; exact ⟨by kernel_rfl, by kernel_rfl⟩) (fun _ _ h => Ex.noConfusion h) internal_bytealg_IndexRabinKarp_string__loop0_hext internal_bytealg_IndexRabinKarp_string__loop0_hpost)
/-- internal/bytealg.IndexRabinKarp[string] -/
def internal_bytealg_IndexRabinKarp_string__tree (a0 : (List UInt8)) (a1 : (List UInt8)) : DT (Int) :=
  .need ((internal_bytealg_hashStr_string__need a1)) (
  let x0 := internal_bytealg_hashStr_string_ a1;
  let x1 := ((List.length a1 : Nat) : Int);
  .need ((internal_bytealg_IndexRabinKarp_string__loop0_ends (a0, a1, x0.1, x0.2, x1) (0, 0))) (
  let x2 := internal_bytealg_IndexRabinKarp_string__loop0 (a0, a1, x0.1, x0.2, x1) (0, 0);
  let x3 := (x2 == x0.1);
  .ask x3
  (
   .need ((decide (0 ≤ x1) && decide (x1 ≤ ((List.length a0 : Nat) : Int)))) (
   let x4 := List.drop 0 (List.take (Int.toNat x1) a0);
   let x5 := (x4 == a1);
   .ask x5
   (
    .leaf 0)
   (
    .need ((internal_bytealg_IndexRabinKarp_string__loop1_ends (a0, a1, x0.1, x0.2, x1) (x2, x1))) (
    let x6 := internal_bytealg_IndexRabinKarp_string__loop1 (a0, a1, x0.1, x0.2, x1) (x2, x1);
    .ask ((isL x6))
    (
     .leaf ((leftD x6)))
    (
     .leaf (-1))))))
  (
   .need ((internal_bytealg_IndexRabinKarp_string__loop1_ends (a0, a1, x0.1, x0.2, x1) (x2, x1))) (
   let x4 := internal_bytealg_IndexRabinKarp_string__loop1 (a0, a1, x0.1, x0.2, x1) (x2, x1);
   .ask ((isL x4))
   (
    .leaf ((leftD x4)))
   (
    .leaf (-1))))))
def internal_bytealg_IndexRabinKarp_string_ (a0 : (List UInt8)) (a1 : (List UInt8)) : Int := (internal_bytealg_IndexRabinKarp_string__tree a0 a1).val
def internal_bytealg_IndexRabinKarp_string__need (a0 : (List UInt8)) (a1 : (List UInt8)) : Bool := (internal_bytealg_IndexRabinKarp_string__tree a0 a1).ok
def internal_bytealg_IndexRabinKarp_string__mk (p : Int) : Ret := ⟨.int .i64 p, []⟩
def internal_bytealg_IndexRabinKarp_string__c : Con := fun args => match args with
  | [.str a0, .str a1] => some (.need (internal_bytealg_IndexRabinKarp_string__need a0 a1) (.leaf (internal_bytealg_IndexRabinKarp_string__mk (internal_bytealg_IndexRabinKarp_string_ a0 a1))))
  | _ => none
set_option maxRecDepth 100000 in
theorem internal_bytealg_IndexRabinKarp_string__ok : FunOK Tryz.prog 78 internal_bytealg_IndexRabinKarp_string__c.fn := by
  refine con_ok (Γ := gam [(97, internal_bytealg_hashStr_string__c)]) (gam_cons internal_bytealg_hashStr_string__ok (gam_nil)) tab_ok (by kernel_rfl) Tryz.func78 (by kernel_rfl) (by kernel_rfl) Tryz.ntmps78 Tryz.results78 (loops := internal_bytealg_IndexRabinKarp_string__loops) (loopsOK_list (l := [lp Tryz.f78 0, lp Tryz.f78 1]) (by kernel_rfl) ⟨internal_bytealg_IndexRabinKarp_string__l0, ⟨internal_bytealg_IndexRabinKarp_string__l1, trivial⟩⟩) 100000 fun args t h => ?_
  unfold internal_bytealg_IndexRabinKarp_string__c at h
  split at h
  · rename_i a0 a1
    cases h
    exact ⟨rfl, agree_need (mk := internal_bytealg_IndexRabinKarp_string__mk) (t := internal_bytealg_IndexRabinKarp_string__tree a0 a1) (by unfold Agree; kernel_rfl)⟩
  · cases h

-- FAILED 56 internal/stringslite.Index: global

-- FAILED 48 strings.Index: no contract: internal/stringslite.Index 

-- FAILED 47 strings.Count: no contract: unicode/utf8.RuneCountInString 

-- FAILED 33 strings.genSplit: no contract: strings.explode 

-- FAILED 17 strings.Split: no contract: strings.genSplit 

/-- strings.Count -/
def strings_Count_k47_tree (a0 : (List UInt8)) : DT (Int) :=
  .skip (
  .skip (
  .skip (
  let x0 := ((Go.Lib.countByte a0 (Nat.toUInt8 (Int.toNat 47)) : Nat) : Int);
  .leaf x0)))
def strings_Count_k47 (a0 : (List UInt8)) : Int := (strings_Count_k47_tree a0).val
def strings_Count_k47_mk (p : Int) : Ret := ⟨.int .i64 p, []⟩
def strings_Count_k47_c : Con := fun args => match args with
  | [.str a0, .str a1] => bif decide (a1 = ([47] : List UInt8)) then (some (.leaf (strings_Count_k47_mk (strings_Count_k47 a0)))) else none
  | _ => none
set_option maxRecDepth 100000 in
theorem strings_Count_k47_ok : FunOK Tryz.prog 47 strings_Count_k47_c.fn := by
  refine con_ok (Γ := gam [(66, internal_bytealg_CountString_c)]) (gam_cons internal_bytealg_CountString_ok (gam_nil)) tab_ok (by kernel_rfl) Tryz.func47 (by kernel_rfl) (by kernel_rfl) Tryz.ntmps47 Tryz.results47 (loopsOK_none rfl _) 100000 fun args t h => ?_
  unfold strings_Count_k47_c at h
  split at h
  · rename_i a0 a1
    obtain ⟨hk1, h⟩ := bif_some h
    subst hk1
    cases h
    exact ⟨rfl, agree_tot (mk := strings_Count_k47_mk) (t := strings_Count_k47_tree a0) (by unfold Agree; kernel_rfl) (by kernel_rfl)⟩
  · cases h

/-- internal/stringslite.Index -/
def internal_stringslite_Index_k47_tree (a0 : (List UInt8)) : DT (Int) :=
  .skip (
  .skip (
  .skip (
  let x0 := ([47] == a0);
  .skip (
  .ask x0
  (
   .leaf 0)
  (
   .skip (
   .skip (
   let x1 := internal_stringslite_IndexByte a0 47;
   .leaf x1)))))))
def internal_stringslite_Index_k47 (a0 : (List UInt8)) : Int := (internal_stringslite_Index_k47_tree a0).val
def internal_stringslite_Index_k47_mk (p : Int) : Ret := ⟨.int .i64 p, []⟩
def internal_stringslite_Index_k47_c : Con := fun args => match args with
  | [.str a0, .str a1] => bif decide (a1 = ([47] : List UInt8)) then (some (.leaf (internal_stringslite_Index_k47_mk (internal_stringslite_Index_k47 a0)))) else none
  | _ => none
set_option maxRecDepth 100000 in
theorem internal_stringslite_Index_k47_ok : FunOK Tryz.prog 56 internal_stringslite_Index_k47_c.fn := by
  refine con_ok (Γ := gam [(75, internal_stringslite_IndexByte_c)]) (gam_cons internal_stringslite_IndexByte_ok (gam_nil)) tab_ok (by kernel_rfl) Tryz.func56 (by kernel_rfl) (by kernel_rfl) Tryz.ntmps56 Tryz.results56 (loopsOK_none rfl _) 100000 fun args t h => ?_
  unfold internal_stringslite_Index_k47_c at h
  split at h
  · rename_i a0 a1
    obtain ⟨hk1, h⟩ := bif_some h
    subst hk1
    cases h
    exact ⟨rfl, agree_tot (mk := internal_stringslite_Index_k47_mk) (t := internal_stringslite_Index_k47_tree a0) (by unfold Agree; kernel_rfl) (by kernel_rfl)⟩
  · cases h

/-- strings.Index -/
def strings_Index_k47_tree (a0 : (List UInt8)) : DT (Int) :=
  let x0 := internal_stringslite_Index_k47 a0;
  .leaf x0
def strings_Index_k47 (a0 : (List UInt8)) : Int := (strings_Index_k47_tree a0).val
def strings_Index_k47_mk (p : Int) : Ret := ⟨.int .i64 p, []⟩
def strings_Index_k47_c : Con := fun args => match args with
  | [.str a0, .str a1] => bif decide (a1 = ([47] : List UInt8)) then (some (.leaf (strings_Index_k47_mk (strings_Index_k47 a0)))) else none
  | _ => none
set_option maxRecDepth 100000 in
theorem strings_Index_k47_ok : FunOK Tryz.prog 48 strings_Index_k47_c.fn := by
  refine con_ok (Γ := gam [(56, internal_stringslite_Index_k47_c)]) (gam_cons internal_stringslite_Index_k47_ok (gam_nil)) tab_ok (by kernel_rfl) Tryz.func48 (by kernel_rfl) (by kernel_rfl) Tryz.ntmps48 Tryz.results48 (loopsOK_none rfl _) 100000 fun args t h => ?_
  unfold strings_Index_k47_c at h
  split at h
  · rename_i a0 a1
    obtain ⟨hk1, h⟩ := bif_some h
    subst hk1
    cases h
    exact ⟨rfl, agree_tot (mk := strings_Index_k47_mk) (t := strings_Index_k47_tree a0) (by unfold Agree; kernel_rfl) (by kernel_rfl)⟩
  · cases h

/-- a loop of strings_genSplit_k47_k0_m1 -/
def strings_genSplit_k47_k0_m1_loop0_step (p : Int × Int) (s : (List UInt8) × Int × List (List UInt8)) : Round ((List UInt8) × Int × List (List UInt8)) ((List UInt8) × Int × List (List UInt8)) :=
  let x0 := decide (s.2.1 < p.2);
  .ask x0
  (
   let x1 := strings_Index_k47 s.1;
   let x2 := decide (x1 < 0);
   .ask x2
   (
    .leaf (.inr (s.1, s.2.1, s.2.2), [0]))
   (
    let x3 := IntKind.wrap .i64 (x1 + p.1);
    .need ((decide (0 ≤ x3) && decide (x3 ≤ ((List.length s.1 : Nat) : Int)))) (
    let x4 := List.drop 0 (List.take (Int.toNat x3) s.1);
    .need ((decide (0 ≤ s.2.1) && decide (s.2.1 < ((List.length s.2.2 : Nat) : Int)))) (
    .need ((decide ((Int.toNat s.2.1) < List.length s.2.2))) (
    let x5 := List.set s.2.2 (Int.toNat s.2.1) x4;
    let x6 := IntKind.wrap .i64 (x1 + 1);
    .need ((decide (0 ≤ x6) && decide (x6 ≤ (((List.length s.1) : Nat) : Int)))) (
    let x7 := List.drop (Int.toNat x6) (List.take (List.length s.1) s.1);
    let x8 := IntKind.wrap .i64 (s.2.1 + 1);
    .leaf (.inl (x7, x8, x5), [0])))))))
  (
   .leaf (.inr (s.1, s.2.1, s.2.2), [0]))
def strings_genSplit_k47_k0_m1_loop0_L (p : Int × Int) : LoopS ((List UInt8) × Int × List (List UInt8)) ((List UInt8) × Int × List (List UInt8)) := { tl := fun s => [.str s.1, .str [47], .int .i64 p.1, .int .i64 p.2, .junk, .junk, .junk, .junk, .junk, .own 0, .int .i64 s.2.1], hl := fun s => [some (.typed 9 .str s.2.2)], ex := fun r => .exit 0, otl := fun r => [.str r.1, .junk, .junk, .junk, .junk, .junk, .junk, .junk, .junk, .own 0, .int .i64 r.2.1], ohl := fun r => [some (.typed 9 .str r.2.2)] }
def strings_genSplit_k47_k0_m1_loop0_ext : St → Option ((Int × Int) × ((List UInt8) × Int × List (List UInt8)) × List Nat) := fun S => match (S.tm 0).unK, (S.tm 1).unK, (S.tm 2).unK, (S.tm 3).unK, (S.tm 9).unK, (S.tm 10).unK with
  | .str q0, .str q1, .int .i64 q2, .int .i64 q3, .own i0, .int .i64 q4 => (match S.hp i0 with
    | some (.typed 9 .str q5) => (if q1 = ([47] : List UInt8) then some ((q2, q3), (q0, q4, q5), [i0]) else none)
    | _ => none)
  | _, _, _, _, _, _ => none
def strings_genSplit_k47_k0_m1_loop0_post (p : Int × Int) (r : (List UInt8) × Int × List (List UInt8)) : DT (Ex × St) := .leaf (.exit 0, LSt [.str r.1, .junk, .junk, .junk, .junk, .junk, .junk, .junk, .junk, .own 0, .int .i64 r.2.1] [some (.typed 9 .str r.2.2)])
def strings_genSplit_k47_k0_m1_loop0 (p : Int × Int) (s : (List UInt8) × Int × List (List UInt8)) : (List UInt8) × Int × List (List UInt8) := loopVal (strings_genSplit_k47_k0_m1_loop0_step p) s
def strings_genSplit_k47_k0_m1_loop0_ends (p : Int × Int) (s : (List UInt8) × Int × List (List UInt8)) : Bool := loopEnds (strings_genSplit_k47_k0_m1_loop0_step p) s
def strings_genSplit_k47_k0_m1_loop0_F : LoopF := loopF strings_genSplit_k47_k0_m1_loop0_step strings_genSplit_k47_k0_m1_loop0_ext strings_genSplit_k47_k0_m1_loop0_post
theorem strings_genSplit_k47_k0_m1_loop0_hext : ∀ S p s fl, strings_genSplit_k47_k0_m1_loop0_ext S = some (p, s, fl) → Norm S fl ((strings_genSplit_k47_k0_m1_loop0_L p).tl s) ((strings_genSplit_k47_k0_m1_loop0_L p).hl s) (strings_genSplit_k47_k0_m1_loop0_L p).gl := by
  intro S p s fl h
  unfold strings_genSplit_k47_k0_m1_loop0_ext at h
  (repeat' split at h) <;> first
    | (cases h; constructor <;> simp_all [strings_genSplit_k47_k0_m1_loop0_L, keepT, keepH, rens, renH, PV.ren, Blk.ren, fOf, lget, nodup, natIn, lenEq, gtm, PV.unK])
    | cases h
theorem strings_genSplit_k47_k0_m1_loop0_hpost : ∀ p r e S', (strings_genSplit_k47_k0_m1_loop0_post p r).get = some (e, S') → e = (strings_genSplit_k47_k0_m1_loop0_L p).ex r ∧ S' = LSt ((strings_genSplit_k47_k0_m1_loop0_L p).otl r) ((strings_genSplit_k47_k0_m1_loop0_L p).ohl r) ((strings_genSplit_k47_k0_m1_loop0_L p).ogl r) := by
  intro p r e S' h
  unfold strings_genSplit_k47_k0_m1_loop0_post at h
  simp only [DT.get, Option.some.injEq, Prod.mk.injEq] at h; exact ⟨h.1.symm, h.2.symm⟩

def strings_genSplit_k47_k0_m1_loops : Nat → Option LoopF := loopTab [(11, strings_genSplit_k47_k0_m1_loop0_F)]
set_option maxRecDepth 100000 in
theorem strings_genSplit_k47_k0_m1_l0 : LoopOK Tryz.prog ⟨gam [(47, strings_Count_k47_c), (48, strings_Index_k47_c)], tab, 66, strings_genSplit_k47_k0_m1_loops⟩ (lp Tryz.f33 0) :=
  loopOK_some (F := strings_genSplit_k47_k0_m1_loop0_F) (by kernel_rfl) (loopF_ok (E := ⟨gam [(47, strings_Count_k47_c), (48, strings_Index_k47_c)], tab, 66, strings_genSplit_k47_k0_m1_loops⟩) ⟨gam_cons strings_Count_k47_ok (gam_cons strings_Index_k47_ok (gam_nil)), tab_ok, by kernel_rfl⟩ (fuel := 100000) (loopsOK_list (l := []) (by kernel_rfl) trivial) (L := strings_genSplit_k47_k0_m1_loop0_L) (fun p s => by unfold AgreeL; exact ⟨by kernel_rfl, by kernel_rfl⟩) (fun _ _ h => Ex.noConfusion h) strings_genSplit_k47_k0_m1_loop0_hext strings_genSplit_k47_k0_m1_loop0_hpost)
/-- strings.genSplit -/
def strings_genSplit_k47_k0_m1_tree (a0 : (List UInt8)) : DT (List (List UInt8)) :=
  .skip (
  .skip (
  .skip (
  let x0 := strings_Count_k47 a0;
  let x1 := IntKind.wrap .i64 (x0 + 1);
  let x2 := ((List.length a0 : Nat) : Int);
  let x3 := IntKind.wrap .i64 (x2 + 1);
  let x4 := (bif decide (x3 < x1) then x3 else x1);
  .need ((decide (0 ≤ x4) && decide (x4 ≤ x4) && decide (16 * x4 ≤ 281474976710656) && decide (x4 ≤ 9223372036854775807))) (
  let x5 := List.replicate (Int.toNat x4) [];
  let x6 := IntKind.wrap .i64 (x4 - 1);
  .need ((strings_genSplit_k47_k0_m1_loop0_ends (0, x6) (a0, 0, x5))) (
  let x7 := strings_genSplit_k47_k0_m1_loop0 (0, x6) (a0, 0, x5);
  .need ((decide (0 ≤ x7.2.1) && decide (x7.2.1 < ((List.length x7.2.2 : Nat) : Int)))) (
  .need ((decide ((Int.toNat x7.2.1) < List.length x7.2.2))) (
  let x8 := List.set x7.2.2 (Int.toNat x7.2.1) x7.1;
  let x9 := IntKind.wrap .i64 (x7.2.1 + 1);
  .need ((decide (0 ≤ x9) && decide (x9 ≤ ((List.length x8 : Nat) : Int)))) (
  .leaf ((List.take ((Int.toNat x9) - 0) x8))))))))))
def strings_genSplit_k47_k0_m1 (a0 : (List UInt8)) : List (List UInt8) := (strings_genSplit_k47_k0_m1_tree a0).val
def strings_genSplit_k47_k0_m1_need (a0 : (List UInt8)) : Bool := (strings_genSplit_k47_k0_m1_tree a0).ok
def strings_genSplit_k47_k0_m1_mk (p : List (List UInt8)) : Ret := ⟨.own 0, [.typed 9 .str p]⟩
def strings_genSplit_k47_k0_m1_c : Con := fun args => match args with
  | [.str a0, .str a1, .int .i64 a2, .int .i64 a3] => bif decide (a1 = ([47] : List UInt8)) then (bif decide (a2 = (0 : Int)) then (bif decide (a3 = ((-1) : Int)) then (some (.need (strings_genSplit_k47_k0_m1_need a0) (.leaf (strings_genSplit_k47_k0_m1_mk (strings_genSplit_k47_k0_m1 a0))))) else none) else none) else none
  | _ => none
set_option maxRecDepth 100000 in
theorem strings_genSplit_k47_k0_m1_ok : FunOK Tryz.prog 33 strings_genSplit_k47_k0_m1_c.fn := by
  refine con_ok (Γ := gam [(47, strings_Count_k47_c), (48, strings_Index_k47_c)]) (gam_cons strings_Count_k47_ok (gam_cons strings_Index_k47_ok (gam_nil))) tab_ok (by kernel_rfl) Tryz.func33 (by kernel_rfl) (by kernel_rfl) Tryz.ntmps33 Tryz.results33 (loops := strings_genSplit_k47_k0_m1_loops) (loopsOK_list (l := [lp Tryz.f33 0]) (by kernel_rfl) ⟨strings_genSplit_k47_k0_m1_l0, trivial⟩) 100000 fun args t h => ?_
  unfold strings_genSplit_k47_k0_m1_c at h
  split at h
  · rename_i a0 a1 a2 a3
    obtain ⟨hk1, h⟩ := bif_some h
    obtain ⟨hk2, h⟩ := bif_some h
    obtain ⟨hk3, h⟩ := bif_some h
    subst hk1 hk2 hk3
    cases h
    exact ⟨rfl, agree_need (mk := strings_genSplit_k47_k0_m1_mk) (t := strings_genSplit_k47_k0_m1_tree a0) (by unfold Agree; kernel_rfl)⟩
  · cases h

/-- strings.Split -/
def strings_Split_k47_tree (a0 : (List UInt8)) : DT (List (List UInt8)) :=
  .need ((strings_genSplit_k47_k0_m1_need a0)) (
  let x0 := strings_genSplit_k47_k0_m1 a0;
  .leaf x0)
def strings_Split_k47 (a0 : (List UInt8)) : List (List UInt8) := (strings_Split_k47_tree a0).val
def strings_Split_k47_need (a0 : (List UInt8)) : Bool := (strings_Split_k47_tree a0).ok
def strings_Split_k47_mk (p : List (List UInt8)) : Ret := ⟨.own 0, [.typed 9 .str p]⟩
def strings_Split_k47_c : Con := fun args => match args with
  | [.str a0, .str a1] => bif decide (a1 = ([47] : List UInt8)) then (some (.need (strings_Split_k47_need a0) (.leaf (strings_Split_k47_mk (strings_Split_k47 a0))))) else none
  | _ => none
set_option maxRecDepth 100000 in
theorem strings_Split_k47_ok : FunOK Tryz.prog 17 strings_Split_k47_c.fn := by
  refine con_ok (Γ := gam [(33, strings_genSplit_k47_k0_m1_c)]) (gam_cons strings_genSplit_k47_k0_m1_ok (gam_nil)) tab_ok (by kernel_rfl) Tryz.func17 (by kernel_rfl) (by kernel_rfl) Tryz.ntmps17 Tryz.results17 (loopsOK_none rfl _) 100000 fun args t h => ?_
  unfold strings_Split_k47_c at h
  split at h
  · rename_i a0 a1
    obtain ⟨hk1, h⟩ := bif_some h
    subst hk1
    cases h
    exact ⟨rfl, agree_need (mk := strings_Split_k47_mk) (t := strings_Split_k47_tree a0) (by unfold Agree; kernel_rfl)⟩
  · cases h

/-- loop.example/g01284/impl.unslashed -/
def impl_unslashed_tree (a0 : (List UInt8)) : DT ((Unit) ⊕ (List (List UInt8))) :=
  let x0 := (a0 == [110, 111, 110, 101]);
  .ask x0
  (
   .leaf (.inl ()))
  (
   .need ((strings_Split_k47_need a0)) (
   let x1 := strings_Split_k47 a0;
   .leaf (.inr x1)))
def impl_unslashed (a0 : (List UInt8)) : (Unit) ⊕ (List (List UInt8)) := (impl_unslashed_tree a0).val
def impl_unslashed_need (a0 : (List UInt8)) : Bool := (impl_unslashed_tree a0).ok
def impl_unslashed_mk0 (p : Unit) : Ret := ⟨.nils, []⟩
def impl_unslashed_mk1 (p : List (List UInt8)) : Ret := ⟨.own 0, [.typed 9 .str p]⟩
def impl_unslashed_mk : (Unit) ⊕ (List (List UInt8)) → Ret := fun v => match v with
  | (.inl p) => impl_unslashed_mk0 p
  | (.inr p) => impl_unslashed_mk1 p
def impl_unslashed_forms (v : (Unit) ⊕ (List (List UInt8))) : DT Ret := .ask (isL v) (.leaf (impl_unslashed_mk0 (leftD v))) (.leaf (impl_unslashed_mk1 (rightD v)))
theorem impl_unslashed_forms_get : ∀ v, (impl_unslashed_forms v).get = some (impl_unslashed_mk v) := by
  intro v
  rcases v with v | v <;> rfl
def impl_unslashed_c : Con := fun args => match args with
  | [.str a0] => some (.need (impl_unslashed_need a0) (impl_unslashed_forms (impl_unslashed a0)))
  | _ => none
set_option maxRecDepth 100000 in
theorem impl_unslashed_ok : FunOK Tryz.prog 16 impl_unslashed_c.fn := by
  refine con_ok (Γ := gam [(17, strings_Split_k47_c)]) (gam_cons strings_Split_k47_ok (gam_nil)) tab_ok (by kernel_rfl) Tryz.func16 (by kernel_rfl) (by kernel_rfl) Tryz.ntmps16 Tryz.results16 (loopsOK_none rfl _) 100000 fun args t h => ?_
  unfold impl_unslashed_c at h
  split at h
  · rename_i a0
    cases h
    exact ⟨rfl, agree_forms (mk := impl_unslashed_mk) (t := impl_unslashed_tree a0) (by unfold Agree; kernel_rfl) (fun h => h) (impl_unslashed_forms_get _)⟩
  · cases h

/-- strings.Count -/
def strings_Count_k44_tree (a0 : (List UInt8)) : DT (Int) :=
  .skip (
  .skip (
  .skip (
  let x0 := ((Go.Lib.countByte a0 (Nat.toUInt8 (Int.toNat 44)) : Nat) : Int);
  .leaf x0)))
def strings_Count_k44 (a0 : (List UInt8)) : Int := (strings_Count_k44_tree a0).val
def strings_Count_k44_mk (p : Int) : Ret := ⟨.int .i64 p, []⟩
def strings_Count_k44_c : Con := fun args => match args with
  | [.str a0, .str a1] => bif decide (a1 = ([44] : List UInt8)) then (some (.leaf (strings_Count_k44_mk (strings_Count_k44 a0)))) else none
  | _ => none
set_option maxRecDepth 100000 in
theorem strings_Count_k44_ok : FunOK Tryz.prog 47 strings_Count_k44_c.fn := by
  refine con_ok (Γ := gam [(66, internal_bytealg_CountString_c)]) (gam_cons internal_bytealg_CountString_ok (gam_nil)) tab_ok (by kernel_rfl) Tryz.func47 (by kernel_rfl) (by kernel_rfl) Tryz.ntmps47 Tryz.results47 (loopsOK_none rfl _) 100000 fun args t h => ?_
  unfold strings_Count_k44_c at h
  split at h
  · rename_i a0 a1
    obtain ⟨hk1, h⟩ := bif_some h
    subst hk1
    cases h
    exact ⟨rfl, agree_tot (mk := strings_Count_k44_mk) (t := strings_Count_k44_tree a0) (by unfold Agree; kernel_rfl) (by kernel_rfl)⟩
  · cases h

/-- internal/stringslite.Index -/
def internal_stringslite_Index_k44_tree (a0 : (List UInt8)) : DT (Int) :=
  .skip (
  .skip (
  .skip (
  let x0 := ([44] == a0);
  .skip (
  .ask x0
  (
   .leaf 0)
  (
   .skip (
   .skip (
   let x1 := internal_stringslite_IndexByte a0 44;
   .leaf x1)))))))
def internal_stringslite_Index_k44 (a0 : (List UInt8)) : Int := (internal_stringslite_Index_k44_tree a0).val
def internal_stringslite_Index_k44_mk (p : Int) : Ret := ⟨.int .i64 p, []⟩
def internal_stringslite_Index_k44_c : Con := fun args => match args with
  | [.str a0, .str a1] => bif decide (a1 = ([44] : List UInt8)) then (some (.leaf (internal_stringslite_Index_k44_mk (internal_stringslite_Index_k44 a0)))) else none
  | _ => none
set_option maxRecDepth 100000 in
theorem internal_stringslite_Index_k44_ok : FunOK Tryz.prog 56 internal_stringslite_Index_k44_c.fn := by
  refine con_ok (Γ := gam [(75, internal_stringslite_IndexByte_c)]) (gam_cons internal_stringslite_IndexByte_ok (gam_nil)) tab_ok (by kernel_rfl) Tryz.func56 (by kernel_rfl) (by kernel_rfl) Tryz.ntmps56 Tryz.results56 (loopsOK_none rfl _) 100000 fun args t h => ?_
  unfold internal_stringslite_Index_k44_c at h
  split at h
  · rename_i a0 a1
    obtain ⟨hk1, h⟩ := bif_some h
    subst hk1
    cases h
    exact ⟨rfl, agree_tot (mk := internal_stringslite_Index_k44_mk) (t := internal_stringslite_Index_k44_tree a0) (by unfold Agree; kernel_rfl) (by kernel_rfl)⟩
  · cases h

/-- strings.Index -/
def strings_Index_k44_tree (a0 : (List UInt8)) : DT (Int) :=
  let x0 := internal_stringslite_Index_k44 a0;
  .leaf x0
def strings_Index_k44 (a0 : (List UInt8)) : Int := (strings_Index_k44_tree a0).val
def strings_Index_k44_mk (p : Int) : Ret := ⟨.int .i64 p, []⟩
def strings_Index_k44_c : Con := fun args => match args with
  | [.str a0, .str a1] => bif decide (a1 = ([44] : List UInt8)) then (some (.leaf (strings_Index_k44_mk (strings_Index_k44 a0)))) else none
  | _ => none
set_option maxRecDepth 100000 in
theorem strings_Index_k44_ok : FunOK Tryz.prog 48 strings_Index_k44_c.fn := by
  refine con_ok (Γ := gam [(56, internal_stringslite_Index_k44_c)]) (gam_cons internal_stringslite_Index_k44_ok (gam_nil)) tab_ok (by kernel_rfl) Tryz.func48 (by kernel_rfl) (by kernel_rfl) Tryz.ntmps48 Tryz.results48 (loopsOK_none rfl _) 100000 fun args t h => ?_
  unfold strings_Index_k44_c at h
  split at h
  · rename_i a0 a1
    obtain ⟨hk1, h⟩ := bif_some h
    subst hk1
    cases h
    exact ⟨rfl, agree_tot (mk := strings_Index_k44_mk) (t := strings_Index_k44_tree a0) (by unfold Agree; kernel_rfl) (by kernel_rfl)⟩
  · cases h

/-- a loop of strings_genSplit_k44_k0_m1 -/
def strings_genSplit_k44_k0_m1_loop0_step (p : Int × Int) (s : (List UInt8) × Int × List (List UInt8)) : Round ((List UInt8) × Int × List (List UInt8)) ((List UInt8) × Int × List (List UInt8)) :=
  let x0 := decide (s.2.1 < p.2);
  .ask x0
  (
   let x1 := strings_Index_k44 s.1;
   let x2 := decide (x1 < 0);
   .ask x2
   (
    .leaf (.inr (s.1, s.2.1, s.2.2), [0]))
   (
    let x3 := IntKind.wrap .i64 (x1 + p.1);
    .need ((decide (0 ≤ x3) && decide (x3 ≤ ((List.length s.1 : Nat) : Int)))) (
    let x4 := List.drop 0 (List.take (Int.toNat x3) s.1);
    .need ((decide (0 ≤ s.2.1) && decide (s.2.1 < ((List.length s.2.2 : Nat) : Int)))) (
    .need ((decide ((Int.toNat s.2.1) < List.length s.2.2))) (
    let x5 := List.set s.2.2 (Int.toNat s.2.1) x4;
    let x6 := IntKind.wrap .i64 (x1 + 1);
    .need ((decide (0 ≤ x6) && decide (x6 ≤ (((List.length s.1) : Nat) : Int)))) (
    let x7 := List.drop (Int.toNat x6) (List.take (List.length s.1) s.1);
    let x8 := IntKind.wrap .i64 (s.2.1 + 1);
    .leaf (.inl (x7, x8, x5), [0])))))))
  (
   .leaf (.inr (s.1, s.2.1, s.2.2), [0]))
def strings_genSplit_k44_k0_m1_loop0_L (p : Int × Int) : LoopS ((List UInt8) × Int × List (List UInt8)) ((List UInt8) × Int × List (List UInt8)) := { tl := fun s => [.str s.1, .str [44], .int .i64 p.1, .int .i64 p.2, .junk, .junk, .junk, .junk, .junk, .own 0, .int .i64 s.2.1], hl := fun s => [some (.typed 9 .str s.2.2)], ex := fun r => .exit 0, otl := fun r => [.str r.1, .junk, .junk, .junk, .junk, .junk, .junk, .junk, .junk, .own 0, .int .i64 r.2.1], ohl := fun r => [some (.typed 9 .str r.2.2)] }
def strings_genSplit_k44_k0_m1_loop0_ext : St → Option ((Int × Int) × ((List UInt8) × Int × List (List UInt8)) × List Nat) := fun S => match (S.tm 0).unK, (S.tm 1).unK, (S.tm 2).unK, (S.tm 3).unK, (S.tm 9).unK, (S.tm 10).unK with
  | .str q0, .str q1, .int .i64 q2, .int .i64 q3, .own i0, .int .i64 q4 => (match S.hp i0 with
    | some (.typed 9 .str q5) => (if q1 = ([44] : List UInt8) then some ((q2, q3), (q0, q4, q5), [i0]) else none)
    | _ => none)
  | _, _, _, _, _, _ => none
def strings_genSplit_k44_k0_m1_loop0_post (p : Int × Int) (r : (List UInt8) × Int × List (List UInt8)) : DT (Ex × St) := .leaf (.exit 0, LSt [.str r.1, .junk, .junk, .junk, .junk, .junk, .junk, .junk, .junk, .own 0, .int .i64 r.2.1] [some (.typed 9 .str r.2.2)])
def strings_genSplit_k44_k0_m1_loop0 (p : Int × Int) (s : (List UInt8) × Int × List (List UInt8)) : (List UInt8) × Int × List (List UInt8) := loopVal (strings_genSplit_k44_k0_m1_loop0_step p) s
def strings_genSplit_k44_k0_m1_loop0_ends (p : Int × Int) (s : (List UInt8) × Int × List (List UInt8)) : Bool := loopEnds (strings_genSplit_k44_k0_m1_loop0_step p) s
def strings_genSplit_k44_k0_m1_loop0_F : LoopF := loopF strings_genSplit_k44_k0_m1_loop0_step strings_genSplit_k44_k0_m1_loop0_ext strings_genSplit_k44_k0_m1_loop0_post
theorem strings_genSplit_k44_k0_m1_loop0_hext : ∀ S p s fl, strings_genSplit_k44_k0_m1_loop0_ext S = some (p, s, fl) → Norm S fl ((strings_genSplit_k44_k0_m1_loop0_L p).tl s) ((strings_genSplit_k44_k0_m1_loop0_L p).hl s) (strings_genSplit_k44_k0_m1_loop0_L p).gl := by
  intro S p s fl h
  unfold strings_genSplit_k44_k0_m1_loop0_ext at h
  (repeat' split at h) <;> first
    | (cases h; constructor <;> simp_all [strings_genSplit_k44_k0_m1_loop0_L, keepT, keepH, rens, renH, PV.ren, Blk.ren, fOf, lget, nodup, natIn, lenEq, gtm, PV.unK])
    | cases h
theorem strings_genSplit_k44_k0_m1_loop0_hpost : ∀ p r e S', (strings_genSplit_k44_k0_m1_loop0_post p r).get = some (e, S') → e = (strings_genSplit_k44_k0_m1_loop0_L p).ex r ∧ S' = LSt ((strings_genSplit_k44_k0_m1_loop0_L p).otl r) ((strings_genSplit_k44_k0_m1_loop0_L p).ohl r) ((strings_genSplit_k44_k0_m1_loop0_L p).ogl r) := by
  intro p r e S' h
  unfold strings_genSplit_k44_k0_m1_loop0_post at h
  simp only [DT.get, Option.some.injEq, Prod.mk.injEq] at h; exact ⟨h.1.symm, h.2.symm⟩

def strings_genSplit_k44_k0_m1_loops : Nat → Option LoopF := loopTab [(11, strings_genSplit_k44_k0_m1_loop0_F)]
set_option maxRecDepth 100000 in
theorem strings_genSplit_k44_k0_m1_l0 : LoopOK Tryz.prog ⟨gam [(47, strings_Count_k44_c), (48, strings_Index_k44_c)], tab, 66, strings_genSplit_k44_k0_m1_loops⟩ (lp Tryz.f33 0) :=
  loopOK_some (F := strings_genSplit_k44_k0_m1_loop0_F) (by kernel_rfl) (loopF_ok (E := ⟨gam [(47, strings_Count_k44_c), (48, strings_Index_k44_c)], tab, 66, strings_genSplit_k44_k0_m1_loops⟩) ⟨gam_cons strings_Count_k44_ok (gam_cons strings_Index_k44_ok (gam_nil)), tab_ok, by kernel_rfl⟩ (fuel := 100000) (loopsOK_list (l := []) (by kernel_rfl) trivial) (L := strings_genSplit_k44_k0_m1_loop0_L) (fun p s => by unfold AgreeL; exact ⟨by kernel_rfl, by kernel_rfl⟩) (fun _ _ h => Ex.noConfusion h) strings_genSplit_k44_k0_m1_loop0_hext strings_genSplit_k44_k0_m1_loop0_hpost)
/-- strings.genSplit -/
def strings_genSplit_k44_k0_m1_tree (a0 : (List UInt8)) : DT (List (List UInt8)) :=
  .skip (
  .skip (
  .skip (
  let x0 := strings_Count_k44 a0;
  let x1 := IntKind.wrap .i64 (x0 + 1);
  let x2 := ((List.length a0 : Nat) : Int);
  let x3 := IntKind.wrap .i64 (x2 + 1);
  let x4 := (bif decide (x3 < x1) then x3 else x1);
  .need ((decide (0 ≤ x4) && decide (x4 ≤ x4) && decide (16 * x4 ≤ 281474976710656) && decide (x4 ≤ 9223372036854775807))) (
  let x5 := List.replicate (Int.toNat x4) [];
  let x6 := IntKind.wrap .i64 (x4 - 1);
  .need ((strings_genSplit_k44_k0_m1_loop0_ends (0, x6) (a0, 0, x5))) (
  let x7 := strings_genSplit_k44_k0_m1_loop0 (0, x6) (a0, 0, x5);
  .need ((decide (0 ≤ x7.2.1) && decide (x7.2.1 < ((List.length x7.2.2 : Nat) : Int)))) (
  .need ((decide ((Int.toNat x7.2.1) < List.length x7.2.2))) (
  let x8 := List.set x7.2.2 (Int.toNat x7.2.1) x7.1;
  let x9 := IntKind.wrap .i64 (x7.2.1 + 1);
  .need ((decide (0 ≤ x9) && decide (x9 ≤ ((List.length x8 : Nat) : Int)))) (
  .leaf ((List.take ((Int.toNat x9) - 0) x8))))))))))
def strings_genSplit_k44_k0_m1 (a0 : (List UInt8)) : List (List UInt8) := (strings_genSplit_k44_k0_m1_tree a0).val
def strings_genSplit_k44_k0_m1_need (a0 : (List UInt8)) : Bool := (strings_genSplit_k44_k0_m1_tree a0).ok
def strings_genSplit_k44_k0_m1_mk (p : List (List UInt8)) : Ret := ⟨.own 0, [.typed 9 .str p]⟩
def strings_genSplit_k44_k0_m1_c : Con := fun args => match args with
  | [.str a0, .str a1, .int .i64 a2, .int .i64 a3] => bif decide (a1 = ([44] : List UInt8)) then (bif decide (a2 = (0 : Int)) then (bif decide (a3 = ((-1) : Int)) then (some (.need (strings_genSplit_k44_k0_m1_need a0) (.leaf (strings_genSplit_k44_k0_m1_mk (strings_genSplit_k44_k0_m1 a0))))) else none) else none) else none
  | _ => none
set_option maxRecDepth 100000 in
theorem strings_genSplit_k44_k0_m1_ok : FunOK Tryz.prog 33 strings_genSplit_k44_k0_m1_c.fn := by
  refine con_ok (Γ := gam [(47, strings_Count_k44_c), (48, strings_Index_k44_c)]) (gam_cons strings_Count_k44_ok (gam_cons strings_Index_k44_ok (gam_nil))) tab_ok (by kernel_rfl) Tryz.func33 (by kernel_rfl) (by kernel_rfl) Tryz.ntmps33 Tryz.results33 (loops := strings_genSplit_k44_k0_m1_loops) (loopsOK_list (l := [lp Tryz.f33 0]) (by kernel_rfl) ⟨strings_genSplit_k44_k0_m1_l0, trivial⟩) 100000 fun args t h => ?_
  unfold strings_genSplit_k44_k0_m1_c at h
  split at h
  · rename_i a0 a1 a2 a3
    obtain ⟨hk1, h⟩ := bif_some h
    obtain ⟨hk2, h⟩ := bif_some h
    obtain ⟨hk3, h⟩ := bif_some h
    subst hk1 hk2 hk3
    cases h
    exact ⟨rfl, agree_need (mk := strings_genSplit_k44_k0_m1_mk) (t := strings_genSplit_k44_k0_m1_tree a0) (by unfold Agree; kernel_rfl)⟩
  · cases h

/-- strings.Split -/
def strings_Split_k44_tree (a0 : (List UInt8)) : DT (List (List UInt8)) :=
  .need ((strings_genSplit_k44_k0_m1_need a0)) (
  let x0 := strings_genSplit_k44_k0_m1 a0;
  .leaf x0)
def strings_Split_k44 (a0 : (List UInt8)) : List (List UInt8) := (strings_Split_k44_tree a0).val
def strings_Split_k44_need (a0 : (List UInt8)) : Bool := (strings_Split_k44_tree a0).ok
def strings_Split_k44_mk (p : List (List UInt8)) : Ret := ⟨.own 0, [.typed 9 .str p]⟩
def strings_Split_k44_c : Con := fun args => match args with
  | [.str a0, .str a1] => bif decide (a1 = ([44] : List UInt8)) then (some (.need (strings_Split_k44_need a0) (.leaf (strings_Split_k44_mk (strings_Split_k44 a0))))) else none
  | _ => none
set_option maxRecDepth 100000 in
theorem strings_Split_k44_ok : FunOK Tryz.prog 17 strings_Split_k44_c.fn := by
  refine con_ok (Γ := gam [(33, strings_genSplit_k44_k0_m1_c)]) (gam_cons strings_genSplit_k44_k0_m1_ok (gam_nil)) tab_ok (by kernel_rfl) Tryz.func17 (by kernel_rfl) (by kernel_rfl) Tryz.ntmps17 Tryz.results17 (loopsOK_none rfl _) 100000 fun args t h => ?_
  unfold strings_Split_k44_c at h
  split at h
  · rename_i a0 a1
    obtain ⟨hk1, h⟩ := bif_some h
    subst hk1
    cases h
    exact ⟨rfl, agree_need (mk := strings_Split_k44_mk) (t := strings_Split_k44_tree a0) (by unfold Agree; kernel_rfl)⟩
  · cases h

/-- loop.example/g01284/impl.apart -/
def impl_apart_tree (a0 : (List UInt8)) : DT ((Unit) ⊕ (List (List UInt8) × Bool)) :=
  let x0 := (a0 == [110, 111, 110, 101]);
  .ask x0
  (
   .leaf (.inl ()))
  (
   .need ((strings_Split_k44_need a0)) (
   let x1 := strings_Split_k44 a0;
   let x2 := ((List.length x1 : Nat) : Int);
   let x3 := decide (x2 ≤ 256);
   .leaf (.inr (x1, x3))))
def impl_apart (a0 : (List UInt8)) : (Unit) ⊕ (List (List UInt8) × Bool) := (impl_apart_tree a0).val
def impl_apart_need (a0 : (List UInt8)) : Bool := (impl_apart_tree a0).ok
def impl_apart_mk0 (p : Unit) : Ret := ⟨.tup [.nils, .bool true], []⟩
def impl_apart_mk1 (p : List (List UInt8) × Bool) : Ret := ⟨.tup [.own 0, .bool p.2], [.typed 9 .str p.1]⟩
def impl_apart_mk : (Unit) ⊕ (List (List UInt8) × Bool) → Ret := fun v => match v with
  | (.inl p) => impl_apart_mk0 p
  | (.inr p) => impl_apart_mk1 p
def impl_apart_forms (v : (Unit) ⊕ (List (List UInt8) × Bool)) : DT Ret := .ask (isL v) (.leaf (impl_apart_mk0 (leftD v))) (.leaf (impl_apart_mk1 (rightD v)))
theorem impl_apart_forms_get : ∀ v, (impl_apart_forms v).get = some (impl_apart_mk v) := by
  intro v
  rcases v with v | v <;> rfl
def impl_apart_c : Con := fun args => match args with
  | [.str a0] => some (.need (impl_apart_need a0) (impl_apart_forms (impl_apart a0)))
  | _ => none
set_option maxRecDepth 100000 in
theorem impl_apart_ok : FunOK Tryz.prog 41 impl_apart_c.fn := by
  refine con_ok (Γ := gam [(17, strings_Split_k44_c)]) (gam_cons strings_Split_k44_ok (gam_nil)) tab_ok (by kernel_rfl) Tryz.func41 (by kernel_rfl) (by kernel_rfl) Tryz.ntmps41 Tryz.results41 (loopsOK_none rfl _) 100000 fun args t h => ?_
  unfold impl_apart_c at h
  split at h
  · rename_i a0
    cases h
    exact ⟨rfl, agree_forms (mk := impl_apart_mk) (t := impl_apart_tree a0) (by unfold Agree; kernel_rfl) (fun h => h) (impl_apart_forms_get _)⟩
  · cases h

/-- internal/strconv.lower -/
def internal_strconv_lower_tree (a0 : Int) : DT (Int) :=
  let x0 := IntKind.wrap .u8 (BitVec.ofInt (IntKind.bits .u8) a0 ||| BitVec.ofInt (IntKind.bits .u8) 32).toNat;
  .leaf x0
def internal_strconv_lower (a0 : Int) : Int := (internal_strconv_lower_tree a0).val
def internal_strconv_lower_mk (p : Int) : Ret := ⟨.int .u8 p, []⟩
def internal_strconv_lower_c : Con := fun args => match args with
  | [.int .u8 a0] => some (.leaf (internal_strconv_lower_mk (internal_strconv_lower a0)))
  | _ => none
set_option maxRecDepth 100000 in
theorem internal_strconv_lower_ok : FunOK Tryz.prog 98 internal_strconv_lower_c.fn := by
  refine con_ok (Γ := gam []) (gam_nil) tab_ok (by kernel_rfl) Tryz.func98 (by kernel_rfl) (by kernel_rfl) Tryz.ntmps98 Tryz.results98 (loopsOK_none rfl _) 100000 fun args t h => ?_
  unfold internal_strconv_lower_c at h
  split at h
  · rename_i a0
    cases h
    exact ⟨rfl, agree_tot (mk := internal_strconv_lower_mk) (t := internal_strconv_lower_tree a0) (by unfold Agree; kernel_rfl) (by kernel_rfl)⟩
  · cases h

/-- a loop of internal_strconv_underscoreOK -/
def internal_strconv_underscoreOK_loop0_step (p : (List UInt8) × Bool) (s : Int × Int) : Round (Int × Int) ((Unit) ⊕ (Int)) :=
  let x0 := ((List.length p.1 : Nat) : Int);
  let x1 := decide (s.2 < x0);
  .ask x1
  (
   .need ((decide (0 ≤ s.2) && decide (s.2 < ((List.length p.1 : Nat) : Int)))) (
   let x2 := ((List.getD (p.1 : List UInt8) (Int.toNat s.2) 0).toNat : Int);
   let x3 := decide (48 ≤ x2);
   .ask x3
   (
    .need ((decide (0 ≤ s.2) && decide (s.2 < ((List.length p.1 : Nat) : Int)))) (
    let x4 := ((List.getD (p.1 : List UInt8) (Int.toNat s.2) 0).toNat : Int);
    let x5 := decide (x4 ≤ 57);
    .ask x5
    (
     let x6 := IntKind.wrap .i64 (s.2 + 1);
     .leaf (.inl (48, x6), []))
    (
     .ask p.2
     (
      .need ((decide (0 ≤ s.2) && decide (s.2 < ((List.length p.1 : Nat) : Int)))) (
      let x6 := ((List.getD (p.1 : List UInt8) (Int.toNat s.2) 0).toNat : Int);
      let x7 := internal_strconv_lower x6;
      let x8 := decide (97 ≤ x7);
      .ask x8
      (
       .need ((decide (0 ≤ s.2) && decide (s.2 < ((List.length p.1 : Nat) : Int)))) (
       let x9 := ((List.getD (p.1 : List UInt8) (Int.toNat s.2) 0).toNat : Int);
       let x10 := internal_strconv_lower x9;
       let x11 := decide (x10 ≤ 102);
       .ask x11
       (
        let x12 := IntKind.wrap .i64 (s.2 + 1);
        .leaf (.inl (48, x12), []))
       (
        .need ((decide (0 ≤ s.2) && decide (s.2 < ((List.length p.1 : Nat) : Int)))) (
        let x12 := ((List.getD (p.1 : List UInt8) (Int.toNat s.2) 0).toNat : Int);
        let x13 := (x12 == 95);
        .ask x13
        (
         let x14 := (s.1 != 48);
         .ask x14
         (
          .leaf (.inr (.inl ()), []))
         (
          let x15 := IntKind.wrap .i64 (s.2 + 1);
          .leaf (.inl (95, x15), [])))
        (
         let x14 := (s.1 == 95);
         .ask x14
         (
          .leaf (.inr (.inl ()), []))
         (
          let x15 := IntKind.wrap .i64 (s.2 + 1);
          .leaf (.inl (33, x15), [])))))))
      (
       .need ((decide (0 ≤ s.2) && decide (s.2 < ((List.length p.1 : Nat) : Int)))) (
       let x9 := ((List.getD (p.1 : List UInt8) (Int.toNat s.2) 0).toNat : Int);
       let x10 := (x9 == 95);
       .ask x10
       (
        let x11 := (s.1 != 48);
        .ask x11
        (
         .leaf (.inr (.inl ()), []))
        (
         let x12 := IntKind.wrap .i64 (s.2 + 1);
         .leaf (.inl (95, x12), [])))
       (
        let x11 := (s.1 == 95);
        .ask x11
        (
         .leaf (.inr (.inl ()), []))
        (
         let x12 := IntKind.wrap .i64 (s.2 + 1);
         .leaf (.inl (33, x12), [])))))))
     (
      .need ((decide (0 ≤ s.2) && decide (s.2 < ((List.length p.1 : Nat) : Int)))) (
      let x6 := ((List.getD (p.1 : List UInt8) (Int.toNat s.2) 0).toNat : Int);
      let x7 := (x6 == 95);
      .ask x7
      (
       let x8 := (s.1 != 48);
       .ask x8
       (
        .leaf (.inr (.inl ()), []))
       (
        let x9 := IntKind.wrap .i64 (s.2 + 1);
        .leaf (.inl (95, x9), [])))
      (
       let x8 := (s.1 == 95);
       .ask x8
       (
        .leaf (.inr (.inl ()), []))
       (
        let x9 := IntKind.wrap .i64 (s.2 + 1);
        .leaf (.inl (33, x9), []))))))))
   (
    .ask p.2
    (
     .need ((decide (0 ≤ s.2) && decide (s.2 < ((List.length p.1 : Nat) : Int)))) (
     let x4 := ((List.getD (p.1 : List UInt8) (Int.toNat s.2) 0).toNat : Int);
     let x5 := internal_strconv_lower x4;
     let x6 := decide (97 ≤ x5);
     .ask x6
     (
      .need ((decide (0 ≤ s.2) && decide (s.2 < ((List.length p.1 : Nat) : Int)))) (
      let x7 := ((List.getD (p.1 : List UInt8) (Int.toNat s.2) 0).toNat : Int);
      let x8 := internal_strconv_lower x7;
      let x9 := decide (x8 ≤ 102);
      .ask x9
      (
       let x10 := IntKind.wrap .i64 (s.2 + 1);
       .leaf (.inl (48, x10), []))
      (
       .need ((decide (0 ≤ s.2) && decide (s.2 < ((List.length p.1 : Nat) : Int)))) (
       let x10 := ((List.getD (p.1 : List UInt8) (Int.toNat s.2) 0).toNat : Int);
       let x11 := (x10 == 95);
       .ask x11
       (
        let x12 := (s.1 != 48);
        .ask x12
        (
         .leaf (.inr (.inl ()), []))
        (
         let x13 := IntKind.wrap .i64 (s.2 + 1);
         .leaf (.inl (95, x13), [])))
       (
        let x12 := (s.1 == 95);
        .ask x12
        (
         .leaf (.inr (.inl ()), []))
        (
         let x13 := IntKind.wrap .i64 (s.2 + 1);
         .leaf (.inl (33, x13), [])))))))
     (
      .need ((decide (0 ≤ s.2) && decide (s.2 < ((List.length p.1 : Nat) : Int)))) (
      let x7 := ((List.getD (p.1 : List UInt8) (Int.toNat s.2) 0).toNat : Int);
      let x8 := (x7 == 95);
      .ask x8
      (
       let x9 := (s.1 != 48);
       .ask x9
       (
        .leaf (.inr (.inl ()), []))
       (
        let x10 := IntKind.wrap .i64 (s.2 + 1);
        .leaf (.inl (95, x10), [])))
      (
       let x9 := (s.1 == 95);
       .ask x9
       (
        .leaf (.inr (.inl ()), []))
       (
        let x10 := IntKind.wrap .i64 (s.2 + 1);
        .leaf (.inl (33, x10), [])))))))
    (
     .need ((decide (0 ≤ s.2) && decide (s.2 < ((List.length p.1 : Nat) : Int)))) (
     let x4 := ((List.getD (p.1 : List UInt8) (Int.toNat s.2) 0).toNat : Int);
     let x5 := (x4 == 95);
     .ask x5
     (
      let x6 := (s.1 != 48);
      .ask x6
      (
       .leaf (.inr (.inl ()), []))
      (
       let x7 := IntKind.wrap .i64 (s.2 + 1);
       .leaf (.inl (95, x7), [])))
     (
      let x6 := (s.1 == 95);
      .ask x6
      (
       .leaf (.inr (.inl ()), []))
      (
       let x7 := IntKind.wrap .i64 (s.2 + 1);
       .leaf (.inl (33, x7), []))))))))
  (
   .leaf (.inr (.inr s.1), []))
def internal_strconv_underscoreOK_loop0_L (p : (List UInt8) × Bool) : LoopS (Int × Int) ((Unit) ⊕ (Int)) := { tl := fun s => [.str p.1, .junk, .junk, .int .i32 s.1, .int .i64 s.2, .bool p.2], hl := fun s => [], ex := fun r => match r with | .inl r => .ret | .inr r => .exit 0, otl := fun r => match r with | .inl r => [.junk, .junk, .bool false] | .inr r => [.junk, .junk, .junk, .int .i32 r], ohl := fun r => match r with | .inl r => [] | .inr r => [] }
def internal_strconv_underscoreOK_loop0_ext : St → Option (((List UInt8) × Bool) × (Int × Int) × List Nat) := fun S => match (S.tm 0).unK, (S.tm 3).unK, (S.tm 4).unK, (S.tm 5).unK with
  | .str q0, .int .i32 q1, .int .i64 q2, .bool q3 => some ((q0, q3), (q1, q2), [])
  | _, _, _, _ => none
def internal_strconv_underscoreOK_loop0_post (p : (List UInt8) × Bool) (r : (Unit) ⊕ (Int)) : DT (Ex × St) := .ask (isL r) (.leaf (.ret, LSt [.junk, .junk, .bool false] [])) (.leaf (.exit 0, LSt [.junk, .junk, .junk, .int .i32 ((rightD r))] []))
def internal_strconv_underscoreOK_loop0 (p : (List UInt8) × Bool) (s : Int × Int) : (Unit) ⊕ (Int) := loopVal (internal_strconv_underscoreOK_loop0_step p) s
def internal_strconv_underscoreOK_loop0_ends (p : (List UInt8) × Bool) (s : Int × Int) : Bool := loopEnds (internal_strconv_underscoreOK_loop0_step p) s
def internal_strconv_underscoreOK_loop0_F : LoopF := loopF internal_strconv_underscoreOK_loop0_step internal_strconv_underscoreOK_loop0_ext internal_strconv_underscoreOK_loop0_post
theorem internal_strconv_underscoreOK_loop0_hext : ∀ S p s fl, internal_strconv_underscoreOK_loop0_ext S = some (p, s, fl) → Norm S fl ((internal_strconv_underscoreOK_loop0_L p).tl s) ((internal_strconv_underscoreOK_loop0_L p).hl s) (internal_strconv_underscoreOK_loop0_L p).gl := by
  intro S p s fl h
  unfold internal_strconv_underscoreOK_loop0_ext at h
  (repeat' split at h) <;> first
    | (cases h; constructor <;> simp_all [internal_strconv_underscoreOK_loop0_L, keepT, keepH, rens, renH, PV.ren, Blk.ren, fOf, lget, nodup, natIn, lenEq, gtm, PV.unK])
    | cases h
theorem internal_strconv_underscoreOK_loop0_hpost : ∀ p r e S', (internal_strconv_underscoreOK_loop0_post p r).get = some (e, S') → e = (internal_strconv_underscoreOK_loop0_L p).ex r ∧ S' = LSt ((internal_strconv_underscoreOK_loop0_L p).otl r) ((internal_strconv_underscoreOK_loop0_L p).ohl r) ((internal_strconv_underscoreOK_loop0_L p).ogl r) := by
  intro p r e S' h
  unfold internal_strconv_underscoreOK_loop0_post at h
  cases r <;> (simp only [isL, DT.get, Option.some.injEq, Prod.mk.injEq] at h; exact ⟨h.1.symm, h.2.symm⟩)

def internal_strconv_underscoreOK_loops : Nat → Option LoopF := loopTab [(10, internal_strconv_underscoreOK_loop0_F)]
set_option maxRecDepth 100000 in
theorem internal_strconv_underscoreOK_l0 : LoopOK Tryz.prog ⟨gam [(98, internal_strconv_lower_c)], tab, 94, internal_strconv_underscoreOK_loops⟩ (lp Tryz.f99 0) :=
  loopOK_some (F := internal_strconv_underscoreOK_loop0_F) (by kernel_rfl) (loopF_ok (E := ⟨gam [(98, internal_strconv_lower_c)], tab, 94, internal_strconv_underscoreOK_loops⟩) ⟨gam_cons internal_strconv_lower_ok (gam_nil), tab_ok, by kernel_rfl⟩ (fuel := 100000) (loopsOK_list (l := []) (by kernel_rfl) trivial) (L := internal_strconv_underscoreOK_loop0_L) (fun p s => by unfold AgreeL; exact ⟨by kernel_rfl, by kernel_rfl⟩) (fun _ r h => by cases r <;> exact Ex.noConfusion h) internal_strconv_underscoreOK_loop0_hext internal_strconv_underscoreOK_loop0_hpost)
/-- internal/strconv.underscoreOK -/
def internal_strconv_underscoreOK_tree (a0 : (List UInt8)) : DT (Bool) :=
  let x0 := ((List.length a0 : Nat) : Int);
  let x1 := decide (x0 ≥ 1);
  .ask x1
  (
   .need ((decide (0 ≤ 0) && decide (0 < ((List.length a0 : Nat) : Int)))) (
   let x2 := ((List.getD (a0 : List UInt8) 0 0).toNat : Int);
   let x3 := (x2 == 45);
   .ask x3
   (
    .need ((decide (0 ≤ 1) && decide (1 ≤ (((List.length a0) : Nat) : Int)))) (
    let x4 := List.drop 1 (List.take (List.length a0) a0);
    let x5 := ((List.length x4 : Nat) : Int);
    let x6 := decide (x5 ≥ 2);
    .ask x6
    (
     .need ((decide (0 ≤ 0) && decide (0 < ((List.length x4 : Nat) : Int)))) (
     let x7 := ((List.getD (x4 : List UInt8) 0 0).toNat : Int);
     let x8 := (x7 == 48);
     .ask x8
     (
      .need ((decide (0 ≤ 1) && decide (1 < ((List.length x4 : Nat) : Int)))) (
      let x9 := ((List.getD (x4 : List UInt8) 1 0).toNat : Int);
      let x10 := internal_strconv_lower x9;
      let x11 := (x10 == 98);
      .ask x11
      (
       .need ((decide (0 ≤ 1) && decide (1 < ((List.length x4 : Nat) : Int)))) (
       let x12 := ((List.getD (x4 : List UInt8) 1 0).toNat : Int);
       let x13 := internal_strconv_lower x12;
       let x14 := (x13 == 120);
       .need ((internal_strconv_underscoreOK_loop0_ends (x4, x14) (48, 2))) (
       let x15 := internal_strconv_underscoreOK_loop0 (x4, x14) (48, 2);
       .ask ((isL x15))
       (
        .leaf false)
       (
        let x16 := ((rightD x15) != 95);
        .leaf x16))))
      (
       .need ((decide (0 ≤ 1) && decide (1 < ((List.length x4 : Nat) : Int)))) (
       let x12 := ((List.getD (x4 : List UInt8) 1 0).toNat : Int);
       let x13 := internal_strconv_lower x12;
       let x14 := (x13 == 111);
       .ask x14
       (
        .need ((decide (0 ≤ 1) && decide (1 < ((List.length x4 : Nat) : Int)))) (
        let x15 := ((List.getD (x4 : List UInt8) 1 0).toNat : Int);
        let x16 := internal_strconv_lower x15;
        let x17 := (x16 == 120);
        .need ((internal_strconv_underscoreOK_loop0_ends (x4, x17) (48, 2))) (
        let x18 := internal_strconv_underscoreOK_loop0 (x4, x17) (48, 2);
        .ask ((isL x18))
        (
         .leaf false)
        (
         let x19 := ((rightD x18) != 95);
         .leaf x19))))
       (
        .need ((decide (0 ≤ 1) && decide (1 < ((List.length x4 : Nat) : Int)))) (
        let x15 := ((List.getD (x4 : List UInt8) 1 0).toNat : Int);
        let x16 := internal_strconv_lower x15;
        let x17 := (x16 == 120);
        .ask x17
        (
         .need ((decide (0 ≤ 1) && decide (1 < ((List.length x4 : Nat) : Int)))) (
         let x18 := ((List.getD (x4 : List UInt8) 1 0).toNat : Int);
         let x19 := internal_strconv_lower x18;
         let x20 := (x19 == 120);
         .need ((internal_strconv_underscoreOK_loop0_ends (x4, x20) (48, 2))) (
         let x21 := internal_strconv_underscoreOK_loop0 (x4, x20) (48, 2);
         .ask ((isL x21))
         (
          .leaf false)
         (
          let x22 := ((rightD x21) != 95);
          .leaf x22))))
        (
         .need ((internal_strconv_underscoreOK_loop0_ends (x4, false) (94, 0))) (
         let x18 := internal_strconv_underscoreOK_loop0 (x4, false) (94, 0);
         .ask ((isL x18))
         (
          .leaf false)
         (
          let x19 := ((rightD x18) != 95);
          .leaf x19)))))))))
     (
      .need ((internal_strconv_underscoreOK_loop0_ends (x4, false) (94, 0))) (
      let x9 := internal_strconv_underscoreOK_loop0 (x4, false) (94, 0);
      .ask ((isL x9))
      (
       .leaf false)
      (
       let x10 := ((rightD x9) != 95);
       .leaf x10)))))
    (
     .need ((internal_strconv_underscoreOK_loop0_ends (x4, false) (94, 0))) (
     let x7 := internal_strconv_underscoreOK_loop0 (x4, false) (94, 0);
     .ask ((isL x7))
     (
      .leaf false)
     (
      let x8 := ((rightD x7) != 95);
      .leaf x8)))))
   (
    .need ((decide (0 ≤ 0) && decide (0 < ((List.length a0 : Nat) : Int)))) (
    let x4 := ((List.getD (a0 : List UInt8) 0 0).toNat : Int);
    let x5 := (x4 == 43);
    .ask x5
    (
     .need ((decide (0 ≤ 1) && decide (1 ≤ (((List.length a0) : Nat) : Int)))) (
     let x6 := List.drop 1 (List.take (List.length a0) a0);
     let x7 := ((List.length x6 : Nat) : Int);
     let x8 := decide (x7 ≥ 2);
     .ask x8
     (
      .need ((decide (0 ≤ 0) && decide (0 < ((List.length x6 : Nat) : Int)))) (
      let x9 := ((List.getD (x6 : List UInt8) 0 0).toNat : Int);
      let x10 := (x9 == 48);
      .ask x10
      (
       .need ((decide (0 ≤ 1) && decide (1 < ((List.length x6 : Nat) : Int)))) (
       let x11 := ((List.getD (x6 : List UInt8) 1 0).toNat : Int);
       let x12 := internal_strconv_lower x11;
       let x13 := (x12 == 98);
       .ask x13
       (
        .need ((decide (0 ≤ 1) && decide (1 < ((List.length x6 : Nat) : Int)))) (
        let x14 := ((List.getD (x6 : List UInt8) 1 0).toNat : Int);
        let x15 := internal_strconv_lower x14;
        let x16 := (x15 == 120);
        .need ((internal_strconv_underscoreOK_loop0_ends (x6, x16) (48, 2))) (
        let x17 := internal_strconv_underscoreOK_loop0 (x6, x16) (48, 2);
        .ask ((isL x17))
        (
         .leaf false)
        (
         let x18 := ((rightD x17) != 95);
         .leaf x18))))
       (
        .need ((decide (0 ≤ 1) && decide (1 < ((List.length x6 : Nat) : Int)))) (
        let x14 := ((List.getD (x6 : List UInt8) 1 0).toNat : Int);
        let x15 := internal_strconv_lower x14;
        let x16 := (x15 == 111);
        .ask x16
        (
         .need ((decide (0 ≤ 1) && decide (1 < ((List.length x6 : Nat) : Int)))) (
         let x17 := ((List.getD (x6 : List UInt8) 1 0).toNat : Int);
         let x18 := internal_strconv_lower x17;
         let x19 := (x18 == 120);
         .need ((internal_strconv_underscoreOK_loop0_ends (x6, x19) (48, 2))) (
         let x20 := internal_strconv_underscoreOK_loop0 (x6, x19) (48, 2);
         .ask ((isL x20))
         (
          .leaf false)
         (
          let x21 := ((rightD x20) != 95);
          .leaf x21))))
        (
         .need ((decide (0 ≤ 1) && decide (1 < ((List.length x6 : Nat) : Int)))) (
         let x17 := ((List.getD (x6 : List UInt8) 1 0).toNat : Int);
         let x18 := internal_strconv_lower x17;
         let x19 := (x18 == 120);
         .ask x19
         (
          .need ((decide (0 ≤ 1) && decide (1 < ((List.length x6 : Nat) : Int)))) (
          let x20 := ((List.getD (x6 : List UInt8) 1 0).toNat : Int);
          let x21 := internal_strconv_lower x20;
          let x22 := (x21 == 120);
          .need ((internal_strconv_underscoreOK_loop0_ends (x6, x22) (48, 2))) (
          let x23 := internal_strconv_underscoreOK_loop0 (x6, x22) (48, 2);
          .ask ((isL x23))
          (
           .leaf false)
          (
           let x24 := ((rightD x23) != 95);
           .leaf x24))))
         (
          .need ((internal_strconv_underscoreOK_loop0_ends (x6, false) (94, 0))) (
          let x20 := internal_strconv_underscoreOK_loop0 (x6, false) (94, 0);
          .ask ((isL x20))
          (
           .leaf false)
          (
           let x21 := ((rightD x20) != 95);
           .leaf x21)))))))))
      (
       .need ((internal_strconv_underscoreOK_loop0_ends (x6, false) (94, 0))) (
       let x11 := internal_strconv_underscoreOK_loop0 (x6, false) (94, 0);
       .ask ((isL x11))
       (
        .leaf false)
       (
        let x12 := ((rightD x11) != 95);
        .leaf x12)))))
     (
      .need ((internal_strconv_underscoreOK_loop0_ends (x6, false) (94, 0))) (
      let x9 := internal_strconv_underscoreOK_loop0 (x6, false) (94, 0);
      .ask ((isL x9))
      (
       .leaf false)
      (
       let x10 := ((rightD x9) != 95);
       .leaf x10)))))
    (
     let x6 := ((List.length a0 : Nat) : Int);
     let x7 := decide (x6 ≥ 2);
     .ask x7
     (
      .need ((decide (0 ≤ 0) && decide (0 < ((List.length a0 : Nat) : Int)))) (
      let x8 := ((List.getD (a0 : List UInt8) 0 0).toNat : Int);
      let x9 := (x8 == 48);
      .ask x9
      (
       .need ((decide (0 ≤ 1) && decide (1 < ((List.length a0 : Nat) : Int)))) (
       let x10 := ((List.getD (a0 : List UInt8) 1 0).toNat : Int);
       let x11 := internal_strconv_lower x10;
       let x12 := (x11 == 98);
       .ask x12
       (
        .need ((decide (0 ≤ 1) && decide (1 < ((List.length a0 : Nat) : Int)))) (
        let x13 := ((List.getD (a0 : List UInt8) 1 0).toNat : Int);
        let x14 := internal_strconv_lower x13;
        let x15 := (x14 == 120);
        .need ((internal_strconv_underscoreOK_loop0_ends (a0, x15) (48, 2))) (
        let x16 := internal_strconv_underscoreOK_loop0 (a0, x15) (48, 2);
        .ask ((isL x16))
        (
         .leaf false)
        (
         let x17 := ((rightD x16) != 95);
         .leaf x17))))
       (
        .need ((decide (0 ≤ 1) && decide (1 < ((List.length a0 : Nat) : Int)))) (
        let x13 := ((List.getD (a0 : List UInt8) 1 0).toNat : Int);
        let x14 := internal_strconv_lower x13;
        let x15 := (x14 == 111);
        .ask x15
        (
         .need ((decide (0 ≤ 1) && decide (1 < ((List.length a0 : Nat) : Int)))) (
         let x16 := ((List.getD (a0 : List UInt8) 1 0).toNat : Int);
         let x17 := internal_strconv_lower x16;
         let x18 := (x17 == 120);
         .need ((internal_strconv_underscoreOK_loop0_ends (a0, x18) (48, 2))) (
         let x19 := internal_strconv_underscoreOK_loop0 (a0, x18) (48, 2);
         .ask ((isL x19))
         (
          .leaf false)
         (
          let x20 := ((rightD x19) != 95);
          .leaf x20))))
        (
         .need ((decide (0 ≤ 1) && decide (1 < ((List.length a0 : Nat) : Int)))) (
         let x16 := ((List.getD (a0 : List UInt8) 1 0).toNat : Int);
         let x17 := internal_strconv_lower x16;
         let x18 := (x17 == 120);
         .ask x18
         (
          .need ((decide (0 ≤ 1) && decide (1 < ((List.length a0 : Nat) : Int)))) (
          let x19 := ((List.getD (a0 : List UInt8) 1 0).toNat : Int);
          let x20 := internal_strconv_lower x19;
          let x21 := (x20 == 120);
          .need ((internal_strconv_underscoreOK_loop0_ends (a0, x21) (48, 2))) (
          let x22 := internal_strconv_underscoreOK_loop0 (a0, x21) (48, 2);
          .ask ((isL x22))
          (
           .leaf false)
          (
           let x23 := ((rightD x22) != 95);
           .leaf x23))))
         (
          .need ((internal_strconv_underscoreOK_loop0_ends (a0, false) (94, 0))) (
          let x19 := internal_strconv_underscoreOK_loop0 (a0, false) (94, 0);
          .ask ((isL x19))
          (
           .leaf false)
          (
           let x20 := ((rightD x19) != 95);
           .leaf x20)))))))))
      (
       .need ((internal_strconv_underscoreOK_loop0_ends (a0, false) (94, 0))) (
       let x10 := internal_strconv_underscoreOK_loop0 (a0, false) (94, 0);
       .ask ((isL x10))
       (
        .leaf false)
       (
        let x11 := ((rightD x10) != 95);
        .leaf x11)))))
     (
      .need ((internal_strconv_underscoreOK_loop0_ends (a0, false) (94, 0))) (
      let x8 := internal_strconv_underscoreOK_loop0 (a0, false) (94, 0);
      .ask ((isL x8))
      (
       .leaf false)
      (
       let x9 := ((rightD x8) != 95);
       .leaf x9))))))))
  (
   let x2 := ((List.length a0 : Nat) : Int);
   let x3 := decide (x2 ≥ 2);
   .ask x3
   (
    .need ((decide (0 ≤ 0) && decide (0 < ((List.length a0 : Nat) : Int)))) (
    let x4 := ((List.getD (a0 : List UInt8) 0 0).toNat : Int);
    let x5 := (x4 == 48);
    .ask x5
    (
     .need ((decide (0 ≤ 1) && decide (1 < ((List.length a0 : Nat) : Int)))) (
     let x6 := ((List.getD (a0 : List UInt8) 1 0).toNat : Int);
     let x7 := internal_strconv_lower x6;
     let x8 := (x7 == 98);
     .ask x8
     (
      .need ((decide (0 ≤ 1) && decide (1 < ((List.length a0 : Nat) : Int)))) (
      let x9 := ((List.getD (a0 : List UInt8) 1 0).toNat : Int);
      let x10 := internal_strconv_lower x9;
      let x11 := (x10 == 120);
      .need ((internal_strconv_underscoreOK_loop0_ends (a0, x11) (48, 2))) (
      let x12 := internal_strconv_underscoreOK_loop0 (a0, x11) (48, 2);
      .ask ((isL x12))
      (
       .leaf false)
      (
       let x13 := ((rightD x12) != 95);
       .leaf x13))))
     (
      .need ((decide (0 ≤ 1) && decide (1 < ((List.length a0 : Nat) : Int)))) (
      let x9 := ((List.getD (a0 : List UInt8) 1 0).toNat : Int);
      let x10 := internal_strconv_lower x9;
      let x11 := (x10 == 111);
      .ask x11
      (
       .need ((decide (0 ≤ 1) && decide (1 < ((List.length a0 : Nat) : Int)))) (
       let x12 := ((List.getD (a0 : List UInt8) 1 0).toNat : Int);
       let x13 := internal_strconv_lower x12;
       let x14 := (x13 == 120);
       .need ((internal_strconv_underscoreOK_loop0_ends (a0, x14) (48, 2))) (
       let x15 := internal_strconv_underscoreOK_loop0 (a0, x14) (48, 2);
       .ask ((isL x15))
       (
        .leaf false)
       (
        let x16 := ((rightD x15) != 95);
        .leaf x16))))
      (
       .need ((decide (0 ≤ 1) && decide (1 < ((List.length a0 : Nat) : Int)))) (
       let x12 := ((List.getD (a0 : List UInt8) 1 0).toNat : Int);
       let x13 := internal_strconv_lower x12;
       let x14 := (x13 == 120);
       .ask x14
       (
        .need ((decide (0 ≤ 1) && decide (1 < ((List.length a0 : Nat) : Int)))) (
        let x15 := ((List.getD (a0 : List UInt8) 1 0).toNat : Int);
        let x16 := internal_strconv_lower x15;
        let x17 := (x16 == 120);
        .need ((internal_strconv_underscoreOK_loop0_ends (a0, x17) (48, 2))) (
        let x18 := internal_strconv_underscoreOK_loop0 (a0, x17) (48, 2);
        .ask ((isL x18))
        (
         .leaf false)
        (
         let x19 := ((rightD x18) != 95);
         .leaf x19))))
       (
        .need ((internal_strconv_underscoreOK_loop0_ends (a0, false) (94, 0))) (
        let x15 := internal_strconv_underscoreOK_loop0 (a0, false) (94, 0);
        .ask ((isL x15))
        (
         .leaf false)
        (
         let x16 := ((rightD x15) != 95);
         .leaf x16)))))))))
    (
     .need ((internal_strconv_underscoreOK_loop0_ends (a0, false) (94, 0))) (
     let x6 := internal_strconv_underscoreOK_loop0 (a0, false) (94, 0);
     .ask ((isL x6))
     (
      .leaf false)
     (
      let x7 := ((rightD x6) != 95);
      .leaf x7)))))
   (
    .need ((internal_strconv_underscoreOK_loop0_ends (a0, false) (94, 0))) (
    let x4 := internal_strconv_underscoreOK_loop0 (a0, false) (94, 0);
    .ask ((isL x4))
    (
     .leaf false)
    (
     let x5 := ((rightD x4) != 95);
     .leaf x5))))
def internal_strconv_underscoreOK (a0 : (List UInt8)) : Bool := (internal_strconv_underscoreOK_tree a0).val
def internal_strconv_underscoreOK_need (a0 : (List UInt8)) : Bool := (internal_strconv_underscoreOK_tree a0).ok
def internal_strconv_underscoreOK_mk (p : Bool) : Ret := ⟨.bool p, []⟩
def internal_strconv_underscoreOK_c : Con := fun args => match args with
  | [.str a0] => some (.need (internal_strconv_underscoreOK_need a0) (.leaf (internal_strconv_underscoreOK_mk (internal_strconv_underscoreOK a0))))
  | _ => none
set_option maxRecDepth 100000 in
theorem internal_strconv_underscoreOK_ok : FunOK Tryz.prog 99 internal_strconv_underscoreOK_c.fn := by
  refine con_ok (Γ := gam [(98, internal_strconv_lower_c)]) (gam_cons internal_strconv_lower_ok (gam_nil)) tab_ok (by kernel_rfl) Tryz.func99 (by kernel_rfl) (by kernel_rfl) Tryz.ntmps99 Tryz.results99 (loops := internal_strconv_underscoreOK_loops) (loopsOK_list (l := [lp Tryz.f99 0]) (by kernel_rfl) ⟨internal_strconv_underscoreOK_l0, trivial⟩) 100000 fun args t h => ?_
  unfold internal_strconv_underscoreOK_c at h
  split at h
  · rename_i a0
    cases h
    exact ⟨rfl, agree_need (mk := internal_strconv_underscoreOK_mk) (t := internal_strconv_underscoreOK_tree a0) (by unfold Agree; kernel_rfl)⟩
  · cases h

-- FAILED 79 internal/strconv.ParseUint: operation

-- FAILED 113 internal/stringslite.Clone: builtin

-- FAILED 100 strconv.syntaxError: no contract: internal/stringslite.Clone 

-- FAILED 101 strconv.rangeError: no contract: internal/stringslite.Clone 

-- FAILED 127 internal/strconv.Itoa: no contract: internal/strconv.FormatInt 

-- FAILED 115 strconv.Itoa: no contract: internal/strconv.Itoa 

-- FAILED 114 errors.New: operation

-- FAILED 102 strconv.baseError: no contract: internal/stringslite.Clone 

-- FAILED 103 strconv.bitSizeError: no contract: internal/stringslite.Clone 

-- FAILED 80 strconv.toError: param type 83

-- FAILED 57 strconv.ParseUint: no contract: internal/strconv.ParseUint 

/-- a loop of impl_ReadNumbers -/
def impl_ReadNumbers_loop0_step (p : Bool × Int × List (List UInt8)) (s : Int × List Nat) : Round (Int × List Nat) ((Unit) ⊕ (List Nat)) :=
  let x0 := decide (s.1 < p.2.1);
  .ask x0
  (
   .need ((decide (0 ≤ s.1) && decide (s.1 < ((List.length p.2.2 : Nat) : Int)))) (
   .need ((decide ((Int.toNat s.1) < List.length p.2.2))) (
   let x1 := List.getD p.2.2 (Int.toNat s.1) default;
   .need ((decide (List.length x1 ≤ 281474976710656) && impl_digits_need (canon .f32 (valP (parseS x1))))) (
   let x2 := readD x1;
   .ask (!p.1)
   (
    .leaf (.inr (.inl ()), []))
   (
    .ask (!x2.2)
    (
     .leaf (.inr (.inl ()), []))
    (
     .need ((decide ((List.length s.2 + List.length [x2.1]) * 4 ≤ 140737488355328) && decide (List.length s.2 + List.length [x2.1] ≤ 9223372036854775807))) (
     let x3 := s.2 ++ [x2.1];
     let x4 := IntKind.wrap .i64 (s.1 + 1);
     .leaf (.inl (x4, x3), [162, 1]))))))))
  (
   .leaf (.inr (.inr s.2), [0]))
def impl_ReadNumbers_loop0_L (p : Bool × Int × List (List UInt8)) : LoopS (Int × List Nat) ((Unit) ⊕ (List Nat)) := { tl := fun s => [.junk, .junk, .junk, .junk, .junk, .bool p.1, .own 0, .junk, .junk, .junk, .junk, .junk, .junk, .junk, .junk, .junk, .junk, .own 1, .int .i64 p.2.1, .int .i64 s.1], hl := fun s => [some (.typed 36 (.flt .f32) s.2), some (.typed 9 .str p.2.2)], ex := fun r => match r with | .inl r => .ret | .inr r => .exit 0, otl := fun r => match r with | .inl r => [.junk, .junk, .nils, .bool false] | .inr r => [.junk, .junk, .junk, .junk, .junk, .bool p.1, .own 0], ohl := fun r => match r with | .inl r => [] | .inr r => [some (.typed 36 (.flt .f32) r)] }
def impl_ReadNumbers_loop0_ext : St → Option ((Bool × Int × List (List UInt8)) × (Int × List Nat) × List Nat) := fun S => match (S.tm 5).unK, (S.tm 6).unK, (S.tm 17).unK, (S.tm 18).unK, (S.tm 19).unK with
  | .bool q0, .own i0, .own i1, .int .i64 q1, .int .i64 q2 => (match S.hp i0 with
    | some (.typed 36 (.flt .f32) q3) => (match S.hp i1 with
    | some (.typed 9 .str q4) => (if nodup [i0, i1] = true then some ((q0, q1, q4), (q2, q3), [i0, i1]) else none)
    | _ => none)
    | _ => none)
  | _, _, _, _, _ => none
def impl_ReadNumbers_loop0_post (p : Bool × Int × List (List UInt8)) (r : (Unit) ⊕ (List Nat)) : DT (Ex × St) := .ask (isL r) (.leaf (.ret, LSt [.junk, .junk, .nils, .bool false] [])) (.leaf (.exit 0, LSt [.junk, .junk, .junk, .junk, .junk, .bool p.1, .own 0] [some (.typed 36 (.flt .f32) ((rightD r)))]))
def impl_ReadNumbers_loop0 (p : Bool × Int × List (List UInt8)) (s : Int × List Nat) : (Unit) ⊕ (List Nat) := loopVal (impl_ReadNumbers_loop0_step p) s
def impl_ReadNumbers_loop0_ends (p : Bool × Int × List (List UInt8)) (s : Int × List Nat) : Bool := loopEnds (impl_ReadNumbers_loop0_step p) s
def impl_ReadNumbers_loop0_F : LoopF := loopF impl_ReadNumbers_loop0_step impl_ReadNumbers_loop0_ext impl_ReadNumbers_loop0_post
theorem impl_ReadNumbers_loop0_hext : ∀ S p s fl, impl_ReadNumbers_loop0_ext S = some (p, s, fl) → Norm S fl ((impl_ReadNumbers_loop0_L p).tl s) ((impl_ReadNumbers_loop0_L p).hl s) (impl_ReadNumbers_loop0_L p).gl := by
  intro S p s fl h
  unfold impl_ReadNumbers_loop0_ext at h
  (repeat' split at h) <;> first
    | (cases h; constructor <;> simp_all [impl_ReadNumbers_loop0_L, keepT, keepH, rens, renH, PV.ren, Blk.ren, fOf, lget, nodup, natIn, lenEq, gtm, PV.unK])
    | cases h
theorem impl_ReadNumbers_loop0_hpost : ∀ p r e S', (impl_ReadNumbers_loop0_post p r).get = some (e, S') → e = (impl_ReadNumbers_loop0_L p).ex r ∧ S' = LSt ((impl_ReadNumbers_loop0_L p).otl r) ((impl_ReadNumbers_loop0_L p).ohl r) ((impl_ReadNumbers_loop0_L p).ogl r) := by
  intro p r e S' h
  unfold impl_ReadNumbers_loop0_post at h
  cases r <;> (simp only [isL, DT.get, Option.some.injEq, Prod.mk.injEq] at h; exact ⟨h.1.symm, h.2.symm⟩)

def impl_ReadNumbers_loops : Nat → Option LoopF := loopTab [(4, impl_ReadNumbers_loop0_F)]
set_option maxRecDepth 100000 in
theorem impl_ReadNumbers_l0 : LoopOK Tryz.prog ⟨gam [(41, impl_apart_c), (42, impl_readDigits_c)], tab, 42, impl_ReadNumbers_loops⟩ (lp Tryz.f24 0) :=
  loopOK_some (F := impl_ReadNumbers_loop0_F) (by kernel_rfl) (loopF_ok (E := ⟨gam [(41, impl_apart_c), (42, impl_readDigits_c)], tab, 42, impl_ReadNumbers_loops⟩) ⟨gam_cons impl_apart_ok (gam_cons impl_readDigits_ok (gam_nil)), tab_ok, by kernel_rfl⟩ (fuel := 100000) (loopsOK_list (l := []) (by kernel_rfl) trivial) (L := impl_ReadNumbers_loop0_L) (fun p s => by unfold AgreeL; exact ⟨by kernel_rfl, by kernel_rfl⟩) (fun _ r h => by cases r <;> exact Ex.noConfusion h) impl_ReadNumbers_loop0_hext impl_ReadNumbers_loop0_hpost)
/-- loop.example/g01284/impl.ReadNumbers -/
def impl_ReadNumbers_tree (a0 : (List UInt8)) : DT ((List Nat) ⊕ (Unit)) :=
  .need ((impl_apart_need a0)) (
  let x0 := impl_apart a0;
  .ask ((isL x0))
  (
   .skip (
   .skip (
   .leaf (.inl []))))
  (
   let x1 := ((List.length (rightD x0).1 : Nat) : Int);
   .need ((impl_ReadNumbers_loop0_ends ((rightD x0).2, x1, (rightD x0).1) (0, []))) (
   let x2 := impl_ReadNumbers_loop0 ((rightD x0).2, x1, (rightD x0).1) (0, []);
   .ask ((isL x2))
   (
    .leaf (.inr ()))
   (
    let x3 := (!(rightD x0).2);
    .ask x3
    (
     .leaf (.inr ()))
    (
     .leaf (.inl ((rightD x2))))))))
def impl_ReadNumbers (a0 : (List UInt8)) : (List Nat) ⊕ (Unit) := (impl_ReadNumbers_tree a0).val
def impl_ReadNumbers_need (a0 : (List UInt8)) : Bool := (impl_ReadNumbers_tree a0).ok
def impl_ReadNumbers_mk0 (p : List Nat) : Ret := ⟨.tup [.own 0, .bool true], [.typed 36 (.flt .f32) p]⟩
def impl_ReadNumbers_mk1 (p : Unit) : Ret := ⟨.tup [.nils, .bool false], []⟩
def impl_ReadNumbers_mk : (List Nat) ⊕ (Unit) → Ret := fun v => match v with
  | (.inl p) => impl_ReadNumbers_mk0 p
  | (.inr p) => impl_ReadNumbers_mk1 p
def impl_ReadNumbers_forms (v : (List Nat) ⊕ (Unit)) : DT Ret := .ask (isL v) (.leaf (impl_ReadNumbers_mk0 (leftD v))) (.leaf (impl_ReadNumbers_mk1 (rightD v)))
theorem impl_ReadNumbers_forms_get : ∀ v, (impl_ReadNumbers_forms v).get = some (impl_ReadNumbers_mk v) := by
  intro v
  rcases v with v | v <;> rfl
def impl_ReadNumbers_c : Con := fun args => match args with
  | [.str a0] => some (.need (impl_ReadNumbers_need a0) (impl_ReadNumbers_forms (impl_ReadNumbers a0)))
  | _ => none
set_option maxRecDepth 100000 in
theorem impl_ReadNumbers_ok : FunOK Tryz.prog 24 impl_ReadNumbers_c.fn := by
  refine con_ok (Γ := gam [(41, impl_apart_c), (42, impl_readDigits_c)]) (gam_cons impl_apart_ok (gam_cons impl_readDigits_ok (gam_nil))) tab_ok (by kernel_rfl) Tryz.func24 (by kernel_rfl) (by kernel_rfl) Tryz.ntmps24 Tryz.results24 (loops := impl_ReadNumbers_loops) (loopsOK_list (l := [lp Tryz.f24 0]) (by kernel_rfl) ⟨impl_ReadNumbers_l0, trivial⟩) 100000 fun args t h => ?_
  unfold impl_ReadNumbers_c at h
  split at h
  · rename_i a0
    cases h
    exact ⟨rfl, agree_forms (mk := impl_ReadNumbers_mk) (t := impl_ReadNumbers_tree a0) (by unfold Agree; kernel_rfl) (fun h => h) (impl_ReadNumbers_forms_get _)⟩
  · cases h

/-- loop.example/g01284/impl.ReadVector -/
def impl_ReadVector_tree (a0 : (List UInt8)) : DT (Vec × Bool) :=
  .need ((impl_ReadNumbers_need a0)) (
  let x0 := impl_ReadNumbers a0;
  .ask ((isL x0))
  (
   .skip (
   .skip (
   let x1 := ((List.length (leftD x0) : Nat) : Int);
   .skip (
   let x2 := (x1 != 3);
   .skip (
   .ask x2
   (
    .leaf ((⟨0, 0, 0⟩ : Vec), false))
   (
    .need ((decide (0 ≤ 0) && decide (0 < ((List.length (leftD x0) : Nat) : Int)))) (
    .need ((decide (0 < List.length (leftD x0)))) (
    let x3 := List.getD (leftD x0) 0 default;
    .need ((decide (0 ≤ 1) && decide (1 < ((List.length (leftD x0) : Nat) : Int)))) (
    .need ((decide (1 < List.length (leftD x0)))) (
    let x4 := List.getD (leftD x0) 1 default;
    .need ((decide (0 ≤ 2) && decide (2 < ((List.length (leftD x0) : Nat) : Int)))) (
    .need ((decide (2 < List.length (leftD x0)))) (
    let x5 := List.getD (leftD x0) 2 default;
    .leaf ((⟨x3, x4, x5⟩ : Vec), true)))))))))))))
  (
   .skip (
   .skip (
   .skip (
   .skip (
   .leaf ((⟨0, 0, 0⟩ : Vec), false)))))))
def impl_ReadVector (a0 : (List UInt8)) : Vec × Bool := (impl_ReadVector_tree a0).val
def impl_ReadVector_need (a0 : (List UInt8)) : Bool := (impl_ReadVector_tree a0).ok
def impl_ReadVector_mk (p : Vec × Bool) : Ret := ⟨.tup [.agg [.flt .f32 p.1.X, .flt .f32 p.1.Y, .flt .f32 p.1.Z], .bool p.2], []⟩
def impl_ReadVector_c : Con := fun args => match args with
  | [.str a0] => some (.need (impl_ReadVector_need a0) (.leaf (impl_ReadVector_mk (impl_ReadVector a0))))
  | _ => none
set_option maxRecDepth 100000 in
theorem impl_ReadVector_ok : FunOK Tryz.prog 18 impl_ReadVector_c.fn := by
  refine con_ok (Γ := gam [(24, impl_ReadNumbers_c)]) (gam_cons impl_ReadNumbers_ok (gam_nil)) tab_ok (by kernel_rfl) Tryz.func18 (by kernel_rfl) (by kernel_rfl) Tryz.ntmps18 Tryz.results18 (loopsOK_none rfl _) 100000 fun args t h => ?_
  unfold impl_ReadVector_c at h
  split at h
  · rename_i a0
    cases h
    exact ⟨rfl, agree_need (mk := impl_ReadVector_mk) (t := impl_ReadVector_tree a0) (by unfold Agree; kernel_rfl)⟩
  · cases h

/-- loop.example/g01284/impl.readOne -/
def impl_readOne_tree (a0 : (List UInt8)) : DT (Nat × Bool) :=
  .need ((impl_ReadNumbers_need a0)) (
  let x0 := impl_ReadNumbers a0;
  .ask ((isL x0))
  (
   .skip (
   .skip (
   let x1 := ((List.length (leftD x0) : Nat) : Int);
   .skip (
   let x2 := (x1 != 1);
   .skip (
   .ask x2
   (
    .leaf (0, false))
   (
    .need ((decide (0 ≤ 0) && decide (0 < ((List.length (leftD x0) : Nat) : Int)))) (
    .need ((decide (0 < List.length (leftD x0)))) (
    let x3 := List.getD (leftD x0) 0 default;
    .leaf (x3, true)))))))))
  (
   .skip (
   .skip (
   .skip (
   .skip (
   .leaf (0, false)))))))
def impl_readOne (a0 : (List UInt8)) : Nat × Bool := (impl_readOne_tree a0).val
def impl_readOne_need (a0 : (List UInt8)) : Bool := (impl_readOne_tree a0).ok
def impl_readOne_mk (p : Nat × Bool) : Ret := ⟨.tup [.flt .f32 p.1, .bool p.2], []⟩
def impl_readOne_c : Con := fun args => match args with
  | [.str a0] => some (.need (impl_readOne_need a0) (.leaf (impl_readOne_mk (impl_readOne a0))))
  | _ => none
set_option maxRecDepth 100000 in
theorem impl_readOne_ok : FunOK Tryz.prog 19 impl_readOne_c.fn := by
  refine con_ok (Γ := gam [(24, impl_ReadNumbers_c)]) (gam_cons impl_ReadNumbers_ok (gam_nil)) tab_ok (by kernel_rfl) Tryz.func19 (by kernel_rfl) (by kernel_rfl) Tryz.ntmps19 Tryz.results19 (loopsOK_none rfl _) 100000 fun args t h => ?_
  unfold impl_readOne_c at h
  split at h
  · rename_i a0
    cases h
    exact ⟨rfl, agree_need (mk := impl_readOne_mk) (t := impl_readOne_tree a0) (by unfold Agree; kernel_rfl)⟩
  · cases h

/-- (loop.example/g01284/impl.Vector).numbers -/
def impl_Vector_numbers_tree (a0 : Vec) : DT (List Nat) :=
  .leaf ([a0.X, a0.Y, a0.Z])
def impl_Vector_numbers (a0 : Vec) : List Nat := (impl_Vector_numbers_tree a0).val
def impl_Vector_numbers_mk (p : List Nat) : Ret := ⟨.own 0, [.typed 36 (.flt .f32) p]⟩
def impl_Vector_numbers_c : Con := fun args => match args with
  | [.agg [.flt .f32 a0_0, .flt .f32 a0_1, .flt .f32 a0_2]] => some (.leaf (impl_Vector_numbers_mk (impl_Vector_numbers (⟨a0_0, a0_1, a0_2⟩ : Vec))))
  | _ => none
set_option maxRecDepth 100000 in
theorem impl_Vector_numbers_ok : FunOK Tryz.prog 69 impl_Vector_numbers_c.fn := by
  refine con_ok (Γ := gam []) (gam_nil) tab_ok (by kernel_rfl) Tryz.func69 (by kernel_rfl) (by kernel_rfl) Tryz.ntmps69 Tryz.results69 (loopsOK_none rfl _) 100000 fun args t h => ?_
  unfold impl_Vector_numbers_c at h
  split at h
  · rename_i a0_0 a0_1 a0_2
    cases h
    exact ⟨rfl, agree_tot (mk := impl_Vector_numbers_mk) (t := impl_Vector_numbers_tree (⟨a0_0, a0_1, a0_2⟩ : Vec)) (by unfold Agree; kernel_rfl) (by kernel_rfl)⟩
  · cases h

/-- math.IsNaN -/
def math_IsNaN_tree (a0 : Nat) : DT (Bool) :=
  let x0 := fne .f64 a0 a0;
  .leaf x0
def math_IsNaN (a0 : Nat) : Bool := (math_IsNaN_tree a0).val
def math_IsNaN_mk (p : Bool) : Ret := ⟨.bool p, []⟩
def math_IsNaN_c : Con := fun args => match args with
  | [.flt .f64 a0] => some (.leaf (math_IsNaN_mk (math_IsNaN a0)))
  | _ => none
set_option maxRecDepth 100000 in
theorem math_IsNaN_ok : FunOK Tryz.prog 92 math_IsNaN_c.fn := by
  refine con_ok (Γ := gam []) (gam_nil) tab_ok (by kernel_rfl) Tryz.func92 (by kernel_rfl) (by kernel_rfl) Tryz.ntmps92 Tryz.results92 (loopsOK_none rfl _) 100000 fun args t h => ?_
  unfold math_IsNaN_c at h
  split at h
  · rename_i a0
    cases h
    exact ⟨rfl, agree_tot (mk := math_IsNaN_mk) (t := math_IsNaN_tree a0) (by unfold Agree; kernel_rfl) (by kernel_rfl)⟩
  · cases h

/-- math.Abs -/
def math_Abs_tree (a0 : Nat) : DT (Nat) :=
  .ask ((isNaN .f64 a0))
  (
   .leaf 9221120237041090560)
  (
   let x0 := IntKind.wrap .u64 (BitVec.ofInt (IntKind.bits .u64) ((a0 : Nat) : Int) &&& ~~~ BitVec.ofInt (IntKind.bits .u64) 9223372036854775808).toNat;
   let x1 := canon .f64 (Int.toNat x0);
   .leaf x1)
def math_Abs (a0 : Nat) : Nat := (math_Abs_tree a0).val
def math_Abs_mk (p : Nat) : Ret := ⟨.flt .f64 p, []⟩
def math_Abs_c : Con := fun args => match args with
  | [.flt .f64 a0] => some (.leaf (math_Abs_mk (math_Abs a0)))
  | _ => none
set_option maxRecDepth 100000 in
theorem math_Abs_ok : FunOK Tryz.prog 112 math_Abs_c.fn := by
  refine con_ok (Γ := gam [(126, math_Float64bits_c), (125, math_Float64frombits_c)]) (gam_cons math_Float64bits_ok (gam_cons math_Float64frombits_ok (gam_nil))) tab_ok (by kernel_rfl) Tryz.func112 (by kernel_rfl) (by kernel_rfl) Tryz.ntmps112 Tryz.results112 (loopsOK_none rfl _) 100000 fun args t h => ?_
  unfold math_Abs_c at h
  split at h
  · rename_i a0
    cases h
    exact ⟨rfl, agree_tot (mk := math_Abs_mk) (t := math_Abs_tree a0) (by unfold Agree; kernel_rfl) (by kernel_rfl)⟩
  · cases h

/-- math.IsInf -/
def math_IsInf_tree (a0 : Nat) (a1 : Int) : DT (Bool) :=
  let x0 := (a1 == 0);
  .ask x0
  (
   let x1 := math_Abs a0;
   let x2 := fgt .f64 x1 9218868437227405311;
   .leaf x2)
  (
   let x1 := decide (a1 < 0);
   .ask x1
   (
    let x2 := fneg .f64 a0;
    let x3 := fgt .f64 x2 9218868437227405311;
    .leaf x3)
   (
    let x2 := fgt .f64 a0 9218868437227405311;
    .leaf x2))
def math_IsInf (a0 : Nat) (a1 : Int) : Bool := (math_IsInf_tree a0 a1).val
def math_IsInf_mk (p : Bool) : Ret := ⟨.bool p, []⟩
def math_IsInf_c : Con := fun args => match args with
  | [.flt .f64 a0, .int .i64 a1] => some (.leaf (math_IsInf_mk (math_IsInf a0 a1)))
  | _ => none
set_option maxRecDepth 100000 in
theorem math_IsInf_ok : FunOK Tryz.prog 93 math_IsInf_c.fn := by
  refine con_ok (Γ := gam [(112, math_Abs_c)]) (gam_cons math_Abs_ok (gam_nil)) tab_ok (by kernel_rfl) Tryz.func93 (by kernel_rfl) (by kernel_rfl) Tryz.ntmps93 Tryz.results93 (loopsOK_none rfl _) 100000 fun args t h => ?_
  unfold math_IsInf_c at h
  split at h
  · rename_i a0 a1
    cases h
    exact ⟨rfl, agree_tot (mk := math_IsInf_mk) (t := math_IsInf_tree a0 a1) (by unfold Agree; kernel_rfl) (by kernel_rfl)⟩
  · cases h

/-- loop.example/g01284/impl.finite -/
def impl_finite_tree (a0 : Nat) : DT (Bool) :=
  let x0 := math_IsNaN a0;
  .ask (!x0)
  (
   let x1 := math_IsInf a0 0;
   .leaf (!x1))
  (
   .leaf false)
def impl_finite (a0 : Nat) : Bool := (impl_finite_tree a0).val
def impl_finite_mk (p : Bool) : Ret := ⟨.bool p, []⟩
def impl_finite_c : Con := fun args => match args with
  | [.flt .f64 a0] => some (.leaf (impl_finite_mk (impl_finite a0)))
  | _ => none
set_option maxRecDepth 100000 in
theorem impl_finite_ok : FunOK Tryz.prog 70 impl_finite_c.fn := by
  refine con_ok (Γ := gam [(92, math_IsNaN_c), (93, math_IsInf_c)]) (gam_cons math_IsNaN_ok (gam_cons math_IsInf_ok (gam_nil))) tab_ok (by kernel_rfl) Tryz.func70 (by kernel_rfl) (by kernel_rfl) Tryz.ntmps70 Tryz.results70 (loopsOK_none rfl _) 100000 fun args t h => ?_
  unfold impl_finite_c at h
  split at h
  · rename_i a0
    cases h
    exact ⟨rfl, agree_tot (mk := impl_finite_mk) (t := impl_finite_tree a0) (by unfold Agree; kernel_rfl) (by kernel_rfl)⟩
  · cases h

/-- loop.example/g01284/impl.IsFinite -/
def impl_IsFinite_tree (a0 : Nat) : DT (Bool) :=
  .need ((fconvOk .f32 a0 .f64)) (
  let x0 := fconv .f32 a0 .f64;
  let x1 := impl_finite x0;
  .leaf x1)
def impl_IsFinite (a0 : Nat) : Bool := (impl_IsFinite_tree a0).val
def impl_IsFinite_need (a0 : Nat) : Bool := (impl_IsFinite_tree a0).ok
def impl_IsFinite_mk (p : Bool) : Ret := ⟨.bool p, []⟩
def impl_IsFinite_c : Con := fun args => match args with
  | [.flt .f32 a0] => some (.need (impl_IsFinite_need a0) (.leaf (impl_IsFinite_mk (impl_IsFinite a0))))
  | _ => none
set_option maxRecDepth 100000 in
theorem impl_IsFinite_ok : FunOK Tryz.prog 52 impl_IsFinite_c.fn := by
  refine con_ok (Γ := gam [(70, impl_finite_c)]) (gam_cons impl_finite_ok (gam_nil)) tab_ok (by kernel_rfl) Tryz.func52 (by kernel_rfl) (by kernel_rfl) Tryz.ntmps52 Tryz.results52 (loopsOK_none rfl _) 100000 fun args t h => ?_
  unfold impl_IsFinite_c at h
  split at h
  · rename_i a0
    cases h
    exact ⟨rfl, agree_need (mk := impl_IsFinite_mk) (t := impl_IsFinite_tree a0) (by unfold Agree; kernel_rfl)⟩
  · cases h

/-- loop.example/g01284/impl.areFinite$1 -/
def impl_areFinite_1_tree (a0 : Nat) : DT (Bool) :=
  .need ((impl_IsFinite_need a0)) (
  let x0 := impl_IsFinite a0;
  .leaf (!x0))
def impl_areFinite_1 (a0 : Nat) : Bool := (impl_areFinite_1_tree a0).val
def impl_areFinite_1_need (a0 : Nat) : Bool := (impl_areFinite_1_tree a0).ok
def impl_areFinite_1_mk (p : Bool) : Ret := ⟨.bool p, []⟩
def impl_areFinite_1_c : Con := fun args => match args with
  | [.flt .f32 a0] => some (.need (impl_areFinite_1_need a0) (.leaf (impl_areFinite_1_mk (impl_areFinite_1 a0))))
  | _ => none
set_option maxRecDepth 100000 in
theorem impl_areFinite_1_ok : FunOK Tryz.prog 91 impl_areFinite_1_c.fn := by
  refine con_ok (Γ := gam [(52, impl_IsFinite_c)]) (gam_cons impl_IsFinite_ok (gam_nil)) tab_ok (by kernel_rfl) Tryz.func91 (by kernel_rfl) (by kernel_rfl) Tryz.ntmps91 Tryz.results91 (loopsOK_none rfl _) 100000 fun args t h => ?_
  unfold impl_areFinite_1_c at h
  split at h
  · rename_i a0
    cases h
    exact ⟨rfl, agree_need (mk := impl_areFinite_1_mk) (t := impl_areFinite_1_tree a0) (by unfold Agree; kernel_rfl)⟩
  · cases h

/-- a loop of slices_IndexFunc___float32_float32__impl_areFinite_1 -/
def slices_IndexFunc___float32_float32__impl_areFinite_1_loop0_step (p : List Nat × Int) (s : Int) : Round (Int) ((Int) ⊕ (Unit)) :=
  let x0 := decide (s < p.2);
  .ask x0
  (
   .need ((decide (0 ≤ s) && decide (s < ((List.length p.1 : Nat) : Int)))) (
   let x1 := List.getD p.1 (Int.toNat s) default;
   .need ((impl_areFinite_1_need x1)) (
   let x2 := impl_areFinite_1 x1;
   .ask x2
   (
    .leaf (.inr (.inl s), []))
   (
    let x3 := IntKind.wrap .i64 (s + 1);
    .leaf (.inl x3, [])))))
  (
   .leaf (.inr (.inr ()), []))
def slices_IndexFunc___float32_float32__impl_areFinite_1_loop0_L (p : List Nat × Int) : LoopS (Int) ((Int) ⊕ (Unit)) := { tl := fun s => [.vslc 1 (.flt .f32) p.1, .func (.func 91) [] [], .junk, .junk, .junk, .junk, .junk, .int .i64 p.2, .int .i64 s], hl := fun s => [], ex := fun r => match r with | .inl r => .ret | .inr r => .exit 0, otl := fun r => match r with | .inl r => [.junk, .junk, .junk, .junk, .int .i64 r] | .inr r => [.junk], ohl := fun r => match r with | .inl r => [] | .inr r => [] }
def slices_IndexFunc___float32_float32__impl_areFinite_1_loop0_ext : St → Option ((List Nat × Int) × (Int) × List Nat) := fun S => match (S.tm 0).unK, (S.tm 1).unK, (S.tm 7).unK, (S.tm 8).unK with
  | .vslc 1 (.flt .f32) q0, .func (.func 91) [] [], .int .i64 q1, .int .i64 q2 => some ((q0, q1), q2, [])
  | _, _, _, _ => none
def slices_IndexFunc___float32_float32__impl_areFinite_1_loop0_post (p : List Nat × Int) (r : (Int) ⊕ (Unit)) : DT (Ex × St) := .ask (isL r) (.leaf (.ret, LSt [.junk, .junk, .junk, .junk, .int .i64 ((leftD r))] [])) (.leaf (.exit 0, LSt [.junk] []))
def slices_IndexFunc___float32_float32__impl_areFinite_1_loop0 (p : List Nat × Int) (s : Int) : (Int) ⊕ (Unit) := loopVal (slices_IndexFunc___float32_float32__impl_areFinite_1_loop0_step p) s
def slices_IndexFunc___float32_float32__impl_areFinite_1_loop0_ends (p : List Nat × Int) (s : Int) : Bool := loopEnds (slices_IndexFunc___float32_float32__impl_areFinite_1_loop0_step p) s
def slices_IndexFunc___float32_float32__impl_areFinite_1_loop0_F : LoopF := loopF slices_IndexFunc___float32_float32__impl_areFinite_1_loop0_step slices_IndexFunc___float32_float32__impl_areFinite_1_loop0_ext slices_IndexFunc___float32_float32__impl_areFinite_1_loop0_post
theorem slices_IndexFunc___float32_float32__impl_areFinite_1_loop0_hext : ∀ S p s fl, slices_IndexFunc___float32_float32__impl_areFinite_1_loop0_ext S = some (p, s, fl) → Norm S fl ((slices_IndexFunc___float32_float32__impl_areFinite_1_loop0_L p).tl s) ((slices_IndexFunc___float32_float32__impl_areFinite_1_loop0_L p).hl s) (slices_IndexFunc___float32_float32__impl_areFinite_1_loop0_L p).gl := by
  intro S p s fl h
  unfold slices_IndexFunc___float32_float32__impl_areFinite_1_loop0_ext at h
  (repeat' split at h) <;> first
    | (cases h; constructor <;> simp_all [slices_IndexFunc___float32_float32__impl_areFinite_1_loop0_L, keepT, keepH, rens, renH, PV.ren, Blk.ren, fOf, lget, nodup, natIn, lenEq, gtm, PV.unK])
    | cases h
theorem slices_IndexFunc___float32_float32__impl_areFinite_1_loop0_hpost : ∀ p r e S', (slices_IndexFunc___float32_float32__impl_areFinite_1_loop0_post p r).get = some (e, S') → e = (slices_IndexFunc___float32_float32__impl_areFinite_1_loop0_L p).ex r ∧ S' = LSt ((slices_IndexFunc___float32_float32__impl_areFinite_1_loop0_L p).otl r) ((slices_IndexFunc___float32_float32__impl_areFinite_1_loop0_L p).ohl r) ((slices_IndexFunc___float32_float32__impl_areFinite_1_loop0_L p).ogl r) := by
  intro p r e S' h
  unfold slices_IndexFunc___float32_float32__impl_areFinite_1_loop0_post at h
  cases r <;> (simp only [isL, DT.get, Option.some.injEq, Prod.mk.injEq] at h; exact ⟨h.1.symm, h.2.symm⟩)

def slices_IndexFunc___float32_float32__impl_areFinite_1_loops : Nat → Option LoopF := loopTab [(2, slices_IndexFunc___float32_float32__impl_areFinite_1_loop0_F)]
set_option maxRecDepth 100000 in
theorem slices_IndexFunc___float32_float32__impl_areFinite_1_l0 : LoopOK Tryz.prog ⟨gam [(91, impl_areFinite_1_c)], tab, 19, slices_IndexFunc___float32_float32__impl_areFinite_1_loops⟩ (lp Tryz.f111 0) :=
  loopOK_some (F := slices_IndexFunc___float32_float32__impl_areFinite_1_loop0_F) (by kernel_rfl) (loopF_ok (E := ⟨gam [(91, impl_areFinite_1_c)], tab, 19, slices_IndexFunc___float32_float32__impl_areFinite_1_loops⟩) ⟨gam_cons impl_areFinite_1_ok (gam_nil), tab_ok, by kernel_rfl⟩ (fuel := 100000) (loopsOK_list (l := []) (by kernel_rfl) trivial) (L := slices_IndexFunc___float32_float32__impl_areFinite_1_loop0_L) (fun p s => by unfold AgreeL; exact ⟨by kernel_rfl, by kernel_rfl⟩) (fun _ r h => by cases r <;> exact Ex.noConfusion h) slices_IndexFunc___float32_float32__impl_areFinite_1_loop0_hext slices_IndexFunc___float32_float32__impl_areFinite_1_loop0_hpost)
/-- slices.IndexFunc[[]float32,float32] -/
def slices_IndexFunc___float32_float32__impl_areFinite_1_tree (a0 : List Nat) : DT (Int) :=
  let x0 := ((List.length a0 : Nat) : Int);
  .need ((slices_IndexFunc___float32_float32__impl_areFinite_1_loop0_ends (a0, x0) 0)) (
  let x1 := slices_IndexFunc___float32_float32__impl_areFinite_1_loop0 (a0, x0) 0;
  .ask ((isL x1))
  (
   .leaf ((leftD x1)))
  (
   .leaf (-1)))
def slices_IndexFunc___float32_float32__impl_areFinite_1 (a0 : List Nat) : Int := (slices_IndexFunc___float32_float32__impl_areFinite_1_tree a0).val
def slices_IndexFunc___float32_float32__impl_areFinite_1_need (a0 : List Nat) : Bool := (slices_IndexFunc___float32_float32__impl_areFinite_1_tree a0).ok
def slices_IndexFunc___float32_float32__impl_areFinite_1_mk (p : Int) : Ret := ⟨.int .i64 p, []⟩
def slices_IndexFunc___float32_float32__impl_areFinite_1_c0 : Con := fun args => match args with
  | [.vslc 1 (.flt .f32) a0, .func (.func 91) [] []] => some (.need (slices_IndexFunc___float32_float32__impl_areFinite_1_need a0) (.leaf (slices_IndexFunc___float32_float32__impl_areFinite_1_mk (slices_IndexFunc___float32_float32__impl_areFinite_1 a0))))
  | _ => none
set_option maxRecDepth 100000 in
theorem slices_IndexFunc___float32_float32__impl_areFinite_1_ok0 : FunOK Tryz.prog 111 slices_IndexFunc___float32_float32__impl_areFinite_1_c0.fn := by
  refine con_ok (Γ := gam [(91, impl_areFinite_1_c)]) (gam_cons impl_areFinite_1_ok (gam_nil)) tab_ok (by kernel_rfl) Tryz.func111 (by kernel_rfl) (by kernel_rfl) Tryz.ntmps111 Tryz.results111 (loops := slices_IndexFunc___float32_float32__impl_areFinite_1_loops) (loopsOK_list (l := [lp Tryz.f111 0]) (by kernel_rfl) ⟨slices_IndexFunc___float32_float32__impl_areFinite_1_l0, trivial⟩) 100000 fun args t h => ?_
  unfold slices_IndexFunc___float32_float32__impl_areFinite_1_c0 at h
  split at h
  · rename_i a0
    cases h
    exact ⟨rfl, agree_need (mk := slices_IndexFunc___float32_float32__impl_areFinite_1_mk) (t := slices_IndexFunc___float32_float32__impl_areFinite_1_tree a0) (by unfold Agree; kernel_rfl)⟩
  · cases h
def slices_IndexFunc___float32_float32__impl_areFinite_1_c : Con := fun args => slices_IndexFunc___float32_float32__impl_areFinite_1_c0 (norms 0 [.slc (.flt .f32), .none] args)
set_option maxRecDepth 100000 in
theorem slices_IndexFunc___float32_float32__impl_areFinite_1_ok : FunOK Tryz.prog 111 slices_IndexFunc___float32_float32__impl_areFinite_1_c.fn := con_norm [.slc (.flt .f32), .none] slices_IndexFunc___float32_float32__impl_areFinite_1_ok0

/-- slices.ContainsFunc[[]float32,float32] -/
def slices_ContainsFunc___float32_float32__impl_areFinite_1_tree (a0 : List Nat) : DT (Bool) :=
  .need ((slices_IndexFunc___float32_float32__impl_areFinite_1_need a0 )) (
  let x0 := slices_IndexFunc___float32_float32__impl_areFinite_1 a0 ;
  let x1 := decide (x0 ≥ 0);
  .leaf x1)
def slices_ContainsFunc___float32_float32__impl_areFinite_1 (a0 : List Nat) : Bool := (slices_ContainsFunc___float32_float32__impl_areFinite_1_tree a0).val
def slices_ContainsFunc___float32_float32__impl_areFinite_1_need (a0 : List Nat) : Bool := (slices_ContainsFunc___float32_float32__impl_areFinite_1_tree a0).ok
def slices_ContainsFunc___float32_float32__impl_areFinite_1_mk (p : Bool) : Ret := ⟨.bool p, []⟩
def slices_ContainsFunc___float32_float32__impl_areFinite_1_c0 : Con := fun args => match args with
  | [.vslc 1 (.flt .f32) a0, .func (.func 91) [] []] => some (.need (slices_ContainsFunc___float32_float32__impl_areFinite_1_need a0) (.leaf (slices_ContainsFunc___float32_float32__impl_areFinite_1_mk (slices_ContainsFunc___float32_float32__impl_areFinite_1 a0))))
  | _ => none
set_option maxRecDepth 100000 in
theorem slices_ContainsFunc___float32_float32__impl_areFinite_1_ok0 : FunOK Tryz.prog 90 slices_ContainsFunc___float32_float32__impl_areFinite_1_c0.fn := by
  refine con_ok (Γ := gam [(111, slices_IndexFunc___float32_float32__impl_areFinite_1_c)]) (gam_cons slices_IndexFunc___float32_float32__impl_areFinite_1_ok (gam_nil)) tab_ok (by kernel_rfl) Tryz.func90 (by kernel_rfl) (by kernel_rfl) Tryz.ntmps90 Tryz.results90 (loopsOK_none rfl _) 100000 fun args t h => ?_
  unfold slices_ContainsFunc___float32_float32__impl_areFinite_1_c0 at h
  split at h
  · rename_i a0
    cases h
    exact ⟨rfl, agree_need (mk := slices_ContainsFunc___float32_float32__impl_areFinite_1_mk) (t := slices_ContainsFunc___float32_float32__impl_areFinite_1_tree a0) (by unfold Agree; kernel_rfl)⟩
  · cases h
def slices_ContainsFunc___float32_float32__impl_areFinite_1_c : Con := fun args => slices_ContainsFunc___float32_float32__impl_areFinite_1_c0 (norms 0 [.slc (.flt .f32), .none] args)
set_option maxRecDepth 100000 in
theorem slices_ContainsFunc___float32_float32__impl_areFinite_1_ok : FunOK Tryz.prog 90 slices_ContainsFunc___float32_float32__impl_areFinite_1_c.fn := con_norm [.slc (.flt .f32), .none] slices_ContainsFunc___float32_float32__impl_areFinite_1_ok0

/-- loop.example/g01284/impl.areFinite -/
def impl_areFinite_tree (a0 : List Nat) : DT (Bool) :=
  .need ((slices_ContainsFunc___float32_float32__impl_areFinite_1_need a0 )) (
  let x0 := slices_ContainsFunc___float32_float32__impl_areFinite_1 a0 ;
  .leaf (!x0))
def impl_areFinite (a0 : List Nat) : Bool := (impl_areFinite_tree a0).val
def impl_areFinite_need (a0 : List Nat) : Bool := (impl_areFinite_tree a0).ok
def impl_areFinite_mk (p : Bool) : Ret := ⟨.bool p, []⟩
def impl_areFinite_c0 : Con := fun args => match args with
  | [.vslc 1 (.flt .f32) a0] => some (.need (impl_areFinite_need a0) (.leaf (impl_areFinite_mk (impl_areFinite a0))))
  | _ => none
set_option maxRecDepth 100000 in
theorem impl_areFinite_ok0 : FunOK Tryz.prog 68 impl_areFinite_c0.fn := by
  refine con_ok (Γ := gam [(90, slices_ContainsFunc___float32_float32__impl_areFinite_1_c)]) (gam_cons slices_ContainsFunc___float32_float32__impl_areFinite_1_ok (gam_nil)) tab_ok (by kernel_rfl) Tryz.func68 (by kernel_rfl) (by kernel_rfl) Tryz.ntmps68 Tryz.results68 (loopsOK_none rfl _) 100000 fun args t h => ?_
  unfold impl_areFinite_c0 at h
  split at h
  · rename_i a0
    cases h
    exact ⟨rfl, agree_need (mk := impl_areFinite_mk) (t := impl_areFinite_tree a0) (by unfold Agree; kernel_rfl)⟩
  · cases h
def impl_areFinite_c : Con := fun args => impl_areFinite_c0 (norms 0 [.slc (.flt .f32)] args)
set_option maxRecDepth 100000 in
theorem impl_areFinite_ok : FunOK Tryz.prog 68 impl_areFinite_c.fn := con_norm [.slc (.flt .f32)] impl_areFinite_ok0

/-- loop.example/g01284/impl.isFiniteVector -/
def impl_isFiniteVector_tree (a0 : Vec) : DT (Bool) :=
  let x0 := impl_Vector_numbers (⟨a0.X, a0.Y, a0.Z⟩ : Vec);
  .need ((impl_areFinite_need x0)) (
  let x1 := impl_areFinite x0;
  .leaf x1)
def impl_isFiniteVector (a0 : Vec) : Bool := (impl_isFiniteVector_tree a0).val
def impl_isFiniteVector_need (a0 : Vec) : Bool := (impl_isFiniteVector_tree a0).ok
def impl_isFiniteVector_mk (p : Bool) : Ret := ⟨.bool p, []⟩
def impl_isFiniteVector_c : Con := fun args => match args with
  | [.agg [.flt .f32 a0_0, .flt .f32 a0_1, .flt .f32 a0_2]] => some (.need (impl_isFiniteVector_need (⟨a0_0, a0_1, a0_2⟩ : Vec)) (.leaf (impl_isFiniteVector_mk (impl_isFiniteVector (⟨a0_0, a0_1, a0_2⟩ : Vec)))))
  | _ => none
set_option maxRecDepth 100000 in
theorem impl_isFiniteVector_ok : FunOK Tryz.prog 51 impl_isFiniteVector_c.fn := by
  refine con_ok (Γ := gam [(69, impl_Vector_numbers_c), (68, impl_areFinite_c)]) (gam_cons impl_Vector_numbers_ok (gam_cons impl_areFinite_ok (gam_nil))) tab_ok (by kernel_rfl) Tryz.func51 (by kernel_rfl) (by kernel_rfl) Tryz.ntmps51 Tryz.results51 (loopsOK_none rfl _) 100000 fun args t h => ?_
  unfold impl_isFiniteVector_c at h
  split at h
  · rename_i a0_0 a0_1 a0_2
    cases h
    exact ⟨rfl, agree_need (mk := impl_isFiniteVector_mk) (t := impl_isFiniteVector_tree (⟨a0_0, a0_1, a0_2⟩ : Vec)) (by unfold Agree; kernel_rfl)⟩
  · cases h

/-- loop.example/g01284/impl.AreBodies$1 -/
def impl_AreBodies_1_tree (a0 : Body) : DT (Bool) :=
  .need ((impl_isFiniteVector_need (⟨a0.At.X, a0.At.Y, a0.At.Z⟩ : Vec))) (
  let x0 := impl_isFiniteVector (⟨a0.At.X, a0.At.Y, a0.At.Z⟩ : Vec);
  .ask (!x0)
  (
   .leaf true)
  (
   .need ((impl_isFiniteVector_need (⟨a0.Speed.X, a0.Speed.Y, a0.Speed.Z⟩ : Vec))) (
   let x1 := impl_isFiniteVector (⟨a0.Speed.X, a0.Speed.Y, a0.Speed.Z⟩ : Vec);
   .ask (!x1)
   (
    .leaf true)
   (
    .need ((impl_IsFinite_need a0.Mass)) (
    let x2 := impl_IsFinite a0.Mass;
    .ask (!x2)
    (
     .leaf true)
    (
     let x3 := flt .f32 a0.Mass 0;
     .leaf x3))))))
def impl_AreBodies_1 (a0 : Body) : Bool := (impl_AreBodies_1_tree a0).val
def impl_AreBodies_1_need (a0 : Body) : Bool := (impl_AreBodies_1_tree a0).ok
def impl_AreBodies_1_mk (p : Bool) : Ret := ⟨.bool p, []⟩
def impl_AreBodies_1_c : Con := fun args => match args with
  | [.agg [.flt .f32 a0_0, .flt .f32 a0_1, .flt .f32 a0_2, .flt .f32 a0_3, .flt .f32 a0_4, .flt .f32 a0_5, .flt .f32 a0_6]] => some (.need (impl_AreBodies_1_need (⟨⟨a0_0, a0_1, a0_2⟩, ⟨a0_3, a0_4, a0_5⟩, a0_6⟩ : Body)) (.leaf (impl_AreBodies_1_mk (impl_AreBodies_1 (⟨⟨a0_0, a0_1, a0_2⟩, ⟨a0_3, a0_4, a0_5⟩, a0_6⟩ : Body)))))
  | _ => none
set_option maxRecDepth 100000 in
theorem impl_AreBodies_1_ok : FunOK Tryz.prog 50 impl_AreBodies_1_c.fn := by
  refine con_ok (Γ := gam [(51, impl_isFiniteVector_c), (52, impl_IsFinite_c)]) (gam_cons impl_isFiniteVector_ok (gam_cons impl_IsFinite_ok (gam_nil))) tab_ok (by kernel_rfl) Tryz.func50 (by kernel_rfl) (by kernel_rfl) Tryz.ntmps50 Tryz.results50 (loopsOK_none rfl _) 100000 fun args t h => ?_
  unfold impl_AreBodies_1_c at h
  split at h
  · rename_i a0_0 a0_1 a0_2 a0_3 a0_4 a0_5 a0_6
    cases h
    exact ⟨rfl, agree_need (mk := impl_AreBodies_1_mk) (t := impl_AreBodies_1_tree (⟨⟨a0_0, a0_1, a0_2⟩, ⟨a0_3, a0_4, a0_5⟩, a0_6⟩ : Body)) (by unfold Agree; kernel_rfl)⟩
  · cases h

/-- a loop of slices_IndexFunc___impl_Body_impl_Body__impl_AreBodies_1 -/
def slices_IndexFunc___impl_Body_impl_Body__impl_AreBodies_1_loop0_step (p : List Body × Int) (s : Int) : Round (Int) ((Int) ⊕ (Unit)) :=
  let x0 := decide (s < p.2);
  .ask x0
  (
   .need ((decide (0 ≤ s) && decide (s < ((List.length p.1 : Nat) : Int)))) (
   let x1 := List.getD p.1 (Int.toNat s) default;
   .need ((impl_AreBodies_1_need (⟨⟨x1.At.X, x1.At.Y, x1.At.Z⟩, ⟨x1.Speed.X, x1.Speed.Y, x1.Speed.Z⟩, x1.Mass⟩ : Body))) (
   let x2 := impl_AreBodies_1 (⟨⟨x1.At.X, x1.At.Y, x1.At.Z⟩, ⟨x1.Speed.X, x1.Speed.Y, x1.Speed.Z⟩, x1.Mass⟩ : Body);
   .ask x2
   (
    .leaf (.inr (.inl s), []))
   (
    let x3 := IntKind.wrap .i64 (s + 1);
    .leaf (.inl x3, [])))))
  (
   .leaf (.inr (.inr ()), []))
def slices_IndexFunc___impl_Body_impl_Body__impl_AreBodies_1_loop0_L (p : List Body × Int) : LoopS (Int) ((Int) ⊕ (Unit)) := { tl := fun s => [.vslc 1 .body p.1, .func (.func 50) [] [], .junk, .junk, .junk, .junk, .junk, .int .i64 p.2, .int .i64 s], hl := fun s => [], ex := fun r => match r with | .inl r => .ret | .inr r => .exit 0, otl := fun r => match r with | .inl r => [.junk, .junk, .junk, .junk, .int .i64 r] | .inr r => [.junk], ohl := fun r => match r with | .inl r => [] | .inr r => [] }
def slices_IndexFunc___impl_Body_impl_Body__impl_AreBodies_1_loop0_ext : St → Option ((List Body × Int) × (Int) × List Nat) := fun S => match (S.tm 0).unK, (S.tm 1).unK, (S.tm 7).unK, (S.tm 8).unK with
  | .vslc 1 .body q0, .func (.func 50) [] [], .int .i64 q1, .int .i64 q2 => some ((q0, q1), q2, [])
  | _, _, _, _ => none
def slices_IndexFunc___impl_Body_impl_Body__impl_AreBodies_1_loop0_post (p : List Body × Int) (r : (Int) ⊕ (Unit)) : DT (Ex × St) := .ask (isL r) (.leaf (.ret, LSt [.junk, .junk, .junk, .junk, .int .i64 ((leftD r))] [])) (.leaf (.exit 0, LSt [.junk] []))
def slices_IndexFunc___impl_Body_impl_Body__impl_AreBodies_1_loop0 (p : List Body × Int) (s : Int) : (Int) ⊕ (Unit) := loopVal (slices_IndexFunc___impl_Body_impl_Body__impl_AreBodies_1_loop0_step p) s
def slices_IndexFunc___impl_Body_impl_Body__impl_AreBodies_1_loop0_ends (p : List Body × Int) (s : Int) : Bool := loopEnds (slices_IndexFunc___impl_Body_impl_Body__impl_AreBodies_1_loop0_step p) s
def slices_IndexFunc___impl_Body_impl_Body__impl_AreBodies_1_loop0_F : LoopF := loopF slices_IndexFunc___impl_Body_impl_Body__impl_AreBodies_1_loop0_step slices_IndexFunc___impl_Body_impl_Body__impl_AreBodies_1_loop0_ext slices_IndexFunc___impl_Body_impl_Body__impl_AreBodies_1_loop0_post
theorem slices_IndexFunc___impl_Body_impl_Body__impl_AreBodies_1_loop0_hext : ∀ S p s fl, slices_IndexFunc___impl_Body_impl_Body__impl_AreBodies_1_loop0_ext S = some (p, s, fl) → Norm S fl ((slices_IndexFunc___impl_Body_impl_Body__impl_AreBodies_1_loop0_L p).tl s) ((slices_IndexFunc___impl_Body_impl_Body__impl_AreBodies_1_loop0_L p).hl s) (slices_IndexFunc___impl_Body_impl_Body__impl_AreBodies_1_loop0_L p).gl := by
  intro S p s fl h
  unfold slices_IndexFunc___impl_Body_impl_Body__impl_AreBodies_1_loop0_ext at h
  (repeat' split at h) <;> first
    | (cases h; constructor <;> simp_all [slices_IndexFunc___impl_Body_impl_Body__impl_AreBodies_1_loop0_L, keepT, keepH, rens, renH, PV.ren, Blk.ren, fOf, lget, nodup, natIn, lenEq, gtm, PV.unK])
    | cases h
theorem slices_IndexFunc___impl_Body_impl_Body__impl_AreBodies_1_loop0_hpost : ∀ p r e S', (slices_IndexFunc___impl_Body_impl_Body__impl_AreBodies_1_loop0_post p r).get = some (e, S') → e = (slices_IndexFunc___impl_Body_impl_Body__impl_AreBodies_1_loop0_L p).ex r ∧ S' = LSt ((slices_IndexFunc___impl_Body_impl_Body__impl_AreBodies_1_loop0_L p).otl r) ((slices_IndexFunc___impl_Body_impl_Body__impl_AreBodies_1_loop0_L p).ohl r) ((slices_IndexFunc___impl_Body_impl_Body__impl_AreBodies_1_loop0_L p).ogl r) := by
  intro p r e S' h
  unfold slices_IndexFunc___impl_Body_impl_Body__impl_AreBodies_1_loop0_post at h
  cases r <;> (simp only [isL, DT.get, Option.some.injEq, Prod.mk.injEq] at h; exact ⟨h.1.symm, h.2.symm⟩)

def slices_IndexFunc___impl_Body_impl_Body__impl_AreBodies_1_loops : Nat → Option LoopF := loopTab [(2, slices_IndexFunc___impl_Body_impl_Body__impl_AreBodies_1_loop0_F)]
set_option maxRecDepth 100000 in
theorem slices_IndexFunc___impl_Body_impl_Body__impl_AreBodies_1_l0 : LoopOK Tryz.prog ⟨gam [(50, impl_AreBodies_1_c)], tab, 19, slices_IndexFunc___impl_Body_impl_Body__impl_AreBodies_1_loops⟩ (lp Tryz.f67 0) :=
  loopOK_some (F := slices_IndexFunc___impl_Body_impl_Body__impl_AreBodies_1_loop0_F) (by kernel_rfl) (loopF_ok (E := ⟨gam [(50, impl_AreBodies_1_c)], tab, 19, slices_IndexFunc___impl_Body_impl_Body__impl_AreBodies_1_loops⟩) ⟨gam_cons impl_AreBodies_1_ok (gam_nil), tab_ok, by kernel_rfl⟩ (fuel := 100000) (loopsOK_list (l := []) (by kernel_rfl) trivial) (L := slices_IndexFunc___impl_Body_impl_Body__impl_AreBodies_1_loop0_L) (fun p s => by unfold AgreeL; exact ⟨by kernel_rfl, by kernel_rfl⟩) (fun _ r h => by cases r <;> exact Ex.noConfusion h) slices_IndexFunc___impl_Body_impl_Body__impl_AreBodies_1_loop0_hext slices_IndexFunc___impl_Body_impl_Body__impl_AreBodies_1_loop0_hpost)
/-- slices.IndexFunc[[]loop.example/g01284/impl.Body,loop.example/g01284/impl.Body] -/
def slices_IndexFunc___impl_Body_impl_Body__impl_AreBodies_1_tree (a0 : List Body) : DT (Int) :=
  let x0 := ((List.length a0 : Nat) : Int);
  .need ((slices_IndexFunc___impl_Body_impl_Body__impl_AreBodies_1_loop0_ends (a0, x0) 0)) (
  let x1 := slices_IndexFunc___impl_Body_impl_Body__impl_AreBodies_1_loop0 (a0, x0) 0;
  .ask ((isL x1))
  (
   .leaf ((leftD x1)))
  (
   .leaf (-1)))
def slices_IndexFunc___impl_Body_impl_Body__impl_AreBodies_1 (a0 : List Body) : Int := (slices_IndexFunc___impl_Body_impl_Body__impl_AreBodies_1_tree a0).val
def slices_IndexFunc___impl_Body_impl_Body__impl_AreBodies_1_need (a0 : List Body) : Bool := (slices_IndexFunc___impl_Body_impl_Body__impl_AreBodies_1_tree a0).ok
def slices_IndexFunc___impl_Body_impl_Body__impl_AreBodies_1_mk (p : Int) : Ret := ⟨.int .i64 p, []⟩
def slices_IndexFunc___impl_Body_impl_Body__impl_AreBodies_1_c0 : Con := fun args => match args with
  | [.vslc 1 .body a0, .func (.func 50) [] []] => some (.need (slices_IndexFunc___impl_Body_impl_Body__impl_AreBodies_1_need a0) (.leaf (slices_IndexFunc___impl_Body_impl_Body__impl_AreBodies_1_mk (slices_IndexFunc___impl_Body_impl_Body__impl_AreBodies_1 a0))))
  | _ => none
set_option maxRecDepth 100000 in
theorem slices_IndexFunc___impl_Body_impl_Body__impl_AreBodies_1_ok0 : FunOK Tryz.prog 67 slices_IndexFunc___impl_Body_impl_Body__impl_AreBodies_1_c0.fn := by
  refine con_ok (Γ := gam [(50, impl_AreBodies_1_c)]) (gam_cons impl_AreBodies_1_ok (gam_nil)) tab_ok (by kernel_rfl) Tryz.func67 (by kernel_rfl) (by kernel_rfl) Tryz.ntmps67 Tryz.results67 (loops := slices_IndexFunc___impl_Body_impl_Body__impl_AreBodies_1_loops) (loopsOK_list (l := [lp Tryz.f67 0]) (by kernel_rfl) ⟨slices_IndexFunc___impl_Body_impl_Body__impl_AreBodies_1_l0, trivial⟩) 100000 fun args t h => ?_
  unfold slices_IndexFunc___impl_Body_impl_Body__impl_AreBodies_1_c0 at h
  split at h
  · rename_i a0
    cases h
    exact ⟨rfl, agree_need (mk := slices_IndexFunc___impl_Body_impl_Body__impl_AreBodies_1_mk) (t := slices_IndexFunc___impl_Body_impl_Body__impl_AreBodies_1_tree a0) (by unfold Agree; kernel_rfl)⟩
  · cases h
def slices_IndexFunc___impl_Body_impl_Body__impl_AreBodies_1_c : Con := fun args => slices_IndexFunc___impl_Body_impl_Body__impl_AreBodies_1_c0 (norms 0 [.slc .body, .none] args)
set_option maxRecDepth 100000 in
theorem slices_IndexFunc___impl_Body_impl_Body__impl_AreBodies_1_ok : FunOK Tryz.prog 67 slices_IndexFunc___impl_Body_impl_Body__impl_AreBodies_1_c.fn := con_norm [.slc .body, .none] slices_IndexFunc___impl_Body_impl_Body__impl_AreBodies_1_ok0

/-- slices.ContainsFunc[[]loop.example/g01284/impl.Body,loop.example/g01284/impl.Body] -/
def slices_ContainsFunc___impl_Body_impl_Body__impl_AreBodies_1_tree (a0 : List Body) : DT (Bool) :=
  .need ((slices_IndexFunc___impl_Body_impl_Body__impl_AreBodies_1_need a0 )) (
  let x0 := slices_IndexFunc___impl_Body_impl_Body__impl_AreBodies_1 a0 ;
  let x1 := decide (x0 ≥ 0);
  .leaf x1)
def slices_ContainsFunc___impl_Body_impl_Body__impl_AreBodies_1 (a0 : List Body) : Bool := (slices_ContainsFunc___impl_Body_impl_Body__impl_AreBodies_1_tree a0).val
def slices_ContainsFunc___impl_Body_impl_Body__impl_AreBodies_1_need (a0 : List Body) : Bool := (slices_ContainsFunc___impl_Body_impl_Body__impl_AreBodies_1_tree a0).ok
def slices_ContainsFunc___impl_Body_impl_Body__impl_AreBodies_1_mk (p : Bool) : Ret := ⟨.bool p, []⟩
def slices_ContainsFunc___impl_Body_impl_Body__impl_AreBodies_1_c0 : Con := fun args => match args with
  | [.vslc 1 .body a0, .func (.func 50) [] []] => some (.need (slices_ContainsFunc___impl_Body_impl_Body__impl_AreBodies_1_need a0) (.leaf (slices_ContainsFunc___impl_Body_impl_Body__impl_AreBodies_1_mk (slices_ContainsFunc___impl_Body_impl_Body__impl_AreBodies_1 a0))))
  | _ => none
set_option maxRecDepth 100000 in
theorem slices_ContainsFunc___impl_Body_impl_Body__impl_AreBodies_1_ok0 : FunOK Tryz.prog 49 slices_ContainsFunc___impl_Body_impl_Body__impl_AreBodies_1_c0.fn := by
  refine con_ok (Γ := gam [(67, slices_IndexFunc___impl_Body_impl_Body__impl_AreBodies_1_c)]) (gam_cons slices_IndexFunc___impl_Body_impl_Body__impl_AreBodies_1_ok (gam_nil)) tab_ok (by kernel_rfl) Tryz.func49 (by kernel_rfl) (by kernel_rfl) Tryz.ntmps49 Tryz.results49 (loopsOK_none rfl _) 100000 fun args t h => ?_
  unfold slices_ContainsFunc___impl_Body_impl_Body__impl_AreBodies_1_c0 at h
  split at h
  · rename_i a0
    cases h
    exact ⟨rfl, agree_need (mk := slices_ContainsFunc___impl_Body_impl_Body__impl_AreBodies_1_mk) (t := slices_ContainsFunc___impl_Body_impl_Body__impl_AreBodies_1_tree a0) (by unfold Agree; kernel_rfl)⟩
  · cases h
def slices_ContainsFunc___impl_Body_impl_Body__impl_AreBodies_1_c : Con := fun args => slices_ContainsFunc___impl_Body_impl_Body__impl_AreBodies_1_c0 (norms 0 [.slc .body, .none] args)
set_option maxRecDepth 100000 in
theorem slices_ContainsFunc___impl_Body_impl_Body__impl_AreBodies_1_ok : FunOK Tryz.prog 49 slices_ContainsFunc___impl_Body_impl_Body__impl_AreBodies_1_c.fn := con_norm [.slc .body, .none] slices_ContainsFunc___impl_Body_impl_Body__impl_AreBodies_1_ok0

/-- loop.example/g01284/impl.AreBodies -/
def impl_AreBodies_tree (a0 : List Body) : DT (Bool) :=
  let x0 := ((List.length a0 : Nat) : Int);
  let x1 := decide (x0 ≤ 16);
  .ask x1
  (
   .need ((slices_ContainsFunc___impl_Body_impl_Body__impl_AreBodies_1_need a0 )) (
   let x2 := slices_ContainsFunc___impl_Body_impl_Body__impl_AreBodies_1 a0 ;
   .leaf (!x2)))
  (
   .leaf false)
def impl_AreBodies (a0 : List Body) : Bool := (impl_AreBodies_tree a0).val
def impl_AreBodies_need (a0 : List Body) : Bool := (impl_AreBodies_tree a0).ok
def impl_AreBodies_mk (p : Bool) : Ret := ⟨.bool p, []⟩
def impl_AreBodies_c0 : Con := fun args => match args with
  | [.vslc 1 .body a0] => some (.need (impl_AreBodies_need a0) (.leaf (impl_AreBodies_mk (impl_AreBodies a0))))
  | _ => none
set_option maxRecDepth 100000 in
theorem impl_AreBodies_ok0 : FunOK Tryz.prog 34 impl_AreBodies_c0.fn := by
  refine con_ok (Γ := gam [(49, slices_ContainsFunc___impl_Body_impl_Body__impl_AreBodies_1_c)]) (gam_cons slices_ContainsFunc___impl_Body_impl_Body__impl_AreBodies_1_ok (gam_nil)) tab_ok (by kernel_rfl) Tryz.func34 (by kernel_rfl) (by kernel_rfl) Tryz.ntmps34 Tryz.results34 (loopsOK_none rfl _) 100000 fun args t h => ?_
  unfold impl_AreBodies_c0 at h
  split at h
  · rename_i a0
    cases h
    exact ⟨rfl, agree_need (mk := impl_AreBodies_mk) (t := impl_AreBodies_tree a0) (by unfold Agree; kernel_rfl)⟩
  · cases h
def impl_AreBodies_c : Con := fun args => impl_AreBodies_c0 (norms 0 [.slc .body] args)
set_option maxRecDepth 100000 in
theorem impl_AreBodies_ok : FunOK Tryz.prog 34 impl_AreBodies_c.fn := con_norm [.slc .body] impl_AreBodies_ok0

/-- loop.example/g01284/impl.asBodies -/
def impl_asBodies_tree (a0 : List Body) : DT ((Unit) ⊕ (List Body)) :=
  .need ((impl_AreBodies_need a0)) (
  let x0 := impl_AreBodies a0;
  .ask (!x0)
  (
   .leaf (.inl ()))
  (
   .leaf (.inr a0)))
def impl_asBodies (a0 : List Body) : (Unit) ⊕ (List Body) := (impl_asBodies_tree a0).val
def impl_asBodies_need (a0 : List Body) : Bool := (impl_asBodies_tree a0).ok
def impl_asBodies_mk0 (p : Unit) : Ret := ⟨.tup [.nils, .bool false], []⟩
def impl_asBodies_mk1 (p : List Body) : Ret := ⟨.tup [.vslc 1 .body p, .bool true], []⟩
def impl_asBodies_mk : (Unit) ⊕ (List Body) → Ret := fun v => match v with
  | (.inl p) => impl_asBodies_mk0 p
  | (.inr p) => impl_asBodies_mk1 p
def impl_asBodies_forms (v : (Unit) ⊕ (List Body)) : DT Ret := .ask (isL v) (.leaf (impl_asBodies_mk0 (leftD v))) (.leaf (impl_asBodies_mk1 (rightD v)))
theorem impl_asBodies_forms_get : ∀ v, (impl_asBodies_forms v).get = some (impl_asBodies_mk v) := by
  intro v
  rcases v with v | v <;> rfl
def impl_asBodies_c0 : Con := fun args => match args with
  | [.vslc 1 .body a0] => some (.need (impl_asBodies_need a0) (impl_asBodies_forms (impl_asBodies a0)))
  | _ => none
set_option maxRecDepth 100000 in
theorem impl_asBodies_ok0 : FunOK Tryz.prog 20 impl_asBodies_c0.fn := by
  refine con_ok (Γ := gam [(34, impl_AreBodies_c)]) (gam_cons impl_AreBodies_ok (gam_nil)) tab_ok (by kernel_rfl) Tryz.func20 (by kernel_rfl) (by kernel_rfl) Tryz.ntmps20 Tryz.results20 (loopsOK_none rfl _) 100000 fun args t h => ?_
  unfold impl_asBodies_c0 at h
  split at h
  · rename_i a0
    cases h
    exact ⟨rfl, agree_forms (mk := impl_asBodies_mk) (t := impl_asBodies_tree a0) (by unfold Agree; kernel_rfl) (fun h => h) (impl_asBodies_forms_get _)⟩
  · cases h
def impl_asBodies_c : Con := fun args => impl_asBodies_c0 (norms 0 [.slc .body] args)
set_option maxRecDepth 100000 in
theorem impl_asBodies_ok : FunOK Tryz.prog 20 impl_asBodies_c.fn := con_norm [.slc .body] impl_asBodies_ok0

/-- strings.Count -/
def strings_Count_k58_tree (a0 : (List UInt8)) : DT (Int) :=
  .skip (
  .skip (
  .skip (
  let x0 := ((Go.Lib.countByte a0 (Nat.toUInt8 (Int.toNat 58)) : Nat) : Int);
  .leaf x0)))
def strings_Count_k58 (a0 : (List UInt8)) : Int := (strings_Count_k58_tree a0).val
def strings_Count_k58_mk (p : Int) : Ret := ⟨.int .i64 p, []⟩
def strings_Count_k58_c : Con := fun args => match args with
  | [.str a0, .str a1] => bif decide (a1 = ([58] : List UInt8)) then (some (.leaf (strings_Count_k58_mk (strings_Count_k58 a0)))) else none
  | _ => none
set_option maxRecDepth 100000 in
theorem strings_Count_k58_ok : FunOK Tryz.prog 47 strings_Count_k58_c.fn := by
  refine con_ok (Γ := gam [(66, internal_bytealg_CountString_c)]) (gam_cons internal_bytealg_CountString_ok (gam_nil)) tab_ok (by kernel_rfl) Tryz.func47 (by kernel_rfl) (by kernel_rfl) Tryz.ntmps47 Tryz.results47 (loopsOK_none rfl _) 100000 fun args t h => ?_
  unfold strings_Count_k58_c at h
  split at h
  · rename_i a0 a1
    obtain ⟨hk1, h⟩ := bif_some h
    subst hk1
    cases h
    exact ⟨rfl, agree_tot (mk := strings_Count_k58_mk) (t := strings_Count_k58_tree a0) (by unfold Agree; kernel_rfl) (by kernel_rfl)⟩
  · cases h

/-- internal/stringslite.Index -/
def internal_stringslite_Index_k58_tree (a0 : (List UInt8)) : DT (Int) :=
  .skip (
  .skip (
  .skip (
  let x0 := ([58] == a0);
  .skip (
  .ask x0
  (
   .leaf 0)
  (
   .skip (
   .skip (
   let x1 := internal_stringslite_IndexByte a0 58;
   .leaf x1)))))))
def internal_stringslite_Index_k58 (a0 : (List UInt8)) : Int := (internal_stringslite_Index_k58_tree a0).val
def internal_stringslite_Index_k58_mk (p : Int) : Ret := ⟨.int .i64 p, []⟩
def internal_stringslite_Index_k58_c : Con := fun args => match args with
  | [.str a0, .str a1] => bif decide (a1 = ([58] : List UInt8)) then (some (.leaf (internal_stringslite_Index_k58_mk (internal_stringslite_Index_k58 a0)))) else none
  | _ => none
set_option maxRecDepth 100000 in
theorem internal_stringslite_Index_k58_ok : FunOK Tryz.prog 56 internal_stringslite_Index_k58_c.fn := by
  refine con_ok (Γ := gam [(75, internal_stringslite_IndexByte_c)]) (gam_cons internal_stringslite_IndexByte_ok (gam_nil)) tab_ok (by kernel_rfl) Tryz.func56 (by kernel_rfl) (by kernel_rfl) Tryz.ntmps56 Tryz.results56 (loopsOK_none rfl _) 100000 fun args t h => ?_
  unfold internal_stringslite_Index_k58_c at h
  split at h
  · rename_i a0 a1
    obtain ⟨hk1, h⟩ := bif_some h
    subst hk1
    cases h
    exact ⟨rfl, agree_tot (mk := internal_stringslite_Index_k58_mk) (t := internal_stringslite_Index_k58_tree a0) (by unfold Agree; kernel_rfl) (by kernel_rfl)⟩
  · cases h

/-- strings.Index -/
def strings_Index_k58_tree (a0 : (List UInt8)) : DT (Int) :=
  let x0 := internal_stringslite_Index_k58 a0;
  .leaf x0
def strings_Index_k58 (a0 : (List UInt8)) : Int := (strings_Index_k58_tree a0).val
def strings_Index_k58_mk (p : Int) : Ret := ⟨.int .i64 p, []⟩
def strings_Index_k58_c : Con := fun args => match args with
  | [.str a0, .str a1] => bif decide (a1 = ([58] : List UInt8)) then (some (.leaf (strings_Index_k58_mk (strings_Index_k58 a0)))) else none
  | _ => none
set_option maxRecDepth 100000 in
theorem strings_Index_k58_ok : FunOK Tryz.prog 48 strings_Index_k58_c.fn := by
  refine con_ok (Γ := gam [(56, internal_stringslite_Index_k58_c)]) (gam_cons internal_stringslite_Index_k58_ok (gam_nil)) tab_ok (by kernel_rfl) Tryz.func48 (by kernel_rfl) (by kernel_rfl) Tryz.ntmps48 Tryz.results48 (loopsOK_none rfl _) 100000 fun args t h => ?_
  unfold strings_Index_k58_c at h
  split at h
  · rename_i a0 a1
    obtain ⟨hk1, h⟩ := bif_some h
    subst hk1
    cases h
    exact ⟨rfl, agree_tot (mk := strings_Index_k58_mk) (t := strings_Index_k58_tree a0) (by unfold Agree; kernel_rfl) (by kernel_rfl)⟩
  · cases h

/-- a loop of strings_genSplit_k58_k0_m1 -/
def strings_genSplit_k58_k0_m1_loop0_step (p : Int × Int) (s : (List UInt8) × Int × List (List UInt8)) : Round ((List UInt8) × Int × List (List UInt8)) ((List UInt8) × Int × List (List UInt8)) :=
  let x0 := decide (s.2.1 < p.2);
  .ask x0
  (
   let x1 := strings_Index_k58 s.1;
   let x2 := decide (x1 < 0);
   .ask x2
   (
    .leaf (.inr (s.1, s.2.1, s.2.2), [0]))
   (
    let x3 := IntKind.wrap .i64 (x1 + p.1);
    .need ((decide (0 ≤ x3) && decide (x3 ≤ ((List.length s.1 : Nat) : Int)))) (
    let x4 := List.drop 0 (List.take (Int.toNat x3) s.1);
    .need ((decide (0 ≤ s.2.1) && decide (s.2.1 < ((List.length s.2.2 : Nat) : Int)))) (
    .need ((decide ((Int.toNat s.2.1) < List.length s.2.2))) (
    let x5 := List.set s.2.2 (Int.toNat s.2.1) x4;
    let x6 := IntKind.wrap .i64 (x1 + 1);
    .need ((decide (0 ≤ x6) && decide (x6 ≤ (((List.length s.1) : Nat) : Int)))) (
    let x7 := List.drop (Int.toNat x6) (List.take (List.length s.1) s.1);
    let x8 := IntKind.wrap .i64 (s.2.1 + 1);
    .leaf (.inl (x7, x8, x5), [0])))))))
  (
   .leaf (.inr (s.1, s.2.1, s.2.2), [0]))
def strings_genSplit_k58_k0_m1_loop0_L (p : Int × Int) : LoopS ((List UInt8) × Int × List (List UInt8)) ((List UInt8) × Int × List (List UInt8)) := { tl := fun s => [.str s.1, .str [58], .int .i64 p.1, .int .i64 p.2, .junk, .junk, .junk, .junk, .junk, .own 0, .int .i64 s.2.1], hl := fun s => [some (.typed 9 .str s.2.2)], ex := fun r => .exit 0, otl := fun r => [.str r.1, .junk, .junk, .junk, .junk, .junk, .junk, .junk, .junk, .own 0, .int .i64 r.2.1], ohl := fun r => [some (.typed 9 .str r.2.2)] }
def strings_genSplit_k58_k0_m1_loop0_ext : St → Option ((Int × Int) × ((List UInt8) × Int × List (List UInt8)) × List Nat) := fun S => match (S.tm 0).unK, (S.tm 1).unK, (S.tm 2).unK, (S.tm 3).unK, (S.tm 9).unK, (S.tm 10).unK with
  | .str q0, .str q1, .int .i64 q2, .int .i64 q3, .own i0, .int .i64 q4 => (match S.hp i0 with
    | some (.typed 9 .str q5) => (if q1 = ([58] : List UInt8) then some ((q2, q3), (q0, q4, q5), [i0]) else none)
    | _ => none)
  | _, _, _, _, _, _ => none
def strings_genSplit_k58_k0_m1_loop0_post (p : Int × Int) (r : (List UInt8) × Int × List (List UInt8)) : DT (Ex × St) := .leaf (.exit 0, LSt [.str r.1, .junk, .junk, .junk, .junk, .junk, .junk, .junk, .junk, .own 0, .int .i64 r.2.1] [some (.typed 9 .str r.2.2)])
def strings_genSplit_k58_k0_m1_loop0 (p : Int × Int) (s : (List UInt8) × Int × List (List UInt8)) : (List UInt8) × Int × List (List UInt8) := loopVal (strings_genSplit_k58_k0_m1_loop0_step p) s
def strings_genSplit_k58_k0_m1_loop0_ends (p : Int × Int) (s : (List UInt8) × Int × List (List UInt8)) : Bool := loopEnds (strings_genSplit_k58_k0_m1_loop0_step p) s
def strings_genSplit_k58_k0_m1_loop0_F : LoopF := loopF strings_genSplit_k58_k0_m1_loop0_step strings_genSplit_k58_k0_m1_loop0_ext strings_genSplit_k58_k0_m1_loop0_post
theorem strings_genSplit_k58_k0_m1_loop0_hext : ∀ S p s fl, strings_genSplit_k58_k0_m1_loop0_ext S = some (p, s, fl) → Norm S fl ((strings_genSplit_k58_k0_m1_loop0_L p).tl s) ((strings_genSplit_k58_k0_m1_loop0_L p).hl s) (strings_genSplit_k58_k0_m1_loop0_L p).gl := by
  intro S p s fl h
  unfold strings_genSplit_k58_k0_m1_loop0_ext at h
  (repeat' split at h) <;> first
    | (cases h; constructor <;> simp_all [strings_genSplit_k58_k0_m1_loop0_L, keepT, keepH, rens, renH, PV.ren, Blk.ren, fOf, lget, nodup, natIn, lenEq, gtm, PV.unK])
    | cases h
theorem strings_genSplit_k58_k0_m1_loop0_hpost : ∀ p r e S', (strings_genSplit_k58_k0_m1_loop0_post p r).get = some (e, S') → e = (strings_genSplit_k58_k0_m1_loop0_L p).ex r ∧ S' = LSt ((strings_genSplit_k58_k0_m1_loop0_L p).otl r) ((strings_genSplit_k58_k0_m1_loop0_L p).ohl r) ((strings_genSplit_k58_k0_m1_loop0_L p).ogl r) := by
  intro p r e S' h
  unfold strings_genSplit_k58_k0_m1_loop0_post at h
  simp only [DT.get, Option.some.injEq, Prod.mk.injEq] at h; exact ⟨h.1.symm, h.2.symm⟩

def strings_genSplit_k58_k0_m1_loops : Nat → Option LoopF := loopTab [(11, strings_genSplit_k58_k0_m1_loop0_F)]
set_option maxRecDepth 100000 in
theorem strings_genSplit_k58_k0_m1_l0 : LoopOK Tryz.prog ⟨gam [(47, strings_Count_k58_c), (48, strings_Index_k58_c)], tab, 66, strings_genSplit_k58_k0_m1_loops⟩ (lp Tryz.f33 0) :=
  loopOK_some (F := strings_genSplit_k58_k0_m1_loop0_F) (by kernel_rfl) (loopF_ok (E := ⟨gam [(47, strings_Count_k58_c), (48, strings_Index_k58_c)], tab, 66, strings_genSplit_k58_k0_m1_loops⟩) ⟨gam_cons strings_Count_k58_ok (gam_cons strings_Index_k58_ok (gam_nil)), tab_ok, by kernel_rfl⟩ (fuel := 100000) (loopsOK_list (l := []) (by kernel_rfl) trivial) (L := strings_genSplit_k58_k0_m1_loop0_L) (fun p s => by unfold AgreeL; exact ⟨by kernel_rfl, by kernel_rfl⟩) (fun _ _ h => Ex.noConfusion h) strings_genSplit_k58_k0_m1_loop0_hext strings_genSplit_k58_k0_m1_loop0_hpost)
/-- strings.genSplit -/
def strings_genSplit_k58_k0_m1_tree (a0 : (List UInt8)) : DT (List (List UInt8)) :=
  .skip (
  .skip (
  .skip (
  let x0 := strings_Count_k58 a0;
  let x1 := IntKind.wrap .i64 (x0 + 1);
  let x2 := ((List.length a0 : Nat) : Int);
  let x3 := IntKind.wrap .i64 (x2 + 1);
  let x4 := (bif decide (x3 < x1) then x3 else x1);
  .need ((decide (0 ≤ x4) && decide (x4 ≤ x4) && decide (16 * x4 ≤ 281474976710656) && decide (x4 ≤ 9223372036854775807))) (
  let x5 := List.replicate (Int.toNat x4) [];
  let x6 := IntKind.wrap .i64 (x4 - 1);
  .need ((strings_genSplit_k58_k0_m1_loop0_ends (0, x6) (a0, 0, x5))) (
  let x7 := strings_genSplit_k58_k0_m1_loop0 (0, x6) (a0, 0, x5);
  .need ((decide (0 ≤ x7.2.1) && decide (x7.2.1 < ((List.length x7.2.2 : Nat) : Int)))) (
  .need ((decide ((Int.toNat x7.2.1) < List.length x7.2.2))) (
  let x8 := List.set x7.2.2 (Int.toNat x7.2.1) x7.1;
  let x9 := IntKind.wrap .i64 (x7.2.1 + 1);
  .need ((decide (0 ≤ x9) && decide (x9 ≤ ((List.length x8 : Nat) : Int)))) (
  .leaf ((List.take ((Int.toNat x9) - 0) x8))))))))))
def strings_genSplit_k58_k0_m1 (a0 : (List UInt8)) : List (List UInt8) := (strings_genSplit_k58_k0_m1_tree a0).val
def strings_genSplit_k58_k0_m1_need (a0 : (List UInt8)) : Bool := (strings_genSplit_k58_k0_m1_tree a0).ok
def strings_genSplit_k58_k0_m1_mk (p : List (List UInt8)) : Ret := ⟨.own 0, [.typed 9 .str p]⟩
def strings_genSplit_k58_k0_m1_c : Con := fun args => match args with
  | [.str a0, .str a1, .int .i64 a2, .int .i64 a3] => bif decide (a1 = ([58] : List UInt8)) then (bif decide (a2 = (0 : Int)) then (bif decide (a3 = ((-1) : Int)) then (some (.need (strings_genSplit_k58_k0_m1_need a0) (.leaf (strings_genSplit_k58_k0_m1_mk (strings_genSplit_k58_k0_m1 a0))))) else none) else none) else none
  | _ => none
set_option maxRecDepth 100000 in
theorem strings_genSplit_k58_k0_m1_ok : FunOK Tryz.prog 33 strings_genSplit_k58_k0_m1_c.fn := by
  refine con_ok (Γ := gam [(47, strings_Count_k58_c), (48, strings_Index_k58_c)]) (gam_cons strings_Count_k58_ok (gam_cons strings_Index_k58_ok (gam_nil))) tab_ok (by kernel_rfl) Tryz.func33 (by kernel_rfl) (by kernel_rfl) Tryz.ntmps33 Tryz.results33 (loops := strings_genSplit_k58_k0_m1_loops) (loopsOK_list (l := [lp Tryz.f33 0]) (by kernel_rfl) ⟨strings_genSplit_k58_k0_m1_l0, trivial⟩) 100000 fun args t h => ?_
  unfold strings_genSplit_k58_k0_m1_c at h
  split at h
  · rename_i a0 a1 a2 a3
    obtain ⟨hk1, h⟩ := bif_some h
    obtain ⟨hk2, h⟩ := bif_some h
    obtain ⟨hk3, h⟩ := bif_some h
    subst hk1 hk2 hk3
    cases h
    exact ⟨rfl, agree_need (mk := strings_genSplit_k58_k0_m1_mk) (t := strings_genSplit_k58_k0_m1_tree a0) (by unfold Agree; kernel_rfl)⟩
  · cases h

/-- strings.Split -/
def strings_Split_k58_tree (a0 : (List UInt8)) : DT (List (List UInt8)) :=
  .need ((strings_genSplit_k58_k0_m1_need a0)) (
  let x0 := strings_genSplit_k58_k0_m1 a0;
  .leaf x0)
def strings_Split_k58 (a0 : (List UInt8)) : List (List UInt8) := (strings_Split_k58_tree a0).val
def strings_Split_k58_need (a0 : (List UInt8)) : Bool := (strings_Split_k58_tree a0).ok
def strings_Split_k58_mk (p : List (List UInt8)) : Ret := ⟨.own 0, [.typed 9 .str p]⟩
def strings_Split_k58_c : Con := fun args => match args with
  | [.str a0, .str a1] => bif decide (a1 = ([58] : List UInt8)) then (some (.need (strings_Split_k58_need a0) (.leaf (strings_Split_k58_mk (strings_Split_k58 a0))))) else none
  | _ => none
set_option maxRecDepth 100000 in
theorem strings_Split_k58_ok : FunOK Tryz.prog 17 strings_Split_k58_c.fn := by
  refine con_ok (Γ := gam [(33, strings_genSplit_k58_k0_m1_c)]) (gam_cons strings_genSplit_k58_k0_m1_ok (gam_nil)) tab_ok (by kernel_rfl) Tryz.func17 (by kernel_rfl) (by kernel_rfl) Tryz.ntmps17 Tryz.results17 (loopsOK_none rfl _) 100000 fun args t h => ?_
  unfold strings_Split_k58_c at h
  split at h
  · rename_i a0 a1
    obtain ⟨hk1, h⟩ := bif_some h
    subst hk1
    cases h
    exact ⟨rfl, agree_need (mk := strings_Split_k58_mk) (t := strings_Split_k58_tree a0) (by unfold Agree; kernel_rfl)⟩
  · cases h

/-- a loop of impl_ReadBodies -/
def impl_ReadBodies_loop0_step (p : Int × List (List UInt8)) (s : Int × List Body) : Round (Int × List Body) ((Unit) ⊕ (List Body)) :=
  let x0 := decide (s.1 < p.1);
  .ask x0
  (
   .need ((decide (0 ≤ s.1) && decide (s.1 < ((List.length p.2 : Nat) : Int)))) (
   .need ((decide ((Int.toNat s.1) < List.length p.2))) (
   let x1 := List.getD p.2 (Int.toNat s.1) default;
   .need ((strings_Split_k58_need x1)) (
   let x2 := strings_Split_k58 x1;
   let x3 := ((List.length x2 : Nat) : Int);
   let x4 := (x3 != 3);
   .ask x4
   (
    .leaf (.inr (.inl ()), []))
   (
    .need ((decide (0 ≤ 0) && decide (0 < ((List.length x2 : Nat) : Int)))) (
    .need ((decide (0 < List.length x2))) (
    let x5 := List.getD x2 0 default;
    .need ((impl_ReadVector_need x5)) (
    let x6 := impl_ReadVector x5;
    .need ((decide (0 ≤ 1) && decide (1 < ((List.length x2 : Nat) : Int)))) (
    .need ((decide (1 < List.length x2))) (
    let x7 := List.getD x2 1 default;
    .need ((impl_ReadVector_need x7)) (
    let x8 := impl_ReadVector x7;
    .need ((decide (0 ≤ 2) && decide (2 < ((List.length x2 : Nat) : Int)))) (
    .need ((decide (2 < List.length x2))) (
    let x9 := List.getD x2 2 default;
    .need ((impl_readOne_need x9)) (
    let x10 := impl_readOne x9;
    .ask (!x6.2)
    (
     .leaf (.inr (.inl ()), []))
    (
     .ask (!x8.2)
     (
      .leaf (.inr (.inl ()), []))
     (
      .ask (!x10.2)
      (
       .leaf (.inr (.inl ()), []))
      (
       .need ((decide ((List.length s.2 + List.length [(⟨⟨x6.1.X, x6.1.Y, x6.1.Z⟩, ⟨x8.1.X, x8.1.Y, x8.1.Z⟩, x10.1⟩ : Body)]) * 28 ≤ 140737488355328) && decide (List.length s.2 + List.length [(⟨⟨x6.1.X, x6.1.Y, x6.1.Z⟩, ⟨x8.1.X, x8.1.Y, x8.1.Z⟩, x10.1⟩ : Body)] ≤ 9223372036854775807))) (
       let x11 := s.2 ++ [(⟨⟨x6.1.X, x6.1.Y, x6.1.Z⟩, ⟨x8.1.X, x8.1.Y, x8.1.Z⟩, x10.1⟩ : Body)];
       let x12 := IntKind.wrap .i64 (s.1 + 1);
       .leaf (.inl (x12, x11), [442, 1])))))))))))))))))))
  (
   .leaf (.inr (.inr s.2), [0]))
def impl_ReadBodies_loop0_L (p : Int × List (List UInt8)) : LoopS (Int × List Body) ((Unit) ⊕ (List Body)) := { tl := fun s => [.junk, .junk, .junk, .junk, .own 0, .junk, .junk, .junk, .junk, .junk, .junk, .junk, .junk, .junk, .junk, .junk, .own 1, .int .i64 p.1, .int .i64 s.1], hl := fun s => [some (.typed 44 .body s.2), some (.typed 9 .str p.2)], ex := fun r => match r with | .inl r => .ret | .inr r => .exit 0, otl := fun r => match r with | .inl r => [.junk, .junk, .nils, .bool false] | .inr r => [.junk, .junk, .junk, .junk, .own 0], ohl := fun r => match r with | .inl r => [] | .inr r => [some (.typed 44 .body r)] }
def impl_ReadBodies_loop0_ext : St → Option ((Int × List (List UInt8)) × (Int × List Body) × List Nat) := fun S => match (S.tm 4).unK, (S.tm 16).unK, (S.tm 17).unK, (S.tm 18).unK with
  | .own i0, .own i1, .int .i64 q0, .int .i64 q1 => (match S.hp i0 with
    | some (.typed 44 .body q2) => (match S.hp i1 with
    | some (.typed 9 .str q3) => (if nodup [i0, i1] = true then some ((q0, q3), (q1, q2), [i0, i1]) else none)
    | _ => none)
    | _ => none)
  | _, _, _, _ => none
def impl_ReadBodies_loop0_post (p : Int × List (List UInt8)) (r : (Unit) ⊕ (List Body)) : DT (Ex × St) := .ask (isL r) (.leaf (.ret, LSt [.junk, .junk, .nils, .bool false] [])) (.leaf (.exit 0, LSt [.junk, .junk, .junk, .junk, .own 0] [some (.typed 44 .body ((rightD r)))]))
def impl_ReadBodies_loop0 (p : Int × List (List UInt8)) (s : Int × List Body) : (Unit) ⊕ (List Body) := loopVal (impl_ReadBodies_loop0_step p) s
def impl_ReadBodies_loop0_ends (p : Int × List (List UInt8)) (s : Int × List Body) : Bool := loopEnds (impl_ReadBodies_loop0_step p) s
def impl_ReadBodies_loop0_F : LoopF := loopF impl_ReadBodies_loop0_step impl_ReadBodies_loop0_ext impl_ReadBodies_loop0_post
theorem impl_ReadBodies_loop0_hext : ∀ S p s fl, impl_ReadBodies_loop0_ext S = some (p, s, fl) → Norm S fl ((impl_ReadBodies_loop0_L p).tl s) ((impl_ReadBodies_loop0_L p).hl s) (impl_ReadBodies_loop0_L p).gl := by
  intro S p s fl h
  unfold impl_ReadBodies_loop0_ext at h
  (repeat' split at h) <;> first
    | (cases h; constructor <;> simp_all [impl_ReadBodies_loop0_L, keepT, keepH, rens, renH, PV.ren, Blk.ren, fOf, lget, nodup, natIn, lenEq, gtm, PV.unK])
    | cases h
theorem impl_ReadBodies_loop0_hpost : ∀ p r e S', (impl_ReadBodies_loop0_post p r).get = some (e, S') → e = (impl_ReadBodies_loop0_L p).ex r ∧ S' = LSt ((impl_ReadBodies_loop0_L p).otl r) ((impl_ReadBodies_loop0_L p).ohl r) ((impl_ReadBodies_loop0_L p).ogl r) := by
  intro p r e S' h
  unfold impl_ReadBodies_loop0_post at h
  cases r <;> (simp only [isL, DT.get, Option.some.injEq, Prod.mk.injEq] at h; exact ⟨h.1.symm, h.2.symm⟩)

def impl_ReadBodies_loops : Nat → Option LoopF := loopTab [(3, impl_ReadBodies_loop0_F)]
set_option maxRecDepth 100000 in
theorem impl_ReadBodies_l0 : LoopOK Tryz.prog ⟨gam [(16, impl_unslashed_c), (20, impl_asBodies_c), (17, strings_Split_k58_c), (18, impl_ReadVector_c), (19, impl_readOne_c)], tab, 70, impl_ReadBodies_loops⟩ (lp Tryz.f6 0) :=
  loopOK_some (F := impl_ReadBodies_loop0_F) (by kernel_rfl) (loopF_ok (E := ⟨gam [(16, impl_unslashed_c), (20, impl_asBodies_c), (17, strings_Split_k58_c), (18, impl_ReadVector_c), (19, impl_readOne_c)], tab, 70, impl_ReadBodies_loops⟩) ⟨gam_cons impl_unslashed_ok (gam_cons impl_asBodies_ok (gam_cons strings_Split_k58_ok (gam_cons impl_ReadVector_ok (gam_cons impl_readOne_ok (gam_nil))))), tab_ok, by kernel_rfl⟩ (fuel := 100000) (loopsOK_list (l := []) (by kernel_rfl) trivial) (L := impl_ReadBodies_loop0_L) (fun p s => by unfold AgreeL; exact ⟨by kernel_rfl, by kernel_rfl⟩) (fun _ r h => by cases r <;> exact Ex.noConfusion h) impl_ReadBodies_loop0_hext impl_ReadBodies_loop0_hpost)
/-- loop.example/g01284/impl.ReadBodies -/
def impl_ReadBodies_tree (a0 : (List UInt8)) : DT ((Unit) ⊕ (List Body)) :=
  .need ((impl_unslashed_need a0)) (
  let x0 := impl_unslashed a0;
  .ask ((isL x0))
  (
   .skip (
   .need ((impl_asBodies_need [])) (
   let x1 := impl_asBodies [];
   .ask ((isL x1))
   (
    .leaf (.inl ()))
   (
    .leaf (.inr [])))))
  (
   let x1 := ((List.length (rightD x0) : Nat) : Int);
   .need ((impl_ReadBodies_loop0_ends (x1, (rightD x0)) (0, []))) (
   let x2 := impl_ReadBodies_loop0 (x1, (rightD x0)) (0, []);
   .ask ((isL x2))
   (
    .leaf (.inl ()))
   (
    .need ((impl_asBodies_need ((rightD x2)))) (
    let x3 := impl_asBodies ((rightD x2));
    .ask ((isL x3))
    (
     .leaf (.inl ()))
    (
     .leaf (.inr ((rightD x2)))))))))
def impl_ReadBodies (a0 : (List UInt8)) : (Unit) ⊕ (List Body) := (impl_ReadBodies_tree a0).val
def impl_ReadBodies_need (a0 : (List UInt8)) : Bool := (impl_ReadBodies_tree a0).ok
def impl_ReadBodies_mk0 (p : Unit) : Ret := ⟨.tup [.nils, .bool false], []⟩
def impl_ReadBodies_mk1 (p : List Body) : Ret := ⟨.tup [.own 0, .bool true], [.typed 44 .body p]⟩
def impl_ReadBodies_mk : (Unit) ⊕ (List Body) → Ret := fun v => match v with
  | (.inl p) => impl_ReadBodies_mk0 p
  | (.inr p) => impl_ReadBodies_mk1 p
def impl_ReadBodies_forms (v : (Unit) ⊕ (List Body)) : DT Ret := .ask (isL v) (.leaf (impl_ReadBodies_mk0 (leftD v))) (.leaf (impl_ReadBodies_mk1 (rightD v)))
theorem impl_ReadBodies_forms_get : ∀ v, (impl_ReadBodies_forms v).get = some (impl_ReadBodies_mk v) := by
  intro v
  rcases v with v | v <;> rfl
def impl_ReadBodies_c : Con := fun args => match args with
  | [.str a0] => some (.need (impl_ReadBodies_need a0) (impl_ReadBodies_forms (impl_ReadBodies a0)))
  | _ => none
set_option maxRecDepth 100000 in
theorem impl_ReadBodies_ok : FunOK Tryz.prog 6 impl_ReadBodies_c.fn := by
  refine con_ok (Γ := gam [(16, impl_unslashed_c), (20, impl_asBodies_c), (17, strings_Split_k58_c), (18, impl_ReadVector_c), (19, impl_readOne_c)]) (gam_cons impl_unslashed_ok (gam_cons impl_asBodies_ok (gam_cons strings_Split_k58_ok (gam_cons impl_ReadVector_ok (gam_cons impl_readOne_ok (gam_nil)))))) tab_ok (by kernel_rfl) Tryz.func6 (by kernel_rfl) (by kernel_rfl) Tryz.ntmps6 Tryz.results6 (loops := impl_ReadBodies_loops) (loopsOK_list (l := [lp Tryz.f6 0]) (by kernel_rfl) ⟨impl_ReadBodies_l0, trivial⟩) 100000 fun args t h => ?_
  unfold impl_ReadBodies_c at h
  split at h
  · rename_i a0
    cases h
    exact ⟨rfl, agree_forms (mk := impl_ReadBodies_mk) (t := impl_ReadBodies_tree a0) (by unfold Agree; kernel_rfl) (fun h => h) (impl_ReadBodies_forms_get _)⟩
  · cases h

/-- loop.example/g01284/laws.sameFloat -/
def laws_sameFloat_tree (a0 : Nat) (a1 : Nat) : DT (Bool) :=
  let x0 := fne .f64 a0 a0;
  .ask x0
  (
   let x1 := fne .f64 a0 a0;
   .ask x1
   (
    let x2 := fne .f64 a1 a1;
    .leaf x2)
   (
    .leaf false))
  (
   let x1 := fne .f64 a1 a1;
   .ask x1
   (
    let x2 := fne .f64 a0 a0;
    .ask x2
    (
     let x3 := fne .f64 a1 a1;
     .leaf x3)
    (
     .leaf false))
   (
    let x2 := feq .f64 a0 0;
    .ask x2
    (
     let x3 := feq .f64 a1 0;
     .ask x3
     (
      let x4 := fdiv .f64 4607182418800017408 a0;
      let x5 := fgt .f64 x4 0;
      let x6 := fdiv .f64 4607182418800017408 a1;
      let x7 := fgt .f64 x6 0;
      let x8 := (x5 == x7);
      .leaf x8)
     (
      let x4 := feq .f64 a0 a1;
      .leaf x4))
    (
     let x3 := feq .f64 a0 a1;
     .leaf x3)))
def laws_sameFloat (a0 : Nat) (a1 : Nat) : Bool := (laws_sameFloat_tree a0 a1).val
def laws_sameFloat_mk (p : Bool) : Ret := ⟨.bool p, []⟩
def laws_sameFloat_c : Con := fun args => match args with
  | [.flt .f64 a0, .flt .f64 a1] => some (.leaf (laws_sameFloat_mk (laws_sameFloat a0 a1)))
  | _ => none
set_option maxRecDepth 100000 in
theorem laws_sameFloat_ok : FunOK Tryz.prog 36 laws_sameFloat_c.fn := by
  refine con_ok (Γ := gam []) (gam_nil) tab_ok (by kernel_rfl) Tryz.func36 (by kernel_rfl) (by kernel_rfl) Tryz.ntmps36 Tryz.results36 (loopsOK_none rfl _) 100000 fun args t h => ?_
  unfold laws_sameFloat_c at h
  split at h
  · rename_i a0 a1
    cases h
    exact ⟨rfl, agree_tot (mk := laws_sameFloat_mk) (t := laws_sameFloat_tree a0 a1) (by unfold Agree; kernel_rfl) (by kernel_rfl)⟩
  · cases h

/-- loop.example/g01284/laws.eqVector -/
def laws_eqVector_tree (a0 : Vec) (a1 : Vec) : DT (Bool) :=
  .need ((fconvOk .f32 a0.X .f64)) (
  let x0 := fconv .f32 a0.X .f64;
  .need ((fconvOk .f32 a1.X .f64)) (
  let x1 := fconv .f32 a1.X .f64;
  let x2 := laws_sameFloat x0 x1;
  .ask (!x2)
  (
   .leaf false)
  (
   .need ((fconvOk .f32 a0.Y .f64)) (
   let x3 := fconv .f32 a0.Y .f64;
   .need ((fconvOk .f32 a1.Y .f64)) (
   let x4 := fconv .f32 a1.Y .f64;
   let x5 := laws_sameFloat x3 x4;
   .ask (!x5)
   (
    .leaf false)
   (
    .need ((fconvOk .f32 a0.Z .f64)) (
    let x6 := fconv .f32 a0.Z .f64;
    .need ((fconvOk .f32 a1.Z .f64)) (
    let x7 := fconv .f32 a1.Z .f64;
    let x8 := laws_sameFloat x6 x7;
    .ask (!x8)
    (
     .leaf false)
    (
     .leaf true)))))))))
def laws_eqVector (a0 : Vec) (a1 : Vec) : Bool := (laws_eqVector_tree a0 a1).val
def laws_eqVector_need (a0 : Vec) (a1 : Vec) : Bool := (laws_eqVector_tree a0 a1).ok
def laws_eqVector_mk (p : Bool) : Ret := ⟨.bool p, []⟩
def laws_eqVector_c : Con := fun args => match args with
  | [.agg [.flt .f32 a0_0, .flt .f32 a0_1, .flt .f32 a0_2], .agg [.flt .f32 a1_0, .flt .f32 a1_1, .flt .f32 a1_2]] => some (.need (laws_eqVector_need (⟨a0_0, a0_1, a0_2⟩ : Vec) (⟨a1_0, a1_1, a1_2⟩ : Vec)) (.leaf (laws_eqVector_mk (laws_eqVector (⟨a0_0, a0_1, a0_2⟩ : Vec) (⟨a1_0, a1_1, a1_2⟩ : Vec)))))
  | _ => none
set_option maxRecDepth 100000 in
theorem laws_eqVector_ok : FunOK Tryz.prog 35 laws_eqVector_c.fn := by
  refine con_ok (Γ := gam [(36, laws_sameFloat_c)]) (gam_cons laws_sameFloat_ok (gam_nil)) tab_ok (by kernel_rfl) Tryz.func35 (by kernel_rfl) (by kernel_rfl) Tryz.ntmps35 Tryz.results35 (loopsOK_none rfl _) 100000 fun args t h => ?_
  unfold laws_eqVector_c at h
  split at h
  · rename_i a0_0 a0_1 a0_2 a1_0 a1_1 a1_2
    cases h
    exact ⟨rfl, agree_need (mk := laws_eqVector_mk) (t := laws_eqVector_tree (⟨a0_0, a0_1, a0_2⟩ : Vec) (⟨a1_0, a1_1, a1_2⟩ : Vec)) (by unfold Agree; kernel_rfl)⟩
  · cases h

/-- loop.example/g01284/laws.eqBody -/
def laws_eqBody_tree (a0 : Body) (a1 : Body) : DT (Bool) :=
  .need ((laws_eqVector_need (⟨a0.At.X, a0.At.Y, a0.At.Z⟩ : Vec) (⟨a1.At.X, a1.At.Y, a1.At.Z⟩ : Vec))) (
  let x0 := laws_eqVector (⟨a0.At.X, a0.At.Y, a0.At.Z⟩ : Vec) (⟨a1.At.X, a1.At.Y, a1.At.Z⟩ : Vec);
  .ask (!x0)
  (
   .leaf false)
  (
   .need ((laws_eqVector_need (⟨a0.Speed.X, a0.Speed.Y, a0.Speed.Z⟩ : Vec) (⟨a1.Speed.X, a1.Speed.Y, a1.Speed.Z⟩ : Vec))) (
   let x1 := laws_eqVector (⟨a0.Speed.X, a0.Speed.Y, a0.Speed.Z⟩ : Vec) (⟨a1.Speed.X, a1.Speed.Y, a1.Speed.Z⟩ : Vec);
   .ask (!x1)
   (
    .leaf false)
   (
    .need ((fconvOk .f32 a0.Mass .f64)) (
    let x2 := fconv .f32 a0.Mass .f64;
    .need ((fconvOk .f32 a1.Mass .f64)) (
    let x3 := fconv .f32 a1.Mass .f64;
    let x4 := laws_sameFloat x2 x3;
    .ask (!x4)
    (
     .leaf false)
    (
     .leaf true)))))))
def laws_eqBody (a0 : Body) (a1 : Body) : Bool := (laws_eqBody_tree a0 a1).val
def laws_eqBody_need (a0 : Body) (a1 : Body) : Bool := (laws_eqBody_tree a0 a1).ok
def laws_eqBody_mk (p : Bool) : Ret := ⟨.bool p, []⟩
def laws_eqBody_c : Con := fun args => match args with
  | [.agg [.flt .f32 a0_0, .flt .f32 a0_1, .flt .f32 a0_2, .flt .f32 a0_3, .flt .f32 a0_4, .flt .f32 a0_5, .flt .f32 a0_6], .agg [.flt .f32 a1_0, .flt .f32 a1_1, .flt .f32 a1_2, .flt .f32 a1_3, .flt .f32 a1_4, .flt .f32 a1_5, .flt .f32 a1_6]] => some (.need (laws_eqBody_need (⟨⟨a0_0, a0_1, a0_2⟩, ⟨a0_3, a0_4, a0_5⟩, a0_6⟩ : Body) (⟨⟨a1_0, a1_1, a1_2⟩, ⟨a1_3, a1_4, a1_5⟩, a1_6⟩ : Body)) (.leaf (laws_eqBody_mk (laws_eqBody (⟨⟨a0_0, a0_1, a0_2⟩, ⟨a0_3, a0_4, a0_5⟩, a0_6⟩ : Body) (⟨⟨a1_0, a1_1, a1_2⟩, ⟨a1_3, a1_4, a1_5⟩, a1_6⟩ : Body)))))
  | _ => none
set_option maxRecDepth 100000 in
theorem laws_eqBody_ok : FunOK Tryz.prog 21 laws_eqBody_c.fn := by
  refine con_ok (Γ := gam [(35, laws_eqVector_c), (36, laws_sameFloat_c)]) (gam_cons laws_eqVector_ok (gam_cons laws_sameFloat_ok (gam_nil))) tab_ok (by kernel_rfl) Tryz.func21 (by kernel_rfl) (by kernel_rfl) Tryz.ntmps21 Tryz.results21 (loopsOK_none rfl _) 100000 fun args t h => ?_
  unfold laws_eqBody_c at h
  split at h
  · rename_i a0_0 a0_1 a0_2 a0_3 a0_4 a0_5 a0_6 a1_0 a1_1 a1_2 a1_3 a1_4 a1_5 a1_6
    cases h
    exact ⟨rfl, agree_need (mk := laws_eqBody_mk) (t := laws_eqBody_tree (⟨⟨a0_0, a0_1, a0_2⟩, ⟨a0_3, a0_4, a0_5⟩, a0_6⟩ : Body) (⟨⟨a1_0, a1_1, a1_2⟩, ⟨a1_3, a1_4, a1_5⟩, a1_6⟩ : Body)) (by unfold Agree; kernel_rfl)⟩
  · cases h

/-- a loop of laws_eqBodyS -/
def laws_eqBodyS_loop0_step (p : List Body × List Body) (s : Int) : Round (Int) ((Unit) ⊕ (Unit)) :=
  let x0 := ((List.length p.1 : Nat) : Int);
  let x1 := decide (s < x0);
  .ask x1
  (
   .need ((decide (0 ≤ s) && decide (s < ((List.length p.1 : Nat) : Int)))) (
   let x2 := List.getD p.1 (Int.toNat s) default;
   .need ((decide (0 ≤ s) && decide (s < ((List.length p.2 : Nat) : Int)))) (
   let x3 := List.getD p.2 (Int.toNat s) default;
   .need ((laws_eqBody_need (⟨⟨x2.At.X, x2.At.Y, x2.At.Z⟩, ⟨x2.Speed.X, x2.Speed.Y, x2.Speed.Z⟩, x2.Mass⟩ : Body) (⟨⟨x3.At.X, x3.At.Y, x3.At.Z⟩, ⟨x3.Speed.X, x3.Speed.Y, x3.Speed.Z⟩, x3.Mass⟩ : Body))) (
   let x4 := laws_eqBody (⟨⟨x2.At.X, x2.At.Y, x2.At.Z⟩, ⟨x2.Speed.X, x2.Speed.Y, x2.Speed.Z⟩, x2.Mass⟩ : Body) (⟨⟨x3.At.X, x3.At.Y, x3.At.Z⟩, ⟨x3.Speed.X, x3.Speed.Y, x3.Speed.Z⟩, x3.Mass⟩ : Body);
   .ask (!x4)
   (
    .leaf (.inr (.inl ()), []))
   (
    let x5 := IntKind.wrap .i64 (s + 1);
    .leaf (.inl x5, []))))))
  (
   .leaf (.inr (.inr ()), []))
def laws_eqBodyS_loop0_L (p : List Body × List Body) : LoopS (Int) ((Unit) ⊕ (Unit)) := { tl := fun s => [.vslc 1 .body p.1, .vslc 2 .body p.2, .junk, .junk, .junk, .int .i64 s], hl := fun s => [], ex := fun r => match r with | .inl r => .ret | .inr r => .exit 0, otl := fun r => match r with | .inl r => [.junk, .junk, .junk, .junk, .bool false] | .inr r => [.junk], ohl := fun r => match r with | .inl r => [] | .inr r => [] }
def laws_eqBodyS_loop0_ext : St → Option ((List Body × List Body) × (Int) × List Nat) := fun S => match (S.tm 0).unK, (S.tm 1).unK, (S.tm 5).unK with
  | .vslc 1 .body q0, .vslc 2 .body q1, .int .i64 q2 => some ((q0, q1), q2, [])
  | _, _, _ => none
def laws_eqBodyS_loop0_post (p : List Body × List Body) (r : (Unit) ⊕ (Unit)) : DT (Ex × St) := .ask (isL r) (.leaf (.ret, LSt [.junk, .junk, .junk, .junk, .bool false] [])) (.leaf (.exit 0, LSt [.junk] []))
def laws_eqBodyS_loop0 (p : List Body × List Body) (s : Int) : (Unit) ⊕ (Unit) := loopVal (laws_eqBodyS_loop0_step p) s
def laws_eqBodyS_loop0_ends (p : List Body × List Body) (s : Int) : Bool := loopEnds (laws_eqBodyS_loop0_step p) s
def laws_eqBodyS_loop0_F : LoopF := loopF laws_eqBodyS_loop0_step laws_eqBodyS_loop0_ext laws_eqBodyS_loop0_post
theorem laws_eqBodyS_loop0_hext : ∀ S p s fl, laws_eqBodyS_loop0_ext S = some (p, s, fl) → Norm S fl ((laws_eqBodyS_loop0_L p).tl s) ((laws_eqBodyS_loop0_L p).hl s) (laws_eqBodyS_loop0_L p).gl := by
  intro S p s fl h
  unfold laws_eqBodyS_loop0_ext at h
  (repeat' split at h) <;> first
    | (cases h; constructor <;> simp_all [laws_eqBodyS_loop0_L, keepT, keepH, rens, renH, PV.ren, Blk.ren, fOf, lget, nodup, natIn, lenEq, gtm, PV.unK])
    | cases h
theorem laws_eqBodyS_loop0_hpost : ∀ p r e S', (laws_eqBodyS_loop0_post p r).get = some (e, S') → e = (laws_eqBodyS_loop0_L p).ex r ∧ S' = LSt ((laws_eqBodyS_loop0_L p).otl r) ((laws_eqBodyS_loop0_L p).ohl r) ((laws_eqBodyS_loop0_L p).ogl r) := by
  intro p r e S' h
  unfold laws_eqBodyS_loop0_post at h
  cases r <;> (simp only [isL, DT.get, Option.some.injEq, Prod.mk.injEq] at h; exact ⟨h.1.symm, h.2.symm⟩)

def laws_eqBodyS_loops : Nat → Option LoopF := loopTab [(4, laws_eqBodyS_loop0_F)]
set_option maxRecDepth 100000 in
theorem laws_eqBodyS_l0 : LoopOK Tryz.prog ⟨gam [(21, laws_eqBody_c)], tab, 27, laws_eqBodyS_loops⟩ (lp Tryz.f7 0) :=
  loopOK_some (F := laws_eqBodyS_loop0_F) (by kernel_rfl) (loopF_ok (E := ⟨gam [(21, laws_eqBody_c)], tab, 27, laws_eqBodyS_loops⟩) ⟨gam_cons laws_eqBody_ok (gam_nil), tab_ok, by kernel_rfl⟩ (fuel := 100000) (loopsOK_list (l := []) (by kernel_rfl) trivial) (L := laws_eqBodyS_loop0_L) (fun p s => by unfold AgreeL; exact ⟨by kernel_rfl, by kernel_rfl⟩) (fun _ r h => by cases r <;> exact Ex.noConfusion h) laws_eqBodyS_loop0_hext laws_eqBodyS_loop0_hpost)
/-- loop.example/g01284/laws.eqBodyS -/
def laws_eqBodyS_tree (a0 : List Body) (a1 : List Body) : DT (Bool) :=
  let x0 := ((List.length a0 : Nat) : Int);
  let x1 := ((List.length a1 : Nat) : Int);
  let x2 := (x0 != x1);
  .ask x2
  (
   .leaf false)
  (
   .need ((laws_eqBodyS_loop0_ends (a0, a1) 0)) (
   let x3 := laws_eqBodyS_loop0 (a0, a1) 0;
   .ask ((isL x3))
   (
    .leaf false)
   (
    .leaf true)))
def laws_eqBodyS (a0 : List Body) (a1 : List Body) : Bool := (laws_eqBodyS_tree a0 a1).val
def laws_eqBodyS_need (a0 : List Body) (a1 : List Body) : Bool := (laws_eqBodyS_tree a0 a1).ok
def laws_eqBodyS_mk (p : Bool) : Ret := ⟨.bool p, []⟩
def laws_eqBodyS_c0 : Con := fun args => match args with
  | [.vslc 1 .body a0, .vslc 2 .body a1] => some (.need (laws_eqBodyS_need a0 a1) (.leaf (laws_eqBodyS_mk (laws_eqBodyS a0 a1))))
  | _ => none
set_option maxRecDepth 100000 in
theorem laws_eqBodyS_ok0 : FunOK Tryz.prog 7 laws_eqBodyS_c0.fn := by
  refine con_ok (Γ := gam [(21, laws_eqBody_c)]) (gam_cons laws_eqBody_ok (gam_nil)) tab_ok (by kernel_rfl) Tryz.func7 (by kernel_rfl) (by kernel_rfl) Tryz.ntmps7 Tryz.results7 (loops := laws_eqBodyS_loops) (loopsOK_list (l := [lp Tryz.f7 0]) (by kernel_rfl) ⟨laws_eqBodyS_l0, trivial⟩) 100000 fun args t h => ?_
  unfold laws_eqBodyS_c0 at h
  split at h
  · rename_i a0 a1
    cases h
    exact ⟨rfl, agree_need (mk := laws_eqBodyS_mk) (t := laws_eqBodyS_tree a0 a1) (by unfold Agree; kernel_rfl)⟩
  · cases h
def laws_eqBodyS_c : Con := fun args => laws_eqBodyS_c0 (norms 0 [.slc .body, .slc .body] args)
set_option maxRecDepth 100000 in
theorem laws_eqBodyS_ok : FunOK Tryz.prog 7 laws_eqBodyS_c.fn := con_norm [.slc .body, .slc .body] laws_eqBodyS_ok0

/-- a loop of laws_markBodyS -/
def laws_markBodyS_loop0_step (p : Unit) (s : Int × Int × List Body) : Round (Int × Int × List Body) (Int × List Body) :=
  let x0 := ((List.length s.2.2 : Nat) : Int);
  let x1 := decide (s.2.1 < x0);
  .ask x1
  (
   let x2 := fofInt .f32 s.1;
   .need ((decide (0 ≤ s.2.1) && decide (s.2.1 < ((List.length s.2.2 : Nat) : Int)))) (
   .need ((decide ((Int.toNat s.2.1) < List.length s.2.2))) (
   let x3 := List.set s.2.2 (Int.toNat s.2.1) (⟨⟨x2, (List.getD s.2.2 (Int.toNat s.2.1) default).At.Y, (List.getD s.2.2 (Int.toNat s.2.1) default).At.Z⟩, ⟨(List.getD s.2.2 (Int.toNat s.2.1) default).Speed.X, (List.getD s.2.2 (Int.toNat s.2.1) default).Speed.Y, (List.getD s.2.2 (Int.toNat s.2.1) default).Speed.Z⟩, (List.getD s.2.2 (Int.toNat s.2.1) default).Mass⟩ : Body);
   let x4 := IntKind.wrap .i64 (s.1 + 1);
   let x5 := fofInt .f32 x4;
   .need ((decide (0 ≤ s.2.1) && decide (s.2.1 < ((List.length x3 : Nat) : Int)))) (
   .need ((decide ((Int.toNat s.2.1) < List.length x3))) (
   let x6 := List.set x3 (Int.toNat s.2.1) (⟨⟨(List.getD x3 (Int.toNat s.2.1) default).At.X, x5, (List.getD x3 (Int.toNat s.2.1) default).At.Z⟩, ⟨(List.getD x3 (Int.toNat s.2.1) default).Speed.X, (List.getD x3 (Int.toNat s.2.1) default).Speed.Y, (List.getD x3 (Int.toNat s.2.1) default).Speed.Z⟩, (List.getD x3 (Int.toNat s.2.1) default).Mass⟩ : Body);
   let x7 := IntKind.wrap .i64 (x4 + 1);
   let x8 := fofInt .f32 x7;
   .need ((decide (0 ≤ s.2.1) && decide (s.2.1 < ((List.length x6 : Nat) : Int)))) (
   .need ((decide ((Int.toNat s.2.1) < List.length x6))) (
   let x9 := List.set x6 (Int.toNat s.2.1) (⟨⟨(List.getD x6 (Int.toNat s.2.1) default).At.X, (List.getD x6 (Int.toNat s.2.1) default).At.Y, x8⟩, ⟨(List.getD x6 (Int.toNat s.2.1) default).Speed.X, (List.getD x6 (Int.toNat s.2.1) default).Speed.Y, (List.getD x6 (Int.toNat s.2.1) default).Speed.Z⟩, (List.getD x6 (Int.toNat s.2.1) default).Mass⟩ : Body);
   let x10 := IntKind.wrap .i64 (x7 + 1);
   let x11 := fofInt .f32 x10;
   .need ((decide (0 ≤ s.2.1) && decide (s.2.1 < ((List.length x9 : Nat) : Int)))) (
   .need ((decide ((Int.toNat s.2.1) < List.length x9))) (
   let x12 := List.set x9 (Int.toNat s.2.1) (⟨⟨(List.getD x9 (Int.toNat s.2.1) default).At.X, (List.getD x9 (Int.toNat s.2.1) default).At.Y, (List.getD x9 (Int.toNat s.2.1) default).At.Z⟩, ⟨x11, (List.getD x9 (Int.toNat s.2.1) default).Speed.Y, (List.getD x9 (Int.toNat s.2.1) default).Speed.Z⟩, (List.getD x9 (Int.toNat s.2.1) default).Mass⟩ : Body);
   let x13 := IntKind.wrap .i64 (x10 + 1);
   let x14 := fofInt .f32 x13;
   .need ((decide (0 ≤ s.2.1) && decide (s.2.1 < ((List.length x12 : Nat) : Int)))) (
   .need ((decide ((Int.toNat s.2.1) < List.length x12))) (
   let x15 := List.set x12 (Int.toNat s.2.1) (⟨⟨(List.getD x12 (Int.toNat s.2.1) default).At.X, (List.getD x12 (Int.toNat s.2.1) default).At.Y, (List.getD x12 (Int.toNat s.2.1) default).At.Z⟩, ⟨(List.getD x12 (Int.toNat s.2.1) default).Speed.X, x14, (List.getD x12 (Int.toNat s.2.1) default).Speed.Z⟩, (List.getD x12 (Int.toNat s.2.1) default).Mass⟩ : Body);
   let x16 := IntKind.wrap .i64 (x13 + 1);
   let x17 := fofInt .f32 x16;
   .need ((decide (0 ≤ s.2.1) && decide (s.2.1 < ((List.length x15 : Nat) : Int)))) (
   .need ((decide ((Int.toNat s.2.1) < List.length x15))) (
   let x18 := List.set x15 (Int.toNat s.2.1) (⟨⟨(List.getD x15 (Int.toNat s.2.1) default).At.X, (List.getD x15 (Int.toNat s.2.1) default).At.Y, (List.getD x15 (Int.toNat s.2.1) default).At.Z⟩, ⟨(List.getD x15 (Int.toNat s.2.1) default).Speed.X, (List.getD x15 (Int.toNat s.2.1) default).Speed.Y, x17⟩, (List.getD x15 (Int.toNat s.2.1) default).Mass⟩ : Body);
   let x19 := IntKind.wrap .i64 (x16 + 1);
   let x20 := fofInt .f32 x19;
   .need ((decide (0 ≤ s.2.1) && decide (s.2.1 < ((List.length x18 : Nat) : Int)))) (
   .need ((decide ((Int.toNat s.2.1) < List.length x18))) (
   let x21 := List.set x18 (Int.toNat s.2.1) (⟨⟨(List.getD x18 (Int.toNat s.2.1) default).At.X, (List.getD x18 (Int.toNat s.2.1) default).At.Y, (List.getD x18 (Int.toNat s.2.1) default).At.Z⟩, ⟨(List.getD x18 (Int.toNat s.2.1) default).Speed.X, (List.getD x18 (Int.toNat s.2.1) default).Speed.Y, (List.getD x18 (Int.toNat s.2.1) default).Speed.Z⟩, x20⟩ : Body);
   let x22 := IntKind.wrap .i64 (x19 + 1);
   let x23 := IntKind.wrap .i64 (s.2.1 + 1);
   .leaf (.inl (x22, x23, x21), [0]))))))))))))))))
  (
   .leaf (.inr (s.1, s.2.2), [0]))
def laws_markBodyS_loop0_L (p : Unit) : LoopS (Int × Int × List Body) (Int × List Body) := { tl := fun s => [.own 0, .int .i64 s.1, .junk, .junk, .junk, .int .i64 s.2.1], hl := fun s => [some (.typed 44 .body s.2.2)], ex := fun r => .exit 0, otl := fun r => [.junk, .int .i64 r.1], ohl := fun r => [some (.typed 44 .body r.2)], gl := [.own 0], ogl := fun _ => [.own 0] }
def laws_markBodyS_loop0_ext : St → Option ((Unit) × (Int × Int × List Body) × List Nat) := fun S => match (S.tm 0).unK, (S.tm 1).unK, (S.tm 5).unK with
  | .own i0, .int .i64 q0, .int .i64 q1 => (match S.gs with
    | [.own g0] => if g0 = i0 then (match S.hp i0 with
    | some (.typed 44 .body q2) => some ((), (q0, q1, q2), [i0])
    | _ => none) else none
    | _ => none)
  | _, _, _ => none
def laws_markBodyS_loop0_post (p : Unit) (r : Int × List Body) : DT (Ex × St) := .leaf (.exit 0, LSt [.junk, .int .i64 r.1] [some (.typed 44 .body r.2)] [.own 0])
def laws_markBodyS_loop0 (p : Unit) (s : Int × Int × List Body) : Int × List Body := loopVal (laws_markBodyS_loop0_step p) s
def laws_markBodyS_loop0_ends (p : Unit) (s : Int × Int × List Body) : Bool := loopEnds (laws_markBodyS_loop0_step p) s
def laws_markBodyS_loop0_F : LoopF := loopF laws_markBodyS_loop0_step laws_markBodyS_loop0_ext laws_markBodyS_loop0_post
theorem laws_markBodyS_loop0_hext : ∀ S p s fl, laws_markBodyS_loop0_ext S = some (p, s, fl) → Norm S fl ((laws_markBodyS_loop0_L p).tl s) ((laws_markBodyS_loop0_L p).hl s) (laws_markBodyS_loop0_L p).gl := by
  intro S p s fl h
  unfold laws_markBodyS_loop0_ext at h
  (repeat' split at h) <;> first
    | (cases h; constructor <;> simp_all [laws_markBodyS_loop0_L, keepT, keepH, rens, renH, PV.ren, Blk.ren, fOf, lget, nodup, natIn, lenEq, gtm, PV.unK])
    | cases h
theorem laws_markBodyS_loop0_hpost : ∀ p r e S', (laws_markBodyS_loop0_post p r).get = some (e, S') → e = (laws_markBodyS_loop0_L p).ex r ∧ S' = LSt ((laws_markBodyS_loop0_L p).otl r) ((laws_markBodyS_loop0_L p).ohl r) ((laws_markBodyS_loop0_L p).ogl r) := by
  intro p r e S' h
  unfold laws_markBodyS_loop0_post at h
  simp only [DT.get, Option.some.injEq, Prod.mk.injEq] at h; exact ⟨h.1.symm, h.2.symm⟩

def laws_markBodyS_loops : Nat → Option LoopF := loopTab [(2, laws_markBodyS_loop0_F)]
set_option maxRecDepth 100000 in
theorem laws_markBodyS_l0 : LoopOK Tryz.prog ⟨gam [], tab, 75, laws_markBodyS_loops⟩ (lp Tryz.f8 0) :=
  loopOK_some (F := laws_markBodyS_loop0_F) (by kernel_rfl) (loopF_ok (E := ⟨gam [], tab, 75, laws_markBodyS_loops⟩) ⟨gam_nil, tab_ok, by kernel_rfl⟩ (fuel := 100000) (loopsOK_list (l := []) (by kernel_rfl) trivial) (L := laws_markBodyS_loop0_L) (fun p s => by unfold AgreeL; exact ⟨by kernel_rfl, by kernel_rfl⟩) (fun _ _ h => Ex.noConfusion h) laws_markBodyS_loop0_hext laws_markBodyS_loop0_hpost)
/-- loop.example/g01284/laws.markBodyS -/
def laws_markBodyS_tree (a0 : List Body) (a1 : Int) : DT (Int × List Body) :=
  .need ((laws_markBodyS_loop0_ends () (a1, 0, a0))) (
  let x0 := laws_markBodyS_loop0 () (a1, 0, a0);
  .leaf (x0.1, x0.2))
def laws_markBodyS (a0 : List Body) (a1 : Int) : Int × List Body := (laws_markBodyS_tree a0 a1).val
def laws_markBodyS_need (a0 : List Body) (a1 : Int) : Bool := (laws_markBodyS_tree a0 a1).ok
def laws_markBodyS_mk (p : Int × List Body) : PV × List (.body : UC).T := (.int .i64 p.1, p.2)
def laws_markBodyS_M : MCon := ⟨44, .body, fun a0 ps => match ps with
  | [.int .i64 a1] => some (.need (laws_markBodyS_need a0 a1) (.leaf (laws_markBodyS_mk (laws_markBodyS a0 a1))))
  | _ => none⟩
set_option maxRecDepth 100000 in
theorem laws_markBodyS_ok : MutOK Tryz.prog 8 laws_markBodyS_M := by
  refine mut_ok (Γ := gam []) (gam_nil) tab_ok (by kernel_rfl) Tryz.func8 (by kernel_rfl) (by kernel_rfl) Tryz.ntmps8 Tryz.results8 (loops := laws_markBodyS_loops) (loopsOK_list (l := [lp Tryz.f8 0]) (by kernel_rfl) ⟨laws_markBodyS_l0, trivial⟩) 100000 fun a0 ps t h => ?_
  simp only [laws_markBodyS_M] at h
  split at h
  · rename_i a1
    cases h
    exact ⟨rfl, agreeM_need (mk := laws_markBodyS_mk) (t := laws_markBodyS_tree a0 a1) (by unfold AgreeM; kernel_rfl)⟩
  · cases h

/-- a loop of laws_heldBodyS -/
def laws_heldBodyS_loop0_step (p : List Body) (s : Int × Int) : Round (Int × Int) ((Int) ⊕ (Int)) :=
  let x0 := ((List.length p : Nat) : Int);
  let x1 := decide (s.2 < x0);
  .ask x1
  (
   .need ((decide (0 ≤ s.2) && decide (s.2 < ((List.length p : Nat) : Int)))) (
   let x2 := List.getD p (Int.toNat s.2) default;
   let x3 := fofInt .f32 s.1;
   let x4 := fne .f32 x2.At.X x3;
   .ask x4
   (
    .leaf (.inr (.inl (-1)), []))
   (
    let x5 := IntKind.wrap .i64 (s.1 + 1);
    .need ((decide (0 ≤ s.2) && decide (s.2 < ((List.length p : Nat) : Int)))) (
    let x6 := List.getD p (Int.toNat s.2) default;
    let x7 := fofInt .f32 x5;
    let x8 := fne .f32 x6.At.Y x7;
    .ask x8
    (
     .leaf (.inr (.inl (-1)), []))
    (
     let x9 := IntKind.wrap .i64 (x5 + 1);
     .need ((decide (0 ≤ s.2) && decide (s.2 < ((List.length p : Nat) : Int)))) (
     let x10 := List.getD p (Int.toNat s.2) default;
     let x11 := fofInt .f32 x9;
     let x12 := fne .f32 x10.At.Z x11;
     .ask x12
     (
      .leaf (.inr (.inl (-1)), []))
     (
      let x13 := IntKind.wrap .i64 (x9 + 1);
      .need ((decide (0 ≤ s.2) && decide (s.2 < ((List.length p : Nat) : Int)))) (
      let x14 := List.getD p (Int.toNat s.2) default;
      let x15 := fofInt .f32 x13;
      let x16 := fne .f32 x14.Speed.X x15;
      .ask x16
      (
       .leaf (.inr (.inl (-1)), []))
      (
       let x17 := IntKind.wrap .i64 (x13 + 1);
       .need ((decide (0 ≤ s.2) && decide (s.2 < ((List.length p : Nat) : Int)))) (
       let x18 := List.getD p (Int.toNat s.2) default;
       let x19 := fofInt .f32 x17;
       let x20 := fne .f32 x18.Speed.Y x19;
       .ask x20
       (
        .leaf (.inr (.inl (-1)), []))
       (
        let x21 := IntKind.wrap .i64 (x17 + 1);
        .need ((decide (0 ≤ s.2) && decide (s.2 < ((List.length p : Nat) : Int)))) (
        let x22 := List.getD p (Int.toNat s.2) default;
        let x23 := fofInt .f32 x21;
        let x24 := fne .f32 x22.Speed.Z x23;
        .ask x24
        (
         .leaf (.inr (.inl (-1)), []))
        (
         let x25 := IntKind.wrap .i64 (x21 + 1);
         .need ((decide (0 ≤ s.2) && decide (s.2 < ((List.length p : Nat) : Int)))) (
         let x26 := List.getD p (Int.toNat s.2) default;
         let x27 := fofInt .f32 x25;
         let x28 := fne .f32 x26.Mass x27;
         .ask x28
         (
          .leaf (.inr (.inl (-1)), []))
         (
          let x29 := IntKind.wrap .i64 (x25 + 1);
          let x30 := IntKind.wrap .i64 (s.2 + 1);
          .leaf (.inl (x29, x30), []))))))))))))))))
  (
   .leaf (.inr (.inr s.1), []))
def laws_heldBodyS_loop0_L (p : List Body) : LoopS (Int × Int) ((Int) ⊕ (Int)) := { tl := fun s => [.vslc 1 .body p, .int .i64 s.1, .junk, .junk, .junk, .int .i64 s.2], hl := fun s => [], ex := fun r => match r with | .inl r => .ret | .inr r => .exit 0, otl := fun r => match r with | .inl r => [.junk, .junk, .junk, .junk, .int .i64 r] | .inr r => [.junk, .int .i64 r], ohl := fun r => match r with | .inl r => [] | .inr r => [] }
def laws_heldBodyS_loop0_ext : St → Option ((List Body) × (Int × Int) × List Nat) := fun S => match (S.tm 0).unK, (S.tm 1).unK, (S.tm 5).unK with
  | .vslc 1 .body q0, .int .i64 q1, .int .i64 q2 => some (q0, (q1, q2), [])
  | _, _, _ => none
def laws_heldBodyS_loop0_post (p : List Body) (r : (Int) ⊕ (Int)) : DT (Ex × St) := .ask (isL r) (.leaf (.ret, LSt [.junk, .junk, .junk, .junk, .int .i64 ((leftD r))] [])) (.leaf (.exit 0, LSt [.junk, .int .i64 ((rightD r))] []))
def laws_heldBodyS_loop0 (p : List Body) (s : Int × Int) : (Int) ⊕ (Int) := loopVal (laws_heldBodyS_loop0_step p) s
def laws_heldBodyS_loop0_ends (p : List Body) (s : Int × Int) : Bool := loopEnds (laws_heldBodyS_loop0_step p) s
def laws_heldBodyS_loop0_F : LoopF := loopF laws_heldBodyS_loop0_step laws_heldBodyS_loop0_ext laws_heldBodyS_loop0_post
theorem laws_heldBodyS_loop0_hext : ∀ S p s fl, laws_heldBodyS_loop0_ext S = some (p, s, fl) → Norm S fl ((laws_heldBodyS_loop0_L p).tl s) ((laws_heldBodyS_loop0_L p).hl s) (laws_heldBodyS_loop0_L p).gl := by
  intro S p s fl h
  unfold laws_heldBodyS_loop0_ext at h
  (repeat' split at h) <;> first
    | (cases h; constructor <;> simp_all [laws_heldBodyS_loop0_L, keepT, keepH, rens, renH, PV.ren, Blk.ren, fOf, lget, nodup, natIn, lenEq, gtm, PV.unK])
    | cases h
theorem laws_heldBodyS_loop0_hpost : ∀ p r e S', (laws_heldBodyS_loop0_post p r).get = some (e, S') → e = (laws_heldBodyS_loop0_L p).ex r ∧ S' = LSt ((laws_heldBodyS_loop0_L p).otl r) ((laws_heldBodyS_loop0_L p).ohl r) ((laws_heldBodyS_loop0_L p).ogl r) := by
  intro p r e S' h
  unfold laws_heldBodyS_loop0_post at h
  cases r <;> (simp only [isL, DT.get, Option.some.injEq, Prod.mk.injEq] at h; exact ⟨h.1.symm, h.2.symm⟩)

def laws_heldBodyS_loops : Nat → Option LoopF := loopTab [(2, laws_heldBodyS_loop0_F)]
set_option maxRecDepth 100000 in
theorem laws_heldBodyS_l0 : LoopOK Tryz.prog ⟨gam [], tab, 89, laws_heldBodyS_loops⟩ (lp Tryz.f9 0) :=
  loopOK_some (F := laws_heldBodyS_loop0_F) (by kernel_rfl) (loopF_ok (E := ⟨gam [], tab, 89, laws_heldBodyS_loops⟩) ⟨gam_nil, tab_ok, by kernel_rfl⟩ (fuel := 100000) (loopsOK_list (l := []) (by kernel_rfl) trivial) (L := laws_heldBodyS_loop0_L) (fun p s => by unfold AgreeL; exact ⟨by kernel_rfl, by kernel_rfl⟩) (fun _ r h => by cases r <;> exact Ex.noConfusion h) laws_heldBodyS_loop0_hext laws_heldBodyS_loop0_hpost)
/-- loop.example/g01284/laws.heldBodyS -/
def laws_heldBodyS_tree (a0 : List Body) (a1 : Int) : DT (Int) :=
  .need ((laws_heldBodyS_loop0_ends a0 (a1, 0))) (
  let x0 := laws_heldBodyS_loop0 a0 (a1, 0);
  .ask ((isL x0))
  (
   .leaf ((leftD x0)))
  (
   .leaf ((rightD x0))))
def laws_heldBodyS (a0 : List Body) (a1 : Int) : Int := (laws_heldBodyS_tree a0 a1).val
def laws_heldBodyS_need (a0 : List Body) (a1 : Int) : Bool := (laws_heldBodyS_tree a0 a1).ok
def laws_heldBodyS_mk (p : Int) : Ret := ⟨.int .i64 p, []⟩
def laws_heldBodyS_c0 : Con := fun args => match args with
  | [.vslc 1 .body a0, .int .i64 a1] => some (.need (laws_heldBodyS_need a0 a1) (.leaf (laws_heldBodyS_mk (laws_heldBodyS a0 a1))))
  | _ => none
set_option maxRecDepth 100000 in
theorem laws_heldBodyS_ok0 : FunOK Tryz.prog 9 laws_heldBodyS_c0.fn := by
  refine con_ok (Γ := gam []) (gam_nil) tab_ok (by kernel_rfl) Tryz.func9 (by kernel_rfl) (by kernel_rfl) Tryz.ntmps9 Tryz.results9 (loops := laws_heldBodyS_loops) (loopsOK_list (l := [lp Tryz.f9 0]) (by kernel_rfl) ⟨laws_heldBodyS_l0, trivial⟩) 100000 fun args t h => ?_
  unfold laws_heldBodyS_c0 at h
  split at h
  · rename_i a0 a1
    cases h
    exact ⟨rfl, agree_need (mk := laws_heldBodyS_mk) (t := laws_heldBodyS_tree a0 a1) (by unfold Agree; kernel_rfl)⟩
  · cases h
def laws_heldBodyS_c : Con := fun args => laws_heldBodyS_c0 (norms 0 [.slc .body, .none] args)
set_option maxRecDepth 100000 in
theorem laws_heldBodyS_ok : FunOK Tryz.prog 9 laws_heldBodyS_c.fn := con_norm [.slc .body, .none] laws_heldBodyS_ok0

/-- loop.example/g01284/laws.FnExactReadBodies -/
def laws_FnExactReadBodies_tree (a0 : (List UInt8)) : DT (Bool) :=
  let x0 := ((List.length a0 : Nat) : Int);
  let x1 := decide (x0 > 1048576);
  .ask x1
  (
   .leaf true)
  (
   .need ((spec_ReadBodies_need a0)) (
   let x2 := spec_ReadBodies a0;
   .ask ((isL x2))
   (
    .need ((impl_ReadBodies_need a0)) (
    let x3 := impl_ReadBodies a0;
    .ask ((isL x3))
    (
     .need ((laws_eqBodyS_need [] ((leftD x2)))) (
     let x4 := laws_eqBodyS [] ((leftD x2));
     .ask (!x4)
     (
      .leaf false)
     (
      .skip (
      .leaf false))))
    (
     .need ((laws_eqBodyS_need ((rightD x3)) ((leftD x2)))) (
     let x4 := laws_eqBodyS ((rightD x3)) ((leftD x2));
     .ask (!x4)
     (
      .leaf false)
     (
      .skip (
      .need ((laws_markBodyS_need ((rightD x3)) 1)) (
      let x5 := laws_markBodyS ((rightD x3)) 1;
      .need ((laws_heldBodyS_need x5.2 1)) (
      let x6 := laws_heldBodyS x5.2 1;
      let x7 := decide (x6 < 0);
      .ask x7
      (
       .leaf false)
      (
       let x8 := (x6 != x5.1);
       .ask x8
       (
        .leaf false)
       (
        .need ((impl_ReadBodies_need a0)) (
        let x9 := impl_ReadBodies a0;
        .ask ((isL x9))
        (
         .need ((laws_eqBodyS_need [] ((leftD x2)))) (
         let x10 := laws_eqBodyS [] ((leftD x2));
         .ask (!x10)
         (
          .leaf false)
         (
          .skip (
          .leaf false))))
        (
         .need ((laws_eqBodyS_need ((rightD x9)) ((leftD x2)))) (
         let x10 := laws_eqBodyS ((rightD x9)) ((leftD x2));
         .ask (!x10)
         (
          .leaf false)
         (
          .skip (
          .need ((laws_heldBodyS_need x5.2 1)) (
          let x11 := laws_heldBodyS x5.2 1;
          let x12 := decide (x11 < 0);
          .ask x12
          (
           .leaf false)
          (
           let x13 := (x11 != x5.1);
           .ask x13
           (
            .leaf false)
           (
            .leaf true))))))))))))))))))
   (
    .need ((impl_ReadBodies_need a0)) (
    let x3 := impl_ReadBodies a0;
    .ask ((isL x3))
    (
     .need ((laws_eqBodyS_need [] [])) (
     let x4 := laws_eqBodyS [] [];
     .ask (!x4)
     (
      .leaf false)
     (
      .skip (
      .need ((laws_markBodyS_need [] 1)) (
      let x5 := laws_markBodyS [] 1;
      .need ((laws_heldBodyS_need [] 1)) (
      let x6 := laws_heldBodyS [] 1;
      let x7 := decide (x6 < 0);
      .ask x7
      (
       .leaf false)
      (
       let x8 := (x6 != x5.1);
       .ask x8
       (
        .leaf false)
       (
        .need ((impl_ReadBodies_need a0)) (
        let x9 := impl_ReadBodies a0;
        .ask ((isL x9))
        (
         .need ((laws_eqBodyS_need [] [])) (
         let x10 := laws_eqBodyS [] [];
         .ask (!x10)
         (
          .leaf false)
         (
          .skip (
          .need ((laws_heldBodyS_need [] 1)) (
          let x11 := laws_heldBodyS [] 1;
          let x12 := decide (x11 < 0);
          .ask x12
          (
           .leaf false)
          (
           let x13 := (x11 != x5.1);
           .ask x13
           (
            .leaf false)
           (
            .leaf true)))))))
        (
         .need ((laws_eqBodyS_need ((rightD x9)) [])) (
         let x10 := laws_eqBodyS ((rightD x9)) [];
         .ask (!x10)
         (
          .leaf false)
         (
          .skip (
          .leaf false)))))))))))))
    (
     .need ((laws_eqBodyS_need ((rightD x3)) [])) (
     let x4 := laws_eqBodyS ((rightD x3)) [];
     .ask (!x4)
     (
      .leaf false)
     (
      .skip (
      .leaf false))))))))
def laws_FnExactReadBodies (a0 : (List UInt8)) : Bool := (laws_FnExactReadBodies_tree a0).val
def laws_FnExactReadBodies_need (a0 : (List UInt8)) : Bool := (laws_FnExactReadBodies_tree a0).ok
def laws_FnExactReadBodies_mk (p : Bool) : Ret := ⟨.bool p, []⟩
def laws_FnExactReadBodies_c : Con := fun args => match args with
  | [.str a0] => some (.need (laws_FnExactReadBodies_need a0) (.leaf (laws_FnExactReadBodies_mk (laws_FnExactReadBodies a0))))
  | _ => none
set_option maxRecDepth 100000 in
theorem laws_FnExactReadBodies_ok : FunOK Tryz.prog 3 laws_FnExactReadBodies_c.fn := by
  refine con_ok (Γ := gam [(5, spec_ReadBodies_c), (6, impl_ReadBodies_c), (7, laws_eqBodyS_c), (9, laws_heldBodyS_c)] [(8, laws_markBodyS_M)]) (gam_cons spec_ReadBodies_ok (gam_cons impl_ReadBodies_ok (gam_cons laws_eqBodyS_ok (gam_cons laws_heldBodyS_ok (gam_mut laws_markBodyS_ok (gam_nil)))))) tab_ok (by kernel_rfl) Tryz.func3 (by kernel_rfl) (by kernel_rfl) Tryz.ntmps3 Tryz.results3 (loopsOK_none rfl _) 100000 fun args t h => ?_
  unfold laws_FnExactReadBodies_c at h
  split at h
  · rename_i a0
    cases h
    exact ⟨rfl, agree_need (mk := laws_FnExactReadBodies_mk) (t := laws_FnExactReadBodies_tree a0) (by unfold Agree; kernel_rfl)⟩
  · cases h

end
end Go.Proofs.YtcipkfndnkmjlaaGreatDoor
