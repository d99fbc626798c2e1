/- THE WALK, BY A PROGRAM: typed functions, and that the code is they. -/
import Derived.Test.YtnmeiodaeaabfaaFrom
namespace Go.Proofs.Ytnmeiodaeaabfaa
set_option linter.unusedVariables false
set_option linter.unusedSimpArgs false
open Go.Extern
noncomputable section

set_option maxRecDepth 100000 in
theorem math_Float64bits_ok : FunOK Try.prog 60 math_Float64bits_c.fn := bits64_ok (run_callFunc_extern Try.func60 (by kernel_rfl) (by kernel_rfl) (by kernel_rfl) (by kernel_rfl))

set_option maxRecDepth 100000 in
theorem math_Float64frombits_ok : FunOK Try.prog 69 math_Float64frombits_c.fn := frombits64_ok (run_callFunc_extern Try.func69 (by kernel_rfl) (by kernel_rfl) (by kernel_rfl) (by kernel_rfl))

set_option maxRecDepth 100000 in
theorem math_Float32bits_ok : FunOK Try.prog 62 math_Float32bits_c.fn := bits32_ok (run_callFunc_extern Try.func62 (by kernel_rfl) (by kernel_rfl) (by kernel_rfl) (by kernel_rfl))

set_option maxRecDepth 100000 in
theorem math_Float32frombits_ok : FunOK Try.prog 52 math_Float32frombits_c.fn := frombits32_ok (run_callFunc_extern Try.func52 (by kernel_rfl) (by kernel_rfl) (by kernel_rfl) (by kernel_rfl))

/-- loop.example/g01284/laws.b10Long -/
def laws_b10Long_tree (a0 : List Int) (a1 : List Int) : DT (Bool) :=
  let x0 := ((List.length a0 : Nat) : Int);
  let x1 := decide (x0 > 1048576);
  .ask x1
  (
   .leaf true)
  (
   let x2 := ((List.length a1 : Nat) : Int);
   let x3 := decide (x2 > 1048576);
   .leaf x3)
def laws_b10Long (a0 : List Int) (a1 : List Int) : Bool := (laws_b10Long_tree a0 a1).val
def laws_b10Long_mk (p : Bool) : Ret := ⟨.bool p, []⟩
def laws_b10Long_c0 : Con := fun args => match args with
  | [.vslc 1 (.int .u8) a0, .vslc 2 (.int .u8) a1] => some (.leaf (laws_b10Long_mk (laws_b10Long a0 a1)))
  | _ => none
set_option maxRecDepth 100000 in
theorem laws_b10Long_ok0 : FunOK Try.prog 4 laws_b10Long_c0.fn := by
  refine con_ok (Γ := gam []) (gam_nil) tab_ok (by kernel_rfl) Try.func4 (by kernel_rfl) (by kernel_rfl) Try.ntmps4 Try.results4 (loopsOK_none rfl _) 100000 fun args t h => ?_
  unfold laws_b10Long_c0 at h
  split at h
  · rename_i a0 a1
    cases h
    exact ⟨rfl, agree_tot (mk := laws_b10Long_mk) (t := laws_b10Long_tree a0 a1) (by unfold Agree; kernel_rfl) (by kernel_rfl)⟩
  · cases h
def laws_b10Long_c : Con := fun args => laws_b10Long_c0 (norms 0 [.slc (.int .u8), .slc (.int .u8)] args)
set_option maxRecDepth 100000 in
theorem laws_b10Long_ok : FunOK Try.prog 4 laws_b10Long_c.fn := con_norm [.slc (.int .u8), .slc (.int .u8)] laws_b10Long_ok0

/-- (*loop.example/g01284/spec.l00Src).next -/
def spec_l00Src_next_tree (a0_0 : List Int) (a0_1 : Int) (a0_2 : Int) : DT (Int × Int × Int) :=
  let x0 := ((List.length a0_0 : Nat) : Int);
  let x1 := decide (a0_1 < x0);
  .ask x1
  (
   .need ((decide (0 ≤ a0_1) && decide (a0_1 < ((List.length a0_0 : Nat) : Int)))) (
   let x2 := List.getD a0_0 (Int.toNat a0_1) default;
   let x3 := IntKind.wrap .i64 x2;
   let x4 := IntKind.wrap .i64 (a0_1 + 1);
   let x5 := IntKind.wrap .u64 (a0_2 * 6364136223846793005);
   let x6 := IntKind.wrap .u64 x3;
   let x7 := IntKind.wrap .u64 (x5 + x6);
   let x8 := IntKind.wrap .u64 (x7 + 1442695040888963407);
   let x9 := ((List.length a0_0 : Nat) : Int);
   let x10 := decide (x4 ≤ x9);
   .ask x10
   (
    .leaf (x3, x4, x8))
   (
    .skip (
    let x11 := Int.fdiv x8 (2 ^ (min (Int.toNat 40) (IntKind.bits .u64)));
    let x12 := IntKind.wrap .u64 (BitVec.ofInt (IntKind.bits .u64) x11 &&& BitVec.ofInt (IntKind.bits .u64) 255).toNat;
    let x13 := IntKind.wrap .i64 x12;
    .leaf (x13, x4, x8)))))
  (
   let x2 := IntKind.wrap .i64 (a0_1 + 1);
   let x3 := IntKind.wrap .u64 (a0_2 * 6364136223846793005);
   let x4 := IntKind.wrap .u64 (x3 + 0);
   let x5 := IntKind.wrap .u64 (x4 + 1442695040888963407);
   let x6 := ((List.length a0_0 : Nat) : Int);
   let x7 := decide (x2 ≤ x6);
   .ask x7
   (
    .leaf (0, x2, x5))
   (
    .skip (
    let x8 := Int.fdiv x5 (2 ^ (min (Int.toNat 40) (IntKind.bits .u64)));
    let x9 := IntKind.wrap .u64 (BitVec.ofInt (IntKind.bits .u64) x8 &&& BitVec.ofInt (IntKind.bits .u64) 255).toNat;
    let x10 := IntKind.wrap .i64 x9;
    .leaf (x10, x2, x5))))
def spec_l00Src_next (a0_0 : List Int) (a0_1 : Int) (a0_2 : Int) : Int × Int × Int := (spec_l00Src_next_tree a0_0 a0_1 a0_2).val
def spec_l00Src_next_need (a0_0 : List Int) (a0_1 : Int) (a0_2 : Int) : Bool := (spec_l00Src_next_tree a0_0 a0_1 a0_2).ok
def spec_l00Src_next_mk (p : Int × Int × Int) : PV × List (Option PV) := (.int .i64 p.1, [none, some (.int .i64 p.2.1), some (.int .u64 p.2.2)])
def spec_l00Src_next_M : BCon := fun cs ps => match cs, ps with
  | [.vslc 0 (.int .u8) a0_0, .int .i64 a0_1, .int .u64 a0_2], [] => some (.need (spec_l00Src_next_need a0_0 a0_1 a0_2) (.leaf (spec_l00Src_next_mk (spec_l00Src_next a0_0 a0_1 a0_2))))
  | _, _ => none
set_option maxRecDepth 100000 in
theorem spec_l00Src_next_ok : BoxOK Try.prog 37 spec_l00Src_next_M := by
  refine box_ok (Γ := gam []) (gam_nil) tab_ok (by kernel_rfl) Try.func37 (by kernel_rfl) (by kernel_rfl) Try.ntmps37 Try.results37 (loopsOK_none rfl _) 100000 fun cs ps t h => ?_
  unfold spec_l00Src_next_M at h
  split at h
  · rename_i a0_0 a0_1 a0_2
    cases h
    exact ⟨rfl, agreeB_need (mk := spec_l00Src_next_mk) (t := spec_l00Src_next_tree a0_0 a0_1 a0_2) (by unfold AgreeB; kernel_rfl)⟩
  · cases h

/-- (*loop.example/g01284/spec.l00Src).pick -/
def spec_l00Src_pick_tree (a0_0 : List Int) (a0_1 : Int) (a0_2 : Int) (a1 : Int) : DT (Int × Int × Int) :=
  let x0 := decide (a1 ≤ 1);
  .ask x0
  (
   .leaf (0, a0_1, a0_2))
  (
   .need ((spec_l00Src_next_need a0_0 a0_1 a0_2)) (
   let x1 := spec_l00Src_next a0_0 a0_1 a0_2;
   let x2 := decide (a1 > 200);
   .ask x2
   (
    let x3 := IntKind.wrap .i64 (x1.1 * 256);
    .need ((spec_l00Src_next_need a0_0 x1.2.1 x1.2.2)) (
    let x4 := spec_l00Src_next a0_0 x1.2.1 x1.2.2;
    let x5 := IntKind.wrap .i64 (x3 + x4.1);
    .need ((a1 != 0)) (
    let x6 := Int.tmod x5 a1;
    .leaf (x6, x4.2.1, x4.2.2))))
   (
    .need ((a1 != 0)) (
    let x3 := Int.tmod x1.1 a1;
    .leaf (x3, x1.2.1, x1.2.2)))))
def spec_l00Src_pick (a0_0 : List Int) (a0_1 : Int) (a0_2 : Int) (a1 : Int) : Int × Int × Int := (spec_l00Src_pick_tree a0_0 a0_1 a0_2 a1).val
def spec_l00Src_pick_need (a0_0 : List Int) (a0_1 : Int) (a0_2 : Int) (a1 : Int) : Bool := (spec_l00Src_pick_tree a0_0 a0_1 a0_2 a1).ok
def spec_l00Src_pick_mk (p : Int × Int × Int) : PV × List (Option PV) := (.int .i64 p.1, [none, some (.int .i64 p.2.1), some (.int .u64 p.2.2)])
def spec_l00Src_pick_M : BCon := fun cs ps => match cs, ps with
  | [.vslc 0 (.int .u8) a0_0, .int .i64 a0_1, .int .u64 a0_2], [.int .i64 a1] => some (.need (spec_l00Src_pick_need a0_0 a0_1 a0_2 a1) (.leaf (spec_l00Src_pick_mk (spec_l00Src_pick a0_0 a0_1 a0_2 a1))))
  | _, _ => none
set_option maxRecDepth 100000 in
theorem spec_l00Src_pick_ok : BoxOK Try.prog 20 spec_l00Src_pick_M := by
  refine box_ok (Γ := gam [] [] [(37, spec_l00Src_next_M)] []) (gam_box spec_l00Src_next_ok (gam_nil)) tab_ok (by kernel_rfl) Try.func20 (by kernel_rfl) (by kernel_rfl) Try.ntmps20 Try.results20 (loopsOK_none rfl _) 100000 fun cs ps t h => ?_
  unfold spec_l00Src_pick_M at h
  split at h
  · rename_i a0_0 a0_1 a0_2 a1
    cases h
    exact ⟨rfl, agreeB_need (mk := spec_l00Src_pick_mk) (t := spec_l00Src_pick_tree a0_0 a0_1 a0_2 a1) (by unfold AgreeB; kernel_rfl)⟩
  · cases h

/-- (*loop.example/g01284/spec.l00Src).text -/
def spec_l00Src_text_tree (a0_0 : List Int) (a0_1 : Int) (a0_2 : Int) (a1 : List (List UInt8)) : DT ((List UInt8) × Int × Int) :=
  let x0 := ((List.length a1 : Nat) : Int);
  .need ((spec_l00Src_pick_need a0_0 a0_1 a0_2 x0)) (
  let x1 := spec_l00Src_pick a0_0 a0_1 a0_2 x0;
  .need ((decide (0 ≤ x1.1) && decide (x1.1 < ((List.length a1 : Nat) : Int)))) (
  let x2 := List.getD a1 (Int.toNat x1.1) default;
  .leaf (x2, x1.2.1, x1.2.2)))
def spec_l00Src_text (a0_0 : List Int) (a0_1 : Int) (a0_2 : Int) (a1 : List (List UInt8)) : (List UInt8) × Int × Int := (spec_l00Src_text_tree a0_0 a0_1 a0_2 a1).val
def spec_l00Src_text_need (a0_0 : List Int) (a0_1 : Int) (a0_2 : Int) (a1 : List (List UInt8)) : Bool := (spec_l00Src_text_tree a0_0 a0_1 a0_2 a1).ok
def spec_l00Src_text_mk (p : (List UInt8) × Int × Int) : PV × List (Option PV) := (.str p.1, [none, some (.int .i64 p.2.1), some (.int .u64 p.2.2)])
def spec_l00Src_text_M : BCon := fun cs ps => match cs, ps with
  | [.vslc 0 (.int .u8) a0_0, .int .i64 a0_1, .int .u64 a0_2], [.vslc 0 .str a1] => some (.need (spec_l00Src_text_need a0_0 a0_1 a0_2 a1) (.leaf (spec_l00Src_text_mk (spec_l00Src_text a0_0 a0_1 a0_2 a1))))
  | _, _ => none
set_option maxRecDepth 100000 in
theorem spec_l00Src_text_ok : BoxOK Try.prog 21 spec_l00Src_text_M := by
  refine box_ok (Γ := gam [] [] [(20, spec_l00Src_pick_M)] []) (gam_box spec_l00Src_pick_ok (gam_nil)) tab_ok (by kernel_rfl) Try.func21 (by kernel_rfl) (by kernel_rfl) Try.ntmps21 Try.results21 (loopsOK_none rfl _) 100000 fun cs ps t h => ?_
  unfold spec_l00Src_text_M at h
  split at h
  · rename_i a0_0 a0_1 a0_2 a1
    cases h
    exact ⟨rfl, agreeB_need (mk := spec_l00Src_text_mk) (t := spec_l00Src_text_tree a0_0 a0_1 a0_2 a1) (by unfold AgreeB; kernel_rfl)⟩
  · cases h

/-- (*loop.example/g01284/spec.l00Src).one -/
def spec_l00Src_one_tree (a0_0 : List Int) (a0_1 : Int) (a0_2 : Int) (a1 : Int) : DT (Bool × Int × Int) :=
  .need ((spec_l00Src_pick_need a0_0 a0_1 a0_2 a1)) (
  let x0 := spec_l00Src_pick a0_0 a0_1 a0_2 a1;
  let x1 := (x0.1 == 0);
  .leaf (x1, x0.2.1, x0.2.2))
def spec_l00Src_one (a0_0 : List Int) (a0_1 : Int) (a0_2 : Int) (a1 : Int) : Bool × Int × Int := (spec_l00Src_one_tree a0_0 a0_1 a0_2 a1).val
def spec_l00Src_one_need (a0_0 : List Int) (a0_1 : Int) (a0_2 : Int) (a1 : Int) : Bool := (spec_l00Src_one_tree a0_0 a0_1 a0_2 a1).ok
def spec_l00Src_one_mk (p : Bool × Int × Int) : PV × List (Option PV) := (.bool p.1, [none, some (.int .i64 p.2.1), some (.int .u64 p.2.2)])
def spec_l00Src_one_M : BCon := fun cs ps => match cs, ps with
  | [.vslc 0 (.int .u8) a0_0, .int .i64 a0_1, .int .u64 a0_2], [.int .i64 a1] => some (.need (spec_l00Src_one_need a0_0 a0_1 a0_2 a1) (.leaf (spec_l00Src_one_mk (spec_l00Src_one a0_0 a0_1 a0_2 a1))))
  | _, _ => none
set_option maxRecDepth 100000 in
theorem spec_l00Src_one_ok : BoxOK Try.prog 38 spec_l00Src_one_M := by
  refine box_ok (Γ := gam [] [] [(20, spec_l00Src_pick_M)] []) (gam_box spec_l00Src_pick_ok (gam_nil)) tab_ok (by kernel_rfl) Try.func38 (by kernel_rfl) (by kernel_rfl) Try.ntmps38 Try.results38 (loopsOK_none rfl _) 100000 fun cs ps t h => ?_
  unfold spec_l00Src_one_M at h
  split at h
  · rename_i a0_0 a0_1 a0_2 a1
    cases h
    exact ⟨rfl, agreeB_need (mk := spec_l00Src_one_mk) (t := spec_l00Src_one_tree a0_0 a0_1 a0_2 a1) (by unfold AgreeB; kernel_rfl)⟩
  · cases h

/-- loop.example/g01284/spec.l03DrawOk -/
def spec_l03DrawOk_tree (a0_0 : List Int) (a0_1 : Int) (a0_2 : Int) : DT (Orbit × Int × Int) :=
  .need ((spec_l00Src_pick_need a0_0 a0_1 a0_2 16)) (
  let x0 := spec_l00Src_pick a0_0 a0_1 a0_2 16;
  let x1 := IntKind.wrap .i64 (1 + x0.1);
  let x2 := fofInt .f32 x1;
  let x3 := fdiv .f32 x2 1082130432;
  .need ((spec_l00Src_pick_need a0_0 x0.2.1 x0.2.2 8)) (
  let x4 := spec_l00Src_pick a0_0 x0.2.1 x0.2.2 8;
  let x5 := fofInt .f32 x4.1;
  let x6 := fdiv .f32 x5 1090519040;
  .need ((spec_l00Src_pick_need a0_0 x4.2.1 x4.2.2 17)) (
  let x7 := spec_l00Src_pick a0_0 x4.2.1 x4.2.2 17;
  let x8 := fofInt .f32 x7.1;
  let x9 := fdiv .f32 x8 1107296256;
  .need ((spec_l00Src_pick_need a0_0 x7.2.1 x7.2.2 32)) (
  let x10 := spec_l00Src_pick a0_0 x7.2.1 x7.2.2 32;
  let x11 := fofInt .f32 x10.1;
  let x12 := fdiv .f32 x11 1107296256;
  .need ((spec_l00Src_pick_need a0_0 x10.2.1 x10.2.2 32)) (
  let x13 := spec_l00Src_pick a0_0 x10.2.1 x10.2.2 32;
  let x14 := fofInt .f32 x13.1;
  let x15 := fdiv .f32 x14 1107296256;
  .need ((spec_l00Src_pick_need a0_0 x13.2.1 x13.2.2 64)) (
  let x16 := spec_l00Src_pick a0_0 x13.2.1 x13.2.2 64;
  let x17 := fofInt .f32 x16.1;
  let x18 := fdiv .f32 x17 1115684864;
  .need ((spec_l00Src_one_need a0_0 x16.2.1 x16.2.2 4)) (
  let x19 := spec_l00Src_one a0_0 x16.2.1 x16.2.2 4;
  .ask x19.1
  (
   let x20 := fneg .f32 x3;
   .need ((spec_l00Src_pick_need a0_0 x19.2.1 x19.2.2 8)) (
   let x21 := spec_l00Src_pick a0_0 x19.2.1 x19.2.2 8;
   let x22 := IntKind.wrap .i64 (1 + x21.1);
   let x23 := fofInt .f32 x22;
   let x24 := fdiv .f32 x23 1082130432;
   let x25 := fadd .f32 1065353216 x24;
   .need ((spec_l00Src_pick_need a0_0 x21.2.1 x21.2.2 33)) (
   let x26 := spec_l00Src_pick a0_0 x21.2.1 x21.2.2 33;
   let x27 := IntKind.wrap .i64 (x26.1 - 16);
   let x28 := fofInt .f32 x27;
   let x29 := fdiv .f32 x28 1090519040;
   .leaf ((⟨x20, x25, x9, x12, x15, x29⟩ : Orbit), x26.2.1, x26.2.2))))
  (
   .leaf ((⟨x3, x6, x9, x12, x15, x18⟩ : Orbit), x19.2.1, x19.2.2)))))))))
def spec_l03DrawOk (a0_0 : List Int) (a0_1 : Int) (a0_2 : Int) : Orbit × Int × Int := (spec_l03DrawOk_tree a0_0 a0_1 a0_2).val
def spec_l03DrawOk_need (a0_0 : List Int) (a0_1 : Int) (a0_2 : Int) : Bool := (spec_l03DrawOk_tree a0_0 a0_1 a0_2).ok
def spec_l03DrawOk_mk (p : Orbit × Int × Int) : PV × List (Option PV) := (.agg [.flt .f32 p.1.Long, .flt .f32 p.1.Round, .flt .f32 p.1.Tilt, .flt .f32 p.1.Node, .flt .f32 p.1.Peri, .flt .f32 p.1.Phase], [none, some (.int .i64 p.2.1), some (.int .u64 p.2.2)])
def spec_l03DrawOk_M : BCon := fun cs ps => match cs, ps with
  | [.vslc 0 (.int .u8) a0_0, .int .i64 a0_1, .int .u64 a0_2], [] => some (.need (spec_l03DrawOk_need a0_0 a0_1 a0_2) (.leaf (spec_l03DrawOk_mk (spec_l03DrawOk a0_0 a0_1 a0_2))))
  | _, _ => none
set_option maxRecDepth 100000 in
theorem spec_l03DrawOk_ok : BoxOK Try.prog 22 spec_l03DrawOk_M := by
  refine box_ok (Γ := gam [] [] [(20, spec_l00Src_pick_M), (38, spec_l00Src_one_M)] []) (gam_box spec_l00Src_pick_ok (gam_box spec_l00Src_one_ok (gam_nil))) tab_ok (by kernel_rfl) Try.func22 (by kernel_rfl) (by kernel_rfl) Try.ntmps22 Try.results22 (loopsOK_none rfl _) 100000 fun cs ps t h => ?_
  unfold spec_l03DrawOk_M at h
  split at h
  · rename_i a0_0 a0_1 a0_2
    cases h
    exact ⟨rfl, agreeB_need (mk := spec_l03DrawOk_mk) (t := spec_l03DrawOk_tree a0_0 a0_1 a0_2) (by unfold AgreeB; kernel_rfl)⟩
  · cases h

/-- a loop of spec_l07Name -/
def spec_l07Name_loop0_step (p : (List UInt8)) (s : Int) : Round (Int) ((Unit) ⊕ (Unit)) :=
  let x0 := ((List.length p : Nat) : Int);
  let x1 := decide (s < x0);
  .ask x1
  (
   .need ((decide (0 ≤ s) && decide (s < ((List.length p : Nat) : Int)))) (
   let x2 := ((List.getD (p : List UInt8) (Int.toNat s) 0).toNat : Int);
   let x3 := decide (x2 < 97);
   .ask x3
   (
    .leaf (.inr (.inl ()), []))
   (
    .need ((decide (0 ≤ s) && decide (s < ((List.length p : Nat) : Int)))) (
    let x4 := ((List.getD (p : List UInt8) (Int.toNat s) 0).toNat : Int);
    let x5 := decide (x4 > 122);
    .ask x5
    (
     .leaf (.inr (.inl ()), []))
    (
     let x6 := IntKind.wrap .i64 (s + 1);
     .leaf (.inl x6, []))))))
  (
   .leaf (.inr (.inr ()), []))
def spec_l07Name_loop0_L (p : (List UInt8)) : LoopS (Int) ((Unit) ⊕ (Unit)) := { tl := fun s => [.str p, .junk, .junk, .int .i64 s], hl := fun s => [], ex := fun r => match r with | .inl r => .ret | .inr r => .exit 0, otl := fun r => match r with | .inl r => [.junk, .junk, .bool false] | .inr r => [.str p], ohl := fun r => match r with | .inl r => [] | .inr r => [] }
def spec_l07Name_loop0_ext : St → Option (((List UInt8)) × (Int) × List Nat) := fun S => match (S.tm 0).unK, (S.tm 3).unK with
  | .str q0, .int .i64 q1 => some (q0, q1, [])
  | _, _ => none
def spec_l07Name_loop0_post (p : (List UInt8)) (r : (Unit) ⊕ (Unit)) : DT (Ex × St) := .ask (isL r) (.leaf (.ret, LSt [.junk, .junk, .bool false] [])) (.leaf (.exit 0, LSt [.str p] []))
def spec_l07Name_loop0 (p : (List UInt8)) (s : Int) : (Unit) ⊕ (Unit) := loopVal (spec_l07Name_loop0_step p) s
def spec_l07Name_loop0_ends (p : (List UInt8)) (s : Int) : Bool := loopEnds (spec_l07Name_loop0_step p) s
def spec_l07Name_loop0_F : LoopF := loopF spec_l07Name_loop0_step spec_l07Name_loop0_ext spec_l07Name_loop0_post
set_option maxRecDepth 100000 in
theorem spec_l07Name_loop0_hext : ∀ S p s fl, spec_l07Name_loop0_ext S = some (p, s, fl) → Norm S fl ((spec_l07Name_loop0_L p).tl s) ((spec_l07Name_loop0_L p).hl s) (spec_l07Name_loop0_L p).gl := by
  intro S p s fl h
  unfold spec_l07Name_loop0_ext at h
  (repeat' split at h) <;> first
    | (cases h; constructor <;> simp_all [spec_l07Name_loop0_L, keepT, keepH, rens, renH, PV.ren, Blk.ren, fOf, lget, nodup, natIn, lenEq, gtm, PV.unK])
    | cases h
set_option maxRecDepth 100000 in
theorem spec_l07Name_loop0_hpost : ∀ p r e S', (spec_l07Name_loop0_post p r).get = some (e, S') → e = (spec_l07Name_loop0_L p).ex r ∧ S' = LSt ((spec_l07Name_loop0_L p).otl r) ((spec_l07Name_loop0_L p).ohl r) ((spec_l07Name_loop0_L p).ogl r) := by
  intro p r e S' h
  unfold spec_l07Name_loop0_post at h
  cases r <;> (simp only [isL, DT.get, Option.some.injEq, Prod.mk.injEq] at h; exact ⟨h.1.symm, h.2.symm⟩)

def spec_l07Name_loops : Nat → Option LoopF := loopTab [(2, spec_l07Name_loop0_F)]
set_option maxRecDepth 100000 in
theorem spec_l07Name_l0 : LoopOK Try.prog ⟨gam [], tab, 28, spec_l07Name_loops⟩ (lp Try.f54 0) :=
  loopOK_some (F := spec_l07Name_loop0_F) (by kernel_rfl) (loopF_ok (E := ⟨gam [], tab, 28, spec_l07Name_loops⟩) ⟨gam_nil, tab_ok, by kernel_rfl⟩ (fuel := 100000) (loopsOK_list (l := []) (by kernel_rfl) trivial) (L := spec_l07Name_loop0_L) (fun p s => by unfold AgreeL; exact ⟨by kernel_rfl, by kernel_rfl⟩) (fun _ r h => by cases r <;> exact Ex.noConfusion h) spec_l07Name_loop0_hext spec_l07Name_loop0_hpost)
/-- loop.example/g01284/spec.l07Name -/
def spec_l07Name_tree (a0 : (List UInt8)) : DT (Bool) :=
  .need ((spec_l07Name_loop0_ends a0 0)) (
  let x0 := spec_l07Name_loop0 a0 0;
  .ask ((isL x0))
  (
   .leaf false)
  (
   let x1 := ((List.length a0 : Nat) : Int);
   let x2 := decide (x1 ≥ 1);
   .ask x2
   (
    let x3 := ((List.length a0 : Nat) : Int);
    let x4 := decide (x3 ≤ 8);
    .leaf x4)
   (
    .leaf false)))
def spec_l07Name (a0 : (List UInt8)) : Bool := (spec_l07Name_tree a0).val
def spec_l07Name_need (a0 : (List UInt8)) : Bool := (spec_l07Name_tree a0).ok
def spec_l07Name_mk (p : Bool) : Ret := ⟨.bool p, []⟩
def spec_l07Name_c : Con := fun args => match args with
  | [.str a0] => some (.need (spec_l07Name_need a0) (.leaf (spec_l07Name_mk (spec_l07Name a0))))
  | _ => none
set_option maxRecDepth 100000 in
theorem spec_l07Name_ok : FunOK Try.prog 54 spec_l07Name_c.fn := by
  refine con_ok (Γ := gam []) (gam_nil) tab_ok (by kernel_rfl) Try.func54 (by kernel_rfl) (by kernel_rfl) Try.ntmps54 Try.results54 (loops := spec_l07Name_loops) (loopsOK_list (l := [lp Try.f54 0]) (by kernel_rfl) ⟨spec_l07Name_l0, trivial⟩) 100000 fun args t h => ?_
  unfold spec_l07Name_c at h
  split at h
  · rename_i a0
    cases h
    exact ⟨rfl, agree_need (mk := spec_l07Name_mk) (t := spec_l07Name_tree a0) (by unfold Agree; kernel_rfl)⟩
  · cases h

/-- loop.example/g01284/spec.l01Finite -/
def spec_l01Finite_tree (a0 : Nat) : DT (Bool) :=
  let x0 := fsub .f32 a0 a0;
  let x1 := feq .f32 x0 0;
  .leaf x1
def spec_l01Finite (a0 : Nat) : Bool := (spec_l01Finite_tree a0).val
def spec_l01Finite_mk (p : Bool) : Ret := ⟨.bool p, []⟩
def spec_l01Finite_c : Con := fun args => match args with
  | [.flt .f32 a0] => some (.leaf (spec_l01Finite_mk (spec_l01Finite a0)))
  | _ => none
set_option maxRecDepth 100000 in
theorem spec_l01Finite_ok : FunOK Try.prog 63 spec_l01Finite_c.fn := by
  refine con_ok (Γ := gam []) (gam_nil) tab_ok (by kernel_rfl) Try.func63 (by kernel_rfl) (by kernel_rfl) Try.ntmps63 Try.results63 (loopsOK_none rfl _) 100000 fun args t h => ?_
  unfold spec_l01Finite_c at h
  split at h
  · rename_i a0
    cases h
    exact ⟨rfl, agree_tot (mk := spec_l01Finite_mk) (t := spec_l01Finite_tree a0) (by unfold Agree; kernel_rfl) (by kernel_rfl)⟩
  · cases h

/-- loop.example/g01284/spec.l02Above -/
def spec_l02Above_tree (a0 : Nat) : DT (Bool) :=
  let x0 := spec_l01Finite a0;
  .ask x0
  (
   let x1 := fgt .f32 a0 0;
   .leaf x1)
  (
   .leaf false)
def spec_l02Above (a0 : Nat) : Bool := (spec_l02Above_tree a0).val
def spec_l02Above_mk (p : Bool) : Ret := ⟨.bool p, []⟩
def spec_l02Above_c : Con := fun args => match args with
  | [.flt .f32 a0] => some (.leaf (spec_l02Above_mk (spec_l02Above a0)))
  | _ => none
set_option maxRecDepth 100000 in
theorem spec_l02Above_ok : FunOK Try.prog 55 spec_l02Above_c.fn := by
  refine con_ok (Γ := gam [(63, spec_l01Finite_c)]) (gam_cons spec_l01Finite_ok (gam_nil)) tab_ok (by kernel_rfl) Try.func55 (by kernel_rfl) (by kernel_rfl) Try.ntmps55 Try.results55 (loopsOK_none rfl _) 100000 fun args t h => ?_
  unfold spec_l02Above_c at h
  split at h
  · rename_i a0
    cases h
    exact ⟨rfl, agree_tot (mk := spec_l02Above_mk) (t := spec_l02Above_tree a0) (by unfold Agree; kernel_rfl) (by kernel_rfl)⟩
  · cases h

/-- loop.example/g01284/spec.l03Turn -/
def spec_l03Turn_tree (a0 : Nat) : DT (Bool) :=
  let x0 := fge .f32 a0 0;
  .ask x0
  (
   let x1 := flt .f32 a0 1065353216;
   .leaf x1)
  (
   .leaf false)
def spec_l03Turn (a0 : Nat) : Bool := (spec_l03Turn_tree a0).val
def spec_l03Turn_mk (p : Bool) : Ret := ⟨.bool p, []⟩
def spec_l03Turn_c : Con := fun args => match args with
  | [.flt .f32 a0] => some (.leaf (spec_l03Turn_mk (spec_l03Turn a0)))
  | _ => none
set_option maxRecDepth 100000 in
theorem spec_l03Turn_ok : FunOK Try.prog 64 spec_l03Turn_c.fn := by
  refine con_ok (Γ := gam []) (gam_nil) tab_ok (by kernel_rfl) Try.func64 (by kernel_rfl) (by kernel_rfl) Try.ntmps64 Try.results64 (loopsOK_none rfl _) 100000 fun args t h => ?_
  unfold spec_l03Turn_c at h
  split at h
  · rename_i a0
    cases h
    exact ⟨rfl, agree_tot (mk := spec_l03Turn_mk) (t := spec_l03Turn_tree a0) (by unfold Agree; kernel_rfl) (by kernel_rfl)⟩
  · cases h

/-- loop.example/g01284/spec.l03Is -/
def spec_l03Is_tree (a0 : Orbit) : DT (Bool) :=
  let x0 := spec_l01Finite a0.Long;
  .ask (!x0)
  (
   .leaf false)
  (
   let x1 := spec_l01Finite a0.Round;
   .ask (!x1)
   (
    .leaf false)
   (
    let x2 := fge .f32 a0.Tilt 0;
    .ask x2
    (
     let x3 := fle .f32 a0.Tilt 1056964608;
     .ask (!x3)
     (
      .leaf false)
     (
      let x4 := spec_l03Turn a0.Node;
      .ask (!x4)
      (
       .leaf false)
      (
       let x5 := spec_l03Turn a0.Peri;
       .ask (!x5)
       (
        .leaf false)
       (
        let x6 := fgt .f32 a0.Long 0;
        .ask x6
        (
         let x7 := fge .f32 a0.Round 0;
         .ask x7
         (
          let x8 := flt .f32 a0.Round 1065353216;
          .ask x8
          (
           let x9 := spec_l03Turn a0.Phase;
           .leaf x9)
          (
           .leaf false))
         (
          .leaf false))
        (
         let x7 := flt .f32 a0.Long 0;
         .ask x7
         (
          let x8 := fgt .f32 a0.Round 1065353216;
          .ask x8
          (
           let x9 := fge .f32 a0.Phase 3246391296;
           .ask x9
           (
            let x10 := fle .f32 a0.Phase 1098907648;
            .leaf x10)
           (
            .leaf false))
          (
           .leaf false))
         (
          .leaf false))))))
    (
     .leaf false)))
def spec_l03Is (a0 : Orbit) : Bool := (spec_l03Is_tree a0).val
def spec_l03Is_mk (p : Bool) : Ret := ⟨.bool p, []⟩
def spec_l03Is_c0 : Con := fun args => match args with
  | [.vcell [.flt .f32 a0_0, .flt .f32 a0_1, .flt .f32 a0_2, .flt .f32 a0_3, .flt .f32 a0_4, .flt .f32 a0_5] 0] => some (.leaf (spec_l03Is_mk (spec_l03Is (⟨a0_0, a0_1, a0_2, a0_3, a0_4, a0_5⟩ : Orbit))))
  | _ => none
set_option maxRecDepth 100000 in
theorem spec_l03Is_ok0 : FunOK Try.prog 56 spec_l03Is_c0.fn := by
  refine con_ok (Γ := gam [(63, spec_l01Finite_c), (64, spec_l03Turn_c)]) (gam_cons spec_l01Finite_ok (gam_cons spec_l03Turn_ok (gam_nil))) tab_ok (by kernel_rfl) Try.func56 (by kernel_rfl) (by kernel_rfl) Try.ntmps56 Try.results56 (loopsOK_none rfl _) 100000 fun args t h => ?_
  unfold spec_l03Is_c0 at h
  split at h
  · rename_i a0_0 a0_1 a0_2 a0_3 a0_4 a0_5
    cases h
    exact ⟨rfl, agree_tot (mk := spec_l03Is_mk) (t := spec_l03Is_tree (⟨a0_0, a0_1, a0_2, a0_3, a0_4, a0_5⟩ : Orbit)) (by unfold Agree; kernel_rfl) (by kernel_rfl)⟩
  · cases h
def spec_l03Is_c : Con := fun args => spec_l03Is_c0 (norms 0 [.ptr 6] args)
set_option maxRecDepth 100000 in
theorem spec_l03Is_ok : FunOK Try.prog 56 spec_l03Is_c.fn := con_norm [.ptr 6] spec_l03Is_ok0

/-- loop.example/g01284/spec.l07Entry -/
def spec_l07Entry_tree (a0 : Entry) : DT (Bool) :=
  .need ((spec_l07Name_need a0.Name)) (
  let x0 := spec_l07Name a0.Name;
  .ask x0
  (
   let x1 := spec_l02Above a0.Mass;
   .ask x1
   (
    let x2 := spec_l03Is (⟨a0.Orb.Long, a0.Orb.Round, a0.Orb.Tilt, a0.Orb.Node, a0.Orb.Peri, a0.Orb.Phase⟩ : Orbit);
    .leaf x2)
   (
    .leaf false))
  (
   .leaf false))
def spec_l07Entry (a0 : Entry) : Bool := (spec_l07Entry_tree a0).val
def spec_l07Entry_need (a0 : Entry) : Bool := (spec_l07Entry_tree a0).ok
def spec_l07Entry_mk (p : Bool) : Ret := ⟨.bool p, []⟩
def spec_l07Entry_c0 : Con := fun args => match args with
  | [.vcell [.str a0_0, .flt .f32 a0_1, .flt .f32 a0_2, .flt .f32 a0_3, .flt .f32 a0_4, .flt .f32 a0_5, .flt .f32 a0_6, .flt .f32 a0_7] 0] => some (.need (spec_l07Entry_need (⟨a0_0, a0_1, ⟨a0_2, a0_3, a0_4, a0_5, a0_6, a0_7⟩⟩ : Entry)) (.leaf (spec_l07Entry_mk (spec_l07Entry (⟨a0_0, a0_1, ⟨a0_2, a0_3, a0_4, a0_5, a0_6, a0_7⟩⟩ : Entry)))))
  | _ => none
set_option maxRecDepth 100000 in
theorem spec_l07Entry_ok0 : FunOK Try.prog 40 spec_l07Entry_c0.fn := by
  refine con_ok (Γ := gam [(54, spec_l07Name_c), (55, spec_l02Above_c), (56, spec_l03Is_c)]) (gam_cons spec_l07Name_ok (gam_cons spec_l02Above_ok (gam_cons spec_l03Is_ok (gam_nil)))) tab_ok (by kernel_rfl) Try.func40 (by kernel_rfl) (by kernel_rfl) Try.ntmps40 Try.results40 (loopsOK_none rfl _) 100000 fun args t h => ?_
  unfold spec_l07Entry_c0 at h
  split at h
  · rename_i a0_0 a0_1 a0_2 a0_3 a0_4 a0_5 a0_6 a0_7
    cases h
    exact ⟨rfl, agree_need (mk := spec_l07Entry_mk) (t := spec_l07Entry_tree (⟨a0_0, a0_1, ⟨a0_2, a0_3, a0_4, a0_5, a0_6, a0_7⟩⟩ : Entry)) (by unfold Agree; kernel_rfl)⟩
  · cases h
def spec_l07Entry_c : Con := fun args => spec_l07Entry_c0 (norms 0 [.ptr 8] args)
set_option maxRecDepth 100000 in
theorem spec_l07Entry_ok : FunOK Try.prog 40 spec_l07Entry_c.fn := con_norm [.ptr 8] spec_l07Entry_ok0

/-- a loop of spec_l07List -/
def spec_l07List_loop0_step (p : List Entry) (s : Int) : Round (Int) ((Unit) ⊕ (Unit)) :=
  let x0 := ((List.length p : Nat) : Int);
  let x1 := decide (s < x0);
  .ask x1
  (
   let x2 := ((List.length p : Nat) : Int);
   let x3 := decide (x2 ≤ 16);
   .ask x3
   (
    .need ((decide (0 ≤ s) && decide (s < ((List.length p : Nat) : Int)))) (
    let x4 := List.getD p (Int.toNat s) default;
    .need ((spec_l07Entry_need (⟨x4.Name, x4.Mass, ⟨x4.Orb.Long, x4.Orb.Round, x4.Orb.Tilt, x4.Orb.Node, x4.Orb.Peri, x4.Orb.Phase⟩⟩ : Entry))) (
    let x5 := spec_l07Entry (⟨x4.Name, x4.Mass, ⟨x4.Orb.Long, x4.Orb.Round, x4.Orb.Tilt, x4.Orb.Node, x4.Orb.Peri, x4.Orb.Phase⟩⟩ : Entry);
    .ask (!x5)
    (
     .leaf (.inr (.inl ()), []))
    (
     let x6 := decide (s > 0);
     .ask x6
     (
      let x7 := IntKind.wrap .i64 (s - 1);
      .need ((decide (0 ≤ x7) && decide (x7 < ((List.length p : Nat) : Int)))) (
      let x8 := List.getD p (Int.toNat x7) default;
      .need ((decide (0 ≤ s) && decide (s < ((List.length p : Nat) : Int)))) (
      let x9 := List.getD p (Int.toNat s) default;
      let x10 := (!Op.bytesLess x8.Name x9.Name);
      .ask x10
      (
       .leaf (.inr (.inl ()), []))
      (
       let x11 := IntKind.wrap .i64 (s + 1);
       .leaf (.inl x11, [])))))
     (
      let x7 := IntKind.wrap .i64 (s + 1);
      .leaf (.inl x7, []))))))
   (
    .leaf (.inr (.inr ()), [])))
  (
   .leaf (.inr (.inr ()), []))
def spec_l07List_loop0_L (p : List Entry) : LoopS (Int) ((Unit) ⊕ (Unit)) := { tl := fun s => [.vslc 1 .entry p, .junk, .junk, .int .i64 s], hl := fun s => [], ex := fun r => match r with | .inl r => .ret | .inr r => .exit 0, otl := fun r => match r with | .inl r => [.junk, .junk, .bool false] | .inr r => [.vslc 1 .entry p], ohl := fun r => match r with | .inl r => [] | .inr r => [] }
def spec_l07List_loop0_ext : St → Option ((List Entry) × (Int) × List Nat) := fun S => match (S.tm 0).unK, (S.tm 3).unK with
  | .vslc 1 .entry q0, .int .i64 q1 => some (q0, q1, [])
  | _, _ => none
def spec_l07List_loop0_post (p : List Entry) (r : (Unit) ⊕ (Unit)) : DT (Ex × St) := .ask (isL r) (.leaf (.ret, LSt [.junk, .junk, .bool false] [])) (.leaf (.exit 0, LSt [.vslc 1 .entry p] []))
def spec_l07List_loop0 (p : List Entry) (s : Int) : (Unit) ⊕ (Unit) := loopVal (spec_l07List_loop0_step p) s
def spec_l07List_loop0_ends (p : List Entry) (s : Int) : Bool := loopEnds (spec_l07List_loop0_step p) s
def spec_l07List_loop0_F : LoopF := loopF spec_l07List_loop0_step spec_l07List_loop0_ext spec_l07List_loop0_post
set_option maxRecDepth 100000 in
theorem spec_l07List_loop0_hext : ∀ S p s fl, spec_l07List_loop0_ext S = some (p, s, fl) → Norm S fl ((spec_l07List_loop0_L p).tl s) ((spec_l07List_loop0_L p).hl s) (spec_l07List_loop0_L p).gl := by
  intro S p s fl h
  unfold spec_l07List_loop0_ext at h
  (repeat' split at h) <;> first
    | (cases h; constructor <;> simp_all [spec_l07List_loop0_L, keepT, keepH, rens, renH, PV.ren, Blk.ren, fOf, lget, nodup, natIn, lenEq, gtm, PV.unK])
    | cases h
set_option maxRecDepth 100000 in
theorem spec_l07List_loop0_hpost : ∀ p r e S', (spec_l07List_loop0_post p r).get = some (e, S') → e = (spec_l07List_loop0_L p).ex r ∧ S' = LSt ((spec_l07List_loop0_L p).otl r) ((spec_l07List_loop0_L p).ohl r) ((spec_l07List_loop0_L p).ogl r) := by
  intro p r e S' h
  unfold spec_l07List_loop0_post at h
  cases r <;> (simp only [isL, DT.get, Option.some.injEq, Prod.mk.injEq] at h; exact ⟨h.1.symm, h.2.symm⟩)

def spec_l07List_loops : Nat → Option LoopF := loopTab [(2, spec_l07List_loop0_F)]
set_option maxRecDepth 100000 in
theorem spec_l07List_l0 : LoopOK Try.prog ⟨gam [(40, spec_l07Entry_c)], tab, 41, spec_l07List_loops⟩ (lp Try.f39 0) :=
  loopOK_some (F := spec_l07List_loop0_F) (by kernel_rfl) (loopF_ok (E := ⟨gam [(40, spec_l07Entry_c)], tab, 41, spec_l07List_loops⟩) ⟨gam_cons spec_l07Entry_ok (gam_nil), tab_ok, by kernel_rfl⟩ (fuel := 100000) (loopsOK_list (l := []) (by kernel_rfl) trivial) (L := spec_l07List_loop0_L) (fun p s => by unfold AgreeL; exact ⟨by kernel_rfl, by kernel_rfl⟩) (fun _ r h => by cases r <;> exact Ex.noConfusion h) spec_l07List_loop0_hext spec_l07List_loop0_hpost)
/-- loop.example/g01284/spec.l07List -/
def spec_l07List_tree (a0 : List Entry) : DT (Bool) :=
  .need ((spec_l07List_loop0_ends a0 0)) (
  let x0 := spec_l07List_loop0 a0 0;
  .ask ((isL x0))
  (
   .leaf false)
  (
   let x1 := ((List.length a0 : Nat) : Int);
   let x2 := decide (x1 ≤ 16);
   .leaf x2))
def spec_l07List (a0 : List Entry) : Bool := (spec_l07List_tree a0).val
def spec_l07List_need (a0 : List Entry) : Bool := (spec_l07List_tree a0).ok
def spec_l07List_mk (p : Bool) : Ret := ⟨.bool p, []⟩
def spec_l07List_c0 : Con := fun args => match args with
  | [.vslc 1 .entry a0] => some (.need (spec_l07List_need a0) (.leaf (spec_l07List_mk (spec_l07List a0))))
  | _ => none
set_option maxRecDepth 100000 in
theorem spec_l07List_ok0 : FunOK Try.prog 39 spec_l07List_c0.fn := by
  refine con_ok (Γ := gam [(40, spec_l07Entry_c)]) (gam_cons spec_l07Entry_ok (gam_nil)) tab_ok (by kernel_rfl) Try.func39 (by kernel_rfl) (by kernel_rfl) Try.ntmps39 Try.results39 (loops := spec_l07List_loops) (loopsOK_list (l := [lp Try.f39 0]) (by kernel_rfl) ⟨spec_l07List_l0, trivial⟩) 100000 fun args t h => ?_
  unfold spec_l07List_c0 at h
  split at h
  · rename_i a0
    cases h
    exact ⟨rfl, agree_need (mk := spec_l07List_mk) (t := spec_l07List_tree a0) (by unfold Agree; kernel_rfl)⟩
  · cases h
def spec_l07List_c : Con := fun args => spec_l07List_c0 (norms 0 [.slc .entry] args)
set_option maxRecDepth 100000 in
theorem spec_l07List_ok : FunOK Try.prog 39 spec_l07List_c.fn := con_norm [.slc .entry] spec_l07List_ok0

/-- a loop of spec_PutEntry -/
def spec_PutEntry_loop0_step (p : List Entry × Int × (List UInt8) × Nat × Nat × Nat × Nat × Nat × Nat × Nat) (s : Bool × Int × List Entry) : Round (Bool × Int × List Entry) (Bool × List Entry) :=
  let x0 := decide (s.2.1 < p.2.1);
  .ask x0
  (
   .ask (!s.1)
   (
    .need ((decide (0 ≤ s.2.1) && decide (s.2.1 < ((List.length p.1 : Nat) : Int)))) (
    let x1 := List.getD p.1 (Int.toNat s.2.1) default;
    let x2 := (!Op.bytesLess x1.Name p.2.2.1);
    .ask x2
    (
     .need ((decide ((List.length s.2.2 + List.length [(⟨p.2.2.1, p.2.2.2.1, ⟨p.2.2.2.2.1, p.2.2.2.2.2.1, p.2.2.2.2.2.2.1, p.2.2.2.2.2.2.2.1, p.2.2.2.2.2.2.2.2.1, p.2.2.2.2.2.2.2.2.2⟩⟩ : Entry)]) * 48 ≤ 140737488355328) && decide (List.length s.2.2 + List.length [(⟨p.2.2.1, p.2.2.2.1, ⟨p.2.2.2.2.1, p.2.2.2.2.2.1, p.2.2.2.2.2.2.1, p.2.2.2.2.2.2.2.1, p.2.2.2.2.2.2.2.2.1, p.2.2.2.2.2.2.2.2.2⟩⟩ : Entry)] ≤ 9223372036854775807))) (
     let x3 := s.2.2 ++ [(⟨p.2.2.1, p.2.2.2.1, ⟨p.2.2.2.2.1, p.2.2.2.2.2.1, p.2.2.2.2.2.2.1, p.2.2.2.2.2.2.2.1, p.2.2.2.2.2.2.2.2.1, p.2.2.2.2.2.2.2.2.2⟩⟩ : Entry)];
     .need ((decide (0 ≤ s.2.1) && decide (s.2.1 < ((List.length p.1 : Nat) : Int)))) (
     let x4 := List.getD p.1 (Int.toNat s.2.1) default;
     let x5 := (!(x4.Name == p.2.2.1));
     .ask x5
     (
      .need ((decide (0 ≤ s.2.1) && decide (s.2.1 < ((List.length p.1 : Nat) : Int)))) (
      let x6 := List.getD p.1 (Int.toNat s.2.1) default;
      .need ((decide ((List.length x3 + List.length [(⟨x6.Name, x6.Mass, ⟨x6.Orb.Long, x6.Orb.Round, x6.Orb.Tilt, x6.Orb.Node, x6.Orb.Peri, x6.Orb.Phase⟩⟩ : Entry)]) * 48 ≤ 140737488355328) && decide (List.length x3 + List.length [(⟨x6.Name, x6.Mass, ⟨x6.Orb.Long, x6.Orb.Round, x6.Orb.Tilt, x6.Orb.Node, x6.Orb.Peri, x6.Orb.Phase⟩⟩ : Entry)] ≤ 9223372036854775807))) (
      let x7 := x3 ++ [(⟨x6.Name, x6.Mass, ⟨x6.Orb.Long, x6.Orb.Round, x6.Orb.Tilt, x6.Orb.Node, x6.Orb.Peri, x6.Orb.Phase⟩⟩ : Entry)];
      let x8 := IntKind.wrap .i64 (s.2.1 + 1);
      .leaf (.inl (true, x8, x7), [0, 282]))))
     (
      let x6 := IntKind.wrap .i64 (s.2.1 + 1);
      .leaf (.inl (true, x6, x3), [0, 146])))))
    (
     .need ((decide (0 ≤ s.2.1) && decide (s.2.1 < ((List.length p.1 : Nat) : Int)))) (
     let x3 := List.getD p.1 (Int.toNat s.2.1) default;
     let x4 := (!(x3.Name == p.2.2.1));
     .ask x4
     (
      .need ((decide (0 ≤ s.2.1) && decide (s.2.1 < ((List.length p.1 : Nat) : Int)))) (
      let x5 := List.getD p.1 (Int.toNat s.2.1) default;
      .need ((decide ((List.length s.2.2 + List.length [(⟨x5.Name, x5.Mass, ⟨x5.Orb.Long, x5.Orb.Round, x5.Orb.Tilt, x5.Orb.Node, x5.Orb.Peri, x5.Orb.Phase⟩⟩ : Entry)]) * 48 ≤ 140737488355328) && decide (List.length s.2.2 + List.length [(⟨x5.Name, x5.Mass, ⟨x5.Orb.Long, x5.Orb.Round, x5.Orb.Tilt, x5.Orb.Node, x5.Orb.Peri, x5.Orb.Phase⟩⟩ : Entry)] ≤ 9223372036854775807))) (
      let x6 := s.2.2 ++ [(⟨x5.Name, x5.Mass, ⟨x5.Orb.Long, x5.Orb.Round, x5.Orb.Tilt, x5.Orb.Node, x5.Orb.Peri, x5.Orb.Phase⟩⟩ : Entry)];
      let x7 := IntKind.wrap .i64 (s.2.1 + 1);
      .leaf (.inl (s.1, x7, x6), [0, 234]))))
     (
      let x5 := IntKind.wrap .i64 (s.2.1 + 1);
      .leaf (.inl (s.1, x5, s.2.2), [0, 1]))))))
   (
    .need ((decide (0 ≤ s.2.1) && decide (s.2.1 < ((List.length p.1 : Nat) : Int)))) (
    let x1 := List.getD p.1 (Int.toNat s.2.1) default;
    let x2 := (!(x1.Name == p.2.2.1));
    .ask x2
    (
     .need ((decide (0 ≤ s.2.1) && decide (s.2.1 < ((List.length p.1 : Nat) : Int)))) (
     let x3 := List.getD p.1 (Int.toNat s.2.1) default;
     .need ((decide ((List.length s.2.2 + List.length [(⟨x3.Name, x3.Mass, ⟨x3.Orb.Long, x3.Orb.Round, x3.Orb.Tilt, x3.Orb.Node, x3.Orb.Peri, x3.Orb.Phase⟩⟩ : Entry)]) * 48 ≤ 140737488355328) && decide (List.length s.2.2 + List.length [(⟨x3.Name, x3.Mass, ⟨x3.Orb.Long, x3.Orb.Round, x3.Orb.Tilt, x3.Orb.Node, x3.Orb.Peri, x3.Orb.Phase⟩⟩ : Entry)] ≤ 9223372036854775807))) (
     let x4 := s.2.2 ++ [(⟨x3.Name, x3.Mass, ⟨x3.Orb.Long, x3.Orb.Round, x3.Orb.Tilt, x3.Orb.Node, x3.Orb.Peri, x3.Orb.Phase⟩⟩ : Entry)];
     let x5 := IntKind.wrap .i64 (s.2.1 + 1);
     .leaf (.inl (s.1, x5, x4), [0, 234]))))
    (
     let x3 := IntKind.wrap .i64 (s.2.1 + 1);
     .leaf (.inl (s.1, x3, s.2.2), [0, 1])))))
  (
   .leaf (.inr (s.1, s.2.2), [0, 1]))
def spec_PutEntry_loop0_L (p : List Entry × Int × (List UInt8) × Nat × Nat × Nat × Nat × Nat × Nat × Nat) : LoopS (Bool × Int × List Entry) (Bool × List Entry) := { tl := fun s => [.vslc 1 .entry p.1, .junk, .junk, .ptr 0 0, .junk, .junk, .own 1, .bool s.1, .junk, .junk, .junk, .junk, .junk, .junk, .junk, .junk, .junk, .junk, .int .i64 p.2.1, .int .i64 s.2.1], hl := fun s => [some (.cells [.str p.2.2.1, .flt .f32 p.2.2.2.1, .flt .f32 p.2.2.2.2.1, .flt .f32 p.2.2.2.2.2.1, .flt .f32 p.2.2.2.2.2.2.1, .flt .f32 p.2.2.2.2.2.2.2.1, .flt .f32 p.2.2.2.2.2.2.2.2.1, .flt .f32 p.2.2.2.2.2.2.2.2.2]), some (.typed 33 .entry s.2.2)], ex := fun r => .exit 0, otl := fun r => [.junk, .junk, .junk, .ptr 0 0, .junk, .junk, .own 1, .bool r.1], ohl := fun r => [some (.cells [.str p.2.2.1, .flt .f32 p.2.2.2.1, .flt .f32 p.2.2.2.2.1, .flt .f32 p.2.2.2.2.2.1, .flt .f32 p.2.2.2.2.2.2.1, .flt .f32 p.2.2.2.2.2.2.2.1, .flt .f32 p.2.2.2.2.2.2.2.2.1, .flt .f32 p.2.2.2.2.2.2.2.2.2]), some (.typed 33 .entry r.2)] }
def spec_PutEntry_loop0_ext : St → Option ((List Entry × Int × (List UInt8) × Nat × Nat × Nat × Nat × Nat × Nat × Nat) × (Bool × Int × List Entry) × List Nat) := fun S => match (S.tm 0).unK, (S.tm 3).unK, (S.tm 6).unK, (S.tm 7).unK, (S.tm 18).unK, (S.tm 19).unK with
  | .vslc 1 .entry q0, .ptr i0 0, .own i1, .bool q1, .int .i64 q2, .int .i64 q3 => (match S.hp i0 with
    | some (.cells [.str q4, .flt .f32 q5, .flt .f32 q6, .flt .f32 q7, .flt .f32 q8, .flt .f32 q9, .flt .f32 q10, .flt .f32 q11]) => (match S.hp i1 with
    | some (.typed 33 .entry q12) => (if nodup [i0, i1] = true then some ((q0, q2, q4, q5, q6, q7, q8, q9, q10, q11), (q1, q3, q12), [i0, i1]) else none)
    | _ => none)
    | _ => none)
  | _, _, _, _, _, _ => none
def spec_PutEntry_loop0_post (p : List Entry × Int × (List UInt8) × Nat × Nat × Nat × Nat × Nat × Nat × Nat) (r : Bool × List Entry) : DT (Ex × St) := .leaf (.exit 0, LSt [.junk, .junk, .junk, .ptr 0 0, .junk, .junk, .own 1, .bool r.1] [some (.cells [.str p.2.2.1, .flt .f32 p.2.2.2.1, .flt .f32 p.2.2.2.2.1, .flt .f32 p.2.2.2.2.2.1, .flt .f32 p.2.2.2.2.2.2.1, .flt .f32 p.2.2.2.2.2.2.2.1, .flt .f32 p.2.2.2.2.2.2.2.2.1, .flt .f32 p.2.2.2.2.2.2.2.2.2]), some (.typed 33 .entry r.2)])
def spec_PutEntry_loop0 (p : List Entry × Int × (List UInt8) × Nat × Nat × Nat × Nat × Nat × Nat × Nat) (s : Bool × Int × List Entry) : Bool × List Entry := loopVal (spec_PutEntry_loop0_step p) s
def spec_PutEntry_loop0_ends (p : List Entry × Int × (List UInt8) × Nat × Nat × Nat × Nat × Nat × Nat × Nat) (s : Bool × Int × List Entry) : Bool := loopEnds (spec_PutEntry_loop0_step p) s
def spec_PutEntry_loop0_F : LoopF := loopF spec_PutEntry_loop0_step spec_PutEntry_loop0_ext spec_PutEntry_loop0_post
set_option maxRecDepth 100000 in
theorem spec_PutEntry_loop0_hext : ∀ S p s fl, spec_PutEntry_loop0_ext S = some (p, s, fl) → Norm S fl ((spec_PutEntry_loop0_L p).tl s) ((spec_PutEntry_loop0_L p).hl s) (spec_PutEntry_loop0_L p).gl := by
  intro S p s fl h
  unfold spec_PutEntry_loop0_ext at h
  (repeat' split at h) <;> first
    | (cases h; constructor <;> simp_all [spec_PutEntry_loop0_L, keepT, keepH, rens, renH, PV.ren, Blk.ren, fOf, lget, nodup, natIn, lenEq, gtm, PV.unK])
    | cases h
set_option maxRecDepth 100000 in
theorem spec_PutEntry_loop0_hpost : ∀ p r e S', (spec_PutEntry_loop0_post p r).get = some (e, S') → e = (spec_PutEntry_loop0_L p).ex r ∧ S' = LSt ((spec_PutEntry_loop0_L p).otl r) ((spec_PutEntry_loop0_L p).ohl r) ((spec_PutEntry_loop0_L p).ogl r) := by
  intro p r e S' h
  unfold spec_PutEntry_loop0_post at h
  simp only [DT.get, Option.some.injEq, Prod.mk.injEq] at h; exact ⟨h.1.symm, h.2.symm⟩

def spec_PutEntry_loops : Nat → Option LoopF := loopTab [(6, spec_PutEntry_loop0_F)]
set_option maxRecDepth 100000 in
theorem spec_PutEntry_l0 : LoopOK Try.prog ⟨gam [(39, spec_l07List_c), (40, spec_l07Entry_c)], tab, 64, spec_PutEntry_loops⟩ (lp Try.f23 0) :=
  loopOK_some (F := spec_PutEntry_loop0_F) (by kernel_rfl) (loopF_ok (E := ⟨gam [(39, spec_l07List_c), (40, spec_l07Entry_c)], tab, 64, spec_PutEntry_loops⟩) ⟨gam_cons spec_l07List_ok (gam_cons spec_l07Entry_ok (gam_nil)), tab_ok, by kernel_rfl⟩ (fuel := 100000) (loopsOK_list (l := []) (by kernel_rfl) trivial) (L := spec_PutEntry_loop0_L) (fun p s => by unfold AgreeL; exact ⟨by kernel_rfl, by kernel_rfl⟩) (fun _ _ h => Ex.noConfusion h) spec_PutEntry_loop0_hext spec_PutEntry_loop0_hpost)
/-- loop.example/g01284/spec.PutEntry -/
def spec_PutEntry_tree (a0 : List Entry) (a1 : Entry) : DT ((Unit) ⊕ (List Entry)) :=
  .need ((spec_l07List_need a0)) (
  let x0 := spec_l07List a0;
  .ask (!x0)
  (
   .leaf (.inl ()))
  (
   .need ((spec_l07Entry_need (⟨a1.Name, a1.Mass, ⟨a1.Orb.Long, a1.Orb.Round, a1.Orb.Tilt, a1.Orb.Node, a1.Orb.Peri, a1.Orb.Phase⟩⟩ : Entry))) (
   let x1 := spec_l07Entry (⟨a1.Name, a1.Mass, ⟨a1.Orb.Long, a1.Orb.Round, a1.Orb.Tilt, a1.Orb.Node, a1.Orb.Peri, a1.Orb.Phase⟩⟩ : Entry);
   .ask (!x1)
   (
    .leaf (.inl ()))
   (
    let x2 := ((List.length a0 : Nat) : Int);
    .need ((spec_PutEntry_loop0_ends (a0, x2, a1.Name, a1.Mass, a1.Orb.Long, a1.Orb.Round, a1.Orb.Tilt, a1.Orb.Node, a1.Orb.Peri, a1.Orb.Phase) (false, 0, []))) (
    let x3 := spec_PutEntry_loop0 (a0, x2, a1.Name, a1.Mass, a1.Orb.Long, a1.Orb.Round, a1.Orb.Tilt, a1.Orb.Node, a1.Orb.Peri, a1.Orb.Phase) (false, 0, []);
    .ask (!x3.1)
    (
     .need ((decide ((List.length x3.2 + List.length [(⟨a1.Name, a1.Mass, ⟨a1.Orb.Long, a1.Orb.Round, a1.Orb.Tilt, a1.Orb.Node, a1.Orb.Peri, a1.Orb.Phase⟩⟩ : Entry)]) * 48 ≤ 140737488355328) && decide (List.length x3.2 + List.length [(⟨a1.Name, a1.Mass, ⟨a1.Orb.Long, a1.Orb.Round, a1.Orb.Tilt, a1.Orb.Node, a1.Orb.Peri, a1.Orb.Phase⟩⟩ : Entry)] ≤ 9223372036854775807))) (
     let x4 := x3.2 ++ [(⟨a1.Name, a1.Mass, ⟨a1.Orb.Long, a1.Orb.Round, a1.Orb.Tilt, a1.Orb.Node, a1.Orb.Peri, a1.Orb.Phase⟩⟩ : Entry)];
     .need ((spec_l07List_need x4)) (
     let x5 := spec_l07List x4;
     .ask (!x5)
     (
      .leaf (.inl ()))
     (
      .leaf (.inr x4)))))
    (
     .need ((spec_l07List_need x3.2)) (
     let x4 := spec_l07List x3.2;
     .ask (!x4)
     (
      .leaf (.inl ()))
     (
      .leaf (.inr x3.2)))))))))
def spec_PutEntry (a0 : List Entry) (a1 : Entry) : (Unit) ⊕ (List Entry) := (spec_PutEntry_tree a0 a1).val
def spec_PutEntry_need (a0 : List Entry) (a1 : Entry) : Bool := (spec_PutEntry_tree a0 a1).ok
def spec_PutEntry_mk0 (p : Unit) : Ret := ⟨.tup [.nils, .bool false], []⟩
def spec_PutEntry_mk1 (p : List Entry) : Ret := ⟨.tup [.own 0, .bool true], [.typed 33 .entry p]⟩
def spec_PutEntry_mk : (Unit) ⊕ (List Entry) → Ret := fun v => match v with
  | (.inl p) => spec_PutEntry_mk0 p
  | (.inr p) => spec_PutEntry_mk1 p
def spec_PutEntry_forms (v : (Unit) ⊕ (List Entry)) : DT Ret := .ask (isL v) (.leaf (spec_PutEntry_mk0 (leftD v))) (.leaf (spec_PutEntry_mk1 (rightD v)))
theorem spec_PutEntry_forms_get : ∀ v, (spec_PutEntry_forms v).get = some (spec_PutEntry_mk v) := by
  intro v
  rcases v with v | v <;> rfl
def spec_PutEntry_c0 : Con := fun args => match args with
  | [.vslc 1 .entry a0, .agg [.str a1_0, .flt .f32 a1_1, .flt .f32 a1_2, .flt .f32 a1_3, .flt .f32 a1_4, .flt .f32 a1_5, .flt .f32 a1_6, .flt .f32 a1_7]] => some (.need (spec_PutEntry_need a0 (⟨a1_0, a1_1, ⟨a1_2, a1_3, a1_4, a1_5, a1_6, a1_7⟩⟩ : Entry)) (spec_PutEntry_forms (spec_PutEntry a0 (⟨a1_0, a1_1, ⟨a1_2, a1_3, a1_4, a1_5, a1_6, a1_7⟩⟩ : Entry))))
  | _ => none
set_option maxRecDepth 100000 in
theorem spec_PutEntry_ok0 : FunOK Try.prog 23 spec_PutEntry_c0.fn := by
  refine con_ok (Γ := gam [(39, spec_l07List_c), (40, spec_l07Entry_c)]) (gam_cons spec_l07List_ok (gam_cons spec_l07Entry_ok (gam_nil))) tab_ok (by kernel_rfl) Try.func23 (by kernel_rfl) (by kernel_rfl) Try.ntmps23 Try.results23 (loops := spec_PutEntry_loops) (loopsOK_list (l := [lp Try.f23 0]) (by kernel_rfl) ⟨spec_PutEntry_l0, trivial⟩) 100000 fun args t h => ?_
  unfold spec_PutEntry_c0 at h
  split at h
  · rename_i a0 a1_0 a1_1 a1_2 a1_3 a1_4 a1_5 a1_6 a1_7
    cases h
    exact ⟨rfl, agree_forms (mk := spec_PutEntry_mk) (t := spec_PutEntry_tree a0 (⟨a1_0, a1_1, ⟨a1_2, a1_3, a1_4, a1_5, a1_6, a1_7⟩⟩ : Entry)) (by unfold Agree; kernel_rfl) (fun h => h) (spec_PutEntry_forms_get _)⟩
  · cases h
def spec_PutEntry_c : Con := fun args => spec_PutEntry_c0 (norms 0 [.slc .entry, .none] args)
set_option maxRecDepth 100000 in
theorem spec_PutEntry_ok : FunOK Try.prog 23 spec_PutEntry_c.fn := con_norm [.slc .entry, .none] spec_PutEntry_ok0

/-- a loop of spec_B10Entries -/
def spec_B10Entries_loop0_step (p : List Int) (s : Int × Int × Int × List Entry) : Round (Int × Int × Int × List Entry) (List Entry) :=
  let x0 := decide (s.1 > 0);
  .ask x0
  (
   .need ((spec_l00Src_text_need p s.2.1 s.2.2.1 ([[109, 111, 111, 110], [105, 111], [97], [99, 111, 109, 101, 116], [114, 105, 110, 103], [122, 122]]))) (
   let x1 := spec_l00Src_text p s.2.1 s.2.2.1 ([[109, 111, 111, 110], [105, 111], [97], [99, 111, 109, 101, 116], [114, 105, 110, 103], [122, 122]]);
   .need ((spec_l00Src_pick_need p x1.2.1 x1.2.2 8)) (
   let x2 := spec_l00Src_pick p x1.2.1 x1.2.2 8;
   let x3 := IntKind.wrap .i64 (1 + x2.1);
   let x4 := fofInt .f32 x3;
   let x5 := fdiv .f32 x4 1073741824;
   .need ((spec_l03DrawOk_need p x2.2.1 x2.2.2)) (
   let x6 := spec_l03DrawOk p x2.2.1 x2.2.2;
   .need ((spec_PutEntry_need s.2.2.2 (⟨x1.1, x5, ⟨x6.1.Long, x6.1.Round, x6.1.Tilt, x6.1.Node, x6.1.Peri, x6.1.Phase⟩⟩ : Entry))) (
   let x7 := spec_PutEntry s.2.2.2 (⟨x1.1, x5, ⟨x6.1.Long, x6.1.Round, x6.1.Tilt, x6.1.Node, x6.1.Peri, x6.1.Phase⟩⟩ : Entry);
   .ask ((isL x7))
   (
    .skip (
    let x8 := IntKind.wrap .i64 (s.1 - 1);
    .leaf (.inl (x8, x6.2.1, x6.2.2, s.2.2.2), [0, 1])))
   (
    .skip (
    let x8 := IntKind.wrap .i64 (s.1 - 1);
    .leaf (.inl (x8, x6.2.1, x6.2.2, (rightD x7)), [0, 154]))))))))
  (
   .leaf (.inr s.2.2.2, [1]))
def spec_B10Entries_loop0_L (p : List Int) : LoopS (Int × Int × Int × List Entry) (List Entry) := { tl := fun s => [.junk, .junk, .junk, .ptr 0 0, .own 1, .int .i64 s.1], hl := fun s => [some (.cells [.vslc 1 (.int .u8) p, .int .i64 s.2.1, .int .u64 s.2.2.1]), some (.typed 33 .entry s.2.2.2)], ex := fun r => .exit 0, otl := fun r => [.junk, .junk, .junk, .junk, .own 0], ohl := fun r => [some (.typed 33 .entry r)] }
def spec_B10Entries_loop0_ext : St → Option ((List Int) × (Int × Int × Int × List Entry) × List Nat) := fun S => match (S.tm 3).unK, (S.tm 4).unK, (S.tm 5).unK with
  | .ptr i0 0, .own i1, .int .i64 q0 => (match S.hp i0 with
    | some (.cells [.vslc 1 (.int .u8) q1, .int .i64 q2, .int .u64 q3]) => (match S.hp i1 with
    | some (.typed 33 .entry q4) => (if nodup [i0, i1] = true then some (q1, (q0, q2, q3, q4), [i0, i1]) else none)
    | _ => none)
    | _ => none)
  | _, _, _ => none
def spec_B10Entries_loop0_post (p : List Int) (r : List Entry) : DT (Ex × St) := .leaf (.exit 0, LSt [.junk, .junk, .junk, .junk, .own 0] [some (.typed 33 .entry r)])
def spec_B10Entries_loop0 (p : List Int) (s : Int × Int × Int × List Entry) : List Entry := loopVal (spec_B10Entries_loop0_step p) s
def spec_B10Entries_loop0_ends (p : List Int) (s : Int × Int × Int × List Entry) : Bool := loopEnds (spec_B10Entries_loop0_step p) s
def spec_B10Entries_loop0_F : LoopF := loopF spec_B10Entries_loop0_step spec_B10Entries_loop0_ext spec_B10Entries_loop0_post
set_option maxRecDepth 100000 in
theorem spec_B10Entries_loop0_hext : ∀ S p s fl, spec_B10Entries_loop0_ext S = some (p, s, fl) → Norm S fl ((spec_B10Entries_loop0_L p).tl s) ((spec_B10Entries_loop0_L p).hl s) (spec_B10Entries_loop0_L p).gl := by
  intro S p s fl h
  unfold spec_B10Entries_loop0_ext at h
  (repeat' split at h) <;> first
    | (cases h; constructor <;> simp_all [spec_B10Entries_loop0_L, keepT, keepH, rens, renH, PV.ren, Blk.ren, fOf, lget, nodup, natIn, lenEq, gtm, PV.unK])
    | cases h
set_option maxRecDepth 100000 in
theorem spec_B10Entries_loop0_hpost : ∀ p r e S', (spec_B10Entries_loop0_post p r).get = some (e, S') → e = (spec_B10Entries_loop0_L p).ex r ∧ S' = LSt ((spec_B10Entries_loop0_L p).otl r) ((spec_B10Entries_loop0_L p).ohl r) ((spec_B10Entries_loop0_L p).ogl r) := by
  intro p r e S' h
  unfold spec_B10Entries_loop0_post at h
  simp only [DT.get, Option.some.injEq, Prod.mk.injEq] at h; exact ⟨h.1.symm, h.2.symm⟩

def spec_B10Entries_loops : Nat → Option LoopF := loopTab [(4, spec_B10Entries_loop0_F)]
set_option maxRecDepth 100000 in
theorem spec_B10Entries_l0 : LoopOK Try.prog ⟨gam [(23, spec_PutEntry_c)] [] [(20, spec_l00Src_pick_M), (21, spec_l00Src_text_M), (22, spec_l03DrawOk_M)] [(19, spec_l00From_M)], tab, 39, spec_B10Entries_loops⟩ (lp Try.f5 0) :=
  loopOK_some (F := spec_B10Entries_loop0_F) (by kernel_rfl) (loopF_ok (E := ⟨gam [(23, spec_PutEntry_c)] [] [(20, spec_l00Src_pick_M), (21, spec_l00Src_text_M), (22, spec_l03DrawOk_M)] [(19, spec_l00From_M)], tab, 39, spec_B10Entries_loops⟩) ⟨gam_cons spec_PutEntry_ok (gam_box spec_l00Src_pick_ok (gam_box spec_l00Src_text_ok (gam_box spec_l03DrawOk_ok (gam_new spec_l00From_ok (gam_nil))))), tab_ok, by kernel_rfl⟩ (fuel := 100000) (loopsOK_list (l := []) (by kernel_rfl) trivial) (L := spec_B10Entries_loop0_L) (fun p s => by unfold AgreeL; exact ⟨by kernel_rfl, by kernel_rfl⟩) (fun _ _ h => Ex.noConfusion h) spec_B10Entries_loop0_hext spec_B10Entries_loop0_hpost)
/-- loop.example/g01284/spec.B10Entries -/
def spec_B10Entries_tree (a0 : List Int) : DT (List Entry) :=
  .need ((spec_l00Src_pick_need a0 0 0 6)) (
  let x0 := spec_l00Src_pick a0 0 0 6;
  .need ((spec_B10Entries_loop0_ends a0 (x0.1, x0.2.1, x0.2.2, []))) (
  let x1 := spec_B10Entries_loop0 a0 (x0.1, x0.2.1, x0.2.2, []);
  .leaf x1))
def spec_B10Entries (a0 : List Int) : List Entry := (spec_B10Entries_tree a0).val
def spec_B10Entries_need (a0 : List Int) : Bool := (spec_B10Entries_tree a0).ok
def spec_B10Entries_mk (p : List Entry) : Ret := ⟨.own 0, [.typed 33 .entry p]⟩
def spec_B10Entries_c0 : Con := fun args => match args with
  | [.vslc 1 (.int .u8) a0] => some (.need (spec_B10Entries_need a0) (.leaf (spec_B10Entries_mk (spec_B10Entries a0))))
  | _ => none
set_option maxRecDepth 100000 in
theorem spec_B10Entries_ok0 : FunOK Try.prog 5 spec_B10Entries_c0.fn := by
  refine con_ok (Γ := gam [(23, spec_PutEntry_c)] [] [(20, spec_l00Src_pick_M), (21, spec_l00Src_text_M), (22, spec_l03DrawOk_M)] [(19, spec_l00From_M)]) (gam_cons spec_PutEntry_ok (gam_box spec_l00Src_pick_ok (gam_box spec_l00Src_text_ok (gam_box spec_l03DrawOk_ok (gam_new spec_l00From_ok (gam_nil)))))) tab_ok (by kernel_rfl) Try.func5 (by kernel_rfl) (by kernel_rfl) Try.ntmps5 Try.results5 (loops := spec_B10Entries_loops) (loopsOK_list (l := [lp Try.f5 0]) (by kernel_rfl) ⟨spec_B10Entries_l0, trivial⟩) 100000 fun args t h => ?_
  unfold spec_B10Entries_c0 at h
  split at h
  · rename_i a0
    cases h
    exact ⟨rfl, agree_need (mk := spec_B10Entries_mk) (t := spec_B10Entries_tree a0) (by unfold Agree; kernel_rfl)⟩
  · cases h
def spec_B10Entries_c : Con := fun args => spec_B10Entries_c0 (norms 0 [.slc (.int .u8)] args)
set_option maxRecDepth 100000 in
theorem spec_B10Entries_ok : FunOK Try.prog 5 spec_B10Entries_c.fn := con_norm [.slc (.int .u8)] spec_B10Entries_ok0

/-- a loop of impl_IsName -/
def impl_IsName_loop0_step (p : (List UInt8) × Int) (s : Int) : Round (Int) ((Unit) ⊕ (Unit)) :=
  let x0 := decide (s < p.2);
  .ask x0
  (
   .need ((decide (0 ≤ s) && decide (s < ((List.length p.1 : Nat) : Int)))) (
   let x1 := ((List.getD (p.1 : List UInt8) (Int.toNat s) 0).toNat : Int);
   let x2 := decide (x1 < 97);
   .ask x2
   (
    .leaf (.inr (.inl ()), []))
   (
    .need ((decide (0 ≤ s) && decide (s < ((List.length p.1 : Nat) : Int)))) (
    let x3 := ((List.getD (p.1 : List UInt8) (Int.toNat s) 0).toNat : Int);
    let x4 := decide (x3 > 122);
    .ask x4
    (
     .leaf (.inr (.inl ()), []))
    (
     let x5 := IntKind.wrap .i64 (s + 1);
     .leaf (.inl x5, []))))))
  (
   .leaf (.inr (.inr ()), []))
def impl_IsName_loop0_L (p : (List UInt8) × Int) : LoopS (Int) ((Unit) ⊕ (Unit)) := { tl := fun s => [.str p.1, .junk, .junk, .junk, .junk, .int .i64 p.2, .int .i64 s], hl := fun s => [], ex := fun r => match r with | .inl r => .ret | .inr r => .exit 0, otl := fun r => match r with | .inl r => [.junk, .junk, .bool false] | .inr r => [.str p.1], ohl := fun r => match r with | .inl r => [] | .inr r => [] }
def impl_IsName_loop0_ext : St → Option (((List UInt8) × Int) × (Int) × List Nat) := fun S => match (S.tm 0).unK, (S.tm 5).unK, (S.tm 6).unK with
  | .str q0, .int .i64 q1, .int .i64 q2 => some ((q0, q1), q2, [])
  | _, _, _ => none
def impl_IsName_loop0_post (p : (List UInt8) × Int) (r : (Unit) ⊕ (Unit)) : DT (Ex × St) := .ask (isL r) (.leaf (.ret, LSt [.junk, .junk, .bool false] [])) (.leaf (.exit 0, LSt [.str p.1] []))
def impl_IsName_loop0 (p : (List UInt8) × Int) (s : Int) : (Unit) ⊕ (Unit) := loopVal (impl_IsName_loop0_step p) s
def impl_IsName_loop0_ends (p : (List UInt8) × Int) (s : Int) : Bool := loopEnds (impl_IsName_loop0_step p) s
def impl_IsName_loop0_F : LoopF := loopF impl_IsName_loop0_step impl_IsName_loop0_ext impl_IsName_loop0_post
set_option maxRecDepth 100000 in
theorem impl_IsName_loop0_hext : ∀ S p s fl, impl_IsName_loop0_ext S = some (p, s, fl) → Norm S fl ((impl_IsName_loop0_L p).tl s) ((impl_IsName_loop0_L p).hl s) (impl_IsName_loop0_L p).gl := by
  intro S p s fl h
  unfold impl_IsName_loop0_ext at h
  (repeat' split at h) <;> first
    | (cases h; constructor <;> simp_all [impl_IsName_loop0_L, keepT, keepH, rens, renH, PV.ren, Blk.ren, fOf, lget, nodup, natIn, lenEq, gtm, PV.unK])
    | cases h
set_option maxRecDepth 100000 in
theorem impl_IsName_loop0_hpost : ∀ p r e S', (impl_IsName_loop0_post p r).get = some (e, S') → e = (impl_IsName_loop0_L p).ex r ∧ S' = LSt ((impl_IsName_loop0_L p).otl r) ((impl_IsName_loop0_L p).ohl r) ((impl_IsName_loop0_L p).ogl r) := by
  intro p r e S' h
  unfold impl_IsName_loop0_post at h
  cases r <;> (simp only [isL, DT.get, Option.some.injEq, Prod.mk.injEq] at h; exact ⟨h.1.symm, h.2.symm⟩)

def impl_IsName_loops : Nat → Option LoopF := loopTab [(2, impl_IsName_loop0_F)]
set_option maxRecDepth 100000 in
theorem impl_IsName_l0 : LoopOK Try.prog ⟨gam [], tab, 28, impl_IsName_loops⟩ (lp Try.f25 0) :=
  loopOK_some (F := impl_IsName_loop0_F) (by kernel_rfl) (loopF_ok (E := ⟨gam [], tab, 28, impl_IsName_loops⟩) ⟨gam_nil, tab_ok, by kernel_rfl⟩ (fuel := 100000) (loopsOK_list (l := []) (by kernel_rfl) trivial) (L := impl_IsName_loop0_L) (fun p s => by unfold AgreeL; exact ⟨by kernel_rfl, by kernel_rfl⟩) (fun _ r h => by cases r <;> exact Ex.noConfusion h) impl_IsName_loop0_hext impl_IsName_loop0_hpost)
/-- loop.example/g01284/impl.IsName -/
def impl_IsName_tree (a0 : (List UInt8)) : DT (Bool) :=
  let x0 := ((List.length a0 : Nat) : Int);
  .need ((impl_IsName_loop0_ends (a0, x0) 0)) (
  let x1 := impl_IsName_loop0 (a0, x0) 0;
  .ask ((isL x1))
  (
   .leaf false)
  (
   let x2 := ((List.length a0 : Nat) : Int);
   let x3 := decide (x2 ≥ 1);
   .ask x3
   (
    let x4 := ((List.length a0 : Nat) : Int);
    let x5 := decide (x4 ≤ 8);
    .leaf x5)
   (
    .leaf false)))
def impl_IsName (a0 : (List UInt8)) : Bool := (impl_IsName_tree a0).val
def impl_IsName_need (a0 : (List UInt8)) : Bool := (impl_IsName_tree a0).ok
def impl_IsName_mk (p : Bool) : Ret := ⟨.bool p, []⟩
def impl_IsName_c : Con := fun args => match args with
  | [.str a0] => some (.need (impl_IsName_need a0) (.leaf (impl_IsName_mk (impl_IsName a0))))
  | _ => none
set_option maxRecDepth 100000 in
theorem impl_IsName_ok : FunOK Try.prog 25 impl_IsName_c.fn := by
  refine con_ok (Γ := gam []) (gam_nil) tab_ok (by kernel_rfl) Try.func25 (by kernel_rfl) (by kernel_rfl) Try.ntmps25 Try.results25 (loops := impl_IsName_loops) (loopsOK_list (l := [lp Try.f25 0]) (by kernel_rfl) ⟨impl_IsName_l0, trivial⟩) 100000 fun args t h => ?_
  unfold impl_IsName_c at h
  split at h
  · rename_i a0
    cases h
    exact ⟨rfl, agree_need (mk := impl_IsName_mk) (t := impl_IsName_tree a0) (by unfold Agree; kernel_rfl)⟩
  · cases h

/-- math.IsNaN -/
def math_IsNaN_tree (a0 : Nat) : DT (Bool) :=
  let x0 := fne .f64 a0 a0;
  .leaf x0
def math_IsNaN (a0 : Nat) : Bool := (math_IsNaN_tree a0).val
def math_IsNaN_mk (p : Bool) : Ret := ⟨.bool p, []⟩
def math_IsNaN_c : Con := fun args => match args with
  | [.flt .f64 a0] => some (.leaf (math_IsNaN_mk (math_IsNaN a0)))
  | _ => none
set_option maxRecDepth 100000 in
theorem math_IsNaN_ok : FunOK Try.prog 65 math_IsNaN_c.fn := by
  refine con_ok (Γ := gam []) (gam_nil) tab_ok (by kernel_rfl) Try.func65 (by kernel_rfl) (by kernel_rfl) Try.ntmps65 Try.results65 (loopsOK_none rfl _) 100000 fun args t h => ?_
  unfold math_IsNaN_c at h
  split at h
  · rename_i a0
    cases h
    exact ⟨rfl, agree_tot (mk := math_IsNaN_mk) (t := math_IsNaN_tree a0) (by unfold Agree; kernel_rfl) (by kernel_rfl)⟩
  · cases h

/-- math.Abs -/
def math_Abs_tree (a0 : Nat) : DT (Nat) :=
  .ask ((isNaN .f64 a0))
  (
   .leaf 9221120237041090560)
  (
   let x0 := IntKind.wrap .u64 (BitVec.ofInt (IntKind.bits .u64) ((a0 : Nat) : Int) &&& ~~~ BitVec.ofInt (IntKind.bits .u64) 9223372036854775808).toNat;
   let x1 := canon .f64 (Int.toNat x0);
   .leaf x1)
def math_Abs (a0 : Nat) : Nat := (math_Abs_tree a0).val
def math_Abs_mk (p : Nat) : Ret := ⟨.flt .f64 p, []⟩
def math_Abs_c : Con := fun args => match args with
  | [.flt .f64 a0] => some (.leaf (math_Abs_mk (math_Abs a0)))
  | _ => none
set_option maxRecDepth 100000 in
theorem math_Abs_ok : FunOK Try.prog 68 math_Abs_c.fn := by
  refine con_ok (Γ := gam [(60, math_Float64bits_c), (69, math_Float64frombits_c)]) (gam_cons math_Float64bits_ok (gam_cons math_Float64frombits_ok (gam_nil))) tab_ok (by kernel_rfl) Try.func68 (by kernel_rfl) (by kernel_rfl) Try.ntmps68 Try.results68 (loopsOK_none rfl _) 100000 fun args t h => ?_
  unfold math_Abs_c at h
  split at h
  · rename_i a0
    cases h
    exact ⟨rfl, agree_tot (mk := math_Abs_mk) (t := math_Abs_tree a0) (by unfold Agree; kernel_rfl) (by kernel_rfl)⟩
  · cases h

/-- math.IsInf -/
def math_IsInf_tree (a0 : Nat) (a1 : Int) : DT (Bool) :=
  let x0 := (a1 == 0);
  .ask x0
  (
   let x1 := math_Abs a0;
   let x2 := fgt .f64 x1 9218868437227405311;
   .leaf x2)
  (
   let x1 := decide (a1 < 0);
   .ask x1
   (
    let x2 := fneg .f64 a0;
    let x3 := fgt .f64 x2 9218868437227405311;
    .leaf x3)
   (
    let x2 := fgt .f64 a0 9218868437227405311;
    .leaf x2))
def math_IsInf (a0 : Nat) (a1 : Int) : Bool := (math_IsInf_tree a0 a1).val
def math_IsInf_mk (p : Bool) : Ret := ⟨.bool p, []⟩
def math_IsInf_c : Con := fun args => match args with
  | [.flt .f64 a0, .int .i64 a1] => some (.leaf (math_IsInf_mk (math_IsInf a0 a1)))
  | _ => none
set_option maxRecDepth 100000 in
theorem math_IsInf_ok : FunOK Try.prog 66 math_IsInf_c.fn := by
  refine con_ok (Γ := gam [(68, math_Abs_c)]) (gam_cons math_Abs_ok (gam_nil)) tab_ok (by kernel_rfl) Try.func66 (by kernel_rfl) (by kernel_rfl) Try.ntmps66 Try.results66 (loopsOK_none rfl _) 100000 fun args t h => ?_
  unfold math_IsInf_c at h
  split at h
  · rename_i a0 a1
    cases h
    exact ⟨rfl, agree_tot (mk := math_IsInf_mk) (t := math_IsInf_tree a0 a1) (by unfold Agree; kernel_rfl) (by kernel_rfl)⟩
  · cases h

/-- loop.example/g01284/impl.finite -/
def impl_finite_tree (a0 : Nat) : DT (Bool) :=
  let x0 := math_IsNaN a0;
  .ask (!x0)
  (
   let x1 := math_IsInf a0 0;
   .leaf (!x1))
  (
   .leaf false)
def impl_finite (a0 : Nat) : Bool := (impl_finite_tree a0).val
def impl_finite_mk (p : Bool) : Ret := ⟨.bool p, []⟩
def impl_finite_c : Con := fun args => match args with
  | [.flt .f64 a0] => some (.leaf (impl_finite_mk (impl_finite a0)))
  | _ => none
set_option maxRecDepth 100000 in
theorem impl_finite_ok : FunOK Try.prog 57 impl_finite_c.fn := by
  refine con_ok (Γ := gam [(65, math_IsNaN_c), (66, math_IsInf_c)]) (gam_cons math_IsNaN_ok (gam_cons math_IsInf_ok (gam_nil))) tab_ok (by kernel_rfl) Try.func57 (by kernel_rfl) (by kernel_rfl) Try.ntmps57 Try.results57 (loopsOK_none rfl _) 100000 fun args t h => ?_
  unfold impl_finite_c at h
  split at h
  · rename_i a0
    cases h
    exact ⟨rfl, agree_tot (mk := impl_finite_mk) (t := impl_finite_tree a0) (by unfold Agree; kernel_rfl) (by kernel_rfl)⟩
  · cases h

/-- loop.example/g01284/impl.IsFinite -/
def impl_IsFinite_tree (a0 : Nat) : DT (Bool) :=
  .need ((fconvOk .f32 a0 .f64)) (
  let x0 := fconv .f32 a0 .f64;
  let x1 := impl_finite x0;
  .leaf x1)
def impl_IsFinite (a0 : Nat) : Bool := (impl_IsFinite_tree a0).val
def impl_IsFinite_need (a0 : Nat) : Bool := (impl_IsFinite_tree a0).ok
def impl_IsFinite_mk (p : Bool) : Ret := ⟨.bool p, []⟩
def impl_IsFinite_c : Con := fun args => match args with
  | [.flt .f32 a0] => some (.need (impl_IsFinite_need a0) (.leaf (impl_IsFinite_mk (impl_IsFinite a0))))
  | _ => none
set_option maxRecDepth 100000 in
theorem impl_IsFinite_ok : FunOK Try.prog 41 impl_IsFinite_c.fn := by
  refine con_ok (Γ := gam [(57, impl_finite_c)]) (gam_cons impl_finite_ok (gam_nil)) tab_ok (by kernel_rfl) Try.func41 (by kernel_rfl) (by kernel_rfl) Try.ntmps41 Try.results41 (loopsOK_none rfl _) 100000 fun args t h => ?_
  unfold impl_IsFinite_c at h
  split at h
  · rename_i a0
    cases h
    exact ⟨rfl, agree_need (mk := impl_IsFinite_mk) (t := impl_IsFinite_tree a0) (by unfold Agree; kernel_rfl)⟩
  · cases h

/-- loop.example/g01284/impl.aLength -/
def impl_aLength_tree (a0 : Nat) : DT (Bool) :=
  .need ((impl_IsFinite_need a0)) (
  let x0 := impl_IsFinite a0;
  .ask x0
  (
   let x1 := fgt .f32 a0 0;
   .leaf x1)
  (
   .leaf false))
def impl_aLength (a0 : Nat) : Bool := (impl_aLength_tree a0).val
def impl_aLength_need (a0 : Nat) : Bool := (impl_aLength_tree a0).ok
def impl_aLength_mk (p : Bool) : Ret := ⟨.bool p, []⟩
def impl_aLength_c : Con := fun args => match args with
  | [.flt .f32 a0] => some (.need (impl_aLength_need a0) (.leaf (impl_aLength_mk (impl_aLength a0))))
  | _ => none
set_option maxRecDepth 100000 in
theorem impl_aLength_ok : FunOK Try.prog 26 impl_aLength_c.fn := by
  refine con_ok (Γ := gam [(41, impl_IsFinite_c)]) (gam_cons impl_IsFinite_ok (gam_nil)) tab_ok (by kernel_rfl) Try.func26 (by kernel_rfl) (by kernel_rfl) Try.ntmps26 Try.results26 (loopsOK_none rfl _) 100000 fun args t h => ?_
  unfold impl_aLength_c at h
  split at h
  · rename_i a0
    cases h
    exact ⟨rfl, agree_need (mk := impl_aLength_mk) (t := impl_aLength_tree a0) (by unfold Agree; kernel_rfl)⟩
  · cases h

/-- loop.example/g01284/impl.areFinite$1 -/
def impl_areFinite_1_tree (a0 : Nat) : DT (Bool) :=
  .need ((impl_IsFinite_need a0)) (
  let x0 := impl_IsFinite a0;
  .leaf (!x0))
def impl_areFinite_1 (a0 : Nat) : Bool := (impl_areFinite_1_tree a0).val
def impl_areFinite_1_need (a0 : Nat) : Bool := (impl_areFinite_1_tree a0).ok
def impl_areFinite_1_mk (p : Bool) : Ret := ⟨.bool p, []⟩
def impl_areFinite_1_c : Con := fun args => match args with
  | [.flt .f32 a0] => some (.need (impl_areFinite_1_need a0) (.leaf (impl_areFinite_1_mk (impl_areFinite_1 a0))))
  | _ => none
set_option maxRecDepth 100000 in
theorem impl_areFinite_1_ok : FunOK Try.prog 59 impl_areFinite_1_c.fn := by
  refine con_ok (Γ := gam [(41, impl_IsFinite_c)]) (gam_cons impl_IsFinite_ok (gam_nil)) tab_ok (by kernel_rfl) Try.func59 (by kernel_rfl) (by kernel_rfl) Try.ntmps59 Try.results59 (loopsOK_none rfl _) 100000 fun args t h => ?_
  unfold impl_areFinite_1_c at h
  split at h
  · rename_i a0
    cases h
    exact ⟨rfl, agree_need (mk := impl_areFinite_1_mk) (t := impl_areFinite_1_tree a0) (by unfold Agree; kernel_rfl)⟩
  · cases h

/-- a loop of slices_IndexFunc___float32_float32__impl_areFinite_1 -/
def slices_IndexFunc___float32_float32__impl_areFinite_1_loop0_step (p : List Nat × Int) (s : Int) : Round (Int) ((Int) ⊕ (Unit)) :=
  let x0 := decide (s < p.2);
  .ask x0
  (
   .need ((decide (0 ≤ s) && decide (s < ((List.length p.1 : Nat) : Int)))) (
   let x1 := List.getD p.1 (Int.toNat s) default;
   .need ((impl_areFinite_1_need x1)) (
   let x2 := impl_areFinite_1 x1;
   .ask x2
   (
    .leaf (.inr (.inl s), []))
   (
    let x3 := IntKind.wrap .i64 (s + 1);
    .leaf (.inl x3, [])))))
  (
   .leaf (.inr (.inr ()), []))
def slices_IndexFunc___float32_float32__impl_areFinite_1_loop0_L (p : List Nat × Int) : LoopS (Int) ((Int) ⊕ (Unit)) := { tl := fun s => [.vslc 1 (.flt .f32) p.1, .func (.func 59) [] [], .junk, .junk, .junk, .junk, .junk, .int .i64 p.2, .int .i64 s], hl := fun s => [], ex := fun r => match r with | .inl r => .ret | .inr r => .exit 0, otl := fun r => match r with | .inl r => [.junk, .junk, .junk, .junk, .int .i64 r] | .inr r => [.junk], ohl := fun r => match r with | .inl r => [] | .inr r => [] }
def slices_IndexFunc___float32_float32__impl_areFinite_1_loop0_ext : St → Option ((List Nat × Int) × (Int) × List Nat) := fun S => match (S.tm 0).unK, (S.tm 1).unK, (S.tm 7).unK, (S.tm 8).unK with
  | .vslc 1 (.flt .f32) q0, .func (.func 59) [] [], .int .i64 q1, .int .i64 q2 => some ((q0, q1), q2, [])
  | _, _, _, _ => none
def slices_IndexFunc___float32_float32__impl_areFinite_1_loop0_post (p : List Nat × Int) (r : (Int) ⊕ (Unit)) : DT (Ex × St) := .ask (isL r) (.leaf (.ret, LSt [.junk, .junk, .junk, .junk, .int .i64 ((leftD r))] [])) (.leaf (.exit 0, LSt [.junk] []))
def slices_IndexFunc___float32_float32__impl_areFinite_1_loop0 (p : List Nat × Int) (s : Int) : (Int) ⊕ (Unit) := loopVal (slices_IndexFunc___float32_float32__impl_areFinite_1_loop0_step p) s
def slices_IndexFunc___float32_float32__impl_areFinite_1_loop0_ends (p : List Nat × Int) (s : Int) : Bool := loopEnds (slices_IndexFunc___float32_float32__impl_areFinite_1_loop0_step p) s
def slices_IndexFunc___float32_float32__impl_areFinite_1_loop0_F : LoopF := loopF slices_IndexFunc___float32_float32__impl_areFinite_1_loop0_step slices_IndexFunc___float32_float32__impl_areFinite_1_loop0_ext slices_IndexFunc___float32_float32__impl_areFinite_1_loop0_post
set_option maxRecDepth 100000 in
theorem slices_IndexFunc___float32_float32__impl_areFinite_1_loop0_hext : ∀ S p s fl, slices_IndexFunc___float32_float32__impl_areFinite_1_loop0_ext S = some (p, s, fl) → Norm S fl ((slices_IndexFunc___float32_float32__impl_areFinite_1_loop0_L p).tl s) ((slices_IndexFunc___float32_float32__impl_areFinite_1_loop0_L p).hl s) (slices_IndexFunc___float32_float32__impl_areFinite_1_loop0_L p).gl := by
  intro S p s fl h
  unfold slices_IndexFunc___float32_float32__impl_areFinite_1_loop0_ext at h
  (repeat' split at h) <;> first
    | (cases h; constructor <;> simp_all [slices_IndexFunc___float32_float32__impl_areFinite_1_loop0_L, keepT, keepH, rens, renH, PV.ren, Blk.ren, fOf, lget, nodup, natIn, lenEq, gtm, PV.unK])
    | cases h
set_option maxRecDepth 100000 in
theorem slices_IndexFunc___float32_float32__impl_areFinite_1_loop0_hpost : ∀ p r e S', (slices_IndexFunc___float32_float32__impl_areFinite_1_loop0_post p r).get = some (e, S') → e = (slices_IndexFunc___float32_float32__impl_areFinite_1_loop0_L p).ex r ∧ S' = LSt ((slices_IndexFunc___float32_float32__impl_areFinite_1_loop0_L p).otl r) ((slices_IndexFunc___float32_float32__impl_areFinite_1_loop0_L p).ohl r) ((slices_IndexFunc___float32_float32__impl_areFinite_1_loop0_L p).ogl r) := by
  intro p r e S' h
  unfold slices_IndexFunc___float32_float32__impl_areFinite_1_loop0_post at h
  cases r <;> (simp only [isL, DT.get, Option.some.injEq, Prod.mk.injEq] at h; exact ⟨h.1.symm, h.2.symm⟩)

def slices_IndexFunc___float32_float32__impl_areFinite_1_loops : Nat → Option LoopF := loopTab [(2, slices_IndexFunc___float32_float32__impl_areFinite_1_loop0_F)]
set_option maxRecDepth 100000 in
theorem slices_IndexFunc___float32_float32__impl_areFinite_1_l0 : LoopOK Try.prog ⟨gam [(59, impl_areFinite_1_c)], tab, 19, slices_IndexFunc___float32_float32__impl_areFinite_1_loops⟩ (lp Try.f67 0) :=
  loopOK_some (F := slices_IndexFunc___float32_float32__impl_areFinite_1_loop0_F) (by kernel_rfl) (loopF_ok (E := ⟨gam [(59, impl_areFinite_1_c)], tab, 19, slices_IndexFunc___float32_float32__impl_areFinite_1_loops⟩) ⟨gam_cons impl_areFinite_1_ok (gam_nil), tab_ok, by kernel_rfl⟩ (fuel := 100000) (loopsOK_list (l := []) (by kernel_rfl) trivial) (L := slices_IndexFunc___float32_float32__impl_areFinite_1_loop0_L) (fun p s => by unfold AgreeL; exact ⟨by kernel_rfl, by kernel_rfl⟩) (fun _ r h => by cases r <;> exact Ex.noConfusion h) slices_IndexFunc___float32_float32__impl_areFinite_1_loop0_hext slices_IndexFunc___float32_float32__impl_areFinite_1_loop0_hpost)
/-- slices.IndexFunc[[]float32,float32] -/
def slices_IndexFunc___float32_float32__impl_areFinite_1_tree (a0 : List Nat) : DT (Int) :=
  let x0 := ((List.length a0 : Nat) : Int);
  .need ((slices_IndexFunc___float32_float32__impl_areFinite_1_loop0_ends (a0, x0) 0)) (
  let x1 := slices_IndexFunc___float32_float32__impl_areFinite_1_loop0 (a0, x0) 0;
  .ask ((isL x1))
  (
   .leaf ((leftD x1)))
  (
   .leaf (-1)))
def slices_IndexFunc___float32_float32__impl_areFinite_1 (a0 : List Nat) : Int := (slices_IndexFunc___float32_float32__impl_areFinite_1_tree a0).val
def slices_IndexFunc___float32_float32__impl_areFinite_1_need (a0 : List Nat) : Bool := (slices_IndexFunc___float32_float32__impl_areFinite_1_tree a0).ok
def slices_IndexFunc___float32_float32__impl_areFinite_1_mk (p : Int) : Ret := ⟨.int .i64 p, []⟩
def slices_IndexFunc___float32_float32__impl_areFinite_1_c0 : Con := fun args => match args with
  | [.vslc 1 (.flt .f32) a0, .func (.func 59) [] []] => some (.need (slices_IndexFunc___float32_float32__impl_areFinite_1_need a0) (.leaf (slices_IndexFunc___float32_float32__impl_areFinite_1_mk (slices_IndexFunc___float32_float32__impl_areFinite_1 a0))))
  | _ => none
set_option maxRecDepth 100000 in
theorem slices_IndexFunc___float32_float32__impl_areFinite_1_ok0 : FunOK Try.prog 67 slices_IndexFunc___float32_float32__impl_areFinite_1_c0.fn := by
  refine con_ok (Γ := gam [(59, impl_areFinite_1_c)]) (gam_cons impl_areFinite_1_ok (gam_nil)) tab_ok (by kernel_rfl) Try.func67 (by kernel_rfl) (by kernel_rfl) Try.ntmps67 Try.results67 (loops := slices_IndexFunc___float32_float32__impl_areFinite_1_loops) (loopsOK_list (l := [lp Try.f67 0]) (by kernel_rfl) ⟨slices_IndexFunc___float32_float32__impl_areFinite_1_l0, trivial⟩) 100000 fun args t h => ?_
  unfold slices_IndexFunc___float32_float32__impl_areFinite_1_c0 at h
  split at h
  · rename_i a0
    cases h
    exact ⟨rfl, agree_need (mk := slices_IndexFunc___float32_float32__impl_areFinite_1_mk) (t := slices_IndexFunc___float32_float32__impl_areFinite_1_tree a0) (by unfold Agree; kernel_rfl)⟩
  · cases h
def slices_IndexFunc___float32_float32__impl_areFinite_1_c : Con := fun args => slices_IndexFunc___float32_float32__impl_areFinite_1_c0 (norms 0 [.slc (.flt .f32), .none] args)
set_option maxRecDepth 100000 in
theorem slices_IndexFunc___float32_float32__impl_areFinite_1_ok : FunOK Try.prog 67 slices_IndexFunc___float32_float32__impl_areFinite_1_c.fn := con_norm [.slc (.flt .f32), .none] slices_IndexFunc___float32_float32__impl_areFinite_1_ok0

/-- slices.ContainsFunc[[]float32,float32] -/
def slices_ContainsFunc___float32_float32__impl_areFinite_1_tree (a0 : List Nat) : DT (Bool) :=
  .need ((slices_IndexFunc___float32_float32__impl_areFinite_1_need a0 )) (
  let x0 := slices_IndexFunc___float32_float32__impl_areFinite_1 a0 ;
  let x1 := decide (x0 ≥ 0);
  .leaf x1)
def slices_ContainsFunc___float32_float32__impl_areFinite_1 (a0 : List Nat) : Bool := (slices_ContainsFunc___float32_float32__impl_areFinite_1_tree a0).val
def slices_ContainsFunc___float32_float32__impl_areFinite_1_need (a0 : List Nat) : Bool := (slices_ContainsFunc___float32_float32__impl_areFinite_1_tree a0).ok
def slices_ContainsFunc___float32_float32__impl_areFinite_1_mk (p : Bool) : Ret := ⟨.bool p, []⟩
def slices_ContainsFunc___float32_float32__impl_areFinite_1_c0 : Con := fun args => match args with
  | [.vslc 1 (.flt .f32) a0, .func (.func 59) [] []] => some (.need (slices_ContainsFunc___float32_float32__impl_areFinite_1_need a0) (.leaf (slices_ContainsFunc___float32_float32__impl_areFinite_1_mk (slices_ContainsFunc___float32_float32__impl_areFinite_1 a0))))
  | _ => none
set_option maxRecDepth 100000 in
theorem slices_ContainsFunc___float32_float32__impl_areFinite_1_ok0 : FunOK Try.prog 58 slices_ContainsFunc___float32_float32__impl_areFinite_1_c0.fn := by
  refine con_ok (Γ := gam [(67, slices_IndexFunc___float32_float32__impl_areFinite_1_c)]) (gam_cons slices_IndexFunc___float32_float32__impl_areFinite_1_ok (gam_nil)) tab_ok (by kernel_rfl) Try.func58 (by kernel_rfl) (by kernel_rfl) Try.ntmps58 Try.results58 (loopsOK_none rfl _) 100000 fun args t h => ?_
  unfold slices_ContainsFunc___float32_float32__impl_areFinite_1_c0 at h
  split at h
  · rename_i a0
    cases h
    exact ⟨rfl, agree_need (mk := slices_ContainsFunc___float32_float32__impl_areFinite_1_mk) (t := slices_ContainsFunc___float32_float32__impl_areFinite_1_tree a0) (by unfold Agree; kernel_rfl)⟩
  · cases h
def slices_ContainsFunc___float32_float32__impl_areFinite_1_c : Con := fun args => slices_ContainsFunc___float32_float32__impl_areFinite_1_c0 (norms 0 [.slc (.flt .f32), .none] args)
set_option maxRecDepth 100000 in
theorem slices_ContainsFunc___float32_float32__impl_areFinite_1_ok : FunOK Try.prog 58 slices_ContainsFunc___float32_float32__impl_areFinite_1_c.fn := con_norm [.slc (.flt .f32), .none] slices_ContainsFunc___float32_float32__impl_areFinite_1_ok0

/-- loop.example/g01284/impl.areFinite -/
def impl_areFinite_tree (a0 : List Nat) : DT (Bool) :=
  .need ((slices_ContainsFunc___float32_float32__impl_areFinite_1_need a0 )) (
  let x0 := slices_ContainsFunc___float32_float32__impl_areFinite_1 a0 ;
  .leaf (!x0))
def impl_areFinite (a0 : List Nat) : Bool := (impl_areFinite_tree a0).val
def impl_areFinite_need (a0 : List Nat) : Bool := (impl_areFinite_tree a0).ok
def impl_areFinite_mk (p : Bool) : Ret := ⟨.bool p, []⟩
def impl_areFinite_c0 : Con := fun args => match args with
  | [.vslc 1 (.flt .f32) a0] => some (.need (impl_areFinite_need a0) (.leaf (impl_areFinite_mk (impl_areFinite a0))))
  | _ => none
set_option maxRecDepth 100000 in
theorem impl_areFinite_ok0 : FunOK Try.prog 42 impl_areFinite_c0.fn := by
  refine con_ok (Γ := gam [(58, slices_ContainsFunc___float32_float32__impl_areFinite_1_c)]) (gam_cons slices_ContainsFunc___float32_float32__impl_areFinite_1_ok (gam_nil)) tab_ok (by kernel_rfl) Try.func42 (by kernel_rfl) (by kernel_rfl) Try.ntmps42 Try.results42 (loopsOK_none rfl _) 100000 fun args t h => ?_
  unfold impl_areFinite_c0 at h
  split at h
  · rename_i a0
    cases h
    exact ⟨rfl, agree_need (mk := impl_areFinite_mk) (t := impl_areFinite_tree a0) (by unfold Agree; kernel_rfl)⟩
  · cases h
def impl_areFinite_c : Con := fun args => impl_areFinite_c0 (norms 0 [.slc (.flt .f32)] args)
set_option maxRecDepth 100000 in
theorem impl_areFinite_ok : FunOK Try.prog 42 impl_areFinite_c.fn := con_norm [.slc (.flt .f32)] impl_areFinite_ok0

/-- loop.example/g01284/impl.isTurn -/
def impl_isTurn_tree (a0 : Nat) : DT (Bool) :=
  let x0 := fge .f32 a0 0;
  .ask x0
  (
   let x1 := flt .f32 a0 1065353216;
   .leaf x1)
  (
   .leaf false)
def impl_isTurn (a0 : Nat) : Bool := (impl_isTurn_tree a0).val
def impl_isTurn_mk (p : Bool) : Ret := ⟨.bool p, []⟩
def impl_isTurn_c : Con := fun args => match args with
  | [.flt .f32 a0] => some (.leaf (impl_isTurn_mk (impl_isTurn a0)))
  | _ => none
set_option maxRecDepth 100000 in
theorem impl_isTurn_ok : FunOK Try.prog 43 impl_isTurn_c.fn := by
  refine con_ok (Γ := gam []) (gam_nil) tab_ok (by kernel_rfl) Try.func43 (by kernel_rfl) (by kernel_rfl) Try.ntmps43 Try.results43 (loopsOK_none rfl _) 100000 fun args t h => ?_
  unfold impl_isTurn_c at h
  split at h
  · rename_i a0
    cases h
    exact ⟨rfl, agree_tot (mk := impl_isTurn_mk) (t := impl_isTurn_tree a0) (by unfold Agree; kernel_rfl) (by kernel_rfl)⟩
  · cases h

/-- (loop.example/g01284/impl.Orbit).isEllipse -/
def impl_Orbit_isEllipse_tree (a0 : Orbit) : DT (Bool) :=
  let x0 := fgt .f32 a0.Long 0;
  .ask x0
  (
   let x1 := fge .f32 a0.Round 0;
   .ask x1
   (
    let x2 := flt .f32 a0.Round 1065353216;
    .ask x2
    (
     let x3 := impl_isTurn a0.Phase;
     .leaf x3)
    (
     .leaf false))
   (
    .leaf false))
  (
   .leaf false)
def impl_Orbit_isEllipse (a0 : Orbit) : Bool := (impl_Orbit_isEllipse_tree a0).val
def impl_Orbit_isEllipse_mk (p : Bool) : Ret := ⟨.bool p, []⟩
def impl_Orbit_isEllipse_c : Con := fun args => match args with
  | [.agg [.flt .f32 a0_0, .flt .f32 a0_1, .flt .f32 a0_2, .flt .f32 a0_3, .flt .f32 a0_4, .flt .f32 a0_5]] => some (.leaf (impl_Orbit_isEllipse_mk (impl_Orbit_isEllipse (⟨a0_0, a0_1, a0_2, a0_3, a0_4, a0_5⟩ : Orbit))))
  | _ => none
set_option maxRecDepth 100000 in
theorem impl_Orbit_isEllipse_ok : FunOK Try.prog 44 impl_Orbit_isEllipse_c.fn := by
  refine con_ok (Γ := gam [(43, impl_isTurn_c)]) (gam_cons impl_isTurn_ok (gam_nil)) tab_ok (by kernel_rfl) Try.func44 (by kernel_rfl) (by kernel_rfl) Try.ntmps44 Try.results44 (loopsOK_none rfl _) 100000 fun args t h => ?_
  unfold impl_Orbit_isEllipse_c at h
  split at h
  · rename_i a0_0 a0_1 a0_2 a0_3 a0_4 a0_5
    cases h
    exact ⟨rfl, agree_tot (mk := impl_Orbit_isEllipse_mk) (t := impl_Orbit_isEllipse_tree (⟨a0_0, a0_1, a0_2, a0_3, a0_4, a0_5⟩ : Orbit)) (by unfold Agree; kernel_rfl) (by kernel_rfl)⟩
  · cases h

/-- (loop.example/g01284/impl.Orbit).isBranch -/
def impl_Orbit_isBranch_tree (a0 : Orbit) : DT (Bool) :=
  let x0 := flt .f32 a0.Long 0;
  .ask x0
  (
   let x1 := fgt .f32 a0.Round 1065353216;
   .ask x1
   (
    let x2 := fge .f32 a0.Phase 3246391296;
    .ask x2
    (
     let x3 := fle .f32 a0.Phase 1098907648;
     .leaf x3)
    (
     .leaf false))
   (
    .leaf false))
  (
   .leaf false)
def impl_Orbit_isBranch (a0 : Orbit) : Bool := (impl_Orbit_isBranch_tree a0).val
def impl_Orbit_isBranch_mk (p : Bool) : Ret := ⟨.bool p, []⟩
def impl_Orbit_isBranch_c : Con := fun args => match args with
  | [.agg [.flt .f32 a0_0, .flt .f32 a0_1, .flt .f32 a0_2, .flt .f32 a0_3, .flt .f32 a0_4, .flt .f32 a0_5]] => some (.leaf (impl_Orbit_isBranch_mk (impl_Orbit_isBranch (⟨a0_0, a0_1, a0_2, a0_3, a0_4, a0_5⟩ : Orbit))))
  | _ => none
set_option maxRecDepth 100000 in
theorem impl_Orbit_isBranch_ok : FunOK Try.prog 45 impl_Orbit_isBranch_c.fn := by
  refine con_ok (Γ := gam []) (gam_nil) tab_ok (by kernel_rfl) Try.func45 (by kernel_rfl) (by kernel_rfl) Try.ntmps45 Try.results45 (loopsOK_none rfl _) 100000 fun args t h => ?_
  unfold impl_Orbit_isBranch_c at h
  split at h
  · rename_i a0_0 a0_1 a0_2 a0_3 a0_4 a0_5
    cases h
    exact ⟨rfl, agree_tot (mk := impl_Orbit_isBranch_mk) (t := impl_Orbit_isBranch_tree (⟨a0_0, a0_1, a0_2, a0_3, a0_4, a0_5⟩ : Orbit)) (by unfold Agree; kernel_rfl) (by kernel_rfl)⟩
  · cases h

/-- loop.example/g01284/impl.ValidOrbit -/
def impl_ValidOrbit_tree (a0 : Orbit) : DT (Bool) :=
  .need ((impl_areFinite_need ([a0.Long, a0.Round, a0.Tilt, a0.Node, a0.Peri, a0.Phase]))) (
  let x0 := impl_areFinite ([a0.Long, a0.Round, a0.Tilt, a0.Node, a0.Peri, a0.Phase]);
  .ask x0
  (
   let x1 := fge .f32 a0.Tilt 0;
   .ask x1
   (
    let x2 := fle .f32 a0.Tilt 1056964608;
    .ask x2
    (
     let x3 := impl_isTurn a0.Node;
     .ask x3
     (
      let x4 := impl_isTurn a0.Peri;
      .ask x4
      (
       let x5 := impl_Orbit_isEllipse (⟨a0.Long, a0.Round, a0.Tilt, a0.Node, a0.Peri, a0.Phase⟩ : Orbit);
       .ask x5
       (
        .leaf true)
       (
        let x6 := impl_Orbit_isBranch (⟨a0.Long, a0.Round, a0.Tilt, a0.Node, a0.Peri, a0.Phase⟩ : Orbit);
        .leaf x6))
      (
       .leaf false))
     (
      .leaf false))
    (
     .leaf false))
   (
    .leaf false))
  (
   .leaf false))
def impl_ValidOrbit (a0 : Orbit) : Bool := (impl_ValidOrbit_tree a0).val
def impl_ValidOrbit_need (a0 : Orbit) : Bool := (impl_ValidOrbit_tree a0).ok
def impl_ValidOrbit_mk (p : Bool) : Ret := ⟨.bool p, []⟩
def impl_ValidOrbit_c : Con := fun args => match args with
  | [.agg [.flt .f32 a0_0, .flt .f32 a0_1, .flt .f32 a0_2, .flt .f32 a0_3, .flt .f32 a0_4, .flt .f32 a0_5]] => some (.need (impl_ValidOrbit_need (⟨a0_0, a0_1, a0_2, a0_3, a0_4, a0_5⟩ : Orbit)) (.leaf (impl_ValidOrbit_mk (impl_ValidOrbit (⟨a0_0, a0_1, a0_2, a0_3, a0_4, a0_5⟩ : Orbit)))))
  | _ => none
set_option maxRecDepth 100000 in
theorem impl_ValidOrbit_ok : FunOK Try.prog 27 impl_ValidOrbit_c.fn := by
  refine con_ok (Γ := gam [(42, impl_areFinite_c), (43, impl_isTurn_c), (44, impl_Orbit_isEllipse_c), (45, impl_Orbit_isBranch_c)]) (gam_cons impl_areFinite_ok (gam_cons impl_isTurn_ok (gam_cons impl_Orbit_isEllipse_ok (gam_cons impl_Orbit_isBranch_ok (gam_nil))))) tab_ok (by kernel_rfl) Try.func27 (by kernel_rfl) (by kernel_rfl) Try.ntmps27 Try.results27 (loopsOK_none rfl _) 100000 fun args t h => ?_
  unfold impl_ValidOrbit_c at h
  split at h
  · rename_i a0_0 a0_1 a0_2 a0_3 a0_4 a0_5
    cases h
    exact ⟨rfl, agree_need (mk := impl_ValidOrbit_mk) (t := impl_ValidOrbit_tree (⟨a0_0, a0_1, a0_2, a0_3, a0_4, a0_5⟩ : Orbit)) (by unfold Agree; kernel_rfl)⟩
  · cases h

/-- loop.example/g01284/impl.ValidEntry -/
def impl_ValidEntry_tree (a0 : Entry) : DT (Bool) :=
  .need ((impl_IsName_need a0.Name)) (
  let x0 := impl_IsName a0.Name;
  .ask x0
  (
   .need ((impl_aLength_need a0.Mass)) (
   let x1 := impl_aLength a0.Mass;
   .ask x1
   (
    .need ((impl_ValidOrbit_need (⟨a0.Orb.Long, a0.Orb.Round, a0.Orb.Tilt, a0.Orb.Node, a0.Orb.Peri, a0.Orb.Phase⟩ : Orbit))) (
    let x2 := impl_ValidOrbit (⟨a0.Orb.Long, a0.Orb.Round, a0.Orb.Tilt, a0.Orb.Node, a0.Orb.Peri, a0.Orb.Phase⟩ : Orbit);
    .leaf x2))
   (
    .leaf false)))
  (
   .leaf false))
def impl_ValidEntry (a0 : Entry) : Bool := (impl_ValidEntry_tree a0).val
def impl_ValidEntry_need (a0 : Entry) : Bool := (impl_ValidEntry_tree a0).ok
def impl_ValidEntry_mk (p : Bool) : Ret := ⟨.bool p, []⟩
def impl_ValidEntry_c : Con := fun args => match args with
  | [.agg [.str a0_0, .flt .f32 a0_1, .flt .f32 a0_2, .flt .f32 a0_3, .flt .f32 a0_4, .flt .f32 a0_5, .flt .f32 a0_6, .flt .f32 a0_7]] => some (.need (impl_ValidEntry_need (⟨a0_0, a0_1, ⟨a0_2, a0_3, a0_4, a0_5, a0_6, a0_7⟩⟩ : Entry)) (.leaf (impl_ValidEntry_mk (impl_ValidEntry (⟨a0_0, a0_1, ⟨a0_2, a0_3, a0_4, a0_5, a0_6, a0_7⟩⟩ : Entry)))))
  | _ => none
set_option maxRecDepth 100000 in
theorem impl_ValidEntry_ok : FunOK Try.prog 9 impl_ValidEntry_c.fn := by
  refine con_ok (Γ := gam [(25, impl_IsName_c), (26, impl_aLength_c), (27, impl_ValidOrbit_c)]) (gam_cons impl_IsName_ok (gam_cons impl_aLength_ok (gam_cons impl_ValidOrbit_ok (gam_nil)))) tab_ok (by kernel_rfl) Try.func9 (by kernel_rfl) (by kernel_rfl) Try.ntmps9 Try.results9 (loopsOK_none rfl _) 100000 fun args t h => ?_
  unfold impl_ValidEntry_c at h
  split at h
  · rename_i a0_0 a0_1 a0_2 a0_3 a0_4 a0_5 a0_6 a0_7
    cases h
    exact ⟨rfl, agree_need (mk := impl_ValidEntry_mk) (t := impl_ValidEntry_tree (⟨a0_0, a0_1, ⟨a0_2, a0_3, a0_4, a0_5, a0_6, a0_7⟩⟩ : Entry)) (by unfold Agree; kernel_rfl)⟩
  · cases h

/-- a loop of impl_AreEntries -/
def impl_AreEntries_loop0_step (p : List Entry × List Entry × Int) (s : Int) : Round (Int) ((Unit) ⊕ (Unit)) :=
  let x0 := decide (s < p.2.2);
  .ask x0
  (
   .need ((decide (0 ≤ s) && decide (s < ((List.length p.2.1 : Nat) : Int)))) (
   let x1 := List.getD p.2.1 (Int.toNat s) default;
   .need ((impl_ValidEntry_need (⟨x1.Name, x1.Mass, ⟨x1.Orb.Long, x1.Orb.Round, x1.Orb.Tilt, x1.Orb.Node, x1.Orb.Peri, x1.Orb.Phase⟩⟩ : Entry))) (
   let x2 := impl_ValidEntry (⟨x1.Name, x1.Mass, ⟨x1.Orb.Long, x1.Orb.Round, x1.Orb.Tilt, x1.Orb.Node, x1.Orb.Peri, x1.Orb.Phase⟩⟩ : Entry);
   .ask (!x2)
   (
    .leaf (.inr (.inl ()), []))
   (
    let x3 := decide (s > 0);
    .ask x3
    (
     let x4 := IntKind.wrap .i64 (s - 1);
     .need ((decide (0 ≤ x4) && decide (x4 < ((List.length p.1 : Nat) : Int)))) (
     let x5 := List.getD p.1 (Int.toNat x4) default;
     let x6 := (!Op.bytesLess x5.Name x1.Name);
     .ask x6
     (
      .leaf (.inr (.inl ()), []))
     (
      let x7 := IntKind.wrap .i64 (s + 1);
      .leaf (.inl x7, []))))
    (
     let x4 := IntKind.wrap .i64 (s + 1);
     .leaf (.inl x4, []))))))
  (
   .leaf (.inr (.inr ()), []))
def impl_AreEntries_loop0_L (p : List Entry × List Entry × Int) : LoopS (Int) ((Unit) ⊕ (Unit)) := { tl := fun s => [.vslc 1 .entry p.1, .junk, .junk, .junk, .junk, .vslc 1 .entry p.2.1, .int .i64 p.2.2, .int .i64 s], hl := fun s => [], ex := fun r => match r with | .inl r => .ret | .inr r => .exit 0, otl := fun r => match r with | .inl r => [.junk, .junk, .bool false] | .inr r => [.vslc 1 .entry p.1], ohl := fun r => match r with | .inl r => [] | .inr r => [] }
def impl_AreEntries_loop0_ext : St → Option ((List Entry × List Entry × Int) × (Int) × List Nat) := fun S => match (S.tm 0).unK, (S.tm 5).unK, (S.tm 6).unK, (S.tm 7).unK with
  | .vslc 1 .entry q0, .vslc 1 .entry q1, .int .i64 q2, .int .i64 q3 => some ((q0, q1, q2), q3, [])
  | _, _, _, _ => none
def impl_AreEntries_loop0_post (p : List Entry × List Entry × Int) (r : (Unit) ⊕ (Unit)) : DT (Ex × St) := .ask (isL r) (.leaf (.ret, LSt [.junk, .junk, .bool false] [])) (.leaf (.exit 0, LSt [.vslc 1 .entry p.1] []))
def impl_AreEntries_loop0 (p : List Entry × List Entry × Int) (s : Int) : (Unit) ⊕ (Unit) := loopVal (impl_AreEntries_loop0_step p) s
def impl_AreEntries_loop0_ends (p : List Entry × List Entry × Int) (s : Int) : Bool := loopEnds (impl_AreEntries_loop0_step p) s
def impl_AreEntries_loop0_F : LoopF := loopF impl_AreEntries_loop0_step impl_AreEntries_loop0_ext impl_AreEntries_loop0_post
set_option maxRecDepth 100000 in
theorem impl_AreEntries_loop0_hext : ∀ S p s fl, impl_AreEntries_loop0_ext S = some (p, s, fl) → Norm S fl ((impl_AreEntries_loop0_L p).tl s) ((impl_AreEntries_loop0_L p).hl s) (impl_AreEntries_loop0_L p).gl := by
  intro S p s fl h
  unfold impl_AreEntries_loop0_ext at h
  (repeat' split at h) <;> first
    | (cases h; constructor <;> simp_all [impl_AreEntries_loop0_L, keepT, keepH, rens, renH, PV.ren, Blk.ren, fOf, lget, nodup, natIn, lenEq, gtm, PV.unK])
    | cases h
set_option maxRecDepth 100000 in
theorem impl_AreEntries_loop0_hpost : ∀ p r e S', (impl_AreEntries_loop0_post p r).get = some (e, S') → e = (impl_AreEntries_loop0_L p).ex r ∧ S' = LSt ((impl_AreEntries_loop0_L p).otl r) ((impl_AreEntries_loop0_L p).ohl r) ((impl_AreEntries_loop0_L p).ogl r) := by
  intro p r e S' h
  unfold impl_AreEntries_loop0_post at h
  cases r <;> (simp only [isL, DT.get, Option.some.injEq, Prod.mk.injEq] at h; exact ⟨h.1.symm, h.2.symm⟩)

def impl_AreEntries_loops : Nat → Option LoopF := loopTab [(2, impl_AreEntries_loop0_F)]
set_option maxRecDepth 100000 in
theorem impl_AreEntries_l0 : LoopOK Try.prog ⟨gam [(9, impl_ValidEntry_c)], tab, 34, impl_AreEntries_loops⟩ (lp Try.f6 0) :=
  loopOK_some (F := impl_AreEntries_loop0_F) (by kernel_rfl) (loopF_ok (E := ⟨gam [(9, impl_ValidEntry_c)], tab, 34, impl_AreEntries_loops⟩) ⟨gam_cons impl_ValidEntry_ok (gam_nil), tab_ok, by kernel_rfl⟩ (fuel := 100000) (loopsOK_list (l := []) (by kernel_rfl) trivial) (L := impl_AreEntries_loop0_L) (fun p s => by unfold AgreeL; exact ⟨by kernel_rfl, by kernel_rfl⟩) (fun _ r h => by cases r <;> exact Ex.noConfusion h) impl_AreEntries_loop0_hext impl_AreEntries_loop0_hpost)
/-- loop.example/g01284/impl.AreEntries -/
def impl_AreEntries_tree (a0 : List Entry) : DT (Bool) :=
  let x0 := ((List.length a0 : Nat) : Int);
  .need ((impl_AreEntries_loop0_ends (a0, a0, x0) 0)) (
  let x1 := impl_AreEntries_loop0 (a0, a0, x0) 0;
  .ask ((isL x1))
  (
   .leaf false)
  (
   let x2 := ((List.length a0 : Nat) : Int);
   let x3 := decide (x2 ≤ 16);
   .leaf x3))
def impl_AreEntries (a0 : List Entry) : Bool := (impl_AreEntries_tree a0).val
def impl_AreEntries_need (a0 : List Entry) : Bool := (impl_AreEntries_tree a0).ok
def impl_AreEntries_mk (p : Bool) : Ret := ⟨.bool p, []⟩
def impl_AreEntries_c0 : Con := fun args => match args with
  | [.vslc 1 .entry a0] => some (.need (impl_AreEntries_need a0) (.leaf (impl_AreEntries_mk (impl_AreEntries a0))))
  | _ => none
set_option maxRecDepth 100000 in
theorem impl_AreEntries_ok0 : FunOK Try.prog 6 impl_AreEntries_c0.fn := by
  refine con_ok (Γ := gam [(9, impl_ValidEntry_c)]) (gam_cons impl_ValidEntry_ok (gam_nil)) tab_ok (by kernel_rfl) Try.func6 (by kernel_rfl) (by kernel_rfl) Try.ntmps6 Try.results6 (loops := impl_AreEntries_loops) (loopsOK_list (l := [lp Try.f6 0]) (by kernel_rfl) ⟨impl_AreEntries_l0, trivial⟩) 100000 fun args t h => ?_
  unfold impl_AreEntries_c0 at h
  split at h
  · rename_i a0
    cases h
    exact ⟨rfl, agree_need (mk := impl_AreEntries_mk) (t := impl_AreEntries_tree a0) (by unfold Agree; kernel_rfl)⟩
  · cases h
def impl_AreEntries_c : Con := fun args => impl_AreEntries_c0 (norms 0 [.slc .entry] args)
set_option maxRecDepth 100000 in
theorem impl_AreEntries_ok : FunOK Try.prog 6 impl_AreEntries_c.fn := con_norm [.slc .entry] impl_AreEntries_ok0

/-- a loop of spec_l01Dec -/
def spec_l01Dec_loop0_step (p : Int) (s : Int × List Int) : Round (Int × List Int) (List Int) :=
  let x0 := ((List.length s.2 : Nat) : Int);
  let x1 := (x0 == 0);
  .ask x1
  (
   .skip (
   let x2 := Int.tmod s.1 10;
   let x3 := decide (x2 < 0);
   .ask x3
   (
    let x4 := IntKind.wrap .i64 (0 - x2);
    let x5 := IntKind.wrap .i64 (48 + x4);
    let x6 := IntKind.wrap .u8 x5;
    .need ((decide ((List.length [x6] + List.length s.2) * 1 ≤ 140737488355328) && decide (List.length [x6] + List.length s.2 ≤ 9223372036854775807))) (
    let x7 := [x6] ++ s.2;
    .skip (
    let x8 := IntKind.wrap .i64 (Int.tdiv s.1 10);
    .leaf (.inl (x8, x7), [161]))))
   (
    let x4 := IntKind.wrap .i64 (48 + x2);
    let x5 := IntKind.wrap .u8 x4;
    .need ((decide ((List.length [x5] + List.length s.2) * 1 ≤ 140737488355328) && decide (List.length [x5] + List.length s.2 ≤ 9223372036854775807))) (
    let x6 := [x5] ++ s.2;
    .skip (
    let x7 := IntKind.wrap .i64 (Int.tdiv s.1 10);
    .leaf (.inl (x7, x6), [137]))))))
  (
   let x2 := (s.1 != 0);
   .ask x2
   (
    .skip (
    let x3 := Int.tmod s.1 10;
    let x4 := decide (x3 < 0);
    .ask x4
    (
     let x5 := IntKind.wrap .i64 (0 - x3);
     let x6 := IntKind.wrap .i64 (48 + x5);
     let x7 := IntKind.wrap .u8 x6;
     .need ((decide ((List.length [x7] + List.length s.2) * 1 ≤ 140737488355328) && decide (List.length [x7] + List.length s.2 ≤ 9223372036854775807))) (
     let x8 := [x7] ++ s.2;
     .skip (
     let x9 := IntKind.wrap .i64 (Int.tdiv s.1 10);
     .leaf (.inl (x9, x8), [161]))))
    (
     let x5 := IntKind.wrap .i64 (48 + x3);
     let x6 := IntKind.wrap .u8 x5;
     .need ((decide ((List.length [x6] + List.length s.2) * 1 ≤ 140737488355328) && decide (List.length [x6] + List.length s.2 ≤ 9223372036854775807))) (
     let x7 := [x6] ++ s.2;
     .skip (
     let x8 := IntKind.wrap .i64 (Int.tdiv s.1 10);
     .leaf (.inl (x8, x7), [137]))))))
   (
    .leaf (.inr s.2, [0])))
def spec_l01Dec_loop0_L (p : Int) : LoopS (Int × List Int) (List Int) := { tl := fun s => [.int .i64 p, .junk, .junk, .own 0, .int .i64 s.1], hl := fun s => [some (.typed 5 (.int .u8) s.2)], ex := fun r => .exit 0, otl := fun r => [.int .i64 p, .junk, .junk, .own 0], ohl := fun r => [some (.typed 5 (.int .u8) r)] }
def spec_l01Dec_loop0_ext : St → Option ((Int) × (Int × List Int) × List Nat) := fun S => match (S.tm 0).unK, (S.tm 3).unK, (S.tm 4).unK with
  | .int .i64 q0, .own i0, .int .i64 q1 => (match S.hp i0 with
    | some (.typed 5 (.int .u8) q2) => some (q0, (q1, q2), [i0])
    | _ => none)
  | _, _, _ => none
def spec_l01Dec_loop0_post (p : Int) (r : List Int) : DT (Ex × St) := .leaf (.exit 0, LSt [.int .i64 p, .junk, .junk, .own 0] [some (.typed 5 (.int .u8) r)])
def spec_l01Dec_loop0 (p : Int) (s : Int × List Int) : List Int := loopVal (spec_l01Dec_loop0_step p) s
def spec_l01Dec_loop0_ends (p : Int) (s : Int × List Int) : Bool := loopEnds (spec_l01Dec_loop0_step p) s
def spec_l01Dec_loop0_F : LoopF := loopF spec_l01Dec_loop0_step spec_l01Dec_loop0_ext spec_l01Dec_loop0_post
set_option maxRecDepth 100000 in
theorem spec_l01Dec_loop0_hext : ∀ S p s fl, spec_l01Dec_loop0_ext S = some (p, s, fl) → Norm S fl ((spec_l01Dec_loop0_L p).tl s) ((spec_l01Dec_loop0_L p).hl s) (spec_l01Dec_loop0_L p).gl := by
  intro S p s fl h
  unfold spec_l01Dec_loop0_ext at h
  (repeat' split at h) <;> first
    | (cases h; constructor <;> simp_all [spec_l01Dec_loop0_L, keepT, keepH, rens, renH, PV.ren, Blk.ren, fOf, lget, nodup, natIn, lenEq, gtm, PV.unK])
    | cases h
set_option maxRecDepth 100000 in
theorem spec_l01Dec_loop0_hpost : ∀ p r e S', (spec_l01Dec_loop0_post p r).get = some (e, S') → e = (spec_l01Dec_loop0_L p).ex r ∧ S' = LSt ((spec_l01Dec_loop0_L p).otl r) ((spec_l01Dec_loop0_L p).ohl r) ((spec_l01Dec_loop0_L p).ogl r) := by
  intro p r e S' h
  unfold spec_l01Dec_loop0_post at h
  simp only [DT.get, Option.some.injEq, Prod.mk.injEq] at h; exact ⟨h.1.symm, h.2.symm⟩

def spec_l01Dec_loops : Nat → Option LoopF := loopTab [(3, spec_l01Dec_loop0_F)]
set_option maxRecDepth 100000 in
theorem spec_l01Dec_l0 : LoopOK Try.prog ⟨gam [], tab, 36, spec_l01Dec_loops⟩ (lp Try.f24 0) :=
  loopOK_some (F := spec_l01Dec_loop0_F) (by kernel_rfl) (loopF_ok (E := ⟨gam [], tab, 36, spec_l01Dec_loops⟩) ⟨gam_nil, tab_ok, by kernel_rfl⟩ (fuel := 100000) (loopsOK_list (l := []) (by kernel_rfl) trivial) (L := spec_l01Dec_loop0_L) (fun p s => by unfold AgreeL; exact ⟨by kernel_rfl, by kernel_rfl⟩) (fun _ _ h => Ex.noConfusion h) spec_l01Dec_loop0_hext spec_l01Dec_loop0_hpost)
/-- loop.example/g01284/spec.l01Dec -/
def spec_l01Dec_tree (a0 : Int) : DT ((List UInt8)) :=
  .need ((spec_l01Dec_loop0_ends a0 (a0, []))) (
  let x0 := spec_l01Dec_loop0 a0 (a0, []);
  let x1 := decide (a0 < 0);
  .ask x1
  (
   .need ((decide ((List.length [45] + List.length x0) * 1 ≤ 140737488355328) && decide (List.length [45] + List.length x0 ≤ 9223372036854775807))) (
   let x2 := [45] ++ x0;
   let x3 := strOf x2;
   .leaf x3))
  (
   let x2 := strOf x0;
   .leaf x2))
def spec_l01Dec (a0 : Int) : (List UInt8) := (spec_l01Dec_tree a0).val
def spec_l01Dec_need (a0 : Int) : Bool := (spec_l01Dec_tree a0).ok
def spec_l01Dec_mk (p : (List UInt8)) : Ret := ⟨.str p, []⟩
def spec_l01Dec_c : Con := fun args => match args with
  | [.int .i64 a0] => some (.need (spec_l01Dec_need a0) (.leaf (spec_l01Dec_mk (spec_l01Dec a0))))
  | _ => none
set_option maxRecDepth 100000 in
theorem spec_l01Dec_ok : FunOK Try.prog 24 spec_l01Dec_c.fn := by
  refine con_ok (Γ := gam []) (gam_nil) tab_ok (by kernel_rfl) Try.func24 (by kernel_rfl) (by kernel_rfl) Try.ntmps24 Try.results24 (loops := spec_l01Dec_loops) (loopsOK_list (l := [lp Try.f24 0]) (by kernel_rfl) ⟨spec_l01Dec_l0, trivial⟩) 100000 fun args t h => ?_
  unfold spec_l01Dec_c at h
  split at h
  · rename_i a0
    cases h
    exact ⟨rfl, agree_need (mk := spec_l01Dec_mk) (t := spec_l01Dec_tree a0) (by unfold Agree; kernel_rfl)⟩
  · cases h

/-- loop.example/g01284/spec.Decimal -/
def spec_Decimal_tree (a0 : Int) : DT ((List UInt8)) :=
  .need ((spec_l01Dec_need a0)) (
  let x0 := spec_l01Dec a0;
  .leaf x0)
def spec_Decimal (a0 : Int) : (List UInt8) := (spec_Decimal_tree a0).val
def spec_Decimal_need (a0 : Int) : Bool := (spec_Decimal_tree a0).ok
def spec_Decimal_mk (p : (List UInt8)) : Ret := ⟨.str p, []⟩
def spec_Decimal_c : Con := fun args => match args with
  | [.int .i64 a0] => some (.need (spec_Decimal_need a0) (.leaf (spec_Decimal_mk (spec_Decimal a0))))
  | _ => none
set_option maxRecDepth 100000 in
theorem spec_Decimal_ok : FunOK Try.prog 7 spec_Decimal_c.fn := by
  refine con_ok (Γ := gam [(24, spec_l01Dec_c)]) (gam_cons spec_l01Dec_ok (gam_nil)) tab_ok (by kernel_rfl) Try.func7 (by kernel_rfl) (by kernel_rfl) Try.ntmps7 Try.results7 (loopsOK_none rfl _) 100000 fun args t h => ?_
  unfold spec_Decimal_c at h
  split at h
  · rename_i a0
    cases h
    exact ⟨rfl, agree_need (mk := spec_Decimal_mk) (t := spec_Decimal_tree a0) (by unfold Agree; kernel_rfl)⟩
  · cases h

/-- loop.example/g01284/spec.B10Orbit -/
def spec_B10Orbit_tree (a0 : List Int) : DT (Orbit) :=
  .need ((spec_l03DrawOk_need a0 0 0)) (
  let x0 := spec_l03DrawOk a0 0 0;
  .leaf ((⟨x0.1.Long, x0.1.Round, x0.1.Tilt, x0.1.Node, x0.1.Peri, x0.1.Phase⟩ : Orbit)))
def spec_B10Orbit (a0 : List Int) : Orbit := (spec_B10Orbit_tree a0).val
def spec_B10Orbit_need (a0 : List Int) : Bool := (spec_B10Orbit_tree a0).ok
def spec_B10Orbit_mk (p : Orbit) : Ret := ⟨.agg [.flt .f32 p.Long, .flt .f32 p.Round, .flt .f32 p.Tilt, .flt .f32 p.Node, .flt .f32 p.Peri, .flt .f32 p.Phase], []⟩
def spec_B10Orbit_c0 : Con := fun args => match args with
  | [.vslc 1 (.int .u8) a0] => some (.need (spec_B10Orbit_need a0) (.leaf (spec_B10Orbit_mk (spec_B10Orbit a0))))
  | _ => none
set_option maxRecDepth 100000 in
theorem spec_B10Orbit_ok0 : FunOK Try.prog 8 spec_B10Orbit_c0.fn := by
  refine con_ok (Γ := gam [] [] [(22, spec_l03DrawOk_M)] [(19, spec_l00From_M)]) (gam_box spec_l03DrawOk_ok (gam_new spec_l00From_ok (gam_nil))) tab_ok (by kernel_rfl) Try.func8 (by kernel_rfl) (by kernel_rfl) Try.ntmps8 Try.results8 (loopsOK_none rfl _) 100000 fun args t h => ?_
  unfold spec_B10Orbit_c0 at h
  split at h
  · rename_i a0
    cases h
    exact ⟨rfl, agree_need (mk := spec_B10Orbit_mk) (t := spec_B10Orbit_tree a0) (by unfold Agree; kernel_rfl)⟩
  · cases h
def spec_B10Orbit_c : Con := fun args => spec_B10Orbit_c0 (norms 0 [.slc (.int .u8)] args)
set_option maxRecDepth 100000 in
theorem spec_B10Orbit_ok : FunOK Try.prog 8 spec_B10Orbit_c.fn := con_norm [.slc (.int .u8)] spec_B10Orbit_ok0

/-- a loop of impl_PutEntry -/
def impl_PutEntry_loop0_step (p : List Entry × List Entry × Int × (List UInt8) × Nat × Nat × Nat × Nat × Nat × Nat × Nat) (s : Int × List Entry) : Round (Int × List Entry) (List Entry) :=
  let x0 := decide (s.1 < p.2.2.1);
  .ask x0
  (
   .need ((decide (0 ≤ s.1) && decide (s.1 < ((List.length p.2.1 : Nat) : Int)))) (
   let x1 := List.getD p.2.1 (Int.toNat s.1) default;
   let x2 := Op.bytesLess x1.Name p.2.2.2.1;
   .ask x2
   (
    .need ((decide ((List.length s.2 + List.length [(⟨x1.Name, x1.Mass, ⟨x1.Orb.Long, x1.Orb.Round, x1.Orb.Tilt, x1.Orb.Node, x1.Orb.Peri, x1.Orb.Phase⟩⟩ : Entry)]) * 48 ≤ 140737488355328) && decide (List.length s.2 + List.length [(⟨x1.Name, x1.Mass, ⟨x1.Orb.Long, x1.Orb.Round, x1.Orb.Tilt, x1.Orb.Node, x1.Orb.Peri, x1.Orb.Phase⟩⟩ : Entry)] ≤ 9223372036854775807))) (
    let x3 := s.2 ++ [(⟨x1.Name, x1.Mass, ⟨x1.Orb.Long, x1.Orb.Round, x1.Orb.Tilt, x1.Orb.Node, x1.Orb.Peri, x1.Orb.Phase⟩⟩ : Entry)];
    let x4 := IntKind.wrap .i64 (s.1 + 1);
    .leaf (.inl (x4, x3), [0, 106])))
   (
    let x3 := IntKind.wrap .i64 (s.1 + 1);
    .leaf (.inl (x3, s.2), [0, 1]))))
  (
   .leaf (.inr s.2, [0, 1]))
def impl_PutEntry_loop0_L (p : List Entry × List Entry × Int × (List UInt8) × Nat × Nat × Nat × Nat × Nat × Nat × Nat) : LoopS (Int × List Entry) (List Entry) := { tl := fun s => [.vslc 1 .entry p.1, .junk, .junk, .ptr 0 0, .junk, .junk, .own 1, .junk, .junk, .junk, .junk, .junk, .junk, .junk, .junk, .junk, .junk, .junk, .junk, .junk, .vslc 1 .entry p.2.1, .int .i64 p.2.2.1, .int .i64 s.1], hl := fun s => [some (.cells [.str p.2.2.2.1, .flt .f32 p.2.2.2.2.1, .flt .f32 p.2.2.2.2.2.1, .flt .f32 p.2.2.2.2.2.2.1, .flt .f32 p.2.2.2.2.2.2.2.1, .flt .f32 p.2.2.2.2.2.2.2.2.1, .flt .f32 p.2.2.2.2.2.2.2.2.2.1, .flt .f32 p.2.2.2.2.2.2.2.2.2.2]), some (.typed 33 .entry s.2)], ex := fun r => .exit 0, otl := fun r => [.vslc 1 .entry p.1, .junk, .junk, .ptr 0 0, .junk, .junk, .own 1], ohl := fun r => [some (.cells [.str p.2.2.2.1, .flt .f32 p.2.2.2.2.1, .flt .f32 p.2.2.2.2.2.1, .flt .f32 p.2.2.2.2.2.2.1, .flt .f32 p.2.2.2.2.2.2.2.1, .flt .f32 p.2.2.2.2.2.2.2.2.1, .flt .f32 p.2.2.2.2.2.2.2.2.2.1, .flt .f32 p.2.2.2.2.2.2.2.2.2.2]), some (.typed 33 .entry r)] }
def impl_PutEntry_loop0_ext : St → Option ((List Entry × List Entry × Int × (List UInt8) × Nat × Nat × Nat × Nat × Nat × Nat × Nat) × (Int × List Entry) × List Nat) := fun S => match (S.tm 0).unK, (S.tm 3).unK, (S.tm 6).unK, (S.tm 20).unK, (S.tm 21).unK, (S.tm 22).unK with
  | .vslc 1 .entry q0, .ptr i0 0, .own i1, .vslc 1 .entry q1, .int .i64 q2, .int .i64 q3 => (match S.hp i0 with
    | some (.cells [.str q4, .flt .f32 q5, .flt .f32 q6, .flt .f32 q7, .flt .f32 q8, .flt .f32 q9, .flt .f32 q10, .flt .f32 q11]) => (match S.hp i1 with
    | some (.typed 33 .entry q12) => (if nodup [i0, i1] = true then some ((q0, q1, q2, q4, q5, q6, q7, q8, q9, q10, q11), (q3, q12), [i0, i1]) else none)
    | _ => none)
    | _ => none)
  | _, _, _, _, _, _ => none
def impl_PutEntry_loop0_post (p : List Entry × List Entry × Int × (List UInt8) × Nat × Nat × Nat × Nat × Nat × Nat × Nat) (r : List Entry) : DT (Ex × St) := .leaf (.exit 0, LSt [.vslc 1 .entry p.1, .junk, .junk, .ptr 0 0, .junk, .junk, .own 1] [some (.cells [.str p.2.2.2.1, .flt .f32 p.2.2.2.2.1, .flt .f32 p.2.2.2.2.2.1, .flt .f32 p.2.2.2.2.2.2.1, .flt .f32 p.2.2.2.2.2.2.2.1, .flt .f32 p.2.2.2.2.2.2.2.2.1, .flt .f32 p.2.2.2.2.2.2.2.2.2.1, .flt .f32 p.2.2.2.2.2.2.2.2.2.2]), some (.typed 33 .entry r)])
def impl_PutEntry_loop0 (p : List Entry × List Entry × Int × (List UInt8) × Nat × Nat × Nat × Nat × Nat × Nat × Nat) (s : Int × List Entry) : List Entry := loopVal (impl_PutEntry_loop0_step p) s
def impl_PutEntry_loop0_ends (p : List Entry × List Entry × Int × (List UInt8) × Nat × Nat × Nat × Nat × Nat × Nat × Nat) (s : Int × List Entry) : Bool := loopEnds (impl_PutEntry_loop0_step p) s
def impl_PutEntry_loop0_F : LoopF := loopF impl_PutEntry_loop0_step impl_PutEntry_loop0_ext impl_PutEntry_loop0_post
set_option maxRecDepth 100000 in
theorem impl_PutEntry_loop0_hext : ∀ S p s fl, impl_PutEntry_loop0_ext S = some (p, s, fl) → Norm S fl ((impl_PutEntry_loop0_L p).tl s) ((impl_PutEntry_loop0_L p).hl s) (impl_PutEntry_loop0_L p).gl := by
  intro S p s fl h
  unfold impl_PutEntry_loop0_ext at h
  (repeat' split at h) <;> first
    | (cases h; constructor <;> simp_all [impl_PutEntry_loop0_L, keepT, keepH, rens, renH, PV.ren, Blk.ren, fOf, lget, nodup, natIn, lenEq, gtm, PV.unK])
    | cases h
set_option maxRecDepth 100000 in
theorem impl_PutEntry_loop0_hpost : ∀ p r e S', (impl_PutEntry_loop0_post p r).get = some (e, S') → e = (impl_PutEntry_loop0_L p).ex r ∧ S' = LSt ((impl_PutEntry_loop0_L p).otl r) ((impl_PutEntry_loop0_L p).ohl r) ((impl_PutEntry_loop0_L p).ogl r) := by
  intro p r e S' h
  unfold impl_PutEntry_loop0_post at h
  simp only [DT.get, Option.some.injEq, Prod.mk.injEq] at h; exact ⟨h.1.symm, h.2.symm⟩

/-- a loop of impl_PutEntry -/
def impl_PutEntry_loop1_step (p : List Entry × Int × (List UInt8) × Nat × Nat × Nat × Nat × Nat × Nat × Nat) (s : Int × List Entry) : Round (Int × List Entry) (List Entry) :=
  let x0 := decide (s.1 < p.2.1);
  .ask x0
  (
   .need ((decide (0 ≤ s.1) && decide (s.1 < ((List.length p.1 : Nat) : Int)))) (
   let x1 := List.getD p.1 (Int.toNat s.1) default;
   let x2 := (!(Op.bytesLess x1.Name p.2.2.1 || x1.Name == p.2.2.1));
   .ask x2
   (
    .need ((decide ((List.length s.2 + List.length [(⟨x1.Name, x1.Mass, ⟨x1.Orb.Long, x1.Orb.Round, x1.Orb.Tilt, x1.Orb.Node, x1.Orb.Peri, x1.Orb.Phase⟩⟩ : Entry)]) * 48 ≤ 140737488355328) && decide (List.length s.2 + List.length [(⟨x1.Name, x1.Mass, ⟨x1.Orb.Long, x1.Orb.Round, x1.Orb.Tilt, x1.Orb.Node, x1.Orb.Peri, x1.Orb.Phase⟩⟩ : Entry)] ≤ 9223372036854775807))) (
    let x3 := s.2 ++ [(⟨x1.Name, x1.Mass, ⟨x1.Orb.Long, x1.Orb.Round, x1.Orb.Tilt, x1.Orb.Node, x1.Orb.Peri, x1.Orb.Phase⟩⟩ : Entry)];
    let x4 := IntKind.wrap .i64 (s.1 + 1);
    .leaf (.inl (x4, x3), [0, 106])))
   (
    let x3 := IntKind.wrap .i64 (s.1 + 1);
    .leaf (.inl (x3, s.2), [0, 1]))))
  (
   .leaf (.inr s.2, [1]))
def impl_PutEntry_loop1_L (p : List Entry × Int × (List UInt8) × Nat × Nat × Nat × Nat × Nat × Nat × Nat) : LoopS (Int × List Entry) (List Entry) := { tl := fun s => [.junk, .junk, .junk, .ptr 0 0, .junk, .junk, .own 1, .junk, .junk, .junk, .junk, .junk, .junk, .junk, .junk, .junk, .junk, .junk, .junk, .junk, .junk, .junk, .junk, .junk, .junk, .junk, .junk, .junk, .junk, .junk, .junk, .junk, .junk, .junk, .junk, .junk, .junk, .junk, .junk, .junk, .vslc 1 .entry p.1, .int .i64 p.2.1, .int .i64 s.1], hl := fun s => [some (.cells [.str p.2.2.1, .flt .f32 p.2.2.2.1, .flt .f32 p.2.2.2.2.1, .flt .f32 p.2.2.2.2.2.1, .flt .f32 p.2.2.2.2.2.2.1, .flt .f32 p.2.2.2.2.2.2.2.1, .flt .f32 p.2.2.2.2.2.2.2.2.1, .flt .f32 p.2.2.2.2.2.2.2.2.2]), some (.typed 33 .entry s.2)], ex := fun r => .exit 2, otl := fun r => [.junk, .junk, .junk, .junk, .junk, .junk, .own 0], ohl := fun r => [some (.typed 33 .entry r)] }
def impl_PutEntry_loop1_ext : St → Option ((List Entry × Int × (List UInt8) × Nat × Nat × Nat × Nat × Nat × Nat × Nat) × (Int × List Entry) × List Nat) := fun S => match (S.tm 3).unK, (S.tm 6).unK, (S.tm 40).unK, (S.tm 41).unK, (S.tm 42).unK with
  | .ptr i0 0, .own i1, .vslc 1 .entry q0, .int .i64 q1, .int .i64 q2 => (match S.hp i0 with
    | some (.cells [.str q3, .flt .f32 q4, .flt .f32 q5, .flt .f32 q6, .flt .f32 q7, .flt .f32 q8, .flt .f32 q9, .flt .f32 q10]) => (match S.hp i1 with
    | some (.typed 33 .entry q11) => (if nodup [i0, i1] = true then some ((q0, q1, q3, q4, q5, q6, q7, q8, q9, q10), (q2, q11), [i0, i1]) else none)
    | _ => none)
    | _ => none)
  | _, _, _, _, _ => none
def impl_PutEntry_loop1_post (p : List Entry × Int × (List UInt8) × Nat × Nat × Nat × Nat × Nat × Nat × Nat) (r : List Entry) : DT (Ex × St) := .leaf (.exit 2, LSt [.junk, .junk, .junk, .junk, .junk, .junk, .own 0] [some (.typed 33 .entry r)])
def impl_PutEntry_loop1 (p : List Entry × Int × (List UInt8) × Nat × Nat × Nat × Nat × Nat × Nat × Nat) (s : Int × List Entry) : List Entry := loopVal (impl_PutEntry_loop1_step p) s
def impl_PutEntry_loop1_ends (p : List Entry × Int × (List UInt8) × Nat × Nat × Nat × Nat × Nat × Nat × Nat) (s : Int × List Entry) : Bool := loopEnds (impl_PutEntry_loop1_step p) s
def impl_PutEntry_loop1_F : LoopF := loopF impl_PutEntry_loop1_step impl_PutEntry_loop1_ext impl_PutEntry_loop1_post
set_option maxRecDepth 100000 in
theorem impl_PutEntry_loop1_hext : ∀ S p s fl, impl_PutEntry_loop1_ext S = some (p, s, fl) → Norm S fl ((impl_PutEntry_loop1_L p).tl s) ((impl_PutEntry_loop1_L p).hl s) (impl_PutEntry_loop1_L p).gl := by
  intro S p s fl h
  unfold impl_PutEntry_loop1_ext at h
  (repeat' split at h) <;> first
    | (cases h; constructor <;> simp_all [impl_PutEntry_loop1_L, keepT, keepH, rens, renH, PV.ren, Blk.ren, fOf, lget, nodup, natIn, lenEq, gtm, PV.unK])
    | cases h
set_option maxRecDepth 100000 in
theorem impl_PutEntry_loop1_hpost : ∀ p r e S', (impl_PutEntry_loop1_post p r).get = some (e, S') → e = (impl_PutEntry_loop1_L p).ex r ∧ S' = LSt ((impl_PutEntry_loop1_L p).otl r) ((impl_PutEntry_loop1_L p).ohl r) ((impl_PutEntry_loop1_L p).ogl r) := by
  intro p r e S' h
  unfold impl_PutEntry_loop1_post at h
  simp only [DT.get, Option.some.injEq, Prod.mk.injEq] at h; exact ⟨h.1.symm, h.2.symm⟩

def impl_PutEntry_loops : Nat → Option LoopF := loopTab [(5, impl_PutEntry_loop0_F), (12, impl_PutEntry_loop1_F)]
set_option maxRecDepth 100000 in
theorem impl_PutEntry_l1 : LoopOK Try.prog ⟨gam [(6, impl_AreEntries_c), (9, impl_ValidEntry_c)], tab, 60, impl_PutEntry_loops⟩ (lp Try.f10 1) :=
  loopOK_some (F := impl_PutEntry_loop1_F) (by kernel_rfl) (loopF_ok (E := ⟨gam [(6, impl_AreEntries_c), (9, impl_ValidEntry_c)], tab, 60, impl_PutEntry_loops⟩) ⟨gam_cons impl_AreEntries_ok (gam_cons impl_ValidEntry_ok (gam_nil)), tab_ok, by kernel_rfl⟩ (fuel := 100000) (loopsOK_list (l := []) (by kernel_rfl) trivial) (L := impl_PutEntry_loop1_L) (fun p s => by unfold AgreeL; exact ⟨by kernel_rfl, by kernel_rfl⟩) (fun _ _ h => Ex.noConfusion h) impl_PutEntry_loop1_hext impl_PutEntry_loop1_hpost)
set_option maxRecDepth 100000 in
theorem impl_PutEntry_l0 : LoopOK Try.prog ⟨gam [(6, impl_AreEntries_c), (9, impl_ValidEntry_c)], tab, 60, impl_PutEntry_loops⟩ (lp Try.f10 0) :=
  loopOK_some (F := impl_PutEntry_loop0_F) (by kernel_rfl) (loopF_ok (E := ⟨gam [(6, impl_AreEntries_c), (9, impl_ValidEntry_c)], tab, 60, impl_PutEntry_loops⟩) ⟨gam_cons impl_AreEntries_ok (gam_cons impl_ValidEntry_ok (gam_nil)), tab_ok, by kernel_rfl⟩ (fuel := 100000) (loopsOK_list (l := []) (by kernel_rfl) trivial) (L := impl_PutEntry_loop0_L) (fun p s => by unfold AgreeL; exact ⟨by kernel_rfl, by kernel_rfl⟩) (fun _ _ h => Ex.noConfusion h) impl_PutEntry_loop0_hext impl_PutEntry_loop0_hpost)
/-- loop.example/g01284/impl.PutEntry -/
def impl_PutEntry_tree (a0 : List Entry) (a1 : Entry) : DT ((Unit) ⊕ (List Entry)) :=
  .need ((impl_AreEntries_need a0)) (
  let x0 := impl_AreEntries a0;
  .ask (!x0)
  (
   .leaf (.inl ()))
  (
   .need ((impl_ValidEntry_need (⟨a1.Name, a1.Mass, ⟨a1.Orb.Long, a1.Orb.Round, a1.Orb.Tilt, a1.Orb.Node, a1.Orb.Peri, a1.Orb.Phase⟩⟩ : Entry))) (
   let x1 := impl_ValidEntry (⟨a1.Name, a1.Mass, ⟨a1.Orb.Long, a1.Orb.Round, a1.Orb.Tilt, a1.Orb.Node, a1.Orb.Peri, a1.Orb.Phase⟩⟩ : Entry);
   .ask (!x1)
   (
    .leaf (.inl ()))
   (
    let x2 := ((List.length a0 : Nat) : Int);
    .need ((impl_PutEntry_loop0_ends (a0, a0, x2, a1.Name, a1.Mass, a1.Orb.Long, a1.Orb.Round, a1.Orb.Tilt, a1.Orb.Node, a1.Orb.Peri, a1.Orb.Phase) (0, []))) (
    let x3 := impl_PutEntry_loop0 (a0, a0, x2, a1.Name, a1.Mass, a1.Orb.Long, a1.Orb.Round, a1.Orb.Tilt, a1.Orb.Node, a1.Orb.Peri, a1.Orb.Phase) (0, []);
    .need ((decide ((List.length x3 + List.length [(⟨a1.Name, a1.Mass, ⟨a1.Orb.Long, a1.Orb.Round, a1.Orb.Tilt, a1.Orb.Node, a1.Orb.Peri, a1.Orb.Phase⟩⟩ : Entry)]) * 48 ≤ 140737488355328) && decide (List.length x3 + List.length [(⟨a1.Name, a1.Mass, ⟨a1.Orb.Long, a1.Orb.Round, a1.Orb.Tilt, a1.Orb.Node, a1.Orb.Peri, a1.Orb.Phase⟩⟩ : Entry)] ≤ 9223372036854775807))) (
    let x4 := x3 ++ [(⟨a1.Name, a1.Mass, ⟨a1.Orb.Long, a1.Orb.Round, a1.Orb.Tilt, a1.Orb.Node, a1.Orb.Peri, a1.Orb.Phase⟩⟩ : Entry)];
    let x5 := ((List.length a0 : Nat) : Int);
    .need ((impl_PutEntry_loop1_ends (a0, x5, a1.Name, a1.Mass, a1.Orb.Long, a1.Orb.Round, a1.Orb.Tilt, a1.Orb.Node, a1.Orb.Peri, a1.Orb.Phase) (0, x4))) (
    let x6 := impl_PutEntry_loop1 (a0, x5, a1.Name, a1.Mass, a1.Orb.Long, a1.Orb.Round, a1.Orb.Tilt, a1.Orb.Node, a1.Orb.Peri, a1.Orb.Phase) (0, x4);
    let x7 := ((List.length x6 : Nat) : Int);
    let x8 := decide (x7 > 16);
    .ask x8
    (
     .leaf (.inl ()))
    (
     .leaf (.inr x6)))))))))
def impl_PutEntry (a0 : List Entry) (a1 : Entry) : (Unit) ⊕ (List Entry) := (impl_PutEntry_tree a0 a1).val
def impl_PutEntry_need (a0 : List Entry) (a1 : Entry) : Bool := (impl_PutEntry_tree a0 a1).ok
def impl_PutEntry_mk0 (p : Unit) : Ret := ⟨.tup [.nils, .bool false], []⟩
def impl_PutEntry_mk1 (p : List Entry) : Ret := ⟨.tup [.own 0, .bool true], [.typed 33 .entry p]⟩
def impl_PutEntry_mk : (Unit) ⊕ (List Entry) → Ret := fun v => match v with
  | (.inl p) => impl_PutEntry_mk0 p
  | (.inr p) => impl_PutEntry_mk1 p
def impl_PutEntry_forms (v : (Unit) ⊕ (List Entry)) : DT Ret := .ask (isL v) (.leaf (impl_PutEntry_mk0 (leftD v))) (.leaf (impl_PutEntry_mk1 (rightD v)))
theorem impl_PutEntry_forms_get : ∀ v, (impl_PutEntry_forms v).get = some (impl_PutEntry_mk v) := by
  intro v
  rcases v with v | v <;> rfl
def impl_PutEntry_c0 : Con := fun args => match args with
  | [.vslc 1 .entry a0, .agg [.str a1_0, .flt .f32 a1_1, .flt .f32 a1_2, .flt .f32 a1_3, .flt .f32 a1_4, .flt .f32 a1_5, .flt .f32 a1_6, .flt .f32 a1_7]] => some (.need (impl_PutEntry_need a0 (⟨a1_0, a1_1, ⟨a1_2, a1_3, a1_4, a1_5, a1_6, a1_7⟩⟩ : Entry)) (impl_PutEntry_forms (impl_PutEntry a0 (⟨a1_0, a1_1, ⟨a1_2, a1_3, a1_4, a1_5, a1_6, a1_7⟩⟩ : Entry))))
  | _ => none
set_option maxRecDepth 100000 in
theorem impl_PutEntry_ok0 : FunOK Try.prog 10 impl_PutEntry_c0.fn := by
  refine con_ok (Γ := gam [(6, impl_AreEntries_c), (9, impl_ValidEntry_c)]) (gam_cons impl_AreEntries_ok (gam_cons impl_ValidEntry_ok (gam_nil))) tab_ok (by kernel_rfl) Try.func10 (by kernel_rfl) (by kernel_rfl) Try.ntmps10 Try.results10 (loops := impl_PutEntry_loops) (loopsOK_list (l := [lp Try.f10 0, lp Try.f10 1]) (by kernel_rfl) ⟨impl_PutEntry_l0, ⟨impl_PutEntry_l1, trivial⟩⟩) 100000 fun args t h => ?_
  unfold impl_PutEntry_c0 at h
  split at h
  · rename_i a0 a1_0 a1_1 a1_2 a1_3 a1_4 a1_5 a1_6 a1_7
    cases h
    exact ⟨rfl, agree_forms (mk := impl_PutEntry_mk) (t := impl_PutEntry_tree a0 (⟨a1_0, a1_1, ⟨a1_2, a1_3, a1_4, a1_5, a1_6, a1_7⟩⟩ : Entry)) (by unfold Agree; kernel_rfl) (fun h => h) (impl_PutEntry_forms_get _)⟩
  · cases h
def impl_PutEntry_c : Con := fun args => impl_PutEntry_c0 (norms 0 [.slc .entry, .none] args)
set_option maxRecDepth 100000 in
theorem impl_PutEntry_ok : FunOK Try.prog 10 impl_PutEntry_c.fn := con_norm [.slc .entry, .none] impl_PutEntry_ok0

-- FAILED 29 loop.example/g01284/impl.FindEntry$1: param type 0

/-- loop.example/g01284/impl.FindEntry$1 -/
def impl_FindEntry_1_tree (a0 : Entry) (a1_0 : (List UInt8)) : DT (Bool) :=
  let x0 := (a0.Name == a1_0);
  .leaf x0
def impl_FindEntry_1 (a0 : Entry) (a1_0 : (List UInt8)) : Bool := (impl_FindEntry_1_tree a0 a1_0).val
def impl_FindEntry_1_mk (p : Bool) : Ret := ⟨.bool p, []⟩
def impl_FindEntry_1_c : Con := fun args => match args with
  | [.agg [.str a0_0, .flt .f32 a0_1, .flt .f32 a0_2, .flt .f32 a0_3, .flt .f32 a0_4, .flt .f32 a0_5, .flt .f32 a0_6, .flt .f32 a0_7], .vcell [.str a1_0] 0] => some (.leaf (impl_FindEntry_1_mk (impl_FindEntry_1 (⟨a0_0, a0_1, ⟨a0_2, a0_3, a0_4, a0_5, a0_6, a0_7⟩⟩ : Entry) a1_0)))
  | _ => none
set_option maxRecDepth 100000 in
theorem impl_FindEntry_1_ok : FunOK Try.prog 29 impl_FindEntry_1_c.fn := by
  refine con_ok (Γ := gam []) (gam_nil) tab_ok (by kernel_rfl) Try.func29 (by kernel_rfl) (by kernel_rfl) Try.ntmps29 Try.results29 (loopsOK_none rfl _) 100000 fun args t h => ?_
  unfold impl_FindEntry_1_c at h
  split at h
  · rename_i a0_0 a0_1 a0_2 a0_3 a0_4 a0_5 a0_6 a0_7 a1_0
    cases h
    exact ⟨rfl, agree_tot (mk := impl_FindEntry_1_mk) (t := impl_FindEntry_1_tree (⟨a0_0, a0_1, ⟨a0_2, a0_3, a0_4, a0_5, a0_6, a0_7⟩⟩ : Entry) a1_0) (by unfold Agree; kernel_rfl) (by kernel_rfl)⟩
  · cases h

/-- a loop of slices_IndexFunc___impl_Entry_impl_Entry__impl_FindEntry_1 -/
def slices_IndexFunc___impl_Entry_impl_Entry__impl_FindEntry_1_loop0_step (p : List Entry × (List UInt8) × Int) (s : Int) : Round (Int) ((Int) ⊕ (Unit)) :=
  let x0 := decide (s < p.2.2);
  .ask x0
  (
   .need ((decide (0 ≤ s) && decide (s < ((List.length p.1 : Nat) : Int)))) (
   let x1 := List.getD p.1 (Int.toNat s) default;
   let x2 := impl_FindEntry_1 (⟨x1.Name, x1.Mass, ⟨x1.Orb.Long, x1.Orb.Round, x1.Orb.Tilt, x1.Orb.Node, x1.Orb.Peri, x1.Orb.Phase⟩⟩ : Entry) p.2.1;
   .ask x2
   (
    .leaf (.inr (.inl s), []))
   (
    let x3 := IntKind.wrap .i64 (s + 1);
    .leaf (.inl x3, []))))
  (
   .leaf (.inr (.inr ()), []))
def slices_IndexFunc___impl_Entry_impl_Entry__impl_FindEntry_1_loop0_L (p : List Entry × (List UInt8) × Int) : LoopS (Int) ((Int) ⊕ (Unit)) := { tl := fun s => [.vslc 1 .entry p.1, .func (.func 29) [] [.vcell [.str p.2.1] 0], .junk, .junk, .junk, .junk, .junk, .int .i64 p.2.2, .int .i64 s], hl := fun s => [], ex := fun r => match r with | .inl r => .ret | .inr r => .exit 0, otl := fun r => match r with | .inl r => [.junk, .junk, .junk, .junk, .int .i64 r] | .inr r => [.junk], ohl := fun r => match r with | .inl r => [] | .inr r => [] }
def slices_IndexFunc___impl_Entry_impl_Entry__impl_FindEntry_1_loop0_ext : St → Option ((List Entry × (List UInt8) × Int) × (Int) × List Nat) := fun S => match (S.tm 0).unK, (S.tm 1).unK, (S.tm 7).unK, (S.tm 8).unK with
  | .vslc 1 .entry q0, .func (.func 29) [] [.vcell [.str q1] 0], .int .i64 q2, .int .i64 q3 => some ((q0, q1, q2), q3, [])
  | _, _, _, _ => none
def slices_IndexFunc___impl_Entry_impl_Entry__impl_FindEntry_1_loop0_post (p : List Entry × (List UInt8) × Int) (r : (Int) ⊕ (Unit)) : DT (Ex × St) := .ask (isL r) (.leaf (.ret, LSt [.junk, .junk, .junk, .junk, .int .i64 ((leftD r))] [])) (.leaf (.exit 0, LSt [.junk] []))
def slices_IndexFunc___impl_Entry_impl_Entry__impl_FindEntry_1_loop0 (p : List Entry × (List UInt8) × Int) (s : Int) : (Int) ⊕ (Unit) := loopVal (slices_IndexFunc___impl_Entry_impl_Entry__impl_FindEntry_1_loop0_step p) s
def slices_IndexFunc___impl_Entry_impl_Entry__impl_FindEntry_1_loop0_ends (p : List Entry × (List UInt8) × Int) (s : Int) : Bool := loopEnds (slices_IndexFunc___impl_Entry_impl_Entry__impl_FindEntry_1_loop0_step p) s
def slices_IndexFunc___impl_Entry_impl_Entry__impl_FindEntry_1_loop0_F : LoopF := loopF slices_IndexFunc___impl_Entry_impl_Entry__impl_FindEntry_1_loop0_step slices_IndexFunc___impl_Entry_impl_Entry__impl_FindEntry_1_loop0_ext slices_IndexFunc___impl_Entry_impl_Entry__impl_FindEntry_1_loop0_post
set_option maxRecDepth 100000 in
theorem slices_IndexFunc___impl_Entry_impl_Entry__impl_FindEntry_1_loop0_hext : ∀ S p s fl, slices_IndexFunc___impl_Entry_impl_Entry__impl_FindEntry_1_loop0_ext S = some (p, s, fl) → Norm S fl ((slices_IndexFunc___impl_Entry_impl_Entry__impl_FindEntry_1_loop0_L p).tl s) ((slices_IndexFunc___impl_Entry_impl_Entry__impl_FindEntry_1_loop0_L p).hl s) (slices_IndexFunc___impl_Entry_impl_Entry__impl_FindEntry_1_loop0_L p).gl := by
  intro S p s fl h
  unfold slices_IndexFunc___impl_Entry_impl_Entry__impl_FindEntry_1_loop0_ext at h
  (repeat' split at h) <;> first
    | (cases h; constructor <;> simp_all [slices_IndexFunc___impl_Entry_impl_Entry__impl_FindEntry_1_loop0_L, keepT, keepH, rens, renH, PV.ren, Blk.ren, fOf, lget, nodup, natIn, lenEq, gtm, PV.unK])
    | cases h
set_option maxRecDepth 100000 in
theorem slices_IndexFunc___impl_Entry_impl_Entry__impl_FindEntry_1_loop0_hpost : ∀ p r e S', (slices_IndexFunc___impl_Entry_impl_Entry__impl_FindEntry_1_loop0_post p r).get = some (e, S') → e = (slices_IndexFunc___impl_Entry_impl_Entry__impl_FindEntry_1_loop0_L p).ex r ∧ S' = LSt ((slices_IndexFunc___impl_Entry_impl_Entry__impl_FindEntry_1_loop0_L p).otl r) ((slices_IndexFunc___impl_Entry_impl_Entry__impl_FindEntry_1_loop0_L p).ohl r) ((slices_IndexFunc___impl_Entry_impl_Entry__impl_FindEntry_1_loop0_L p).ogl r) := by
  intro p r e S' h
  unfold slices_IndexFunc___impl_Entry_impl_Entry__impl_FindEntry_1_loop0_post at h
  cases r <;> (simp only [isL, DT.get, Option.some.injEq, Prod.mk.injEq] at h; exact ⟨h.1.symm, h.2.symm⟩)

def slices_IndexFunc___impl_Entry_impl_Entry__impl_FindEntry_1_loops : Nat → Option LoopF := loopTab [(2, slices_IndexFunc___impl_Entry_impl_Entry__impl_FindEntry_1_loop0_F)]
set_option maxRecDepth 100000 in
theorem slices_IndexFunc___impl_Entry_impl_Entry__impl_FindEntry_1_l0 : LoopOK Try.prog ⟨gam [(29, impl_FindEntry_1_c)], tab, 19, slices_IndexFunc___impl_Entry_impl_Entry__impl_FindEntry_1_loops⟩ (lp Try.f28 0) :=
  loopOK_some (F := slices_IndexFunc___impl_Entry_impl_Entry__impl_FindEntry_1_loop0_F) (by kernel_rfl) (loopF_ok (E := ⟨gam [(29, impl_FindEntry_1_c)], tab, 19, slices_IndexFunc___impl_Entry_impl_Entry__impl_FindEntry_1_loops⟩) ⟨gam_cons impl_FindEntry_1_ok (gam_nil), tab_ok, by kernel_rfl⟩ (fuel := 100000) (loopsOK_list (l := []) (by kernel_rfl) trivial) (L := slices_IndexFunc___impl_Entry_impl_Entry__impl_FindEntry_1_loop0_L) (fun p s => by unfold AgreeL; exact ⟨by kernel_rfl, by kernel_rfl⟩) (fun _ r h => by cases r <;> exact Ex.noConfusion h) slices_IndexFunc___impl_Entry_impl_Entry__impl_FindEntry_1_loop0_hext slices_IndexFunc___impl_Entry_impl_Entry__impl_FindEntry_1_loop0_hpost)
/-- slices.IndexFunc[[]loop.example/g01284/impl.Entry,loop.example/g01284/impl.Entry] -/
def slices_IndexFunc___impl_Entry_impl_Entry__impl_FindEntry_1_tree (a0 : List Entry) (a1_0 : (List UInt8)) : DT (Int) :=
  let x0 := ((List.length a0 : Nat) : Int);
  .need ((slices_IndexFunc___impl_Entry_impl_Entry__impl_FindEntry_1_loop0_ends (a0, a1_0, x0) 0)) (
  let x1 := slices_IndexFunc___impl_Entry_impl_Entry__impl_FindEntry_1_loop0 (a0, a1_0, x0) 0;
  .ask ((isL x1))
  (
   .leaf ((leftD x1)))
  (
   .leaf (-1)))
def slices_IndexFunc___impl_Entry_impl_Entry__impl_FindEntry_1 (a0 : List Entry) (a1_0 : (List UInt8)) : Int := (slices_IndexFunc___impl_Entry_impl_Entry__impl_FindEntry_1_tree a0 a1_0).val
def slices_IndexFunc___impl_Entry_impl_Entry__impl_FindEntry_1_need (a0 : List Entry) (a1_0 : (List UInt8)) : Bool := (slices_IndexFunc___impl_Entry_impl_Entry__impl_FindEntry_1_tree a0 a1_0).ok
def slices_IndexFunc___impl_Entry_impl_Entry__impl_FindEntry_1_mk (p : Int) : Ret := ⟨.int .i64 p, []⟩
def slices_IndexFunc___impl_Entry_impl_Entry__impl_FindEntry_1_c0 : Con := fun args => match args with
  | [.vslc 1 .entry a0, .func (.func 29) [] [.vcell [.str a1_0] 0]] => some (.need (slices_IndexFunc___impl_Entry_impl_Entry__impl_FindEntry_1_need a0 a1_0) (.leaf (slices_IndexFunc___impl_Entry_impl_Entry__impl_FindEntry_1_mk (slices_IndexFunc___impl_Entry_impl_Entry__impl_FindEntry_1 a0 a1_0))))
  | _ => none
set_option maxRecDepth 100000 in
theorem slices_IndexFunc___impl_Entry_impl_Entry__impl_FindEntry_1_ok0 : FunOK Try.prog 28 slices_IndexFunc___impl_Entry_impl_Entry__impl_FindEntry_1_c0.fn := by
  refine con_ok (Γ := gam [(29, impl_FindEntry_1_c)]) (gam_cons impl_FindEntry_1_ok (gam_nil)) tab_ok (by kernel_rfl) Try.func28 (by kernel_rfl) (by kernel_rfl) Try.ntmps28 Try.results28 (loops := slices_IndexFunc___impl_Entry_impl_Entry__impl_FindEntry_1_loops) (loopsOK_list (l := [lp Try.f28 0]) (by kernel_rfl) ⟨slices_IndexFunc___impl_Entry_impl_Entry__impl_FindEntry_1_l0, trivial⟩) 100000 fun args t h => ?_
  unfold slices_IndexFunc___impl_Entry_impl_Entry__impl_FindEntry_1_c0 at h
  split at h
  · rename_i a0 a1_0
    cases h
    exact ⟨rfl, agree_need (mk := slices_IndexFunc___impl_Entry_impl_Entry__impl_FindEntry_1_mk) (t := slices_IndexFunc___impl_Entry_impl_Entry__impl_FindEntry_1_tree a0 a1_0) (by unfold Agree; kernel_rfl)⟩
  · cases h
def slices_IndexFunc___impl_Entry_impl_Entry__impl_FindEntry_1_c : Con := fun args => slices_IndexFunc___impl_Entry_impl_Entry__impl_FindEntry_1_c0 (norms 0 [.slc .entry, .none] args)
set_option maxRecDepth 100000 in
theorem slices_IndexFunc___impl_Entry_impl_Entry__impl_FindEntry_1_ok : FunOK Try.prog 28 slices_IndexFunc___impl_Entry_impl_Entry__impl_FindEntry_1_c.fn := con_norm [.slc .entry, .none] slices_IndexFunc___impl_Entry_impl_Entry__impl_FindEntry_1_ok0

/-- loop.example/g01284/impl.FindEntry -/
def impl_FindEntry_tree (a0 : List Entry) (a1 : (List UInt8)) : DT (Int × Bool) :=
  .need ((slices_IndexFunc___impl_Entry_impl_Entry__impl_FindEntry_1_need a0 a1)) (
  let x0 := slices_IndexFunc___impl_Entry_impl_Entry__impl_FindEntry_1 a0 a1;
  .need ((impl_AreEntries_need a0)) (
  let x1 := impl_AreEntries a0;
  .ask (!x1)
  (
   .leaf (0, false))
  (
   let x2 := decide (x0 < 0);
   .ask x2
   (
    .leaf (0, false))
   (
    .leaf (x0, true)))))
def impl_FindEntry (a0 : List Entry) (a1 : (List UInt8)) : Int × Bool := (impl_FindEntry_tree a0 a1).val
def impl_FindEntry_need (a0 : List Entry) (a1 : (List UInt8)) : Bool := (impl_FindEntry_tree a0 a1).ok
def impl_FindEntry_mk (p : Int × Bool) : Ret := ⟨.tup [.int .i64 p.1, .bool p.2], []⟩
def impl_FindEntry_c0 : Con := fun args => match args with
  | [.vslc 1 .entry a0, .str a1] => some (.need (impl_FindEntry_need a0 a1) (.leaf (impl_FindEntry_mk (impl_FindEntry a0 a1))))
  | _ => none
set_option maxRecDepth 100000 in
theorem impl_FindEntry_ok0 : FunOK Try.prog 11 impl_FindEntry_c0.fn := by
  refine con_ok (Γ := gam [(28, slices_IndexFunc___impl_Entry_impl_Entry__impl_FindEntry_1_c), (6, impl_AreEntries_c)]) (gam_cons slices_IndexFunc___impl_Entry_impl_Entry__impl_FindEntry_1_ok (gam_cons impl_AreEntries_ok (gam_nil))) tab_ok (by kernel_rfl) Try.func11 (by kernel_rfl) (by kernel_rfl) Try.ntmps11 Try.results11 (loopsOK_none rfl _) 100000 fun args t h => ?_
  unfold impl_FindEntry_c0 at h
  split at h
  · rename_i a0 a1
    cases h
    exact ⟨rfl, agree_need (mk := impl_FindEntry_mk) (t := impl_FindEntry_tree a0 a1) (by unfold Agree; kernel_rfl)⟩
  · cases h
def impl_FindEntry_c : Con := fun args => impl_FindEntry_c0 (norms 0 [.slc .entry, .none] args)
set_option maxRecDepth 100000 in
theorem impl_FindEntry_ok : FunOK Try.prog 11 impl_FindEntry_c.fn := con_norm [.slc .entry, .none] impl_FindEntry_ok0

-- FAILED 30 slices.Concat[[]loop.example/g01284/impl.Entry,loop.example/g01284/impl.Entry]: slice of type 24

/-- slices.Concat[[]loop.example/g01284/impl.Entry,loop.example/g01284/impl.Entry] -/
def slices_Concat___impl_Entry_impl_Entry__tree (a0_0 : List Entry) (a0_1 : List Entry) : DT ((List Entry) ⊕ (Unit)) :=
  .skip (
  .skip (
  let x0 := ((List.length a0_0 : Nat) : Int);
  let x1 := IntKind.wrap .i64 (0 + x0);
  let x2 := decide (x1 < 0);
  .ask x2
  (
   .fail)
  (
   .skip (
   .skip (
   let x3 := ((List.length a0_1 : Nat) : Int);
   let x4 := IntKind.wrap .i64 (x1 + x3);
   let x5 := decide (x4 < 0);
   .ask x5
   (
    .fail)
   (
    .skip (
    .need ((decide (0 ≤ x4) && decide (x4 * 48 ≤ 140737488355328))) (
    .ask ((decide (0 < x4)))
    (
     .skip (
     .skip (
     .need ((decide ((List.length ([] : List Entry) + List.length a0_0) * 48 ≤ 140737488355328) && decide (List.length ([] : List Entry) + List.length a0_0 ≤ 9223372036854775807))) (
     let x6 := ([] : List Entry) ++ a0_0;
     .skip (
     .skip (
     .need ((decide ((List.length x6 + List.length a0_1) * 48 ≤ 140737488355328) && decide (List.length x6 + List.length a0_1 ≤ 9223372036854775807))) (
     let x7 := x6 ++ a0_1;
     .skip (
     .leaf (.inl x7)))))))))
    (
     .skip (
     .skip (
     .ask ((decide (0 < List.length a0_0)))
     (
      .need ((decide (List.length a0_0 * 48 ≤ 140737488355328) && decide (List.length a0_0 ≤ 9223372036854775807))) (
      .skip (
      .skip (
      .need ((decide ((List.length a0_0 + List.length a0_1) * 48 ≤ 140737488355328) && decide (List.length a0_0 + List.length a0_1 ≤ 9223372036854775807))) (
      let x6 := a0_0 ++ a0_1;
      .skip (
      .leaf (.inl x6)))))))
     (
      .skip (
      .skip (
      .ask ((decide (0 < List.length a0_1)))
      (
       .need ((decide (List.length a0_1 * 48 ≤ 140737488355328) && decide (List.length a0_1 ≤ 9223372036854775807))) (
       .skip (
       .leaf (.inl a0_1))))
      (
       .skip (
       .leaf (.inr ())))))))))))))))))
def slices_Concat___impl_Entry_impl_Entry_ (a0_0 : List Entry) (a0_1 : List Entry) : (List Entry) ⊕ (Unit) := (slices_Concat___impl_Entry_impl_Entry__tree a0_0 a0_1).val
def slices_Concat___impl_Entry_impl_Entry__need (a0_0 : List Entry) (a0_1 : List Entry) : Bool := (slices_Concat___impl_Entry_impl_Entry__tree a0_0 a0_1).ok
def slices_Concat___impl_Entry_impl_Entry__mk0 (p : List Entry) : Ret := ⟨.own 0, [.typed 33 .entry p]⟩
def slices_Concat___impl_Entry_impl_Entry__mk1 (p : Unit) : Ret := ⟨.nils, []⟩
def slices_Concat___impl_Entry_impl_Entry__mk : (List Entry) ⊕ (Unit) → Ret := fun v => match v with
  | (.inl p) => slices_Concat___impl_Entry_impl_Entry__mk0 p
  | (.inr p) => slices_Concat___impl_Entry_impl_Entry__mk1 p
def slices_Concat___impl_Entry_impl_Entry__forms (v : (List Entry) ⊕ (Unit)) : DT Ret := .ask (isL v) (.leaf (slices_Concat___impl_Entry_impl_Entry__mk0 (leftD v))) (.leaf (slices_Concat___impl_Entry_impl_Entry__mk1 (rightD v)))
theorem slices_Concat___impl_Entry_impl_Entry__forms_get : ∀ v, (slices_Concat___impl_Entry_impl_Entry__forms v).get = some (slices_Concat___impl_Entry_impl_Entry__mk v) := by
  intro v
  rcases v with v | v <;> rfl
def slices_Concat___impl_Entry_impl_Entry__c0 : Con := fun args => match args with
  | [.lst [.vslc 0 .entry a0_0, .vslc 0 .entry a0_1]] => some (.need (slices_Concat___impl_Entry_impl_Entry__need a0_0 a0_1) (slices_Concat___impl_Entry_impl_Entry__forms (slices_Concat___impl_Entry_impl_Entry_ a0_0 a0_1)))
  | _ => none
set_option maxRecDepth 100000 in
theorem slices_Concat___impl_Entry_impl_Entry__ok0 : FunOK Try.prog 30 slices_Concat___impl_Entry_impl_Entry__c0.fn := by
  refine con_ok (Γ := gam [(46, slices_Grow_c)]) (gam_cons slices_Grow_ok (gam_nil)) tab_ok (by kernel_rfl) Try.func30 (by kernel_rfl) (by kernel_rfl) Try.ntmps30 Try.results30 (loopsOK_none rfl _) 100000 fun args t h => ?_
  unfold slices_Concat___impl_Entry_impl_Entry__c0 at h
  split at h
  · rename_i a0_0 a0_1
    cases h
    exact ⟨rfl, agree_forms (mk := slices_Concat___impl_Entry_impl_Entry__mk) (t := slices_Concat___impl_Entry_impl_Entry__tree a0_0 a0_1) (by unfold Agree; kernel_rfl) (fun h => h) (slices_Concat___impl_Entry_impl_Entry__forms_get _)⟩
  · cases h
def slices_Concat___impl_Entry_impl_Entry__c : Con := fun args => slices_Concat___impl_Entry_impl_Entry__c0 (norms 0 [.none] args)
set_option maxRecDepth 100000 in
theorem slices_Concat___impl_Entry_impl_Entry__ok : FunOK Try.prog 30 slices_Concat___impl_Entry_impl_Entry__c.fn := con_norm [.none] slices_Concat___impl_Entry_impl_Entry__ok0

/-- loop.example/g01284/impl.DropEntry -/
def impl_DropEntry_tree (a0 : List Entry) (a1 : (List UInt8)) : DT ((Bool) ⊕ (List Entry)) :=
  .need ((impl_FindEntry_need a0 a1)) (
  let x0 := impl_FindEntry a0 a1;
  .ask (!x0.2)
  (
   .leaf (.inl false))
  (
   .need ((decide (0 ≤ x0.1) && decide (x0.1 ≤ ((List.length a0 : Nat) : Int)))) (
   let x1 := List.drop 0 (List.take (Int.toNat x0.1) a0);
   let x2 := IntKind.wrap .i64 (x0.1 + 1);
   .need ((decide (0 ≤ x2) && decide (x2 ≤ (((List.length a0) : Nat) : Int)))) (
   let x3 := List.drop (Int.toNat x2) (List.take (List.length a0) a0);
   .need ((slices_Concat___impl_Entry_impl_Entry__need x1 x3)) (
   let x4 := slices_Concat___impl_Entry_impl_Entry_ x1 x3;
   .ask ((isL x4))
   (
    .leaf (.inr ((leftD x4))))
   (
    .leaf (.inl true)))))))
def impl_DropEntry (a0 : List Entry) (a1 : (List UInt8)) : (Bool) ⊕ (List Entry) := (impl_DropEntry_tree a0 a1).val
def impl_DropEntry_need (a0 : List Entry) (a1 : (List UInt8)) : Bool := (impl_DropEntry_tree a0 a1).ok
def impl_DropEntry_mk0 (p : Bool) : Ret := ⟨.tup [.nils, .bool p], []⟩
def impl_DropEntry_mk1 (p : List Entry) : Ret := ⟨.tup [.own 0, .bool true], [.typed 33 .entry p]⟩
def impl_DropEntry_mk : (Bool) ⊕ (List Entry) → Ret := fun v => match v with
  | (.inl p) => impl_DropEntry_mk0 p
  | (.inr p) => impl_DropEntry_mk1 p
def impl_DropEntry_forms (v : (Bool) ⊕ (List Entry)) : DT Ret := .ask (isL v) (.leaf (impl_DropEntry_mk0 (leftD v))) (.leaf (impl_DropEntry_mk1 (rightD v)))
theorem impl_DropEntry_forms_get : ∀ v, (impl_DropEntry_forms v).get = some (impl_DropEntry_mk v) := by
  intro v
  rcases v with v | v <;> rfl
def impl_DropEntry_c0 : Con := fun args => match args with
  | [.vslc 1 .entry a0, .str a1] => some (.need (impl_DropEntry_need a0 a1) (impl_DropEntry_forms (impl_DropEntry a0 a1)))
  | _ => none
set_option maxRecDepth 100000 in
theorem impl_DropEntry_ok0 : FunOK Try.prog 12 impl_DropEntry_c0.fn := by
  refine con_ok (Γ := gam [(11, impl_FindEntry_c), (30, slices_Concat___impl_Entry_impl_Entry__c)]) (gam_cons impl_FindEntry_ok (gam_cons slices_Concat___impl_Entry_impl_Entry__ok (gam_nil))) tab_ok (by kernel_rfl) Try.func12 (by kernel_rfl) (by kernel_rfl) Try.ntmps12 Try.results12 (loopsOK_none rfl _) 100000 fun args t h => ?_
  unfold impl_DropEntry_c0 at h
  split at h
  · rename_i a0 a1
    cases h
    exact ⟨rfl, agree_forms (mk := impl_DropEntry_mk) (t := impl_DropEntry_tree a0 a1) (by unfold Agree; kernel_rfl) (fun h => h) (impl_DropEntry_forms_get _)⟩
  · cases h
def impl_DropEntry_c : Con := fun args => impl_DropEntry_c0 (norms 0 [.slc .entry, .none] args)
set_option maxRecDepth 100000 in
theorem impl_DropEntry_ok : FunOK Try.prog 12 impl_DropEntry_c.fn := con_norm [.slc .entry, .none] impl_DropEntry_ok0

/-- loop.example/g01284/impl.SameNumber -/
def impl_SameNumber_tree (a0 : Nat) (a1 : Nat) : DT (Bool) :=
  let x0 := fne .f32 a0 a0;
  .ask x0
  (
   let x1 := fne .f32 a0 a0;
   .ask x1
   (
    let x2 := fne .f32 a1 a1;
    .leaf x2)
   (
    .leaf false))
  (
   let x1 := fne .f32 a1 a1;
   .ask x1
   (
    let x2 := fne .f32 a0 a0;
    .ask x2
    (
     let x3 := fne .f32 a1 a1;
     .leaf x3)
    (
     .leaf false))
   (
    let x2 := feq .f32 a0 a1;
    .ask x2
    (
     .need ((fconvOk .f32 a0 .f64)) (
     let x3 := fconv .f32 a0 .f64;
     .need ((!isNaN .f64 x3)) (
     let x4 := decide (IntKind.wrap .i64 ((x3 : Nat) : Int) < 0);
     .need ((fconvOk .f32 a1 .f64)) (
     let x5 := fconv .f32 a1 .f64;
     .need ((!isNaN .f64 x5)) (
     let x6 := decide (IntKind.wrap .i64 ((x5 : Nat) : Int) < 0);
     let x7 := (x4 == x6);
     .leaf x7)))))
    (
     .leaf false)))
def impl_SameNumber (a0 : Nat) (a1 : Nat) : Bool := (impl_SameNumber_tree a0 a1).val
def impl_SameNumber_need (a0 : Nat) (a1 : Nat) : Bool := (impl_SameNumber_tree a0 a1).ok
def impl_SameNumber_mk (p : Bool) : Ret := ⟨.bool p, []⟩
def impl_SameNumber_c : Con := fun args => match args with
  | [.flt .f32 a0, .flt .f32 a1] => some (.need (impl_SameNumber_need a0 a1) (.leaf (impl_SameNumber_mk (impl_SameNumber a0 a1))))
  | _ => none
set_option maxRecDepth 100000 in
theorem impl_SameNumber_ok : FunOK Try.prog 33 impl_SameNumber_c.fn := by
  refine con_ok (Γ := gam [(47, math_Signbit_c)]) (gam_cons math_Signbit_ok (gam_nil)) tab_ok (by kernel_rfl) Try.func33 (by kernel_rfl) (by kernel_rfl) Try.ntmps33 Try.results33 (loopsOK_none rfl _) 100000 fun args t h => ?_
  unfold impl_SameNumber_c at h
  split at h
  · rename_i a0 a1
    cases h
    exact ⟨rfl, agree_need (mk := impl_SameNumber_mk) (t := impl_SameNumber_tree a0 a1) (by unfold Agree; kernel_rfl)⟩
  · cases h

/-- a loop of slices_EqualFunc___float32___float32_float32_float32__impl_SameNumber -/
def slices_EqualFunc___float32___float32_float32_float32__impl_SameNumber_loop0_step (p : List Nat × List Nat × Int) (s : Int) : Round (Int) ((Unit) ⊕ (Unit)) :=
  let x0 := decide (s < p.2.2);
  .ask x0
  (
   .need ((decide (0 ≤ s) && decide (s < ((List.length p.2.1 : Nat) : Int)))) (
   let x1 := List.getD p.2.1 (Int.toNat s) default;
   .need ((decide (0 ≤ s) && decide (s < ((List.length p.1 : Nat) : Int)))) (
   let x2 := List.getD p.1 (Int.toNat s) default;
   .need ((impl_SameNumber_need x1 x2)) (
   let x3 := impl_SameNumber x1 x2;
   .ask (!x3)
   (
    .leaf (.inr (.inl ()), []))
   (
    let x4 := IntKind.wrap .i64 (s + 1);
    .leaf (.inl x4, []))))))
  (
   .leaf (.inr (.inr ()), []))
def slices_EqualFunc___float32___float32_float32_float32__impl_SameNumber_loop0_L (p : List Nat × List Nat × Int) : LoopS (Int) ((Unit) ⊕ (Unit)) := { tl := fun s => [.junk, .vslc 2 (.flt .f32) p.1, .func (.func 33) [] [], .junk, .junk, .junk, .junk, .junk, .junk, .junk, .junk, .junk, .junk, .junk, .junk, .vslc 1 (.flt .f32) p.2.1, .int .i64 p.2.2, .int .i64 s], hl := fun s => [], ex := fun r => match r with | .inl r => .ret | .inr r => .exit 0, otl := fun r => match r with | .inl r => [.junk, .junk, .junk, .junk, .junk, .junk, .bool false] | .inr r => [.junk], ohl := fun r => match r with | .inl r => [] | .inr r => [] }
def slices_EqualFunc___float32___float32_float32_float32__impl_SameNumber_loop0_ext : St → Option ((List Nat × List Nat × Int) × (Int) × List Nat) := fun S => match (S.tm 1).unK, (S.tm 2).unK, (S.tm 15).unK, (S.tm 16).unK, (S.tm 17).unK with
  | .vslc 2 (.flt .f32) q0, .func (.func 33) [] [], .vslc 1 (.flt .f32) q1, .int .i64 q2, .int .i64 q3 => some ((q0, q1, q2), q3, [])
  | _, _, _, _, _ => none
def slices_EqualFunc___float32___float32_float32_float32__impl_SameNumber_loop0_post (p : List Nat × List Nat × Int) (r : (Unit) ⊕ (Unit)) : DT (Ex × St) := .ask (isL r) (.leaf (.ret, LSt [.junk, .junk, .junk, .junk, .junk, .junk, .bool false] [])) (.leaf (.exit 0, LSt [.junk] []))
def slices_EqualFunc___float32___float32_float32_float32__impl_SameNumber_loop0 (p : List Nat × List Nat × Int) (s : Int) : (Unit) ⊕ (Unit) := loopVal (slices_EqualFunc___float32___float32_float32_float32__impl_SameNumber_loop0_step p) s
def slices_EqualFunc___float32___float32_float32_float32__impl_SameNumber_loop0_ends (p : List Nat × List Nat × Int) (s : Int) : Bool := loopEnds (slices_EqualFunc___float32___float32_float32_float32__impl_SameNumber_loop0_step p) s
def slices_EqualFunc___float32___float32_float32_float32__impl_SameNumber_loop0_F : LoopF := loopF slices_EqualFunc___float32___float32_float32_float32__impl_SameNumber_loop0_step slices_EqualFunc___float32___float32_float32_float32__impl_SameNumber_loop0_ext slices_EqualFunc___float32___float32_float32_float32__impl_SameNumber_loop0_post
set_option maxRecDepth 100000 in
theorem slices_EqualFunc___float32___float32_float32_float32__impl_SameNumber_loop0_hext : ∀ S p s fl, slices_EqualFunc___float32___float32_float32_float32__impl_SameNumber_loop0_ext S = some (p, s, fl) → Norm S fl ((slices_EqualFunc___float32___float32_float32_float32__impl_SameNumber_loop0_L p).tl s) ((slices_EqualFunc___float32___float32_float32_float32__impl_SameNumber_loop0_L p).hl s) (slices_EqualFunc___float32___float32_float32_float32__impl_SameNumber_loop0_L p).gl := by
  intro S p s fl h
  unfold slices_EqualFunc___float32___float32_float32_float32__impl_SameNumber_loop0_ext at h
  (repeat' split at h) <;> first
    | (cases h; constructor <;> simp_all [slices_EqualFunc___float32___float32_float32_float32__impl_SameNumber_loop0_L, keepT, keepH, rens, renH, PV.ren, Blk.ren, fOf, lget, nodup, natIn, lenEq, gtm, PV.unK])
    | cases h
set_option maxRecDepth 100000 in
theorem slices_EqualFunc___float32___float32_float32_float32__impl_SameNumber_loop0_hpost : ∀ p r e S', (slices_EqualFunc___float32___float32_float32_float32__impl_SameNumber_loop0_post p r).get = some (e, S') → e = (slices_EqualFunc___float32___float32_float32_float32__impl_SameNumber_loop0_L p).ex r ∧ S' = LSt ((slices_EqualFunc___float32___float32_float32_float32__impl_SameNumber_loop0_L p).otl r) ((slices_EqualFunc___float32___float32_float32_float32__impl_SameNumber_loop0_L p).ohl r) ((slices_EqualFunc___float32___float32_float32_float32__impl_SameNumber_loop0_L p).ogl r) := by
  intro p r e S' h
  unfold slices_EqualFunc___float32___float32_float32_float32__impl_SameNumber_loop0_post at h
  cases r <;> (simp only [isL, DT.get, Option.some.injEq, Prod.mk.injEq] at h; exact ⟨h.1.symm, h.2.symm⟩)

def slices_EqualFunc___float32___float32_float32_float32__impl_SameNumber_loops : Nat → Option LoopF := loopTab [(4, slices_EqualFunc___float32___float32_float32_float32__impl_SameNumber_loop0_F)]
set_option maxRecDepth 100000 in
theorem slices_EqualFunc___float32___float32_float32_float32__impl_SameNumber_l0 : LoopOK Try.prog ⟨gam [(33, impl_SameNumber_c)], tab, 32, slices_EqualFunc___float32___float32_float32_float32__impl_SameNumber_loops⟩ (lp Try.f61 0) :=
  loopOK_some (F := slices_EqualFunc___float32___float32_float32_float32__impl_SameNumber_loop0_F) (by kernel_rfl) (loopF_ok (E := ⟨gam [(33, impl_SameNumber_c)], tab, 32, slices_EqualFunc___float32___float32_float32_float32__impl_SameNumber_loops⟩) ⟨gam_cons impl_SameNumber_ok (gam_nil), tab_ok, by kernel_rfl⟩ (fuel := 100000) (loopsOK_list (l := []) (by kernel_rfl) trivial) (L := slices_EqualFunc___float32___float32_float32_float32__impl_SameNumber_loop0_L) (fun p s => by unfold AgreeL; exact ⟨by kernel_rfl, by kernel_rfl⟩) (fun _ r h => by cases r <;> exact Ex.noConfusion h) slices_EqualFunc___float32___float32_float32_float32__impl_SameNumber_loop0_hext slices_EqualFunc___float32___float32_float32_float32__impl_SameNumber_loop0_hpost)
/-- slices.EqualFunc[[]float32,[]float32,float32,float32] -/
def slices_EqualFunc___float32___float32_float32_float32__impl_SameNumber_tree (a0 : List Nat) (a1 : List Nat) : DT (Bool) :=
  let x0 := ((List.length a0 : Nat) : Int);
  let x1 := ((List.length a1 : Nat) : Int);
  let x2 := (x0 != x1);
  .ask x2
  (
   .leaf false)
  (
   let x3 := ((List.length a0 : Nat) : Int);
   .need ((slices_EqualFunc___float32___float32_float32_float32__impl_SameNumber_loop0_ends (a1, a0, x3) 0)) (
   let x4 := slices_EqualFunc___float32___float32_float32_float32__impl_SameNumber_loop0 (a1, a0, x3) 0;
   .ask ((isL x4))
   (
    .leaf false)
   (
    .leaf true)))
def slices_EqualFunc___float32___float32_float32_float32__impl_SameNumber (a0 : List Nat) (a1 : List Nat) : Bool := (slices_EqualFunc___float32___float32_float32_float32__impl_SameNumber_tree a0 a1).val
def slices_EqualFunc___float32___float32_float32_float32__impl_SameNumber_need (a0 : List Nat) (a1 : List Nat) : Bool := (slices_EqualFunc___float32___float32_float32_float32__impl_SameNumber_tree a0 a1).ok
def slices_EqualFunc___float32___float32_float32_float32__impl_SameNumber_mk (p : Bool) : Ret := ⟨.bool p, []⟩
def slices_EqualFunc___float32___float32_float32_float32__impl_SameNumber_c0 : Con := fun args => match args with
  | [.vslc 1 (.flt .f32) a0, .vslc 2 (.flt .f32) a1, .func (.func 33) [] []] => some (.need (slices_EqualFunc___float32___float32_float32_float32__impl_SameNumber_need a0 a1) (.leaf (slices_EqualFunc___float32___float32_float32_float32__impl_SameNumber_mk (slices_EqualFunc___float32___float32_float32_float32__impl_SameNumber a0 a1))))
  | _ => none
set_option maxRecDepth 100000 in
theorem slices_EqualFunc___float32___float32_float32_float32__impl_SameNumber_ok0 : FunOK Try.prog 61 slices_EqualFunc___float32___float32_float32_float32__impl_SameNumber_c0.fn := by
  refine con_ok (Γ := gam [(33, impl_SameNumber_c)]) (gam_cons impl_SameNumber_ok (gam_nil)) tab_ok (by kernel_rfl) Try.func61 (by kernel_rfl) (by kernel_rfl) Try.ntmps61 Try.results61 (loops := slices_EqualFunc___float32___float32_float32_float32__impl_SameNumber_loops) (loopsOK_list (l := [lp Try.f61 0]) (by kernel_rfl) ⟨slices_EqualFunc___float32___float32_float32_float32__impl_SameNumber_l0, trivial⟩) 100000 fun args t h => ?_
  unfold slices_EqualFunc___float32___float32_float32_float32__impl_SameNumber_c0 at h
  split at h
  · rename_i a0 a1
    cases h
    exact ⟨rfl, agree_need (mk := slices_EqualFunc___float32___float32_float32_float32__impl_SameNumber_mk) (t := slices_EqualFunc___float32___float32_float32_float32__impl_SameNumber_tree a0 a1) (by unfold Agree; kernel_rfl)⟩
  · cases h
def slices_EqualFunc___float32___float32_float32_float32__impl_SameNumber_c : Con := fun args => slices_EqualFunc___float32___float32_float32_float32__impl_SameNumber_c0 (norms 0 [.slc (.flt .f32), .slc (.flt .f32), .none] args)
set_option maxRecDepth 100000 in
theorem slices_EqualFunc___float32___float32_float32_float32__impl_SameNumber_ok : FunOK Try.prog 61 slices_EqualFunc___float32___float32_float32_float32__impl_SameNumber_c.fn := con_norm [.slc (.flt .f32), .slc (.flt .f32), .none] slices_EqualFunc___float32___float32_float32_float32__impl_SameNumber_ok0

/-- loop.example/g01284/impl.sameNumbers -/
def impl_sameNumbers_tree (a0 : List Nat) (a1 : List Nat) : DT (Bool) :=
  .need ((slices_EqualFunc___float32___float32_float32_float32__impl_SameNumber_need a0 a1 )) (
  let x0 := slices_EqualFunc___float32___float32_float32_float32__impl_SameNumber a0 a1 ;
  .leaf x0)
def impl_sameNumbers (a0 : List Nat) (a1 : List Nat) : Bool := (impl_sameNumbers_tree a0 a1).val
def impl_sameNumbers_need (a0 : List Nat) (a1 : List Nat) : Bool := (impl_sameNumbers_tree a0 a1).ok
def impl_sameNumbers_mk (p : Bool) : Ret := ⟨.bool p, []⟩
def impl_sameNumbers_c0 : Con := fun args => match args with
  | [.vslc 1 (.flt .f32) a0, .vslc 2 (.flt .f32) a1] => some (.need (impl_sameNumbers_need a0 a1) (.leaf (impl_sameNumbers_mk (impl_sameNumbers a0 a1))))
  | _ => none
set_option maxRecDepth 100000 in
theorem impl_sameNumbers_ok0 : FunOK Try.prog 48 impl_sameNumbers_c0.fn := by
  refine con_ok (Γ := gam [(61, slices_EqualFunc___float32___float32_float32_float32__impl_SameNumber_c)]) (gam_cons slices_EqualFunc___float32___float32_float32_float32__impl_SameNumber_ok (gam_nil)) tab_ok (by kernel_rfl) Try.func48 (by kernel_rfl) (by kernel_rfl) Try.ntmps48 Try.results48 (loopsOK_none rfl _) 100000 fun args t h => ?_
  unfold impl_sameNumbers_c0 at h
  split at h
  · rename_i a0 a1
    cases h
    exact ⟨rfl, agree_need (mk := impl_sameNumbers_mk) (t := impl_sameNumbers_tree a0 a1) (by unfold Agree; kernel_rfl)⟩
  · cases h
def impl_sameNumbers_c : Con := fun args => impl_sameNumbers_c0 (norms 0 [.slc (.flt .f32), .slc (.flt .f32)] args)
set_option maxRecDepth 100000 in
theorem impl_sameNumbers_ok : FunOK Try.prog 48 impl_sameNumbers_c.fn := con_norm [.slc (.flt .f32), .slc (.flt .f32)] impl_sameNumbers_ok0

/-- loop.example/g01284/impl.SameOrbit -/
def impl_SameOrbit_tree (a0 : Orbit) (a1 : Orbit) : DT (Bool) :=
  .need ((impl_sameNumbers_need ([a0.Long, a0.Round, a0.Tilt, a0.Node, a0.Peri, a0.Phase]) ([a1.Long, a1.Round, a1.Tilt, a1.Node, a1.Peri, a1.Phase]))) (
  let x0 := impl_sameNumbers ([a0.Long, a0.Round, a0.Tilt, a0.Node, a0.Peri, a0.Phase]) ([a1.Long, a1.Round, a1.Tilt, a1.Node, a1.Peri, a1.Phase]);
  .leaf x0)
def impl_SameOrbit (a0 : Orbit) (a1 : Orbit) : Bool := (impl_SameOrbit_tree a0 a1).val
def impl_SameOrbit_need (a0 : Orbit) (a1 : Orbit) : Bool := (impl_SameOrbit_tree a0 a1).ok
def impl_SameOrbit_mk (p : Bool) : Ret := ⟨.bool p, []⟩
def impl_SameOrbit_c : Con := fun args => match args with
  | [.agg [.flt .f32 a0_0, .flt .f32 a0_1, .flt .f32 a0_2, .flt .f32 a0_3, .flt .f32 a0_4, .flt .f32 a0_5], .agg [.flt .f32 a1_0, .flt .f32 a1_1, .flt .f32 a1_2, .flt .f32 a1_3, .flt .f32 a1_4, .flt .f32 a1_5]] => some (.need (impl_SameOrbit_need (⟨a0_0, a0_1, a0_2, a0_3, a0_4, a0_5⟩ : Orbit) (⟨a1_0, a1_1, a1_2, a1_3, a1_4, a1_5⟩ : Orbit)) (.leaf (impl_SameOrbit_mk (impl_SameOrbit (⟨a0_0, a0_1, a0_2, a0_3, a0_4, a0_5⟩ : Orbit) (⟨a1_0, a1_1, a1_2, a1_3, a1_4, a1_5⟩ : Orbit)))))
  | _ => none
set_option maxRecDepth 100000 in
theorem impl_SameOrbit_ok : FunOK Try.prog 34 impl_SameOrbit_c.fn := by
  refine con_ok (Γ := gam [(48, impl_sameNumbers_c)]) (gam_cons impl_sameNumbers_ok (gam_nil)) tab_ok (by kernel_rfl) Try.func34 (by kernel_rfl) (by kernel_rfl) Try.ntmps34 Try.results34 (loopsOK_none rfl _) 100000 fun args t h => ?_
  unfold impl_SameOrbit_c at h
  split at h
  · rename_i a0_0 a0_1 a0_2 a0_3 a0_4 a0_5 a1_0 a1_1 a1_2 a1_3 a1_4 a1_5
    cases h
    exact ⟨rfl, agree_need (mk := impl_SameOrbit_mk) (t := impl_SameOrbit_tree (⟨a0_0, a0_1, a0_2, a0_3, a0_4, a0_5⟩ : Orbit) (⟨a1_0, a1_1, a1_2, a1_3, a1_4, a1_5⟩ : Orbit)) (by unfold Agree; kernel_rfl)⟩
  · cases h

/-- loop.example/g01284/impl.SameEntries$1 -/
def impl_SameEntries_1_tree (a0 : Entry) (a1 : Entry) : DT (Bool) :=
  let x0 := (a0.Name == a1.Name);
  .ask x0
  (
   .need ((impl_SameNumber_need a0.Mass a1.Mass)) (
   let x1 := impl_SameNumber a0.Mass a1.Mass;
   .ask x1
   (
    .need ((impl_SameOrbit_need (⟨a0.Orb.Long, a0.Orb.Round, a0.Orb.Tilt, a0.Orb.Node, a0.Orb.Peri, a0.Orb.Phase⟩ : Orbit) (⟨a1.Orb.Long, a1.Orb.Round, a1.Orb.Tilt, a1.Orb.Node, a1.Orb.Peri, a1.Orb.Phase⟩ : Orbit))) (
    let x2 := impl_SameOrbit (⟨a0.Orb.Long, a0.Orb.Round, a0.Orb.Tilt, a0.Orb.Node, a0.Orb.Peri, a0.Orb.Phase⟩ : Orbit) (⟨a1.Orb.Long, a1.Orb.Round, a1.Orb.Tilt, a1.Orb.Node, a1.Orb.Peri, a1.Orb.Phase⟩ : Orbit);
    .leaf x2))
   (
    .leaf false)))
  (
   .leaf false)
def impl_SameEntries_1 (a0 : Entry) (a1 : Entry) : Bool := (impl_SameEntries_1_tree a0 a1).val
def impl_SameEntries_1_need (a0 : Entry) (a1 : Entry) : Bool := (impl_SameEntries_1_tree a0 a1).ok
def impl_SameEntries_1_mk (p : Bool) : Ret := ⟨.bool p, []⟩
def impl_SameEntries_1_c : Con := fun args => match args with
  | [.agg [.str a0_0, .flt .f32 a0_1, .flt .f32 a0_2, .flt .f32 a0_3, .flt .f32 a0_4, .flt .f32 a0_5, .flt .f32 a0_6, .flt .f32 a0_7], .agg [.str a1_0, .flt .f32 a1_1, .flt .f32 a1_2, .flt .f32 a1_3, .flt .f32 a1_4, .flt .f32 a1_5, .flt .f32 a1_6, .flt .f32 a1_7]] => some (.need (impl_SameEntries_1_need (⟨a0_0, a0_1, ⟨a0_2, a0_3, a0_4, a0_5, a0_6, a0_7⟩⟩ : Entry) (⟨a1_0, a1_1, ⟨a1_2, a1_3, a1_4, a1_5, a1_6, a1_7⟩⟩ : Entry)) (.leaf (impl_SameEntries_1_mk (impl_SameEntries_1 (⟨a0_0, a0_1, ⟨a0_2, a0_3, a0_4, a0_5, a0_6, a0_7⟩⟩ : Entry) (⟨a1_0, a1_1, ⟨a1_2, a1_3, a1_4, a1_5, a1_6, a1_7⟩⟩ : Entry)))))
  | _ => none
set_option maxRecDepth 100000 in
theorem impl_SameEntries_1_ok : FunOK Try.prog 32 impl_SameEntries_1_c.fn := by
  refine con_ok (Γ := gam [(33, impl_SameNumber_c), (34, impl_SameOrbit_c)]) (gam_cons impl_SameNumber_ok (gam_cons impl_SameOrbit_ok (gam_nil))) tab_ok (by kernel_rfl) Try.func32 (by kernel_rfl) (by kernel_rfl) Try.ntmps32 Try.results32 (loopsOK_none rfl _) 100000 fun args t h => ?_
  unfold impl_SameEntries_1_c at h
  split at h
  · rename_i a0_0 a0_1 a0_2 a0_3 a0_4 a0_5 a0_6 a0_7 a1_0 a1_1 a1_2 a1_3 a1_4 a1_5 a1_6 a1_7
    cases h
    exact ⟨rfl, agree_need (mk := impl_SameEntries_1_mk) (t := impl_SameEntries_1_tree (⟨a0_0, a0_1, ⟨a0_2, a0_3, a0_4, a0_5, a0_6, a0_7⟩⟩ : Entry) (⟨a1_0, a1_1, ⟨a1_2, a1_3, a1_4, a1_5, a1_6, a1_7⟩⟩ : Entry)) (by unfold Agree; kernel_rfl)⟩
  · cases h

/-- a loop of slices_EqualFunc___impl_Entry___impl_Entry_impl_Entry_impl_Entry__impl_SameEntries_1 -/
def slices_EqualFunc___impl_Entry___impl_Entry_impl_Entry_impl_Entry__impl_SameEntries_1_loop0_step (p : List Entry × List Entry × Int) (s : Int) : Round (Int) ((Unit) ⊕ (Unit)) :=
  let x0 := decide (s < p.2.2);
  .ask x0
  (
   .need ((decide (0 ≤ s) && decide (s < ((List.length p.2.1 : Nat) : Int)))) (
   let x1 := List.getD p.2.1 (Int.toNat s) default;
   .need ((decide (0 ≤ s) && decide (s < ((List.length p.1 : Nat) : Int)))) (
   let x2 := List.getD p.1 (Int.toNat s) default;
   .need ((impl_SameEntries_1_need (⟨x1.Name, x1.Mass, ⟨x1.Orb.Long, x1.Orb.Round, x1.Orb.Tilt, x1.Orb.Node, x1.Orb.Peri, x1.Orb.Phase⟩⟩ : Entry) (⟨x2.Name, x2.Mass, ⟨x2.Orb.Long, x2.Orb.Round, x2.Orb.Tilt, x2.Orb.Node, x2.Orb.Peri, x2.Orb.Phase⟩⟩ : Entry))) (
   let x3 := impl_SameEntries_1 (⟨x1.Name, x1.Mass, ⟨x1.Orb.Long, x1.Orb.Round, x1.Orb.Tilt, x1.Orb.Node, x1.Orb.Peri, x1.Orb.Phase⟩⟩ : Entry) (⟨x2.Name, x2.Mass, ⟨x2.Orb.Long, x2.Orb.Round, x2.Orb.Tilt, x2.Orb.Node, x2.Orb.Peri, x2.Orb.Phase⟩⟩ : Entry);
   .ask (!x3)
   (
    .leaf (.inr (.inl ()), []))
   (
    let x4 := IntKind.wrap .i64 (s + 1);
    .leaf (.inl x4, []))))))
  (
   .leaf (.inr (.inr ()), []))
def slices_EqualFunc___impl_Entry___impl_Entry_impl_Entry_impl_Entry__impl_SameEntries_1_loop0_L (p : List Entry × List Entry × Int) : LoopS (Int) ((Unit) ⊕ (Unit)) := { tl := fun s => [.junk, .vslc 2 .entry p.1, .func (.func 32) [] [], .junk, .junk, .junk, .junk, .junk, .junk, .junk, .junk, .junk, .junk, .junk, .junk, .vslc 1 .entry p.2.1, .int .i64 p.2.2, .int .i64 s], hl := fun s => [], ex := fun r => match r with | .inl r => .ret | .inr r => .exit 0, otl := fun r => match r with | .inl r => [.junk, .junk, .junk, .junk, .junk, .junk, .bool false] | .inr r => [.junk], ohl := fun r => match r with | .inl r => [] | .inr r => [] }
def slices_EqualFunc___impl_Entry___impl_Entry_impl_Entry_impl_Entry__impl_SameEntries_1_loop0_ext : St → Option ((List Entry × List Entry × Int) × (Int) × List Nat) := fun S => match (S.tm 1).unK, (S.tm 2).unK, (S.tm 15).unK, (S.tm 16).unK, (S.tm 17).unK with
  | .vslc 2 .entry q0, .func (.func 32) [] [], .vslc 1 .entry q1, .int .i64 q2, .int .i64 q3 => some ((q0, q1, q2), q3, [])
  | _, _, _, _, _ => none
def slices_EqualFunc___impl_Entry___impl_Entry_impl_Entry_impl_Entry__impl_SameEntries_1_loop0_post (p : List Entry × List Entry × Int) (r : (Unit) ⊕ (Unit)) : DT (Ex × St) := .ask (isL r) (.leaf (.ret, LSt [.junk, .junk, .junk, .junk, .junk, .junk, .bool false] [])) (.leaf (.exit 0, LSt [.junk] []))
def slices_EqualFunc___impl_Entry___impl_Entry_impl_Entry_impl_Entry__impl_SameEntries_1_loop0 (p : List Entry × List Entry × Int) (s : Int) : (Unit) ⊕ (Unit) := loopVal (slices_EqualFunc___impl_Entry___impl_Entry_impl_Entry_impl_Entry__impl_SameEntries_1_loop0_step p) s
def slices_EqualFunc___impl_Entry___impl_Entry_impl_Entry_impl_Entry__impl_SameEntries_1_loop0_ends (p : List Entry × List Entry × Int) (s : Int) : Bool := loopEnds (slices_EqualFunc___impl_Entry___impl_Entry_impl_Entry_impl_Entry__impl_SameEntries_1_loop0_step p) s
def slices_EqualFunc___impl_Entry___impl_Entry_impl_Entry_impl_Entry__impl_SameEntries_1_loop0_F : LoopF := loopF slices_EqualFunc___impl_Entry___impl_Entry_impl_Entry_impl_Entry__impl_SameEntries_1_loop0_step slices_EqualFunc___impl_Entry___impl_Entry_impl_Entry_impl_Entry__impl_SameEntries_1_loop0_ext slices_EqualFunc___impl_Entry___impl_Entry_impl_Entry_impl_Entry__impl_SameEntries_1_loop0_post
set_option maxRecDepth 100000 in
theorem slices_EqualFunc___impl_Entry___impl_Entry_impl_Entry_impl_Entry__impl_SameEntries_1_loop0_hext : ∀ S p s fl, slices_EqualFunc___impl_Entry___impl_Entry_impl_Entry_impl_Entry__impl_SameEntries_1_loop0_ext S = some (p, s, fl) → Norm S fl ((slices_EqualFunc___impl_Entry___impl_Entry_impl_Entry_impl_Entry__impl_SameEntries_1_loop0_L p).tl s) ((slices_EqualFunc___impl_Entry___impl_Entry_impl_Entry_impl_Entry__impl_SameEntries_1_loop0_L p).hl s) (slices_EqualFunc___impl_Entry___impl_Entry_impl_Entry_impl_Entry__impl_SameEntries_1_loop0_L p).gl := by
  intro S p s fl h
  unfold slices_EqualFunc___impl_Entry___impl_Entry_impl_Entry_impl_Entry__impl_SameEntries_1_loop0_ext at h
  (repeat' split at h) <;> first
    | (cases h; constructor <;> simp_all [slices_EqualFunc___impl_Entry___impl_Entry_impl_Entry_impl_Entry__impl_SameEntries_1_loop0_L, keepT, keepH, rens, renH, PV.ren, Blk.ren, fOf, lget, nodup, natIn, lenEq, gtm, PV.unK])
    | cases h
set_option maxRecDepth 100000 in
theorem slices_EqualFunc___impl_Entry___impl_Entry_impl_Entry_impl_Entry__impl_SameEntries_1_loop0_hpost : ∀ p r e S', (slices_EqualFunc___impl_Entry___impl_Entry_impl_Entry_impl_Entry__impl_SameEntries_1_loop0_post p r).get = some (e, S') → e = (slices_EqualFunc___impl_Entry___impl_Entry_impl_Entry_impl_Entry__impl_SameEntries_1_loop0_L p).ex r ∧ S' = LSt ((slices_EqualFunc___impl_Entry___impl_Entry_impl_Entry_impl_Entry__impl_SameEntries_1_loop0_L p).otl r) ((slices_EqualFunc___impl_Entry___impl_Entry_impl_Entry_impl_Entry__impl_SameEntries_1_loop0_L p).ohl r) ((slices_EqualFunc___impl_Entry___impl_Entry_impl_Entry_impl_Entry__impl_SameEntries_1_loop0_L p).ogl r) := by
  intro p r e S' h
  unfold slices_EqualFunc___impl_Entry___impl_Entry_impl_Entry_impl_Entry__impl_SameEntries_1_loop0_post at h
  cases r <;> (simp only [isL, DT.get, Option.some.injEq, Prod.mk.injEq] at h; exact ⟨h.1.symm, h.2.symm⟩)

def slices_EqualFunc___impl_Entry___impl_Entry_impl_Entry_impl_Entry__impl_SameEntries_1_loops : Nat → Option LoopF := loopTab [(4, slices_EqualFunc___impl_Entry___impl_Entry_impl_Entry_impl_Entry__impl_SameEntries_1_loop0_F)]
set_option maxRecDepth 100000 in
theorem slices_EqualFunc___impl_Entry___impl_Entry_impl_Entry_impl_Entry__impl_SameEntries_1_l0 : LoopOK Try.prog ⟨gam [(32, impl_SameEntries_1_c)], tab, 32, slices_EqualFunc___impl_Entry___impl_Entry_impl_Entry_impl_Entry__impl_SameEntries_1_loops⟩ (lp Try.f31 0) :=
  loopOK_some (F := slices_EqualFunc___impl_Entry___impl_Entry_impl_Entry_impl_Entry__impl_SameEntries_1_loop0_F) (by kernel_rfl) (loopF_ok (E := ⟨gam [(32, impl_SameEntries_1_c)], tab, 32, slices_EqualFunc___impl_Entry___impl_Entry_impl_Entry_impl_Entry__impl_SameEntries_1_loops⟩) ⟨gam_cons impl_SameEntries_1_ok (gam_nil), tab_ok, by kernel_rfl⟩ (fuel := 100000) (loopsOK_list (l := []) (by kernel_rfl) trivial) (L := slices_EqualFunc___impl_Entry___impl_Entry_impl_Entry_impl_Entry__impl_SameEntries_1_loop0_L) (fun p s => by unfold AgreeL; exact ⟨by kernel_rfl, by kernel_rfl⟩) (fun _ r h => by cases r <;> exact Ex.noConfusion h) slices_EqualFunc___impl_Entry___impl_Entry_impl_Entry_impl_Entry__impl_SameEntries_1_loop0_hext slices_EqualFunc___impl_Entry___impl_Entry_impl_Entry_impl_Entry__impl_SameEntries_1_loop0_hpost)
/-- slices.EqualFunc[[]loop.example/g01284/impl.Entry,[]loop.example/g01284/impl.Entry,loop.example/g01284/impl.Entry,loop.example/g01284/impl.Entry] -/
def slices_EqualFunc___impl_Entry___impl_Entry_impl_Entry_impl_Entry__impl_SameEntries_1_tree (a0 : List Entry) (a1 : List Entry) : DT (Bool) :=
  let x0 := ((List.length a0 : Nat) : Int);
  let x1 := ((List.length a1 : Nat) : Int);
  let x2 := (x0 != x1);
  .ask x2
  (
   .leaf false)
  (
   let x3 := ((List.length a0 : Nat) : Int);
   .need ((slices_EqualFunc___impl_Entry___impl_Entry_impl_Entry_impl_Entry__impl_SameEntries_1_loop0_ends (a1, a0, x3) 0)) (
   let x4 := slices_EqualFunc___impl_Entry___impl_Entry_impl_Entry_impl_Entry__impl_SameEntries_1_loop0 (a1, a0, x3) 0;
   .ask ((isL x4))
   (
    .leaf false)
   (
    .leaf true)))
def slices_EqualFunc___impl_Entry___impl_Entry_impl_Entry_impl_Entry__impl_SameEntries_1 (a0 : List Entry) (a1 : List Entry) : Bool := (slices_EqualFunc___impl_Entry___impl_Entry_impl_Entry_impl_Entry__impl_SameEntries_1_tree a0 a1).val
def slices_EqualFunc___impl_Entry___impl_Entry_impl_Entry_impl_Entry__impl_SameEntries_1_need (a0 : List Entry) (a1 : List Entry) : Bool := (slices_EqualFunc___impl_Entry___impl_Entry_impl_Entry_impl_Entry__impl_SameEntries_1_tree a0 a1).ok
def slices_EqualFunc___impl_Entry___impl_Entry_impl_Entry_impl_Entry__impl_SameEntries_1_mk (p : Bool) : Ret := ⟨.bool p, []⟩
def slices_EqualFunc___impl_Entry___impl_Entry_impl_Entry_impl_Entry__impl_SameEntries_1_c0 : Con := fun args => match args with
  | [.vslc 1 .entry a0, .vslc 2 .entry a1, .func (.func 32) [] []] => some (.need (slices_EqualFunc___impl_Entry___impl_Entry_impl_Entry_impl_Entry__impl_SameEntries_1_need a0 a1) (.leaf (slices_EqualFunc___impl_Entry___impl_Entry_impl_Entry_impl_Entry__impl_SameEntries_1_mk (slices_EqualFunc___impl_Entry___impl_Entry_impl_Entry_impl_Entry__impl_SameEntries_1 a0 a1))))
  | _ => none
set_option maxRecDepth 100000 in
theorem slices_EqualFunc___impl_Entry___impl_Entry_impl_Entry_impl_Entry__impl_SameEntries_1_ok0 : FunOK Try.prog 31 slices_EqualFunc___impl_Entry___impl_Entry_impl_Entry_impl_Entry__impl_SameEntries_1_c0.fn := by
  refine con_ok (Γ := gam [(32, impl_SameEntries_1_c)]) (gam_cons impl_SameEntries_1_ok (gam_nil)) tab_ok (by kernel_rfl) Try.func31 (by kernel_rfl) (by kernel_rfl) Try.ntmps31 Try.results31 (loops := slices_EqualFunc___impl_Entry___impl_Entry_impl_Entry_impl_Entry__impl_SameEntries_1_loops) (loopsOK_list (l := [lp Try.f31 0]) (by kernel_rfl) ⟨slices_EqualFunc___impl_Entry___impl_Entry_impl_Entry_impl_Entry__impl_SameEntries_1_l0, trivial⟩) 100000 fun args t h => ?_
  unfold slices_EqualFunc___impl_Entry___impl_Entry_impl_Entry_impl_Entry__impl_SameEntries_1_c0 at h
  split at h
  · rename_i a0 a1
    cases h
    exact ⟨rfl, agree_need (mk := slices_EqualFunc___impl_Entry___impl_Entry_impl_Entry_impl_Entry__impl_SameEntries_1_mk) (t := slices_EqualFunc___impl_Entry___impl_Entry_impl_Entry_impl_Entry__impl_SameEntries_1_tree a0 a1) (by unfold Agree; kernel_rfl)⟩
  · cases h
def slices_EqualFunc___impl_Entry___impl_Entry_impl_Entry_impl_Entry__impl_SameEntries_1_c : Con := fun args => slices_EqualFunc___impl_Entry___impl_Entry_impl_Entry_impl_Entry__impl_SameEntries_1_c0 (norms 0 [.slc .entry, .slc .entry, .none] args)
set_option maxRecDepth 100000 in
theorem slices_EqualFunc___impl_Entry___impl_Entry_impl_Entry_impl_Entry__impl_SameEntries_1_ok : FunOK Try.prog 31 slices_EqualFunc___impl_Entry___impl_Entry_impl_Entry_impl_Entry__impl_SameEntries_1_c.fn := con_norm [.slc .entry, .slc .entry, .none] slices_EqualFunc___impl_Entry___impl_Entry_impl_Entry_impl_Entry__impl_SameEntries_1_ok0

/-- loop.example/g01284/impl.SameEntries -/
def impl_SameEntries_tree (a0 : List Entry) (a1 : List Entry) : DT (Bool) :=
  .need ((slices_EqualFunc___impl_Entry___impl_Entry_impl_Entry_impl_Entry__impl_SameEntries_1_need a0 a1 )) (
  let x0 := slices_EqualFunc___impl_Entry___impl_Entry_impl_Entry_impl_Entry__impl_SameEntries_1 a0 a1 ;
  .leaf x0)
def impl_SameEntries (a0 : List Entry) (a1 : List Entry) : Bool := (impl_SameEntries_tree a0 a1).val
def impl_SameEntries_need (a0 : List Entry) (a1 : List Entry) : Bool := (impl_SameEntries_tree a0 a1).ok
def impl_SameEntries_mk (p : Bool) : Ret := ⟨.bool p, []⟩
def impl_SameEntries_c0 : Con := fun args => match args with
  | [.vslc 1 .entry a0, .vslc 2 .entry a1] => some (.need (impl_SameEntries_need a0 a1) (.leaf (impl_SameEntries_mk (impl_SameEntries a0 a1))))
  | _ => none
set_option maxRecDepth 100000 in
theorem impl_SameEntries_ok0 : FunOK Try.prog 13 impl_SameEntries_c0.fn := by
  refine con_ok (Γ := gam [(31, slices_EqualFunc___impl_Entry___impl_Entry_impl_Entry_impl_Entry__impl_SameEntries_1_c)]) (gam_cons slices_EqualFunc___impl_Entry___impl_Entry_impl_Entry_impl_Entry__impl_SameEntries_1_ok (gam_nil)) tab_ok (by kernel_rfl) Try.func13 (by kernel_rfl) (by kernel_rfl) Try.ntmps13 Try.results13 (loopsOK_none rfl _) 100000 fun args t h => ?_
  unfold impl_SameEntries_c0 at h
  split at h
  · rename_i a0 a1
    cases h
    exact ⟨rfl, agree_need (mk := impl_SameEntries_mk) (t := impl_SameEntries_tree a0 a1) (by unfold Agree; kernel_rfl)⟩
  · cases h
def impl_SameEntries_c : Con := fun args => impl_SameEntries_c0 (norms 0 [.slc .entry, .slc .entry] args)
set_option maxRecDepth 100000 in
theorem impl_SameEntries_ok : FunOK Try.prog 13 impl_SameEntries_c.fn := con_norm [.slc .entry, .slc .entry] impl_SameEntries_ok0

/-- (loop.example/g01284/impl.Orbit).numbers -/
def impl_Orbit_numbers_tree (a0 : Orbit) : DT (List Nat) :=
  .leaf ([a0.Long, a0.Round, a0.Tilt, a0.Node, a0.Peri, a0.Phase])
def impl_Orbit_numbers (a0 : Orbit) : List Nat := (impl_Orbit_numbers_tree a0).val
def impl_Orbit_numbers_mk (p : List Nat) : Ret := ⟨.own 0, [.typed 28 (.flt .f32) p]⟩
def impl_Orbit_numbers_c : Con := fun args => match args with
  | [.agg [.flt .f32 a0_0, .flt .f32 a0_1, .flt .f32 a0_2, .flt .f32 a0_3, .flt .f32 a0_4, .flt .f32 a0_5]] => some (.leaf (impl_Orbit_numbers_mk (impl_Orbit_numbers (⟨a0_0, a0_1, a0_2, a0_3, a0_4, a0_5⟩ : Orbit))))
  | _ => none
set_option maxRecDepth 100000 in
theorem impl_Orbit_numbers_ok : FunOK Try.prog 49 impl_Orbit_numbers_c.fn := by
  refine con_ok (Γ := gam []) (gam_nil) tab_ok (by kernel_rfl) Try.func49 (by kernel_rfl) (by kernel_rfl) Try.ntmps49 Try.results49 (loopsOK_none rfl _) 100000 fun args t h => ?_
  unfold impl_Orbit_numbers_c at h
  split at h
  · rename_i a0_0 a0_1 a0_2 a0_3 a0_4 a0_5
    cases h
    exact ⟨rfl, agree_tot (mk := impl_Orbit_numbers_mk) (t := impl_Orbit_numbers_tree (⟨a0_0, a0_1, a0_2, a0_3, a0_4, a0_5⟩ : Orbit)) (by unfold Agree; kernel_rfl) (by kernel_rfl)⟩
  · cases h

/-- loop.example/g01284/impl.BitsOf -/
def impl_BitsOf_tree (a0 : Nat) : DT (Int) :=
  let x0 := fne .f32 a0 a0;
  .ask x0
  (
   .leaf 2143289344)
  (
   .need ((!isNaN .f32 a0)) (
   let x1 := IntKind.wrap .i64 ((a0 : Nat) : Int);
   .leaf x1))
def impl_BitsOf (a0 : Nat) : Int := (impl_BitsOf_tree a0).val
def impl_BitsOf_need (a0 : Nat) : Bool := (impl_BitsOf_tree a0).ok
def impl_BitsOf_mk (p : Int) : Ret := ⟨.int .i64 p, []⟩
def impl_BitsOf_c : Con := fun args => match args with
  | [.flt .f32 a0] => some (.need (impl_BitsOf_need a0) (.leaf (impl_BitsOf_mk (impl_BitsOf a0))))
  | _ => none
set_option maxRecDepth 100000 in
theorem impl_BitsOf_ok : FunOK Try.prog 50 impl_BitsOf_c.fn := by
  refine con_ok (Γ := gam [(62, math_Float32bits_c)]) (gam_cons math_Float32bits_ok (gam_nil)) tab_ok (by kernel_rfl) Try.func50 (by kernel_rfl) (by kernel_rfl) Try.ntmps50 Try.results50 (loopsOK_none rfl _) 100000 fun args t h => ?_
  unfold impl_BitsOf_c at h
  split at h
  · rename_i a0
    cases h
    exact ⟨rfl, agree_need (mk := impl_BitsOf_mk) (t := impl_BitsOf_tree a0) (by unfold Agree; kernel_rfl)⟩
  · cases h

/-- a loop of impl_check -/
def impl_check_loop0_step (p : (List UInt8) × Int) (s : Int × Int) : Round (Int × Int) (Int) :=
  let x0 := decide (s.2 < p.2);
  .ask x0
  (
   let x1 := IntKind.wrap .i64 (809 * s.1);
   .need ((decide (0 ≤ s.2) && decide (s.2 < ((List.length p.1 : Nat) : Int)))) (
   let x2 := ((List.getD (p.1 : List UInt8) (Int.toNat s.2) 0).toNat : Int);
   let x3 := IntKind.wrap .i64 x2;
   let x4 := IntKind.wrap .i64 (x1 + x3);
   let x5 := IntKind.wrap .i64 (x4 + 103);
   .skip (
   let x6 := Int.tmod x5 65003;
   let x7 := IntKind.wrap .i64 (s.2 + 1);
   .leaf (.inl (x6, x7), []))))
  (
   .leaf (.inr s.1, []))
def impl_check_loop0_L (p : (List UInt8) × Int) : LoopS (Int × Int) (Int) := { tl := fun s => [.int .i64 s.1, .str p.1, .junk, .junk, .junk, .junk, .junk, .int .i64 p.2, .int .i64 s.2], hl := fun s => [], ex := fun r => .exit 0, otl := fun r => [.int .i64 r], ohl := fun r => [] }
def impl_check_loop0_ext : St → Option (((List UInt8) × Int) × (Int × Int) × List Nat) := fun S => match (S.tm 0).unK, (S.tm 1).unK, (S.tm 7).unK, (S.tm 8).unK with
  | .int .i64 q0, .str q1, .int .i64 q2, .int .i64 q3 => some ((q1, q2), (q0, q3), [])
  | _, _, _, _ => none
def impl_check_loop0_post (p : (List UInt8) × Int) (r : Int) : DT (Ex × St) := .leaf (.exit 0, LSt [.int .i64 r] [])
def impl_check_loop0 (p : (List UInt8) × Int) (s : Int × Int) : Int := loopVal (impl_check_loop0_step p) s
def impl_check_loop0_ends (p : (List UInt8) × Int) (s : Int × Int) : Bool := loopEnds (impl_check_loop0_step p) s
def impl_check_loop0_F : LoopF := loopF impl_check_loop0_step impl_check_loop0_ext impl_check_loop0_post
set_option maxRecDepth 100000 in
theorem impl_check_loop0_hext : ∀ S p s fl, impl_check_loop0_ext S = some (p, s, fl) → Norm S fl ((impl_check_loop0_L p).tl s) ((impl_check_loop0_L p).hl s) (impl_check_loop0_L p).gl := by
  intro S p s fl h
  unfold impl_check_loop0_ext at h
  (repeat' split at h) <;> first
    | (cases h; constructor <;> simp_all [impl_check_loop0_L, keepT, keepH, rens, renH, PV.ren, Blk.ren, fOf, lget, nodup, natIn, lenEq, gtm, PV.unK])
    | cases h
set_option maxRecDepth 100000 in
theorem impl_check_loop0_hpost : ∀ p r e S', (impl_check_loop0_post p r).get = some (e, S') → e = (impl_check_loop0_L p).ex r ∧ S' = LSt ((impl_check_loop0_L p).otl r) ((impl_check_loop0_L p).ohl r) ((impl_check_loop0_L p).ogl r) := by
  intro p r e S' h
  unfold impl_check_loop0_post at h
  simp only [DT.get, Option.some.injEq, Prod.mk.injEq] at h; exact ⟨h.1.symm, h.2.symm⟩

def impl_check_loops : Nat → Option LoopF := loopTab [(2, impl_check_loop0_F)]
set_option maxRecDepth 100000 in
theorem impl_check_l0 : LoopOK Try.prog ⟨gam [], tab, 22, impl_check_loops⟩ (lp Try.f51 0) :=
  loopOK_some (F := impl_check_loop0_F) (by kernel_rfl) (loopF_ok (E := ⟨gam [], tab, 22, impl_check_loops⟩) ⟨gam_nil, tab_ok, by kernel_rfl⟩ (fuel := 100000) (loopsOK_list (l := []) (by kernel_rfl) trivial) (L := impl_check_loop0_L) (fun p s => by unfold AgreeL; exact ⟨by kernel_rfl, by kernel_rfl⟩) (fun _ _ h => Ex.noConfusion h) impl_check_loop0_hext impl_check_loop0_hpost)
/-- loop.example/g01284/impl.check -/
def impl_check_tree (a0 : Int) (a1 : (List UInt8)) : DT (Int) :=
  let x0 := ((List.length a1 : Nat) : Int);
  .need ((impl_check_loop0_ends (a1, x0) (a0, 0))) (
  let x1 := impl_check_loop0 (a1, x0) (a0, 0);
  .leaf x1)
def impl_check (a0 : Int) (a1 : (List UInt8)) : Int := (impl_check_tree a0 a1).val
def impl_check_need (a0 : Int) (a1 : (List UInt8)) : Bool := (impl_check_tree a0 a1).ok
def impl_check_mk (p : Int) : Ret := ⟨.int .i64 p, []⟩
def impl_check_c : Con := fun args => match args with
  | [.int .i64 a0, .str a1] => some (.need (impl_check_need a0 a1) (.leaf (impl_check_mk (impl_check a0 a1))))
  | _ => none
set_option maxRecDepth 100000 in
theorem impl_check_ok : FunOK Try.prog 51 impl_check_c.fn := by
  refine con_ok (Γ := gam []) (gam_nil) tab_ok (by kernel_rfl) Try.func51 (by kernel_rfl) (by kernel_rfl) Try.ntmps51 Try.results51 (loops := impl_check_loops) (loopsOK_list (l := [lp Try.f51 0]) (by kernel_rfl) ⟨impl_check_l0, trivial⟩) 100000 fun args t h => ?_
  unfold impl_check_c at h
  split at h
  · rename_i a0 a1
    cases h
    exact ⟨rfl, agree_need (mk := impl_check_mk) (t := impl_check_tree a0 a1) (by unfold Agree; kernel_rfl)⟩
  · cases h

/-- a loop of impl_storeEntry -/
def impl_storeEntry_loop0_step (p : Int × List Nat) (s : Int × List Int) : Round (Int × List Int) (List Int) :=
  let x0 := decide (s.1 < p.1);
  .ask x0
  (
   .need ((decide (0 ≤ s.1) && decide (s.1 < ((List.length p.2 : Nat) : Int)))) (
   .need ((decide ((Int.toNat s.1) < List.length p.2))) (
   let x1 := List.getD p.2 (Int.toNat s.1) default;
   .need ((impl_BitsOf_need x1)) (
   let x2 := impl_BitsOf x1;
   let x3 := IntKind.wrap .u8 x2;
   .skip (
   let x4 := Int.fdiv x2 (2 ^ (min (Int.toNat 8) (IntKind.bits .i64)));
   let x5 := IntKind.wrap .u8 x4;
   .skip (
   let x6 := Int.fdiv x2 (2 ^ (min (Int.toNat 16) (IntKind.bits .i64)));
   let x7 := IntKind.wrap .u8 x6;
   .skip (
   let x8 := Int.fdiv x2 (2 ^ (min (Int.toNat 24) (IntKind.bits .i64)));
   let x9 := IntKind.wrap .u8 x8;
   .need ((decide ((List.length s.2 + List.length [x3, x5, x7, x9]) * 1 ≤ 140737488355328) && decide (List.length s.2 + List.length [x3, x5, x7, x9] ≤ 9223372036854775807))) (
   let x10 := s.2 ++ [x3, x5, x7, x9];
   let x11 := IntKind.wrap .i64 (s.1 + 1);
   .leaf (.inl (x11, x10), [162, 1])))))))))
  (
   .leaf (.inr s.2, [0]))
def impl_storeEntry_loop0_L (p : Int × List Nat) : LoopS (Int × List Int) (List Int) := { tl := fun s => [.junk, .junk, .junk, .own 0, .junk, .junk, .junk, .junk, .junk, .junk, .junk, .junk, .junk, .junk, .junk, .junk, .junk, .junk, .junk, .junk, .junk, .junk, .junk, .junk, .junk, .junk, .own 1, .int .i64 p.1, .int .i64 s.1], hl := fun s => [some (.typed 5 (.int .u8) s.2), some (.typed 28 (.flt .f32) p.2)], ex := fun r => .exit 0, otl := fun r => [.junk, .junk, .junk, .own 0], ohl := fun r => [some (.typed 5 (.int .u8) r)] }
def impl_storeEntry_loop0_ext : St → Option ((Int × List Nat) × (Int × List Int) × List Nat) := fun S => match (S.tm 3).unK, (S.tm 26).unK, (S.tm 27).unK, (S.tm 28).unK with
  | .own i0, .own i1, .int .i64 q0, .int .i64 q1 => (match S.hp i0 with
    | some (.typed 5 (.int .u8) q2) => (match S.hp i1 with
    | some (.typed 28 (.flt .f32) q3) => (if nodup [i0, i1] = true then some ((q0, q3), (q1, q2), [i0, i1]) else none)
    | _ => none)
    | _ => none)
  | _, _, _, _ => none
def impl_storeEntry_loop0_post (p : Int × List Nat) (r : List Int) : DT (Ex × St) := .leaf (.exit 0, LSt [.junk, .junk, .junk, .own 0] [some (.typed 5 (.int .u8) r)])
def impl_storeEntry_loop0 (p : Int × List Nat) (s : Int × List Int) : List Int := loopVal (impl_storeEntry_loop0_step p) s
def impl_storeEntry_loop0_ends (p : Int × List Nat) (s : Int × List Int) : Bool := loopEnds (impl_storeEntry_loop0_step p) s
def impl_storeEntry_loop0_F : LoopF := loopF impl_storeEntry_loop0_step impl_storeEntry_loop0_ext impl_storeEntry_loop0_post
set_option maxRecDepth 100000 in
theorem impl_storeEntry_loop0_hext : ∀ S p s fl, impl_storeEntry_loop0_ext S = some (p, s, fl) → Norm S fl ((impl_storeEntry_loop0_L p).tl s) ((impl_storeEntry_loop0_L p).hl s) (impl_storeEntry_loop0_L p).gl := by
  intro S p s fl h
  unfold impl_storeEntry_loop0_ext at h
  (repeat' split at h) <;> first
    | (cases h; constructor <;> simp_all [impl_storeEntry_loop0_L, keepT, keepH, rens, renH, PV.ren, Blk.ren, fOf, lget, nodup, natIn, lenEq, gtm, PV.unK])
    | cases h
set_option maxRecDepth 100000 in
theorem impl_storeEntry_loop0_hpost : ∀ p r e S', (impl_storeEntry_loop0_post p r).get = some (e, S') → e = (impl_storeEntry_loop0_L p).ex r ∧ S' = LSt ((impl_storeEntry_loop0_L p).otl r) ((impl_storeEntry_loop0_L p).ohl r) ((impl_storeEntry_loop0_L p).ogl r) := by
  intro p r e S' h
  unfold impl_storeEntry_loop0_post at h
  simp only [DT.get, Option.some.injEq, Prod.mk.injEq] at h; exact ⟨h.1.symm, h.2.symm⟩

def impl_storeEntry_loops : Nat → Option LoopF := loopTab [(4, impl_storeEntry_loop0_F)]
set_option maxRecDepth 100000 in
theorem impl_storeEntry_l0 : LoopOK Try.prog ⟨gam [(49, impl_Orbit_numbers_c), (50, impl_BitsOf_c), (51, impl_check_c)], tab, 61, impl_storeEntry_loops⟩ (lp Try.f35 0) :=
  loopOK_some (F := impl_storeEntry_loop0_F) (by kernel_rfl) (loopF_ok (E := ⟨gam [(49, impl_Orbit_numbers_c), (50, impl_BitsOf_c), (51, impl_check_c)], tab, 61, impl_storeEntry_loops⟩) ⟨gam_cons impl_Orbit_numbers_ok (gam_cons impl_BitsOf_ok (gam_cons impl_check_ok (gam_nil))), tab_ok, by kernel_rfl⟩ (fuel := 100000) (loopsOK_list (l := []) (by kernel_rfl) trivial) (L := impl_storeEntry_loop0_L) (fun p s => by unfold AgreeL; exact ⟨by kernel_rfl, by kernel_rfl⟩) (fun _ _ h => Ex.noConfusion h) impl_storeEntry_loop0_hext impl_storeEntry_loop0_hpost)
/-- loop.example/g01284/impl.storeEntry -/
def impl_storeEntry_tree (a0 : Entry) : DT ((List UInt8)) :=
  .skip (
  let x0 := ((List.length a0.Name : Nat) : Int);
  let x1 := IntKind.wrap .u8 x0;
  .skip (
  let x2 := [79, 82, 66, 49] ++ [x1];
  .need ((decide ((List.length x2 + List.length (u8i a0.Name)) * 1 ≤ 140737488355328) && decide (List.length x2 + List.length (u8i a0.Name) ≤ 9223372036854775807))) (
  let x3 := x2 ++ (u8i a0.Name);
  let x4 := impl_Orbit_numbers (⟨a0.Orb.Long, a0.Orb.Round, a0.Orb.Tilt, a0.Orb.Node, a0.Orb.Peri, a0.Orb.Phase⟩ : Orbit);
  .need ((decide ((List.length [a0.Mass] + List.length x4) * 4 ≤ 140737488355328) && decide (List.length [a0.Mass] + List.length x4 ≤ 9223372036854775807))) (
  let x5 := [a0.Mass] ++ x4;
  let x6 := ((List.length x5 : Nat) : Int);
  .need ((impl_storeEntry_loop0_ends (x6, x5) (0, x3))) (
  let x7 := impl_storeEntry_loop0 (x6, x5) (0, x3);
  let x8 := strOf x7;
  .need ((impl_check_need 0 x8)) (
  let x9 := impl_check 0 x8;
  let x10 := IntKind.wrap .u8 x9;
  .skip (
  let x11 := Int.fdiv x9 (2 ^ (min (Int.toNat 8) (IntKind.bits .i64)));
  let x12 := IntKind.wrap .u8 x11;
  .need ((decide ((List.length x7 + List.length [x10, x12]) * 1 ≤ 140737488355328) && decide (List.length x7 + List.length [x10, x12] ≤ 9223372036854775807))) (
  let x13 := x7 ++ [x10, x12];
  let x14 := strOf x13;
  .leaf x14))))))))
def impl_storeEntry (a0 : Entry) : (List UInt8) := (impl_storeEntry_tree a0).val
def impl_storeEntry_need (a0 : Entry) : Bool := (impl_storeEntry_tree a0).ok
def impl_storeEntry_mk (p : (List UInt8)) : Ret := ⟨.str p, []⟩
def impl_storeEntry_c : Con := fun args => match args with
  | [.agg [.str a0_0, .flt .f32 a0_1, .flt .f32 a0_2, .flt .f32 a0_3, .flt .f32 a0_4, .flt .f32 a0_5, .flt .f32 a0_6, .flt .f32 a0_7]] => some (.need (impl_storeEntry_need (⟨a0_0, a0_1, ⟨a0_2, a0_3, a0_4, a0_5, a0_6, a0_7⟩⟩ : Entry)) (.leaf (impl_storeEntry_mk (impl_storeEntry (⟨a0_0, a0_1, ⟨a0_2, a0_3, a0_4, a0_5, a0_6, a0_7⟩⟩ : Entry)))))
  | _ => none
set_option maxRecDepth 100000 in
theorem impl_storeEntry_ok : FunOK Try.prog 35 impl_storeEntry_c.fn := by
  refine con_ok (Γ := gam [(49, impl_Orbit_numbers_c), (50, impl_BitsOf_c), (51, impl_check_c)]) (gam_cons impl_Orbit_numbers_ok (gam_cons impl_BitsOf_ok (gam_cons impl_check_ok (gam_nil)))) tab_ok (by kernel_rfl) Try.func35 (by kernel_rfl) (by kernel_rfl) Try.ntmps35 Try.results35 (loops := impl_storeEntry_loops) (loopsOK_list (l := [lp Try.f35 0]) (by kernel_rfl) ⟨impl_storeEntry_l0, trivial⟩) 100000 fun args t h => ?_
  unfold impl_storeEntry_c at h
  split at h
  · rename_i a0_0 a0_1 a0_2 a0_3 a0_4 a0_5 a0_6 a0_7
    cases h
    exact ⟨rfl, agree_need (mk := impl_storeEntry_mk) (t := impl_storeEntry_tree (⟨a0_0, a0_1, ⟨a0_2, a0_3, a0_4, a0_5, a0_6, a0_7⟩⟩ : Entry)) (by unfold Agree; kernel_rfl)⟩
  · cases h

/-- loop.example/g01284/impl.StoreEntry -/
def impl_StoreEntry_tree (a0 : Entry) : DT ((List UInt8) × Bool) :=
  .need ((impl_ValidEntry_need (⟨a0.Name, a0.Mass, ⟨a0.Orb.Long, a0.Orb.Round, a0.Orb.Tilt, a0.Orb.Node, a0.Orb.Peri, a0.Orb.Phase⟩⟩ : Entry))) (
  let x0 := impl_ValidEntry (⟨a0.Name, a0.Mass, ⟨a0.Orb.Long, a0.Orb.Round, a0.Orb.Tilt, a0.Orb.Node, a0.Orb.Peri, a0.Orb.Phase⟩⟩ : Entry);
  .ask (!x0)
  (
   .leaf ([], false))
  (
   .need ((impl_storeEntry_need (⟨a0.Name, a0.Mass, ⟨a0.Orb.Long, a0.Orb.Round, a0.Orb.Tilt, a0.Orb.Node, a0.Orb.Peri, a0.Orb.Phase⟩⟩ : Entry))) (
   let x1 := impl_storeEntry (⟨a0.Name, a0.Mass, ⟨a0.Orb.Long, a0.Orb.Round, a0.Orb.Tilt, a0.Orb.Node, a0.Orb.Peri, a0.Orb.Phase⟩⟩ : Entry);
   .leaf (x1, true))))
def impl_StoreEntry (a0 : Entry) : (List UInt8) × Bool := (impl_StoreEntry_tree a0).val
def impl_StoreEntry_need (a0 : Entry) : Bool := (impl_StoreEntry_tree a0).ok
def impl_StoreEntry_mk (p : (List UInt8) × Bool) : Ret := ⟨.tup [.str p.1, .bool p.2], []⟩
def impl_StoreEntry_c : Con := fun args => match args with
  | [.agg [.str a0_0, .flt .f32 a0_1, .flt .f32 a0_2, .flt .f32 a0_3, .flt .f32 a0_4, .flt .f32 a0_5, .flt .f32 a0_6, .flt .f32 a0_7]] => some (.need (impl_StoreEntry_need (⟨a0_0, a0_1, ⟨a0_2, a0_3, a0_4, a0_5, a0_6, a0_7⟩⟩ : Entry)) (.leaf (impl_StoreEntry_mk (impl_StoreEntry (⟨a0_0, a0_1, ⟨a0_2, a0_3, a0_4, a0_5, a0_6, a0_7⟩⟩ : Entry)))))
  | _ => none
set_option maxRecDepth 100000 in
theorem impl_StoreEntry_ok : FunOK Try.prog 14 impl_StoreEntry_c.fn := by
  refine con_ok (Γ := gam [(9, impl_ValidEntry_c), (35, impl_storeEntry_c)]) (gam_cons impl_ValidEntry_ok (gam_cons impl_storeEntry_ok (gam_nil))) tab_ok (by kernel_rfl) Try.func14 (by kernel_rfl) (by kernel_rfl) Try.ntmps14 Try.results14 (loopsOK_none rfl _) 100000 fun args t h => ?_
  unfold impl_StoreEntry_c at h
  split at h
  · rename_i a0_0 a0_1 a0_2 a0_3 a0_4 a0_5 a0_6 a0_7
    cases h
    exact ⟨rfl, agree_need (mk := impl_StoreEntry_mk) (t := impl_StoreEntry_tree (⟨a0_0, a0_1, ⟨a0_2, a0_3, a0_4, a0_5, a0_6, a0_7⟩⟩ : Entry)) (by unfold Agree; kernel_rfl)⟩
  · cases h

/-- loop.example/g01284/impl.orbitFrom -/
def impl_orbitFrom_tree (a0 : List Nat) : DT (Orbit) :=
  .need ((decide (0 ≤ 0) && decide (0 < ((List.length a0 : Nat) : Int)))) (
  let x0 := List.getD a0 0 default;
  .need ((decide (0 ≤ 1) && decide (1 < ((List.length a0 : Nat) : Int)))) (
  let x1 := List.getD a0 1 default;
  .need ((decide (0 ≤ 2) && decide (2 < ((List.length a0 : Nat) : Int)))) (
  let x2 := List.getD a0 2 default;
  .need ((decide (0 ≤ 3) && decide (3 < ((List.length a0 : Nat) : Int)))) (
  let x3 := List.getD a0 3 default;
  .need ((decide (0 ≤ 4) && decide (4 < ((List.length a0 : Nat) : Int)))) (
  let x4 := List.getD a0 4 default;
  .need ((decide (0 ≤ 5) && decide (5 < ((List.length a0 : Nat) : Int)))) (
  let x5 := List.getD a0 5 default;
  .leaf ((⟨x0, x1, x2, x3, x4, x5⟩ : Orbit))))))))
def impl_orbitFrom (a0 : List Nat) : Orbit := (impl_orbitFrom_tree a0).val
def impl_orbitFrom_need (a0 : List Nat) : Bool := (impl_orbitFrom_tree a0).ok
def impl_orbitFrom_mk (p : Orbit) : Ret := ⟨.agg [.flt .f32 p.Long, .flt .f32 p.Round, .flt .f32 p.Tilt, .flt .f32 p.Node, .flt .f32 p.Peri, .flt .f32 p.Phase], []⟩
def impl_orbitFrom_c0 : Con := fun args => match args with
  | [.vslc 1 (.flt .f32) a0] => some (.need (impl_orbitFrom_need a0) (.leaf (impl_orbitFrom_mk (impl_orbitFrom a0))))
  | _ => none
set_option maxRecDepth 100000 in
theorem impl_orbitFrom_ok0 : FunOK Try.prog 53 impl_orbitFrom_c0.fn := by
  refine con_ok (Γ := gam []) (gam_nil) tab_ok (by kernel_rfl) Try.func53 (by kernel_rfl) (by kernel_rfl) Try.ntmps53 Try.results53 (loopsOK_none rfl _) 100000 fun args t h => ?_
  unfold impl_orbitFrom_c0 at h
  split at h
  · rename_i a0
    cases h
    exact ⟨rfl, agree_need (mk := impl_orbitFrom_mk) (t := impl_orbitFrom_tree a0) (by unfold Agree; kernel_rfl)⟩
  · cases h
def impl_orbitFrom_c : Con := fun args => impl_orbitFrom_c0 (norms 0 [.slc (.flt .f32)] args)
set_option maxRecDepth 100000 in
theorem impl_orbitFrom_ok : FunOK Try.prog 53 impl_orbitFrom_c.fn := con_norm [.slc (.flt .f32)] impl_orbitFrom_ok0

/-- loop.example/g01284/impl.loadFirst -/
def impl_loadFirst_tree (a0 : (List UInt8)) : DT (Entry × Int × Bool) :=
  let x0 := ((List.length a0 : Nat) : Int);
  let x1 := decide (x0 < 5);
  .ask x1
  (
   .leaf ((⟨[], 0, ⟨0, 0, 0, 0, 0, 0⟩⟩ : Entry), 0, false))
  (
   let x2 := ((List.length a0 : Nat) : Int);
   .need ((decide (0 ≤ 4) && decide (4 < ((List.length a0 : Nat) : Int)))) (
   let x3 := ((List.getD (a0 : List UInt8) 4 0).toNat : Int);
   let x4 := IntKind.wrap .i64 x3;
   let x5 := IntKind.wrap .i64 (35 + x4);
   let x6 := decide (x2 < x5);
   .ask x6
   (
    .leaf ((⟨[], 0, ⟨0, 0, 0, 0, 0, 0⟩⟩ : Entry), 0, false))
   (
    .need ((decide (0 ≤ 4) && decide (4 < ((List.length a0 : Nat) : Int)))) (
    let x7 := ((List.getD (a0 : List UInt8) 4 0).toNat : Int);
    let x8 := IntKind.wrap .i64 x7;
    let x9 := IntKind.wrap .i64 (5 + x8);
    .need ((decide (0 ≤ x9) && decide (x9 ≤ ((List.length a0 : Nat) : Int)))) (
    .need ((decide (0 ≤ 5) && decide (5 ≤ (((Int.toNat x9) : Nat) : Int)))) (
    let x10 := List.drop 5 (List.take (Int.toNat x9) a0);
    .skip (
    let x11 := IntKind.wrap .i64 (5 + x8);
    let x12 := IntKind.wrap .i64 (x11 + 0);
    .need ((decide (0 ≤ x12) && decide (x12 < ((List.length a0 : Nat) : Int)))) (
    let x13 := ((List.getD (a0 : List UInt8) (Int.toNat x12) 0).toNat : Int);
    let x14 := IntKind.wrap .u32 x13;
    let x15 := IntKind.wrap .i64 (x12 + 1);
    .need ((decide (0 ≤ x15) && decide (x15 < ((List.length a0 : Nat) : Int)))) (
    let x16 := ((List.getD (a0 : List UInt8) (Int.toNat x15) 0).toNat : Int);
    let x17 := IntKind.wrap .u32 x16;
    .skip (
    let x18 := IntKind.wrap .u32 (x17 * 2 ^ (min (Int.toNat 8) (IntKind.bits .u32)));
    let x19 := IntKind.wrap .u32 (BitVec.ofInt (IntKind.bits .u32) x14 ||| BitVec.ofInt (IntKind.bits .u32) x18).toNat;
    let x20 := IntKind.wrap .i64 (x12 + 2);
    .need ((decide (0 ≤ x20) && decide (x20 < ((List.length a0 : Nat) : Int)))) (
    let x21 := ((List.getD (a0 : List UInt8) (Int.toNat x20) 0).toNat : Int);
    let x22 := IntKind.wrap .u32 x21;
    .skip (
    let x23 := IntKind.wrap .u32 (x22 * 2 ^ (min (Int.toNat 16) (IntKind.bits .u32)));
    let x24 := IntKind.wrap .u32 (BitVec.ofInt (IntKind.bits .u32) x19 ||| BitVec.ofInt (IntKind.bits .u32) x23).toNat;
    let x25 := IntKind.wrap .i64 (x12 + 3);
    .need ((decide (0 ≤ x25) && decide (x25 < ((List.length a0 : Nat) : Int)))) (
    let x26 := ((List.getD (a0 : List UInt8) (Int.toNat x25) 0).toNat : Int);
    let x27 := IntKind.wrap .u32 x26;
    .skip (
    let x28 := IntKind.wrap .u32 (x27 * 2 ^ (min (Int.toNat 24) (IntKind.bits .u32)));
    let x29 := IntKind.wrap .u32 (BitVec.ofInt (IntKind.bits .u32) x24 ||| BitVec.ofInt (IntKind.bits .u32) x28).toNat;
    let x30 := canon .f32 (Int.toNat x29);
    .skip (
    let x31 := ([] : List Nat) ++ [x30];
    .skip (
    let x32 := IntKind.wrap .i64 (5 + x8);
    let x33 := IntKind.wrap .i64 (x32 + 4);
    .need ((decide (0 ≤ x33) && decide (x33 < ((List.length a0 : Nat) : Int)))) (
    let x34 := ((List.getD (a0 : List UInt8) (Int.toNat x33) 0).toNat : Int);
    let x35 := IntKind.wrap .u32 x34;
    let x36 := IntKind.wrap .i64 (x33 + 1);
    .need ((decide (0 ≤ x36) && decide (x36 < ((List.length a0 : Nat) : Int)))) (
    let x37 := ((List.getD (a0 : List UInt8) (Int.toNat x36) 0).toNat : Int);
    let x38 := IntKind.wrap .u32 x37;
    .skip (
    let x39 := IntKind.wrap .u32 (x38 * 2 ^ (min (Int.toNat 8) (IntKind.bits .u32)));
    let x40 := IntKind.wrap .u32 (BitVec.ofInt (IntKind.bits .u32) x35 ||| BitVec.ofInt (IntKind.bits .u32) x39).toNat;
    let x41 := IntKind.wrap .i64 (x33 + 2);
    .need ((decide (0 ≤ x41) && decide (x41 < ((List.length a0 : Nat) : Int)))) (
    let x42 := ((List.getD (a0 : List UInt8) (Int.toNat x41) 0).toNat : Int);
    let x43 := IntKind.wrap .u32 x42;
    .skip (
    let x44 := IntKind.wrap .u32 (x43 * 2 ^ (min (Int.toNat 16) (IntKind.bits .u32)));
    let x45 := IntKind.wrap .u32 (BitVec.ofInt (IntKind.bits .u32) x40 ||| BitVec.ofInt (IntKind.bits .u32) x44).toNat;
    let x46 := IntKind.wrap .i64 (x33 + 3);
    .need ((decide (0 ≤ x46) && decide (x46 < ((List.length a0 : Nat) : Int)))) (
    let x47 := ((List.getD (a0 : List UInt8) (Int.toNat x46) 0).toNat : Int);
    let x48 := IntKind.wrap .u32 x47;
    .skip (
    let x49 := IntKind.wrap .u32 (x48 * 2 ^ (min (Int.toNat 24) (IntKind.bits .u32)));
    let x50 := IntKind.wrap .u32 (BitVec.ofInt (IntKind.bits .u32) x45 ||| BitVec.ofInt (IntKind.bits .u32) x49).toNat;
    let x51 := canon .f32 (Int.toNat x50);
    .skip (
    let x52 := x31 ++ [x51];
    .skip (
    let x53 := IntKind.wrap .i64 (5 + x8);
    let x54 := IntKind.wrap .i64 (x53 + 8);
    .need ((decide (0 ≤ x54) && decide (x54 < ((List.length a0 : Nat) : Int)))) (
    let x55 := ((List.getD (a0 : List UInt8) (Int.toNat x54) 0).toNat : Int);
    let x56 := IntKind.wrap .u32 x55;
    let x57 := IntKind.wrap .i64 (x54 + 1);
    .need ((decide (0 ≤ x57) && decide (x57 < ((List.length a0 : Nat) : Int)))) (
    let x58 := ((List.getD (a0 : List UInt8) (Int.toNat x57) 0).toNat : Int);
    let x59 := IntKind.wrap .u32 x58;
    .skip (
    let x60 := IntKind.wrap .u32 (x59 * 2 ^ (min (Int.toNat 8) (IntKind.bits .u32)));
    let x61 := IntKind.wrap .u32 (BitVec.ofInt (IntKind.bits .u32) x56 ||| BitVec.ofInt (IntKind.bits .u32) x60).toNat;
    let x62 := IntKind.wrap .i64 (x54 + 2);
    .need ((decide (0 ≤ x62) && decide (x62 < ((List.length a0 : Nat) : Int)))) (
    let x63 := ((List.getD (a0 : List UInt8) (Int.toNat x62) 0).toNat : Int);
    let x64 := IntKind.wrap .u32 x63;
    .skip (
    let x65 := IntKind.wrap .u32 (x64 * 2 ^ (min (Int.toNat 16) (IntKind.bits .u32)));
    let x66 := IntKind.wrap .u32 (BitVec.ofInt (IntKind.bits .u32) x61 ||| BitVec.ofInt (IntKind.bits .u32) x65).toNat;
    let x67 := IntKind.wrap .i64 (x54 + 3);
    .need ((decide (0 ≤ x67) && decide (x67 < ((List.length a0 : Nat) : Int)))) (
    let x68 := ((List.getD (a0 : List UInt8) (Int.toNat x67) 0).toNat : Int);
    let x69 := IntKind.wrap .u32 x68;
    .skip (
    let x70 := IntKind.wrap .u32 (x69 * 2 ^ (min (Int.toNat 24) (IntKind.bits .u32)));
    let x71 := IntKind.wrap .u32 (BitVec.ofInt (IntKind.bits .u32) x66 ||| BitVec.ofInt (IntKind.bits .u32) x70).toNat;
    let x72 := canon .f32 (Int.toNat x71);
    .skip (
    let x73 := x52 ++ [x72];
    .skip (
    let x74 := IntKind.wrap .i64 (5 + x8);
    let x75 := IntKind.wrap .i64 (x74 + 12);
    .need ((decide (0 ≤ x75) && decide (x75 < ((List.length a0 : Nat) : Int)))) (
    let x76 := ((List.getD (a0 : List UInt8) (Int.toNat x75) 0).toNat : Int);
    let x77 := IntKind.wrap .u32 x76;
    let x78 := IntKind.wrap .i64 (x75 + 1);
    .need ((decide (0 ≤ x78) && decide (x78 < ((List.length a0 : Nat) : Int)))) (
    let x79 := ((List.getD (a0 : List UInt8) (Int.toNat x78) 0).toNat : Int);
    let x80 := IntKind.wrap .u32 x79;
    .skip (
    let x81 := IntKind.wrap .u32 (x80 * 2 ^ (min (Int.toNat 8) (IntKind.bits .u32)));
    let x82 := IntKind.wrap .u32 (BitVec.ofInt (IntKind.bits .u32) x77 ||| BitVec.ofInt (IntKind.bits .u32) x81).toNat;
    let x83 := IntKind.wrap .i64 (x75 + 2);
    .need ((decide (0 ≤ x83) && decide (x83 < ((List.length a0 : Nat) : Int)))) (
    let x84 := ((List.getD (a0 : List UInt8) (Int.toNat x83) 0).toNat : Int);
    let x85 := IntKind.wrap .u32 x84;
    .skip (
    let x86 := IntKind.wrap .u32 (x85 * 2 ^ (min (Int.toNat 16) (IntKind.bits .u32)));
    let x87 := IntKind.wrap .u32 (BitVec.ofInt (IntKind.bits .u32) x82 ||| BitVec.ofInt (IntKind.bits .u32) x86).toNat;
    let x88 := IntKind.wrap .i64 (x75 + 3);
    .need ((decide (0 ≤ x88) && decide (x88 < ((List.length a0 : Nat) : Int)))) (
    let x89 := ((List.getD (a0 : List UInt8) (Int.toNat x88) 0).toNat : Int);
    let x90 := IntKind.wrap .u32 x89;
    .skip (
    let x91 := IntKind.wrap .u32 (x90 * 2 ^ (min (Int.toNat 24) (IntKind.bits .u32)));
    let x92 := IntKind.wrap .u32 (BitVec.ofInt (IntKind.bits .u32) x87 ||| BitVec.ofInt (IntKind.bits .u32) x91).toNat;
    let x93 := canon .f32 (Int.toNat x92);
    .skip (
    let x94 := x73 ++ [x93];
    .skip (
    let x95 := IntKind.wrap .i64 (5 + x8);
    let x96 := IntKind.wrap .i64 (x95 + 16);
    .need ((decide (0 ≤ x96) && decide (x96 < ((List.length a0 : Nat) : Int)))) (
    let x97 := ((List.getD (a0 : List UInt8) (Int.toNat x96) 0).toNat : Int);
    let x98 := IntKind.wrap .u32 x97;
    let x99 := IntKind.wrap .i64 (x96 + 1);
    .need ((decide (0 ≤ x99) && decide (x99 < ((List.length a0 : Nat) : Int)))) (
    let x100 := ((List.getD (a0 : List UInt8) (Int.toNat x99) 0).toNat : Int);
    let x101 := IntKind.wrap .u32 x100;
    .skip (
    let x102 := IntKind.wrap .u32 (x101 * 2 ^ (min (Int.toNat 8) (IntKind.bits .u32)));
    let x103 := IntKind.wrap .u32 (BitVec.ofInt (IntKind.bits .u32) x98 ||| BitVec.ofInt (IntKind.bits .u32) x102).toNat;
    let x104 := IntKind.wrap .i64 (x96 + 2);
    .need ((decide (0 ≤ x104) && decide (x104 < ((List.length a0 : Nat) : Int)))) (
    let x105 := ((List.getD (a0 : List UInt8) (Int.toNat x104) 0).toNat : Int);
    let x106 := IntKind.wrap .u32 x105;
    .skip (
    let x107 := IntKind.wrap .u32 (x106 * 2 ^ (min (Int.toNat 16) (IntKind.bits .u32)));
    let x108 := IntKind.wrap .u32 (BitVec.ofInt (IntKind.bits .u32) x103 ||| BitVec.ofInt (IntKind.bits .u32) x107).toNat;
    let x109 := IntKind.wrap .i64 (x96 + 3);
    .need ((decide (0 ≤ x109) && decide (x109 < ((List.length a0 : Nat) : Int)))) (
    let x110 := ((List.getD (a0 : List UInt8) (Int.toNat x109) 0).toNat : Int);
    let x111 := IntKind.wrap .u32 x110;
    .skip (
    let x112 := IntKind.wrap .u32 (x111 * 2 ^ (min (Int.toNat 24) (IntKind.bits .u32)));
    let x113 := IntKind.wrap .u32 (BitVec.ofInt (IntKind.bits .u32) x108 ||| BitVec.ofInt (IntKind.bits .u32) x112).toNat;
    let x114 := canon .f32 (Int.toNat x113);
    .skip (
    let x115 := x94 ++ [x114];
    .skip (
    let x116 := IntKind.wrap .i64 (5 + x8);
    let x117 := IntKind.wrap .i64 (x116 + 20);
    .need ((decide (0 ≤ x117) && decide (x117 < ((List.length a0 : Nat) : Int)))) (
    let x118 := ((List.getD (a0 : List UInt8) (Int.toNat x117) 0).toNat : Int);
    let x119 := IntKind.wrap .u32 x118;
    let x120 := IntKind.wrap .i64 (x117 + 1);
    .need ((decide (0 ≤ x120) && decide (x120 < ((List.length a0 : Nat) : Int)))) (
    let x121 := ((List.getD (a0 : List UInt8) (Int.toNat x120) 0).toNat : Int);
    let x122 := IntKind.wrap .u32 x121;
    .skip (
    let x123 := IntKind.wrap .u32 (x122 * 2 ^ (min (Int.toNat 8) (IntKind.bits .u32)));
    let x124 := IntKind.wrap .u32 (BitVec.ofInt (IntKind.bits .u32) x119 ||| BitVec.ofInt (IntKind.bits .u32) x123).toNat;
    let x125 := IntKind.wrap .i64 (x117 + 2);
    .need ((decide (0 ≤ x125) && decide (x125 < ((List.length a0 : Nat) : Int)))) (
    let x126 := ((List.getD (a0 : List UInt8) (Int.toNat x125) 0).toNat : Int);
    let x127 := IntKind.wrap .u32 x126;
    .skip (
    let x128 := IntKind.wrap .u32 (x127 * 2 ^ (min (Int.toNat 16) (IntKind.bits .u32)));
    let x129 := IntKind.wrap .u32 (BitVec.ofInt (IntKind.bits .u32) x124 ||| BitVec.ofInt (IntKind.bits .u32) x128).toNat;
    let x130 := IntKind.wrap .i64 (x117 + 3);
    .need ((decide (0 ≤ x130) && decide (x130 < ((List.length a0 : Nat) : Int)))) (
    let x131 := ((List.getD (a0 : List UInt8) (Int.toNat x130) 0).toNat : Int);
    let x132 := IntKind.wrap .u32 x131;
    .skip (
    let x133 := IntKind.wrap .u32 (x132 * 2 ^ (min (Int.toNat 24) (IntKind.bits .u32)));
    let x134 := IntKind.wrap .u32 (BitVec.ofInt (IntKind.bits .u32) x129 ||| BitVec.ofInt (IntKind.bits .u32) x133).toNat;
    let x135 := canon .f32 (Int.toNat x134);
    .skip (
    let x136 := x115 ++ [x135];
    .skip (
    let x137 := IntKind.wrap .i64 (5 + x8);
    let x138 := IntKind.wrap .i64 (x137 + 24);
    .need ((decide (0 ≤ x138) && decide (x138 < ((List.length a0 : Nat) : Int)))) (
    let x139 := ((List.getD (a0 : List UInt8) (Int.toNat x138) 0).toNat : Int);
    let x140 := IntKind.wrap .u32 x139;
    let x141 := IntKind.wrap .i64 (x138 + 1);
    .need ((decide (0 ≤ x141) && decide (x141 < ((List.length a0 : Nat) : Int)))) (
    let x142 := ((List.getD (a0 : List UInt8) (Int.toNat x141) 0).toNat : Int);
    let x143 := IntKind.wrap .u32 x142;
    .skip (
    let x144 := IntKind.wrap .u32 (x143 * 2 ^ (min (Int.toNat 8) (IntKind.bits .u32)));
    let x145 := IntKind.wrap .u32 (BitVec.ofInt (IntKind.bits .u32) x140 ||| BitVec.ofInt (IntKind.bits .u32) x144).toNat;
    let x146 := IntKind.wrap .i64 (x138 + 2);
    .need ((decide (0 ≤ x146) && decide (x146 < ((List.length a0 : Nat) : Int)))) (
    let x147 := ((List.getD (a0 : List UInt8) (Int.toNat x146) 0).toNat : Int);
    let x148 := IntKind.wrap .u32 x147;
    .skip (
    let x149 := IntKind.wrap .u32 (x148 * 2 ^ (min (Int.toNat 16) (IntKind.bits .u32)));
    let x150 := IntKind.wrap .u32 (BitVec.ofInt (IntKind.bits .u32) x145 ||| BitVec.ofInt (IntKind.bits .u32) x149).toNat;
    let x151 := IntKind.wrap .i64 (x138 + 3);
    .need ((decide (0 ≤ x151) && decide (x151 < ((List.length a0 : Nat) : Int)))) (
    let x152 := ((List.getD (a0 : List UInt8) (Int.toNat x151) 0).toNat : Int);
    let x153 := IntKind.wrap .u32 x152;
    .skip (
    let x154 := IntKind.wrap .u32 (x153 * 2 ^ (min (Int.toNat 24) (IntKind.bits .u32)));
    let x155 := IntKind.wrap .u32 (BitVec.ofInt (IntKind.bits .u32) x150 ||| BitVec.ofInt (IntKind.bits .u32) x154).toNat;
    let x156 := canon .f32 (Int.toNat x155);
    .skip (
    let x157 := x136 ++ [x156];
    .skip (
    .skip (
    .need ((decide (0 < List.length x157))) (
    let x158 := List.getD x157 0 default;
    .need ((decide (0 ≤ 1) && decide (1 ≤ (((List.length x157) : Nat) : Int)))) (
    .need ((decide (1 + ((List.length x157) - 1) ≤ List.length x157))) (
    let x159 := List.take ((List.length x157) - 1) (List.drop 1 x157);
    .need ((impl_orbitFrom_need x159)) (
    let x160 := impl_orbitFrom x159;
    .need ((impl_ValidEntry_need (⟨x10, x158, ⟨x160.Long, x160.Round, x160.Tilt, x160.Node, x160.Peri, x160.Phase⟩⟩ : Entry))) (
    let x161 := impl_ValidEntry (⟨x10, x158, ⟨x160.Long, x160.Round, x160.Tilt, x160.Node, x160.Peri, x160.Phase⟩⟩ : Entry);
    .ask (!x161)
    (
     .leaf ((⟨[], 0, ⟨0, 0, 0, 0, 0, 0⟩⟩ : Entry), 0, false))
    (
     .need ((impl_storeEntry_need (⟨x10, x158, ⟨x160.Long, x160.Round, x160.Tilt, x160.Node, x160.Peri, x160.Phase⟩⟩ : Entry))) (
     let x162 := impl_storeEntry (⟨x10, x158, ⟨x160.Long, x160.Round, x160.Tilt, x160.Node, x160.Peri, x160.Phase⟩⟩ : Entry);
     let x163 := IntKind.wrap .i64 (35 + x8);
     .need ((decide (0 ≤ x163) && decide (x163 ≤ ((List.length a0 : Nat) : Int)))) (
     let x164 := List.drop 0 (List.take (Int.toNat x163) a0);
     let x165 := (!(x162 == x164));
     .ask x165
     (
      .leaf ((⟨[], 0, ⟨0, 0, 0, 0, 0, 0⟩⟩ : Entry), 0, false))
     (
      let x166 := IntKind.wrap .i64 (35 + x8);
      .leaf ((⟨x10, x158, ⟨x160.Long, x160.Round, x160.Tilt, x160.Node, x160.Peri, x160.Phase⟩⟩ : Entry), x166, true)))))))))))))))))))))))))))))))))))))))))))))))))))))))))))))))))))))))))))))))))
def impl_loadFirst (a0 : (List UInt8)) : Entry × Int × Bool := (impl_loadFirst_tree a0).val
def impl_loadFirst_need (a0 : (List UInt8)) : Bool := (impl_loadFirst_tree a0).ok
def impl_loadFirst_mk (p : Entry × Int × Bool) : Ret := ⟨.tup [.agg [.str p.1.Name, .flt .f32 p.1.Mass, .flt .f32 p.1.Orb.Long, .flt .f32 p.1.Orb.Round, .flt .f32 p.1.Orb.Tilt, .flt .f32 p.1.Orb.Node, .flt .f32 p.1.Orb.Peri, .flt .f32 p.1.Orb.Phase], .int .i64 p.2.1, .bool p.2.2], []⟩
def impl_loadFirst_c : Con := fun args => match args with
  | [.str a0] => some (.need (impl_loadFirst_need a0) (.leaf (impl_loadFirst_mk (impl_loadFirst a0))))
  | _ => none
set_option maxRecDepth 100000 in
theorem impl_loadFirst_ok : FunOK Try.prog 36 impl_loadFirst_c.fn := by
  refine con_ok (Γ := gam [(52, math_Float32frombits_c), (53, impl_orbitFrom_c), (9, impl_ValidEntry_c), (35, impl_storeEntry_c)]) (gam_cons math_Float32frombits_ok (gam_cons impl_orbitFrom_ok (gam_cons impl_ValidEntry_ok (gam_cons impl_storeEntry_ok (gam_nil))))) tab_ok (by kernel_rfl) Try.func36 (by kernel_rfl) (by kernel_rfl) Try.ntmps36 Try.results36 (loopsOK_none rfl _) 100000 fun args t h => ?_
  unfold impl_loadFirst_c at h
  split at h
  · rename_i a0
    cases h
    exact ⟨rfl, agree_need (mk := impl_loadFirst_mk) (t := impl_loadFirst_tree a0) (by unfold Agree; kernel_rfl)⟩
  · cases h

/-- loop.example/g01284/impl.LoadEntry -/
def impl_LoadEntry_tree (a0 : (List UInt8)) : DT (Entry × Bool) :=
  .need ((impl_loadFirst_need a0)) (
  let x0 := impl_loadFirst a0;
  .ask (!x0.2.2)
  (
   .leaf ((⟨[], 0, ⟨0, 0, 0, 0, 0, 0⟩⟩ : Entry), false))
  (
   let x1 := ((List.length a0 : Nat) : Int);
   let x2 := (x0.2.1 != x1);
   .ask x2
   (
    .leaf ((⟨[], 0, ⟨0, 0, 0, 0, 0, 0⟩⟩ : Entry), false))
   (
    .leaf ((⟨x0.1.Name, x0.1.Mass, ⟨x0.1.Orb.Long, x0.1.Orb.Round, x0.1.Orb.Tilt, x0.1.Orb.Node, x0.1.Orb.Peri, x0.1.Orb.Phase⟩⟩ : Entry), true))))
def impl_LoadEntry (a0 : (List UInt8)) : Entry × Bool := (impl_LoadEntry_tree a0).val
def impl_LoadEntry_need (a0 : (List UInt8)) : Bool := (impl_LoadEntry_tree a0).ok
def impl_LoadEntry_mk (p : Entry × Bool) : Ret := ⟨.tup [.agg [.str p.1.Name, .flt .f32 p.1.Mass, .flt .f32 p.1.Orb.Long, .flt .f32 p.1.Orb.Round, .flt .f32 p.1.Orb.Tilt, .flt .f32 p.1.Orb.Node, .flt .f32 p.1.Orb.Peri, .flt .f32 p.1.Orb.Phase], .bool p.2], []⟩
def impl_LoadEntry_c : Con := fun args => match args with
  | [.str a0] => some (.need (impl_LoadEntry_need a0) (.leaf (impl_LoadEntry_mk (impl_LoadEntry a0))))
  | _ => none
set_option maxRecDepth 100000 in
theorem impl_LoadEntry_ok : FunOK Try.prog 15 impl_LoadEntry_c.fn := by
  refine con_ok (Γ := gam [(36, impl_loadFirst_c)]) (gam_cons impl_loadFirst_ok (gam_nil)) tab_ok (by kernel_rfl) Try.func15 (by kernel_rfl) (by kernel_rfl) Try.ntmps15 Try.results15 (loopsOK_none rfl _) 100000 fun args t h => ?_
  unfold impl_LoadEntry_c at h
  split at h
  · rename_i a0
    cases h
    exact ⟨rfl, agree_need (mk := impl_LoadEntry_mk) (t := impl_LoadEntry_tree a0) (by unfold Agree; kernel_rfl)⟩
  · cases h

/-- a loop of impl_StoreEntries -/
def impl_StoreEntries_loop0_step (p : List Entry × Int) (s : (List UInt8) × Int) : Round ((List UInt8) × Int) ((List UInt8)) :=
  let x0 := decide (s.2 < p.2);
  .ask x0
  (
   .need ((decide (0 ≤ s.2) && decide (s.2 < ((List.length p.1 : Nat) : Int)))) (
   let x1 := List.getD p.1 (Int.toNat s.2) default;
   .need ((impl_storeEntry_need (⟨x1.Name, x1.Mass, ⟨x1.Orb.Long, x1.Orb.Round, x1.Orb.Tilt, x1.Orb.Node, x1.Orb.Peri, x1.Orb.Phase⟩⟩ : Entry))) (
   let x2 := impl_storeEntry (⟨x1.Name, x1.Mass, ⟨x1.Orb.Long, x1.Orb.Round, x1.Orb.Tilt, x1.Orb.Node, x1.Orb.Peri, x1.Orb.Phase⟩⟩ : Entry);
   .need ((decide (List.length s.1 + List.length x2 ≤ 9223372036854775807))) (
   let x3 := s.1 ++ x2;
   let x4 := IntKind.wrap .i64 (s.2 + 1);
   .leaf (.inl (x3, x4), [])))))
  (
   .leaf (.inr s.1, []))
def impl_StoreEntries_loop0_L (p : List Entry × Int) : LoopS ((List UInt8) × Int) ((List UInt8)) := { tl := fun s => [.junk, .junk, .junk, .junk, .str s.1, .junk, .junk, .junk, .junk, .junk, .vslc 1 .entry p.1, .int .i64 p.2, .int .i64 s.2], hl := fun s => [], ex := fun r => .exit 0, otl := fun r => [.junk, .junk, .junk, .junk, .str r], ohl := fun r => [] }
def impl_StoreEntries_loop0_ext : St → Option ((List Entry × Int) × ((List UInt8) × Int) × List Nat) := fun S => match (S.tm 4).unK, (S.tm 10).unK, (S.tm 11).unK, (S.tm 12).unK with
  | .str q0, .vslc 1 .entry q1, .int .i64 q2, .int .i64 q3 => some ((q1, q2), (q0, q3), [])
  | _, _, _, _ => none
def impl_StoreEntries_loop0_post (p : List Entry × Int) (r : (List UInt8)) : DT (Ex × St) := .leaf (.exit 0, LSt [.junk, .junk, .junk, .junk, .str r] [])
def impl_StoreEntries_loop0 (p : List Entry × Int) (s : (List UInt8) × Int) : (List UInt8) := loopVal (impl_StoreEntries_loop0_step p) s
def impl_StoreEntries_loop0_ends (p : List Entry × Int) (s : (List UInt8) × Int) : Bool := loopEnds (impl_StoreEntries_loop0_step p) s
def impl_StoreEntries_loop0_F : LoopF := loopF impl_StoreEntries_loop0_step impl_StoreEntries_loop0_ext impl_StoreEntries_loop0_post
set_option maxRecDepth 100000 in
theorem impl_StoreEntries_loop0_hext : ∀ S p s fl, impl_StoreEntries_loop0_ext S = some (p, s, fl) → Norm S fl ((impl_StoreEntries_loop0_L p).tl s) ((impl_StoreEntries_loop0_L p).hl s) (impl_StoreEntries_loop0_L p).gl := by
  intro S p s fl h
  unfold impl_StoreEntries_loop0_ext at h
  (repeat' split at h) <;> first
    | (cases h; constructor <;> simp_all [impl_StoreEntries_loop0_L, keepT, keepH, rens, renH, PV.ren, Blk.ren, fOf, lget, nodup, natIn, lenEq, gtm, PV.unK])
    | cases h
set_option maxRecDepth 100000 in
theorem impl_StoreEntries_loop0_hpost : ∀ p r e S', (impl_StoreEntries_loop0_post p r).get = some (e, S') → e = (impl_StoreEntries_loop0_L p).ex r ∧ S' = LSt ((impl_StoreEntries_loop0_L p).otl r) ((impl_StoreEntries_loop0_L p).ohl r) ((impl_StoreEntries_loop0_L p).ogl r) := by
  intro p r e S' h
  unfold impl_StoreEntries_loop0_post at h
  simp only [DT.get, Option.some.injEq, Prod.mk.injEq] at h; exact ⟨h.1.symm, h.2.symm⟩

def impl_StoreEntries_loops : Nat → Option LoopF := loopTab [(5, impl_StoreEntries_loop0_F)]
set_option maxRecDepth 100000 in
theorem impl_StoreEntries_l0 : LoopOK Try.prog ⟨gam [(6, impl_AreEntries_c), (35, impl_storeEntry_c)], tab, 22, impl_StoreEntries_loops⟩ (lp Try.f16 0) :=
  loopOK_some (F := impl_StoreEntries_loop0_F) (by kernel_rfl) (loopF_ok (E := ⟨gam [(6, impl_AreEntries_c), (35, impl_storeEntry_c)], tab, 22, impl_StoreEntries_loops⟩) ⟨gam_cons impl_AreEntries_ok (gam_cons impl_storeEntry_ok (gam_nil)), tab_ok, by kernel_rfl⟩ (fuel := 100000) (loopsOK_list (l := []) (by kernel_rfl) trivial) (L := impl_StoreEntries_loop0_L) (fun p s => by unfold AgreeL; exact ⟨by kernel_rfl, by kernel_rfl⟩) (fun _ _ h => Ex.noConfusion h) impl_StoreEntries_loop0_hext impl_StoreEntries_loop0_hpost)
/-- loop.example/g01284/impl.StoreEntries -/
def impl_StoreEntries_tree (a0 : List Entry) : DT ((List UInt8) × Bool) :=
  .need ((impl_AreEntries_need a0)) (
  let x0 := impl_AreEntries a0;
  .ask (!x0)
  (
   .leaf ([], false))
  (
   let x1 := ((List.length a0 : Nat) : Int);
   .need ((impl_StoreEntries_loop0_ends (a0, x1) ([], 0))) (
   let x2 := impl_StoreEntries_loop0 (a0, x1) ([], 0);
   .leaf (x2, true))))
def impl_StoreEntries (a0 : List Entry) : (List UInt8) × Bool := (impl_StoreEntries_tree a0).val
def impl_StoreEntries_need (a0 : List Entry) : Bool := (impl_StoreEntries_tree a0).ok
def impl_StoreEntries_mk (p : (List UInt8) × Bool) : Ret := ⟨.tup [.str p.1, .bool p.2], []⟩
def impl_StoreEntries_c0 : Con := fun args => match args with
  | [.vslc 1 .entry a0] => some (.need (impl_StoreEntries_need a0) (.leaf (impl_StoreEntries_mk (impl_StoreEntries a0))))
  | _ => none
set_option maxRecDepth 100000 in
theorem impl_StoreEntries_ok0 : FunOK Try.prog 16 impl_StoreEntries_c0.fn := by
  refine con_ok (Γ := gam [(6, impl_AreEntries_c), (35, impl_storeEntry_c)]) (gam_cons impl_AreEntries_ok (gam_cons impl_storeEntry_ok (gam_nil))) tab_ok (by kernel_rfl) Try.func16 (by kernel_rfl) (by kernel_rfl) Try.ntmps16 Try.results16 (loops := impl_StoreEntries_loops) (loopsOK_list (l := [lp Try.f16 0]) (by kernel_rfl) ⟨impl_StoreEntries_l0, trivial⟩) 100000 fun args t h => ?_
  unfold impl_StoreEntries_c0 at h
  split at h
  · rename_i a0
    cases h
    exact ⟨rfl, agree_need (mk := impl_StoreEntries_mk) (t := impl_StoreEntries_tree a0) (by unfold Agree; kernel_rfl)⟩
  · cases h
def impl_StoreEntries_c : Con := fun args => impl_StoreEntries_c0 (norms 0 [.slc .entry] args)
set_option maxRecDepth 100000 in
theorem impl_StoreEntries_ok : FunOK Try.prog 16 impl_StoreEntries_c.fn := con_norm [.slc .entry] impl_StoreEntries_ok0

/-- a loop of impl_RecoverEntries -/
def impl_RecoverEntries_loop0_step (p : (List UInt8)) (s : Int × List Entry) : Round (Int × List Entry) (Int × List Entry) :=
  let x0 := ((List.length s.2 : Nat) : Int);
  let x1 := decide (x0 < 16);
  .ask x1
  (
   .need ((decide (0 ≤ s.1) && decide (s.1 ≤ (((List.length p) : Nat) : Int)))) (
   let x2 := List.drop (Int.toNat s.1) (List.take (List.length p) p);
   .need ((impl_loadFirst_need x2)) (
   let x3 := impl_loadFirst x2;
   let x4 := ((List.length s.2 : Nat) : Int);
   .ask (!x3.2.2)
   (
    .leaf (.inr (s.1, s.2), [0]))
   (
    let x5 := decide (x4 > 0);
    .ask x5
    (
     let x6 := IntKind.wrap .i64 (x4 - 1);
     .need ((decide (0 ≤ x6) && decide (x6 < ((List.length s.2 : Nat) : Int)))) (
     .need ((decide ((Int.toNat x6) < List.length s.2))) (
     let x7 := List.getD s.2 (Int.toNat x6) default;
     let x8 := (!Op.bytesLess x7.Name x3.1.Name);
     .ask x8
     (
      .leaf (.inr (s.1, s.2), [0]))
     (
      .need ((decide ((List.length s.2 + List.length [(⟨x3.1.Name, x3.1.Mass, ⟨x3.1.Orb.Long, x3.1.Orb.Round, x3.1.Orb.Tilt, x3.1.Orb.Node, x3.1.Orb.Peri, x3.1.Orb.Phase⟩⟩ : Entry)]) * 48 ≤ 140737488355328) && decide (List.length s.2 + List.length [(⟨x3.1.Name, x3.1.Mass, ⟨x3.1.Orb.Long, x3.1.Orb.Round, x3.1.Orb.Tilt, x3.1.Orb.Node, x3.1.Orb.Peri, x3.1.Orb.Phase⟩⟩ : Entry)] ≤ 9223372036854775807))) (
      let x9 := s.2 ++ [(⟨x3.1.Name, x3.1.Mass, ⟨x3.1.Orb.Long, x3.1.Orb.Round, x3.1.Orb.Tilt, x3.1.Orb.Node, x3.1.Orb.Peri, x3.1.Orb.Phase⟩⟩ : Entry)];
      let x10 := IntKind.wrap .i64 (s.1 + x3.2.1);
      .leaf (.inl (x10, x9), [305]))))))
    (
     .need ((decide ((List.length s.2 + List.length [(⟨x3.1.Name, x3.1.Mass, ⟨x3.1.Orb.Long, x3.1.Orb.Round, x3.1.Orb.Tilt, x3.1.Orb.Node, x3.1.Orb.Peri, x3.1.Orb.Phase⟩⟩ : Entry)]) * 48 ≤ 140737488355328) && decide (List.length s.2 + List.length [(⟨x3.1.Name, x3.1.Mass, ⟨x3.1.Orb.Long, x3.1.Orb.Round, x3.1.Orb.Tilt, x3.1.Orb.Node, x3.1.Orb.Peri, x3.1.Orb.Phase⟩⟩ : Entry)] ≤ 9223372036854775807))) (
     let x6 := s.2 ++ [(⟨x3.1.Name, x3.1.Mass, ⟨x3.1.Orb.Long, x3.1.Orb.Round, x3.1.Orb.Tilt, x3.1.Orb.Node, x3.1.Orb.Peri, x3.1.Orb.Phase⟩⟩ : Entry)];
     let x7 := IntKind.wrap .i64 (s.1 + x3.2.1);
     .leaf (.inl (x7, x6), [305])))))))
  (
   .leaf (.inr (s.1, s.2), [0]))
def impl_RecoverEntries_loop0_L (p : (List UInt8)) : LoopS (Int × List Entry) (Int × List Entry) := { tl := fun s => [.str p, .junk, .junk, .junk, .junk, .own 0, .int .i64 s.1], hl := fun s => [some (.typed 33 .entry s.2)], ex := fun r => .exit 0, otl := fun r => [.junk, .junk, .junk, .junk, .junk, .own 0, .int .i64 r.1], ohl := fun r => [some (.typed 33 .entry r.2)] }
def impl_RecoverEntries_loop0_ext : St → Option (((List UInt8)) × (Int × List Entry) × List Nat) := fun S => match (S.tm 0).unK, (S.tm 5).unK, (S.tm 6).unK with
  | .str q0, .own i0, .int .i64 q1 => (match S.hp i0 with
    | some (.typed 33 .entry q2) => some (q0, (q1, q2), [i0])
    | _ => none)
  | _, _, _ => none
def impl_RecoverEntries_loop0_post (p : (List UInt8)) (r : Int × List Entry) : DT (Ex × St) := .leaf (.exit 0, LSt [.junk, .junk, .junk, .junk, .junk, .own 0, .int .i64 r.1] [some (.typed 33 .entry r.2)])
def impl_RecoverEntries_loop0 (p : (List UInt8)) (s : Int × List Entry) : Int × List Entry := loopVal (impl_RecoverEntries_loop0_step p) s
def impl_RecoverEntries_loop0_ends (p : (List UInt8)) (s : Int × List Entry) : Bool := loopEnds (impl_RecoverEntries_loop0_step p) s
def impl_RecoverEntries_loop0_F : LoopF := loopF impl_RecoverEntries_loop0_step impl_RecoverEntries_loop0_ext impl_RecoverEntries_loop0_post
set_option maxRecDepth 100000 in
theorem impl_RecoverEntries_loop0_hext : ∀ S p s fl, impl_RecoverEntries_loop0_ext S = some (p, s, fl) → Norm S fl ((impl_RecoverEntries_loop0_L p).tl s) ((impl_RecoverEntries_loop0_L p).hl s) (impl_RecoverEntries_loop0_L p).gl := by
  intro S p s fl h
  unfold impl_RecoverEntries_loop0_ext at h
  (repeat' split at h) <;> first
    | (cases h; constructor <;> simp_all [impl_RecoverEntries_loop0_L, keepT, keepH, rens, renH, PV.ren, Blk.ren, fOf, lget, nodup, natIn, lenEq, gtm, PV.unK])
    | cases h
set_option maxRecDepth 100000 in
theorem impl_RecoverEntries_loop0_hpost : ∀ p r e S', (impl_RecoverEntries_loop0_post p r).get = some (e, S') → e = (impl_RecoverEntries_loop0_L p).ex r ∧ S' = LSt ((impl_RecoverEntries_loop0_L p).otl r) ((impl_RecoverEntries_loop0_L p).ohl r) ((impl_RecoverEntries_loop0_L p).ogl r) := by
  intro p r e S' h
  unfold impl_RecoverEntries_loop0_post at h
  simp only [DT.get, Option.some.injEq, Prod.mk.injEq] at h; exact ⟨h.1.symm, h.2.symm⟩

def impl_RecoverEntries_loops : Nat → Option LoopF := loopTab [(2, impl_RecoverEntries_loop0_F)]
set_option maxRecDepth 100000 in
theorem impl_RecoverEntries_l0 : LoopOK Try.prog ⟨gam [(36, impl_loadFirst_c)], tab, 51, impl_RecoverEntries_loops⟩ (lp Try.f17 0) :=
  loopOK_some (F := impl_RecoverEntries_loop0_F) (by kernel_rfl) (loopF_ok (E := ⟨gam [(36, impl_loadFirst_c)], tab, 51, impl_RecoverEntries_loops⟩) ⟨gam_cons impl_loadFirst_ok (gam_nil), tab_ok, by kernel_rfl⟩ (fuel := 100000) (loopsOK_list (l := []) (by kernel_rfl) trivial) (L := impl_RecoverEntries_loop0_L) (fun p s => by unfold AgreeL; exact ⟨by kernel_rfl, by kernel_rfl⟩) (fun _ _ h => Ex.noConfusion h) impl_RecoverEntries_loop0_hext impl_RecoverEntries_loop0_hpost)
/-- loop.example/g01284/impl.RecoverEntries -/
def impl_RecoverEntries_tree (a0 : (List UInt8)) : DT (List Entry × Int × Bool) :=
  .need ((impl_RecoverEntries_loop0_ends a0 (0, []))) (
  let x0 := impl_RecoverEntries_loop0 a0 (0, []);
  .leaf (x0.2, x0.1, true))
def impl_RecoverEntries (a0 : (List UInt8)) : List Entry × Int × Bool := (impl_RecoverEntries_tree a0).val
def impl_RecoverEntries_need (a0 : (List UInt8)) : Bool := (impl_RecoverEntries_tree a0).ok
def impl_RecoverEntries_mk (p : List Entry × Int × Bool) : Ret := ⟨.tup [.own 0, .int .i64 p.2.1, .bool p.2.2], [.typed 33 .entry p.1]⟩
def impl_RecoverEntries_c : Con := fun args => match args with
  | [.str a0] => some (.need (impl_RecoverEntries_need a0) (.leaf (impl_RecoverEntries_mk (impl_RecoverEntries a0))))
  | _ => none
set_option maxRecDepth 100000 in
theorem impl_RecoverEntries_ok : FunOK Try.prog 17 impl_RecoverEntries_c.fn := by
  refine con_ok (Γ := gam [(36, impl_loadFirst_c)]) (gam_cons impl_loadFirst_ok (gam_nil)) tab_ok (by kernel_rfl) Try.func17 (by kernel_rfl) (by kernel_rfl) Try.ntmps17 Try.results17 (loops := impl_RecoverEntries_loops) (loopsOK_list (l := [lp Try.f17 0]) (by kernel_rfl) ⟨impl_RecoverEntries_l0, trivial⟩) 100000 fun args t h => ?_
  unfold impl_RecoverEntries_c at h
  split at h
  · rename_i a0
    cases h
    exact ⟨rfl, agree_need (mk := impl_RecoverEntries_mk) (t := impl_RecoverEntries_tree a0) (by unfold Agree; kernel_rfl)⟩
  · cases h

/-- loop.example/g01284/laws.b10At -/
def laws_b10At_tree (a0 : List Int) (a1 : Int) (a2 : Int) : DT (Int) :=
  let x0 := decide (a2 ≤ 1);
  .ask x0
  (
   .leaf 0)
  (
   let x1 := ((List.length a0 : Nat) : Int);
   let x2 := decide (a1 < x1);
   .ask x2
   (
    .need ((decide (0 ≤ a1) && decide (a1 < ((List.length a0 : Nat) : Int)))) (
    let x3 := List.getD a0 (Int.toNat a1) default;
    let x4 := IntKind.wrap .i64 x3;
    .need ((a2 != 0)) (
    let x5 := Int.tmod x4 a2;
    .leaf x5)))
   (
    let x3 := IntKind.wrap .i64 (a1 * 37);
    let x4 := IntKind.wrap .i64 (x3 + 11);
    .need ((a2 != 0)) (
    let x5 := Int.tmod x4 a2;
    .leaf x5)))
def laws_b10At (a0 : List Int) (a1 : Int) (a2 : Int) : Int := (laws_b10At_tree a0 a1 a2).val
def laws_b10At_need (a0 : List Int) (a1 : Int) (a2 : Int) : Bool := (laws_b10At_tree a0 a1 a2).ok
def laws_b10At_mk (p : Int) : Ret := ⟨.int .i64 p, []⟩
def laws_b10At_c0 : Con := fun args => match args with
  | [.vslc 1 (.int .u8) a0, .int .i64 a1, .int .i64 a2] => some (.need (laws_b10At_need a0 a1 a2) (.leaf (laws_b10At_mk (laws_b10At a0 a1 a2))))
  | _ => none
set_option maxRecDepth 100000 in
theorem laws_b10At_ok0 : FunOK Try.prog 18 laws_b10At_c0.fn := by
  refine con_ok (Γ := gam []) (gam_nil) tab_ok (by kernel_rfl) Try.func18 (by kernel_rfl) (by kernel_rfl) Try.ntmps18 Try.results18 (loopsOK_none rfl _) 100000 fun args t h => ?_
  unfold laws_b10At_c0 at h
  split at h
  · rename_i a0 a1 a2
    cases h
    exact ⟨rfl, agree_need (mk := laws_b10At_mk) (t := laws_b10At_tree a0 a1 a2) (by unfold Agree; kernel_rfl)⟩
  · cases h
def laws_b10At_c : Con := fun args => laws_b10At_c0 (norms 0 [.slc (.int .u8), .none, .none] args)
set_option maxRecDepth 100000 in
theorem laws_b10At_ok : FunOK Try.prog 18 laws_b10At_c.fn := con_norm [.slc (.int .u8), .none, .none] laws_b10At_ok0

/-- a loop of laws_FnCatalogs -/
def laws_FnCatalogs_loop0_step (p : List Int × Int × List Entry) (s : Int × List Int) : Round (Int × List Int) ((Unit) ⊕ (List Int)) :=
  let x0 := decide (s.1 < p.2.1);
  .ask x0
  (
   .need ((decide (0 ≤ s.1) && decide (s.1 < ((List.length p.2.2 : Nat) : Int)))) (
   .need ((decide ((Int.toNat s.1) < List.length p.2.2))) (
   let x1 := List.getD p.2.2 (Int.toNat s.1) default;
   .need ((impl_StoreEntry_need (⟨x1.Name, x1.Mass, ⟨x1.Orb.Long, x1.Orb.Round, x1.Orb.Tilt, x1.Orb.Node, x1.Orb.Peri, x1.Orb.Phase⟩⟩ : Entry))) (
   let x2 := impl_StoreEntry (⟨x1.Name, x1.Mass, ⟨x1.Orb.Long, x1.Orb.Round, x1.Orb.Tilt, x1.Orb.Node, x1.Orb.Peri, x1.Orb.Phase⟩⟩ : Entry);
   .need ((impl_LoadEntry_need x2.1)) (
   let x3 := impl_LoadEntry x2.1;
   .ask (!x2.2)
   (
    .leaf (.inr (.inl ()), []))
   (
    .ask (!x3.2)
    (
     .leaf (.inr (.inl ()), []))
    (
     let x4 := IntKind.wrap .i64 (s.1 + 1);
     .need ((decide (0 ≤ x4) && decide (x4 ≤ ((List.length p.2.2 : Nat) : Int)))) (
     .need ((decide (0 ≤ s.1) && decide (s.1 ≤ (((Int.toNat x4) : Nat) : Int)))) (
     .need ((decide ((Int.toNat s.1) + ((Int.toNat x4) - (Int.toNat s.1)) ≤ List.length p.2.2))) (
     let x5 := List.take ((Int.toNat x4) - (Int.toNat s.1)) (List.drop (Int.toNat s.1) p.2.2);
     .need ((impl_SameEntries_need ([(⟨x3.1.Name, x3.1.Mass, ⟨x3.1.Orb.Long, x3.1.Orb.Round, x3.1.Orb.Tilt, x3.1.Orb.Node, x3.1.Orb.Peri, x3.1.Orb.Phase⟩⟩ : Entry)]) x5)) (
     let x6 := impl_SameEntries ([(⟨x3.1.Name, x3.1.Mass, ⟨x3.1.Orb.Long, x3.1.Orb.Round, x3.1.Orb.Tilt, x3.1.Orb.Node, x3.1.Orb.Peri, x3.1.Orb.Phase⟩⟩ : Entry)]) x5;
     .ask (!x6)
     (
      .leaf (.inr (.inl ()), []))
     (
      let x7 := ((List.length s.2 : Nat) : Int);
      let x8 := IntKind.wrap .i64 (x7 - 1);
      .need ((decide (0 ≤ x8) && decide (x8 < ((List.length s.2 : Nat) : Int)))) (
      .need ((decide ((Int.toNat x8) < List.length s.2))) (
      let x9 := List.getD s.2 (Int.toNat x8) default;
      let x10 := ((List.length x2.1 : Nat) : Int);
      let x11 := IntKind.wrap .i64 (x9 + x10);
      .need ((decide ((List.length s.2 + List.length [x11]) * 8 ≤ 140737488355328) && decide (List.length s.2 + List.length [x11] ≤ 9223372036854775807))) (
      let x12 := s.2 ++ [x11];
      let x13 := IntKind.wrap .i64 (s.1 + 1);
      .leaf (.inl (x13, x12), [0, 394]))))))))))))))))
  (
   .leaf (.inr (.inr s.2), [0, 1]))
def laws_FnCatalogs_loop0_L (p : List Int × Int × List Entry) : LoopS (Int × List Int) ((Unit) ⊕ (List Int)) := { tl := fun s => [.junk, .vslc 2 (.int .u8) p.1, .junk, .junk, .junk, .own 0, .junk, .junk, .junk, .junk, .junk, .junk, .junk, .junk, .junk, .junk, .junk, .own 1, .junk, .junk, .junk, .junk, .junk, .junk, .junk, .junk, .junk, .junk, .junk, .junk, .junk, .junk, .junk, .junk, .junk, .junk, .junk, .junk, .junk, .junk, .junk, .junk, .junk, .junk, .junk, .junk, .junk, .junk, .junk, .junk, .junk, .junk, .junk, .junk, .junk, .junk, .junk, .junk, .junk, .junk, .junk, .junk, .junk, .junk, .junk, .junk, .junk, .junk, .junk, .junk, .junk, .junk, .junk, .junk, .junk, .junk, .junk, .junk, .junk, .junk, .junk, .junk, .junk, .junk, .junk, .junk, .junk, .junk, .junk, .junk, .junk, .junk, .junk, .junk, .junk, .junk, .junk, .junk, .junk, .junk, .junk, .junk, .junk, .junk, .junk, .junk, .junk, .junk, .junk, .junk, .junk, .junk, .junk, .junk, .junk, .junk, .junk, .junk, .junk, .junk, .junk, .junk, .junk, .junk, .junk, .junk, .junk, .junk, .junk, .junk, .junk, .int .i64 p.2.1, .int .i64 s.1], hl := fun s => [some (.typed 33 .entry p.2.2), some (.typed 3 (.int .i64) s.2)], ex := fun r => match r with | .inl r => .ret | .inr r => .exit 0, otl := fun r => match r with | .inl r => [.junk, .junk, .junk, .junk, .bool false] | .inr r => [.junk, .vslc 2 (.int .u8) p.1, .junk, .junk, .junk, .own 0, .junk, .junk, .junk, .junk, .junk, .junk, .junk, .junk, .junk, .junk, .junk, .own 1], ohl := fun r => match r with | .inl r => [] | .inr r => [some (.typed 33 .entry p.2.2), some (.typed 3 (.int .i64) r)] }
def laws_FnCatalogs_loop0_ext : St → Option ((List Int × Int × List Entry) × (Int × List Int) × List Nat) := fun S => match (S.tm 1).unK, (S.tm 5).unK, (S.tm 17).unK, (S.tm 131).unK, (S.tm 132).unK with
  | .vslc 2 (.int .u8) q0, .own i0, .own i1, .int .i64 q1, .int .i64 q2 => (match S.hp i0 with
    | some (.typed 33 .entry q3) => (match S.hp i1 with
    | some (.typed 3 (.int .i64) q4) => (if nodup [i0, i1] = true then some ((q0, q1, q3), (q2, q4), [i0, i1]) else none)
    | _ => none)
    | _ => none)
  | _, _, _, _, _ => none
def laws_FnCatalogs_loop0_post (p : List Int × Int × List Entry) (r : (Unit) ⊕ (List Int)) : DT (Ex × St) := .ask (isL r) (.leaf (.ret, LSt [.junk, .junk, .junk, .junk, .bool false] [])) (.leaf (.exit 0, LSt [.junk, .vslc 2 (.int .u8) p.1, .junk, .junk, .junk, .own 0, .junk, .junk, .junk, .junk, .junk, .junk, .junk, .junk, .junk, .junk, .junk, .own 1] [some (.typed 33 .entry p.2.2), some (.typed 3 (.int .i64) ((rightD r)))]))
def laws_FnCatalogs_loop0 (p : List Int × Int × List Entry) (s : Int × List Int) : (Unit) ⊕ (List Int) := loopVal (laws_FnCatalogs_loop0_step p) s
def laws_FnCatalogs_loop0_ends (p : List Int × Int × List Entry) (s : Int × List Int) : Bool := loopEnds (laws_FnCatalogs_loop0_step p) s
def laws_FnCatalogs_loop0_F : LoopF := loopF laws_FnCatalogs_loop0_step laws_FnCatalogs_loop0_ext laws_FnCatalogs_loop0_post
set_option maxRecDepth 100000 in
theorem laws_FnCatalogs_loop0_hext : ∀ S p s fl, laws_FnCatalogs_loop0_ext S = some (p, s, fl) → Norm S fl ((laws_FnCatalogs_loop0_L p).tl s) ((laws_FnCatalogs_loop0_L p).hl s) (laws_FnCatalogs_loop0_L p).gl := by
  intro S p s fl h
  unfold laws_FnCatalogs_loop0_ext at h
  (repeat' split at h) <;> first
    | (cases h; constructor <;> simp_all [laws_FnCatalogs_loop0_L, keepT, keepH, rens, renH, PV.ren, Blk.ren, fOf, lget, nodup, natIn, lenEq, gtm, PV.unK])
    | cases h
set_option maxRecDepth 100000 in
theorem laws_FnCatalogs_loop0_hpost : ∀ p r e S', (laws_FnCatalogs_loop0_post p r).get = some (e, S') → e = (laws_FnCatalogs_loop0_L p).ex r ∧ S' = LSt ((laws_FnCatalogs_loop0_L p).otl r) ((laws_FnCatalogs_loop0_L p).ohl r) ((laws_FnCatalogs_loop0_L p).ogl r) := by
  intro p r e S' h
  unfold laws_FnCatalogs_loop0_post at h
  cases r <;> (simp only [isL, DT.get, Option.some.injEq, Prod.mk.injEq] at h; exact ⟨h.1.symm, h.2.symm⟩)

/-- a loop of laws_FnCatalogs -/
def laws_FnCatalogs_loop1_step (p : List Int × (List UInt8) × Int × List Entry × List Int) (s : Int) : Round (Int) (Int) :=
  let x0 := ((List.length p.2.2.2.1 : Nat) : Int);
  let x1 := decide (s < x0);
  .ask x1
  (
   let x2 := IntKind.wrap .i64 (s + 1);
   .need ((decide (0 ≤ x2) && decide (x2 < ((List.length p.2.2.2.2 : Nat) : Int)))) (
   .need ((decide ((Int.toNat x2) < List.length p.2.2.2.2))) (
   let x3 := List.getD p.2.2.2.2 (Int.toNat x2) default;
   let x4 := decide (x3 ≤ p.2.2.1);
   .ask x4
   (
    let x5 := IntKind.wrap .i64 (s + 1);
    .leaf (.inl x5, [0, 1]))
   (
    .leaf (.inr s, [1])))))
  (
   .leaf (.inr s, [1]))
def laws_FnCatalogs_loop1_L (p : List Int × (List UInt8) × Int × List Entry × List Int) : LoopS (Int) (Int) := { tl := fun s => [.junk, .vslc 2 (.int .u8) p.1, .junk, .junk, .junk, .own 0, .junk, .junk, .junk, .junk, .junk, .junk, .junk, .junk, .junk, .junk, .junk, .own 1, .junk, .junk, .junk, .junk, .junk, .str p.2.1, .junk, .junk, .junk, .junk, .int .i64 p.2.2.1, .int .i64 s], hl := fun s => [some (.typed 33 .entry p.2.2.2.1), some (.typed 3 (.int .i64) p.2.2.2.2)], ex := fun r => .exit 2, otl := fun r => [.junk, .vslc 2 (.int .u8) p.1, .junk, .junk, .junk, .junk, .junk, .junk, .junk, .junk, .junk, .junk, .junk, .junk, .junk, .junk, .junk, .own 0, .junk, .junk, .junk, .junk, .junk, .str p.2.1, .junk, .junk, .junk, .junk, .int .i64 p.2.2.1, .int .i64 r], ohl := fun r => [some (.typed 3 (.int .i64) p.2.2.2.2)] }
def laws_FnCatalogs_loop1_ext : St → Option ((List Int × (List UInt8) × Int × List Entry × List Int) × (Int) × List Nat) := fun S => match (S.tm 1).unK, (S.tm 5).unK, (S.tm 17).unK, (S.tm 23).unK, (S.tm 28).unK, (S.tm 29).unK with
  | .vslc 2 (.int .u8) q0, .own i0, .own i1, .str q1, .int .i64 q2, .int .i64 q3 => (match S.hp i0 with
    | some (.typed 33 .entry q4) => (match S.hp i1 with
    | some (.typed 3 (.int .i64) q5) => (if nodup [i0, i1] = true then some ((q0, q1, q2, q4, q5), q3, [i0, i1]) else none)
    | _ => none)
    | _ => none)
  | _, _, _, _, _, _ => none
def laws_FnCatalogs_loop1_post (p : List Int × (List UInt8) × Int × List Entry × List Int) (r : Int) : DT (Ex × St) := .leaf (.exit 2, LSt [.junk, .vslc 2 (.int .u8) p.1, .junk, .junk, .junk, .junk, .junk, .junk, .junk, .junk, .junk, .junk, .junk, .junk, .junk, .junk, .junk, .own 0, .junk, .junk, .junk, .junk, .junk, .str p.2.1, .junk, .junk, .junk, .junk, .int .i64 p.2.2.1, .int .i64 r] [some (.typed 3 (.int .i64) p.2.2.2.2)])
def laws_FnCatalogs_loop1 (p : List Int × (List UInt8) × Int × List Entry × List Int) (s : Int) : Int := loopVal (laws_FnCatalogs_loop1_step p) s
def laws_FnCatalogs_loop1_ends (p : List Int × (List UInt8) × Int × List Entry × List Int) (s : Int) : Bool := loopEnds (laws_FnCatalogs_loop1_step p) s
def laws_FnCatalogs_loop1_F : LoopF := loopF laws_FnCatalogs_loop1_step laws_FnCatalogs_loop1_ext laws_FnCatalogs_loop1_post
set_option maxRecDepth 100000 in
theorem laws_FnCatalogs_loop1_hext : ∀ S p s fl, laws_FnCatalogs_loop1_ext S = some (p, s, fl) → Norm S fl ((laws_FnCatalogs_loop1_L p).tl s) ((laws_FnCatalogs_loop1_L p).hl s) (laws_FnCatalogs_loop1_L p).gl := by
  intro S p s fl h
  unfold laws_FnCatalogs_loop1_ext at h
  (repeat' split at h) <;> first
    | (cases h; constructor <;> simp_all [laws_FnCatalogs_loop1_L, keepT, keepH, rens, renH, PV.ren, Blk.ren, fOf, lget, nodup, natIn, lenEq, gtm, PV.unK])
    | cases h
set_option maxRecDepth 100000 in
theorem laws_FnCatalogs_loop1_hpost : ∀ p r e S', (laws_FnCatalogs_loop1_post p r).get = some (e, S') → e = (laws_FnCatalogs_loop1_L p).ex r ∧ S' = LSt ((laws_FnCatalogs_loop1_L p).otl r) ((laws_FnCatalogs_loop1_L p).ohl r) ((laws_FnCatalogs_loop1_L p).ogl r) := by
  intro p r e S' h
  unfold laws_FnCatalogs_loop1_post at h
  simp only [DT.get, Option.some.injEq, Prod.mk.injEq] at h; exact ⟨h.1.symm, h.2.symm⟩

def laws_FnCatalogs_loops : Nat → Option LoopF := loopTab [(19, laws_FnCatalogs_loop0_F), (35, laws_FnCatalogs_loop1_F)]
set_option maxRecDepth 100000 in
theorem laws_FnCatalogs_l1 : LoopOK Try.prog ⟨gam [(4, laws_b10Long_c), (5, spec_B10Entries_c), (6, impl_AreEntries_c), (7, spec_Decimal_c), (8, spec_B10Orbit_c), (9, impl_ValidEntry_c), (10, impl_PutEntry_c), (11, impl_FindEntry_c), (12, impl_DropEntry_c), (13, impl_SameEntries_c), (14, impl_StoreEntry_c), (15, impl_LoadEntry_c), (16, impl_StoreEntries_c), (17, impl_RecoverEntries_c), (18, laws_b10At_c)], tab, 320, laws_FnCatalogs_loops⟩ (lp Try.f3 1) :=
  loopOK_some (F := laws_FnCatalogs_loop1_F) (by kernel_rfl) (loopF_ok (E := ⟨gam [(4, laws_b10Long_c), (5, spec_B10Entries_c), (6, impl_AreEntries_c), (7, spec_Decimal_c), (8, spec_B10Orbit_c), (9, impl_ValidEntry_c), (10, impl_PutEntry_c), (11, impl_FindEntry_c), (12, impl_DropEntry_c), (13, impl_SameEntries_c), (14, impl_StoreEntry_c), (15, impl_LoadEntry_c), (16, impl_StoreEntries_c), (17, impl_RecoverEntries_c), (18, laws_b10At_c)], tab, 320, laws_FnCatalogs_loops⟩) ⟨gam_cons laws_b10Long_ok (gam_cons spec_B10Entries_ok (gam_cons impl_AreEntries_ok (gam_cons spec_Decimal_ok (gam_cons spec_B10Orbit_ok (gam_cons impl_ValidEntry_ok (gam_cons impl_PutEntry_ok (gam_cons impl_FindEntry_ok (gam_cons impl_DropEntry_ok (gam_cons impl_SameEntries_ok (gam_cons impl_StoreEntry_ok (gam_cons impl_LoadEntry_ok (gam_cons impl_StoreEntries_ok (gam_cons impl_RecoverEntries_ok (gam_cons laws_b10At_ok (gam_nil))))))))))))))), tab_ok, by kernel_rfl⟩ (fuel := 100000) (loopsOK_list (l := []) (by kernel_rfl) trivial) (L := laws_FnCatalogs_loop1_L) (fun p s => by unfold AgreeL; exact ⟨by kernel_rfl, by kernel_rfl⟩) (fun _ _ h => Ex.noConfusion h) laws_FnCatalogs_loop1_hext laws_FnCatalogs_loop1_hpost)
set_option maxRecDepth 100000 in
theorem laws_FnCatalogs_l0 : LoopOK Try.prog ⟨gam [(4, laws_b10Long_c), (5, spec_B10Entries_c), (6, impl_AreEntries_c), (7, spec_Decimal_c), (8, spec_B10Orbit_c), (9, impl_ValidEntry_c), (10, impl_PutEntry_c), (11, impl_FindEntry_c), (12, impl_DropEntry_c), (13, impl_SameEntries_c), (14, impl_StoreEntry_c), (15, impl_LoadEntry_c), (16, impl_StoreEntries_c), (17, impl_RecoverEntries_c), (18, laws_b10At_c)], tab, 320, laws_FnCatalogs_loops⟩ (lp Try.f3 0) :=
  loopOK_some (F := laws_FnCatalogs_loop0_F) (by kernel_rfl) (loopF_ok (E := ⟨gam [(4, laws_b10Long_c), (5, spec_B10Entries_c), (6, impl_AreEntries_c), (7, spec_Decimal_c), (8, spec_B10Orbit_c), (9, impl_ValidEntry_c), (10, impl_PutEntry_c), (11, impl_FindEntry_c), (12, impl_DropEntry_c), (13, impl_SameEntries_c), (14, impl_StoreEntry_c), (15, impl_LoadEntry_c), (16, impl_StoreEntries_c), (17, impl_RecoverEntries_c), (18, laws_b10At_c)], tab, 320, laws_FnCatalogs_loops⟩) ⟨gam_cons laws_b10Long_ok (gam_cons spec_B10Entries_ok (gam_cons impl_AreEntries_ok (gam_cons spec_Decimal_ok (gam_cons spec_B10Orbit_ok (gam_cons impl_ValidEntry_ok (gam_cons impl_PutEntry_ok (gam_cons impl_FindEntry_ok (gam_cons impl_DropEntry_ok (gam_cons impl_SameEntries_ok (gam_cons impl_StoreEntry_ok (gam_cons impl_LoadEntry_ok (gam_cons impl_StoreEntries_ok (gam_cons impl_RecoverEntries_ok (gam_cons laws_b10At_ok (gam_nil))))))))))))))), tab_ok, by kernel_rfl⟩ (fuel := 100000) (loopsOK_list (l := []) (by kernel_rfl) trivial) (L := laws_FnCatalogs_loop0_L) (fun p s => by unfold AgreeL; exact ⟨by kernel_rfl, by kernel_rfl⟩) (fun _ r h => by cases r <;> exact Ex.noConfusion h) laws_FnCatalogs_loop0_hext laws_FnCatalogs_loop0_hpost)
/-- loop.example/g01284/laws.FnCatalogs -/
def laws_FnCatalogs_tree (a0 : List Int) (a1 : List Int) : DT (Bool) :=
  let x0 := laws_b10Long a0 a1;
  .ask x0
  (
   .leaf true)
  (
   .need ((spec_B10Entries_need a0)) (
   let x1 := spec_B10Entries a0;
   .need ((impl_AreEntries_need x1)) (
   let x2 := impl_AreEntries x1;
   .ask (!x2)
   (
    .leaf false)
   (
    .need ((spec_Decimal_need 0)) (
    let x3 := spec_Decimal 0;
    .need ((decide (List.length [109] + List.length x3 ≤ 9223372036854775807))) (
    let x4 := [109] ++ x3;
    .need ((spec_B10Orbit_need a1)) (
    let x5 := spec_B10Orbit a1;
    .need ((impl_ValidEntry_need (⟨x4, 1065353216, ⟨x5.Long, x5.Round, x5.Tilt, x5.Node, x5.Peri, x5.Phase⟩⟩ : Entry))) (
    let x6 := impl_ValidEntry (⟨x4, 1065353216, ⟨x5.Long, x5.Round, x5.Tilt, x5.Node, x5.Peri, x5.Phase⟩⟩ : Entry);
    .ask x6
    (
     .leaf false)
    (
     .need ((impl_PutEntry_need x1 (⟨[109, 97, 114, 115], 1065353216, ⟨x5.Long, x5.Round, x5.Tilt, x5.Node, x5.Peri, x5.Phase⟩⟩ : Entry))) (
     let x7 := impl_PutEntry x1 (⟨[109, 97, 114, 115], 1065353216, ⟨x5.Long, x5.Round, x5.Tilt, x5.Node, x5.Peri, x5.Phase⟩⟩ : Entry);
     .ask ((isL x7))
     (
      .need ((impl_FindEntry_need [] ([109, 97, 114, 115]))) (
      let x8 := impl_FindEntry [] ([109, 97, 114, 115]);
      .need ((impl_PutEntry_need [] (⟨[109, 97, 114, 115], 1065353216, ⟨x5.Long, x5.Round, x5.Tilt, x5.Node, x5.Peri, x5.Phase⟩⟩ : Entry))) (
      let x9 := impl_PutEntry [] (⟨[109, 97, 114, 115], 1065353216, ⟨x5.Long, x5.Round, x5.Tilt, x5.Node, x5.Peri, x5.Phase⟩⟩ : Entry);
      .ask ((isL x9))
      (
       .need ((impl_DropEntry_need [] ([109, 97, 114, 115]))) (
       let x10 := impl_DropEntry [] ([109, 97, 114, 115]);
       .ask ((isL x10))
       (
        .need ((impl_FindEntry_need x1 ([109, 97, 114, 115]))) (
        let x11 := impl_FindEntry x1 ([109, 97, 114, 115]);
        .skip (
        .skip (
        .skip (
        .leaf false)))))
       (
        .need ((impl_FindEntry_need x1 ([109, 97, 114, 115]))) (
        let x11 := impl_FindEntry x1 ([109, 97, 114, 115]);
        .skip (
        .skip (
        .skip (
        .leaf false)))))))
      (
       .need ((impl_DropEntry_need [] ([109, 97, 114, 115]))) (
       let x10 := impl_DropEntry [] ([109, 97, 114, 115]);
       .ask ((isL x10))
       (
        .need ((impl_FindEntry_need x1 ([109, 97, 114, 115]))) (
        let x11 := impl_FindEntry x1 ([109, 97, 114, 115]);
        .skip (
        .skip (
        .skip (
        .leaf false)))))
       (
        .need ((impl_FindEntry_need x1 ([109, 97, 114, 115]))) (
        let x11 := impl_FindEntry x1 ([109, 97, 114, 115]);
        .skip (
        .skip (
        .skip (
        .leaf false))))))))))
     (
      .need ((impl_FindEntry_need ((rightD x7)) ([109, 97, 114, 115]))) (
      let x8 := impl_FindEntry ((rightD x7)) ([109, 97, 114, 115]);
      .need ((impl_PutEntry_need ((rightD x7)) (⟨[109, 97, 114, 115], 1065353216, ⟨x5.Long, x5.Round, x5.Tilt, x5.Node, x5.Peri, x5.Phase⟩⟩ : Entry))) (
      let x9 := impl_PutEntry ((rightD x7)) (⟨[109, 97, 114, 115], 1065353216, ⟨x5.Long, x5.Round, x5.Tilt, x5.Node, x5.Peri, x5.Phase⟩⟩ : Entry);
      .ask ((isL x9))
      (
       .need ((impl_DropEntry_need ((rightD x7)) ([109, 97, 114, 115]))) (
       let x10 := impl_DropEntry ((rightD x7)) ([109, 97, 114, 115]);
       .ask ((isL x10))
       (
        .need ((impl_FindEntry_need x1 ([109, 97, 114, 115]))) (
        let x11 := impl_FindEntry x1 ([109, 97, 114, 115]);
        .skip (
        .skip (
        .skip (
        .ask (!x8.2)
        (
         .leaf false)
        (
         .skip (
         .skip (
         .skip (
         .leaf false)))))))))
       (
        .need ((impl_FindEntry_need x1 ([109, 97, 114, 115]))) (
        let x11 := impl_FindEntry x1 ([109, 97, 114, 115]);
        .skip (
        .skip (
        .skip (
        .ask (!x8.2)
        (
         .leaf false)
        (
         .skip (
         .skip (
         .skip (
         .leaf false)))))))))))
      (
       .need ((impl_DropEntry_need ((rightD x7)) ([109, 97, 114, 115]))) (
       let x10 := impl_DropEntry ((rightD x7)) ([109, 97, 114, 115]);
       .ask ((isL x10))
       (
        .need ((impl_FindEntry_need x1 ([109, 97, 114, 115]))) (
        let x11 := impl_FindEntry x1 ([109, 97, 114, 115]);
        .skip (
        .skip (
        .skip (
        .ask (!x8.2)
        (
         .leaf false)
        (
         .skip (
         .skip (
         let x12 := (!(leftD x10));
         .skip (
         .ask x12
         (
          .leaf false)
         (
          .ask x11.2
          (
           .leaf false)
          (
           let x13 := decide (x8.1 < 0);
           .ask x13
           (
            .leaf false)
           (
            let x14 := ((List.length (rightD x7) : Nat) : Int);
            let x15 := decide (x8.1 ≥ x14);
            .ask x15
            (
             .leaf false)
            (
             .need ((decide (0 ≤ x8.1) && decide (x8.1 < ((List.length (rightD x7) : Nat) : Int)))) (
             .need ((decide ((Int.toNat x8.1) < List.length (rightD x7)))) (
             let x16 := List.getD (rightD x7) (Int.toNat x8.1) default;
             let x17 := (!(x16.Name == [109, 97, 114, 115]));
             .ask x17
             (
              .leaf false)
             (
              .need ((impl_SameEntries_need ((rightD x9)) ((rightD x7)))) (
              let x18 := impl_SameEntries ((rightD x9)) ((rightD x7));
              .ask (!x18)
              (
               .leaf false)
              (
               .need ((impl_SameEntries_need [] x1)) (
               let x19 := impl_SameEntries [] x1;
               .ask (!x19)
               (
                .leaf false)
               (
                let x20 := ((List.length x1 : Nat) : Int);
                .need ((laws_FnCatalogs_loop0_ends (a1, x20, x1) (0, [0]))) (
                let x21 := laws_FnCatalogs_loop0 (a1, x20, x1) (0, [0]);
                .ask ((isL x21))
                (
                 .leaf false)
                (
                 .need ((impl_StoreEntries_need x1)) (
                 let x22 := impl_StoreEntries x1;
                 .need ((impl_RecoverEntries_need x22.1)) (
                 let x23 := impl_RecoverEntries x22.1;
                 .ask (!x22.2)
                 (
                  .leaf false)
                 (
                  .ask (!x23.2.2)
                  (
                   .leaf false)
                  (
                   let x24 := ((List.length x22.1 : Nat) : Int);
                   let x25 := ((List.length x1 : Nat) : Int);
                   .need ((decide (0 ≤ x25) && decide (x25 < ((List.length (rightD x21) : Nat) : Int)))) (
                   .need ((decide ((Int.toNat x25) < List.length (rightD x21)))) (
                   let x26 := List.getD (rightD x21) (Int.toNat x25) default;
                   let x27 := (x24 != x26);
                   .ask x27
                   (
                    .leaf false)
                   (
                    let x28 := ((List.length x22.1 : Nat) : Int);
                    let x29 := (x23.2.1 != x28);
                    .ask x29
                    (
                     .leaf false)
                    (
                     .need ((impl_SameEntries_need x23.1 x1)) (
                     let x30 := impl_SameEntries x23.1 x1;
                     .ask (!x30)
                     (
                      .leaf false)
                     (
                      let x31 := ((List.length x22.1 : Nat) : Int);
                      let x32 := (x31 == 0);
                      .ask x32
                      (
                       .leaf true)
                      (
                       .need ((laws_b10At_need a1 0 256)) (
                       let x33 := laws_b10At a1 0 256;
                       let x34 := IntKind.wrap .i64 (256 * x33);
                       .need ((laws_b10At_need a1 1 256)) (
                       let x35 := laws_b10At a1 1 256;
                       let x36 := IntKind.wrap .i64 (x34 + x35);
                       let x37 := ((List.length x22.1 : Nat) : Int);
                       .need ((x37 != 0)) (
                       let x38 := Int.tmod x36 x37;
                       .need ((laws_FnCatalogs_loop1_ends (a1, x22.1, x38, x1, (rightD x21)) 0)) (
                       let x39 := laws_FnCatalogs_loop1 (a1, x22.1, x38, x1, (rightD x21)) 0;
                       .need ((decide (0 ≤ x38) && decide (x38 ≤ ((List.length x22.1 : Nat) : Int)))) (
                       let x40 := List.drop 0 (List.take (Int.toNat x38) x22.1);
                       .need ((impl_RecoverEntries_need x40)) (
                       let x41 := impl_RecoverEntries x40;
                       .ask (!x41.2.2)
                       (
                        .leaf false)
                       (
                        .need ((decide (0 ≤ x39) && decide (x39 < ((List.length (rightD x21) : Nat) : Int)))) (
                        .need ((decide ((Int.toNat x39) < List.length (rightD x21)))) (
                        let x42 := List.getD (rightD x21) (Int.toNat x39) default;
                        let x43 := (x41.2.1 != x42);
                        .ask x43
                        (
                         .leaf false)
                        (
                         let x44 := ((List.length x41.1 : Nat) : Int);
                         let x45 := (x44 != x39);
                         .ask x45
                         (
                          .leaf false)
                         (
                          .need ((decide (List.length x22.1 ≤ 140737488355328))) (
                          let x46 := u8i x22.1;
                          .need ((decide (0 ≤ x38) && decide (x38 < ((List.length x46 : Nat) : Int)))) (
                          .need ((decide ((Int.toNat x38) < List.length x46))) (
                          let x47 := List.getD x46 (Int.toNat x38) default;
                          .need ((laws_b10At_need a1 2 255)) (
                          let x48 := laws_b10At a1 2 255;
                          let x49 := IntKind.wrap .i64 (1 + x48);
                          let x50 := IntKind.wrap .u8 x49;
                          let x51 := IntKind.wrap .u8 (x47 + x50);
                          .need ((decide (0 ≤ x38) && decide (x38 < ((List.length x46 : Nat) : Int)))) (
                          .need ((decide ((Int.toNat x38) < List.length x46))) (
                          let x52 := List.set x46 (Int.toNat x38) x51;
                          let x53 := strOf x52;
                          .need ((impl_RecoverEntries_need x53)) (
                          let x54 := impl_RecoverEntries x53;
                          .need ((impl_StoreEntries_need x54.1)) (
                          let x55 := impl_StoreEntries x54.1;
                          .ask x54.2.2
                          (
                           .ask x55.2
                           (
                            let x56 := ((List.length x54.1 : Nat) : Int);
                            let x57 := decide (x56 ≥ x39);
                            .ask x57
                            (
                             let x58 := decide (x54.2.1 ≥ 0);
                             .ask x58
                             (
                              let x59 := ((List.length x52 : Nat) : Int);
                              let x60 := decide (x54.2.1 ≤ x59);
                              .ask x60
                              (
                               .need ((decide (0 ≤ x54.2.1) && decide (x54.2.1 ≤ ((List.length x52 : Nat) : Int)))) (
                               .need ((decide (0 + ((Int.toNat x54.2.1) - 0) ≤ List.length x52))) (
                               let x61 := strOf (List.take ((Int.toNat x54.2.1) - 0) (List.drop 0 x52));
                               let x62 := (x55.1 == x61);
                               .leaf x62)))
                              (
                               .leaf false))
                             (
                              .leaf false))
                            (
                             .leaf false))
                           (
                            .leaf false))
                          (
                           .leaf false)))))))))))))))))))))))))))))))))))))))))))))))))))))
       (
        .need ((impl_FindEntry_need x1 ([109, 97, 114, 115]))) (
        let x11 := impl_FindEntry x1 ([109, 97, 114, 115]);
        .skip (
        .skip (
        .skip (
        .ask (!x8.2)
        (
         .leaf false)
        (
         .skip (
         .skip (
         .skip (
         .skip (
         .skip (
         .ask x11.2
         (
          .leaf false)
         (
          let x12 := decide (x8.1 < 0);
          .ask x12
          (
           .leaf false)
          (
           let x13 := ((List.length (rightD x7) : Nat) : Int);
           let x14 := decide (x8.1 ≥ x13);
           .ask x14
           (
            .leaf false)
           (
            .need ((decide (0 ≤ x8.1) && decide (x8.1 < ((List.length (rightD x7) : Nat) : Int)))) (
            .need ((decide ((Int.toNat x8.1) < List.length (rightD x7)))) (
            let x15 := List.getD (rightD x7) (Int.toNat x8.1) default;
            let x16 := (!(x15.Name == [109, 97, 114, 115]));
            .ask x16
            (
             .leaf false)
            (
             .need ((impl_SameEntries_need ((rightD x9)) ((rightD x7)))) (
             let x17 := impl_SameEntries ((rightD x9)) ((rightD x7));
             .ask (!x17)
             (
              .leaf false)
             (
              .need ((impl_SameEntries_need ((rightD x10)) x1)) (
              let x18 := impl_SameEntries ((rightD x10)) x1;
              .ask (!x18)
              (
               .leaf false)
              (
               let x19 := ((List.length x1 : Nat) : Int);
               .need ((laws_FnCatalogs_loop0_ends (a1, x19, x1) (0, [0]))) (
               let x20 := laws_FnCatalogs_loop0 (a1, x19, x1) (0, [0]);
               .ask ((isL x20))
               (
                .leaf false)
               (
                .need ((impl_StoreEntries_need x1)) (
                let x21 := impl_StoreEntries x1;
                .need ((impl_RecoverEntries_need x21.1)) (
                let x22 := impl_RecoverEntries x21.1;
                .ask (!x21.2)
                (
                 .leaf false)
                (
                 .ask (!x22.2.2)
                 (
                  .leaf false)
                 (
                  let x23 := ((List.length x21.1 : Nat) : Int);
                  let x24 := ((List.length x1 : Nat) : Int);
                  .need ((decide (0 ≤ x24) && decide (x24 < ((List.length (rightD x20) : Nat) : Int)))) (
                  .need ((decide ((Int.toNat x24) < List.length (rightD x20)))) (
                  let x25 := List.getD (rightD x20) (Int.toNat x24) default;
                  let x26 := (x23 != x25);
                  .ask x26
                  (
                   .leaf false)
                  (
                   let x27 := ((List.length x21.1 : Nat) : Int);
                   let x28 := (x22.2.1 != x27);
                   .ask x28
                   (
                    .leaf false)
                   (
                    .need ((impl_SameEntries_need x22.1 x1)) (
                    let x29 := impl_SameEntries x22.1 x1;
                    .ask (!x29)
                    (
                     .leaf false)
                    (
                     let x30 := ((List.length x21.1 : Nat) : Int);
                     let x31 := (x30 == 0);
                     .ask x31
                     (
                      .leaf true)
                     (
                      .need ((laws_b10At_need a1 0 256)) (
                      let x32 := laws_b10At a1 0 256;
                      let x33 := IntKind.wrap .i64 (256 * x32);
                      .need ((laws_b10At_need a1 1 256)) (
                      let x34 := laws_b10At a1 1 256;
                      let x35 := IntKind.wrap .i64 (x33 + x34);
                      let x36 := ((List.length x21.1 : Nat) : Int);
                      .need ((x36 != 0)) (
                      let x37 := Int.tmod x35 x36;
                      .need ((laws_FnCatalogs_loop1_ends (a1, x21.1, x37, x1, (rightD x20)) 0)) (
                      let x38 := laws_FnCatalogs_loop1 (a1, x21.1, x37, x1, (rightD x20)) 0;
                      .need ((decide (0 ≤ x37) && decide (x37 ≤ ((List.length x21.1 : Nat) : Int)))) (
                      let x39 := List.drop 0 (List.take (Int.toNat x37) x21.1);
                      .need ((impl_RecoverEntries_need x39)) (
                      let x40 := impl_RecoverEntries x39;
                      .ask (!x40.2.2)
                      (
                       .leaf false)
                      (
                       .need ((decide (0 ≤ x38) && decide (x38 < ((List.length (rightD x20) : Nat) : Int)))) (
                       .need ((decide ((Int.toNat x38) < List.length (rightD x20)))) (
                       let x41 := List.getD (rightD x20) (Int.toNat x38) default;
                       let x42 := (x40.2.1 != x41);
                       .ask x42
                       (
                        .leaf false)
                       (
                        let x43 := ((List.length x40.1 : Nat) : Int);
                        let x44 := (x43 != x38);
                        .ask x44
                        (
                         .leaf false)
                        (
                         .need ((decide (List.length x21.1 ≤ 140737488355328))) (
                         let x45 := u8i x21.1;
                         .need ((decide (0 ≤ x37) && decide (x37 < ((List.length x45 : Nat) : Int)))) (
                         .need ((decide ((Int.toNat x37) < List.length x45))) (
                         let x46 := List.getD x45 (Int.toNat x37) default;
                         .need ((laws_b10At_need a1 2 255)) (
                         let x47 := laws_b10At a1 2 255;
                         let x48 := IntKind.wrap .i64 (1 + x47);
                         let x49 := IntKind.wrap .u8 x48;
                         let x50 := IntKind.wrap .u8 (x46 + x49);
                         .need ((decide (0 ≤ x37) && decide (x37 < ((List.length x45 : Nat) : Int)))) (
                         .need ((decide ((Int.toNat x37) < List.length x45))) (
                         let x51 := List.set x45 (Int.toNat x37) x50;
                         let x52 := strOf x51;
                         .need ((impl_RecoverEntries_need x52)) (
                         let x53 := impl_RecoverEntries x52;
                         .need ((impl_StoreEntries_need x53.1)) (
                         let x54 := impl_StoreEntries x53.1;
                         .ask x53.2.2
                         (
                          .ask x54.2
                          (
                           let x55 := ((List.length x53.1 : Nat) : Int);
                           let x56 := decide (x55 ≥ x38);
                           .ask x56
                           (
                            let x57 := decide (x53.2.1 ≥ 0);
                            .ask x57
                            (
                             let x58 := ((List.length x51 : Nat) : Int);
                             let x59 := decide (x53.2.1 ≤ x58);
                             .ask x59
                             (
                              .need ((decide (0 ≤ x53.2.1) && decide (x53.2.1 ≤ ((List.length x51 : Nat) : Int)))) (
                              .need ((decide (0 + ((Int.toNat x53.2.1) - 0) ≤ List.length x51))) (
                              let x60 := strOf (List.take ((Int.toNat x53.2.1) - 0) (List.drop 0 x51));
                              let x61 := (x54.1 == x60);
                              .leaf x61)))
                             (
                              .leaf false))
                            (
                             .leaf false))
                           (
                            .leaf false))
                          (
                           .leaf false))
                         (
                          .leaf false)))))))))))))))))))))))))))))))))))))))))))))))))))))))))))))))))))))
def laws_FnCatalogs (a0 : List Int) (a1 : List Int) : Bool := (laws_FnCatalogs_tree a0 a1).val
def laws_FnCatalogs_need (a0 : List Int) (a1 : List Int) : Bool := (laws_FnCatalogs_tree a0 a1).ok
def laws_FnCatalogs_mk (p : Bool) : Ret := ⟨.bool p, []⟩
def laws_FnCatalogs_c0 : Con := fun args => match args with
  | [.vslc 1 (.int .u8) a0, .vslc 2 (.int .u8) a1] => some (.need (laws_FnCatalogs_need a0 a1) (.leaf (laws_FnCatalogs_mk (laws_FnCatalogs a0 a1))))
  | _ => none
set_option maxRecDepth 100000 in
theorem laws_FnCatalogs_ok0 : FunOK Try.prog 3 laws_FnCatalogs_c0.fn := by
  refine con_ok (Γ := gam [(4, laws_b10Long_c), (5, spec_B10Entries_c), (6, impl_AreEntries_c), (7, spec_Decimal_c), (8, spec_B10Orbit_c), (9, impl_ValidEntry_c), (10, impl_PutEntry_c), (11, impl_FindEntry_c), (12, impl_DropEntry_c), (13, impl_SameEntries_c), (14, impl_StoreEntry_c), (15, impl_LoadEntry_c), (16, impl_StoreEntries_c), (17, impl_RecoverEntries_c), (18, laws_b10At_c)]) (gam_cons laws_b10Long_ok (gam_cons spec_B10Entries_ok (gam_cons impl_AreEntries_ok (gam_cons spec_Decimal_ok (gam_cons spec_B10Orbit_ok (gam_cons impl_ValidEntry_ok (gam_cons impl_PutEntry_ok (gam_cons impl_FindEntry_ok (gam_cons impl_DropEntry_ok (gam_cons impl_SameEntries_ok (gam_cons impl_StoreEntry_ok (gam_cons impl_LoadEntry_ok (gam_cons impl_StoreEntries_ok (gam_cons impl_RecoverEntries_ok (gam_cons laws_b10At_ok (gam_nil)))))))))))))))) tab_ok (by kernel_rfl) Try.func3 (by kernel_rfl) (by kernel_rfl) Try.ntmps3 Try.results3 (loops := laws_FnCatalogs_loops) (loopsOK_list (l := [lp Try.f3 0, lp Try.f3 1]) (by kernel_rfl) ⟨laws_FnCatalogs_l0, ⟨laws_FnCatalogs_l1, trivial⟩⟩) 100000 fun args t h => ?_
  unfold laws_FnCatalogs_c0 at h
  split at h
  · rename_i a0 a1
    cases h
    exact ⟨rfl, agree_need (mk := laws_FnCatalogs_mk) (t := laws_FnCatalogs_tree a0 a1) (by unfold Agree; kernel_rfl)⟩
  · cases h
def laws_FnCatalogs_c : Con := fun args => laws_FnCatalogs_c0 (norms 0 [.slc (.int .u8), .slc (.int .u8)] args)
set_option maxRecDepth 100000 in
theorem laws_FnCatalogs_ok : FunOK Try.prog 3 laws_FnCatalogs_c.fn := con_norm [.slc (.int .u8), .slc (.int .u8)] laws_FnCatalogs_ok0

end
end Go.Proofs.Ytnmeiodaeaabfaa
