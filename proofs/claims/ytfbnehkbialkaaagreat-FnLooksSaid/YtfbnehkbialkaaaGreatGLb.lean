/- THE WALK, BY A PROGRAM: typed functions, and that the code is they. -/
import Derived.Test.YtfbnehkbialkaaaGreatFrom
namespace Go.Proofs.YtfbnehkbialkaaaGreat
set_option linter.unusedVariables false
set_option linter.unusedSimpArgs false
open Go.Extern
noncomputable section

set_option maxRecDepth 100000 in
theorem math_Float64bits_ok : FunOK Tryz.prog 115 math_Float64bits_c.fn := bits64_ok (run_callFunc_extern Tryz.func115 (by kernel_rfl) (by kernel_rfl) (by kernel_rfl) (by kernel_rfl))

set_option maxRecDepth 100000 in
theorem math_Float64frombits_ok : FunOK Tryz.prog 97 math_Float64frombits_c.fn := frombits64_ok (run_callFunc_extern Tryz.func97 (by kernel_rfl) (by kernel_rfl) (by kernel_rfl) (by kernel_rfl))

set_option maxRecDepth 100000 in
theorem math_sqrt_ok : FunOK Tryz.prog 98 math_sqrt_c.fn := sqrt_ok (run_callFunc_extern Tryz.func98 (by kernel_rfl) (by kernel_rfl) (by kernel_rfl) (by kernel_rfl))

set_option maxRecDepth 100000 in
theorem math_archFloor_ok : FunOK Tryz.prog 116 math_archFloor_c.fn := floor_ok (run_callFunc_extern Tryz.func116 (by kernel_rfl) (by kernel_rfl) (by kernel_rfl) (by kernel_rfl))

set_option maxRecDepth 100000 in
theorem math_archTrunc_ok : FunOK Tryz.prog 135 math_archTrunc_c.fn := trunc_ok (run_callFunc_extern Tryz.func135 (by kernel_rfl) (by kernel_rfl) (by kernel_rfl) (by kernel_rfl))

set_option maxRecDepth 100000 in
theorem math_Float32bits_ok : FunOK Tryz.prog 105 math_Float32bits_c.fn := bits32_ok (run_callFunc_extern Tryz.func105 (by kernel_rfl) (by kernel_rfl) (by kernel_rfl) (by kernel_rfl))

/-- loop.example/g01284/laws.b10Long -/
def laws_b10Long_tree (a0 : List Int) (a1 : List Int) : DT (Bool) :=
  let x0 := ((List.length a0 : Nat) : Int);
  let x1 := decide (x0 > 1048576);
  .ask x1
  (
   .leaf true)
  (
   let x2 := ((List.length a1 : Nat) : Int);
   let x3 := decide (x2 > 1048576);
   .leaf x3)
def laws_b10Long (a0 : List Int) (a1 : List Int) : Bool := (laws_b10Long_tree a0 a1).val
def laws_b10Long_mk (p : Bool) : Ret := ⟨.bool p, []⟩
def laws_b10Long_c0 : Con := fun args => match args with
  | [.vslc 1 (.int .u8) a0, .vslc 2 (.int .u8) a1] => some (.leaf (laws_b10Long_mk (laws_b10Long a0 a1)))
  | _ => none
set_option maxRecDepth 100000 in
theorem laws_b10Long_ok0 : FunOK Tryz.prog 4 laws_b10Long_c0.fn := by
  refine con_ok (Γ := gam []) (gam_nil) tab_ok (by kernel_rfl) Tryz.func4 (by kernel_rfl) (by kernel_rfl) Tryz.ntmps4 Tryz.results4 (loopsOK_none rfl _) 100000 fun args t h => ?_
  unfold laws_b10Long_c0 at h
  split at h
  · rename_i a0 a1
    cases h
    exact ⟨rfl, agree_tot (mk := laws_b10Long_mk) (t := laws_b10Long_tree a0 a1) (by unfold Agree; kernel_rfl) (by kernel_rfl)⟩
  · cases h
def laws_b10Long_c : Con := fun args => laws_b10Long_c0 (norms 0 [.slc (.int .u8), .slc (.int .u8)] args)
set_option maxRecDepth 100000 in
theorem laws_b10Long_ok : FunOK Tryz.prog 4 laws_b10Long_c.fn := con_norm [.slc (.int .u8), .slc (.int .u8)] laws_b10Long_ok0

/-- (*loop.example/g01284/spec.l00Src).next -/
def spec_l00Src_next_tree (a0_0 : List Int) (a0_1 : Int) (a0_2 : Int) : DT (Int × Int × Int) :=
  let x0 := ((List.length a0_0 : Nat) : Int);
  let x1 := decide (a0_1 < x0);
  .ask x1
  (
   .need ((decide (0 ≤ a0_1) && decide (a0_1 < ((List.length a0_0 : Nat) : Int)))) (
   let x2 := List.getD a0_0 (Int.toNat a0_1) default;
   let x3 := IntKind.wrap .i64 x2;
   let x4 := IntKind.wrap .i64 (a0_1 + 1);
   let x5 := IntKind.wrap .u64 (a0_2 * 6364136223846793005);
   let x6 := IntKind.wrap .u64 x3;
   let x7 := IntKind.wrap .u64 (x5 + x6);
   let x8 := IntKind.wrap .u64 (x7 + 1442695040888963407);
   let x9 := ((List.length a0_0 : Nat) : Int);
   let x10 := decide (x4 ≤ x9);
   .ask x10
   (
    .leaf (x3, x4, x8))
   (
    .skip (
    let x11 := Int.fdiv x8 (2 ^ (min (Int.toNat 40) (IntKind.bits .u64)));
    let x12 := IntKind.wrap .u64 (BitVec.ofInt (IntKind.bits .u64) x11 &&& BitVec.ofInt (IntKind.bits .u64) 255).toNat;
    let x13 := IntKind.wrap .i64 x12;
    .leaf (x13, x4, x8)))))
  (
   let x2 := IntKind.wrap .i64 (a0_1 + 1);
   let x3 := IntKind.wrap .u64 (a0_2 * 6364136223846793005);
   let x4 := IntKind.wrap .u64 (x3 + 0);
   let x5 := IntKind.wrap .u64 (x4 + 1442695040888963407);
   let x6 := ((List.length a0_0 : Nat) : Int);
   let x7 := decide (x2 ≤ x6);
   .ask x7
   (
    .leaf (0, x2, x5))
   (
    .skip (
    let x8 := Int.fdiv x5 (2 ^ (min (Int.toNat 40) (IntKind.bits .u64)));
    let x9 := IntKind.wrap .u64 (BitVec.ofInt (IntKind.bits .u64) x8 &&& BitVec.ofInt (IntKind.bits .u64) 255).toNat;
    let x10 := IntKind.wrap .i64 x9;
    .leaf (x10, x2, x5))))
def spec_l00Src_next (a0_0 : List Int) (a0_1 : Int) (a0_2 : Int) : Int × Int × Int := (spec_l00Src_next_tree a0_0 a0_1 a0_2).val
def spec_l00Src_next_need (a0_0 : List Int) (a0_1 : Int) (a0_2 : Int) : Bool := (spec_l00Src_next_tree a0_0 a0_1 a0_2).ok
def spec_l00Src_next_mk (p : Int × Int × Int) : PV × List (Option PV) := (.int .i64 p.1, [none, some (.int .i64 p.2.1), some (.int .u64 p.2.2)])
def spec_l00Src_next_M : BCon := fun cs ps => match cs, ps with
  | [.vslc 0 (.int .u8) a0_0, .int .i64 a0_1, .int .u64 a0_2], [] => some (.need (spec_l00Src_next_need a0_0 a0_1 a0_2) (.leaf (spec_l00Src_next_mk (spec_l00Src_next a0_0 a0_1 a0_2))))
  | _, _ => none
set_option maxRecDepth 100000 in
theorem spec_l00Src_next_ok : BoxOK Tryz.prog 49 spec_l00Src_next_M := by
  refine box_ok (Γ := gam []) (gam_nil) tab_ok (by kernel_rfl) Tryz.func49 (by kernel_rfl) (by kernel_rfl) Tryz.ntmps49 Tryz.results49 (loopsOK_none rfl _) 100000 fun cs ps t h => ?_
  unfold spec_l00Src_next_M at h
  split at h
  · rename_i a0_0 a0_1 a0_2
    cases h
    exact ⟨rfl, agreeB_need (mk := spec_l00Src_next_mk) (t := spec_l00Src_next_tree a0_0 a0_1 a0_2) (by unfold AgreeB; kernel_rfl)⟩
  · cases h

/-- (*loop.example/g01284/spec.l00Src).pick -/
def spec_l00Src_pick_tree (a0_0 : List Int) (a0_1 : Int) (a0_2 : Int) (a1 : Int) : DT (Int × Int × Int) :=
  let x0 := decide (a1 ≤ 1);
  .ask x0
  (
   .leaf (0, a0_1, a0_2))
  (
   .need ((spec_l00Src_next_need a0_0 a0_1 a0_2)) (
   let x1 := spec_l00Src_next a0_0 a0_1 a0_2;
   let x2 := decide (a1 > 200);
   .ask x2
   (
    let x3 := IntKind.wrap .i64 (x1.1 * 256);
    .need ((spec_l00Src_next_need a0_0 x1.2.1 x1.2.2)) (
    let x4 := spec_l00Src_next a0_0 x1.2.1 x1.2.2;
    let x5 := IntKind.wrap .i64 (x3 + x4.1);
    .need ((a1 != 0)) (
    let x6 := Int.tmod x5 a1;
    .leaf (x6, x4.2.1, x4.2.2))))
   (
    .need ((a1 != 0)) (
    let x3 := Int.tmod x1.1 a1;
    .leaf (x3, x1.2.1, x1.2.2)))))
def spec_l00Src_pick (a0_0 : List Int) (a0_1 : Int) (a0_2 : Int) (a1 : Int) : Int × Int × Int := (spec_l00Src_pick_tree a0_0 a0_1 a0_2 a1).val
def spec_l00Src_pick_need (a0_0 : List Int) (a0_1 : Int) (a0_2 : Int) (a1 : Int) : Bool := (spec_l00Src_pick_tree a0_0 a0_1 a0_2 a1).ok
def spec_l00Src_pick_mk (p : Int × Int × Int) : PV × List (Option PV) := (.int .i64 p.1, [none, some (.int .i64 p.2.1), some (.int .u64 p.2.2)])
def spec_l00Src_pick_M : BCon := fun cs ps => match cs, ps with
  | [.vslc 0 (.int .u8) a0_0, .int .i64 a0_1, .int .u64 a0_2], [.int .i64 a1] => some (.need (spec_l00Src_pick_need a0_0 a0_1 a0_2 a1) (.leaf (spec_l00Src_pick_mk (spec_l00Src_pick a0_0 a0_1 a0_2 a1))))
  | _, _ => none
set_option maxRecDepth 100000 in
theorem spec_l00Src_pick_ok : BoxOK Tryz.prog 24 spec_l00Src_pick_M := by
  refine box_ok (Γ := gam [] [] [(49, spec_l00Src_next_M)] []) (gam_box spec_l00Src_next_ok (gam_nil)) tab_ok (by kernel_rfl) Tryz.func24 (by kernel_rfl) (by kernel_rfl) Tryz.ntmps24 Tryz.results24 (loopsOK_none rfl _) 100000 fun cs ps t h => ?_
  unfold spec_l00Src_pick_M at h
  split at h
  · rename_i a0_0 a0_1 a0_2 a1
    cases h
    exact ⟨rfl, agreeB_need (mk := spec_l00Src_pick_mk) (t := spec_l00Src_pick_tree a0_0 a0_1 a0_2 a1) (by unfold AgreeB; kernel_rfl)⟩
  · cases h

/-- (*loop.example/g01284/spec.l00Src).one -/
def spec_l00Src_one_tree (a0_0 : List Int) (a0_1 : Int) (a0_2 : Int) (a1 : Int) : DT (Bool × Int × Int) :=
  .need ((spec_l00Src_pick_need a0_0 a0_1 a0_2 a1)) (
  let x0 := spec_l00Src_pick a0_0 a0_1 a0_2 a1;
  let x1 := (x0.1 == 0);
  .leaf (x1, x0.2.1, x0.2.2))
def spec_l00Src_one (a0_0 : List Int) (a0_1 : Int) (a0_2 : Int) (a1 : Int) : Bool × Int × Int := (spec_l00Src_one_tree a0_0 a0_1 a0_2 a1).val
def spec_l00Src_one_need (a0_0 : List Int) (a0_1 : Int) (a0_2 : Int) (a1 : Int) : Bool := (spec_l00Src_one_tree a0_0 a0_1 a0_2 a1).ok
def spec_l00Src_one_mk (p : Bool × Int × Int) : PV × List (Option PV) := (.bool p.1, [none, some (.int .i64 p.2.1), some (.int .u64 p.2.2)])
def spec_l00Src_one_M : BCon := fun cs ps => match cs, ps with
  | [.vslc 0 (.int .u8) a0_0, .int .i64 a0_1, .int .u64 a0_2], [.int .i64 a1] => some (.need (spec_l00Src_one_need a0_0 a0_1 a0_2 a1) (.leaf (spec_l00Src_one_mk (spec_l00Src_one a0_0 a0_1 a0_2 a1))))
  | _, _ => none
set_option maxRecDepth 100000 in
theorem spec_l00Src_one_ok : BoxOK Tryz.prog 48 spec_l00Src_one_M := by
  refine box_ok (Γ := gam [] [] [(24, spec_l00Src_pick_M)] []) (gam_box spec_l00Src_pick_ok (gam_nil)) tab_ok (by kernel_rfl) Tryz.func48 (by kernel_rfl) (by kernel_rfl) Tryz.ntmps48 Tryz.results48 (loopsOK_none rfl _) 100000 fun cs ps t h => ?_
  unfold spec_l00Src_one_M at h
  split at h
  · rename_i a0_0 a0_1 a0_2 a1
    cases h
    exact ⟨rfl, agreeB_need (mk := spec_l00Src_one_mk) (t := spec_l00Src_one_tree a0_0 a0_1 a0_2 a1) (by unfold AgreeB; kernel_rfl)⟩
  · cases h

/-- loop.example/g01284/spec.l03DrawOk -/
def spec_l03DrawOk_tree (a0_0 : List Int) (a0_1 : Int) (a0_2 : Int) : DT (Orbit × Int × Int) :=
  .need ((spec_l00Src_pick_need a0_0 a0_1 a0_2 16)) (
  let x0 := spec_l00Src_pick a0_0 a0_1 a0_2 16;
  let x1 := IntKind.wrap .i64 (1 + x0.1);
  let x2 := fofInt .f32 x1;
  let x3 := fdiv .f32 x2 1082130432;
  .need ((spec_l00Src_pick_need a0_0 x0.2.1 x0.2.2 8)) (
  let x4 := spec_l00Src_pick a0_0 x0.2.1 x0.2.2 8;
  let x5 := fofInt .f32 x4.1;
  let x6 := fdiv .f32 x5 1090519040;
  .need ((spec_l00Src_pick_need a0_0 x4.2.1 x4.2.2 17)) (
  let x7 := spec_l00Src_pick a0_0 x4.2.1 x4.2.2 17;
  let x8 := fofInt .f32 x7.1;
  let x9 := fdiv .f32 x8 1107296256;
  .need ((spec_l00Src_pick_need a0_0 x7.2.1 x7.2.2 32)) (
  let x10 := spec_l00Src_pick a0_0 x7.2.1 x7.2.2 32;
  let x11 := fofInt .f32 x10.1;
  let x12 := fdiv .f32 x11 1107296256;
  .need ((spec_l00Src_pick_need a0_0 x10.2.1 x10.2.2 32)) (
  let x13 := spec_l00Src_pick a0_0 x10.2.1 x10.2.2 32;
  let x14 := fofInt .f32 x13.1;
  let x15 := fdiv .f32 x14 1107296256;
  .need ((spec_l00Src_pick_need a0_0 x13.2.1 x13.2.2 64)) (
  let x16 := spec_l00Src_pick a0_0 x13.2.1 x13.2.2 64;
  let x17 := fofInt .f32 x16.1;
  let x18 := fdiv .f32 x17 1115684864;
  .need ((spec_l00Src_one_need a0_0 x16.2.1 x16.2.2 4)) (
  let x19 := spec_l00Src_one a0_0 x16.2.1 x16.2.2 4;
  .ask x19.1
  (
   let x20 := fneg .f32 x3;
   .need ((spec_l00Src_pick_need a0_0 x19.2.1 x19.2.2 8)) (
   let x21 := spec_l00Src_pick a0_0 x19.2.1 x19.2.2 8;
   let x22 := IntKind.wrap .i64 (1 + x21.1);
   let x23 := fofInt .f32 x22;
   let x24 := fdiv .f32 x23 1082130432;
   let x25 := fadd .f32 1065353216 x24;
   .need ((spec_l00Src_pick_need a0_0 x21.2.1 x21.2.2 33)) (
   let x26 := spec_l00Src_pick a0_0 x21.2.1 x21.2.2 33;
   let x27 := IntKind.wrap .i64 (x26.1 - 16);
   let x28 := fofInt .f32 x27;
   let x29 := fdiv .f32 x28 1090519040;
   .leaf ((⟨x20, x25, x9, x12, x15, x29⟩ : Orbit), x26.2.1, x26.2.2))))
  (
   .leaf ((⟨x3, x6, x9, x12, x15, x18⟩ : Orbit), x19.2.1, x19.2.2)))))))))
def spec_l03DrawOk (a0_0 : List Int) (a0_1 : Int) (a0_2 : Int) : Orbit × Int × Int := (spec_l03DrawOk_tree a0_0 a0_1 a0_2).val
def spec_l03DrawOk_need (a0_0 : List Int) (a0_1 : Int) (a0_2 : Int) : Bool := (spec_l03DrawOk_tree a0_0 a0_1 a0_2).ok
def spec_l03DrawOk_mk (p : Orbit × Int × Int) : PV × List (Option PV) := (.agg [.flt .f32 p.1.Long, .flt .f32 p.1.Round, .flt .f32 p.1.Tilt, .flt .f32 p.1.Node, .flt .f32 p.1.Peri, .flt .f32 p.1.Phase], [none, some (.int .i64 p.2.1), some (.int .u64 p.2.2)])
def spec_l03DrawOk_M : BCon := fun cs ps => match cs, ps with
  | [.vslc 0 (.int .u8) a0_0, .int .i64 a0_1, .int .u64 a0_2], [] => some (.need (spec_l03DrawOk_need a0_0 a0_1 a0_2) (.leaf (spec_l03DrawOk_mk (spec_l03DrawOk a0_0 a0_1 a0_2))))
  | _, _ => none
set_option maxRecDepth 100000 in
theorem spec_l03DrawOk_ok : BoxOK Tryz.prog 23 spec_l03DrawOk_M := by
  refine box_ok (Γ := gam [] [] [(24, spec_l00Src_pick_M), (48, spec_l00Src_one_M)] []) (gam_box spec_l00Src_pick_ok (gam_box spec_l00Src_one_ok (gam_nil))) tab_ok (by kernel_rfl) Tryz.func23 (by kernel_rfl) (by kernel_rfl) Tryz.ntmps23 Tryz.results23 (loopsOK_none rfl _) 100000 fun cs ps t h => ?_
  unfold spec_l03DrawOk_M at h
  split at h
  · rename_i a0_0 a0_1 a0_2
    cases h
    exact ⟨rfl, agreeB_need (mk := spec_l03DrawOk_mk) (t := spec_l03DrawOk_tree a0_0 a0_1 a0_2) (by unfold AgreeB; kernel_rfl)⟩
  · cases h

/-- loop.example/g01284/spec.B10Orbit -/
def spec_B10Orbit_tree (a0 : List Int) : DT (Orbit) :=
  .need ((spec_l03DrawOk_need a0 0 0)) (
  let x0 := spec_l03DrawOk a0 0 0;
  .leaf ((⟨x0.1.Long, x0.1.Round, x0.1.Tilt, x0.1.Node, x0.1.Peri, x0.1.Phase⟩ : Orbit)))
def spec_B10Orbit (a0 : List Int) : Orbit := (spec_B10Orbit_tree a0).val
def spec_B10Orbit_need (a0 : List Int) : Bool := (spec_B10Orbit_tree a0).ok
def spec_B10Orbit_mk (p : Orbit) : Ret := ⟨.agg [.flt .f32 p.Long, .flt .f32 p.Round, .flt .f32 p.Tilt, .flt .f32 p.Node, .flt .f32 p.Peri, .flt .f32 p.Phase], []⟩
def spec_B10Orbit_c0 : Con := fun args => match args with
  | [.vslc 1 (.int .u8) a0] => some (.need (spec_B10Orbit_need a0) (.leaf (spec_B10Orbit_mk (spec_B10Orbit a0))))
  | _ => none
set_option maxRecDepth 100000 in
theorem spec_B10Orbit_ok0 : FunOK Tryz.prog 5 spec_B10Orbit_c0.fn := by
  refine con_ok (Γ := gam [] [] [(23, spec_l03DrawOk_M)] [(22, spec_l00From_M)]) (gam_box spec_l03DrawOk_ok (gam_new spec_l00From_ok (gam_nil))) tab_ok (by kernel_rfl) Tryz.func5 (by kernel_rfl) (by kernel_rfl) Tryz.ntmps5 Tryz.results5 (loopsOK_none rfl _) 100000 fun args t h => ?_
  unfold spec_B10Orbit_c0 at h
  split at h
  · rename_i a0
    cases h
    exact ⟨rfl, agree_need (mk := spec_B10Orbit_mk) (t := spec_B10Orbit_tree a0) (by unfold Agree; kernel_rfl)⟩
  · cases h
def spec_B10Orbit_c : Con := fun args => spec_B10Orbit_c0 (norms 0 [.slc (.int .u8)] args)
set_option maxRecDepth 100000 in
theorem spec_B10Orbit_ok : FunOK Tryz.prog 5 spec_B10Orbit_c.fn := con_norm [.slc (.int .u8)] spec_B10Orbit_ok0

/-- loop.example/g01284/spec.B10Mass -/
def spec_B10Mass_tree (a0 : List Int) : DT (Nat) :=
  .need ((spec_l00Src_pick_need a0 0 0 8)) (
  let x0 := spec_l00Src_pick a0 0 0 8;
  let x1 := IntKind.wrap .i64 (1 + x0.1);
  let x2 := fofInt .f32 x1;
  let x3 := fdiv .f32 x2 1073741824;
  .leaf x3)
def spec_B10Mass (a0 : List Int) : Nat := (spec_B10Mass_tree a0).val
def spec_B10Mass_need (a0 : List Int) : Bool := (spec_B10Mass_tree a0).ok
def spec_B10Mass_mk (p : Nat) : Ret := ⟨.flt .f32 p, []⟩
def spec_B10Mass_c0 : Con := fun args => match args with
  | [.vslc 1 (.int .u8) a0] => some (.need (spec_B10Mass_need a0) (.leaf (spec_B10Mass_mk (spec_B10Mass a0))))
  | _ => none
set_option maxRecDepth 100000 in
theorem spec_B10Mass_ok0 : FunOK Tryz.prog 6 spec_B10Mass_c0.fn := by
  refine con_ok (Γ := gam [] [] [(24, spec_l00Src_pick_M)] [(22, spec_l00From_M)]) (gam_box spec_l00Src_pick_ok (gam_new spec_l00From_ok (gam_nil))) tab_ok (by kernel_rfl) Tryz.func6 (by kernel_rfl) (by kernel_rfl) Tryz.ntmps6 Tryz.results6 (loopsOK_none rfl _) 100000 fun args t h => ?_
  unfold spec_B10Mass_c0 at h
  split at h
  · rename_i a0
    cases h
    exact ⟨rfl, agree_need (mk := spec_B10Mass_mk) (t := spec_B10Mass_tree a0) (by unfold Agree; kernel_rfl)⟩
  · cases h
def spec_B10Mass_c : Con := fun args => spec_B10Mass_c0 (norms 0 [.slc (.int .u8)] args)
set_option maxRecDepth 100000 in
theorem spec_B10Mass_ok : FunOK Tryz.prog 6 spec_B10Mass_c.fn := con_norm [.slc (.int .u8)] spec_B10Mass_ok0

/-- loop.example/g01284/laws.b10At -/
def laws_b10At_tree (a0 : List Int) (a1 : Int) (a2 : Int) : DT (Int) :=
  let x0 := decide (a2 ≤ 1);
  .ask x0
  (
   .leaf 0)
  (
   let x1 := ((List.length a0 : Nat) : Int);
   let x2 := decide (a1 < x1);
   .ask x2
   (
    .need ((decide (0 ≤ a1) && decide (a1 < ((List.length a0 : Nat) : Int)))) (
    let x3 := List.getD a0 (Int.toNat a1) default;
    let x4 := IntKind.wrap .i64 x3;
    .need ((a2 != 0)) (
    let x5 := Int.tmod x4 a2;
    .leaf x5)))
   (
    let x3 := IntKind.wrap .i64 (a1 * 37);
    let x4 := IntKind.wrap .i64 (x3 + 11);
    .need ((a2 != 0)) (
    let x5 := Int.tmod x4 a2;
    .leaf x5)))
def laws_b10At (a0 : List Int) (a1 : Int) (a2 : Int) : Int := (laws_b10At_tree a0 a1 a2).val
def laws_b10At_need (a0 : List Int) (a1 : Int) (a2 : Int) : Bool := (laws_b10At_tree a0 a1 a2).ok
def laws_b10At_mk (p : Int) : Ret := ⟨.int .i64 p, []⟩
def laws_b10At_c0 : Con := fun args => match args with
  | [.vslc 1 (.int .u8) a0, .int .i64 a1, .int .i64 a2] => some (.need (laws_b10At_need a0 a1 a2) (.leaf (laws_b10At_mk (laws_b10At a0 a1 a2))))
  | _ => none
set_option maxRecDepth 100000 in
theorem laws_b10At_ok0 : FunOK Tryz.prog 7 laws_b10At_c0.fn := by
  refine con_ok (Γ := gam []) (gam_nil) tab_ok (by kernel_rfl) Tryz.func7 (by kernel_rfl) (by kernel_rfl) Tryz.ntmps7 Tryz.results7 (loopsOK_none rfl _) 100000 fun args t h => ?_
  unfold laws_b10At_c0 at h
  split at h
  · rename_i a0 a1 a2
    cases h
    exact ⟨rfl, agree_need (mk := laws_b10At_mk) (t := laws_b10At_tree a0 a1 a2) (by unfold Agree; kernel_rfl)⟩
  · cases h
def laws_b10At_c : Con := fun args => laws_b10At_c0 (norms 0 [.slc (.int .u8), .none, .none] args)
set_option maxRecDepth 100000 in
theorem laws_b10At_ok : FunOK Tryz.prog 7 laws_b10At_c.fn := con_norm [.slc (.int .u8), .none, .none] laws_b10At_ok0

/-- loop.example/g01284/spec.l01Finite -/
def spec_l01Finite_tree (a0 : Nat) : DT (Bool) :=
  let x0 := fsub .f32 a0 a0;
  let x1 := feq .f32 x0 0;
  .leaf x1
def spec_l01Finite (a0 : Nat) : Bool := (spec_l01Finite_tree a0).val
def spec_l01Finite_mk (p : Bool) : Ret := ⟨.bool p, []⟩
def spec_l01Finite_c : Con := fun args => match args with
  | [.flt .f32 a0] => some (.leaf (spec_l01Finite_mk (spec_l01Finite a0)))
  | _ => none
set_option maxRecDepth 100000 in
theorem spec_l01Finite_ok : FunOK Tryz.prog 26 spec_l01Finite_c.fn := by
  refine con_ok (Γ := gam []) (gam_nil) tab_ok (by kernel_rfl) Tryz.func26 (by kernel_rfl) (by kernel_rfl) Tryz.ntmps26 Tryz.results26 (loopsOK_none rfl _) 100000 fun args t h => ?_
  unfold spec_l01Finite_c at h
  split at h
  · rename_i a0
    cases h
    exact ⟨rfl, agree_tot (mk := spec_l01Finite_mk) (t := spec_l01Finite_tree a0) (by unfold Agree; kernel_rfl) (by kernel_rfl)⟩
  · cases h

/-- loop.example/g01284/spec.l03Turn -/
def spec_l03Turn_tree (a0 : Nat) : DT (Bool) :=
  let x0 := fge .f32 a0 0;
  .ask x0
  (
   let x1 := flt .f32 a0 1065353216;
   .leaf x1)
  (
   .leaf false)
def spec_l03Turn (a0 : Nat) : Bool := (spec_l03Turn_tree a0).val
def spec_l03Turn_mk (p : Bool) : Ret := ⟨.bool p, []⟩
def spec_l03Turn_c : Con := fun args => match args with
  | [.flt .f32 a0] => some (.leaf (spec_l03Turn_mk (spec_l03Turn a0)))
  | _ => none
set_option maxRecDepth 100000 in
theorem spec_l03Turn_ok : FunOK Tryz.prog 90 spec_l03Turn_c.fn := by
  refine con_ok (Γ := gam []) (gam_nil) tab_ok (by kernel_rfl) Tryz.func90 (by kernel_rfl) (by kernel_rfl) Tryz.ntmps90 Tryz.results90 (loopsOK_none rfl _) 100000 fun args t h => ?_
  unfold spec_l03Turn_c at h
  split at h
  · rename_i a0
    cases h
    exact ⟨rfl, agree_tot (mk := spec_l03Turn_mk) (t := spec_l03Turn_tree a0) (by unfold Agree; kernel_rfl) (by kernel_rfl)⟩
  · cases h

/-- loop.example/g01284/spec.l03Is -/
def spec_l03Is_tree (a0 : Orbit) : DT (Bool) :=
  let x0 := spec_l01Finite a0.Long;
  .ask (!x0)
  (
   .leaf false)
  (
   let x1 := spec_l01Finite a0.Round;
   .ask (!x1)
   (
    .leaf false)
   (
    let x2 := fge .f32 a0.Tilt 0;
    .ask x2
    (
     let x3 := fle .f32 a0.Tilt 1056964608;
     .ask (!x3)
     (
      .leaf false)
     (
      let x4 := spec_l03Turn a0.Node;
      .ask (!x4)
      (
       .leaf false)
      (
       let x5 := spec_l03Turn a0.Peri;
       .ask (!x5)
       (
        .leaf false)
       (
        let x6 := fgt .f32 a0.Long 0;
        .ask x6
        (
         let x7 := fge .f32 a0.Round 0;
         .ask x7
         (
          let x8 := flt .f32 a0.Round 1065353216;
          .ask x8
          (
           let x9 := spec_l03Turn a0.Phase;
           .leaf x9)
          (
           .leaf false))
         (
          .leaf false))
        (
         let x7 := flt .f32 a0.Long 0;
         .ask x7
         (
          let x8 := fgt .f32 a0.Round 1065353216;
          .ask x8
          (
           let x9 := fge .f32 a0.Phase 3246391296;
           .ask x9
           (
            let x10 := fle .f32 a0.Phase 1098907648;
            .leaf x10)
           (
            .leaf false))
          (
           .leaf false))
         (
          .leaf false))))))
    (
     .leaf false)))
def spec_l03Is (a0 : Orbit) : Bool := (spec_l03Is_tree a0).val
def spec_l03Is_mk (p : Bool) : Ret := ⟨.bool p, []⟩
def spec_l03Is_c0 : Con := fun args => match args with
  | [.vcell [.flt .f32 a0_0, .flt .f32 a0_1, .flt .f32 a0_2, .flt .f32 a0_3, .flt .f32 a0_4, .flt .f32 a0_5] 0] => some (.leaf (spec_l03Is_mk (spec_l03Is (⟨a0_0, a0_1, a0_2, a0_3, a0_4, a0_5⟩ : Orbit))))
  | _ => none
set_option maxRecDepth 100000 in
theorem spec_l03Is_ok0 : FunOK Tryz.prog 50 spec_l03Is_c0.fn := by
  refine con_ok (Γ := gam [(26, spec_l01Finite_c), (90, spec_l03Turn_c)]) (gam_cons spec_l01Finite_ok (gam_cons spec_l03Turn_ok (gam_nil))) tab_ok (by kernel_rfl) Tryz.func50 (by kernel_rfl) (by kernel_rfl) Tryz.ntmps50 Tryz.results50 (loopsOK_none rfl _) 100000 fun args t h => ?_
  unfold spec_l03Is_c0 at h
  split at h
  · rename_i a0_0 a0_1 a0_2 a0_3 a0_4 a0_5
    cases h
    exact ⟨rfl, agree_tot (mk := spec_l03Is_mk) (t := spec_l03Is_tree (⟨a0_0, a0_1, a0_2, a0_3, a0_4, a0_5⟩ : Orbit)) (by unfold Agree; kernel_rfl) (by kernel_rfl)⟩
  · cases h
def spec_l03Is_c : Con := fun args => spec_l03Is_c0 (norms 0 [.ptr 6] args)
set_option maxRecDepth 100000 in
theorem spec_l03Is_ok : FunOK Tryz.prog 50 spec_l03Is_c.fn := con_norm [.ptr 6] spec_l03Is_ok0

/-- loop.example/g01284/spec.l02Above -/
def spec_l02Above_tree (a0 : Nat) : DT (Bool) :=
  let x0 := spec_l01Finite a0;
  .ask x0
  (
   let x1 := fgt .f32 a0 0;
   .leaf x1)
  (
   .leaf false)
def spec_l02Above (a0 : Nat) : Bool := (spec_l02Above_tree a0).val
def spec_l02Above_mk (p : Bool) : Ret := ⟨.bool p, []⟩
def spec_l02Above_c : Con := fun args => match args with
  | [.flt .f32 a0] => some (.leaf (spec_l02Above_mk (spec_l02Above a0)))
  | _ => none
set_option maxRecDepth 100000 in
theorem spec_l02Above_ok : FunOK Tryz.prog 51 spec_l02Above_c.fn := by
  refine con_ok (Γ := gam [(26, spec_l01Finite_c)]) (gam_cons spec_l01Finite_ok (gam_nil)) tab_ok (by kernel_rfl) Tryz.func51 (by kernel_rfl) (by kernel_rfl) Tryz.ntmps51 Tryz.results51 (loopsOK_none rfl _) 100000 fun args t h => ?_
  unfold spec_l02Above_c at h
  split at h
  · rename_i a0
    cases h
    exact ⟨rfl, agree_tot (mk := spec_l02Above_mk) (t := spec_l02Above_tree a0) (by unfold Agree; kernel_rfl) (by kernel_rfl)⟩
  · cases h

/-- loop.example/g01284/spec.l03Can -/
def spec_l03Can_tree (a0 : Orbit) (a1 : Nat) : DT (Bool) :=
  let x0 := spec_l03Is (⟨a0.Long, a0.Round, a0.Tilt, a0.Node, a0.Peri, a0.Phase⟩ : Orbit);
  .ask x0
  (
   let x1 := spec_l02Above a1;
   .leaf x1)
  (
   .leaf false)
def spec_l03Can (a0 : Orbit) (a1 : Nat) : Bool := (spec_l03Can_tree a0 a1).val
def spec_l03Can_mk (p : Bool) : Ret := ⟨.bool p, []⟩
def spec_l03Can_c0 : Con := fun args => match args with
  | [.vcell [.flt .f32 a0_0, .flt .f32 a0_1, .flt .f32 a0_2, .flt .f32 a0_3, .flt .f32 a0_4, .flt .f32 a0_5] 0, .flt .f32 a1] => some (.leaf (spec_l03Can_mk (spec_l03Can (⟨a0_0, a0_1, a0_2, a0_3, a0_4, a0_5⟩ : Orbit) a1)))
  | _ => none
set_option maxRecDepth 100000 in
theorem spec_l03Can_ok0 : FunOK Tryz.prog 25 spec_l03Can_c0.fn := by
  refine con_ok (Γ := gam [(50, spec_l03Is_c), (51, spec_l02Above_c)]) (gam_cons spec_l03Is_ok (gam_cons spec_l02Above_ok (gam_nil))) tab_ok (by kernel_rfl) Tryz.func25 (by kernel_rfl) (by kernel_rfl) Tryz.ntmps25 Tryz.results25 (loopsOK_none rfl _) 100000 fun args t h => ?_
  unfold spec_l03Can_c0 at h
  split at h
  · rename_i a0_0 a0_1 a0_2 a0_3 a0_4 a0_5 a1
    cases h
    exact ⟨rfl, agree_tot (mk := spec_l03Can_mk) (t := spec_l03Can_tree (⟨a0_0, a0_1, a0_2, a0_3, a0_4, a0_5⟩ : Orbit) a1) (by unfold Agree; kernel_rfl) (by kernel_rfl)⟩
  · cases h
def spec_l03Can_c : Con := fun args => spec_l03Can_c0 (norms 0 [.ptr 6, .none] args)
set_option maxRecDepth 100000 in
theorem spec_l03Can_ok : FunOK Tryz.prog 25 spec_l03Can_c.fn := con_norm [.ptr 6, .none] spec_l03Can_ok0

/-- math.Abs -/
def math_Abs_tree (a0 : Nat) : DT (Nat) :=
  .ask ((isNaN .f64 a0))
  (
   .leaf 9221120237041090560)
  (
   let x0 := IntKind.wrap .u64 (BitVec.ofInt (IntKind.bits .u64) ((a0 : Nat) : Int) &&& ~~~ BitVec.ofInt (IntKind.bits .u64) 9223372036854775808).toNat;
   let x1 := canon .f64 (Int.toNat x0);
   .leaf x1)
def math_Abs (a0 : Nat) : Nat := (math_Abs_tree a0).val
def math_Abs_mk (p : Nat) : Ret := ⟨.flt .f64 p, []⟩
def math_Abs_c : Con := fun args => match args with
  | [.flt .f64 a0] => some (.leaf (math_Abs_mk (math_Abs a0)))
  | _ => none
set_option maxRecDepth 100000 in
theorem math_Abs_ok : FunOK Tryz.prog 91 math_Abs_c.fn := by
  refine con_ok (Γ := gam [(115, math_Float64bits_c), (97, math_Float64frombits_c)]) (gam_cons math_Float64bits_ok (gam_cons math_Float64frombits_ok (gam_nil))) tab_ok (by kernel_rfl) Tryz.func91 (by kernel_rfl) (by kernel_rfl) Tryz.ntmps91 Tryz.results91 (loopsOK_none rfl _) 100000 fun args t h => ?_
  unfold math_Abs_c at h
  split at h
  · rename_i a0
    cases h
    exact ⟨rfl, agree_tot (mk := math_Abs_mk) (t := math_Abs_tree a0) (by unfold Agree; kernel_rfl) (by kernel_rfl)⟩
  · cases h

/-- math.Sqrt -/
def math_Sqrt_tree (a0 : Nat) : DT (Nat) :=
  let x0 := fsqrt a0;
  .leaf x0
def math_Sqrt (a0 : Nat) : Nat := (math_Sqrt_tree a0).val
def math_Sqrt_mk (p : Nat) : Ret := ⟨.flt .f64 p, []⟩
def math_Sqrt_c : Con := fun args => match args with
  | [.flt .f64 a0] => some (.leaf (math_Sqrt_mk (math_Sqrt a0)))
  | _ => none
set_option maxRecDepth 100000 in
theorem math_Sqrt_ok : FunOK Tryz.prog 66 math_Sqrt_c.fn := by
  refine con_ok (Γ := gam [(98, math_sqrt_c)]) (gam_cons math_sqrt_ok (gam_nil)) tab_ok (by kernel_rfl) Tryz.func66 (by kernel_rfl) (by kernel_rfl) Tryz.ntmps66 Tryz.results66 (loopsOK_none rfl _) 100000 fun args t h => ?_
  unfold math_Sqrt_c at h
  split at h
  · rename_i a0
    cases h
    exact ⟨rfl, agree_tot (mk := math_Sqrt_mk) (t := math_Sqrt_tree a0) (by unfold Agree; kernel_rfl) (by kernel_rfl)⟩
  · cases h

/-- loop.example/g01284/spec.l03Rate -/
def spec_l03Rate_tree (a0 : Orbit) (a1 : Nat) : DT (Nat) :=
  .need ((fconvOk .f32 a0.Long .f64)) (
  let x0 := fconv .f32 a0.Long .f64;
  let x1 := math_Abs x0;
  .need ((fconvOk .f32 a1 .f64)) (
  let x2 := fconv .f32 a1 .f64;
  let x3 := fmul .f64 x1 x1;
  let x4 := fmul .f64 x3 x1;
  let x5 := fdiv .f64 x2 x4;
  let x6 := math_Sqrt x5;
  .leaf x6))
def spec_l03Rate (a0 : Orbit) (a1 : Nat) : Nat := (spec_l03Rate_tree a0 a1).val
def spec_l03Rate_need (a0 : Orbit) (a1 : Nat) : Bool := (spec_l03Rate_tree a0 a1).ok
def spec_l03Rate_mk (p : Nat) : Ret := ⟨.flt .f64 p, []⟩
def spec_l03Rate_c0 : Con := fun args => match args with
  | [.vcell [.flt .f32 a0_0, .flt .f32 a0_1, .flt .f32 a0_2, .flt .f32 a0_3, .flt .f32 a0_4, .flt .f32 a0_5] 0, .flt .f32 a1] => some (.need (spec_l03Rate_need (⟨a0_0, a0_1, a0_2, a0_3, a0_4, a0_5⟩ : Orbit) a1) (.leaf (spec_l03Rate_mk (spec_l03Rate (⟨a0_0, a0_1, a0_2, a0_3, a0_4, a0_5⟩ : Orbit) a1))))
  | _ => none
set_option maxRecDepth 100000 in
theorem spec_l03Rate_ok0 : FunOK Tryz.prog 52 spec_l03Rate_c0.fn := by
  refine con_ok (Γ := gam [(91, math_Abs_c), (66, math_Sqrt_c)]) (gam_cons math_Abs_ok (gam_cons math_Sqrt_ok (gam_nil))) tab_ok (by kernel_rfl) Tryz.func52 (by kernel_rfl) (by kernel_rfl) Tryz.ntmps52 Tryz.results52 (loopsOK_none rfl _) 100000 fun args t h => ?_
  unfold spec_l03Rate_c0 at h
  split at h
  · rename_i a0_0 a0_1 a0_2 a0_3 a0_4 a0_5 a1
    cases h
    exact ⟨rfl, agree_need (mk := spec_l03Rate_mk) (t := spec_l03Rate_tree (⟨a0_0, a0_1, a0_2, a0_3, a0_4, a0_5⟩ : Orbit) a1) (by unfold Agree; kernel_rfl)⟩
  · cases h
def spec_l03Rate_c : Con := fun args => spec_l03Rate_c0 (norms 0 [.ptr 6, .none] args)
set_option maxRecDepth 100000 in
theorem spec_l03Rate_ok : FunOK Tryz.prog 52 spec_l03Rate_c.fn := con_norm [.ptr 6, .none] spec_l03Rate_ok0

/-- loop.example/g01284/spec.l03Ellipse -/
def spec_l03Ellipse_tree (a0 : Orbit) : DT (Bool) :=
  let x0 := fgt .f32 a0.Long 0;
  .leaf x0
def spec_l03Ellipse (a0 : Orbit) : Bool := (spec_l03Ellipse_tree a0).val
def spec_l03Ellipse_mk (p : Bool) : Ret := ⟨.bool p, []⟩
def spec_l03Ellipse_c0 : Con := fun args => match args with
  | [.vcell [.flt .f32 a0_0, .flt .f32 a0_1, .flt .f32 a0_2, .flt .f32 a0_3, .flt .f32 a0_4, .flt .f32 a0_5] 0] => some (.leaf (spec_l03Ellipse_mk (spec_l03Ellipse (⟨a0_0, a0_1, a0_2, a0_3, a0_4, a0_5⟩ : Orbit))))
  | _ => none
set_option maxRecDepth 100000 in
theorem spec_l03Ellipse_ok0 : FunOK Tryz.prog 53 spec_l03Ellipse_c0.fn := by
  refine con_ok (Γ := gam []) (gam_nil) tab_ok (by kernel_rfl) Tryz.func53 (by kernel_rfl) (by kernel_rfl) Tryz.ntmps53 Tryz.results53 (loopsOK_none rfl _) 100000 fun args t h => ?_
  unfold spec_l03Ellipse_c0 at h
  split at h
  · rename_i a0_0 a0_1 a0_2 a0_3 a0_4 a0_5
    cases h
    exact ⟨rfl, agree_tot (mk := spec_l03Ellipse_mk) (t := spec_l03Ellipse_tree (⟨a0_0, a0_1, a0_2, a0_3, a0_4, a0_5⟩ : Orbit)) (by unfold Agree; kernel_rfl) (by kernel_rfl)⟩
  · cases h
def spec_l03Ellipse_c : Con := fun args => spec_l03Ellipse_c0 (norms 0 [.ptr 6] args)
set_option maxRecDepth 100000 in
theorem spec_l03Ellipse_ok : FunOK Tryz.prog 53 spec_l03Ellipse_c.fn := con_norm [.ptr 6] spec_l03Ellipse_ok0

/-- math.IsNaN -/
def math_IsNaN_tree (a0 : Nat) : DT (Bool) :=
  let x0 := fne .f64 a0 a0;
  .leaf x0
def math_IsNaN (a0 : Nat) : Bool := (math_IsNaN_tree a0).val
def math_IsNaN_mk (p : Bool) : Ret := ⟨.bool p, []⟩
def math_IsNaN_c : Con := fun args => match args with
  | [.flt .f64 a0] => some (.leaf (math_IsNaN_mk (math_IsNaN a0)))
  | _ => none
set_option maxRecDepth 100000 in
theorem math_IsNaN_ok : FunOK Tryz.prog 111 math_IsNaN_c.fn := by
  refine con_ok (Γ := gam []) (gam_nil) tab_ok (by kernel_rfl) Tryz.func111 (by kernel_rfl) (by kernel_rfl) Tryz.ntmps111 Tryz.results111 (loopsOK_none rfl _) 100000 fun args t h => ?_
  unfold math_IsNaN_c at h
  split at h
  · rename_i a0
    cases h
    exact ⟨rfl, agree_tot (mk := math_IsNaN_mk) (t := math_IsNaN_tree a0) (by unfold Agree; kernel_rfl) (by kernel_rfl)⟩
  · cases h

/-- math.IsInf -/
def math_IsInf_tree (a0 : Nat) (a1 : Int) : DT (Bool) :=
  let x0 := (a1 == 0);
  .ask x0
  (
   let x1 := math_Abs a0;
   let x2 := fgt .f64 x1 9218868437227405311;
   .leaf x2)
  (
   let x1 := decide (a1 < 0);
   .ask x1
   (
    let x2 := fneg .f64 a0;
    let x3 := fgt .f64 x2 9218868437227405311;
    .leaf x3)
   (
    let x2 := fgt .f64 a0 9218868437227405311;
    .leaf x2))
def math_IsInf (a0 : Nat) (a1 : Int) : Bool := (math_IsInf_tree a0 a1).val
def math_IsInf_mk (p : Bool) : Ret := ⟨.bool p, []⟩
def math_IsInf_c : Con := fun args => match args with
  | [.flt .f64 a0, .int .i64 a1] => some (.leaf (math_IsInf_mk (math_IsInf a0 a1)))
  | _ => none
set_option maxRecDepth 100000 in
theorem math_IsInf_ok : FunOK Tryz.prog 112 math_IsInf_c.fn := by
  refine con_ok (Γ := gam [(91, math_Abs_c)]) (gam_cons math_Abs_ok (gam_nil)) tab_ok (by kernel_rfl) Tryz.func112 (by kernel_rfl) (by kernel_rfl) Tryz.ntmps112 Tryz.results112 (loopsOK_none rfl _) 100000 fun args t h => ?_
  unfold math_IsInf_c at h
  split at h
  · rename_i a0 a1
    cases h
    exact ⟨rfl, agree_tot (mk := math_IsInf_mk) (t := math_IsInf_tree a0 a1) (by unfold Agree; kernel_rfl) (by kernel_rfl)⟩
  · cases h

-- FAILED 134 math.Copysign: nanb

-- FAILED 136 math.trunc: no contract: math.Copysign 

/-- math.Trunc -/
def math_Trunc_tree (a0 : Nat) : DT (Nat) :=
  let x0 := ftrunc a0;
  .leaf x0
def math_Trunc (a0 : Nat) : Nat := (math_Trunc_tree a0).val
def math_Trunc_mk (p : Nat) : Ret := ⟨.flt .f64 p, []⟩
def math_Trunc_c : Con := fun args => match args with
  | [.flt .f64 a0] => some (.leaf (math_Trunc_mk (math_Trunc a0)))
  | _ => none
set_option maxRecDepth 100000 in
theorem math_Trunc_ok : FunOK Tryz.prog 133 math_Trunc_c.fn := by
  refine con_ok (Γ := gam [(135, math_archTrunc_c)]) (gam_cons math_archTrunc_ok (gam_nil)) tab_ok (by kernel_rfl) Tryz.func133 (by kernel_rfl) (by kernel_rfl) Tryz.ntmps133 Tryz.results133 (loopsOK_none rfl _) 100000 fun args t h => ?_
  unfold math_Trunc_c at h
  split at h
  · rename_i a0
    cases h
    exact ⟨rfl, agree_tot (mk := math_Trunc_mk) (t := math_Trunc_tree a0) (by unfold Agree; kernel_rfl) (by kernel_rfl)⟩
  · cases h

-- FAILED 128 math.Modf: no contract: math.Copysign 

-- FAILED 117 math.floor: no contract: math.Modf 

/-- math.Floor -/
def math_Floor_tree (a0 : Nat) : DT (Nat) :=
  let x0 := ffloor a0;
  .leaf x0
def math_Floor (a0 : Nat) : Nat := (math_Floor_tree a0).val
def math_Floor_mk (p : Nat) : Ret := ⟨.flt .f64 p, []⟩
def math_Floor_c : Con := fun args => match args with
  | [.flt .f64 a0] => some (.leaf (math_Floor_mk (math_Floor a0)))
  | _ => none
set_option maxRecDepth 100000 in
theorem math_Floor_ok : FunOK Tryz.prog 93 math_Floor_c.fn := by
  refine con_ok (Γ := gam [(116, math_archFloor_c)]) (gam_cons math_archFloor_ok (gam_nil)) tab_ok (by kernel_rfl) Tryz.func93 (by kernel_rfl) (by kernel_rfl) Tryz.ntmps93 Tryz.results93 (loopsOK_none rfl _) 100000 fun args t h => ?_
  unfold math_Floor_c at h
  split at h
  · rename_i a0
    cases h
    exact ⟨rfl, agree_tot (mk := math_Floor_mk) (t := math_Floor_tree a0) (by unfold Agree; kernel_rfl) (by kernel_rfl)⟩
  · cases h

/-- loop.example/g01284/spec.l03Wrap -/
def spec_l03Wrap_tree (a0 : Nat) : DT (Nat) :=
  let x0 := math_Floor a0;
  let x1 := fsub .f64 a0 x0;
  .leaf x1
def spec_l03Wrap (a0 : Nat) : Nat := (spec_l03Wrap_tree a0).val
def spec_l03Wrap_mk (p : Nat) : Ret := ⟨.flt .f64 p, []⟩
def spec_l03Wrap_c : Con := fun args => match args with
  | [.flt .f64 a0] => some (.leaf (spec_l03Wrap_mk (spec_l03Wrap a0)))
  | _ => none
set_option maxRecDepth 100000 in
theorem spec_l03Wrap_ok : FunOK Tryz.prog 92 spec_l03Wrap_c.fn := by
  refine con_ok (Γ := gam [(93, math_Floor_c)]) (gam_cons math_Floor_ok (gam_nil)) tab_ok (by kernel_rfl) Tryz.func92 (by kernel_rfl) (by kernel_rfl) Tryz.ntmps92 Tryz.results92 (loopsOK_none rfl _) 100000 fun args t h => ?_
  unfold spec_l03Wrap_c at h
  split at h
  · rename_i a0
    cases h
    exact ⟨rfl, agree_tot (mk := spec_l03Wrap_mk) (t := spec_l03Wrap_tree a0) (by unfold Agree; kernel_rfl) (by kernel_rfl)⟩
  · cases h

/-- loop.example/g01284/spec.l01Narrow -/
def spec_l01Narrow_tree (a0 : Nat) : DT (Nat) :=
  .need ((fconvOk .f64 a0 .f32)) (
  let x0 := fconv .f64 a0 .f32;
  .leaf x0)
def spec_l01Narrow (a0 : Nat) : Nat := (spec_l01Narrow_tree a0).val
def spec_l01Narrow_need (a0 : Nat) : Bool := (spec_l01Narrow_tree a0).ok
def spec_l01Narrow_mk (p : Nat) : Ret := ⟨.flt .f32 p, []⟩
def spec_l01Narrow_c : Con := fun args => match args with
  | [.flt .f64 a0] => some (.need (spec_l01Narrow_need a0) (.leaf (spec_l01Narrow_mk (spec_l01Narrow a0))))
  | _ => none
set_option maxRecDepth 100000 in
theorem spec_l01Narrow_ok : FunOK Tryz.prog 55 spec_l01Narrow_c.fn := by
  refine con_ok (Γ := gam []) (gam_nil) tab_ok (by kernel_rfl) Tryz.func55 (by kernel_rfl) (by kernel_rfl) Tryz.ntmps55 Tryz.results55 (loopsOK_none rfl _) 100000 fun args t h => ?_
  unfold spec_l01Narrow_c at h
  split at h
  · rename_i a0
    cases h
    exact ⟨rfl, agree_need (mk := spec_l01Narrow_mk) (t := spec_l01Narrow_tree a0) (by unfold Agree; kernel_rfl)⟩
  · cases h

/-- loop.example/g01284/spec.l03Wrapped -/
def spec_l03Wrapped_tree (a0 : Nat) : DT (Nat) :=
  let x0 := spec_l03Wrap a0;
  .need ((spec_l01Narrow_need x0)) (
  let x1 := spec_l01Narrow x0;
  let x2 := flt .f32 x1 1065353216;
  .ask (!x2)
  (
   .leaf 0)
  (
   .leaf x1))
def spec_l03Wrapped (a0 : Nat) : Nat := (spec_l03Wrapped_tree a0).val
def spec_l03Wrapped_need (a0 : Nat) : Bool := (spec_l03Wrapped_tree a0).ok
def spec_l03Wrapped_mk (p : Nat) : Ret := ⟨.flt .f32 p, []⟩
def spec_l03Wrapped_c : Con := fun args => match args with
  | [.flt .f64 a0] => some (.need (spec_l03Wrapped_need a0) (.leaf (spec_l03Wrapped_mk (spec_l03Wrapped a0))))
  | _ => none
set_option maxRecDepth 100000 in
theorem spec_l03Wrapped_ok : FunOK Tryz.prog 54 spec_l03Wrapped_c.fn := by
  refine con_ok (Γ := gam [(92, spec_l03Wrap_c), (55, spec_l01Narrow_c)]) (gam_cons spec_l03Wrap_ok (gam_cons spec_l01Narrow_ok (gam_nil))) tab_ok (by kernel_rfl) Tryz.func54 (by kernel_rfl) (by kernel_rfl) Tryz.ntmps54 Tryz.results54 (loopsOK_none rfl _) 100000 fun args t h => ?_
  unfold spec_l03Wrapped_c at h
  split at h
  · rename_i a0
    cases h
    exact ⟨rfl, agree_need (mk := spec_l03Wrapped_mk) (t := spec_l03Wrapped_tree a0) (by unfold Agree; kernel_rfl)⟩
  · cases h

/-- loop.example/g01284/spec.l03Give -/
def spec_l03Give_tree (a0 : Orbit) : DT (Orbit × Bool) :=
  let x0 := spec_l03Is (⟨a0.Long, a0.Round, a0.Tilt, a0.Node, a0.Peri, a0.Phase⟩ : Orbit);
  .ask (!x0)
  (
   .leaf ((⟨0, 0, 0, 0, 0, 0⟩ : Orbit), false))
  (
   .leaf ((⟨a0.Long, a0.Round, a0.Tilt, a0.Node, a0.Peri, a0.Phase⟩ : Orbit), true))
def spec_l03Give (a0 : Orbit) : Orbit × Bool := (spec_l03Give_tree a0).val
def spec_l03Give_mk (p : Orbit × Bool) : Ret := ⟨.tup [.agg [.flt .f32 p.1.Long, .flt .f32 p.1.Round, .flt .f32 p.1.Tilt, .flt .f32 p.1.Node, .flt .f32 p.1.Peri, .flt .f32 p.1.Phase], .bool p.2], []⟩
def spec_l03Give_c : Con := fun args => match args with
  | [.agg [.flt .f32 a0_0, .flt .f32 a0_1, .flt .f32 a0_2, .flt .f32 a0_3, .flt .f32 a0_4, .flt .f32 a0_5]] => some (.leaf (spec_l03Give_mk (spec_l03Give (⟨a0_0, a0_1, a0_2, a0_3, a0_4, a0_5⟩ : Orbit))))
  | _ => none
set_option maxRecDepth 100000 in
theorem spec_l03Give_ok : FunOK Tryz.prog 56 spec_l03Give_c.fn := by
  refine con_ok (Γ := gam [(50, spec_l03Is_c)]) (gam_cons spec_l03Is_ok (gam_nil)) tab_ok (by kernel_rfl) Tryz.func56 (by kernel_rfl) (by kernel_rfl) Tryz.ntmps56 Tryz.results56 (loopsOK_none rfl _) 100000 fun args t h => ?_
  unfold spec_l03Give_c at h
  split at h
  · rename_i a0_0 a0_1 a0_2 a0_3 a0_4 a0_5
    cases h
    exact ⟨rfl, agree_tot (mk := spec_l03Give_mk) (t := spec_l03Give_tree (⟨a0_0, a0_1, a0_2, a0_3, a0_4, a0_5⟩ : Orbit)) (by unfold Agree; kernel_rfl) (by kernel_rfl)⟩
  · cases h

/-- loop.example/g01284/spec.l03Later -/
def spec_l03Later_tree (a0 : Orbit) (a1 : Nat) (a2 : Nat) : DT (Orbit × Bool) :=
  .need ((fconvOk .f32 a0.Phase .f64)) (
  let x0 := fconv .f32 a0.Phase .f64;
  .need ((spec_l03Rate_need (⟨a0.Long, a0.Round, a0.Tilt, a0.Node, a0.Peri, a0.Phase⟩ : Orbit) a1)) (
  let x1 := spec_l03Rate (⟨a0.Long, a0.Round, a0.Tilt, a0.Node, a0.Peri, a0.Phase⟩ : Orbit) a1;
  .need ((fconvOk .f32 a2 .f64)) (
  let x2 := fconv .f32 a2 .f64;
  let x3 := fmul .f64 x1 x2;
  let x4 := fdiv .f64 x3 4618760256179416344;
  let x5 := fadd .f64 x0 x4;
  let x6 := spec_l03Ellipse (⟨a0.Long, a0.Round, a0.Tilt, a0.Node, a0.Peri, a0.Phase⟩ : Orbit);
  .ask x6
  (
   .need ((spec_l03Wrapped_need x5)) (
   let x7 := spec_l03Wrapped x5;
   let x8 := spec_l03Give (⟨a0.Long, a0.Round, a0.Tilt, a0.Node, a0.Peri, x7⟩ : Orbit);
   .leaf ((⟨x8.1.Long, x8.1.Round, x8.1.Tilt, x8.1.Node, x8.1.Peri, x8.1.Phase⟩ : Orbit), x8.2)))
  (
   .need ((spec_l01Narrow_need x5)) (
   let x7 := spec_l01Narrow x5;
   let x8 := spec_l03Give (⟨a0.Long, a0.Round, a0.Tilt, a0.Node, a0.Peri, x7⟩ : Orbit);
   .leaf ((⟨x8.1.Long, x8.1.Round, x8.1.Tilt, x8.1.Node, x8.1.Peri, x8.1.Phase⟩ : Orbit), x8.2))))))
def spec_l03Later (a0 : Orbit) (a1 : Nat) (a2 : Nat) : Orbit × Bool := (spec_l03Later_tree a0 a1 a2).val
def spec_l03Later_need (a0 : Orbit) (a1 : Nat) (a2 : Nat) : Bool := (spec_l03Later_tree a0 a1 a2).ok
def spec_l03Later_mk (p : Orbit × Bool) : Ret := ⟨.tup [.agg [.flt .f32 p.1.Long, .flt .f32 p.1.Round, .flt .f32 p.1.Tilt, .flt .f32 p.1.Node, .flt .f32 p.1.Peri, .flt .f32 p.1.Phase], .bool p.2], []⟩
def spec_l03Later_c : Con := fun args => match args with
  | [.agg [.flt .f32 a0_0, .flt .f32 a0_1, .flt .f32 a0_2, .flt .f32 a0_3, .flt .f32 a0_4, .flt .f32 a0_5], .flt .f32 a1, .flt .f32 a2] => some (.need (spec_l03Later_need (⟨a0_0, a0_1, a0_2, a0_3, a0_4, a0_5⟩ : Orbit) a1 a2) (.leaf (spec_l03Later_mk (spec_l03Later (⟨a0_0, a0_1, a0_2, a0_3, a0_4, a0_5⟩ : Orbit) a1 a2))))
  | _ => none
set_option maxRecDepth 100000 in
theorem spec_l03Later_ok : FunOK Tryz.prog 27 spec_l03Later_c.fn := by
  refine con_ok (Γ := gam [(52, spec_l03Rate_c), (53, spec_l03Ellipse_c), (54, spec_l03Wrapped_c), (56, spec_l03Give_c), (55, spec_l01Narrow_c)]) (gam_cons spec_l03Rate_ok (gam_cons spec_l03Ellipse_ok (gam_cons spec_l03Wrapped_ok (gam_cons spec_l03Give_ok (gam_cons spec_l01Narrow_ok (gam_nil)))))) tab_ok (by kernel_rfl) Tryz.func27 (by kernel_rfl) (by kernel_rfl) Tryz.ntmps27 Tryz.results27 (loopsOK_none rfl _) 100000 fun args t h => ?_
  unfold spec_l03Later_c at h
  split at h
  · rename_i a0_0 a0_1 a0_2 a0_3 a0_4 a0_5 a1 a2
    cases h
    exact ⟨rfl, agree_need (mk := spec_l03Later_mk) (t := spec_l03Later_tree (⟨a0_0, a0_1, a0_2, a0_3, a0_4, a0_5⟩ : Orbit) a1 a2) (by unfold Agree; kernel_rfl)⟩
  · cases h

/-- loop.example/g01284/spec.LaterOrbit -/
def spec_LaterOrbit_tree (a0 : Orbit) (a1 : Nat) (a2 : Nat) : DT (Orbit × Bool) :=
  let x0 := spec_l03Can (⟨a0.Long, a0.Round, a0.Tilt, a0.Node, a0.Peri, a0.Phase⟩ : Orbit) a1;
  .ask (!x0)
  (
   .leaf ((⟨0, 0, 0, 0, 0, 0⟩ : Orbit), false))
  (
   let x1 := spec_l01Finite a2;
   .ask (!x1)
   (
    .leaf ((⟨0, 0, 0, 0, 0, 0⟩ : Orbit), false))
   (
    .need ((spec_l03Later_need (⟨a0.Long, a0.Round, a0.Tilt, a0.Node, a0.Peri, a0.Phase⟩ : Orbit) a1 a2)) (
    let x2 := spec_l03Later (⟨a0.Long, a0.Round, a0.Tilt, a0.Node, a0.Peri, a0.Phase⟩ : Orbit) a1 a2;
    .leaf ((⟨x2.1.Long, x2.1.Round, x2.1.Tilt, x2.1.Node, x2.1.Peri, x2.1.Phase⟩ : Orbit), x2.2))))
def spec_LaterOrbit (a0 : Orbit) (a1 : Nat) (a2 : Nat) : Orbit × Bool := (spec_LaterOrbit_tree a0 a1 a2).val
def spec_LaterOrbit_need (a0 : Orbit) (a1 : Nat) (a2 : Nat) : Bool := (spec_LaterOrbit_tree a0 a1 a2).ok
def spec_LaterOrbit_mk (p : Orbit × Bool) : Ret := ⟨.tup [.agg [.flt .f32 p.1.Long, .flt .f32 p.1.Round, .flt .f32 p.1.Tilt, .flt .f32 p.1.Node, .flt .f32 p.1.Peri, .flt .f32 p.1.Phase], .bool p.2], []⟩
def spec_LaterOrbit_c : Con := fun args => match args with
  | [.agg [.flt .f32 a0_0, .flt .f32 a0_1, .flt .f32 a0_2, .flt .f32 a0_3, .flt .f32 a0_4, .flt .f32 a0_5], .flt .f32 a1, .flt .f32 a2] => some (.need (spec_LaterOrbit_need (⟨a0_0, a0_1, a0_2, a0_3, a0_4, a0_5⟩ : Orbit) a1 a2) (.leaf (spec_LaterOrbit_mk (spec_LaterOrbit (⟨a0_0, a0_1, a0_2, a0_3, a0_4, a0_5⟩ : Orbit) a1 a2))))
  | _ => none
set_option maxRecDepth 100000 in
theorem spec_LaterOrbit_ok : FunOK Tryz.prog 8 spec_LaterOrbit_c.fn := by
  refine con_ok (Γ := gam [(25, spec_l03Can_c), (26, spec_l01Finite_c), (27, spec_l03Later_c)]) (gam_cons spec_l03Can_ok (gam_cons spec_l01Finite_ok (gam_cons spec_l03Later_ok (gam_nil)))) tab_ok (by kernel_rfl) Tryz.func8 (by kernel_rfl) (by kernel_rfl) Tryz.ntmps8 Tryz.results8 (loopsOK_none rfl _) 100000 fun args t h => ?_
  unfold spec_LaterOrbit_c at h
  split at h
  · rename_i a0_0 a0_1 a0_2 a0_3 a0_4 a0_5 a1 a2
    cases h
    exact ⟨rfl, agree_need (mk := spec_LaterOrbit_mk) (t := spec_LaterOrbit_tree (⟨a0_0, a0_1, a0_2, a0_3, a0_4, a0_5⟩ : Orbit) a1 a2) (by unfold Agree; kernel_rfl)⟩
  · cases h

/-- loop.example/g01284/impl.finite -/
def impl_finite_tree (a0 : Nat) : DT (Bool) :=
  let x0 := math_IsNaN a0;
  .ask (!x0)
  (
   let x1 := math_IsInf a0 0;
   .leaf (!x1))
  (
   .leaf false)
def impl_finite (a0 : Nat) : Bool := (impl_finite_tree a0).val
def impl_finite_mk (p : Bool) : Ret := ⟨.bool p, []⟩
def impl_finite_c : Con := fun args => match args with
  | [.flt .f64 a0] => some (.leaf (impl_finite_mk (impl_finite a0)))
  | _ => none
set_option maxRecDepth 100000 in
theorem impl_finite_ok : FunOK Tryz.prog 84 impl_finite_c.fn := by
  refine con_ok (Γ := gam [(111, math_IsNaN_c), (112, math_IsInf_c)]) (gam_cons math_IsNaN_ok (gam_cons math_IsInf_ok (gam_nil))) tab_ok (by kernel_rfl) Tryz.func84 (by kernel_rfl) (by kernel_rfl) Tryz.ntmps84 Tryz.results84 (loopsOK_none rfl _) 100000 fun args t h => ?_
  unfold impl_finite_c at h
  split at h
  · rename_i a0
    cases h
    exact ⟨rfl, agree_tot (mk := impl_finite_mk) (t := impl_finite_tree a0) (by unfold Agree; kernel_rfl) (by kernel_rfl)⟩
  · cases h

/-- loop.example/g01284/impl.IsFinite -/
def impl_IsFinite_tree (a0 : Nat) : DT (Bool) :=
  .need ((fconvOk .f32 a0 .f64)) (
  let x0 := fconv .f32 a0 .f64;
  let x1 := impl_finite x0;
  .leaf x1)
def impl_IsFinite (a0 : Nat) : Bool := (impl_IsFinite_tree a0).val
def impl_IsFinite_need (a0 : Nat) : Bool := (impl_IsFinite_tree a0).ok
def impl_IsFinite_mk (p : Bool) : Ret := ⟨.bool p, []⟩
def impl_IsFinite_c : Con := fun args => match args with
  | [.flt .f32 a0] => some (.need (impl_IsFinite_need a0) (.leaf (impl_IsFinite_mk (impl_IsFinite a0))))
  | _ => none
set_option maxRecDepth 100000 in
theorem impl_IsFinite_ok : FunOK Tryz.prog 40 impl_IsFinite_c.fn := by
  refine con_ok (Γ := gam [(84, impl_finite_c)]) (gam_cons impl_finite_ok (gam_nil)) tab_ok (by kernel_rfl) Tryz.func40 (by kernel_rfl) (by kernel_rfl) Tryz.ntmps40 Tryz.results40 (loopsOK_none rfl _) 100000 fun args t h => ?_
  unfold impl_IsFinite_c at h
  split at h
  · rename_i a0
    cases h
    exact ⟨rfl, agree_need (mk := impl_IsFinite_mk) (t := impl_IsFinite_tree a0) (by unfold Agree; kernel_rfl)⟩
  · cases h

/-- loop.example/g01284/impl.areFinite$1 -/
def impl_areFinite_1_tree (a0 : Nat) : DT (Bool) :=
  .need ((impl_IsFinite_need a0)) (
  let x0 := impl_IsFinite a0;
  .leaf (!x0))
def impl_areFinite_1 (a0 : Nat) : Bool := (impl_areFinite_1_tree a0).val
def impl_areFinite_1_need (a0 : Nat) : Bool := (impl_areFinite_1_tree a0).ok
def impl_areFinite_1_mk (p : Bool) : Ret := ⟨.bool p, []⟩
def impl_areFinite_1_c : Con := fun args => match args with
  | [.flt .f32 a0] => some (.need (impl_areFinite_1_need a0) (.leaf (impl_areFinite_1_mk (impl_areFinite_1 a0))))
  | _ => none
set_option maxRecDepth 100000 in
theorem impl_areFinite_1_ok : FunOK Tryz.prog 87 impl_areFinite_1_c.fn := by
  refine con_ok (Γ := gam [(40, impl_IsFinite_c)]) (gam_cons impl_IsFinite_ok (gam_nil)) tab_ok (by kernel_rfl) Tryz.func87 (by kernel_rfl) (by kernel_rfl) Tryz.ntmps87 Tryz.results87 (loopsOK_none rfl _) 100000 fun args t h => ?_
  unfold impl_areFinite_1_c at h
  split at h
  · rename_i a0
    cases h
    exact ⟨rfl, agree_need (mk := impl_areFinite_1_mk) (t := impl_areFinite_1_tree a0) (by unfold Agree; kernel_rfl)⟩
  · cases h

/-- a loop of slices_IndexFunc___float32_float32__impl_areFinite_1 -/
def slices_IndexFunc___float32_float32__impl_areFinite_1_loop0_step (p : List Nat × Int) (s : Int) : Round (Int) ((Int) ⊕ (Unit)) :=
  let x0 := decide (s < p.2);
  .ask x0
  (
   .need ((decide (0 ≤ s) && decide (s < ((List.length p.1 : Nat) : Int)))) (
   let x1 := List.getD p.1 (Int.toNat s) default;
   .need ((impl_areFinite_1_need x1)) (
   let x2 := impl_areFinite_1 x1;
   .ask x2
   (
    .leaf (.inr (.inl s), []))
   (
    let x3 := IntKind.wrap .i64 (s + 1);
    .leaf (.inl x3, [])))))
  (
   .leaf (.inr (.inr ()), []))
def slices_IndexFunc___float32_float32__impl_areFinite_1_loop0_L (p : List Nat × Int) : LoopS (Int) ((Int) ⊕ (Unit)) := { tl := fun s => [.vslc 1 (.flt .f32) p.1, .func (.func 87) [] [], .junk, .junk, .junk, .junk, .junk, .int .i64 p.2, .int .i64 s], hl := fun s => [], ex := fun r => match r with | .inl r => .ret | .inr r => .exit 0, otl := fun r => match r with | .inl r => [.junk, .junk, .junk, .junk, .int .i64 r] | .inr r => [.junk], ohl := fun r => match r with | .inl r => [] | .inr r => [] }
def slices_IndexFunc___float32_float32__impl_areFinite_1_loop0_ext : St → Option ((List Nat × Int) × (Int) × List Nat) := fun S => match (S.tm 0).unK, (S.tm 1).unK, (S.tm 7).unK, (S.tm 8).unK with
  | .vslc 1 (.flt .f32) q0, .func (.func 87) [] [], .int .i64 q1, .int .i64 q2 => some ((q0, q1), q2, [])
  | _, _, _, _ => none
def slices_IndexFunc___float32_float32__impl_areFinite_1_loop0_post (p : List Nat × Int) (r : (Int) ⊕ (Unit)) : DT (Ex × St) := .ask (isL r) (.leaf (.ret, LSt [.junk, .junk, .junk, .junk, .int .i64 ((leftD r))] [])) (.leaf (.exit 0, LSt [.junk] []))
def slices_IndexFunc___float32_float32__impl_areFinite_1_loop0 (p : List Nat × Int) (s : Int) : (Int) ⊕ (Unit) := loopVal (slices_IndexFunc___float32_float32__impl_areFinite_1_loop0_step p) s
def slices_IndexFunc___float32_float32__impl_areFinite_1_loop0_ends (p : List Nat × Int) (s : Int) : Bool := loopEnds (slices_IndexFunc___float32_float32__impl_areFinite_1_loop0_step p) s
def slices_IndexFunc___float32_float32__impl_areFinite_1_loop0_F : LoopF := loopF slices_IndexFunc___float32_float32__impl_areFinite_1_loop0_step slices_IndexFunc___float32_float32__impl_areFinite_1_loop0_ext slices_IndexFunc___float32_float32__impl_areFinite_1_loop0_post
set_option maxRecDepth 100000 in
theorem slices_IndexFunc___float32_float32__impl_areFinite_1_loop0_hext : ∀ S p s fl, slices_IndexFunc___float32_float32__impl_areFinite_1_loop0_ext S = some (p, s, fl) → Norm S fl ((slices_IndexFunc___float32_float32__impl_areFinite_1_loop0_L p).tl s) ((slices_IndexFunc___float32_float32__impl_areFinite_1_loop0_L p).hl s) (slices_IndexFunc___float32_float32__impl_areFinite_1_loop0_L p).gl := by
  intro S p s fl h
  unfold slices_IndexFunc___float32_float32__impl_areFinite_1_loop0_ext at h
  (repeat' split at h) <;> first
    | (cases h; constructor <;> simp_all [slices_IndexFunc___float32_float32__impl_areFinite_1_loop0_L, keepT, keepH, rens, renH, PV.ren, Blk.ren, fOf, lget, nodup, natIn, lenEq, gtm, PV.unK])
    | cases h
set_option maxRecDepth 100000 in
theorem slices_IndexFunc___float32_float32__impl_areFinite_1_loop0_hpost : ∀ p r e S', (slices_IndexFunc___float32_float32__impl_areFinite_1_loop0_post p r).get = some (e, S') → e = (slices_IndexFunc___float32_float32__impl_areFinite_1_loop0_L p).ex r ∧ S' = LSt ((slices_IndexFunc___float32_float32__impl_areFinite_1_loop0_L p).otl r) ((slices_IndexFunc___float32_float32__impl_areFinite_1_loop0_L p).ohl r) ((slices_IndexFunc___float32_float32__impl_areFinite_1_loop0_L p).ogl r) := by
  intro p r e S' h
  unfold slices_IndexFunc___float32_float32__impl_areFinite_1_loop0_post at h
  cases r <;> (simp only [isL, DT.get, Option.some.injEq, Prod.mk.injEq] at h; exact ⟨h.1.symm, h.2.symm⟩)

def slices_IndexFunc___float32_float32__impl_areFinite_1_loops : Nat → Option LoopF := loopTab [(2, slices_IndexFunc___float32_float32__impl_areFinite_1_loop0_F)]
set_option maxRecDepth 100000 in
theorem slices_IndexFunc___float32_float32__impl_areFinite_1_l0 : LoopOK Tryz.prog ⟨gam [(87, impl_areFinite_1_c)], tab, 19, slices_IndexFunc___float32_float32__impl_areFinite_1_loops⟩ (lp Tryz.f113 0) :=
  loopOK_some (F := slices_IndexFunc___float32_float32__impl_areFinite_1_loop0_F) (by kernel_rfl) (loopF_ok (E := ⟨gam [(87, impl_areFinite_1_c)], tab, 19, slices_IndexFunc___float32_float32__impl_areFinite_1_loops⟩) ⟨gam_cons impl_areFinite_1_ok (gam_nil), tab_ok, by kernel_rfl⟩ (fuel := 100000) (loopsOK_list (l := []) (by kernel_rfl) trivial) (L := slices_IndexFunc___float32_float32__impl_areFinite_1_loop0_L) (fun p s => by unfold AgreeL; exact ⟨by kernel_rfl, by kernel_rfl⟩) (fun _ r h => by cases r <;> exact Ex.noConfusion h) slices_IndexFunc___float32_float32__impl_areFinite_1_loop0_hext slices_IndexFunc___float32_float32__impl_areFinite_1_loop0_hpost)
/-- slices.IndexFunc[[]float32,float32] -/
def slices_IndexFunc___float32_float32__impl_areFinite_1_tree (a0 : List Nat) : DT (Int) :=
  let x0 := ((List.length a0 : Nat) : Int);
  .need ((slices_IndexFunc___float32_float32__impl_areFinite_1_loop0_ends (a0, x0) 0)) (
  let x1 := slices_IndexFunc___float32_float32__impl_areFinite_1_loop0 (a0, x0) 0;
  .ask ((isL x1))
  (
   .leaf ((leftD x1)))
  (
   .leaf (-1)))
def slices_IndexFunc___float32_float32__impl_areFinite_1 (a0 : List Nat) : Int := (slices_IndexFunc___float32_float32__impl_areFinite_1_tree a0).val
def slices_IndexFunc___float32_float32__impl_areFinite_1_need (a0 : List Nat) : Bool := (slices_IndexFunc___float32_float32__impl_areFinite_1_tree a0).ok
def slices_IndexFunc___float32_float32__impl_areFinite_1_mk (p : Int) : Ret := ⟨.int .i64 p, []⟩
def slices_IndexFunc___float32_float32__impl_areFinite_1_c0 : Con := fun args => match args with
  | [.vslc 1 (.flt .f32) a0, .func (.func 87) [] []] => some (.need (slices_IndexFunc___float32_float32__impl_areFinite_1_need a0) (.leaf (slices_IndexFunc___float32_float32__impl_areFinite_1_mk (slices_IndexFunc___float32_float32__impl_areFinite_1 a0))))
  | _ => none
set_option maxRecDepth 100000 in
theorem slices_IndexFunc___float32_float32__impl_areFinite_1_ok0 : FunOK Tryz.prog 113 slices_IndexFunc___float32_float32__impl_areFinite_1_c0.fn := by
  refine con_ok (Γ := gam [(87, impl_areFinite_1_c)]) (gam_cons impl_areFinite_1_ok (gam_nil)) tab_ok (by kernel_rfl) Tryz.func113 (by kernel_rfl) (by kernel_rfl) Tryz.ntmps113 Tryz.results113 (loops := slices_IndexFunc___float32_float32__impl_areFinite_1_loops) (loopsOK_list (l := [lp Tryz.f113 0]) (by kernel_rfl) ⟨slices_IndexFunc___float32_float32__impl_areFinite_1_l0, trivial⟩) 100000 fun args t h => ?_
  unfold slices_IndexFunc___float32_float32__impl_areFinite_1_c0 at h
  split at h
  · rename_i a0
    cases h
    exact ⟨rfl, agree_need (mk := slices_IndexFunc___float32_float32__impl_areFinite_1_mk) (t := slices_IndexFunc___float32_float32__impl_areFinite_1_tree a0) (by unfold Agree; kernel_rfl)⟩
  · cases h
def slices_IndexFunc___float32_float32__impl_areFinite_1_c : Con := fun args => slices_IndexFunc___float32_float32__impl_areFinite_1_c0 (norms 0 [.slc (.flt .f32), .none] args)
set_option maxRecDepth 100000 in
theorem slices_IndexFunc___float32_float32__impl_areFinite_1_ok : FunOK Tryz.prog 113 slices_IndexFunc___float32_float32__impl_areFinite_1_c.fn := con_norm [.slc (.flt .f32), .none] slices_IndexFunc___float32_float32__impl_areFinite_1_ok0

/-- slices.ContainsFunc[[]float32,float32] -/
def slices_ContainsFunc___float32_float32__impl_areFinite_1_tree (a0 : List Nat) : DT (Bool) :=
  .need ((slices_IndexFunc___float32_float32__impl_areFinite_1_need a0 )) (
  let x0 := slices_IndexFunc___float32_float32__impl_areFinite_1 a0 ;
  let x1 := decide (x0 ≥ 0);
  .leaf x1)
def slices_ContainsFunc___float32_float32__impl_areFinite_1 (a0 : List Nat) : Bool := (slices_ContainsFunc___float32_float32__impl_areFinite_1_tree a0).val
def slices_ContainsFunc___float32_float32__impl_areFinite_1_need (a0 : List Nat) : Bool := (slices_ContainsFunc___float32_float32__impl_areFinite_1_tree a0).ok
def slices_ContainsFunc___float32_float32__impl_areFinite_1_mk (p : Bool) : Ret := ⟨.bool p, []⟩
def slices_ContainsFunc___float32_float32__impl_areFinite_1_c0 : Con := fun args => match args with
  | [.vslc 1 (.flt .f32) a0, .func (.func 87) [] []] => some (.need (slices_ContainsFunc___float32_float32__impl_areFinite_1_need a0) (.leaf (slices_ContainsFunc___float32_float32__impl_areFinite_1_mk (slices_ContainsFunc___float32_float32__impl_areFinite_1 a0))))
  | _ => none
set_option maxRecDepth 100000 in
theorem slices_ContainsFunc___float32_float32__impl_areFinite_1_ok0 : FunOK Tryz.prog 86 slices_ContainsFunc___float32_float32__impl_areFinite_1_c0.fn := by
  refine con_ok (Γ := gam [(113, slices_IndexFunc___float32_float32__impl_areFinite_1_c)]) (gam_cons slices_IndexFunc___float32_float32__impl_areFinite_1_ok (gam_nil)) tab_ok (by kernel_rfl) Tryz.func86 (by kernel_rfl) (by kernel_rfl) Tryz.ntmps86 Tryz.results86 (loopsOK_none rfl _) 100000 fun args t h => ?_
  unfold slices_ContainsFunc___float32_float32__impl_areFinite_1_c0 at h
  split at h
  · rename_i a0
    cases h
    exact ⟨rfl, agree_need (mk := slices_ContainsFunc___float32_float32__impl_areFinite_1_mk) (t := slices_ContainsFunc___float32_float32__impl_areFinite_1_tree a0) (by unfold Agree; kernel_rfl)⟩
  · cases h
def slices_ContainsFunc___float32_float32__impl_areFinite_1_c : Con := fun args => slices_ContainsFunc___float32_float32__impl_areFinite_1_c0 (norms 0 [.slc (.flt .f32), .none] args)
set_option maxRecDepth 100000 in
theorem slices_ContainsFunc___float32_float32__impl_areFinite_1_ok : FunOK Tryz.prog 86 slices_ContainsFunc___float32_float32__impl_areFinite_1_c.fn := con_norm [.slc (.flt .f32), .none] slices_ContainsFunc___float32_float32__impl_areFinite_1_ok0

/-- loop.example/g01284/impl.areFinite -/
def impl_areFinite_tree (a0 : List Nat) : DT (Bool) :=
  .need ((slices_ContainsFunc___float32_float32__impl_areFinite_1_need a0 )) (
  let x0 := slices_ContainsFunc___float32_float32__impl_areFinite_1 a0 ;
  .leaf (!x0))
def impl_areFinite (a0 : List Nat) : Bool := (impl_areFinite_tree a0).val
def impl_areFinite_need (a0 : List Nat) : Bool := (impl_areFinite_tree a0).ok
def impl_areFinite_mk (p : Bool) : Ret := ⟨.bool p, []⟩
def impl_areFinite_c0 : Con := fun args => match args with
  | [.vslc 1 (.flt .f32) a0] => some (.need (impl_areFinite_need a0) (.leaf (impl_areFinite_mk (impl_areFinite a0))))
  | _ => none
set_option maxRecDepth 100000 in
theorem impl_areFinite_ok0 : FunOK Tryz.prog 44 impl_areFinite_c0.fn := by
  refine con_ok (Γ := gam [(86, slices_ContainsFunc___float32_float32__impl_areFinite_1_c)]) (gam_cons slices_ContainsFunc___float32_float32__impl_areFinite_1_ok (gam_nil)) tab_ok (by kernel_rfl) Tryz.func44 (by kernel_rfl) (by kernel_rfl) Tryz.ntmps44 Tryz.results44 (loopsOK_none rfl _) 100000 fun args t h => ?_
  unfold impl_areFinite_c0 at h
  split at h
  · rename_i a0
    cases h
    exact ⟨rfl, agree_need (mk := impl_areFinite_mk) (t := impl_areFinite_tree a0) (by unfold Agree; kernel_rfl)⟩
  · cases h
def impl_areFinite_c : Con := fun args => impl_areFinite_c0 (norms 0 [.slc (.flt .f32)] args)
set_option maxRecDepth 100000 in
theorem impl_areFinite_ok : FunOK Tryz.prog 44 impl_areFinite_c.fn := con_norm [.slc (.flt .f32)] impl_areFinite_ok0

/-- loop.example/g01284/impl.isTurn -/
def impl_isTurn_tree (a0 : Nat) : DT (Bool) :=
  let x0 := fge .f32 a0 0;
  .ask x0
  (
   let x1 := flt .f32 a0 1065353216;
   .leaf x1)
  (
   .leaf false)
def impl_isTurn (a0 : Nat) : Bool := (impl_isTurn_tree a0).val
def impl_isTurn_mk (p : Bool) : Ret := ⟨.bool p, []⟩
def impl_isTurn_c : Con := fun args => match args with
  | [.flt .f32 a0] => some (.leaf (impl_isTurn_mk (impl_isTurn a0)))
  | _ => none
set_option maxRecDepth 100000 in
theorem impl_isTurn_ok : FunOK Tryz.prog 108 impl_isTurn_c.fn := by
  refine con_ok (Γ := gam []) (gam_nil) tab_ok (by kernel_rfl) Tryz.func108 (by kernel_rfl) (by kernel_rfl) Tryz.ntmps108 Tryz.results108 (loopsOK_none rfl _) 100000 fun args t h => ?_
  unfold impl_isTurn_c at h
  split at h
  · rename_i a0
    cases h
    exact ⟨rfl, agree_tot (mk := impl_isTurn_mk) (t := impl_isTurn_tree a0) (by unfold Agree; kernel_rfl) (by kernel_rfl)⟩
  · cases h

/-- (loop.example/g01284/impl.Orbit).isEllipse -/
def impl_Orbit_isEllipse_tree (a0 : Orbit) : DT (Bool) :=
  let x0 := fgt .f32 a0.Long 0;
  .ask x0
  (
   let x1 := fge .f32 a0.Round 0;
   .ask x1
   (
    let x2 := flt .f32 a0.Round 1065353216;
    .ask x2
    (
     let x3 := impl_isTurn a0.Phase;
     .leaf x3)
    (
     .leaf false))
   (
    .leaf false))
  (
   .leaf false)
def impl_Orbit_isEllipse (a0 : Orbit) : Bool := (impl_Orbit_isEllipse_tree a0).val
def impl_Orbit_isEllipse_mk (p : Bool) : Ret := ⟨.bool p, []⟩
def impl_Orbit_isEllipse_c : Con := fun args => match args with
  | [.agg [.flt .f32 a0_0, .flt .f32 a0_1, .flt .f32 a0_2, .flt .f32 a0_3, .flt .f32 a0_4, .flt .f32 a0_5]] => some (.leaf (impl_Orbit_isEllipse_mk (impl_Orbit_isEllipse (⟨a0_0, a0_1, a0_2, a0_3, a0_4, a0_5⟩ : Orbit))))
  | _ => none
set_option maxRecDepth 100000 in
theorem impl_Orbit_isEllipse_ok : FunOK Tryz.prog 109 impl_Orbit_isEllipse_c.fn := by
  refine con_ok (Γ := gam [(108, impl_isTurn_c)]) (gam_cons impl_isTurn_ok (gam_nil)) tab_ok (by kernel_rfl) Tryz.func109 (by kernel_rfl) (by kernel_rfl) Tryz.ntmps109 Tryz.results109 (loopsOK_none rfl _) 100000 fun args t h => ?_
  unfold impl_Orbit_isEllipse_c at h
  split at h
  · rename_i a0_0 a0_1 a0_2 a0_3 a0_4 a0_5
    cases h
    exact ⟨rfl, agree_tot (mk := impl_Orbit_isEllipse_mk) (t := impl_Orbit_isEllipse_tree (⟨a0_0, a0_1, a0_2, a0_3, a0_4, a0_5⟩ : Orbit)) (by unfold Agree; kernel_rfl) (by kernel_rfl)⟩
  · cases h

/-- (loop.example/g01284/impl.Orbit).isBranch -/
def impl_Orbit_isBranch_tree (a0 : Orbit) : DT (Bool) :=
  let x0 := flt .f32 a0.Long 0;
  .ask x0
  (
   let x1 := fgt .f32 a0.Round 1065353216;
   .ask x1
   (
    let x2 := fge .f32 a0.Phase 3246391296;
    .ask x2
    (
     let x3 := fle .f32 a0.Phase 1098907648;
     .leaf x3)
    (
     .leaf false))
   (
    .leaf false))
  (
   .leaf false)
def impl_Orbit_isBranch (a0 : Orbit) : Bool := (impl_Orbit_isBranch_tree a0).val
def impl_Orbit_isBranch_mk (p : Bool) : Ret := ⟨.bool p, []⟩
def impl_Orbit_isBranch_c : Con := fun args => match args with
  | [.agg [.flt .f32 a0_0, .flt .f32 a0_1, .flt .f32 a0_2, .flt .f32 a0_3, .flt .f32 a0_4, .flt .f32 a0_5]] => some (.leaf (impl_Orbit_isBranch_mk (impl_Orbit_isBranch (⟨a0_0, a0_1, a0_2, a0_3, a0_4, a0_5⟩ : Orbit))))
  | _ => none
set_option maxRecDepth 100000 in
theorem impl_Orbit_isBranch_ok : FunOK Tryz.prog 110 impl_Orbit_isBranch_c.fn := by
  refine con_ok (Γ := gam []) (gam_nil) tab_ok (by kernel_rfl) Tryz.func110 (by kernel_rfl) (by kernel_rfl) Tryz.ntmps110 Tryz.results110 (loopsOK_none rfl _) 100000 fun args t h => ?_
  unfold impl_Orbit_isBranch_c at h
  split at h
  · rename_i a0_0 a0_1 a0_2 a0_3 a0_4 a0_5
    cases h
    exact ⟨rfl, agree_tot (mk := impl_Orbit_isBranch_mk) (t := impl_Orbit_isBranch_tree (⟨a0_0, a0_1, a0_2, a0_3, a0_4, a0_5⟩ : Orbit)) (by unfold Agree; kernel_rfl) (by kernel_rfl)⟩
  · cases h

/-- loop.example/g01284/impl.ValidOrbit -/
def impl_ValidOrbit_tree (a0 : Orbit) : DT (Bool) :=
  .need ((impl_areFinite_need ([a0.Long, a0.Round, a0.Tilt, a0.Node, a0.Peri, a0.Phase]))) (
  let x0 := impl_areFinite ([a0.Long, a0.Round, a0.Tilt, a0.Node, a0.Peri, a0.Phase]);
  .ask x0
  (
   let x1 := fge .f32 a0.Tilt 0;
   .ask x1
   (
    let x2 := fle .f32 a0.Tilt 1056964608;
    .ask x2
    (
     let x3 := impl_isTurn a0.Node;
     .ask x3
     (
      let x4 := impl_isTurn a0.Peri;
      .ask x4
      (
       let x5 := impl_Orbit_isEllipse (⟨a0.Long, a0.Round, a0.Tilt, a0.Node, a0.Peri, a0.Phase⟩ : Orbit);
       .ask x5
       (
        .leaf true)
       (
        let x6 := impl_Orbit_isBranch (⟨a0.Long, a0.Round, a0.Tilt, a0.Node, a0.Peri, a0.Phase⟩ : Orbit);
        .leaf x6))
      (
       .leaf false))
     (
      .leaf false))
    (
     .leaf false))
   (
    .leaf false))
  (
   .leaf false))
def impl_ValidOrbit (a0 : Orbit) : Bool := (impl_ValidOrbit_tree a0).val
def impl_ValidOrbit_need (a0 : Orbit) : Bool := (impl_ValidOrbit_tree a0).ok
def impl_ValidOrbit_mk (p : Bool) : Ret := ⟨.bool p, []⟩
def impl_ValidOrbit_c : Con := fun args => match args with
  | [.agg [.flt .f32 a0_0, .flt .f32 a0_1, .flt .f32 a0_2, .flt .f32 a0_3, .flt .f32 a0_4, .flt .f32 a0_5]] => some (.need (impl_ValidOrbit_need (⟨a0_0, a0_1, a0_2, a0_3, a0_4, a0_5⟩ : Orbit)) (.leaf (impl_ValidOrbit_mk (impl_ValidOrbit (⟨a0_0, a0_1, a0_2, a0_3, a0_4, a0_5⟩ : Orbit)))))
  | _ => none
set_option maxRecDepth 100000 in
theorem impl_ValidOrbit_ok : FunOK Tryz.prog 81 impl_ValidOrbit_c.fn := by
  refine con_ok (Γ := gam [(44, impl_areFinite_c), (108, impl_isTurn_c), (109, impl_Orbit_isEllipse_c), (110, impl_Orbit_isBranch_c)]) (gam_cons impl_areFinite_ok (gam_cons impl_isTurn_ok (gam_cons impl_Orbit_isEllipse_ok (gam_cons impl_Orbit_isBranch_ok (gam_nil))))) tab_ok (by kernel_rfl) Tryz.func81 (by kernel_rfl) (by kernel_rfl) Tryz.ntmps81 Tryz.results81 (loopsOK_none rfl _) 100000 fun args t h => ?_
  unfold impl_ValidOrbit_c at h
  split at h
  · rename_i a0_0 a0_1 a0_2 a0_3 a0_4 a0_5
    cases h
    exact ⟨rfl, agree_need (mk := impl_ValidOrbit_mk) (t := impl_ValidOrbit_tree (⟨a0_0, a0_1, a0_2, a0_3, a0_4, a0_5⟩ : Orbit)) (by unfold Agree; kernel_rfl)⟩
  · cases h

/-- loop.example/g01284/impl.aLength -/
def impl_aLength_tree (a0 : Nat) : DT (Bool) :=
  .need ((impl_IsFinite_need a0)) (
  let x0 := impl_IsFinite a0;
  .ask x0
  (
   let x1 := fgt .f32 a0 0;
   .leaf x1)
  (
   .leaf false))
def impl_aLength (a0 : Nat) : Bool := (impl_aLength_tree a0).val
def impl_aLength_need (a0 : Nat) : Bool := (impl_aLength_tree a0).ok
def impl_aLength_mk (p : Bool) : Ret := ⟨.bool p, []⟩
def impl_aLength_c : Con := fun args => match args with
  | [.flt .f32 a0] => some (.need (impl_aLength_need a0) (.leaf (impl_aLength_mk (impl_aLength a0))))
  | _ => none
set_option maxRecDepth 100000 in
theorem impl_aLength_ok : FunOK Tryz.prog 82 impl_aLength_c.fn := by
  refine con_ok (Γ := gam [(40, impl_IsFinite_c)]) (gam_cons impl_IsFinite_ok (gam_nil)) tab_ok (by kernel_rfl) Tryz.func82 (by kernel_rfl) (by kernel_rfl) Tryz.ntmps82 Tryz.results82 (loopsOK_none rfl _) 100000 fun args t h => ?_
  unfold impl_aLength_c at h
  split at h
  · rename_i a0
    cases h
    exact ⟨rfl, agree_need (mk := impl_aLength_mk) (t := impl_aLength_tree a0) (by unfold Agree; kernel_rfl)⟩
  · cases h

/-- (loop.example/g01284/impl.Orbit).isAround -/
def impl_Orbit_isAround_tree (a0 : Orbit) (a1 : Nat) : DT (Bool) :=
  .need ((impl_ValidOrbit_need (⟨a0.Long, a0.Round, a0.Tilt, a0.Node, a0.Peri, a0.Phase⟩ : Orbit))) (
  let x0 := impl_ValidOrbit (⟨a0.Long, a0.Round, a0.Tilt, a0.Node, a0.Peri, a0.Phase⟩ : Orbit);
  .ask x0
  (
   .need ((impl_aLength_need a1)) (
   let x1 := impl_aLength a1;
   .leaf x1))
  (
   .leaf false))
def impl_Orbit_isAround (a0 : Orbit) (a1 : Nat) : Bool := (impl_Orbit_isAround_tree a0 a1).val
def impl_Orbit_isAround_need (a0 : Orbit) (a1 : Nat) : Bool := (impl_Orbit_isAround_tree a0 a1).ok
def impl_Orbit_isAround_mk (p : Bool) : Ret := ⟨.bool p, []⟩
def impl_Orbit_isAround_c : Con := fun args => match args with
  | [.agg [.flt .f32 a0_0, .flt .f32 a0_1, .flt .f32 a0_2, .flt .f32 a0_3, .flt .f32 a0_4, .flt .f32 a0_5], .flt .f32 a1] => some (.need (impl_Orbit_isAround_need (⟨a0_0, a0_1, a0_2, a0_3, a0_4, a0_5⟩ : Orbit) a1) (.leaf (impl_Orbit_isAround_mk (impl_Orbit_isAround (⟨a0_0, a0_1, a0_2, a0_3, a0_4, a0_5⟩ : Orbit) a1))))
  | _ => none
set_option maxRecDepth 100000 in
theorem impl_Orbit_isAround_ok : FunOK Tryz.prog 57 impl_Orbit_isAround_c.fn := by
  refine con_ok (Γ := gam [(81, impl_ValidOrbit_c), (82, impl_aLength_c)]) (gam_cons impl_ValidOrbit_ok (gam_cons impl_aLength_ok (gam_nil))) tab_ok (by kernel_rfl) Tryz.func57 (by kernel_rfl) (by kernel_rfl) Tryz.ntmps57 Tryz.results57 (loopsOK_none rfl _) 100000 fun args t h => ?_
  unfold impl_Orbit_isAround_c at h
  split at h
  · rename_i a0_0 a0_1 a0_2 a0_3 a0_4 a0_5 a1
    cases h
    exact ⟨rfl, agree_need (mk := impl_Orbit_isAround_mk) (t := impl_Orbit_isAround_tree (⟨a0_0, a0_1, a0_2, a0_3, a0_4, a0_5⟩ : Orbit) a1) (by unfold Agree; kernel_rfl)⟩
  · cases h

/-- (loop.example/g01284/impl.Orbit).rate -/
def impl_Orbit_rate_tree (a0 : Orbit) (a1 : Nat) : DT (Nat) :=
  .need ((fconvOk .f32 a0.Long .f64)) (
  let x0 := fconv .f32 a0.Long .f64;
  let x1 := math_Abs x0;
  let x2 := fmul .f64 x1 x1;
  let x3 := fmul .f64 x2 x1;
  let x4 := fdiv .f64 a1 x3;
  let x5 := math_Sqrt x4;
  .leaf x5)
def impl_Orbit_rate (a0 : Orbit) (a1 : Nat) : Nat := (impl_Orbit_rate_tree a0 a1).val
def impl_Orbit_rate_need (a0 : Orbit) (a1 : Nat) : Bool := (impl_Orbit_rate_tree a0 a1).ok
def impl_Orbit_rate_mk (p : Nat) : Ret := ⟨.flt .f64 p, []⟩
def impl_Orbit_rate_c : Con := fun args => match args with
  | [.agg [.flt .f32 a0_0, .flt .f32 a0_1, .flt .f32 a0_2, .flt .f32 a0_3, .flt .f32 a0_4, .flt .f32 a0_5], .flt .f64 a1] => some (.need (impl_Orbit_rate_need (⟨a0_0, a0_1, a0_2, a0_3, a0_4, a0_5⟩ : Orbit) a1) (.leaf (impl_Orbit_rate_mk (impl_Orbit_rate (⟨a0_0, a0_1, a0_2, a0_3, a0_4, a0_5⟩ : Orbit) a1))))
  | _ => none
set_option maxRecDepth 100000 in
theorem impl_Orbit_rate_ok : FunOK Tryz.prog 58 impl_Orbit_rate_c.fn := by
  refine con_ok (Γ := gam [(91, math_Abs_c), (66, math_Sqrt_c)]) (gam_cons math_Abs_ok (gam_cons math_Sqrt_ok (gam_nil))) tab_ok (by kernel_rfl) Tryz.func58 (by kernel_rfl) (by kernel_rfl) Tryz.ntmps58 Tryz.results58 (loopsOK_none rfl _) 100000 fun args t h => ?_
  unfold impl_Orbit_rate_c at h
  split at h
  · rename_i a0_0 a0_1 a0_2 a0_3 a0_4 a0_5 a1
    cases h
    exact ⟨rfl, agree_need (mk := impl_Orbit_rate_mk) (t := impl_Orbit_rate_tree (⟨a0_0, a0_1, a0_2, a0_3, a0_4, a0_5⟩ : Orbit) a1) (by unfold Agree; kernel_rfl)⟩
  · cases h

/-- loop.example/g01284/impl.wrap -/
def impl_wrap_tree (a0 : Nat) : DT (Nat) :=
  let x0 := math_Floor a0;
  let x1 := fsub .f64 a0 x0;
  .leaf x1
def impl_wrap (a0 : Nat) : Nat := (impl_wrap_tree a0).val
def impl_wrap_mk (p : Nat) : Ret := ⟨.flt .f64 p, []⟩
def impl_wrap_c : Con := fun args => match args with
  | [.flt .f64 a0] => some (.leaf (impl_wrap_mk (impl_wrap a0)))
  | _ => none
set_option maxRecDepth 100000 in
theorem impl_wrap_ok : FunOK Tryz.prog 60 impl_wrap_c.fn := by
  refine con_ok (Γ := gam [(93, math_Floor_c)]) (gam_cons math_Floor_ok (gam_nil)) tab_ok (by kernel_rfl) Tryz.func60 (by kernel_rfl) (by kernel_rfl) Tryz.ntmps60 Tryz.results60 (loopsOK_none rfl _) 100000 fun args t h => ?_
  unfold impl_wrap_c at h
  split at h
  · rename_i a0
    cases h
    exact ⟨rfl, agree_tot (mk := impl_wrap_mk) (t := impl_wrap_tree a0) (by unfold Agree; kernel_rfl) (by kernel_rfl)⟩
  · cases h

/-- loop.example/g01284/impl.narrowTurn -/
def impl_narrowTurn_tree (a0 : Nat) : DT (Nat) :=
  .need ((fconvOk .f64 a0 .f32)) (
  let x0 := fconv .f64 a0 .f32;
  let x1 := fge .f32 x0 1065353216;
  .ask x1
  (
   .leaf 0)
  (
   .leaf x0))
def impl_narrowTurn (a0 : Nat) : Nat := (impl_narrowTurn_tree a0).val
def impl_narrowTurn_need (a0 : Nat) : Bool := (impl_narrowTurn_tree a0).ok
def impl_narrowTurn_mk (p : Nat) : Ret := ⟨.flt .f32 p, []⟩
def impl_narrowTurn_c : Con := fun args => match args with
  | [.flt .f64 a0] => some (.need (impl_narrowTurn_need a0) (.leaf (impl_narrowTurn_mk (impl_narrowTurn a0))))
  | _ => none
set_option maxRecDepth 100000 in
theorem impl_narrowTurn_ok : FunOK Tryz.prog 59 impl_narrowTurn_c.fn := by
  refine con_ok (Γ := gam []) (gam_nil) tab_ok (by kernel_rfl) Tryz.func59 (by kernel_rfl) (by kernel_rfl) Tryz.ntmps59 Tryz.results59 (loopsOK_none rfl _) 100000 fun args t h => ?_
  unfold impl_narrowTurn_c at h
  split at h
  · rename_i a0
    cases h
    exact ⟨rfl, agree_need (mk := impl_narrowTurn_mk) (t := impl_narrowTurn_tree a0) (by unfold Agree; kernel_rfl)⟩
  · cases h

/-- (loop.example/g01284/impl.Orbit).valid -/
def impl_Orbit_valid_tree (a0 : Orbit) : DT (Orbit × Bool) :=
  .need ((impl_ValidOrbit_need (⟨a0.Long, a0.Round, a0.Tilt, a0.Node, a0.Peri, a0.Phase⟩ : Orbit))) (
  let x0 := impl_ValidOrbit (⟨a0.Long, a0.Round, a0.Tilt, a0.Node, a0.Peri, a0.Phase⟩ : Orbit);
  .ask (!x0)
  (
   .leaf ((⟨0, 0, 0, 0, 0, 0⟩ : Orbit), false))
  (
   .leaf ((⟨a0.Long, a0.Round, a0.Tilt, a0.Node, a0.Peri, a0.Phase⟩ : Orbit), true)))
def impl_Orbit_valid (a0 : Orbit) : Orbit × Bool := (impl_Orbit_valid_tree a0).val
def impl_Orbit_valid_need (a0 : Orbit) : Bool := (impl_Orbit_valid_tree a0).ok
def impl_Orbit_valid_mk (p : Orbit × Bool) : Ret := ⟨.tup [.agg [.flt .f32 p.1.Long, .flt .f32 p.1.Round, .flt .f32 p.1.Tilt, .flt .f32 p.1.Node, .flt .f32 p.1.Peri, .flt .f32 p.1.Phase], .bool p.2], []⟩
def impl_Orbit_valid_c : Con := fun args => match args with
  | [.agg [.flt .f32 a0_0, .flt .f32 a0_1, .flt .f32 a0_2, .flt .f32 a0_3, .flt .f32 a0_4, .flt .f32 a0_5]] => some (.need (impl_Orbit_valid_need (⟨a0_0, a0_1, a0_2, a0_3, a0_4, a0_5⟩ : Orbit)) (.leaf (impl_Orbit_valid_mk (impl_Orbit_valid (⟨a0_0, a0_1, a0_2, a0_3, a0_4, a0_5⟩ : Orbit)))))
  | _ => none
set_option maxRecDepth 100000 in
theorem impl_Orbit_valid_ok : FunOK Tryz.prog 61 impl_Orbit_valid_c.fn := by
  refine con_ok (Γ := gam [(81, impl_ValidOrbit_c)]) (gam_cons impl_ValidOrbit_ok (gam_nil)) tab_ok (by kernel_rfl) Tryz.func61 (by kernel_rfl) (by kernel_rfl) Tryz.ntmps61 Tryz.results61 (loopsOK_none rfl _) 100000 fun args t h => ?_
  unfold impl_Orbit_valid_c at h
  split at h
  · rename_i a0_0 a0_1 a0_2 a0_3 a0_4 a0_5
    cases h
    exact ⟨rfl, agree_need (mk := impl_Orbit_valid_mk) (t := impl_Orbit_valid_tree (⟨a0_0, a0_1, a0_2, a0_3, a0_4, a0_5⟩ : Orbit)) (by unfold Agree; kernel_rfl)⟩
  · cases h

/-- loop.example/g01284/impl.LaterOrbit -/
def impl_LaterOrbit_tree (a0 : Orbit) (a1 : Nat) (a2 : Nat) : DT (Orbit × Bool) :=
  .need ((impl_Orbit_isAround_need (⟨a0.Long, a0.Round, a0.Tilt, a0.Node, a0.Peri, a0.Phase⟩ : Orbit) a1)) (
  let x0 := impl_Orbit_isAround (⟨a0.Long, a0.Round, a0.Tilt, a0.Node, a0.Peri, a0.Phase⟩ : Orbit) a1;
  .ask (!x0)
  (
   .leaf ((⟨0, 0, 0, 0, 0, 0⟩ : Orbit), false))
  (
   .need ((impl_IsFinite_need a2)) (
   let x1 := impl_IsFinite a2;
   .ask (!x1)
   (
    .leaf ((⟨0, 0, 0, 0, 0, 0⟩ : Orbit), false))
   (
    .need ((fconvOk .f32 a0.Phase .f64)) (
    let x2 := fconv .f32 a0.Phase .f64;
    .need ((fconvOk .f32 a1 .f64)) (
    let x3 := fconv .f32 a1 .f64;
    .need ((impl_Orbit_rate_need (⟨a0.Long, a0.Round, a0.Tilt, a0.Node, a0.Peri, a0.Phase⟩ : Orbit) x3)) (
    let x4 := impl_Orbit_rate (⟨a0.Long, a0.Round, a0.Tilt, a0.Node, a0.Peri, a0.Phase⟩ : Orbit) x3;
    .need ((fconvOk .f32 a2 .f64)) (
    let x5 := fconv .f32 a2 .f64;
    let x6 := fmul .f64 x4 x5;
    let x7 := fdiv .f64 x6 4618760256179416344;
    let x8 := fadd .f64 x2 x7;
    let x9 := fgt .f32 a0.Long 0;
    .ask x9
    (
     let x10 := impl_wrap x8;
     .need ((impl_narrowTurn_need x10)) (
     let x11 := impl_narrowTurn x10;
     .need ((impl_Orbit_valid_need (⟨a0.Long, a0.Round, a0.Tilt, a0.Node, a0.Peri, x11⟩ : Orbit))) (
     let x12 := impl_Orbit_valid (⟨a0.Long, a0.Round, a0.Tilt, a0.Node, a0.Peri, x11⟩ : Orbit);
     .leaf ((⟨x12.1.Long, x12.1.Round, x12.1.Tilt, x12.1.Node, x12.1.Peri, x12.1.Phase⟩ : Orbit), x12.2))))
    (
     .need ((fconvOk .f64 x8 .f32)) (
     let x10 := fconv .f64 x8 .f32;
     .need ((impl_Orbit_valid_need (⟨a0.Long, a0.Round, a0.Tilt, a0.Node, a0.Peri, x10⟩ : Orbit))) (
     let x11 := impl_Orbit_valid (⟨a0.Long, a0.Round, a0.Tilt, a0.Node, a0.Peri, x10⟩ : Orbit);
     .leaf ((⟨x11.1.Long, x11.1.Round, x11.1.Tilt, x11.1.Node, x11.1.Peri, x11.1.Phase⟩ : Orbit), x11.2))))))))))))
def impl_LaterOrbit (a0 : Orbit) (a1 : Nat) (a2 : Nat) : Orbit × Bool := (impl_LaterOrbit_tree a0 a1 a2).val
def impl_LaterOrbit_need (a0 : Orbit) (a1 : Nat) (a2 : Nat) : Bool := (impl_LaterOrbit_tree a0 a1 a2).ok
def impl_LaterOrbit_mk (p : Orbit × Bool) : Ret := ⟨.tup [.agg [.flt .f32 p.1.Long, .flt .f32 p.1.Round, .flt .f32 p.1.Tilt, .flt .f32 p.1.Node, .flt .f32 p.1.Peri, .flt .f32 p.1.Phase], .bool p.2], []⟩
def impl_LaterOrbit_c : Con := fun args => match args with
  | [.agg [.flt .f32 a0_0, .flt .f32 a0_1, .flt .f32 a0_2, .flt .f32 a0_3, .flt .f32 a0_4, .flt .f32 a0_5], .flt .f32 a1, .flt .f32 a2] => some (.need (impl_LaterOrbit_need (⟨a0_0, a0_1, a0_2, a0_3, a0_4, a0_5⟩ : Orbit) a1 a2) (.leaf (impl_LaterOrbit_mk (impl_LaterOrbit (⟨a0_0, a0_1, a0_2, a0_3, a0_4, a0_5⟩ : Orbit) a1 a2))))
  | _ => none
set_option maxRecDepth 100000 in
theorem impl_LaterOrbit_ok : FunOK Tryz.prog 28 impl_LaterOrbit_c.fn := by
  refine con_ok (Γ := gam [(57, impl_Orbit_isAround_c), (40, impl_IsFinite_c), (58, impl_Orbit_rate_c), (60, impl_wrap_c), (59, impl_narrowTurn_c), (61, impl_Orbit_valid_c)]) (gam_cons impl_Orbit_isAround_ok (gam_cons impl_IsFinite_ok (gam_cons impl_Orbit_rate_ok (gam_cons impl_wrap_ok (gam_cons impl_narrowTurn_ok (gam_cons impl_Orbit_valid_ok (gam_nil))))))) tab_ok (by kernel_rfl) Tryz.func28 (by kernel_rfl) (by kernel_rfl) Tryz.ntmps28 Tryz.results28 (loopsOK_none rfl _) 100000 fun args t h => ?_
  unfold impl_LaterOrbit_c at h
  split at h
  · rename_i a0_0 a0_1 a0_2 a0_3 a0_4 a0_5 a1 a2
    cases h
    exact ⟨rfl, agree_need (mk := impl_LaterOrbit_mk) (t := impl_LaterOrbit_tree (⟨a0_0, a0_1, a0_2, a0_3, a0_4, a0_5⟩ : Orbit) a1 a2) (by unfold Agree; kernel_rfl)⟩
  · cases h

/-- loop.example/g01284/impl.behind -/
def impl_behind_tree (a0 : Nat) : DT (Nat) :=
  let x0 := math_Trunc a0;
  let x1 := fadd .f64 x0 0;
  let x2 := fsub .f64 a0 x1;
  let x3 := flt .f64 x2 0;
  .ask x3
  (
   let x4 := fadd .f64 x2 4607182418800017408;
   .leaf x4)
  (
   .leaf x2)
def impl_behind (a0 : Nat) : Nat := (impl_behind_tree a0).val
def impl_behind_mk (p : Nat) : Ret := ⟨.flt .f64 p, []⟩
def impl_behind_c : Con := fun args => match args with
  | [.flt .f64 a0] => some (.leaf (impl_behind_mk (impl_behind a0)))
  | _ => none
set_option maxRecDepth 100000 in
theorem impl_behind_ok : FunOK Tryz.prog 130 impl_behind_c.fn := by
  refine con_ok (Γ := gam [(133, math_Trunc_c)]) (gam_cons math_Trunc_ok (gam_nil)) tab_ok (by kernel_rfl) Tryz.func130 (by kernel_rfl) (by kernel_rfl) Tryz.ntmps130 Tryz.results130 (loopsOK_none rfl _) 100000 fun args t h => ?_
  unfold impl_behind_c at h
  split at h
  · rename_i a0
    cases h
    exact ⟨rfl, agree_tot (mk := impl_behind_mk) (t := impl_behind_tree a0) (by unfold Agree; kernel_rfl) (by kernel_rfl)⟩
  · cases h

/-- loop.example/g01284/impl.sine -/
def impl_sine_tree (a0 : Nat) : DT (Nat) :=
  let x0 := impl_behind a0;
  let x1 := fge .f64 x0 4602678819172646912;
  .ask x1
  (
   let x2 := fsub .f64 x0 4602678819172646912;
   let x3 := fgt .f64 x2 4598175219545276416;
   .ask x3
   (
    let x4 := fsub .f64 4602678819172646912 x2;
    let x5 := fmul .f64 x4 4618760256179416344;
    let x6 := fmul .f64 x5 x5;
    .skip (
    let x7 := fmul .f64 x6 4607182418800017408;
    let x8 := fofInt .f64 272;
    let x9 := fdiv .f64 x7 x8;
    let x10 := fsub .f64 4607182418800017408 x9;
    .skip (
    let x11 := fmul .f64 x6 x10;
    let x12 := fofInt .f64 210;
    let x13 := fdiv .f64 x11 x12;
    let x14 := fsub .f64 4607182418800017408 x13;
    .skip (
    let x15 := fmul .f64 x6 x14;
    let x16 := fofInt .f64 156;
    let x17 := fdiv .f64 x15 x16;
    let x18 := fsub .f64 4607182418800017408 x17;
    .skip (
    let x19 := fmul .f64 x6 x18;
    let x20 := fofInt .f64 110;
    let x21 := fdiv .f64 x19 x20;
    let x22 := fsub .f64 4607182418800017408 x21;
    .skip (
    let x23 := fmul .f64 x6 x22;
    let x24 := fofInt .f64 72;
    let x25 := fdiv .f64 x23 x24;
    let x26 := fsub .f64 4607182418800017408 x25;
    .skip (
    let x27 := fmul .f64 x6 x26;
    let x28 := fofInt .f64 42;
    let x29 := fdiv .f64 x27 x28;
    let x30 := fsub .f64 4607182418800017408 x29;
    .skip (
    let x31 := fmul .f64 x6 x30;
    let x32 := fofInt .f64 20;
    let x33 := fdiv .f64 x31 x32;
    let x34 := fsub .f64 4607182418800017408 x33;
    .skip (
    let x35 := fmul .f64 x6 x34;
    let x36 := fofInt .f64 6;
    let x37 := fdiv .f64 x35 x36;
    let x38 := fsub .f64 4607182418800017408 x37;
    .skip (
    let x39 := fmul .f64 x5 x38;
    let x40 := fneg .f64 x39;
    .leaf x40))))))))))
   (
    let x4 := fmul .f64 x2 4618760256179416344;
    let x5 := fmul .f64 x4 x4;
    .skip (
    let x6 := fmul .f64 x5 4607182418800017408;
    let x7 := fofInt .f64 272;
    let x8 := fdiv .f64 x6 x7;
    let x9 := fsub .f64 4607182418800017408 x8;
    .skip (
    let x10 := fmul .f64 x5 x9;
    let x11 := fofInt .f64 210;
    let x12 := fdiv .f64 x10 x11;
    let x13 := fsub .f64 4607182418800017408 x12;
    .skip (
    let x14 := fmul .f64 x5 x13;
    let x15 := fofInt .f64 156;
    let x16 := fdiv .f64 x14 x15;
    let x17 := fsub .f64 4607182418800017408 x16;
    .skip (
    let x18 := fmul .f64 x5 x17;
    let x19 := fofInt .f64 110;
    let x20 := fdiv .f64 x18 x19;
    let x21 := fsub .f64 4607182418800017408 x20;
    .skip (
    let x22 := fmul .f64 x5 x21;
    let x23 := fofInt .f64 72;
    let x24 := fdiv .f64 x22 x23;
    let x25 := fsub .f64 4607182418800017408 x24;
    .skip (
    let x26 := fmul .f64 x5 x25;
    let x27 := fofInt .f64 42;
    let x28 := fdiv .f64 x26 x27;
    let x29 := fsub .f64 4607182418800017408 x28;
    .skip (
    let x30 := fmul .f64 x5 x29;
    let x31 := fofInt .f64 20;
    let x32 := fdiv .f64 x30 x31;
    let x33 := fsub .f64 4607182418800017408 x32;
    .skip (
    let x34 := fmul .f64 x5 x33;
    let x35 := fofInt .f64 6;
    let x36 := fdiv .f64 x34 x35;
    let x37 := fsub .f64 4607182418800017408 x36;
    .skip (
    let x38 := fmul .f64 x4 x37;
    let x39 := fneg .f64 x38;
    .leaf x39)))))))))))
  (
   let x2 := fgt .f64 x0 4598175219545276416;
   .ask x2
   (
    let x3 := fsub .f64 4602678819172646912 x0;
    let x4 := fmul .f64 x3 4618760256179416344;
    let x5 := fmul .f64 x4 x4;
    .skip (
    let x6 := fmul .f64 x5 4607182418800017408;
    let x7 := fofInt .f64 272;
    let x8 := fdiv .f64 x6 x7;
    let x9 := fsub .f64 4607182418800017408 x8;
    .skip (
    let x10 := fmul .f64 x5 x9;
    let x11 := fofInt .f64 210;
    let x12 := fdiv .f64 x10 x11;
    let x13 := fsub .f64 4607182418800017408 x12;
    .skip (
    let x14 := fmul .f64 x5 x13;
    let x15 := fofInt .f64 156;
    let x16 := fdiv .f64 x14 x15;
    let x17 := fsub .f64 4607182418800017408 x16;
    .skip (
    let x18 := fmul .f64 x5 x17;
    let x19 := fofInt .f64 110;
    let x20 := fdiv .f64 x18 x19;
    let x21 := fsub .f64 4607182418800017408 x20;
    .skip (
    let x22 := fmul .f64 x5 x21;
    let x23 := fofInt .f64 72;
    let x24 := fdiv .f64 x22 x23;
    let x25 := fsub .f64 4607182418800017408 x24;
    .skip (
    let x26 := fmul .f64 x5 x25;
    let x27 := fofInt .f64 42;
    let x28 := fdiv .f64 x26 x27;
    let x29 := fsub .f64 4607182418800017408 x28;
    .skip (
    let x30 := fmul .f64 x5 x29;
    let x31 := fofInt .f64 20;
    let x32 := fdiv .f64 x30 x31;
    let x33 := fsub .f64 4607182418800017408 x32;
    .skip (
    let x34 := fmul .f64 x5 x33;
    let x35 := fofInt .f64 6;
    let x36 := fdiv .f64 x34 x35;
    let x37 := fsub .f64 4607182418800017408 x36;
    .skip (
    let x38 := fmul .f64 x4 x37;
    .leaf x38))))))))))
   (
    let x3 := fmul .f64 x0 4618760256179416344;
    let x4 := fmul .f64 x3 x3;
    .skip (
    let x5 := fmul .f64 x4 4607182418800017408;
    let x6 := fofInt .f64 272;
    let x7 := fdiv .f64 x5 x6;
    let x8 := fsub .f64 4607182418800017408 x7;
    .skip (
    let x9 := fmul .f64 x4 x8;
    let x10 := fofInt .f64 210;
    let x11 := fdiv .f64 x9 x10;
    let x12 := fsub .f64 4607182418800017408 x11;
    .skip (
    let x13 := fmul .f64 x4 x12;
    let x14 := fofInt .f64 156;
    let x15 := fdiv .f64 x13 x14;
    let x16 := fsub .f64 4607182418800017408 x15;
    .skip (
    let x17 := fmul .f64 x4 x16;
    let x18 := fofInt .f64 110;
    let x19 := fdiv .f64 x17 x18;
    let x20 := fsub .f64 4607182418800017408 x19;
    .skip (
    let x21 := fmul .f64 x4 x20;
    let x22 := fofInt .f64 72;
    let x23 := fdiv .f64 x21 x22;
    let x24 := fsub .f64 4607182418800017408 x23;
    .skip (
    let x25 := fmul .f64 x4 x24;
    let x26 := fofInt .f64 42;
    let x27 := fdiv .f64 x25 x26;
    let x28 := fsub .f64 4607182418800017408 x27;
    .skip (
    let x29 := fmul .f64 x4 x28;
    let x30 := fofInt .f64 20;
    let x31 := fdiv .f64 x29 x30;
    let x32 := fsub .f64 4607182418800017408 x31;
    .skip (
    let x33 := fmul .f64 x4 x32;
    let x34 := fofInt .f64 6;
    let x35 := fdiv .f64 x33 x34;
    let x36 := fsub .f64 4607182418800017408 x35;
    .skip (
    let x37 := fmul .f64 x3 x36;
    .leaf x37)))))))))))
def impl_sine (a0 : Nat) : Nat := (impl_sine_tree a0).val
def impl_sine_mk (p : Nat) : Ret := ⟨.flt .f64 p, []⟩
def impl_sine_c : Con := fun args => match args with
  | [.flt .f64 a0] => some (.leaf (impl_sine_mk (impl_sine a0)))
  | _ => none
set_option maxRecDepth 100000 in
theorem impl_sine_ok : FunOK Tryz.prog 119 impl_sine_c.fn := by
  refine con_ok (Γ := gam [(130, impl_behind_c)]) (gam_cons impl_behind_ok (gam_nil)) tab_ok (by kernel_rfl) Tryz.func119 (by kernel_rfl) (by kernel_rfl) Tryz.ntmps119 Tryz.results119 (loopsOK_none rfl _) 100000 fun args t h => ?_
  unfold impl_sine_c at h
  split at h
  · rename_i a0
    cases h
    exact ⟨rfl, agree_tot (mk := impl_sine_mk) (t := impl_sine_tree a0) (by unfold Agree; kernel_rfl) (by kernel_rfl)⟩
  · cases h

/-- loop.example/g01284/impl.phaseOfSwing -/
def impl_phaseOfSwing_tree (a0 : Nat) (a1 : Nat) : DT (Nat) :=
  let x0 := impl_sine a1;
  let x1 := fmul .f64 a0 x0;
  let x2 := fdiv .f64 x1 4618760256179416344;
  let x3 := fsub .f64 a1 x2;
  .leaf x3
def impl_phaseOfSwing (a0 : Nat) (a1 : Nat) : Nat := (impl_phaseOfSwing_tree a0 a1).val
def impl_phaseOfSwing_mk (p : Nat) : Ret := ⟨.flt .f64 p, []⟩
def impl_phaseOfSwing_c : Con := fun args => match args with
  | [.flt .f64 a0, .flt .f64 a1] => some (.leaf (impl_phaseOfSwing_mk (impl_phaseOfSwing a0 a1)))
  | _ => none
set_option maxRecDepth 100000 in
theorem impl_phaseOfSwing_ok : FunOK Tryz.prog 129 impl_phaseOfSwing_c.fn := by
  refine con_ok (Γ := gam [(119, impl_sine_c)]) (gam_cons impl_sine_ok (gam_nil)) tab_ok (by kernel_rfl) Tryz.func129 (by kernel_rfl) (by kernel_rfl) Tryz.ntmps129 Tryz.results129 (loopsOK_none rfl _) 100000 fun args t h => ?_
  unfold impl_phaseOfSwing_c at h
  split at h
  · rename_i a0 a1
    cases h
    exact ⟨rfl, agree_tot (mk := impl_phaseOfSwing_mk) (t := impl_phaseOfSwing_tree a0 a1) (by unfold Agree; kernel_rfl) (by kernel_rfl)⟩
  · cases h

/-- a loop of impl_swing -/
def impl_swing_loop0_step (p : Nat × Nat) (s : Nat × Nat × Int) : Round (Nat × Nat × Int) (Nat) :=
  let x0 := decide (s.2.2 < 50);
  .ask x0
  (
   let x1 := fadd .f64 s.1 s.2.1;
   let x2 := fdiv .f64 x1 4611686018427387904;
   let x3 := impl_phaseOfSwing p.1 x2;
   let x4 := fgt .f64 x3 p.2;
   .ask x4
   (
    let x5 := IntKind.wrap .i64 (s.2.2 + 1);
    .leaf (.inl (s.1, x2, x5), []))
   (
    let x5 := IntKind.wrap .i64 (s.2.2 + 1);
    .leaf (.inl (x2, s.2.1, x5), [])))
  (
   .leaf (.inr s.1, []))
def impl_swing_loop0_L (p : Nat × Nat) : LoopS (Nat × Nat × Int) (Nat) := { tl := fun s => [.flt .f64 p.1, .junk, .junk, .junk, .junk, .flt .f64 p.2, .flt .f64 s.1, .flt .f64 s.2.1, .junk, .junk, .junk, .int .i64 s.2.2], hl := fun s => [], ex := fun r => .exit 0, otl := fun r => [.junk, .junk, .junk, .junk, .junk, .junk, .flt .f64 r], ohl := fun r => [] }
def impl_swing_loop0_ext : St → Option ((Nat × Nat) × (Nat × Nat × Int) × List Nat) := fun S => match (S.tm 0).unK, (S.tm 5).unK, (S.tm 6).unK, (S.tm 7).unK, (S.tm 11).unK with
  | .flt .f64 q0, .flt .f64 q1, .flt .f64 q2, .flt .f64 q3, .int .i64 q4 => some ((q0, q1), (q2, q3, q4), [])
  | _, _, _, _, _ => none
def impl_swing_loop0_post (p : Nat × Nat) (r : Nat) : DT (Ex × St) := .leaf (.exit 0, LSt [.junk, .junk, .junk, .junk, .junk, .junk, .flt .f64 r] [])
def impl_swing_loop0 (p : Nat × Nat) (s : Nat × Nat × Int) : Nat := loopVal (impl_swing_loop0_step p) s
def impl_swing_loop0_ends (p : Nat × Nat) (s : Nat × Nat × Int) : Bool := loopEnds (impl_swing_loop0_step p) s
def impl_swing_loop0_F : LoopF := loopF impl_swing_loop0_step impl_swing_loop0_ext impl_swing_loop0_post
set_option maxRecDepth 100000 in
theorem impl_swing_loop0_hext : ∀ S p s fl, impl_swing_loop0_ext S = some (p, s, fl) → Norm S fl ((impl_swing_loop0_L p).tl s) ((impl_swing_loop0_L p).hl s) (impl_swing_loop0_L p).gl := by
  intro S p s fl h
  unfold impl_swing_loop0_ext at h
  (repeat' split at h) <;> first
    | (cases h; constructor <;> simp_all [impl_swing_loop0_L, keepT, keepH, rens, renH, PV.ren, Blk.ren, fOf, lget, nodup, natIn, lenEq, gtm, PV.unK])
    | cases h
set_option maxRecDepth 100000 in
theorem impl_swing_loop0_hpost : ∀ p r e S', (impl_swing_loop0_post p r).get = some (e, S') → e = (impl_swing_loop0_L p).ex r ∧ S' = LSt ((impl_swing_loop0_L p).otl r) ((impl_swing_loop0_L p).ohl r) ((impl_swing_loop0_L p).ogl r) := by
  intro p r e S' h
  unfold impl_swing_loop0_post at h
  simp only [DT.get, Option.some.injEq, Prod.mk.injEq] at h; exact ⟨h.1.symm, h.2.symm⟩

def impl_swing_loops : Nat → Option LoopF := loopTab [(3, impl_swing_loop0_F)]
set_option maxRecDepth 100000 in
theorem impl_swing_l0 : LoopOK Tryz.prog ⟨gam [(60, impl_wrap_c), (129, impl_phaseOfSwing_c)], tab, 26, impl_swing_loops⟩ (lp Tryz.f118 0) :=
  loopOK_some (F := impl_swing_loop0_F) (by kernel_rfl) (loopF_ok (E := ⟨gam [(60, impl_wrap_c), (129, impl_phaseOfSwing_c)], tab, 26, impl_swing_loops⟩) ⟨gam_cons impl_wrap_ok (gam_cons impl_phaseOfSwing_ok (gam_nil)), tab_ok, by kernel_rfl⟩ (fuel := 100000) (loopsOK_list (l := []) (by kernel_rfl) trivial) (L := impl_swing_loop0_L) (fun p s => by unfold AgreeL; exact ⟨by kernel_rfl, by kernel_rfl⟩) (fun _ _ h => Ex.noConfusion h) impl_swing_loop0_hext impl_swing_loop0_hpost)
/-- loop.example/g01284/impl.swing -/
def impl_swing_tree (a0 : Nat) (a1 : Nat) : DT (Nat) :=
  let x0 := impl_wrap a1;
  .need ((impl_swing_loop0_ends (a0, x0) (0, 4607182418800017408, 0))) (
  let x1 := impl_swing_loop0 (a0, x0) (0, 4607182418800017408, 0);
  .leaf x1)
def impl_swing (a0 : Nat) (a1 : Nat) : Nat := (impl_swing_tree a0 a1).val
def impl_swing_need (a0 : Nat) (a1 : Nat) : Bool := (impl_swing_tree a0 a1).ok
def impl_swing_mk (p : Nat) : Ret := ⟨.flt .f64 p, []⟩
def impl_swing_c : Con := fun args => match args with
  | [.flt .f64 a0, .flt .f64 a1] => some (.need (impl_swing_need a0 a1) (.leaf (impl_swing_mk (impl_swing a0 a1))))
  | _ => none
set_option maxRecDepth 100000 in
theorem impl_swing_ok : FunOK Tryz.prog 118 impl_swing_c.fn := by
  refine con_ok (Γ := gam [(60, impl_wrap_c), (129, impl_phaseOfSwing_c)]) (gam_cons impl_wrap_ok (gam_cons impl_phaseOfSwing_ok (gam_nil))) tab_ok (by kernel_rfl) Tryz.func118 (by kernel_rfl) (by kernel_rfl) Tryz.ntmps118 Tryz.results118 (loops := impl_swing_loops) (loopsOK_list (l := [lp Tryz.f118 0]) (by kernel_rfl) ⟨impl_swing_l0, trivial⟩) 100000 fun args t h => ?_
  unfold impl_swing_c at h
  split at h
  · rename_i a0 a1
    cases h
    exact ⟨rfl, agree_need (mk := impl_swing_mk) (t := impl_swing_tree a0 a1) (by unfold Agree; kernel_rfl)⟩
  · cases h

/-- loop.example/g01284/impl.cosine -/
def impl_cosine_tree (a0 : Nat) : DT (Nat) :=
  let x0 := fadd .f64 a0 4598175219545276416;
  let x1 := impl_sine x0;
  .leaf x1
def impl_cosine (a0 : Nat) : Nat := (impl_cosine_tree a0).val
def impl_cosine_mk (p : Nat) : Ret := ⟨.flt .f64 p, []⟩
def impl_cosine_c : Con := fun args => match args with
  | [.flt .f64 a0] => some (.leaf (impl_cosine_mk (impl_cosine a0)))
  | _ => none
set_option maxRecDepth 100000 in
theorem impl_cosine_ok : FunOK Tryz.prog 120 impl_cosine_c.fn := by
  refine con_ok (Γ := gam [(119, impl_sine_c)]) (gam_cons impl_sine_ok (gam_nil)) tab_ok (by kernel_rfl) Tryz.func120 (by kernel_rfl) (by kernel_rfl) Tryz.ntmps120 Tryz.results120 (loopsOK_none rfl _) 100000 fun args t h => ?_
  unfold impl_cosine_c at h
  split at h
  · rename_i a0
    cases h
    exact ⟨rfl, agree_tot (mk := impl_cosine_mk) (t := impl_cosine_tree a0) (by unfold Agree; kernel_rfl) (by kernel_rfl)⟩
  · cases h

/-- math.Inf -/
def math_Inf_tree (a0 : Int) : DT (Nat) :=
  let x0 := decide (a0 ≥ 0);
  .ask x0
  (
   let x1 := canon .f64 (Int.toNat 9218868437227405312);
   .leaf x1)
  (
   let x1 := canon .f64 (Int.toNat 18442240474082181120);
   .leaf x1)
def math_Inf (a0 : Int) : Nat := (math_Inf_tree a0).val
def math_Inf_mk (p : Nat) : Ret := ⟨.flt .f64 p, []⟩
def math_Inf_c : Con := fun args => match args with
  | [.int .i64 a0] => some (.leaf (math_Inf_mk (math_Inf a0)))
  | _ => none
set_option maxRecDepth 100000 in
theorem math_Inf_ok : FunOK Tryz.prog 132 math_Inf_c.fn := by
  refine con_ok (Γ := gam [(97, math_Float64frombits_c)]) (gam_cons math_Float64frombits_ok (gam_nil)) tab_ok (by kernel_rfl) Tryz.func132 (by kernel_rfl) (by kernel_rfl) Tryz.ntmps132 Tryz.results132 (loopsOK_none rfl _) 100000 fun args t h => ?_
  unfold math_Inf_c at h
  split at h
  · rename_i a0
    cases h
    exact ⟨rfl, agree_tot (mk := math_Inf_mk) (t := math_Inf_tree a0) (by unfold Agree; kernel_rfl) (by kernel_rfl)⟩
  · cases h

/-- loop.example/g01284/impl.exponential -/
def impl_exponential_tree (a0 : Nat) : DT (Nat) :=
  let x0 := fgt .f64 a0 4641240890982006784;
  .ask x0
  (
   let x1 := math_Inf 1;
   .leaf x1)
  (
   let x1 := flt .f64 a0 13864612927836782592;
   .ask x1
   (
    .leaf 0)
   (
    let x2 := fdiv .f64 a0 4643211215818981376;
    .skip (
    let x3 := fmul .f64 x2 4607182418800017408;
    let x4 := fofInt .f64 12;
    let x5 := fdiv .f64 x3 x4;
    let x6 := fadd .f64 4607182418800017408 x5;
    .skip (
    let x7 := fmul .f64 x2 x6;
    let x8 := fofInt .f64 11;
    let x9 := fdiv .f64 x7 x8;
    let x10 := fadd .f64 4607182418800017408 x9;
    .skip (
    let x11 := fmul .f64 x2 x10;
    let x12 := fofInt .f64 10;
    let x13 := fdiv .f64 x11 x12;
    let x14 := fadd .f64 4607182418800017408 x13;
    .skip (
    let x15 := fmul .f64 x2 x14;
    let x16 := fofInt .f64 9;
    let x17 := fdiv .f64 x15 x16;
    let x18 := fadd .f64 4607182418800017408 x17;
    .skip (
    let x19 := fmul .f64 x2 x18;
    let x20 := fofInt .f64 8;
    let x21 := fdiv .f64 x19 x20;
    let x22 := fadd .f64 4607182418800017408 x21;
    .skip (
    let x23 := fmul .f64 x2 x22;
    let x24 := fofInt .f64 7;
    let x25 := fdiv .f64 x23 x24;
    let x26 := fadd .f64 4607182418800017408 x25;
    .skip (
    let x27 := fmul .f64 x2 x26;
    let x28 := fofInt .f64 6;
    let x29 := fdiv .f64 x27 x28;
    let x30 := fadd .f64 4607182418800017408 x29;
    .skip (
    let x31 := fmul .f64 x2 x30;
    let x32 := fofInt .f64 5;
    let x33 := fdiv .f64 x31 x32;
    let x34 := fadd .f64 4607182418800017408 x33;
    .skip (
    let x35 := fmul .f64 x2 x34;
    let x36 := fofInt .f64 4;
    let x37 := fdiv .f64 x35 x36;
    let x38 := fadd .f64 4607182418800017408 x37;
    .skip (
    let x39 := fmul .f64 x2 x38;
    let x40 := fofInt .f64 3;
    let x41 := fdiv .f64 x39 x40;
    let x42 := fadd .f64 4607182418800017408 x41;
    .skip (
    let x43 := fmul .f64 x2 x42;
    let x44 := fofInt .f64 2;
    let x45 := fdiv .f64 x43 x44;
    let x46 := fadd .f64 4607182418800017408 x45;
    .skip (
    let x47 := fmul .f64 x2 x46;
    let x48 := fofInt .f64 1;
    let x49 := fdiv .f64 x47 x48;
    let x50 := fadd .f64 4607182418800017408 x49;
    .skip (
    .skip (
    let x51 := fmul .f64 x50 x50;
    .skip (
    let x52 := fmul .f64 x51 x51;
    .skip (
    let x53 := fmul .f64 x52 x52;
    .skip (
    let x54 := fmul .f64 x53 x53;
    .skip (
    let x55 := fmul .f64 x54 x54;
    .skip (
    let x56 := fmul .f64 x55 x55;
    .skip (
    let x57 := fmul .f64 x56 x56;
    .skip (
    let x58 := fmul .f64 x57 x57;
    .skip (
    .leaf x58))))))))))))))))))))))))
def impl_exponential (a0 : Nat) : Nat := (impl_exponential_tree a0).val
def impl_exponential_mk (p : Nat) : Ret := ⟨.flt .f64 p, []⟩
def impl_exponential_c : Con := fun args => match args with
  | [.flt .f64 a0] => some (.leaf (impl_exponential_mk (impl_exponential a0)))
  | _ => none
set_option maxRecDepth 100000 in
theorem impl_exponential_ok : FunOK Tryz.prog 131 impl_exponential_c.fn := by
  refine con_ok (Γ := gam [(132, math_Inf_c)]) (gam_cons math_Inf_ok (gam_nil)) tab_ok (by kernel_rfl) Tryz.func131 (by kernel_rfl) (by kernel_rfl) Tryz.ntmps131 Tryz.results131 (loopsOK_none rfl _) 100000 fun args t h => ?_
  unfold impl_exponential_c at h
  split at h
  · rename_i a0
    cases h
    exact ⟨rfl, agree_tot (mk := impl_exponential_mk) (t := impl_exponential_tree a0) (by unfold Agree; kernel_rfl) (by kernel_rfl)⟩
  · cases h

/-- loop.example/g01284/impl.halfDifference -/
def impl_halfDifference_tree (a0 : Nat) : DT (Nat) :=
  let x0 := impl_exponential a0;
  let x1 := fneg .f64 a0;
  let x2 := impl_exponential x1;
  let x3 := fsub .f64 x0 x2;
  let x4 := fdiv .f64 x3 4611686018427387904;
  .leaf x4
def impl_halfDifference (a0 : Nat) : Nat := (impl_halfDifference_tree a0).val
def impl_halfDifference_mk (p : Nat) : Ret := ⟨.flt .f64 p, []⟩
def impl_halfDifference_c : Con := fun args => match args with
  | [.flt .f64 a0] => some (.leaf (impl_halfDifference_mk (impl_halfDifference a0)))
  | _ => none
set_option maxRecDepth 100000 in
theorem impl_halfDifference_ok : FunOK Tryz.prog 122 impl_halfDifference_c.fn := by
  refine con_ok (Γ := gam [(131, impl_exponential_c)]) (gam_cons impl_exponential_ok (gam_nil)) tab_ok (by kernel_rfl) Tryz.func122 (by kernel_rfl) (by kernel_rfl) Tryz.ntmps122 Tryz.results122 (loopsOK_none rfl _) 100000 fun args t h => ?_
  unfold impl_halfDifference_c at h
  split at h
  · rename_i a0
    cases h
    exact ⟨rfl, agree_tot (mk := impl_halfDifference_mk) (t := impl_halfDifference_tree a0) (by unfold Agree; kernel_rfl) (by kernel_rfl)⟩
  · cases h

/-- a loop of impl_lean -/
def impl_lean_loop0_step (p : Nat × Nat) (s : Nat × Nat × Int) : Round (Nat × Nat × Int) (Nat) :=
  let x0 := decide (s.2.2 < 60);
  .ask x0
  (
   let x1 := fadd .f64 s.1 s.2.1;
   let x2 := fdiv .f64 x1 4611686018427387904;
   let x3 := impl_halfDifference x2;
   let x4 := fmul .f64 p.1 x3;
   let x5 := fsub .f64 x4 x2;
   let x6 := fgt .f64 x5 p.2;
   .ask x6
   (
    let x7 := IntKind.wrap .i64 (s.2.2 + 1);
    .leaf (.inl (s.1, x2, x7), []))
   (
    let x7 := IntKind.wrap .i64 (s.2.2 + 1);
    .leaf (.inl (x2, s.2.1, x7), [])))
  (
   .leaf (.inr s.1, []))
def impl_lean_loop0_L (p : Nat × Nat) : LoopS (Nat × Nat × Int) (Nat) := { tl := fun s => [.flt .f64 p.1, .junk, .junk, .junk, .junk, .flt .f64 p.2, .flt .f64 s.1, .flt .f64 s.2.1, .junk, .junk, .junk, .int .i64 s.2.2], hl := fun s => [], ex := fun r => .exit 0, otl := fun r => [.junk, .junk, .junk, .junk, .junk, .junk, .flt .f64 r], ohl := fun r => [] }
def impl_lean_loop0_ext : St → Option ((Nat × Nat) × (Nat × Nat × Int) × List Nat) := fun S => match (S.tm 0).unK, (S.tm 5).unK, (S.tm 6).unK, (S.tm 7).unK, (S.tm 11).unK with
  | .flt .f64 q0, .flt .f64 q1, .flt .f64 q2, .flt .f64 q3, .int .i64 q4 => some ((q0, q1), (q2, q3, q4), [])
  | _, _, _, _, _ => none
def impl_lean_loop0_post (p : Nat × Nat) (r : Nat) : DT (Ex × St) := .leaf (.exit 0, LSt [.junk, .junk, .junk, .junk, .junk, .junk, .flt .f64 r] [])
def impl_lean_loop0 (p : Nat × Nat) (s : Nat × Nat × Int) : Nat := loopVal (impl_lean_loop0_step p) s
def impl_lean_loop0_ends (p : Nat × Nat) (s : Nat × Nat × Int) : Bool := loopEnds (impl_lean_loop0_step p) s
def impl_lean_loop0_F : LoopF := loopF impl_lean_loop0_step impl_lean_loop0_ext impl_lean_loop0_post
set_option maxRecDepth 100000 in
theorem impl_lean_loop0_hext : ∀ S p s fl, impl_lean_loop0_ext S = some (p, s, fl) → Norm S fl ((impl_lean_loop0_L p).tl s) ((impl_lean_loop0_L p).hl s) (impl_lean_loop0_L p).gl := by
  intro S p s fl h
  unfold impl_lean_loop0_ext at h
  (repeat' split at h) <;> first
    | (cases h; constructor <;> simp_all [impl_lean_loop0_L, keepT, keepH, rens, renH, PV.ren, Blk.ren, fOf, lget, nodup, natIn, lenEq, gtm, PV.unK])
    | cases h
set_option maxRecDepth 100000 in
theorem impl_lean_loop0_hpost : ∀ p r e S', (impl_lean_loop0_post p r).get = some (e, S') → e = (impl_lean_loop0_L p).ex r ∧ S' = LSt ((impl_lean_loop0_L p).otl r) ((impl_lean_loop0_L p).ohl r) ((impl_lean_loop0_L p).ogl r) := by
  intro p r e S' h
  unfold impl_lean_loop0_post at h
  simp only [DT.get, Option.some.injEq, Prod.mk.injEq] at h; exact ⟨h.1.symm, h.2.symm⟩

def impl_lean_loops : Nat → Option LoopF := loopTab [(3, impl_lean_loop0_F)]
set_option maxRecDepth 100000 in
theorem impl_lean_l0 : LoopOK Tryz.prog ⟨gam [(122, impl_halfDifference_c)], tab, 29, impl_lean_loops⟩ (lp Tryz.f121 0) :=
  loopOK_some (F := impl_lean_loop0_F) (by kernel_rfl) (loopF_ok (E := ⟨gam [(122, impl_halfDifference_c)], tab, 29, impl_lean_loops⟩) ⟨gam_cons impl_halfDifference_ok (gam_nil), tab_ok, by kernel_rfl⟩ (fuel := 100000) (loopsOK_list (l := []) (by kernel_rfl) trivial) (L := impl_lean_loop0_L) (fun p s => by unfold AgreeL; exact ⟨by kernel_rfl, by kernel_rfl⟩) (fun _ _ h => Ex.noConfusion h) impl_lean_loop0_hext impl_lean_loop0_hpost)
/-- loop.example/g01284/impl.lean -/
def impl_lean_tree (a0 : Nat) (a1 : Nat) : DT (Nat) :=
  let x0 := fmul .f64 4618760256179416344 a1;
  .need ((impl_lean_loop0_ends (a0, x0) (13845191154443747328, 4621819117588971520, 0))) (
  let x1 := impl_lean_loop0 (a0, x0) (13845191154443747328, 4621819117588971520, 0);
  .leaf x1)
def impl_lean (a0 : Nat) (a1 : Nat) : Nat := (impl_lean_tree a0 a1).val
def impl_lean_need (a0 : Nat) (a1 : Nat) : Bool := (impl_lean_tree a0 a1).ok
def impl_lean_mk (p : Nat) : Ret := ⟨.flt .f64 p, []⟩
def impl_lean_c : Con := fun args => match args with
  | [.flt .f64 a0, .flt .f64 a1] => some (.need (impl_lean_need a0 a1) (.leaf (impl_lean_mk (impl_lean a0 a1))))
  | _ => none
set_option maxRecDepth 100000 in
theorem impl_lean_ok : FunOK Tryz.prog 121 impl_lean_c.fn := by
  refine con_ok (Γ := gam [(122, impl_halfDifference_c)]) (gam_cons impl_halfDifference_ok (gam_nil)) tab_ok (by kernel_rfl) Tryz.func121 (by kernel_rfl) (by kernel_rfl) Tryz.ntmps121 Tryz.results121 (loops := impl_lean_loops) (loopsOK_list (l := [lp Tryz.f121 0]) (by kernel_rfl) ⟨impl_lean_l0, trivial⟩) 100000 fun args t h => ?_
  unfold impl_lean_c at h
  split at h
  · rename_i a0 a1
    cases h
    exact ⟨rfl, agree_need (mk := impl_lean_mk) (t := impl_lean_tree a0 a1) (by unfold Agree; kernel_rfl)⟩
  · cases h

/-- loop.example/g01284/impl.halfSum -/
def impl_halfSum_tree (a0 : Nat) : DT (Nat) :=
  let x0 := impl_exponential a0;
  let x1 := fneg .f64 a0;
  let x2 := impl_exponential x1;
  let x3 := fadd .f64 x0 x2;
  let x4 := fdiv .f64 x3 4611686018427387904;
  .leaf x4
def impl_halfSum (a0 : Nat) : Nat := (impl_halfSum_tree a0).val
def impl_halfSum_mk (p : Nat) : Ret := ⟨.flt .f64 p, []⟩
def impl_halfSum_c : Con := fun args => match args with
  | [.flt .f64 a0] => some (.leaf (impl_halfSum_mk (impl_halfSum a0)))
  | _ => none
set_option maxRecDepth 100000 in
theorem impl_halfSum_ok : FunOK Tryz.prog 123 impl_halfSum_c.fn := by
  refine con_ok (Γ := gam [(131, impl_exponential_c)]) (gam_cons impl_exponential_ok (gam_nil)) tab_ok (by kernel_rfl) Tryz.func123 (by kernel_rfl) (by kernel_rfl) Tryz.ntmps123 Tryz.results123 (loopsOK_none rfl _) 100000 fun args t h => ?_
  unfold impl_halfSum_c at h
  split at h
  · rename_i a0
    cases h
    exact ⟨rfl, agree_tot (mk := impl_halfSum_mk) (t := impl_halfSum_tree a0) (by unfold Agree; kernel_rfl) (by kernel_rfl)⟩
  · cases h

/-- (loop.example/g01284/impl.Orbit).plane -/
def impl_Orbit_plane_tree (a0 : Orbit) (a1 : Nat) : DT (Nat × Nat × Nat × Nat) :=
  .need ((fconvOk .f32 a0.Round .f64)) (
  let x0 := fconv .f32 a0.Round .f64;
  .need ((fconvOk .f32 a0.Long .f64)) (
  let x1 := fconv .f32 a0.Long .f64;
  let x2 := math_Abs x1;
  .need ((impl_Orbit_rate_need (⟨a0.Long, a0.Round, a0.Tilt, a0.Node, a0.Peri, a0.Phase⟩ : Orbit) a1)) (
  let x3 := impl_Orbit_rate (⟨a0.Long, a0.Round, a0.Tilt, a0.Node, a0.Peri, a0.Phase⟩ : Orbit) a1;
  let x4 := fgt .f32 a0.Long 0;
  .ask x4
  (
   .need ((fconvOk .f32 a0.Phase .f64)) (
   let x5 := fconv .f32 a0.Phase .f64;
   .need ((impl_swing_need x0 x5)) (
   let x6 := impl_swing x0 x5;
   let x7 := impl_sine x6;
   let x8 := impl_cosine x6;
   let x9 := fmul .f64 x0 x8;
   let x10 := fsub .f64 4607182418800017408 x9;
   let x11 := fmul .f64 x0 x0;
   let x12 := fsub .f64 4607182418800017408 x11;
   let x13 := math_Sqrt x12;
   let x14 := fsub .f64 x8 x0;
   let x15 := fmul .f64 x2 x14;
   let x16 := fmul .f64 x2 x3;
   let x17 := fmul .f64 x2 x13;
   let x18 := fmul .f64 x17 x7;
   let x19 := fmul .f64 x16 x7;
   let x20 := fdiv .f64 x19 x10;
   let x21 := fneg .f64 x20;
   let x22 := fmul .f64 x16 x13;
   let x23 := fmul .f64 x22 x8;
   let x24 := fdiv .f64 x23 x10;
   .leaf (x15, x18, x21, x24))))
  (
   .need ((fconvOk .f32 a0.Phase .f64)) (
   let x5 := fconv .f32 a0.Phase .f64;
   .need ((impl_lean_need x0 x5)) (
   let x6 := impl_lean x0 x5;
   let x7 := impl_halfDifference x6;
   let x8 := impl_halfSum x6;
   let x9 := fmul .f64 x0 x8;
   let x10 := fsub .f64 x9 4607182418800017408;
   let x11 := fmul .f64 x0 x0;
   let x12 := fsub .f64 x11 4607182418800017408;
   let x13 := math_Sqrt x12;
   let x14 := fsub .f64 x0 x8;
   let x15 := fmul .f64 x2 x14;
   let x16 := fmul .f64 x2 x3;
   let x17 := fmul .f64 x2 x13;
   let x18 := fmul .f64 x17 x7;
   let x19 := fmul .f64 x16 x7;
   let x20 := fdiv .f64 x19 x10;
   let x21 := fneg .f64 x20;
   let x22 := fmul .f64 x16 x13;
   let x23 := fmul .f64 x22 x8;
   let x24 := fdiv .f64 x23 x10;
   .leaf (x15, x18, x21, x24)))))))
def impl_Orbit_plane (a0 : Orbit) (a1 : Nat) : Nat × Nat × Nat × Nat := (impl_Orbit_plane_tree a0 a1).val
def impl_Orbit_plane_need (a0 : Orbit) (a1 : Nat) : Bool := (impl_Orbit_plane_tree a0 a1).ok
def impl_Orbit_plane_mk (p : Nat × Nat × Nat × Nat) : Ret := ⟨.tup [.flt .f64 p.1, .flt .f64 p.2.1, .flt .f64 p.2.2.1, .flt .f64 p.2.2.2], []⟩
def impl_Orbit_plane_c : Con := fun args => match args with
  | [.agg [.flt .f32 a0_0, .flt .f32 a0_1, .flt .f32 a0_2, .flt .f32 a0_3, .flt .f32 a0_4, .flt .f32 a0_5], .flt .f64 a1] => some (.need (impl_Orbit_plane_need (⟨a0_0, a0_1, a0_2, a0_3, a0_4, a0_5⟩ : Orbit) a1) (.leaf (impl_Orbit_plane_mk (impl_Orbit_plane (⟨a0_0, a0_1, a0_2, a0_3, a0_4, a0_5⟩ : Orbit) a1))))
  | _ => none
set_option maxRecDepth 100000 in
theorem impl_Orbit_plane_ok : FunOK Tryz.prog 94 impl_Orbit_plane_c.fn := by
  refine con_ok (Γ := gam [(91, math_Abs_c), (58, impl_Orbit_rate_c), (118, impl_swing_c), (119, impl_sine_c), (120, impl_cosine_c), (66, math_Sqrt_c), (121, impl_lean_c), (122, impl_halfDifference_c), (123, impl_halfSum_c)]) (gam_cons math_Abs_ok (gam_cons impl_Orbit_rate_ok (gam_cons impl_swing_ok (gam_cons impl_sine_ok (gam_cons impl_cosine_ok (gam_cons math_Sqrt_ok (gam_cons impl_lean_ok (gam_cons impl_halfDifference_ok (gam_cons impl_halfSum_ok (gam_nil)))))))))) tab_ok (by kernel_rfl) Tryz.func94 (by kernel_rfl) (by kernel_rfl) Tryz.ntmps94 Tryz.results94 (loopsOK_none rfl _) 100000 fun args t h => ?_
  unfold impl_Orbit_plane_c at h
  split at h
  · rename_i a0_0 a0_1 a0_2 a0_3 a0_4 a0_5 a1
    cases h
    exact ⟨rfl, agree_need (mk := impl_Orbit_plane_mk) (t := impl_Orbit_plane_tree (⟨a0_0, a0_1, a0_2, a0_3, a0_4, a0_5⟩ : Orbit) a1) (by unfold Agree; kernel_rfl)⟩
  · cases h

/-- (loop.example/g01284/impl.Orbit).turned -/
def impl_Orbit_turned_tree (a0 : Orbit) (a1 : Nat) (a2 : Nat) : DT (Vec) :=
  .need ((fconvOk .f32 a0.Peri .f64)) (
  let x0 := fconv .f32 a0.Peri .f64;
  let x1 := impl_cosine x0;
  .need ((fconvOk .f32 a0.Peri .f64)) (
  let x2 := fconv .f32 a0.Peri .f64;
  let x3 := impl_sine x2;
  let x4 := fmul .f64 a1 x1;
  let x5 := fmul .f64 a2 x3;
  let x6 := fsub .f64 x4 x5;
  let x7 := fmul .f64 a1 x3;
  let x8 := fmul .f64 a2 x1;
  let x9 := fadd .f64 x7 x8;
  .need ((fconvOk .f32 a0.Tilt .f64)) (
  let x10 := fconv .f32 a0.Tilt .f64;
  let x11 := impl_cosine x10;
  let x12 := fmul .f64 x9 x11;
  .need ((fconvOk .f32 a0.Tilt .f64)) (
  let x13 := fconv .f32 a0.Tilt .f64;
  let x14 := impl_sine x13;
  let x15 := fmul .f64 x9 x14;
  .need ((fconvOk .f32 a0.Node .f64)) (
  let x16 := fconv .f32 a0.Node .f64;
  let x17 := impl_cosine x16;
  .need ((fconvOk .f32 a0.Node .f64)) (
  let x18 := fconv .f32 a0.Node .f64;
  let x19 := impl_sine x18;
  let x20 := fmul .f64 x6 x17;
  let x21 := fmul .f64 x12 x19;
  let x22 := fsub .f64 x20 x21;
  .need ((fconvOk .f64 x22 .f32)) (
  let x23 := fconv .f64 x22 .f32;
  let x24 := fmul .f64 x6 x19;
  let x25 := fmul .f64 x12 x17;
  let x26 := fadd .f64 x24 x25;
  .need ((fconvOk .f64 x26 .f32)) (
  let x27 := fconv .f64 x26 .f32;
  .need ((fconvOk .f64 x15 .f32)) (
  let x28 := fconv .f64 x15 .f32;
  .leaf ((⟨x23, x27, x28⟩ : Vec)))))))))))
def impl_Orbit_turned (a0 : Orbit) (a1 : Nat) (a2 : Nat) : Vec := (impl_Orbit_turned_tree a0 a1 a2).val
def impl_Orbit_turned_need (a0 : Orbit) (a1 : Nat) (a2 : Nat) : Bool := (impl_Orbit_turned_tree a0 a1 a2).ok
def impl_Orbit_turned_mk (p : Vec) : Ret := ⟨.agg [.flt .f32 p.X, .flt .f32 p.Y, .flt .f32 p.Z], []⟩
def impl_Orbit_turned_c : Con := fun args => match args with
  | [.agg [.flt .f32 a0_0, .flt .f32 a0_1, .flt .f32 a0_2, .flt .f32 a0_3, .flt .f32 a0_4, .flt .f32 a0_5], .flt .f64 a1, .flt .f64 a2] => some (.need (impl_Orbit_turned_need (⟨a0_0, a0_1, a0_2, a0_3, a0_4, a0_5⟩ : Orbit) a1 a2) (.leaf (impl_Orbit_turned_mk (impl_Orbit_turned (⟨a0_0, a0_1, a0_2, a0_3, a0_4, a0_5⟩ : Orbit) a1 a2))))
  | _ => none
set_option maxRecDepth 100000 in
theorem impl_Orbit_turned_ok : FunOK Tryz.prog 95 impl_Orbit_turned_c.fn := by
  refine con_ok (Γ := gam [(120, impl_cosine_c), (119, impl_sine_c)]) (gam_cons impl_cosine_ok (gam_cons impl_sine_ok (gam_nil))) tab_ok (by kernel_rfl) Tryz.func95 (by kernel_rfl) (by kernel_rfl) Tryz.ntmps95 Tryz.results95 (loopsOK_none rfl _) 100000 fun args t h => ?_
  unfold impl_Orbit_turned_c at h
  split at h
  · rename_i a0_0 a0_1 a0_2 a0_3 a0_4 a0_5 a1 a2
    cases h
    exact ⟨rfl, agree_need (mk := impl_Orbit_turned_mk) (t := impl_Orbit_turned_tree (⟨a0_0, a0_1, a0_2, a0_3, a0_4, a0_5⟩ : Orbit) a1 a2) (by unfold Agree; kernel_rfl)⟩
  · cases h

/-- (loop.example/g01284/impl.Orbit).state -/
def impl_Orbit_state_tree (a0 : Orbit) (a1 : Nat) : DT (Vec × Vec) :=
  .need ((impl_Orbit_plane_need (⟨a0.Long, a0.Round, a0.Tilt, a0.Node, a0.Peri, a0.Phase⟩ : Orbit) a1)) (
  let x0 := impl_Orbit_plane (⟨a0.Long, a0.Round, a0.Tilt, a0.Node, a0.Peri, a0.Phase⟩ : Orbit) a1;
  .need ((impl_Orbit_turned_need (⟨a0.Long, a0.Round, a0.Tilt, a0.Node, a0.Peri, a0.Phase⟩ : Orbit) x0.1 x0.2.1)) (
  let x1 := impl_Orbit_turned (⟨a0.Long, a0.Round, a0.Tilt, a0.Node, a0.Peri, a0.Phase⟩ : Orbit) x0.1 x0.2.1;
  .need ((impl_Orbit_turned_need (⟨a0.Long, a0.Round, a0.Tilt, a0.Node, a0.Peri, a0.Phase⟩ : Orbit) x0.2.2.1 x0.2.2.2)) (
  let x2 := impl_Orbit_turned (⟨a0.Long, a0.Round, a0.Tilt, a0.Node, a0.Peri, a0.Phase⟩ : Orbit) x0.2.2.1 x0.2.2.2;
  .leaf ((⟨x1.X, x1.Y, x1.Z⟩ : Vec), (⟨x2.X, x2.Y, x2.Z⟩ : Vec)))))
def impl_Orbit_state (a0 : Orbit) (a1 : Nat) : Vec × Vec := (impl_Orbit_state_tree a0 a1).val
def impl_Orbit_state_need (a0 : Orbit) (a1 : Nat) : Bool := (impl_Orbit_state_tree a0 a1).ok
def impl_Orbit_state_mk (p : Vec × Vec) : Ret := ⟨.tup [.agg [.flt .f32 p.1.X, .flt .f32 p.1.Y, .flt .f32 p.1.Z], .agg [.flt .f32 p.2.X, .flt .f32 p.2.Y, .flt .f32 p.2.Z]], []⟩
def impl_Orbit_state_c : Con := fun args => match args with
  | [.agg [.flt .f32 a0_0, .flt .f32 a0_1, .flt .f32 a0_2, .flt .f32 a0_3, .flt .f32 a0_4, .flt .f32 a0_5], .flt .f64 a1] => some (.need (impl_Orbit_state_need (⟨a0_0, a0_1, a0_2, a0_3, a0_4, a0_5⟩ : Orbit) a1) (.leaf (impl_Orbit_state_mk (impl_Orbit_state (⟨a0_0, a0_1, a0_2, a0_3, a0_4, a0_5⟩ : Orbit) a1))))
  | _ => none
set_option maxRecDepth 100000 in
theorem impl_Orbit_state_ok : FunOK Tryz.prog 62 impl_Orbit_state_c.fn := by
  refine con_ok (Γ := gam [(94, impl_Orbit_plane_c), (95, impl_Orbit_turned_c)]) (gam_cons impl_Orbit_plane_ok (gam_cons impl_Orbit_turned_ok (gam_nil))) tab_ok (by kernel_rfl) Tryz.func62 (by kernel_rfl) (by kernel_rfl) Tryz.ntmps62 Tryz.results62 (loopsOK_none rfl _) 100000 fun args t h => ?_
  unfold impl_Orbit_state_c at h
  split at h
  · rename_i a0_0 a0_1 a0_2 a0_3 a0_4 a0_5 a1
    cases h
    exact ⟨rfl, agree_need (mk := impl_Orbit_state_mk) (t := impl_Orbit_state_tree (⟨a0_0, a0_1, a0_2, a0_3, a0_4, a0_5⟩ : Orbit) a1) (by unfold Agree; kernel_rfl)⟩
  · cases h

/-- (loop.example/g01284/impl.Vector).numbers -/
def impl_Vector_numbers_tree (a0 : Vec) : DT (List Nat) :=
  .leaf ([a0.X, a0.Y, a0.Z])
def impl_Vector_numbers (a0 : Vec) : List Nat := (impl_Vector_numbers_tree a0).val
def impl_Vector_numbers_mk (p : List Nat) : Ret := ⟨.own 0, [.typed 24 (.flt .f32) p]⟩
def impl_Vector_numbers_c : Con := fun args => match args with
  | [.agg [.flt .f32 a0_0, .flt .f32 a0_1, .flt .f32 a0_2]] => some (.leaf (impl_Vector_numbers_mk (impl_Vector_numbers (⟨a0_0, a0_1, a0_2⟩ : Vec))))
  | _ => none
set_option maxRecDepth 100000 in
theorem impl_Vector_numbers_ok : FunOK Tryz.prog 96 impl_Vector_numbers_c.fn := by
  refine con_ok (Γ := gam []) (gam_nil) tab_ok (by kernel_rfl) Tryz.func96 (by kernel_rfl) (by kernel_rfl) Tryz.ntmps96 Tryz.results96 (loopsOK_none rfl _) 100000 fun args t h => ?_
  unfold impl_Vector_numbers_c at h
  split at h
  · rename_i a0_0 a0_1 a0_2
    cases h
    exact ⟨rfl, agree_tot (mk := impl_Vector_numbers_mk) (t := impl_Vector_numbers_tree (⟨a0_0, a0_1, a0_2⟩ : Vec)) (by unfold Agree; kernel_rfl) (by kernel_rfl)⟩
  · cases h

/-- loop.example/g01284/impl.isFiniteVector -/
def impl_isFiniteVector_tree (a0 : Vec) : DT (Bool) :=
  let x0 := impl_Vector_numbers (⟨a0.X, a0.Y, a0.Z⟩ : Vec);
  .need ((impl_areFinite_need x0)) (
  let x1 := impl_areFinite x0;
  .leaf x1)
def impl_isFiniteVector (a0 : Vec) : Bool := (impl_isFiniteVector_tree a0).val
def impl_isFiniteVector_need (a0 : Vec) : Bool := (impl_isFiniteVector_tree a0).ok
def impl_isFiniteVector_mk (p : Bool) : Ret := ⟨.bool p, []⟩
def impl_isFiniteVector_c : Con := fun args => match args with
  | [.agg [.flt .f32 a0_0, .flt .f32 a0_1, .flt .f32 a0_2]] => some (.need (impl_isFiniteVector_need (⟨a0_0, a0_1, a0_2⟩ : Vec)) (.leaf (impl_isFiniteVector_mk (impl_isFiniteVector (⟨a0_0, a0_1, a0_2⟩ : Vec)))))
  | _ => none
set_option maxRecDepth 100000 in
theorem impl_isFiniteVector_ok : FunOK Tryz.prog 63 impl_isFiniteVector_c.fn := by
  refine con_ok (Γ := gam [(96, impl_Vector_numbers_c), (44, impl_areFinite_c)]) (gam_cons impl_Vector_numbers_ok (gam_cons impl_areFinite_ok (gam_nil))) tab_ok (by kernel_rfl) Tryz.func63 (by kernel_rfl) (by kernel_rfl) Tryz.ntmps63 Tryz.results63 (loopsOK_none rfl _) 100000 fun args t h => ?_
  unfold impl_isFiniteVector_c at h
  split at h
  · rename_i a0_0 a0_1 a0_2
    cases h
    exact ⟨rfl, agree_need (mk := impl_isFiniteVector_mk) (t := impl_isFiniteVector_tree (⟨a0_0, a0_1, a0_2⟩ : Vec)) (by unfold Agree; kernel_rfl)⟩
  · cases h

/-- loop.example/g01284/impl.StateOf -/
def impl_StateOf_tree (a0 : Orbit) (a1 : Nat) : DT (Vec × Vec × Bool) :=
  .need ((impl_Orbit_isAround_need (⟨a0.Long, a0.Round, a0.Tilt, a0.Node, a0.Peri, a0.Phase⟩ : Orbit) a1)) (
  let x0 := impl_Orbit_isAround (⟨a0.Long, a0.Round, a0.Tilt, a0.Node, a0.Peri, a0.Phase⟩ : Orbit) a1;
  .ask (!x0)
  (
   .leaf ((⟨0, 0, 0⟩ : Vec), (⟨0, 0, 0⟩ : Vec), false))
  (
   .need ((fconvOk .f32 a1 .f64)) (
   let x1 := fconv .f32 a1 .f64;
   .need ((impl_Orbit_state_need (⟨a0.Long, a0.Round, a0.Tilt, a0.Node, a0.Peri, a0.Phase⟩ : Orbit) x1)) (
   let x2 := impl_Orbit_state (⟨a0.Long, a0.Round, a0.Tilt, a0.Node, a0.Peri, a0.Phase⟩ : Orbit) x1;
   .need ((impl_isFiniteVector_need (⟨x2.1.X, x2.1.Y, x2.1.Z⟩ : Vec))) (
   let x3 := impl_isFiniteVector (⟨x2.1.X, x2.1.Y, x2.1.Z⟩ : Vec);
   .ask (!x3)
   (
    .leaf ((⟨0, 0, 0⟩ : Vec), (⟨0, 0, 0⟩ : Vec), false))
   (
    .need ((impl_isFiniteVector_need (⟨x2.2.X, x2.2.Y, x2.2.Z⟩ : Vec))) (
    let x4 := impl_isFiniteVector (⟨x2.2.X, x2.2.Y, x2.2.Z⟩ : Vec);
    .ask (!x4)
    (
     .leaf ((⟨0, 0, 0⟩ : Vec), (⟨0, 0, 0⟩ : Vec), false))
    (
     .leaf ((⟨x2.1.X, x2.1.Y, x2.1.Z⟩ : Vec), (⟨x2.2.X, x2.2.Y, x2.2.Z⟩ : Vec), true)))))))))
def impl_StateOf (a0 : Orbit) (a1 : Nat) : Vec × Vec × Bool := (impl_StateOf_tree a0 a1).val
def impl_StateOf_need (a0 : Orbit) (a1 : Nat) : Bool := (impl_StateOf_tree a0 a1).ok
def impl_StateOf_mk (p : Vec × Vec × Bool) : Ret := ⟨.tup [.agg [.flt .f32 p.1.X, .flt .f32 p.1.Y, .flt .f32 p.1.Z], .agg [.flt .f32 p.2.1.X, .flt .f32 p.2.1.Y, .flt .f32 p.2.1.Z], .bool p.2.2], []⟩
def impl_StateOf_c : Con := fun args => match args with
  | [.agg [.flt .f32 a0_0, .flt .f32 a0_1, .flt .f32 a0_2, .flt .f32 a0_3, .flt .f32 a0_4, .flt .f32 a0_5], .flt .f32 a1] => some (.need (impl_StateOf_need (⟨a0_0, a0_1, a0_2, a0_3, a0_4, a0_5⟩ : Orbit) a1) (.leaf (impl_StateOf_mk (impl_StateOf (⟨a0_0, a0_1, a0_2, a0_3, a0_4, a0_5⟩ : Orbit) a1))))
  | _ => none
set_option maxRecDepth 100000 in
theorem impl_StateOf_ok : FunOK Tryz.prog 29 impl_StateOf_c.fn := by
  refine con_ok (Γ := gam [(57, impl_Orbit_isAround_c), (62, impl_Orbit_state_c), (63, impl_isFiniteVector_c)]) (gam_cons impl_Orbit_isAround_ok (gam_cons impl_Orbit_state_ok (gam_cons impl_isFiniteVector_ok (gam_nil)))) tab_ok (by kernel_rfl) Tryz.func29 (by kernel_rfl) (by kernel_rfl) Tryz.ntmps29 Tryz.results29 (loopsOK_none rfl _) 100000 fun args t h => ?_
  unfold impl_StateOf_c at h
  split at h
  · rename_i a0_0 a0_1 a0_2 a0_3 a0_4 a0_5 a1
    cases h
    exact ⟨rfl, agree_need (mk := impl_StateOf_mk) (t := impl_StateOf_tree (⟨a0_0, a0_1, a0_2, a0_3, a0_4, a0_5⟩ : Orbit) a1) (by unfold Agree; kernel_rfl)⟩
  · cases h

/-- math.NaN -/
def math_NaN_tree  : DT (Nat) :=
  let x0 := canon .f64 (Int.toNat 9221120237041090561);
  .leaf x0
def math_NaN  : Nat := (math_NaN_tree ).val
def math_NaN_mk (p : Nat) : Ret := ⟨.flt .f64 p, []⟩
def math_NaN_c : Con := fun args => match args with
  | [] => some (.leaf (math_NaN_mk (math_NaN )))
  | _ => none
set_option maxRecDepth 100000 in
theorem math_NaN_ok : FunOK Tryz.prog 64 math_NaN_c.fn := by
  refine con_ok (Γ := gam [(97, math_Float64frombits_c)]) (gam_cons math_Float64frombits_ok (gam_nil)) tab_ok (by kernel_rfl) Tryz.func64 (by kernel_rfl) (by kernel_rfl) Tryz.ntmps64 Tryz.results64 (loopsOK_none rfl _) 100000 fun args t h => ?_
  unfold math_NaN_c at h
  split at h
  · cases h
    exact ⟨rfl, agree_tot (mk := math_NaN_mk) (t := math_NaN_tree ) (by unfold Agree; kernel_rfl) (by kernel_rfl)⟩
  · cases h

/-- loop.example/g01284/impl.angle -/
def impl_angle_tree (a0 : Nat) (a1 : Nat) : DT (Nat) :=
  let x0 := math_Abs a0;
  let x1 := math_Abs a1;
  let x2 := fdiv .f64 x0 x1;
  let x3 := fgt .f64 x0 x1;
  .ask x3
  (
   let x4 := fdiv .f64 x1 x0;
   .skip (
   let x5 := fmul .f64 x4 x4;
   let x6 := fadd .f64 4607182418800017408 x5;
   let x7 := math_Sqrt x6;
   let x8 := fadd .f64 4607182418800017408 x7;
   let x9 := fdiv .f64 x4 x8;
   .skip (
   let x10 := fmul .f64 x9 x9;
   let x11 := fadd .f64 4607182418800017408 x10;
   let x12 := math_Sqrt x11;
   let x13 := fadd .f64 4607182418800017408 x12;
   let x14 := fdiv .f64 x9 x13;
   .skip (
   let x15 := fmul .f64 x14 x14;
   let x16 := fadd .f64 4607182418800017408 x15;
   let x17 := math_Sqrt x16;
   let x18 := fadd .f64 4607182418800017408 x17;
   let x19 := fdiv .f64 x14 x18;
   .skip (
   let x20 := fmul .f64 x19 x19;
   .skip (
   let x21 := fofInt .f64 15;
   let x22 := fdiv .f64 4607182418800017408 x21;
   let x23 := fmul .f64 x20 0;
   let x24 := fsub .f64 x22 x23;
   .skip (
   let x25 := fofInt .f64 13;
   let x26 := fdiv .f64 4607182418800017408 x25;
   let x27 := fmul .f64 x20 x24;
   let x28 := fsub .f64 x26 x27;
   .skip (
   let x29 := fofInt .f64 11;
   let x30 := fdiv .f64 4607182418800017408 x29;
   let x31 := fmul .f64 x20 x28;
   let x32 := fsub .f64 x30 x31;
   .skip (
   let x33 := fofInt .f64 9;
   let x34 := fdiv .f64 4607182418800017408 x33;
   let x35 := fmul .f64 x20 x32;
   let x36 := fsub .f64 x34 x35;
   .skip (
   let x37 := fofInt .f64 7;
   let x38 := fdiv .f64 4607182418800017408 x37;
   let x39 := fmul .f64 x20 x36;
   let x40 := fsub .f64 x38 x39;
   .skip (
   let x41 := fofInt .f64 5;
   let x42 := fdiv .f64 4607182418800017408 x41;
   let x43 := fmul .f64 x20 x40;
   let x44 := fsub .f64 x42 x43;
   .skip (
   let x45 := fofInt .f64 3;
   let x46 := fdiv .f64 4607182418800017408 x45;
   let x47 := fmul .f64 x20 x44;
   let x48 := fsub .f64 x46 x47;
   .skip (
   let x49 := fofInt .f64 1;
   let x50 := fdiv .f64 4607182418800017408 x49;
   let x51 := fmul .f64 x20 x48;
   let x52 := fsub .f64 x50 x51;
   .skip (
   let x53 := fmul .f64 x19 x52;
   let x54 := fmul .f64 4620693217682128896 x53;
   let x55 := fdiv .f64 x54 4618760256179416344;
   let x56 := fgt .f64 x0 x1;
   .ask x56
   (
    let x57 := fsub .f64 4598175219545276416 x55;
    let x58 := flt .f64 a1 0;
    .ask x58
    (
     let x59 := fsub .f64 4602678819172646912 x57;
     let x60 := flt .f64 a0 0;
     .ask x60
     (
      let x61 := fneg .f64 x59;
      .leaf x61)
     (
      .leaf x59))
    (
     let x59 := flt .f64 a0 0;
     .ask x59
     (
      let x60 := fneg .f64 x57;
      .leaf x60)
     (
      .leaf x57)))
   (
    let x57 := flt .f64 a1 0;
    .ask x57
    (
     let x58 := fsub .f64 4602678819172646912 x55;
     let x59 := flt .f64 a0 0;
     .ask x59
     (
      let x60 := fneg .f64 x58;
      .leaf x60)
     (
      .leaf x58))
    (
     let x58 := flt .f64 a0 0;
     .ask x58
     (
      let x59 := fneg .f64 x55;
      .leaf x59)
     (
      .leaf x55)))))))))))))))))
  (
   .skip (
   let x4 := fmul .f64 x2 x2;
   let x5 := fadd .f64 4607182418800017408 x4;
   let x6 := math_Sqrt x5;
   let x7 := fadd .f64 4607182418800017408 x6;
   let x8 := fdiv .f64 x2 x7;
   .skip (
   let x9 := fmul .f64 x8 x8;
   let x10 := fadd .f64 4607182418800017408 x9;
   let x11 := math_Sqrt x10;
   let x12 := fadd .f64 4607182418800017408 x11;
   let x13 := fdiv .f64 x8 x12;
   .skip (
   let x14 := fmul .f64 x13 x13;
   let x15 := fadd .f64 4607182418800017408 x14;
   let x16 := math_Sqrt x15;
   let x17 := fadd .f64 4607182418800017408 x16;
   let x18 := fdiv .f64 x13 x17;
   .skip (
   let x19 := fmul .f64 x18 x18;
   .skip (
   let x20 := fofInt .f64 15;
   let x21 := fdiv .f64 4607182418800017408 x20;
   let x22 := fmul .f64 x19 0;
   let x23 := fsub .f64 x21 x22;
   .skip (
   let x24 := fofInt .f64 13;
   let x25 := fdiv .f64 4607182418800017408 x24;
   let x26 := fmul .f64 x19 x23;
   let x27 := fsub .f64 x25 x26;
   .skip (
   let x28 := fofInt .f64 11;
   let x29 := fdiv .f64 4607182418800017408 x28;
   let x30 := fmul .f64 x19 x27;
   let x31 := fsub .f64 x29 x30;
   .skip (
   let x32 := fofInt .f64 9;
   let x33 := fdiv .f64 4607182418800017408 x32;
   let x34 := fmul .f64 x19 x31;
   let x35 := fsub .f64 x33 x34;
   .skip (
   let x36 := fofInt .f64 7;
   let x37 := fdiv .f64 4607182418800017408 x36;
   let x38 := fmul .f64 x19 x35;
   let x39 := fsub .f64 x37 x38;
   .skip (
   let x40 := fofInt .f64 5;
   let x41 := fdiv .f64 4607182418800017408 x40;
   let x42 := fmul .f64 x19 x39;
   let x43 := fsub .f64 x41 x42;
   .skip (
   let x44 := fofInt .f64 3;
   let x45 := fdiv .f64 4607182418800017408 x44;
   let x46 := fmul .f64 x19 x43;
   let x47 := fsub .f64 x45 x46;
   .skip (
   let x48 := fofInt .f64 1;
   let x49 := fdiv .f64 4607182418800017408 x48;
   let x50 := fmul .f64 x19 x47;
   let x51 := fsub .f64 x49 x50;
   .skip (
   let x52 := fmul .f64 x18 x51;
   let x53 := fmul .f64 4620693217682128896 x52;
   let x54 := fdiv .f64 x53 4618760256179416344;
   let x55 := fgt .f64 x0 x1;
   .ask x55
   (
    let x56 := fsub .f64 4598175219545276416 x54;
    let x57 := flt .f64 a1 0;
    .ask x57
    (
     let x58 := fsub .f64 4602678819172646912 x56;
     let x59 := flt .f64 a0 0;
     .ask x59
     (
      let x60 := fneg .f64 x58;
      .leaf x60)
     (
      .leaf x58))
    (
     let x58 := flt .f64 a0 0;
     .ask x58
     (
      let x59 := fneg .f64 x56;
      .leaf x59)
     (
      .leaf x56)))
   (
    let x56 := flt .f64 a1 0;
    .ask x56
    (
     let x57 := fsub .f64 4602678819172646912 x54;
     let x58 := flt .f64 a0 0;
     .ask x58
     (
      let x59 := fneg .f64 x57;
      .leaf x59)
     (
      .leaf x57))
    (
     let x57 := flt .f64 a0 0;
     .ask x57
     (
      let x58 := fneg .f64 x54;
      .leaf x58)
     (
      .leaf x54)))))))))))))))))
def impl_angle (a0 : Nat) (a1 : Nat) : Nat := (impl_angle_tree a0 a1).val
def impl_angle_mk (p : Nat) : Ret := ⟨.flt .f64 p, []⟩
def impl_angle_c : Con := fun args => match args with
  | [.flt .f64 a0, .flt .f64 a1] => some (.leaf (impl_angle_mk (impl_angle a0 a1)))
  | _ => none
set_option maxRecDepth 100000 in
theorem impl_angle_ok : FunOK Tryz.prog 65 impl_angle_c.fn := by
  refine con_ok (Γ := gam [(91, math_Abs_c), (66, math_Sqrt_c)]) (gam_cons math_Abs_ok (gam_cons math_Sqrt_ok (gam_nil))) tab_ok (by kernel_rfl) Tryz.func65 (by kernel_rfl) (by kernel_rfl) Tryz.ntmps65 Tryz.results65 (loopsOK_none rfl _) 100000 fun args t h => ?_
  unfold impl_angle_c at h
  split at h
  · rename_i a0 a1
    cases h
    exact ⟨rfl, agree_tot (mk := impl_angle_mk) (t := impl_angle_tree a0 a1) (by unfold Agree; kernel_rfl) (by kernel_rfl)⟩
  · cases h

/-- loop.example/g01284/impl.AngleTurns -/
def impl_AngleTurns_tree (a0 : Nat) (a1 : Nat) : DT (Nat) :=
  .need ((impl_IsFinite_need a0)) (
  let x0 := impl_IsFinite a0;
  .ask (!x0)
  (
   let x1 := math_NaN ;
   .need ((fconvOk .f64 x1 .f32)) (
   let x2 := fconv .f64 x1 .f32;
   .leaf x2))
  (
   .need ((impl_IsFinite_need a1)) (
   let x1 := impl_IsFinite a1;
   .ask (!x1)
   (
    let x2 := math_NaN ;
    .need ((fconvOk .f64 x2 .f32)) (
    let x3 := fconv .f64 x2 .f32;
    .leaf x3))
   (
    let x2 := feq .f32 a0 0;
    .ask x2
    (
     let x3 := feq .f32 a1 0;
     .ask x3
     (
      .leaf 0)
     (
      .need ((fconvOk .f32 a0 .f64)) (
      let x4 := fconv .f32 a0 .f64;
      .need ((fconvOk .f32 a1 .f64)) (
      let x5 := fconv .f32 a1 .f64;
      let x6 := impl_angle x4 x5;
      .need ((fconvOk .f64 x6 .f32)) (
      let x7 := fconv .f64 x6 .f32;
      .leaf x7)))))
    (
     .need ((fconvOk .f32 a0 .f64)) (
     let x3 := fconv .f32 a0 .f64;
     .need ((fconvOk .f32 a1 .f64)) (
     let x4 := fconv .f32 a1 .f64;
     let x5 := impl_angle x3 x4;
     .need ((fconvOk .f64 x5 .f32)) (
     let x6 := fconv .f64 x5 .f32;
     .leaf x6))))))))
def impl_AngleTurns (a0 : Nat) (a1 : Nat) : Nat := (impl_AngleTurns_tree a0 a1).val
def impl_AngleTurns_need (a0 : Nat) (a1 : Nat) : Bool := (impl_AngleTurns_tree a0 a1).ok
def impl_AngleTurns_mk (p : Nat) : Ret := ⟨.flt .f32 p, []⟩
def impl_AngleTurns_c : Con := fun args => match args with
  | [.flt .f32 a0, .flt .f32 a1] => some (.need (impl_AngleTurns_need a0 a1) (.leaf (impl_AngleTurns_mk (impl_AngleTurns a0 a1))))
  | _ => none
set_option maxRecDepth 100000 in
theorem impl_AngleTurns_ok : FunOK Tryz.prog 30 impl_AngleTurns_c.fn := by
  refine con_ok (Γ := gam [(40, impl_IsFinite_c), (64, math_NaN_c), (65, impl_angle_c)]) (gam_cons impl_IsFinite_ok (gam_cons math_NaN_ok (gam_cons impl_angle_ok (gam_nil)))) tab_ok (by kernel_rfl) Tryz.func30 (by kernel_rfl) (by kernel_rfl) Tryz.ntmps30 Tryz.results30 (loopsOK_none rfl _) 100000 fun args t h => ?_
  unfold impl_AngleTurns_c at h
  split at h
  · rename_i a0 a1
    cases h
    exact ⟨rfl, agree_need (mk := impl_AngleTurns_mk) (t := impl_AngleTurns_tree a0 a1) (by unfold Agree; kernel_rfl)⟩
  · cases h

/-- loop.example/g01284/impl.RootNumber -/
def impl_RootNumber_tree (a0 : Nat) : DT (Nat) :=
  .need ((fconvOk .f32 a0 .f64)) (
  let x0 := fconv .f32 a0 .f64;
  let x1 := math_Sqrt x0;
  .need ((fconvOk .f64 x1 .f32)) (
  let x2 := fconv .f64 x1 .f32;
  .leaf x2))
def impl_RootNumber (a0 : Nat) : Nat := (impl_RootNumber_tree a0).val
def impl_RootNumber_need (a0 : Nat) : Bool := (impl_RootNumber_tree a0).ok
def impl_RootNumber_mk (p : Nat) : Ret := ⟨.flt .f32 p, []⟩
def impl_RootNumber_c : Con := fun args => match args with
  | [.flt .f32 a0] => some (.need (impl_RootNumber_need a0) (.leaf (impl_RootNumber_mk (impl_RootNumber a0))))
  | _ => none
set_option maxRecDepth 100000 in
theorem impl_RootNumber_ok : FunOK Tryz.prog 31 impl_RootNumber_c.fn := by
  refine con_ok (Γ := gam [(66, math_Sqrt_c)]) (gam_cons math_Sqrt_ok (gam_nil)) tab_ok (by kernel_rfl) Tryz.func31 (by kernel_rfl) (by kernel_rfl) Tryz.ntmps31 Tryz.results31 (loopsOK_none rfl _) 100000 fun args t h => ?_
  unfold impl_RootNumber_c at h
  split at h
  · rename_i a0
    cases h
    exact ⟨rfl, agree_need (mk := impl_RootNumber_mk) (t := impl_RootNumber_tree a0) (by unfold Agree; kernel_rfl)⟩
  · cases h

/-- loop.example/g01284/impl.InnerOf -/
def impl_InnerOf_tree (a0 : Vec) (a1 : Vec) : DT (Nat) :=
  let x0 := fmul .f32 a0.X a1.X;
  let x1 := fmul .f32 a0.Y a1.Y;
  let x2 := fadd .f32 x0 x1;
  let x3 := fmul .f32 a0.Z a1.Z;
  let x4 := fadd .f32 x2 x3;
  .leaf x4
def impl_InnerOf (a0 : Vec) (a1 : Vec) : Nat := (impl_InnerOf_tree a0 a1).val
def impl_InnerOf_mk (p : Nat) : Ret := ⟨.flt .f32 p, []⟩
def impl_InnerOf_c : Con := fun args => match args with
  | [.agg [.flt .f32 a0_0, .flt .f32 a0_1, .flt .f32 a0_2], .agg [.flt .f32 a1_0, .flt .f32 a1_1, .flt .f32 a1_2]] => some (.leaf (impl_InnerOf_mk (impl_InnerOf (⟨a0_0, a0_1, a0_2⟩ : Vec) (⟨a1_0, a1_1, a1_2⟩ : Vec))))
  | _ => none
set_option maxRecDepth 100000 in
theorem impl_InnerOf_ok : FunOK Tryz.prog 67 impl_InnerOf_c.fn := by
  refine con_ok (Γ := gam []) (gam_nil) tab_ok (by kernel_rfl) Tryz.func67 (by kernel_rfl) (by kernel_rfl) Tryz.ntmps67 Tryz.results67 (loopsOK_none rfl _) 100000 fun args t h => ?_
  unfold impl_InnerOf_c at h
  split at h
  · rename_i a0_0 a0_1 a0_2 a1_0 a1_1 a1_2
    cases h
    exact ⟨rfl, agree_tot (mk := impl_InnerOf_mk) (t := impl_InnerOf_tree (⟨a0_0, a0_1, a0_2⟩ : Vec) (⟨a1_0, a1_1, a1_2⟩ : Vec)) (by unfold Agree; kernel_rfl) (by kernel_rfl)⟩
  · cases h

/-- loop.example/g01284/impl.SizeOfVector -/
def impl_SizeOfVector_tree (a0 : Vec) : DT (Nat) :=
  let x0 := impl_InnerOf (⟨a0.X, a0.Y, a0.Z⟩ : Vec) (⟨a0.X, a0.Y, a0.Z⟩ : Vec);
  .need ((impl_RootNumber_need x0)) (
  let x1 := impl_RootNumber x0;
  .leaf x1)
def impl_SizeOfVector (a0 : Vec) : Nat := (impl_SizeOfVector_tree a0).val
def impl_SizeOfVector_need (a0 : Vec) : Bool := (impl_SizeOfVector_tree a0).ok
def impl_SizeOfVector_mk (p : Nat) : Ret := ⟨.flt .f32 p, []⟩
def impl_SizeOfVector_c : Con := fun args => match args with
  | [.agg [.flt .f32 a0_0, .flt .f32 a0_1, .flt .f32 a0_2]] => some (.need (impl_SizeOfVector_need (⟨a0_0, a0_1, a0_2⟩ : Vec)) (.leaf (impl_SizeOfVector_mk (impl_SizeOfVector (⟨a0_0, a0_1, a0_2⟩ : Vec)))))
  | _ => none
set_option maxRecDepth 100000 in
theorem impl_SizeOfVector_ok : FunOK Tryz.prog 32 impl_SizeOfVector_c.fn := by
  refine con_ok (Γ := gam [(67, impl_InnerOf_c), (31, impl_RootNumber_c)]) (gam_cons impl_InnerOf_ok (gam_cons impl_RootNumber_ok (gam_nil))) tab_ok (by kernel_rfl) Tryz.func32 (by kernel_rfl) (by kernel_rfl) Tryz.ntmps32 Tryz.results32 (loopsOK_none rfl _) 100000 fun args t h => ?_
  unfold impl_SizeOfVector_c at h
  split at h
  · rename_i a0_0 a0_1 a0_2
    cases h
    exact ⟨rfl, agree_need (mk := impl_SizeOfVector_mk) (t := impl_SizeOfVector_tree (⟨a0_0, a0_1, a0_2⟩ : Vec)) (by unfold Agree; kernel_rfl)⟩
  · cases h

/-- loop.example/g01284/impl.AreLooks$1 -/
def impl_AreLooks_1_tree (a0 : Look) : DT (Bool) :=
  .need ((impl_areFinite_need ([a0.Time, a0.Right, a0.Up, a0.Far, a0.Weight]))) (
  let x0 := impl_areFinite ([a0.Time, a0.Right, a0.Up, a0.Far, a0.Weight]);
  .ask (!x0)
  (
   .leaf true)
  (
   let x1 := flt .f32 a0.Weight 0;
   .leaf x1))
def impl_AreLooks_1 (a0 : Look) : Bool := (impl_AreLooks_1_tree a0).val
def impl_AreLooks_1_need (a0 : Look) : Bool := (impl_AreLooks_1_tree a0).ok
def impl_AreLooks_1_mk (p : Bool) : Ret := ⟨.bool p, []⟩
def impl_AreLooks_1_c : Con := fun args => match args with
  | [.agg [.flt .f32 a0_0, .flt .f32 a0_1, .flt .f32 a0_2, .flt .f32 a0_3, .flt .f32 a0_4]] => some (.need (impl_AreLooks_1_need (⟨a0_0, a0_1, a0_2, a0_3, a0_4⟩ : Look)) (.leaf (impl_AreLooks_1_mk (impl_AreLooks_1 (⟨a0_0, a0_1, a0_2, a0_3, a0_4⟩ : Look)))))
  | _ => none
set_option maxRecDepth 100000 in
theorem impl_AreLooks_1_ok : FunOK Tryz.prog 43 impl_AreLooks_1_c.fn := by
  refine con_ok (Γ := gam [(44, impl_areFinite_c)]) (gam_cons impl_areFinite_ok (gam_nil)) tab_ok (by kernel_rfl) Tryz.func43 (by kernel_rfl) (by kernel_rfl) Tryz.ntmps43 Tryz.results43 (loopsOK_none rfl _) 100000 fun args t h => ?_
  unfold impl_AreLooks_1_c at h
  split at h
  · rename_i a0_0 a0_1 a0_2 a0_3 a0_4
    cases h
    exact ⟨rfl, agree_need (mk := impl_AreLooks_1_mk) (t := impl_AreLooks_1_tree (⟨a0_0, a0_1, a0_2, a0_3, a0_4⟩ : Look)) (by unfold Agree; kernel_rfl)⟩
  · cases h

/-- a loop of slices_IndexFunc___impl_Look_impl_Look__impl_AreLooks_1 -/
def slices_IndexFunc___impl_Look_impl_Look__impl_AreLooks_1_loop0_step (p : List Look × Int) (s : Int) : Round (Int) ((Int) ⊕ (Unit)) :=
  let x0 := decide (s < p.2);
  .ask x0
  (
   .need ((decide (0 ≤ s) && decide (s < ((List.length p.1 : Nat) : Int)))) (
   let x1 := List.getD p.1 (Int.toNat s) default;
   .need ((impl_AreLooks_1_need (⟨x1.Time, x1.Right, x1.Up, x1.Far, x1.Weight⟩ : Look))) (
   let x2 := impl_AreLooks_1 (⟨x1.Time, x1.Right, x1.Up, x1.Far, x1.Weight⟩ : Look);
   .ask x2
   (
    .leaf (.inr (.inl s), []))
   (
    let x3 := IntKind.wrap .i64 (s + 1);
    .leaf (.inl x3, [])))))
  (
   .leaf (.inr (.inr ()), []))
def slices_IndexFunc___impl_Look_impl_Look__impl_AreLooks_1_loop0_L (p : List Look × Int) : LoopS (Int) ((Int) ⊕ (Unit)) := { tl := fun s => [.vslc 1 .look p.1, .func (.func 43) [] [], .junk, .junk, .junk, .junk, .junk, .int .i64 p.2, .int .i64 s], hl := fun s => [], ex := fun r => match r with | .inl r => .ret | .inr r => .exit 0, otl := fun r => match r with | .inl r => [.junk, .junk, .junk, .junk, .int .i64 r] | .inr r => [.junk], ohl := fun r => match r with | .inl r => [] | .inr r => [] }
def slices_IndexFunc___impl_Look_impl_Look__impl_AreLooks_1_loop0_ext : St → Option ((List Look × Int) × (Int) × List Nat) := fun S => match (S.tm 0).unK, (S.tm 1).unK, (S.tm 7).unK, (S.tm 8).unK with
  | .vslc 1 .look q0, .func (.func 43) [] [], .int .i64 q1, .int .i64 q2 => some ((q0, q1), q2, [])
  | _, _, _, _ => none
def slices_IndexFunc___impl_Look_impl_Look__impl_AreLooks_1_loop0_post (p : List Look × Int) (r : (Int) ⊕ (Unit)) : DT (Ex × St) := .ask (isL r) (.leaf (.ret, LSt [.junk, .junk, .junk, .junk, .int .i64 ((leftD r))] [])) (.leaf (.exit 0, LSt [.junk] []))
def slices_IndexFunc___impl_Look_impl_Look__impl_AreLooks_1_loop0 (p : List Look × Int) (s : Int) : (Int) ⊕ (Unit) := loopVal (slices_IndexFunc___impl_Look_impl_Look__impl_AreLooks_1_loop0_step p) s
def slices_IndexFunc___impl_Look_impl_Look__impl_AreLooks_1_loop0_ends (p : List Look × Int) (s : Int) : Bool := loopEnds (slices_IndexFunc___impl_Look_impl_Look__impl_AreLooks_1_loop0_step p) s
def slices_IndexFunc___impl_Look_impl_Look__impl_AreLooks_1_loop0_F : LoopF := loopF slices_IndexFunc___impl_Look_impl_Look__impl_AreLooks_1_loop0_step slices_IndexFunc___impl_Look_impl_Look__impl_AreLooks_1_loop0_ext slices_IndexFunc___impl_Look_impl_Look__impl_AreLooks_1_loop0_post
set_option maxRecDepth 100000 in
theorem slices_IndexFunc___impl_Look_impl_Look__impl_AreLooks_1_loop0_hext : ∀ S p s fl, slices_IndexFunc___impl_Look_impl_Look__impl_AreLooks_1_loop0_ext S = some (p, s, fl) → Norm S fl ((slices_IndexFunc___impl_Look_impl_Look__impl_AreLooks_1_loop0_L p).tl s) ((slices_IndexFunc___impl_Look_impl_Look__impl_AreLooks_1_loop0_L p).hl s) (slices_IndexFunc___impl_Look_impl_Look__impl_AreLooks_1_loop0_L p).gl := by
  intro S p s fl h
  unfold slices_IndexFunc___impl_Look_impl_Look__impl_AreLooks_1_loop0_ext at h
  (repeat' split at h) <;> first
    | (cases h; constructor <;> simp_all [slices_IndexFunc___impl_Look_impl_Look__impl_AreLooks_1_loop0_L, keepT, keepH, rens, renH, PV.ren, Blk.ren, fOf, lget, nodup, natIn, lenEq, gtm, PV.unK])
    | cases h
set_option maxRecDepth 100000 in
theorem slices_IndexFunc___impl_Look_impl_Look__impl_AreLooks_1_loop0_hpost : ∀ p r e S', (slices_IndexFunc___impl_Look_impl_Look__impl_AreLooks_1_loop0_post p r).get = some (e, S') → e = (slices_IndexFunc___impl_Look_impl_Look__impl_AreLooks_1_loop0_L p).ex r ∧ S' = LSt ((slices_IndexFunc___impl_Look_impl_Look__impl_AreLooks_1_loop0_L p).otl r) ((slices_IndexFunc___impl_Look_impl_Look__impl_AreLooks_1_loop0_L p).ohl r) ((slices_IndexFunc___impl_Look_impl_Look__impl_AreLooks_1_loop0_L p).ogl r) := by
  intro p r e S' h
  unfold slices_IndexFunc___impl_Look_impl_Look__impl_AreLooks_1_loop0_post at h
  cases r <;> (simp only [isL, DT.get, Option.some.injEq, Prod.mk.injEq] at h; exact ⟨h.1.symm, h.2.symm⟩)

def slices_IndexFunc___impl_Look_impl_Look__impl_AreLooks_1_loops : Nat → Option LoopF := loopTab [(2, slices_IndexFunc___impl_Look_impl_Look__impl_AreLooks_1_loop0_F)]
set_option maxRecDepth 100000 in
theorem slices_IndexFunc___impl_Look_impl_Look__impl_AreLooks_1_l0 : LoopOK Tryz.prog ⟨gam [(43, impl_AreLooks_1_c)], tab, 19, slices_IndexFunc___impl_Look_impl_Look__impl_AreLooks_1_loops⟩ (lp Tryz.f85 0) :=
  loopOK_some (F := slices_IndexFunc___impl_Look_impl_Look__impl_AreLooks_1_loop0_F) (by kernel_rfl) (loopF_ok (E := ⟨gam [(43, impl_AreLooks_1_c)], tab, 19, slices_IndexFunc___impl_Look_impl_Look__impl_AreLooks_1_loops⟩) ⟨gam_cons impl_AreLooks_1_ok (gam_nil), tab_ok, by kernel_rfl⟩ (fuel := 100000) (loopsOK_list (l := []) (by kernel_rfl) trivial) (L := slices_IndexFunc___impl_Look_impl_Look__impl_AreLooks_1_loop0_L) (fun p s => by unfold AgreeL; exact ⟨by kernel_rfl, by kernel_rfl⟩) (fun _ r h => by cases r <;> exact Ex.noConfusion h) slices_IndexFunc___impl_Look_impl_Look__impl_AreLooks_1_loop0_hext slices_IndexFunc___impl_Look_impl_Look__impl_AreLooks_1_loop0_hpost)
/-- slices.IndexFunc[[]loop.example/g01284/impl.Look,loop.example/g01284/impl.Look] -/
def slices_IndexFunc___impl_Look_impl_Look__impl_AreLooks_1_tree (a0 : List Look) : DT (Int) :=
  let x0 := ((List.length a0 : Nat) : Int);
  .need ((slices_IndexFunc___impl_Look_impl_Look__impl_AreLooks_1_loop0_ends (a0, x0) 0)) (
  let x1 := slices_IndexFunc___impl_Look_impl_Look__impl_AreLooks_1_loop0 (a0, x0) 0;
  .ask ((isL x1))
  (
   .leaf ((leftD x1)))
  (
   .leaf (-1)))
def slices_IndexFunc___impl_Look_impl_Look__impl_AreLooks_1 (a0 : List Look) : Int := (slices_IndexFunc___impl_Look_impl_Look__impl_AreLooks_1_tree a0).val
def slices_IndexFunc___impl_Look_impl_Look__impl_AreLooks_1_need (a0 : List Look) : Bool := (slices_IndexFunc___impl_Look_impl_Look__impl_AreLooks_1_tree a0).ok
def slices_IndexFunc___impl_Look_impl_Look__impl_AreLooks_1_mk (p : Int) : Ret := ⟨.int .i64 p, []⟩
def slices_IndexFunc___impl_Look_impl_Look__impl_AreLooks_1_c0 : Con := fun args => match args with
  | [.vslc 1 .look a0, .func (.func 43) [] []] => some (.need (slices_IndexFunc___impl_Look_impl_Look__impl_AreLooks_1_need a0) (.leaf (slices_IndexFunc___impl_Look_impl_Look__impl_AreLooks_1_mk (slices_IndexFunc___impl_Look_impl_Look__impl_AreLooks_1 a0))))
  | _ => none
set_option maxRecDepth 100000 in
theorem slices_IndexFunc___impl_Look_impl_Look__impl_AreLooks_1_ok0 : FunOK Tryz.prog 85 slices_IndexFunc___impl_Look_impl_Look__impl_AreLooks_1_c0.fn := by
  refine con_ok (Γ := gam [(43, impl_AreLooks_1_c)]) (gam_cons impl_AreLooks_1_ok (gam_nil)) tab_ok (by kernel_rfl) Tryz.func85 (by kernel_rfl) (by kernel_rfl) Tryz.ntmps85 Tryz.results85 (loops := slices_IndexFunc___impl_Look_impl_Look__impl_AreLooks_1_loops) (loopsOK_list (l := [lp Tryz.f85 0]) (by kernel_rfl) ⟨slices_IndexFunc___impl_Look_impl_Look__impl_AreLooks_1_l0, trivial⟩) 100000 fun args t h => ?_
  unfold slices_IndexFunc___impl_Look_impl_Look__impl_AreLooks_1_c0 at h
  split at h
  · rename_i a0
    cases h
    exact ⟨rfl, agree_need (mk := slices_IndexFunc___impl_Look_impl_Look__impl_AreLooks_1_mk) (t := slices_IndexFunc___impl_Look_impl_Look__impl_AreLooks_1_tree a0) (by unfold Agree; kernel_rfl)⟩
  · cases h
def slices_IndexFunc___impl_Look_impl_Look__impl_AreLooks_1_c : Con := fun args => slices_IndexFunc___impl_Look_impl_Look__impl_AreLooks_1_c0 (norms 0 [.slc .look, .none] args)
set_option maxRecDepth 100000 in
theorem slices_IndexFunc___impl_Look_impl_Look__impl_AreLooks_1_ok : FunOK Tryz.prog 85 slices_IndexFunc___impl_Look_impl_Look__impl_AreLooks_1_c.fn := con_norm [.slc .look, .none] slices_IndexFunc___impl_Look_impl_Look__impl_AreLooks_1_ok0

/-- slices.ContainsFunc[[]loop.example/g01284/impl.Look,loop.example/g01284/impl.Look] -/
def slices_ContainsFunc___impl_Look_impl_Look__impl_AreLooks_1_tree (a0 : List Look) : DT (Bool) :=
  .need ((slices_IndexFunc___impl_Look_impl_Look__impl_AreLooks_1_need a0 )) (
  let x0 := slices_IndexFunc___impl_Look_impl_Look__impl_AreLooks_1 a0 ;
  let x1 := decide (x0 ≥ 0);
  .leaf x1)
def slices_ContainsFunc___impl_Look_impl_Look__impl_AreLooks_1 (a0 : List Look) : Bool := (slices_ContainsFunc___impl_Look_impl_Look__impl_AreLooks_1_tree a0).val
def slices_ContainsFunc___impl_Look_impl_Look__impl_AreLooks_1_need (a0 : List Look) : Bool := (slices_ContainsFunc___impl_Look_impl_Look__impl_AreLooks_1_tree a0).ok
def slices_ContainsFunc___impl_Look_impl_Look__impl_AreLooks_1_mk (p : Bool) : Ret := ⟨.bool p, []⟩
def slices_ContainsFunc___impl_Look_impl_Look__impl_AreLooks_1_c0 : Con := fun args => match args with
  | [.vslc 1 .look a0, .func (.func 43) [] []] => some (.need (slices_ContainsFunc___impl_Look_impl_Look__impl_AreLooks_1_need a0) (.leaf (slices_ContainsFunc___impl_Look_impl_Look__impl_AreLooks_1_mk (slices_ContainsFunc___impl_Look_impl_Look__impl_AreLooks_1 a0))))
  | _ => none
set_option maxRecDepth 100000 in
theorem slices_ContainsFunc___impl_Look_impl_Look__impl_AreLooks_1_ok0 : FunOK Tryz.prog 42 slices_ContainsFunc___impl_Look_impl_Look__impl_AreLooks_1_c0.fn := by
  refine con_ok (Γ := gam [(85, slices_IndexFunc___impl_Look_impl_Look__impl_AreLooks_1_c)]) (gam_cons slices_IndexFunc___impl_Look_impl_Look__impl_AreLooks_1_ok (gam_nil)) tab_ok (by kernel_rfl) Tryz.func42 (by kernel_rfl) (by kernel_rfl) Tryz.ntmps42 Tryz.results42 (loopsOK_none rfl _) 100000 fun args t h => ?_
  unfold slices_ContainsFunc___impl_Look_impl_Look__impl_AreLooks_1_c0 at h
  split at h
  · rename_i a0
    cases h
    exact ⟨rfl, agree_need (mk := slices_ContainsFunc___impl_Look_impl_Look__impl_AreLooks_1_mk) (t := slices_ContainsFunc___impl_Look_impl_Look__impl_AreLooks_1_tree a0) (by unfold Agree; kernel_rfl)⟩
  · cases h
def slices_ContainsFunc___impl_Look_impl_Look__impl_AreLooks_1_c : Con := fun args => slices_ContainsFunc___impl_Look_impl_Look__impl_AreLooks_1_c0 (norms 0 [.slc .look, .none] args)
set_option maxRecDepth 100000 in
theorem slices_ContainsFunc___impl_Look_impl_Look__impl_AreLooks_1_ok : FunOK Tryz.prog 42 slices_ContainsFunc___impl_Look_impl_Look__impl_AreLooks_1_c.fn := con_norm [.slc .look, .none] slices_ContainsFunc___impl_Look_impl_Look__impl_AreLooks_1_ok0

/-- loop.example/g01284/impl.AreLooks -/
def impl_AreLooks_tree (a0 : List Look) : DT (Bool) :=
  let x0 := ((List.length a0 : Nat) : Int);
  let x1 := decide (x0 ≤ 24);
  .ask x1
  (
   .need ((slices_ContainsFunc___impl_Look_impl_Look__impl_AreLooks_1_need a0 )) (
   let x2 := slices_ContainsFunc___impl_Look_impl_Look__impl_AreLooks_1 a0 ;
   .leaf (!x2)))
  (
   .leaf false)
def impl_AreLooks (a0 : List Look) : Bool := (impl_AreLooks_tree a0).val
def impl_AreLooks_need (a0 : List Look) : Bool := (impl_AreLooks_tree a0).ok
def impl_AreLooks_mk (p : Bool) : Ret := ⟨.bool p, []⟩
def impl_AreLooks_c0 : Con := fun args => match args with
  | [.vslc 1 .look a0] => some (.need (impl_AreLooks_need a0) (.leaf (impl_AreLooks_mk (impl_AreLooks a0))))
  | _ => none
set_option maxRecDepth 100000 in
theorem impl_AreLooks_ok0 : FunOK Tryz.prog 19 impl_AreLooks_c0.fn := by
  refine con_ok (Γ := gam [(42, slices_ContainsFunc___impl_Look_impl_Look__impl_AreLooks_1_c)]) (gam_cons slices_ContainsFunc___impl_Look_impl_Look__impl_AreLooks_1_ok (gam_nil)) tab_ok (by kernel_rfl) Tryz.func19 (by kernel_rfl) (by kernel_rfl) Tryz.ntmps19 Tryz.results19 (loopsOK_none rfl _) 100000 fun args t h => ?_
  unfold impl_AreLooks_c0 at h
  split at h
  · rename_i a0
    cases h
    exact ⟨rfl, agree_need (mk := impl_AreLooks_mk) (t := impl_AreLooks_tree a0) (by unfold Agree; kernel_rfl)⟩
  · cases h
def impl_AreLooks_c : Con := fun args => impl_AreLooks_c0 (norms 0 [.slc .look] args)
set_option maxRecDepth 100000 in
theorem impl_AreLooks_ok : FunOK Tryz.prog 19 impl_AreLooks_c.fn := con_norm [.slc .look] impl_AreLooks_ok0

/-- loop.example/g01284/impl.LookAt -/
def impl_LookAt_tree (a0 : Orbit) (a1 : Nat) (a2 : Nat) : DT (Look × Bool) :=
  .need ((impl_LaterOrbit_need (⟨a0.Long, a0.Round, a0.Tilt, a0.Node, a0.Peri, a0.Phase⟩ : Orbit) a1 a2)) (
  let x0 := impl_LaterOrbit (⟨a0.Long, a0.Round, a0.Tilt, a0.Node, a0.Peri, a0.Phase⟩ : Orbit) a1 a2;
  .need ((impl_StateOf_need (⟨x0.1.Long, x0.1.Round, x0.1.Tilt, x0.1.Node, x0.1.Peri, x0.1.Phase⟩ : Orbit) a1)) (
  let x1 := impl_StateOf (⟨x0.1.Long, x0.1.Round, x0.1.Tilt, x0.1.Node, x0.1.Peri, x0.1.Phase⟩ : Orbit) a1;
  .ask (!x0.2)
  (
   .leaf ((⟨0, 0, 0, 0, 0⟩ : Look), false))
  (
   .ask (!x1.2.2)
   (
    .leaf ((⟨0, 0, 0, 0, 0⟩ : Look), false))
   (
    .need ((impl_AngleTurns_need x1.1.Y x1.1.X)) (
    let x2 := impl_AngleTurns x1.1.Y x1.1.X;
    let x3 := fmul .f32 x1.1.X x1.1.X;
    let x4 := fmul .f32 x1.1.Y x1.1.Y;
    let x5 := fadd .f32 x3 x4;
    .need ((impl_RootNumber_need x5)) (
    let x6 := impl_RootNumber x5;
    .need ((impl_AngleTurns_need x1.1.Z x6)) (
    let x7 := impl_AngleTurns x1.1.Z x6;
    .need ((impl_SizeOfVector_need (⟨x1.1.X, x1.1.Y, x1.1.Z⟩ : Vec))) (
    let x8 := impl_SizeOfVector (⟨x1.1.X, x1.1.Y, x1.1.Z⟩ : Vec);
    .need ((impl_AreLooks_need ([(⟨a2, x2, x7, x8, 1065353216⟩ : Look)]))) (
    let x9 := impl_AreLooks ([(⟨a2, x2, x7, x8, 1065353216⟩ : Look)]);
    .ask (!x9)
    (
     .leaf ((⟨0, 0, 0, 0, 0⟩ : Look), false))
    (
     .leaf ((⟨a2, x2, x7, x8, 1065353216⟩ : Look), true)))))))))))
def impl_LookAt (a0 : Orbit) (a1 : Nat) (a2 : Nat) : Look × Bool := (impl_LookAt_tree a0 a1 a2).val
def impl_LookAt_need (a0 : Orbit) (a1 : Nat) (a2 : Nat) : Bool := (impl_LookAt_tree a0 a1 a2).ok
def impl_LookAt_mk (p : Look × Bool) : Ret := ⟨.tup [.agg [.flt .f32 p.1.Time, .flt .f32 p.1.Right, .flt .f32 p.1.Up, .flt .f32 p.1.Far, .flt .f32 p.1.Weight], .bool p.2], []⟩
def impl_LookAt_c : Con := fun args => match args with
  | [.agg [.flt .f32 a0_0, .flt .f32 a0_1, .flt .f32 a0_2, .flt .f32 a0_3, .flt .f32 a0_4, .flt .f32 a0_5], .flt .f32 a1, .flt .f32 a2] => some (.need (impl_LookAt_need (⟨a0_0, a0_1, a0_2, a0_3, a0_4, a0_5⟩ : Orbit) a1 a2) (.leaf (impl_LookAt_mk (impl_LookAt (⟨a0_0, a0_1, a0_2, a0_3, a0_4, a0_5⟩ : Orbit) a1 a2))))
  | _ => none
set_option maxRecDepth 100000 in
theorem impl_LookAt_ok : FunOK Tryz.prog 9 impl_LookAt_c.fn := by
  refine con_ok (Γ := gam [(28, impl_LaterOrbit_c), (29, impl_StateOf_c), (30, impl_AngleTurns_c), (31, impl_RootNumber_c), (32, impl_SizeOfVector_c), (19, impl_AreLooks_c)]) (gam_cons impl_LaterOrbit_ok (gam_cons impl_StateOf_ok (gam_cons impl_AngleTurns_ok (gam_cons impl_RootNumber_ok (gam_cons impl_SizeOfVector_ok (gam_cons impl_AreLooks_ok (gam_nil))))))) tab_ok (by kernel_rfl) Tryz.func9 (by kernel_rfl) (by kernel_rfl) Tryz.ntmps9 Tryz.results9 (loopsOK_none rfl _) 100000 fun args t h => ?_
  unfold impl_LookAt_c at h
  split at h
  · rename_i a0_0 a0_1 a0_2 a0_3 a0_4 a0_5 a1 a2
    cases h
    exact ⟨rfl, agree_need (mk := impl_LookAt_mk) (t := impl_LookAt_tree (⟨a0_0, a0_1, a0_2, a0_3, a0_4, a0_5⟩ : Orbit) a1 a2) (by unfold Agree; kernel_rfl)⟩
  · cases h

/-- loop.example/g01284/spec.l01SineWide -/
def spec_l01SineWide_tree (a0 : Nat) : DT (Nat) :=
  let x0 := fsub .f64 a0 a0;
  let x1 := fne .f64 x0 0;
  .ask x1
  (
   let x2 := math_NaN ;
   .leaf x2)
  (
   let x2 := fge .f64 a0 4841369599423283200;
   .ask x2
   (
    .leaf 0)
   (
    let x3 := fle .f64 a0 14064741636278059008;
    .ask x3
    (
     .leaf 0)
    (
     .need ((ftoIntOk .f64 a0 .i64)) (
     let x4 := ftoInt .f64 a0;
     let x5 := fofInt .f64 x4;
     let x6 := fsub .f64 a0 x5;
     let x7 := flt .f64 x6 0;
     .ask x7
     (
      let x8 := fadd .f64 x6 4607182418800017408;
      let x9 := fge .f64 x8 4602678819172646912;
      .ask x9
      (
       let x10 := fsub .f64 x8 4602678819172646912;
       let x11 := fgt .f64 x10 4598175219545276416;
       .ask x11
       (
        let x12 := fsub .f64 4602678819172646912 x10;
        let x13 := fmul .f64 x12 4618760256179416344;
        let x14 := fmul .f64 x13 x13;
        .skip (
        let x15 := fmul .f64 x14 4607182418800017408;
        let x16 := fofInt .f64 272;
        let x17 := fdiv .f64 x15 x16;
        let x18 := fsub .f64 4607182418800017408 x17;
        .skip (
        let x19 := fmul .f64 x14 x18;
        let x20 := fofInt .f64 210;
        let x21 := fdiv .f64 x19 x20;
        let x22 := fsub .f64 4607182418800017408 x21;
        .skip (
        let x23 := fmul .f64 x14 x22;
        let x24 := fofInt .f64 156;
        let x25 := fdiv .f64 x23 x24;
        let x26 := fsub .f64 4607182418800017408 x25;
        .skip (
        let x27 := fmul .f64 x14 x26;
        let x28 := fofInt .f64 110;
        let x29 := fdiv .f64 x27 x28;
        let x30 := fsub .f64 4607182418800017408 x29;
        .skip (
        let x31 := fmul .f64 x14 x30;
        let x32 := fofInt .f64 72;
        let x33 := fdiv .f64 x31 x32;
        let x34 := fsub .f64 4607182418800017408 x33;
        .skip (
        let x35 := fmul .f64 x14 x34;
        let x36 := fofInt .f64 42;
        let x37 := fdiv .f64 x35 x36;
        let x38 := fsub .f64 4607182418800017408 x37;
        .skip (
        let x39 := fmul .f64 x14 x38;
        let x40 := fofInt .f64 20;
        let x41 := fdiv .f64 x39 x40;
        let x42 := fsub .f64 4607182418800017408 x41;
        .skip (
        let x43 := fmul .f64 x14 x42;
        let x44 := fofInt .f64 6;
        let x45 := fdiv .f64 x43 x44;
        let x46 := fsub .f64 4607182418800017408 x45;
        .skip (
        .ask x9
        (
         let x47 := fmul .f64 x13 x46;
         let x48 := fneg .f64 x47;
         .leaf x48)
        (
         let x47 := fmul .f64 x13 x46;
         .leaf x47)))))))))))
       (
        let x12 := fmul .f64 x10 4618760256179416344;
        let x13 := fmul .f64 x12 x12;
        .skip (
        let x14 := fmul .f64 x13 4607182418800017408;
        let x15 := fofInt .f64 272;
        let x16 := fdiv .f64 x14 x15;
        let x17 := fsub .f64 4607182418800017408 x16;
        .skip (
        let x18 := fmul .f64 x13 x17;
        let x19 := fofInt .f64 210;
        let x20 := fdiv .f64 x18 x19;
        let x21 := fsub .f64 4607182418800017408 x20;
        .skip (
        let x22 := fmul .f64 x13 x21;
        let x23 := fofInt .f64 156;
        let x24 := fdiv .f64 x22 x23;
        let x25 := fsub .f64 4607182418800017408 x24;
        .skip (
        let x26 := fmul .f64 x13 x25;
        let x27 := fofInt .f64 110;
        let x28 := fdiv .f64 x26 x27;
        let x29 := fsub .f64 4607182418800017408 x28;
        .skip (
        let x30 := fmul .f64 x13 x29;
        let x31 := fofInt .f64 72;
        let x32 := fdiv .f64 x30 x31;
        let x33 := fsub .f64 4607182418800017408 x32;
        .skip (
        let x34 := fmul .f64 x13 x33;
        let x35 := fofInt .f64 42;
        let x36 := fdiv .f64 x34 x35;
        let x37 := fsub .f64 4607182418800017408 x36;
        .skip (
        let x38 := fmul .f64 x13 x37;
        let x39 := fofInt .f64 20;
        let x40 := fdiv .f64 x38 x39;
        let x41 := fsub .f64 4607182418800017408 x40;
        .skip (
        let x42 := fmul .f64 x13 x41;
        let x43 := fofInt .f64 6;
        let x44 := fdiv .f64 x42 x43;
        let x45 := fsub .f64 4607182418800017408 x44;
        .skip (
        .ask x9
        (
         let x46 := fmul .f64 x12 x45;
         let x47 := fneg .f64 x46;
         .leaf x47)
        (
         let x46 := fmul .f64 x12 x45;
         .leaf x46))))))))))))
      (
       let x10 := fgt .f64 x8 4598175219545276416;
       .ask x10
       (
        let x11 := fsub .f64 4602678819172646912 x8;
        let x12 := fmul .f64 x11 4618760256179416344;
        let x13 := fmul .f64 x12 x12;
        .skip (
        let x14 := fmul .f64 x13 4607182418800017408;
        let x15 := fofInt .f64 272;
        let x16 := fdiv .f64 x14 x15;
        let x17 := fsub .f64 4607182418800017408 x16;
        .skip (
        let x18 := fmul .f64 x13 x17;
        let x19 := fofInt .f64 210;
        let x20 := fdiv .f64 x18 x19;
        let x21 := fsub .f64 4607182418800017408 x20;
        .skip (
        let x22 := fmul .f64 x13 x21;
        let x23 := fofInt .f64 156;
        let x24 := fdiv .f64 x22 x23;
        let x25 := fsub .f64 4607182418800017408 x24;
        .skip (
        let x26 := fmul .f64 x13 x25;
        let x27 := fofInt .f64 110;
        let x28 := fdiv .f64 x26 x27;
        let x29 := fsub .f64 4607182418800017408 x28;
        .skip (
        let x30 := fmul .f64 x13 x29;
        let x31 := fofInt .f64 72;
        let x32 := fdiv .f64 x30 x31;
        let x33 := fsub .f64 4607182418800017408 x32;
        .skip (
        let x34 := fmul .f64 x13 x33;
        let x35 := fofInt .f64 42;
        let x36 := fdiv .f64 x34 x35;
        let x37 := fsub .f64 4607182418800017408 x36;
        .skip (
        let x38 := fmul .f64 x13 x37;
        let x39 := fofInt .f64 20;
        let x40 := fdiv .f64 x38 x39;
        let x41 := fsub .f64 4607182418800017408 x40;
        .skip (
        let x42 := fmul .f64 x13 x41;
        let x43 := fofInt .f64 6;
        let x44 := fdiv .f64 x42 x43;
        let x45 := fsub .f64 4607182418800017408 x44;
        .skip (
        .ask x9
        (
         let x46 := fmul .f64 x12 x45;
         let x47 := fneg .f64 x46;
         .leaf x47)
        (
         let x46 := fmul .f64 x12 x45;
         .leaf x46)))))))))))
       (
        let x11 := fmul .f64 x8 4618760256179416344;
        let x12 := fmul .f64 x11 x11;
        .skip (
        let x13 := fmul .f64 x12 4607182418800017408;
        let x14 := fofInt .f64 272;
        let x15 := fdiv .f64 x13 x14;
        let x16 := fsub .f64 4607182418800017408 x15;
        .skip (
        let x17 := fmul .f64 x12 x16;
        let x18 := fofInt .f64 210;
        let x19 := fdiv .f64 x17 x18;
        let x20 := fsub .f64 4607182418800017408 x19;
        .skip (
        let x21 := fmul .f64 x12 x20;
        let x22 := fofInt .f64 156;
        let x23 := fdiv .f64 x21 x22;
        let x24 := fsub .f64 4607182418800017408 x23;
        .skip (
        let x25 := fmul .f64 x12 x24;
        let x26 := fofInt .f64 110;
        let x27 := fdiv .f64 x25 x26;
        let x28 := fsub .f64 4607182418800017408 x27;
        .skip (
        let x29 := fmul .f64 x12 x28;
        let x30 := fofInt .f64 72;
        let x31 := fdiv .f64 x29 x30;
        let x32 := fsub .f64 4607182418800017408 x31;
        .skip (
        let x33 := fmul .f64 x12 x32;
        let x34 := fofInt .f64 42;
        let x35 := fdiv .f64 x33 x34;
        let x36 := fsub .f64 4607182418800017408 x35;
        .skip (
        let x37 := fmul .f64 x12 x36;
        let x38 := fofInt .f64 20;
        let x39 := fdiv .f64 x37 x38;
        let x40 := fsub .f64 4607182418800017408 x39;
        .skip (
        let x41 := fmul .f64 x12 x40;
        let x42 := fofInt .f64 6;
        let x43 := fdiv .f64 x41 x42;
        let x44 := fsub .f64 4607182418800017408 x43;
        .skip (
        .ask x9
        (
         let x45 := fmul .f64 x11 x44;
         let x46 := fneg .f64 x45;
         .leaf x46)
        (
         let x45 := fmul .f64 x11 x44;
         .leaf x45)))))))))))))
     (
      let x8 := fge .f64 x6 4602678819172646912;
      .ask x8
      (
       let x9 := fsub .f64 x6 4602678819172646912;
       let x10 := fgt .f64 x9 4598175219545276416;
       .ask x10
       (
        let x11 := fsub .f64 4602678819172646912 x9;
        let x12 := fmul .f64 x11 4618760256179416344;
        let x13 := fmul .f64 x12 x12;
        .skip (
        let x14 := fmul .f64 x13 4607182418800017408;
        let x15 := fofInt .f64 272;
        let x16 := fdiv .f64 x14 x15;
        let x17 := fsub .f64 4607182418800017408 x16;
        .skip (
        let x18 := fmul .f64 x13 x17;
        let x19 := fofInt .f64 210;
        let x20 := fdiv .f64 x18 x19;
        let x21 := fsub .f64 4607182418800017408 x20;
        .skip (
        let x22 := fmul .f64 x13 x21;
        let x23 := fofInt .f64 156;
        let x24 := fdiv .f64 x22 x23;
        let x25 := fsub .f64 4607182418800017408 x24;
        .skip (
        let x26 := fmul .f64 x13 x25;
        let x27 := fofInt .f64 110;
        let x28 := fdiv .f64 x26 x27;
        let x29 := fsub .f64 4607182418800017408 x28;
        .skip (
        let x30 := fmul .f64 x13 x29;
        let x31 := fofInt .f64 72;
        let x32 := fdiv .f64 x30 x31;
        let x33 := fsub .f64 4607182418800017408 x32;
        .skip (
        let x34 := fmul .f64 x13 x33;
        let x35 := fofInt .f64 42;
        let x36 := fdiv .f64 x34 x35;
        let x37 := fsub .f64 4607182418800017408 x36;
        .skip (
        let x38 := fmul .f64 x13 x37;
        let x39 := fofInt .f64 20;
        let x40 := fdiv .f64 x38 x39;
        let x41 := fsub .f64 4607182418800017408 x40;
        .skip (
        let x42 := fmul .f64 x13 x41;
        let x43 := fofInt .f64 6;
        let x44 := fdiv .f64 x42 x43;
        let x45 := fsub .f64 4607182418800017408 x44;
        .skip (
        .ask x8
        (
         let x46 := fmul .f64 x12 x45;
         let x47 := fneg .f64 x46;
         .leaf x47)
        (
         let x46 := fmul .f64 x12 x45;
         .leaf x46)))))))))))
       (
        let x11 := fmul .f64 x9 4618760256179416344;
        let x12 := fmul .f64 x11 x11;
        .skip (
        let x13 := fmul .f64 x12 4607182418800017408;
        let x14 := fofInt .f64 272;
        let x15 := fdiv .f64 x13 x14;
        let x16 := fsub .f64 4607182418800017408 x15;
        .skip (
        let x17 := fmul .f64 x12 x16;
        let x18 := fofInt .f64 210;
        let x19 := fdiv .f64 x17 x18;
        let x20 := fsub .f64 4607182418800017408 x19;
        .skip (
        let x21 := fmul .f64 x12 x20;
        let x22 := fofInt .f64 156;
        let x23 := fdiv .f64 x21 x22;
        let x24 := fsub .f64 4607182418800017408 x23;
        .skip (
        let x25 := fmul .f64 x12 x24;
        let x26 := fofInt .f64 110;
        let x27 := fdiv .f64 x25 x26;
        let x28 := fsub .f64 4607182418800017408 x27;
        .skip (
        let x29 := fmul .f64 x12 x28;
        let x30 := fofInt .f64 72;
        let x31 := fdiv .f64 x29 x30;
        let x32 := fsub .f64 4607182418800017408 x31;
        .skip (
        let x33 := fmul .f64 x12 x32;
        let x34 := fofInt .f64 42;
        let x35 := fdiv .f64 x33 x34;
        let x36 := fsub .f64 4607182418800017408 x35;
        .skip (
        let x37 := fmul .f64 x12 x36;
        let x38 := fofInt .f64 20;
        let x39 := fdiv .f64 x37 x38;
        let x40 := fsub .f64 4607182418800017408 x39;
        .skip (
        let x41 := fmul .f64 x12 x40;
        let x42 := fofInt .f64 6;
        let x43 := fdiv .f64 x41 x42;
        let x44 := fsub .f64 4607182418800017408 x43;
        .skip (
        .ask x8
        (
         let x45 := fmul .f64 x11 x44;
         let x46 := fneg .f64 x45;
         .leaf x46)
        (
         let x45 := fmul .f64 x11 x44;
         .leaf x45))))))))))))
      (
       let x9 := fgt .f64 x6 4598175219545276416;
       .ask x9
       (
        let x10 := fsub .f64 4602678819172646912 x6;
        let x11 := fmul .f64 x10 4618760256179416344;
        let x12 := fmul .f64 x11 x11;
        .skip (
        let x13 := fmul .f64 x12 4607182418800017408;
        let x14 := fofInt .f64 272;
        let x15 := fdiv .f64 x13 x14;
        let x16 := fsub .f64 4607182418800017408 x15;
        .skip (
        let x17 := fmul .f64 x12 x16;
        let x18 := fofInt .f64 210;
        let x19 := fdiv .f64 x17 x18;
        let x20 := fsub .f64 4607182418800017408 x19;
        .skip (
        let x21 := fmul .f64 x12 x20;
        let x22 := fofInt .f64 156;
        let x23 := fdiv .f64 x21 x22;
        let x24 := fsub .f64 4607182418800017408 x23;
        .skip (
        let x25 := fmul .f64 x12 x24;
        let x26 := fofInt .f64 110;
        let x27 := fdiv .f64 x25 x26;
        let x28 := fsub .f64 4607182418800017408 x27;
        .skip (
        let x29 := fmul .f64 x12 x28;
        let x30 := fofInt .f64 72;
        let x31 := fdiv .f64 x29 x30;
        let x32 := fsub .f64 4607182418800017408 x31;
        .skip (
        let x33 := fmul .f64 x12 x32;
        let x34 := fofInt .f64 42;
        let x35 := fdiv .f64 x33 x34;
        let x36 := fsub .f64 4607182418800017408 x35;
        .skip (
        let x37 := fmul .f64 x12 x36;
        let x38 := fofInt .f64 20;
        let x39 := fdiv .f64 x37 x38;
        let x40 := fsub .f64 4607182418800017408 x39;
        .skip (
        let x41 := fmul .f64 x12 x40;
        let x42 := fofInt .f64 6;
        let x43 := fdiv .f64 x41 x42;
        let x44 := fsub .f64 4607182418800017408 x43;
        .skip (
        .ask x8
        (
         let x45 := fmul .f64 x11 x44;
         let x46 := fneg .f64 x45;
         .leaf x46)
        (
         let x45 := fmul .f64 x11 x44;
         .leaf x45)))))))))))
       (
        let x10 := fmul .f64 x6 4618760256179416344;
        let x11 := fmul .f64 x10 x10;
        .skip (
        let x12 := fmul .f64 x11 4607182418800017408;
        let x13 := fofInt .f64 272;
        let x14 := fdiv .f64 x12 x13;
        let x15 := fsub .f64 4607182418800017408 x14;
        .skip (
        let x16 := fmul .f64 x11 x15;
        let x17 := fofInt .f64 210;
        let x18 := fdiv .f64 x16 x17;
        let x19 := fsub .f64 4607182418800017408 x18;
        .skip (
        let x20 := fmul .f64 x11 x19;
        let x21 := fofInt .f64 156;
        let x22 := fdiv .f64 x20 x21;
        let x23 := fsub .f64 4607182418800017408 x22;
        .skip (
        let x24 := fmul .f64 x11 x23;
        let x25 := fofInt .f64 110;
        let x26 := fdiv .f64 x24 x25;
        let x27 := fsub .f64 4607182418800017408 x26;
        .skip (
        let x28 := fmul .f64 x11 x27;
        let x29 := fofInt .f64 72;
        let x30 := fdiv .f64 x28 x29;
        let x31 := fsub .f64 4607182418800017408 x30;
        .skip (
        let x32 := fmul .f64 x11 x31;
        let x33 := fofInt .f64 42;
        let x34 := fdiv .f64 x32 x33;
        let x35 := fsub .f64 4607182418800017408 x34;
        .skip (
        let x36 := fmul .f64 x11 x35;
        let x37 := fofInt .f64 20;
        let x38 := fdiv .f64 x36 x37;
        let x39 := fsub .f64 4607182418800017408 x38;
        .skip (
        let x40 := fmul .f64 x11 x39;
        let x41 := fofInt .f64 6;
        let x42 := fdiv .f64 x40 x41;
        let x43 := fsub .f64 4607182418800017408 x42;
        .skip (
        .ask x8
        (
         let x44 := fmul .f64 x10 x43;
         let x45 := fneg .f64 x44;
         .leaf x45)
        (
         let x44 := fmul .f64 x10 x43;
         .leaf x44)))))))))))))))))
def spec_l01SineWide (a0 : Nat) : Nat := (spec_l01SineWide_tree a0).val
def spec_l01SineWide_need (a0 : Nat) : Bool := (spec_l01SineWide_tree a0).ok
def spec_l01SineWide_mk (p : Nat) : Ret := ⟨.flt .f64 p, []⟩
def spec_l01SineWide_c : Con := fun args => match args with
  | [.flt .f64 a0] => some (.need (spec_l01SineWide_need a0) (.leaf (spec_l01SineWide_mk (spec_l01SineWide a0))))
  | _ => none
set_option maxRecDepth 100000 in
theorem spec_l01SineWide_ok : FunOK Tryz.prog 100 spec_l01SineWide_c.fn := by
  refine con_ok (Γ := gam [(64, math_NaN_c)]) (gam_cons math_NaN_ok (gam_nil)) tab_ok (by kernel_rfl) Tryz.func100 (by kernel_rfl) (by kernel_rfl) Tryz.ntmps100 Tryz.results100 (loopsOK_none rfl _) 100000 fun args t h => ?_
  unfold spec_l01SineWide_c at h
  split at h
  · rename_i a0
    cases h
    exact ⟨rfl, agree_need (mk := spec_l01SineWide_mk) (t := spec_l01SineWide_tree a0) (by unfold Agree; kernel_rfl)⟩
  · cases h

end
end Go.Proofs.YtfbnehkbialkaaaGreat
