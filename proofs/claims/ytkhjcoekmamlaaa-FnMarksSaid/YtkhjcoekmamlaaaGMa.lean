/- THE WALK, BY A PROGRAM: typed functions, and that the code is they. -/
import Derived.Test.YtkhjcoekmamlaaaFrom
namespace Go.Proofs.Ytkhjcoekmamlaaa
set_option linter.unusedVariables false
set_option linter.unusedSimpArgs false
open Go.Extern
noncomputable section

set_option maxRecDepth 100000 in
theorem math_Float64bits_ok : FunOK Try.prog 85 math_Float64bits_c.fn := bits64_ok (run_callFunc_extern Try.func85 (by kernel_rfl) (by kernel_rfl) (by kernel_rfl) (by kernel_rfl))

set_option maxRecDepth 100000 in
theorem math_Float64frombits_ok : FunOK Try.prog 83 math_Float64frombits_c.fn := frombits64_ok (run_callFunc_extern Try.func83 (by kernel_rfl) (by kernel_rfl) (by kernel_rfl) (by kernel_rfl))

set_option maxRecDepth 100000 in
theorem math_archTrunc_ok : FunOK Try.prog 95 math_archTrunc_c.fn := trunc_ok (run_callFunc_extern Try.func95 (by kernel_rfl) (by kernel_rfl) (by kernel_rfl) (by kernel_rfl))

set_option maxRecDepth 100000 in
theorem math_sqrt_ok : FunOK Try.prog 82 math_sqrt_c.fn := sqrt_ok (run_callFunc_extern Try.func82 (by kernel_rfl) (by kernel_rfl) (by kernel_rfl) (by kernel_rfl))

set_option maxRecDepth 100000 in
theorem math_archFloor_ok : FunOK Try.prog 90 math_archFloor_c.fn := floor_ok (run_callFunc_extern Try.func90 (by kernel_rfl) (by kernel_rfl) (by kernel_rfl) (by kernel_rfl))

/-- loop.example/g01284/laws.r8Long -/
def laws_r8Long_tree (a0 : List Int) (a1 : List Int) : DT (Bool) :=
  let x0 := ((List.length a0 : Nat) : Int);
  let x1 := decide (x0 > 48);
  .ask x1
  (
   .leaf true)
  (
   let x2 := ((List.length a1 : Nat) : Int);
   let x3 := decide (x2 > 48);
   .leaf x3)
def laws_r8Long (a0 : List Int) (a1 : List Int) : Bool := (laws_r8Long_tree a0 a1).val
def laws_r8Long_mk (p : Bool) : Ret := ⟨.bool p, []⟩
def laws_r8Long_c0 : Con := fun args => match args with
  | [.vslc 1 (.int .u8) a0, .vslc 2 (.int .u8) a1] => some (.leaf (laws_r8Long_mk (laws_r8Long a0 a1)))
  | _ => none
set_option maxRecDepth 100000 in
theorem laws_r8Long_ok0 : FunOK Try.prog 5 laws_r8Long_c0.fn := by
  refine con_ok (Γ := gam []) (gam_nil) tab_ok (by kernel_rfl) Try.func5 (by kernel_rfl) (by kernel_rfl) Try.ntmps5 Try.results5 (loopsOK_none rfl _) 100000 fun args t h => ?_
  unfold laws_r8Long_c0 at h
  split at h
  · rename_i a0 a1
    cases h
    exact ⟨rfl, agree_tot (mk := laws_r8Long_mk) (t := laws_r8Long_tree a0 a1) (by unfold Agree; kernel_rfl) (by kernel_rfl)⟩
  · cases h
def laws_r8Long_c : Con := fun args => laws_r8Long_c0 (norms 0 [.slc (.int .u8), .slc (.int .u8)] args)
set_option maxRecDepth 100000 in
theorem laws_r8Long_ok : FunOK Try.prog 5 laws_r8Long_c.fn := con_norm [.slc (.int .u8), .slc (.int .u8)] laws_r8Long_ok0

/-- (*loop.example/g01284/spec.l00Src).next -/
def spec_l00Src_next_tree (a0_0 : List Int) (a0_1 : Int) (a0_2 : Int) : DT (Int × Int × Int) :=
  let x0 := ((List.length a0_0 : Nat) : Int);
  let x1 := decide (a0_1 < x0);
  .ask x1
  (
   .need ((decide (0 ≤ a0_1) && decide (a0_1 < ((List.length a0_0 : Nat) : Int)))) (
   let x2 := List.getD a0_0 (Int.toNat a0_1) default;
   let x3 := IntKind.wrap .i64 x2;
   let x4 := IntKind.wrap .i64 (a0_1 + 1);
   let x5 := IntKind.wrap .u64 (a0_2 * 6364136223846793005);
   let x6 := IntKind.wrap .u64 x3;
   let x7 := IntKind.wrap .u64 (x5 + x6);
   let x8 := IntKind.wrap .u64 (x7 + 1442695040888963407);
   let x9 := ((List.length a0_0 : Nat) : Int);
   let x10 := decide (x4 ≤ x9);
   .ask x10
   (
    .leaf (x3, x4, x8))
   (
    .skip (
    let x11 := Int.fdiv x8 (2 ^ (min (Int.toNat 40) (IntKind.bits .u64)));
    let x12 := IntKind.wrap .u64 (BitVec.ofInt (IntKind.bits .u64) x11 &&& BitVec.ofInt (IntKind.bits .u64) 255).toNat;
    let x13 := IntKind.wrap .i64 x12;
    .leaf (x13, x4, x8)))))
  (
   let x2 := IntKind.wrap .i64 (a0_1 + 1);
   let x3 := IntKind.wrap .u64 (a0_2 * 6364136223846793005);
   let x4 := IntKind.wrap .u64 (x3 + 0);
   let x5 := IntKind.wrap .u64 (x4 + 1442695040888963407);
   let x6 := ((List.length a0_0 : Nat) : Int);
   let x7 := decide (x2 ≤ x6);
   .ask x7
   (
    .leaf (0, x2, x5))
   (
    .skip (
    let x8 := Int.fdiv x5 (2 ^ (min (Int.toNat 40) (IntKind.bits .u64)));
    let x9 := IntKind.wrap .u64 (BitVec.ofInt (IntKind.bits .u64) x8 &&& BitVec.ofInt (IntKind.bits .u64) 255).toNat;
    let x10 := IntKind.wrap .i64 x9;
    .leaf (x10, x2, x5))))
def spec_l00Src_next (a0_0 : List Int) (a0_1 : Int) (a0_2 : Int) : Int × Int × Int := (spec_l00Src_next_tree a0_0 a0_1 a0_2).val
def spec_l00Src_next_need (a0_0 : List Int) (a0_1 : Int) (a0_2 : Int) : Bool := (spec_l00Src_next_tree a0_0 a0_1 a0_2).ok
def spec_l00Src_next_mk (p : Int × Int × Int) : PV × List (Option PV) := (.int .i64 p.1, [none, some (.int .i64 p.2.1), some (.int .u64 p.2.2)])
def spec_l00Src_next_M : BCon := fun cs ps => match cs, ps with
  | [.vslc 0 (.int .u8) a0_0, .int .i64 a0_1, .int .u64 a0_2], [] => some (.need (spec_l00Src_next_need a0_0 a0_1 a0_2) (.leaf (spec_l00Src_next_mk (spec_l00Src_next a0_0 a0_1 a0_2))))
  | _, _ => none
set_option maxRecDepth 100000 in
theorem spec_l00Src_next_ok : BoxOK Try.prog 61 spec_l00Src_next_M := by
  refine box_ok (Γ := gam []) (gam_nil) tab_ok (by kernel_rfl) Try.func61 (by kernel_rfl) (by kernel_rfl) Try.ntmps61 Try.results61 (loopsOK_none rfl _) 100000 fun cs ps t h => ?_
  unfold spec_l00Src_next_M at h
  split at h
  · rename_i a0_0 a0_1 a0_2
    cases h
    exact ⟨rfl, agreeB_need (mk := spec_l00Src_next_mk) (t := spec_l00Src_next_tree a0_0 a0_1 a0_2) (by unfold AgreeB; kernel_rfl)⟩
  · cases h

/-- (*loop.example/g01284/spec.l00Src).pick -/
def spec_l00Src_pick_tree (a0_0 : List Int) (a0_1 : Int) (a0_2 : Int) (a1 : Int) : DT (Int × Int × Int) :=
  let x0 := decide (a1 ≤ 1);
  .ask x0
  (
   .leaf (0, a0_1, a0_2))
  (
   .need ((spec_l00Src_next_need a0_0 a0_1 a0_2)) (
   let x1 := spec_l00Src_next a0_0 a0_1 a0_2;
   let x2 := decide (a1 > 200);
   .ask x2
   (
    let x3 := IntKind.wrap .i64 (x1.1 * 256);
    .need ((spec_l00Src_next_need a0_0 x1.2.1 x1.2.2)) (
    let x4 := spec_l00Src_next a0_0 x1.2.1 x1.2.2;
    let x5 := IntKind.wrap .i64 (x3 + x4.1);
    .need ((a1 != 0)) (
    let x6 := Int.tmod x5 a1;
    .leaf (x6, x4.2.1, x4.2.2))))
   (
    .need ((a1 != 0)) (
    let x3 := Int.tmod x1.1 a1;
    .leaf (x3, x1.2.1, x1.2.2)))))
def spec_l00Src_pick (a0_0 : List Int) (a0_1 : Int) (a0_2 : Int) (a1 : Int) : Int × Int × Int := (spec_l00Src_pick_tree a0_0 a0_1 a0_2 a1).val
def spec_l00Src_pick_need (a0_0 : List Int) (a0_1 : Int) (a0_2 : Int) (a1 : Int) : Bool := (spec_l00Src_pick_tree a0_0 a0_1 a0_2 a1).ok
def spec_l00Src_pick_mk (p : Int × Int × Int) : PV × List (Option PV) := (.int .i64 p.1, [none, some (.int .i64 p.2.1), some (.int .u64 p.2.2)])
def spec_l00Src_pick_M : BCon := fun cs ps => match cs, ps with
  | [.vslc 0 (.int .u8) a0_0, .int .i64 a0_1, .int .u64 a0_2], [.int .i64 a1] => some (.need (spec_l00Src_pick_need a0_0 a0_1 a0_2 a1) (.leaf (spec_l00Src_pick_mk (spec_l00Src_pick a0_0 a0_1 a0_2 a1))))
  | _, _ => none
set_option maxRecDepth 100000 in
theorem spec_l00Src_pick_ok : BoxOK Try.prog 29 spec_l00Src_pick_M := by
  refine box_ok (Γ := gam [] [] [(61, spec_l00Src_next_M)] []) (gam_box spec_l00Src_next_ok (gam_nil)) tab_ok (by kernel_rfl) Try.func29 (by kernel_rfl) (by kernel_rfl) Try.ntmps29 Try.results29 (loopsOK_none rfl _) 100000 fun cs ps t h => ?_
  unfold spec_l00Src_pick_M at h
  split at h
  · rename_i a0_0 a0_1 a0_2 a1
    cases h
    exact ⟨rfl, agreeB_need (mk := spec_l00Src_pick_mk) (t := spec_l00Src_pick_tree a0_0 a0_1 a0_2 a1) (by unfold AgreeB; kernel_rfl)⟩
  · cases h

/-- loop.example/g01284/spec.l06DrawOk -/
def spec_l06DrawOk_tree (a0_0 : List Int) (a0_1 : Int) (a0_2 : Int) : DT (Ball × Int × Int) :=
  .need ((spec_l00Src_pick_need a0_0 a0_1 a0_2 8)) (
  let x0 := spec_l00Src_pick a0_0 a0_1 a0_2 8;
  let x1 := IntKind.wrap .i64 (1 + x0.1);
  let x2 := fofInt .f32 x1;
  let x3 := fdiv .f32 x2 1073741824;
  .need ((spec_l00Src_pick_need a0_0 x0.2.1 x0.2.2 8)) (
  let x4 := spec_l00Src_pick a0_0 x0.2.1 x0.2.2 8;
  let x5 := IntKind.wrap .i64 (1 + x4.1);
  let x6 := fofInt .f32 x5;
  let x7 := fdiv .f32 x6 1090519040;
  .need ((spec_l00Src_pick_need a0_0 x4.2.1 x4.2.2 17)) (
  let x8 := spec_l00Src_pick a0_0 x4.2.1 x4.2.2 17;
  let x9 := IntKind.wrap .i64 (x8.1 - 8);
  let x10 := fofInt .f32 x9;
  let x11 := fdiv .f32 x10 1115684864;
  .need ((spec_l00Src_pick_need a0_0 x8.2.1 x8.2.2 17)) (
  let x12 := spec_l00Src_pick a0_0 x8.2.1 x8.2.2 17;
  let x13 := IntKind.wrap .i64 (x12.1 - 8);
  let x14 := fofInt .f32 x13;
  let x15 := fdiv .f32 x14 1098907648;
  .leaf ((⟨x3, x7, x11, x15⟩ : Ball), x12.2.1, x12.2.2)))))
def spec_l06DrawOk (a0_0 : List Int) (a0_1 : Int) (a0_2 : Int) : Ball × Int × Int := (spec_l06DrawOk_tree a0_0 a0_1 a0_2).val
def spec_l06DrawOk_need (a0_0 : List Int) (a0_1 : Int) (a0_2 : Int) : Bool := (spec_l06DrawOk_tree a0_0 a0_1 a0_2).ok
def spec_l06DrawOk_mk (p : Ball × Int × Int) : PV × List (Option PV) := (.agg [.flt .f32 p.1.Mass, .flt .f32 p.1.Radius, .flt .f32 p.1.Spin, .flt .f32 p.1.Start], [none, some (.int .i64 p.2.1), some (.int .u64 p.2.2)])
def spec_l06DrawOk_M : BCon := fun cs ps => match cs, ps with
  | [.vslc 0 (.int .u8) a0_0, .int .i64 a0_1, .int .u64 a0_2], [] => some (.need (spec_l06DrawOk_need a0_0 a0_1 a0_2) (.leaf (spec_l06DrawOk_mk (spec_l06DrawOk a0_0 a0_1 a0_2))))
  | _, _ => none
set_option maxRecDepth 100000 in
theorem spec_l06DrawOk_ok : BoxOK Try.prog 28 spec_l06DrawOk_M := by
  refine box_ok (Γ := gam [] [] [(29, spec_l00Src_pick_M)] []) (gam_box spec_l00Src_pick_ok (gam_nil)) tab_ok (by kernel_rfl) Try.func28 (by kernel_rfl) (by kernel_rfl) Try.ntmps28 Try.results28 (loopsOK_none rfl _) 100000 fun cs ps t h => ?_
  unfold spec_l06DrawOk_M at h
  split at h
  · rename_i a0_0 a0_1 a0_2
    cases h
    exact ⟨rfl, agreeB_need (mk := spec_l06DrawOk_mk) (t := spec_l06DrawOk_tree a0_0 a0_1 a0_2) (by unfold AgreeB; kernel_rfl)⟩
  · cases h

/-- loop.example/g01284/spec.R8Ball -/
def spec_R8Ball_tree (a0 : List Int) : DT (Ball) :=
  .need ((spec_l06DrawOk_need a0 0 0)) (
  let x0 := spec_l06DrawOk a0 0 0;
  .leaf ((⟨x0.1.Mass, x0.1.Radius, x0.1.Spin, x0.1.Start⟩ : Ball)))
def spec_R8Ball (a0 : List Int) : Ball := (spec_R8Ball_tree a0).val
def spec_R8Ball_need (a0 : List Int) : Bool := (spec_R8Ball_tree a0).ok
def spec_R8Ball_mk (p : Ball) : Ret := ⟨.agg [.flt .f32 p.Mass, .flt .f32 p.Radius, .flt .f32 p.Spin, .flt .f32 p.Start], []⟩
def spec_R8Ball_c0 : Con := fun args => match args with
  | [.vslc 1 (.int .u8) a0] => some (.need (spec_R8Ball_need a0) (.leaf (spec_R8Ball_mk (spec_R8Ball a0))))
  | _ => none
set_option maxRecDepth 100000 in
theorem spec_R8Ball_ok0 : FunOK Try.prog 6 spec_R8Ball_c0.fn := by
  refine con_ok (Γ := gam [] [] [(28, spec_l06DrawOk_M)] [(27, spec_l00From_M)]) (gam_box spec_l06DrawOk_ok (gam_new spec_l00From_ok (gam_nil))) tab_ok (by kernel_rfl) Try.func6 (by kernel_rfl) (by kernel_rfl) Try.ntmps6 Try.results6 (loopsOK_none rfl _) 100000 fun args t h => ?_
  unfold spec_R8Ball_c0 at h
  split at h
  · rename_i a0
    cases h
    exact ⟨rfl, agree_need (mk := spec_R8Ball_mk) (t := spec_R8Ball_tree a0) (by unfold Agree; kernel_rfl)⟩
  · cases h
def spec_R8Ball_c : Con := fun args => spec_R8Ball_c0 (norms 0 [.slc (.int .u8)] args)
set_option maxRecDepth 100000 in
theorem spec_R8Ball_ok : FunOK Try.prog 6 spec_R8Ball_c.fn := con_norm [.slc (.int .u8)] spec_R8Ball_ok0

/-- loop.example/g01284/spec.R8Mark -/
def spec_R8Mark_tree (a0 : List Int) : DT (Mark) :=
  .need ((spec_l00Src_pick_need a0 0 0 29)) (
  let x0 := spec_l00Src_pick a0 0 0 29;
  let x1 := IntKind.wrap .i64 (x0.1 - 14);
  let x2 := fofInt .f32 x1;
  let x3 := fdiv .f32 x2 1115684864;
  .need ((spec_l00Src_pick_need a0 x0.2.1 x0.2.2 31)) (
  let x4 := spec_l00Src_pick a0 x0.2.1 x0.2.2 31;
  let x5 := IntKind.wrap .i64 (x4.1 - 15);
  let x6 := fofInt .f32 x5;
  let x7 := fdiv .f32 x6 1107296256;
  .need ((spec_l00Src_pick_need a0 x4.2.1 x4.2.2 5)) (
  let x8 := spec_l00Src_pick a0 x4.2.1 x4.2.2 5;
  let x9 := fofInt .f32 x8.1;
  let x10 := fdiv .f32 x9 1082130432;
  .leaf ((⟨x3, x7, x10⟩ : Mark)))))
def spec_R8Mark (a0 : List Int) : Mark := (spec_R8Mark_tree a0).val
def spec_R8Mark_need (a0 : List Int) : Bool := (spec_R8Mark_tree a0).ok
def spec_R8Mark_mk (p : Mark) : Ret := ⟨.agg [.flt .f32 p.North, .flt .f32 p.East, .flt .f32 p.High], []⟩
def spec_R8Mark_c0 : Con := fun args => match args with
  | [.vslc 1 (.int .u8) a0] => some (.need (spec_R8Mark_need a0) (.leaf (spec_R8Mark_mk (spec_R8Mark a0))))
  | _ => none
set_option maxRecDepth 100000 in
theorem spec_R8Mark_ok0 : FunOK Try.prog 7 spec_R8Mark_c0.fn := by
  refine con_ok (Γ := gam [] [] [(29, spec_l00Src_pick_M)] [(27, spec_l00From_M)]) (gam_box spec_l00Src_pick_ok (gam_new spec_l00From_ok (gam_nil))) tab_ok (by kernel_rfl) Try.func7 (by kernel_rfl) (by kernel_rfl) Try.ntmps7 Try.results7 (loopsOK_none rfl _) 100000 fun args t h => ?_
  unfold spec_R8Mark_c0 at h
  split at h
  · rename_i a0
    cases h
    exact ⟨rfl, agree_need (mk := spec_R8Mark_mk) (t := spec_R8Mark_tree a0) (by unfold Agree; kernel_rfl)⟩
  · cases h
def spec_R8Mark_c : Con := fun args => spec_R8Mark_c0 (norms 0 [.slc (.int .u8)] args)
set_option maxRecDepth 100000 in
theorem spec_R8Mark_ok : FunOK Try.prog 7 spec_R8Mark_c.fn := con_norm [.slc (.int .u8)] spec_R8Mark_ok0

/-- loop.example/g01284/laws.r8At -/
def laws_r8At_tree (a0 : List Int) (a1 : Int) (a2 : Int) : DT (Int) :=
  let x0 := decide (a2 ≤ 1);
  .ask x0
  (
   .leaf 0)
  (
   let x1 := ((List.length a0 : Nat) : Int);
   let x2 := decide (a1 ≥ x1);
   .ask x2
   (
    .leaf 0)
   (
    .need ((decide (0 ≤ a1) && decide (a1 < ((List.length a0 : Nat) : Int)))) (
    let x3 := List.getD a0 (Int.toNat a1) default;
    let x4 := IntKind.wrap .i64 x3;
    .need ((a2 != 0)) (
    let x5 := Int.tmod x4 a2;
    .leaf x5))))
def laws_r8At (a0 : List Int) (a1 : Int) (a2 : Int) : Int := (laws_r8At_tree a0 a1 a2).val
def laws_r8At_need (a0 : List Int) (a1 : Int) (a2 : Int) : Bool := (laws_r8At_tree a0 a1 a2).ok
def laws_r8At_mk (p : Int) : Ret := ⟨.int .i64 p, []⟩
def laws_r8At_c0 : Con := fun args => match args with
  | [.vslc 1 (.int .u8) a0, .int .i64 a1, .int .i64 a2] => some (.need (laws_r8At_need a0 a1 a2) (.leaf (laws_r8At_mk (laws_r8At a0 a1 a2))))
  | _ => none
set_option maxRecDepth 100000 in
theorem laws_r8At_ok0 : FunOK Try.prog 8 laws_r8At_c0.fn := by
  refine con_ok (Γ := gam []) (gam_nil) tab_ok (by kernel_rfl) Try.func8 (by kernel_rfl) (by kernel_rfl) Try.ntmps8 Try.results8 (loopsOK_none rfl _) 100000 fun args t h => ?_
  unfold laws_r8At_c0 at h
  split at h
  · rename_i a0 a1 a2
    cases h
    exact ⟨rfl, agree_need (mk := laws_r8At_mk) (t := laws_r8At_tree a0 a1 a2) (by unfold Agree; kernel_rfl)⟩
  · cases h
def laws_r8At_c : Con := fun args => laws_r8At_c0 (norms 0 [.slc (.int .u8), .none, .none] args)
set_option maxRecDepth 100000 in
theorem laws_r8At_ok : FunOK Try.prog 8 laws_r8At_c.fn := con_norm [.slc (.int .u8), .none, .none] laws_r8At_ok0

/-- math.IsNaN -/
def math_IsNaN_tree (a0 : Nat) : DT (Bool) :=
  let x0 := fne .f64 a0 a0;
  .leaf x0
def math_IsNaN (a0 : Nat) : Bool := (math_IsNaN_tree a0).val
def math_IsNaN_mk (p : Bool) : Ret := ⟨.bool p, []⟩
def math_IsNaN_c : Con := fun args => match args with
  | [.flt .f64 a0] => some (.leaf (math_IsNaN_mk (math_IsNaN a0)))
  | _ => none
set_option maxRecDepth 100000 in
theorem math_IsNaN_ok : FunOK Try.prog 80 math_IsNaN_c.fn := by
  refine con_ok (Γ := gam []) (gam_nil) tab_ok (by kernel_rfl) Try.func80 (by kernel_rfl) (by kernel_rfl) Try.ntmps80 Try.results80 (loopsOK_none rfl _) 100000 fun args t h => ?_
  unfold math_IsNaN_c at h
  split at h
  · rename_i a0
    cases h
    exact ⟨rfl, agree_tot (mk := math_IsNaN_mk) (t := math_IsNaN_tree a0) (by unfold Agree; kernel_rfl) (by kernel_rfl)⟩
  · cases h

/-- math.Abs -/
def math_Abs_tree (a0 : Nat) : DT (Nat) :=
  .ask ((isNaN .f64 a0))
  (
   .leaf 9221120237041090560)
  (
   let x0 := IntKind.wrap .u64 (BitVec.ofInt (IntKind.bits .u64) ((a0 : Nat) : Int) &&& ~~~ BitVec.ofInt (IntKind.bits .u64) 9223372036854775808).toNat;
   let x1 := canon .f64 (Int.toNat x0);
   .leaf x1)
def math_Abs (a0 : Nat) : Nat := (math_Abs_tree a0).val
def math_Abs_mk (p : Nat) : Ret := ⟨.flt .f64 p, []⟩
def math_Abs_c : Con := fun args => match args with
  | [.flt .f64 a0] => some (.leaf (math_Abs_mk (math_Abs a0)))
  | _ => none
set_option maxRecDepth 100000 in
theorem math_Abs_ok : FunOK Try.prog 72 math_Abs_c.fn := by
  refine con_ok (Γ := gam [(85, math_Float64bits_c), (83, math_Float64frombits_c)]) (gam_cons math_Float64bits_ok (gam_cons math_Float64frombits_ok (gam_nil))) tab_ok (by kernel_rfl) Try.func72 (by kernel_rfl) (by kernel_rfl) Try.ntmps72 Try.results72 (loopsOK_none rfl _) 100000 fun args t h => ?_
  unfold math_Abs_c at h
  split at h
  · rename_i a0
    cases h
    exact ⟨rfl, agree_tot (mk := math_Abs_mk) (t := math_Abs_tree a0) (by unfold Agree; kernel_rfl) (by kernel_rfl)⟩
  · cases h

/-- math.IsInf -/
def math_IsInf_tree (a0 : Nat) (a1 : Int) : DT (Bool) :=
  let x0 := (a1 == 0);
  .ask x0
  (
   let x1 := math_Abs a0;
   let x2 := fgt .f64 x1 9218868437227405311;
   .leaf x2)
  (
   let x1 := decide (a1 < 0);
   .ask x1
   (
    let x2 := fneg .f64 a0;
    let x3 := fgt .f64 x2 9218868437227405311;
    .leaf x3)
   (
    let x2 := fgt .f64 a0 9218868437227405311;
    .leaf x2))
def math_IsInf (a0 : Nat) (a1 : Int) : Bool := (math_IsInf_tree a0 a1).val
def math_IsInf_mk (p : Bool) : Ret := ⟨.bool p, []⟩
def math_IsInf_c : Con := fun args => match args with
  | [.flt .f64 a0, .int .i64 a1] => some (.leaf (math_IsInf_mk (math_IsInf a0 a1)))
  | _ => none
set_option maxRecDepth 100000 in
theorem math_IsInf_ok : FunOK Try.prog 81 math_IsInf_c.fn := by
  refine con_ok (Γ := gam [(72, math_Abs_c)]) (gam_cons math_Abs_ok (gam_nil)) tab_ok (by kernel_rfl) Try.func81 (by kernel_rfl) (by kernel_rfl) Try.ntmps81 Try.results81 (loopsOK_none rfl _) 100000 fun args t h => ?_
  unfold math_IsInf_c at h
  split at h
  · rename_i a0 a1
    cases h
    exact ⟨rfl, agree_tot (mk := math_IsInf_mk) (t := math_IsInf_tree a0 a1) (by unfold Agree; kernel_rfl) (by kernel_rfl)⟩
  · cases h

/-- loop.example/g01284/impl.finite -/
def impl_finite_tree (a0 : Nat) : DT (Bool) :=
  let x0 := math_IsNaN a0;
  .ask (!x0)
  (
   let x1 := math_IsInf a0 0;
   .leaf (!x1))
  (
   .leaf false)
def impl_finite (a0 : Nat) : Bool := (impl_finite_tree a0).val
def impl_finite_mk (p : Bool) : Ret := ⟨.bool p, []⟩
def impl_finite_c : Con := fun args => match args with
  | [.flt .f64 a0] => some (.leaf (impl_finite_mk (impl_finite a0)))
  | _ => none
set_option maxRecDepth 100000 in
theorem impl_finite_ok : FunOK Try.prog 63 impl_finite_c.fn := by
  refine con_ok (Γ := gam [(80, math_IsNaN_c), (81, math_IsInf_c)]) (gam_cons math_IsNaN_ok (gam_cons math_IsInf_ok (gam_nil))) tab_ok (by kernel_rfl) Try.func63 (by kernel_rfl) (by kernel_rfl) Try.ntmps63 Try.results63 (loopsOK_none rfl _) 100000 fun args t h => ?_
  unfold impl_finite_c at h
  split at h
  · rename_i a0
    cases h
    exact ⟨rfl, agree_tot (mk := impl_finite_mk) (t := impl_finite_tree a0) (by unfold Agree; kernel_rfl) (by kernel_rfl)⟩
  · cases h

/-- loop.example/g01284/impl.IsFinite -/
def impl_IsFinite_tree (a0 : Nat) : DT (Bool) :=
  .need ((fconvOk .f32 a0 .f64)) (
  let x0 := fconv .f32 a0 .f64;
  let x1 := impl_finite x0;
  .leaf x1)
def impl_IsFinite (a0 : Nat) : Bool := (impl_IsFinite_tree a0).val
def impl_IsFinite_need (a0 : Nat) : Bool := (impl_IsFinite_tree a0).ok
def impl_IsFinite_mk (p : Bool) : Ret := ⟨.bool p, []⟩
def impl_IsFinite_c : Con := fun args => match args with
  | [.flt .f32 a0] => some (.need (impl_IsFinite_need a0) (.leaf (impl_IsFinite_mk (impl_IsFinite a0))))
  | _ => none
set_option maxRecDepth 100000 in
theorem impl_IsFinite_ok : FunOK Try.prog 32 impl_IsFinite_c.fn := by
  refine con_ok (Γ := gam [(63, impl_finite_c)]) (gam_cons impl_finite_ok (gam_nil)) tab_ok (by kernel_rfl) Try.func32 (by kernel_rfl) (by kernel_rfl) Try.ntmps32 Try.results32 (loopsOK_none rfl _) 100000 fun args t h => ?_
  unfold impl_IsFinite_c at h
  split at h
  · rename_i a0
    cases h
    exact ⟨rfl, agree_need (mk := impl_IsFinite_mk) (t := impl_IsFinite_tree a0) (by unfold Agree; kernel_rfl)⟩
  · cases h

/-- loop.example/g01284/impl.aLength -/
def impl_aLength_tree (a0 : Nat) : DT (Bool) :=
  .need ((impl_IsFinite_need a0)) (
  let x0 := impl_IsFinite a0;
  .ask x0
  (
   let x1 := fgt .f32 a0 0;
   .leaf x1)
  (
   .leaf false))
def impl_aLength (a0 : Nat) : Bool := (impl_aLength_tree a0).val
def impl_aLength_need (a0 : Nat) : Bool := (impl_aLength_tree a0).ok
def impl_aLength_mk (p : Bool) : Ret := ⟨.bool p, []⟩
def impl_aLength_c : Con := fun args => match args with
  | [.flt .f32 a0] => some (.need (impl_aLength_need a0) (.leaf (impl_aLength_mk (impl_aLength a0))))
  | _ => none
set_option maxRecDepth 100000 in
theorem impl_aLength_ok : FunOK Try.prog 76 impl_aLength_c.fn := by
  refine con_ok (Γ := gam [(32, impl_IsFinite_c)]) (gam_cons impl_IsFinite_ok (gam_nil)) tab_ok (by kernel_rfl) Try.func76 (by kernel_rfl) (by kernel_rfl) Try.ntmps76 Try.results76 (loopsOK_none rfl _) 100000 fun args t h => ?_
  unfold impl_aLength_c at h
  split at h
  · rename_i a0
    cases h
    exact ⟨rfl, agree_need (mk := impl_aLength_mk) (t := impl_aLength_tree a0) (by unfold Agree; kernel_rfl)⟩
  · cases h

/-- a loop of impl_areLengths -/
def impl_areLengths_loop0_step (p : List Nat × Int) (s : Int) : Round (Int) ((Unit) ⊕ (Unit)) :=
  let x0 := decide (s < p.2);
  .ask x0
  (
   .need ((decide (0 ≤ s) && decide (s < ((List.length p.1 : Nat) : Int)))) (
   let x1 := List.getD p.1 (Int.toNat s) default;
   .need ((impl_aLength_need x1)) (
   let x2 := impl_aLength x1;
   .ask (!x2)
   (
    .leaf (.inr (.inl ()), []))
   (
    let x3 := IntKind.wrap .i64 (s + 1);
    .leaf (.inl x3, [])))))
  (
   .leaf (.inr (.inr ()), []))
def impl_areLengths_loop0_L (p : List Nat × Int) : LoopS (Int) ((Unit) ⊕ (Unit)) := { tl := fun s => [.junk, .junk, .junk, .junk, .junk, .vslc 1 (.flt .f32) p.1, .int .i64 p.2, .int .i64 s], hl := fun s => [], ex := fun r => match r with | .inl r => .ret | .inr r => .exit 0, otl := fun r => match r with | .inl r => [.junk, .junk, .bool false] | .inr r => [.junk], ohl := fun r => match r with | .inl r => [] | .inr r => [] }
def impl_areLengths_loop0_ext : St → Option ((List Nat × Int) × (Int) × List Nat) := fun S => match (S.tm 5).unK, (S.tm 6).unK, (S.tm 7).unK with
  | .vslc 1 (.flt .f32) q0, .int .i64 q1, .int .i64 q2 => some ((q0, q1), q2, [])
  | _, _, _ => none
def impl_areLengths_loop0_post (p : List Nat × Int) (r : (Unit) ⊕ (Unit)) : DT (Ex × St) := .ask (isL r) (.leaf (.ret, LSt [.junk, .junk, .bool false] [])) (.leaf (.exit 0, LSt [.junk] []))
def impl_areLengths_loop0 (p : List Nat × Int) (s : Int) : (Unit) ⊕ (Unit) := loopVal (impl_areLengths_loop0_step p) s
def impl_areLengths_loop0_ends (p : List Nat × Int) (s : Int) : Bool := loopEnds (impl_areLengths_loop0_step p) s
def impl_areLengths_loop0_F : LoopF := loopF impl_areLengths_loop0_step impl_areLengths_loop0_ext impl_areLengths_loop0_post
set_option maxRecDepth 100000 in
theorem impl_areLengths_loop0_hext : ∀ S p s fl, impl_areLengths_loop0_ext S = some (p, s, fl) → Norm S fl ((impl_areLengths_loop0_L p).tl s) ((impl_areLengths_loop0_L p).hl s) (impl_areLengths_loop0_L p).gl := by
  intro S p s fl h
  unfold impl_areLengths_loop0_ext at h
  (repeat' split at h) <;> first
    | (cases h; constructor <;> simp_all [impl_areLengths_loop0_L, keepT, keepH, rens, renH, PV.ren, Blk.ren, fOf, lget, nodup, natIn, lenEq, gtm, PV.unK])
    | cases h
set_option maxRecDepth 100000 in
theorem impl_areLengths_loop0_hpost : ∀ p r e S', (impl_areLengths_loop0_post p r).get = some (e, S') → e = (impl_areLengths_loop0_L p).ex r ∧ S' = LSt ((impl_areLengths_loop0_L p).otl r) ((impl_areLengths_loop0_L p).ohl r) ((impl_areLengths_loop0_L p).ogl r) := by
  intro p r e S' h
  unfold impl_areLengths_loop0_post at h
  cases r <;> (simp only [isL, DT.get, Option.some.injEq, Prod.mk.injEq] at h; exact ⟨h.1.symm, h.2.symm⟩)

def impl_areLengths_loops : Nat → Option LoopF := loopTab [(2, impl_areLengths_loop0_F)]
set_option maxRecDepth 100000 in
theorem impl_areLengths_l0 : LoopOK Try.prog ⟨gam [(76, impl_aLength_c)], tab, 15, impl_areLengths_loops⟩ (lp Try.f62 0) :=
  loopOK_some (F := impl_areLengths_loop0_F) (by kernel_rfl) (loopF_ok (E := ⟨gam [(76, impl_aLength_c)], tab, 15, impl_areLengths_loops⟩) ⟨gam_cons impl_aLength_ok (gam_nil), tab_ok, by kernel_rfl⟩ (fuel := 100000) (loopsOK_list (l := []) (by kernel_rfl) trivial) (L := impl_areLengths_loop0_L) (fun p s => by unfold AgreeL; exact ⟨by kernel_rfl, by kernel_rfl⟩) (fun _ r h => by cases r <;> exact Ex.noConfusion h) impl_areLengths_loop0_hext impl_areLengths_loop0_hpost)
/-- loop.example/g01284/impl.areLengths -/
def impl_areLengths_tree (a0 : List Nat) : DT (Bool) :=
  let x0 := ((List.length a0 : Nat) : Int);
  .need ((impl_areLengths_loop0_ends (a0, x0) 0)) (
  let x1 := impl_areLengths_loop0 (a0, x0) 0;
  .ask ((isL x1))
  (
   .leaf false)
  (
   .leaf true))
def impl_areLengths (a0 : List Nat) : Bool := (impl_areLengths_tree a0).val
def impl_areLengths_need (a0 : List Nat) : Bool := (impl_areLengths_tree a0).ok
def impl_areLengths_mk (p : Bool) : Ret := ⟨.bool p, []⟩
def impl_areLengths_c0 : Con := fun args => match args with
  | [.vslc 1 (.flt .f32) a0] => some (.need (impl_areLengths_need a0) (.leaf (impl_areLengths_mk (impl_areLengths a0))))
  | _ => none
set_option maxRecDepth 100000 in
theorem impl_areLengths_ok0 : FunOK Try.prog 62 impl_areLengths_c0.fn := by
  refine con_ok (Γ := gam [(76, impl_aLength_c)]) (gam_cons impl_aLength_ok (gam_nil)) tab_ok (by kernel_rfl) Try.func62 (by kernel_rfl) (by kernel_rfl) Try.ntmps62 Try.results62 (loops := impl_areLengths_loops) (loopsOK_list (l := [lp Try.f62 0]) (by kernel_rfl) ⟨impl_areLengths_l0, trivial⟩) 100000 fun args t h => ?_
  unfold impl_areLengths_c0 at h
  split at h
  · rename_i a0
    cases h
    exact ⟨rfl, agree_need (mk := impl_areLengths_mk) (t := impl_areLengths_tree a0) (by unfold Agree; kernel_rfl)⟩
  · cases h
def impl_areLengths_c : Con := fun args => impl_areLengths_c0 (norms 0 [.slc (.flt .f32)] args)
set_option maxRecDepth 100000 in
theorem impl_areLengths_ok : FunOK Try.prog 62 impl_areLengths_c.fn := con_norm [.slc (.flt .f32)] impl_areLengths_ok0

/-- loop.example/g01284/impl.areFinite$1 -/
def impl_areFinite_1_tree (a0 : Nat) : DT (Bool) :=
  .need ((impl_IsFinite_need a0)) (
  let x0 := impl_IsFinite a0;
  .leaf (!x0))
def impl_areFinite_1 (a0 : Nat) : Bool := (impl_areFinite_1_tree a0).val
def impl_areFinite_1_need (a0 : Nat) : Bool := (impl_areFinite_1_tree a0).ok
def impl_areFinite_1_mk (p : Bool) : Ret := ⟨.bool p, []⟩
def impl_areFinite_1_c : Con := fun args => match args with
  | [.flt .f32 a0] => some (.need (impl_areFinite_1_need a0) (.leaf (impl_areFinite_1_mk (impl_areFinite_1 a0))))
  | _ => none
set_option maxRecDepth 100000 in
theorem impl_areFinite_1_ok : FunOK Try.prog 71 impl_areFinite_1_c.fn := by
  refine con_ok (Γ := gam [(32, impl_IsFinite_c)]) (gam_cons impl_IsFinite_ok (gam_nil)) tab_ok (by kernel_rfl) Try.func71 (by kernel_rfl) (by kernel_rfl) Try.ntmps71 Try.results71 (loopsOK_none rfl _) 100000 fun args t h => ?_
  unfold impl_areFinite_1_c at h
  split at h
  · rename_i a0
    cases h
    exact ⟨rfl, agree_need (mk := impl_areFinite_1_mk) (t := impl_areFinite_1_tree a0) (by unfold Agree; kernel_rfl)⟩
  · cases h

/-- a loop of slices_IndexFunc___float32_float32__impl_areFinite_1 -/
def slices_IndexFunc___float32_float32__impl_areFinite_1_loop0_step (p : List Nat × Int) (s : Int) : Round (Int) ((Int) ⊕ (Unit)) :=
  let x0 := decide (s < p.2);
  .ask x0
  (
   .need ((decide (0 ≤ s) && decide (s < ((List.length p.1 : Nat) : Int)))) (
   let x1 := List.getD p.1 (Int.toNat s) default;
   .need ((impl_areFinite_1_need x1)) (
   let x2 := impl_areFinite_1 x1;
   .ask x2
   (
    .leaf (.inr (.inl s), []))
   (
    let x3 := IntKind.wrap .i64 (s + 1);
    .leaf (.inl x3, [])))))
  (
   .leaf (.inr (.inr ()), []))
def slices_IndexFunc___float32_float32__impl_areFinite_1_loop0_L (p : List Nat × Int) : LoopS (Int) ((Int) ⊕ (Unit)) := { tl := fun s => [.vslc 1 (.flt .f32) p.1, .func (.func 71) [] [], .junk, .junk, .junk, .junk, .junk, .int .i64 p.2, .int .i64 s], hl := fun s => [], ex := fun r => match r with | .inl r => .ret | .inr r => .exit 0, otl := fun r => match r with | .inl r => [.junk, .junk, .junk, .junk, .int .i64 r] | .inr r => [.junk], ohl := fun r => match r with | .inl r => [] | .inr r => [] }
def slices_IndexFunc___float32_float32__impl_areFinite_1_loop0_ext : St → Option ((List Nat × Int) × (Int) × List Nat) := fun S => match (S.tm 0).unK, (S.tm 1).unK, (S.tm 7).unK, (S.tm 8).unK with
  | .vslc 1 (.flt .f32) q0, .func (.func 71) [] [], .int .i64 q1, .int .i64 q2 => some ((q0, q1), q2, [])
  | _, _, _, _ => none
def slices_IndexFunc___float32_float32__impl_areFinite_1_loop0_post (p : List Nat × Int) (r : (Int) ⊕ (Unit)) : DT (Ex × St) := .ask (isL r) (.leaf (.ret, LSt [.junk, .junk, .junk, .junk, .int .i64 ((leftD r))] [])) (.leaf (.exit 0, LSt [.junk] []))
def slices_IndexFunc___float32_float32__impl_areFinite_1_loop0 (p : List Nat × Int) (s : Int) : (Int) ⊕ (Unit) := loopVal (slices_IndexFunc___float32_float32__impl_areFinite_1_loop0_step p) s
def slices_IndexFunc___float32_float32__impl_areFinite_1_loop0_ends (p : List Nat × Int) (s : Int) : Bool := loopEnds (slices_IndexFunc___float32_float32__impl_areFinite_1_loop0_step p) s
def slices_IndexFunc___float32_float32__impl_areFinite_1_loop0_F : LoopF := loopF slices_IndexFunc___float32_float32__impl_areFinite_1_loop0_step slices_IndexFunc___float32_float32__impl_areFinite_1_loop0_ext slices_IndexFunc___float32_float32__impl_areFinite_1_loop0_post
set_option maxRecDepth 100000 in
theorem slices_IndexFunc___float32_float32__impl_areFinite_1_loop0_hext : ∀ S p s fl, slices_IndexFunc___float32_float32__impl_areFinite_1_loop0_ext S = some (p, s, fl) → Norm S fl ((slices_IndexFunc___float32_float32__impl_areFinite_1_loop0_L p).tl s) ((slices_IndexFunc___float32_float32__impl_areFinite_1_loop0_L p).hl s) (slices_IndexFunc___float32_float32__impl_areFinite_1_loop0_L p).gl := by
  intro S p s fl h
  unfold slices_IndexFunc___float32_float32__impl_areFinite_1_loop0_ext at h
  (repeat' split at h) <;> first
    | (cases h; constructor <;> simp_all [slices_IndexFunc___float32_float32__impl_areFinite_1_loop0_L, keepT, keepH, rens, renH, PV.ren, Blk.ren, fOf, lget, nodup, natIn, lenEq, gtm, PV.unK])
    | cases h
set_option maxRecDepth 100000 in
theorem slices_IndexFunc___float32_float32__impl_areFinite_1_loop0_hpost : ∀ p r e S', (slices_IndexFunc___float32_float32__impl_areFinite_1_loop0_post p r).get = some (e, S') → e = (slices_IndexFunc___float32_float32__impl_areFinite_1_loop0_L p).ex r ∧ S' = LSt ((slices_IndexFunc___float32_float32__impl_areFinite_1_loop0_L p).otl r) ((slices_IndexFunc___float32_float32__impl_areFinite_1_loop0_L p).ohl r) ((slices_IndexFunc___float32_float32__impl_areFinite_1_loop0_L p).ogl r) := by
  intro p r e S' h
  unfold slices_IndexFunc___float32_float32__impl_areFinite_1_loop0_post at h
  cases r <;> (simp only [isL, DT.get, Option.some.injEq, Prod.mk.injEq] at h; exact ⟨h.1.symm, h.2.symm⟩)

def slices_IndexFunc___float32_float32__impl_areFinite_1_loops : Nat → Option LoopF := loopTab [(2, slices_IndexFunc___float32_float32__impl_areFinite_1_loop0_F)]
set_option maxRecDepth 100000 in
theorem slices_IndexFunc___float32_float32__impl_areFinite_1_l0 : LoopOK Try.prog ⟨gam [(71, impl_areFinite_1_c)], tab, 19, slices_IndexFunc___float32_float32__impl_areFinite_1_loops⟩ (lp Try.f84 0) :=
  loopOK_some (F := slices_IndexFunc___float32_float32__impl_areFinite_1_loop0_F) (by kernel_rfl) (loopF_ok (E := ⟨gam [(71, impl_areFinite_1_c)], tab, 19, slices_IndexFunc___float32_float32__impl_areFinite_1_loops⟩) ⟨gam_cons impl_areFinite_1_ok (gam_nil), tab_ok, by kernel_rfl⟩ (fuel := 100000) (loopsOK_list (l := []) (by kernel_rfl) trivial) (L := slices_IndexFunc___float32_float32__impl_areFinite_1_loop0_L) (fun p s => by unfold AgreeL; exact ⟨by kernel_rfl, by kernel_rfl⟩) (fun _ r h => by cases r <;> exact Ex.noConfusion h) slices_IndexFunc___float32_float32__impl_areFinite_1_loop0_hext slices_IndexFunc___float32_float32__impl_areFinite_1_loop0_hpost)
/-- slices.IndexFunc[[]float32,float32] -/
def slices_IndexFunc___float32_float32__impl_areFinite_1_tree (a0 : List Nat) : DT (Int) :=
  let x0 := ((List.length a0 : Nat) : Int);
  .need ((slices_IndexFunc___float32_float32__impl_areFinite_1_loop0_ends (a0, x0) 0)) (
  let x1 := slices_IndexFunc___float32_float32__impl_areFinite_1_loop0 (a0, x0) 0;
  .ask ((isL x1))
  (
   .leaf ((leftD x1)))
  (
   .leaf (-1)))
def slices_IndexFunc___float32_float32__impl_areFinite_1 (a0 : List Nat) : Int := (slices_IndexFunc___float32_float32__impl_areFinite_1_tree a0).val
def slices_IndexFunc___float32_float32__impl_areFinite_1_need (a0 : List Nat) : Bool := (slices_IndexFunc___float32_float32__impl_areFinite_1_tree a0).ok
def slices_IndexFunc___float32_float32__impl_areFinite_1_mk (p : Int) : Ret := ⟨.int .i64 p, []⟩
def slices_IndexFunc___float32_float32__impl_areFinite_1_c0 : Con := fun args => match args with
  | [.vslc 1 (.flt .f32) a0, .func (.func 71) [] []] => some (.need (slices_IndexFunc___float32_float32__impl_areFinite_1_need a0) (.leaf (slices_IndexFunc___float32_float32__impl_areFinite_1_mk (slices_IndexFunc___float32_float32__impl_areFinite_1 a0))))
  | _ => none
set_option maxRecDepth 100000 in
theorem slices_IndexFunc___float32_float32__impl_areFinite_1_ok0 : FunOK Try.prog 84 slices_IndexFunc___float32_float32__impl_areFinite_1_c0.fn := by
  refine con_ok (Γ := gam [(71, impl_areFinite_1_c)]) (gam_cons impl_areFinite_1_ok (gam_nil)) tab_ok (by kernel_rfl) Try.func84 (by kernel_rfl) (by kernel_rfl) Try.ntmps84 Try.results84 (loops := slices_IndexFunc___float32_float32__impl_areFinite_1_loops) (loopsOK_list (l := [lp Try.f84 0]) (by kernel_rfl) ⟨slices_IndexFunc___float32_float32__impl_areFinite_1_l0, trivial⟩) 100000 fun args t h => ?_
  unfold slices_IndexFunc___float32_float32__impl_areFinite_1_c0 at h
  split at h
  · rename_i a0
    cases h
    exact ⟨rfl, agree_need (mk := slices_IndexFunc___float32_float32__impl_areFinite_1_mk) (t := slices_IndexFunc___float32_float32__impl_areFinite_1_tree a0) (by unfold Agree; kernel_rfl)⟩
  · cases h
def slices_IndexFunc___float32_float32__impl_areFinite_1_c : Con := fun args => slices_IndexFunc___float32_float32__impl_areFinite_1_c0 (norms 0 [.slc (.flt .f32), .none] args)
set_option maxRecDepth 100000 in
theorem slices_IndexFunc___float32_float32__impl_areFinite_1_ok : FunOK Try.prog 84 slices_IndexFunc___float32_float32__impl_areFinite_1_c.fn := con_norm [.slc (.flt .f32), .none] slices_IndexFunc___float32_float32__impl_areFinite_1_ok0

/-- slices.ContainsFunc[[]float32,float32] -/
def slices_ContainsFunc___float32_float32__impl_areFinite_1_tree (a0 : List Nat) : DT (Bool) :=
  .need ((slices_IndexFunc___float32_float32__impl_areFinite_1_need a0 )) (
  let x0 := slices_IndexFunc___float32_float32__impl_areFinite_1 a0 ;
  let x1 := decide (x0 ≥ 0);
  .leaf x1)
def slices_ContainsFunc___float32_float32__impl_areFinite_1 (a0 : List Nat) : Bool := (slices_ContainsFunc___float32_float32__impl_areFinite_1_tree a0).val
def slices_ContainsFunc___float32_float32__impl_areFinite_1_need (a0 : List Nat) : Bool := (slices_ContainsFunc___float32_float32__impl_areFinite_1_tree a0).ok
def slices_ContainsFunc___float32_float32__impl_areFinite_1_mk (p : Bool) : Ret := ⟨.bool p, []⟩
def slices_ContainsFunc___float32_float32__impl_areFinite_1_c0 : Con := fun args => match args with
  | [.vslc 1 (.flt .f32) a0, .func (.func 71) [] []] => some (.need (slices_ContainsFunc___float32_float32__impl_areFinite_1_need a0) (.leaf (slices_ContainsFunc___float32_float32__impl_areFinite_1_mk (slices_ContainsFunc___float32_float32__impl_areFinite_1 a0))))
  | _ => none
set_option maxRecDepth 100000 in
theorem slices_ContainsFunc___float32_float32__impl_areFinite_1_ok0 : FunOK Try.prog 70 slices_ContainsFunc___float32_float32__impl_areFinite_1_c0.fn := by
  refine con_ok (Γ := gam [(84, slices_IndexFunc___float32_float32__impl_areFinite_1_c)]) (gam_cons slices_IndexFunc___float32_float32__impl_areFinite_1_ok (gam_nil)) tab_ok (by kernel_rfl) Try.func70 (by kernel_rfl) (by kernel_rfl) Try.ntmps70 Try.results70 (loopsOK_none rfl _) 100000 fun args t h => ?_
  unfold slices_ContainsFunc___float32_float32__impl_areFinite_1_c0 at h
  split at h
  · rename_i a0
    cases h
    exact ⟨rfl, agree_need (mk := slices_ContainsFunc___float32_float32__impl_areFinite_1_mk) (t := slices_ContainsFunc___float32_float32__impl_areFinite_1_tree a0) (by unfold Agree; kernel_rfl)⟩
  · cases h
def slices_ContainsFunc___float32_float32__impl_areFinite_1_c : Con := fun args => slices_ContainsFunc___float32_float32__impl_areFinite_1_c0 (norms 0 [.slc (.flt .f32), .none] args)
set_option maxRecDepth 100000 in
theorem slices_ContainsFunc___float32_float32__impl_areFinite_1_ok : FunOK Try.prog 70 slices_ContainsFunc___float32_float32__impl_areFinite_1_c.fn := con_norm [.slc (.flt .f32), .none] slices_ContainsFunc___float32_float32__impl_areFinite_1_ok0

/-- loop.example/g01284/impl.areFinite -/
def impl_areFinite_tree (a0 : List Nat) : DT (Bool) :=
  .need ((slices_ContainsFunc___float32_float32__impl_areFinite_1_need a0 )) (
  let x0 := slices_ContainsFunc___float32_float32__impl_areFinite_1 a0 ;
  .leaf (!x0))
def impl_areFinite (a0 : List Nat) : Bool := (impl_areFinite_tree a0).val
def impl_areFinite_need (a0 : List Nat) : Bool := (impl_areFinite_tree a0).ok
def impl_areFinite_mk (p : Bool) : Ret := ⟨.bool p, []⟩
def impl_areFinite_c0 : Con := fun args => match args with
  | [.vslc 1 (.flt .f32) a0] => some (.need (impl_areFinite_need a0) (.leaf (impl_areFinite_mk (impl_areFinite a0))))
  | _ => none
set_option maxRecDepth 100000 in
theorem impl_areFinite_ok0 : FunOK Try.prog 45 impl_areFinite_c0.fn := by
  refine con_ok (Γ := gam [(70, slices_ContainsFunc___float32_float32__impl_areFinite_1_c)]) (gam_cons slices_ContainsFunc___float32_float32__impl_areFinite_1_ok (gam_nil)) tab_ok (by kernel_rfl) Try.func45 (by kernel_rfl) (by kernel_rfl) Try.ntmps45 Try.results45 (loopsOK_none rfl _) 100000 fun args t h => ?_
  unfold impl_areFinite_c0 at h
  split at h
  · rename_i a0
    cases h
    exact ⟨rfl, agree_need (mk := impl_areFinite_mk) (t := impl_areFinite_tree a0) (by unfold Agree; kernel_rfl)⟩
  · cases h
def impl_areFinite_c : Con := fun args => impl_areFinite_c0 (norms 0 [.slc (.flt .f32)] args)
set_option maxRecDepth 100000 in
theorem impl_areFinite_ok : FunOK Try.prog 45 impl_areFinite_c.fn := con_norm [.slc (.flt .f32)] impl_areFinite_ok0

/-- loop.example/g01284/impl.ValidBall -/
def impl_ValidBall_tree (a0 : Ball) : DT (Bool) :=
  .need ((impl_areLengths_need ([a0.Mass, a0.Radius]))) (
  let x0 := impl_areLengths ([a0.Mass, a0.Radius]);
  .ask x0
  (
   .need ((impl_areFinite_need ([a0.Spin, a0.Start]))) (
   let x1 := impl_areFinite ([a0.Spin, a0.Start]);
   .leaf x1))
  (
   .leaf false))
def impl_ValidBall (a0 : Ball) : Bool := (impl_ValidBall_tree a0).val
def impl_ValidBall_need (a0 : Ball) : Bool := (impl_ValidBall_tree a0).ok
def impl_ValidBall_mk (p : Bool) : Ret := ⟨.bool p, []⟩
def impl_ValidBall_c : Con := fun args => match args with
  | [.agg [.flt .f32 a0_0, .flt .f32 a0_1, .flt .f32 a0_2, .flt .f32 a0_3]] => some (.need (impl_ValidBall_need (⟨a0_0, a0_1, a0_2, a0_3⟩ : Ball)) (.leaf (impl_ValidBall_mk (impl_ValidBall (⟨a0_0, a0_1, a0_2, a0_3⟩ : Ball)))))
  | _ => none
set_option maxRecDepth 100000 in
theorem impl_ValidBall_ok : FunOK Try.prog 30 impl_ValidBall_c.fn := by
  refine con_ok (Γ := gam [(62, impl_areLengths_c), (45, impl_areFinite_c)]) (gam_cons impl_areLengths_ok (gam_cons impl_areFinite_ok (gam_nil))) tab_ok (by kernel_rfl) Try.func30 (by kernel_rfl) (by kernel_rfl) Try.ntmps30 Try.results30 (loopsOK_none rfl _) 100000 fun args t h => ?_
  unfold impl_ValidBall_c at h
  split at h
  · rename_i a0_0 a0_1 a0_2 a0_3
    cases h
    exact ⟨rfl, agree_need (mk := impl_ValidBall_mk) (t := impl_ValidBall_tree (⟨a0_0, a0_1, a0_2, a0_3⟩ : Ball)) (by unfold Agree; kernel_rfl)⟩
  · cases h

/-- loop.example/g01284/impl.ValidMark -/
def impl_ValidMark_tree (a0 : Mark) : DT (Bool) :=
  let x0 := fge .f32 a0.North 3196059648;
  .ask x0
  (
   let x1 := fle .f32 a0.North 1048576000;
   .ask x1
   (
    let x2 := fge .f32 a0.East 3204448256;
    .ask x2
    (
     let x3 := flt .f32 a0.East 1056964608;
     .ask x3
     (
      .need ((impl_IsFinite_need a0.High)) (
      let x4 := impl_IsFinite a0.High;
      .leaf x4))
     (
      .leaf false))
    (
     .leaf false))
   (
    .leaf false))
  (
   .leaf false)
def impl_ValidMark (a0 : Mark) : Bool := (impl_ValidMark_tree a0).val
def impl_ValidMark_need (a0 : Mark) : Bool := (impl_ValidMark_tree a0).ok
def impl_ValidMark_mk (p : Bool) : Ret := ⟨.bool p, []⟩
def impl_ValidMark_c : Con := fun args => match args with
  | [.agg [.flt .f32 a0_0, .flt .f32 a0_1, .flt .f32 a0_2]] => some (.need (impl_ValidMark_need (⟨a0_0, a0_1, a0_2⟩ : Mark)) (.leaf (impl_ValidMark_mk (impl_ValidMark (⟨a0_0, a0_1, a0_2⟩ : Mark)))))
  | _ => none
set_option maxRecDepth 100000 in
theorem impl_ValidMark_ok : FunOK Try.prog 31 impl_ValidMark_c.fn := by
  refine con_ok (Γ := gam [(32, impl_IsFinite_c)]) (gam_cons impl_IsFinite_ok (gam_nil)) tab_ok (by kernel_rfl) Try.func31 (by kernel_rfl) (by kernel_rfl) Try.ntmps31 Try.results31 (loopsOK_none rfl _) 100000 fun args t h => ?_
  unfold impl_ValidMark_c at h
  split at h
  · rename_i a0_0 a0_1 a0_2
    cases h
    exact ⟨rfl, agree_need (mk := impl_ValidMark_mk) (t := impl_ValidMark_tree (⟨a0_0, a0_1, a0_2⟩ : Mark)) (by unfold Agree; kernel_rfl)⟩
  · cases h

/-- math.NaN -/
def math_NaN_tree  : DT (Nat) :=
  let x0 := canon .f64 (Int.toNat 9221120237041090561);
  .leaf x0
def math_NaN  : Nat := (math_NaN_tree ).val
def math_NaN_mk (p : Nat) : Ret := ⟨.flt .f64 p, []⟩
def math_NaN_c : Con := fun args => match args with
  | [] => some (.leaf (math_NaN_mk (math_NaN )))
  | _ => none
set_option maxRecDepth 100000 in
theorem math_NaN_ok : FunOK Try.prog 66 math_NaN_c.fn := by
  refine con_ok (Γ := gam [(83, math_Float64frombits_c)]) (gam_cons math_Float64frombits_ok (gam_nil)) tab_ok (by kernel_rfl) Try.func66 (by kernel_rfl) (by kernel_rfl) Try.ntmps66 Try.results66 (loopsOK_none rfl _) 100000 fun args t h => ?_
  unfold math_NaN_c at h
  split at h
  · cases h
    exact ⟨rfl, agree_tot (mk := math_NaN_mk) (t := math_NaN_tree ) (by unfold Agree; kernel_rfl) (by kernel_rfl)⟩
  · cases h

-- FAILED 97 math.Copysign: nanb

-- FAILED 96 math.trunc: no contract: math.Copysign 

/-- math.Trunc -/
def math_Trunc_tree (a0 : Nat) : DT (Nat) :=
  let x0 := ftrunc a0;
  .leaf x0
def math_Trunc (a0 : Nat) : Nat := (math_Trunc_tree a0).val
def math_Trunc_mk (p : Nat) : Ret := ⟨.flt .f64 p, []⟩
def math_Trunc_c : Con := fun args => match args with
  | [.flt .f64 a0] => some (.leaf (math_Trunc_mk (math_Trunc a0)))
  | _ => none
set_option maxRecDepth 100000 in
theorem math_Trunc_ok : FunOK Try.prog 93 math_Trunc_c.fn := by
  refine con_ok (Γ := gam [(95, math_archTrunc_c)]) (gam_cons math_archTrunc_ok (gam_nil)) tab_ok (by kernel_rfl) Try.func93 (by kernel_rfl) (by kernel_rfl) Try.ntmps93 Try.results93 (loopsOK_none rfl _) 100000 fun args t h => ?_
  unfold math_Trunc_c at h
  split at h
  · rename_i a0
    cases h
    exact ⟨rfl, agree_tot (mk := math_Trunc_mk) (t := math_Trunc_tree a0) (by unfold Agree; kernel_rfl) (by kernel_rfl)⟩
  · cases h

/-- loop.example/g01284/impl.behind -/
def impl_behind_tree (a0 : Nat) : DT (Nat) :=
  let x0 := math_Trunc a0;
  let x1 := fadd .f64 x0 0;
  let x2 := fsub .f64 a0 x1;
  let x3 := flt .f64 x2 0;
  .ask x3
  (
   let x4 := fadd .f64 x2 4607182418800017408;
   .leaf x4)
  (
   .leaf x2)
def impl_behind (a0 : Nat) : Nat := (impl_behind_tree a0).val
def impl_behind_mk (p : Nat) : Ret := ⟨.flt .f64 p, []⟩
def impl_behind_c : Con := fun args => match args with
  | [.flt .f64 a0] => some (.leaf (impl_behind_mk (impl_behind a0)))
  | _ => none
set_option maxRecDepth 100000 in
theorem impl_behind_ok : FunOK Try.prog 86 impl_behind_c.fn := by
  refine con_ok (Γ := gam [(93, math_Trunc_c)]) (gam_cons math_Trunc_ok (gam_nil)) tab_ok (by kernel_rfl) Try.func86 (by kernel_rfl) (by kernel_rfl) Try.ntmps86 Try.results86 (loopsOK_none rfl _) 100000 fun args t h => ?_
  unfold impl_behind_c at h
  split at h
  · rename_i a0
    cases h
    exact ⟨rfl, agree_tot (mk := impl_behind_mk) (t := impl_behind_tree a0) (by unfold Agree; kernel_rfl) (by kernel_rfl)⟩
  · cases h

/-- loop.example/g01284/impl.sine -/
def impl_sine_tree (a0 : Nat) : DT (Nat) :=
  let x0 := impl_behind a0;
  let x1 := fge .f64 x0 4602678819172646912;
  .ask x1
  (
   let x2 := fsub .f64 x0 4602678819172646912;
   let x3 := fgt .f64 x2 4598175219545276416;
   .ask x3
   (
    let x4 := fsub .f64 4602678819172646912 x2;
    let x5 := fmul .f64 x4 4618760256179416344;
    let x6 := fmul .f64 x5 x5;
    .skip (
    let x7 := fmul .f64 x6 4607182418800017408;
    let x8 := fofInt .f64 272;
    let x9 := fdiv .f64 x7 x8;
    let x10 := fsub .f64 4607182418800017408 x9;
    .skip (
    let x11 := fmul .f64 x6 x10;
    let x12 := fofInt .f64 210;
    let x13 := fdiv .f64 x11 x12;
    let x14 := fsub .f64 4607182418800017408 x13;
    .skip (
    let x15 := fmul .f64 x6 x14;
    let x16 := fofInt .f64 156;
    let x17 := fdiv .f64 x15 x16;
    let x18 := fsub .f64 4607182418800017408 x17;
    .skip (
    let x19 := fmul .f64 x6 x18;
    let x20 := fofInt .f64 110;
    let x21 := fdiv .f64 x19 x20;
    let x22 := fsub .f64 4607182418800017408 x21;
    .skip (
    let x23 := fmul .f64 x6 x22;
    let x24 := fofInt .f64 72;
    let x25 := fdiv .f64 x23 x24;
    let x26 := fsub .f64 4607182418800017408 x25;
    .skip (
    let x27 := fmul .f64 x6 x26;
    let x28 := fofInt .f64 42;
    let x29 := fdiv .f64 x27 x28;
    let x30 := fsub .f64 4607182418800017408 x29;
    .skip (
    let x31 := fmul .f64 x6 x30;
    let x32 := fofInt .f64 20;
    let x33 := fdiv .f64 x31 x32;
    let x34 := fsub .f64 4607182418800017408 x33;
    .skip (
    let x35 := fmul .f64 x6 x34;
    let x36 := fofInt .f64 6;
    let x37 := fdiv .f64 x35 x36;
    let x38 := fsub .f64 4607182418800017408 x37;
    .skip (
    let x39 := fmul .f64 x5 x38;
    let x40 := fneg .f64 x39;
    .leaf x40))))))))))
   (
    let x4 := fmul .f64 x2 4618760256179416344;
    let x5 := fmul .f64 x4 x4;
    .skip (
    let x6 := fmul .f64 x5 4607182418800017408;
    let x7 := fofInt .f64 272;
    let x8 := fdiv .f64 x6 x7;
    let x9 := fsub .f64 4607182418800017408 x8;
    .skip (
    let x10 := fmul .f64 x5 x9;
    let x11 := fofInt .f64 210;
    let x12 := fdiv .f64 x10 x11;
    let x13 := fsub .f64 4607182418800017408 x12;
    .skip (
    let x14 := fmul .f64 x5 x13;
    let x15 := fofInt .f64 156;
    let x16 := fdiv .f64 x14 x15;
    let x17 := fsub .f64 4607182418800017408 x16;
    .skip (
    let x18 := fmul .f64 x5 x17;
    let x19 := fofInt .f64 110;
    let x20 := fdiv .f64 x18 x19;
    let x21 := fsub .f64 4607182418800017408 x20;
    .skip (
    let x22 := fmul .f64 x5 x21;
    let x23 := fofInt .f64 72;
    let x24 := fdiv .f64 x22 x23;
    let x25 := fsub .f64 4607182418800017408 x24;
    .skip (
    let x26 := fmul .f64 x5 x25;
    let x27 := fofInt .f64 42;
    let x28 := fdiv .f64 x26 x27;
    let x29 := fsub .f64 4607182418800017408 x28;
    .skip (
    let x30 := fmul .f64 x5 x29;
    let x31 := fofInt .f64 20;
    let x32 := fdiv .f64 x30 x31;
    let x33 := fsub .f64 4607182418800017408 x32;
    .skip (
    let x34 := fmul .f64 x5 x33;
    let x35 := fofInt .f64 6;
    let x36 := fdiv .f64 x34 x35;
    let x37 := fsub .f64 4607182418800017408 x36;
    .skip (
    let x38 := fmul .f64 x4 x37;
    let x39 := fneg .f64 x38;
    .leaf x39)))))))))))
  (
   let x2 := fgt .f64 x0 4598175219545276416;
   .ask x2
   (
    let x3 := fsub .f64 4602678819172646912 x0;
    let x4 := fmul .f64 x3 4618760256179416344;
    let x5 := fmul .f64 x4 x4;
    .skip (
    let x6 := fmul .f64 x5 4607182418800017408;
    let x7 := fofInt .f64 272;
    let x8 := fdiv .f64 x6 x7;
    let x9 := fsub .f64 4607182418800017408 x8;
    .skip (
    let x10 := fmul .f64 x5 x9;
    let x11 := fofInt .f64 210;
    let x12 := fdiv .f64 x10 x11;
    let x13 := fsub .f64 4607182418800017408 x12;
    .skip (
    let x14 := fmul .f64 x5 x13;
    let x15 := fofInt .f64 156;
    let x16 := fdiv .f64 x14 x15;
    let x17 := fsub .f64 4607182418800017408 x16;
    .skip (
    let x18 := fmul .f64 x5 x17;
    let x19 := fofInt .f64 110;
    let x20 := fdiv .f64 x18 x19;
    let x21 := fsub .f64 4607182418800017408 x20;
    .skip (
    let x22 := fmul .f64 x5 x21;
    let x23 := fofInt .f64 72;
    let x24 := fdiv .f64 x22 x23;
    let x25 := fsub .f64 4607182418800017408 x24;
    .skip (
    let x26 := fmul .f64 x5 x25;
    let x27 := fofInt .f64 42;
    let x28 := fdiv .f64 x26 x27;
    let x29 := fsub .f64 4607182418800017408 x28;
    .skip (
    let x30 := fmul .f64 x5 x29;
    let x31 := fofInt .f64 20;
    let x32 := fdiv .f64 x30 x31;
    let x33 := fsub .f64 4607182418800017408 x32;
    .skip (
    let x34 := fmul .f64 x5 x33;
    let x35 := fofInt .f64 6;
    let x36 := fdiv .f64 x34 x35;
    let x37 := fsub .f64 4607182418800017408 x36;
    .skip (
    let x38 := fmul .f64 x4 x37;
    .leaf x38))))))))))
   (
    let x3 := fmul .f64 x0 4618760256179416344;
    let x4 := fmul .f64 x3 x3;
    .skip (
    let x5 := fmul .f64 x4 4607182418800017408;
    let x6 := fofInt .f64 272;
    let x7 := fdiv .f64 x5 x6;
    let x8 := fsub .f64 4607182418800017408 x7;
    .skip (
    let x9 := fmul .f64 x4 x8;
    let x10 := fofInt .f64 210;
    let x11 := fdiv .f64 x9 x10;
    let x12 := fsub .f64 4607182418800017408 x11;
    .skip (
    let x13 := fmul .f64 x4 x12;
    let x14 := fofInt .f64 156;
    let x15 := fdiv .f64 x13 x14;
    let x16 := fsub .f64 4607182418800017408 x15;
    .skip (
    let x17 := fmul .f64 x4 x16;
    let x18 := fofInt .f64 110;
    let x19 := fdiv .f64 x17 x18;
    let x20 := fsub .f64 4607182418800017408 x19;
    .skip (
    let x21 := fmul .f64 x4 x20;
    let x22 := fofInt .f64 72;
    let x23 := fdiv .f64 x21 x22;
    let x24 := fsub .f64 4607182418800017408 x23;
    .skip (
    let x25 := fmul .f64 x4 x24;
    let x26 := fofInt .f64 42;
    let x27 := fdiv .f64 x25 x26;
    let x28 := fsub .f64 4607182418800017408 x27;
    .skip (
    let x29 := fmul .f64 x4 x28;
    let x30 := fofInt .f64 20;
    let x31 := fdiv .f64 x29 x30;
    let x32 := fsub .f64 4607182418800017408 x31;
    .skip (
    let x33 := fmul .f64 x4 x32;
    let x34 := fofInt .f64 6;
    let x35 := fdiv .f64 x33 x34;
    let x36 := fsub .f64 4607182418800017408 x35;
    .skip (
    let x37 := fmul .f64 x3 x36;
    .leaf x37)))))))))))
def impl_sine (a0 : Nat) : Nat := (impl_sine_tree a0).val
def impl_sine_mk (p : Nat) : Ret := ⟨.flt .f64 p, []⟩
def impl_sine_c : Con := fun args => match args with
  | [.flt .f64 a0] => some (.leaf (impl_sine_mk (impl_sine a0)))
  | _ => none
set_option maxRecDepth 100000 in
theorem impl_sine_ok : FunOK Try.prog 73 impl_sine_c.fn := by
  refine con_ok (Γ := gam [(86, impl_behind_c)]) (gam_cons impl_behind_ok (gam_nil)) tab_ok (by kernel_rfl) Try.func73 (by kernel_rfl) (by kernel_rfl) Try.ntmps73 Try.results73 (loopsOK_none rfl _) 100000 fun args t h => ?_
  unfold impl_sine_c at h
  split at h
  · rename_i a0
    cases h
    exact ⟨rfl, agree_tot (mk := impl_sine_mk) (t := impl_sine_tree a0) (by unfold Agree; kernel_rfl) (by kernel_rfl)⟩
  · cases h

/-- loop.example/g01284/impl.SineTurns -/
def impl_SineTurns_tree (a0 : Nat) : DT (Nat) :=
  .need ((impl_IsFinite_need a0)) (
  let x0 := impl_IsFinite a0;
  .ask (!x0)
  (
   let x1 := math_NaN ;
   .need ((fconvOk .f64 x1 .f32)) (
   let x2 := fconv .f64 x1 .f32;
   .leaf x2))
  (
   .need ((fconvOk .f32 a0 .f64)) (
   let x1 := fconv .f32 a0 .f64;
   let x2 := math_Abs x1;
   let x3 := fge .f64 x2 4841369599423283200;
   .ask x3
   (
    .leaf 0)
   (
    .need ((fconvOk .f32 a0 .f64)) (
    let x4 := fconv .f32 a0 .f64;
    let x5 := impl_sine x4;
    .need ((fconvOk .f64 x5 .f32)) (
    let x6 := fconv .f64 x5 .f32;
    .leaf x6))))))
def impl_SineTurns (a0 : Nat) : Nat := (impl_SineTurns_tree a0).val
def impl_SineTurns_need (a0 : Nat) : Bool := (impl_SineTurns_tree a0).ok
def impl_SineTurns_mk (p : Nat) : Ret := ⟨.flt .f32 p, []⟩
def impl_SineTurns_c : Con := fun args => match args with
  | [.flt .f32 a0] => some (.need (impl_SineTurns_need a0) (.leaf (impl_SineTurns_mk (impl_SineTurns a0))))
  | _ => none
set_option maxRecDepth 100000 in
theorem impl_SineTurns_ok : FunOK Try.prog 48 impl_SineTurns_c.fn := by
  refine con_ok (Γ := gam [(32, impl_IsFinite_c), (66, math_NaN_c), (72, math_Abs_c), (73, impl_sine_c)]) (gam_cons impl_IsFinite_ok (gam_cons math_NaN_ok (gam_cons math_Abs_ok (gam_cons impl_sine_ok (gam_nil))))) tab_ok (by kernel_rfl) Try.func48 (by kernel_rfl) (by kernel_rfl) Try.ntmps48 Try.results48 (loopsOK_none rfl _) 100000 fun args t h => ?_
  unfold impl_SineTurns_c at h
  split at h
  · rename_i a0
    cases h
    exact ⟨rfl, agree_need (mk := impl_SineTurns_mk) (t := impl_SineTurns_tree a0) (by unfold Agree; kernel_rfl)⟩
  · cases h

/-- loop.example/g01284/impl.cos -/
def impl_cos_tree (a0 : Nat) : DT (Nat) :=
  let x0 := fadd .f32 a0 1048576000;
  .need ((impl_SineTurns_need x0)) (
  let x1 := impl_SineTurns x0;
  .leaf x1)
def impl_cos (a0 : Nat) : Nat := (impl_cos_tree a0).val
def impl_cos_need (a0 : Nat) : Bool := (impl_cos_tree a0).ok
def impl_cos_mk (p : Nat) : Ret := ⟨.flt .f32 p, []⟩
def impl_cos_c : Con := fun args => match args with
  | [.flt .f32 a0] => some (.need (impl_cos_need a0) (.leaf (impl_cos_mk (impl_cos a0))))
  | _ => none
set_option maxRecDepth 100000 in
theorem impl_cos_ok : FunOK Try.prog 50 impl_cos_c.fn := by
  refine con_ok (Γ := gam [(48, impl_SineTurns_c)]) (gam_cons impl_SineTurns_ok (gam_nil)) tab_ok (by kernel_rfl) Try.func50 (by kernel_rfl) (by kernel_rfl) Try.ntmps50 Try.results50 (loopsOK_none rfl _) 100000 fun args t h => ?_
  unfold impl_cos_c at h
  split at h
  · rename_i a0
    cases h
    exact ⟨rfl, agree_need (mk := impl_cos_mk) (t := impl_cos_tree a0) (by unfold Agree; kernel_rfl)⟩
  · cases h

/-- (loop.example/g01284/impl.Ball).face -/
def impl_Ball_face_tree (a0 : Ball) (a1 : Nat) : DT (Nat) :=
  let x0 := fmul .f32 a0.Spin a1;
  let x1 := fadd .f32 a0.Start x0;
  .leaf x1
def impl_Ball_face (a0 : Ball) (a1 : Nat) : Nat := (impl_Ball_face_tree a0 a1).val
def impl_Ball_face_mk (p : Nat) : Ret := ⟨.flt .f32 p, []⟩
def impl_Ball_face_c : Con := fun args => match args with
  | [.agg [.flt .f32 a0_0, .flt .f32 a0_1, .flt .f32 a0_2, .flt .f32 a0_3], .flt .f32 a1] => some (.leaf (impl_Ball_face_mk (impl_Ball_face (⟨a0_0, a0_1, a0_2, a0_3⟩ : Ball) a1)))
  | _ => none
set_option maxRecDepth 100000 in
theorem impl_Ball_face_ok : FunOK Try.prog 38 impl_Ball_face_c.fn := by
  refine con_ok (Γ := gam []) (gam_nil) tab_ok (by kernel_rfl) Try.func38 (by kernel_rfl) (by kernel_rfl) Try.ntmps38 Try.results38 (loopsOK_none rfl _) 100000 fun args t h => ?_
  unfold impl_Ball_face_c at h
  split at h
  · rename_i a0_0 a0_1 a0_2 a0_3 a1
    cases h
    exact ⟨rfl, agree_tot (mk := impl_Ball_face_mk) (t := impl_Ball_face_tree (⟨a0_0, a0_1, a0_2, a0_3⟩ : Ball) a1) (by unfold Agree; kernel_rfl) (by kernel_rfl)⟩
  · cases h

/-- (loop.example/g01284/impl.Ball).place -/
def impl_Ball_place_tree (a0 : Ball) (a1 : Mark) (a2 : Nat) : DT (Vec) :=
  let x0 := fadd .f32 a0.Radius a1.High;
  .need ((impl_cos_need a1.North)) (
  let x1 := impl_cos a1.North;
  let x2 := fmul .f32 x0 x1;
  let x3 := impl_Ball_face (⟨a0.Mass, a0.Radius, a0.Spin, a0.Start⟩ : Ball) a2;
  let x4 := fadd .f32 a1.East x3;
  .need ((impl_cos_need x4)) (
  let x5 := impl_cos x4;
  let x6 := fmul .f32 x2 x5;
  .need ((impl_SineTurns_need x4)) (
  let x7 := impl_SineTurns x4;
  let x8 := fmul .f32 x2 x7;
  .need ((impl_SineTurns_need a1.North)) (
  let x9 := impl_SineTurns a1.North;
  let x10 := fmul .f32 x0 x9;
  .leaf ((⟨x6, x8, x10⟩ : Vec))))))
def impl_Ball_place (a0 : Ball) (a1 : Mark) (a2 : Nat) : Vec := (impl_Ball_place_tree a0 a1 a2).val
def impl_Ball_place_need (a0 : Ball) (a1 : Mark) (a2 : Nat) : Bool := (impl_Ball_place_tree a0 a1 a2).ok
def impl_Ball_place_mk (p : Vec) : Ret := ⟨.agg [.flt .f32 p.X, .flt .f32 p.Y, .flt .f32 p.Z], []⟩
def impl_Ball_place_c : Con := fun args => match args with
  | [.agg [.flt .f32 a0_0, .flt .f32 a0_1, .flt .f32 a0_2, .flt .f32 a0_3], .agg [.flt .f32 a1_0, .flt .f32 a1_1, .flt .f32 a1_2], .flt .f32 a2] => some (.need (impl_Ball_place_need (⟨a0_0, a0_1, a0_2, a0_3⟩ : Ball) (⟨a1_0, a1_1, a1_2⟩ : Mark) a2) (.leaf (impl_Ball_place_mk (impl_Ball_place (⟨a0_0, a0_1, a0_2, a0_3⟩ : Ball) (⟨a1_0, a1_1, a1_2⟩ : Mark) a2))))
  | _ => none
set_option maxRecDepth 100000 in
theorem impl_Ball_place_ok : FunOK Try.prog 34 impl_Ball_place_c.fn := by
  refine con_ok (Γ := gam [(50, impl_cos_c), (38, impl_Ball_face_c), (48, impl_SineTurns_c)]) (gam_cons impl_cos_ok (gam_cons impl_Ball_face_ok (gam_cons impl_SineTurns_ok (gam_nil)))) tab_ok (by kernel_rfl) Try.func34 (by kernel_rfl) (by kernel_rfl) Try.ntmps34 Try.results34 (loopsOK_none rfl _) 100000 fun args t h => ?_
  unfold impl_Ball_place_c at h
  split at h
  · rename_i a0_0 a0_1 a0_2 a0_3 a1_0 a1_1 a1_2 a2
    cases h
    exact ⟨rfl, agree_need (mk := impl_Ball_place_mk) (t := impl_Ball_place_tree (⟨a0_0, a0_1, a0_2, a0_3⟩ : Ball) (⟨a1_0, a1_1, a1_2⟩ : Mark) a2) (by unfold Agree; kernel_rfl)⟩
  · cases h

/-- (loop.example/g01284/impl.Vector).numbers -/
def impl_Vector_numbers_tree (a0 : Vec) : DT (List Nat) :=
  .leaf ([a0.X, a0.Y, a0.Z])
def impl_Vector_numbers (a0 : Vec) : List Nat := (impl_Vector_numbers_tree a0).val
def impl_Vector_numbers_mk (p : List Nat) : Ret := ⟨.own 0, [.typed 24 (.flt .f32) p]⟩
def impl_Vector_numbers_c : Con := fun args => match args with
  | [.agg [.flt .f32 a0_0, .flt .f32 a0_1, .flt .f32 a0_2]] => some (.leaf (impl_Vector_numbers_mk (impl_Vector_numbers (⟨a0_0, a0_1, a0_2⟩ : Vec))))
  | _ => none
set_option maxRecDepth 100000 in
theorem impl_Vector_numbers_ok : FunOK Try.prog 64 impl_Vector_numbers_c.fn := by
  refine con_ok (Γ := gam []) (gam_nil) tab_ok (by kernel_rfl) Try.func64 (by kernel_rfl) (by kernel_rfl) Try.ntmps64 Try.results64 (loopsOK_none rfl _) 100000 fun args t h => ?_
  unfold impl_Vector_numbers_c at h
  split at h
  · rename_i a0_0 a0_1 a0_2
    cases h
    exact ⟨rfl, agree_tot (mk := impl_Vector_numbers_mk) (t := impl_Vector_numbers_tree (⟨a0_0, a0_1, a0_2⟩ : Vec)) (by unfold Agree; kernel_rfl) (by kernel_rfl)⟩
  · cases h

/-- loop.example/g01284/impl.isFiniteVector -/
def impl_isFiniteVector_tree (a0 : Vec) : DT (Bool) :=
  let x0 := impl_Vector_numbers (⟨a0.X, a0.Y, a0.Z⟩ : Vec);
  .need ((impl_areFinite_need x0)) (
  let x1 := impl_areFinite x0;
  .leaf x1)
def impl_isFiniteVector (a0 : Vec) : Bool := (impl_isFiniteVector_tree a0).val
def impl_isFiniteVector_need (a0 : Vec) : Bool := (impl_isFiniteVector_tree a0).ok
def impl_isFiniteVector_mk (p : Bool) : Ret := ⟨.bool p, []⟩
def impl_isFiniteVector_c : Con := fun args => match args with
  | [.agg [.flt .f32 a0_0, .flt .f32 a0_1, .flt .f32 a0_2]] => some (.need (impl_isFiniteVector_need (⟨a0_0, a0_1, a0_2⟩ : Vec)) (.leaf (impl_isFiniteVector_mk (impl_isFiniteVector (⟨a0_0, a0_1, a0_2⟩ : Vec)))))
  | _ => none
set_option maxRecDepth 100000 in
theorem impl_isFiniteVector_ok : FunOK Try.prog 35 impl_isFiniteVector_c.fn := by
  refine con_ok (Γ := gam [(64, impl_Vector_numbers_c), (45, impl_areFinite_c)]) (gam_cons impl_Vector_numbers_ok (gam_cons impl_areFinite_ok (gam_nil))) tab_ok (by kernel_rfl) Try.func35 (by kernel_rfl) (by kernel_rfl) Try.ntmps35 Try.results35 (loopsOK_none rfl _) 100000 fun args t h => ?_
  unfold impl_isFiniteVector_c at h
  split at h
  · rename_i a0_0 a0_1 a0_2
    cases h
    exact ⟨rfl, agree_need (mk := impl_isFiniteVector_mk) (t := impl_isFiniteVector_tree (⟨a0_0, a0_1, a0_2⟩ : Vec)) (by unfold Agree; kernel_rfl)⟩
  · cases h

/-- loop.example/g01284/impl.toldVector -/
def impl_toldVector_tree (a0 : Vec) : DT (Vec × Bool) :=
  .need ((impl_isFiniteVector_need (⟨a0.X, a0.Y, a0.Z⟩ : Vec))) (
  let x0 := impl_isFiniteVector (⟨a0.X, a0.Y, a0.Z⟩ : Vec);
  .ask (!x0)
  (
   .leaf ((⟨0, 0, 0⟩ : Vec), false))
  (
   .leaf ((⟨a0.X, a0.Y, a0.Z⟩ : Vec), true)))
def impl_toldVector (a0 : Vec) : Vec × Bool := (impl_toldVector_tree a0).val
def impl_toldVector_need (a0 : Vec) : Bool := (impl_toldVector_tree a0).ok
def impl_toldVector_mk (p : Vec × Bool) : Ret := ⟨.tup [.agg [.flt .f32 p.1.X, .flt .f32 p.1.Y, .flt .f32 p.1.Z], .bool p.2], []⟩
def impl_toldVector_c : Con := fun args => match args with
  | [.agg [.flt .f32 a0_0, .flt .f32 a0_1, .flt .f32 a0_2]] => some (.need (impl_toldVector_need (⟨a0_0, a0_1, a0_2⟩ : Vec)) (.leaf (impl_toldVector_mk (impl_toldVector (⟨a0_0, a0_1, a0_2⟩ : Vec)))))
  | _ => none
set_option maxRecDepth 100000 in
theorem impl_toldVector_ok : FunOK Try.prog 33 impl_toldVector_c.fn := by
  refine con_ok (Γ := gam [(35, impl_isFiniteVector_c)]) (gam_cons impl_isFiniteVector_ok (gam_nil)) tab_ok (by kernel_rfl) Try.func33 (by kernel_rfl) (by kernel_rfl) Try.ntmps33 Try.results33 (loopsOK_none rfl _) 100000 fun args t h => ?_
  unfold impl_toldVector_c at h
  split at h
  · rename_i a0_0 a0_1 a0_2
    cases h
    exact ⟨rfl, agree_need (mk := impl_toldVector_mk) (t := impl_toldVector_tree (⟨a0_0, a0_1, a0_2⟩ : Vec)) (by unfold Agree; kernel_rfl)⟩
  · cases h

/-- loop.example/g01284/impl.PlaceOf -/
def impl_PlaceOf_tree (a0 : Ball) (a1 : Mark) (a2 : Nat) : DT (Vec × Bool) :=
  .need ((impl_ValidBall_need (⟨a0.Mass, a0.Radius, a0.Spin, a0.Start⟩ : Ball))) (
  let x0 := impl_ValidBall (⟨a0.Mass, a0.Radius, a0.Spin, a0.Start⟩ : Ball);
  .ask (!x0)
  (
   .leaf ((⟨0, 0, 0⟩ : Vec), false))
  (
   .need ((impl_ValidMark_need (⟨a1.North, a1.East, a1.High⟩ : Mark))) (
   let x1 := impl_ValidMark (⟨a1.North, a1.East, a1.High⟩ : Mark);
   .ask (!x1)
   (
    .leaf ((⟨0, 0, 0⟩ : Vec), false))
   (
    .need ((impl_IsFinite_need a2)) (
    let x2 := impl_IsFinite a2;
    .ask (!x2)
    (
     .leaf ((⟨0, 0, 0⟩ : Vec), false))
    (
     .need ((impl_Ball_place_need (⟨a0.Mass, a0.Radius, a0.Spin, a0.Start⟩ : Ball) (⟨a1.North, a1.East, a1.High⟩ : Mark) a2)) (
     let x3 := impl_Ball_place (⟨a0.Mass, a0.Radius, a0.Spin, a0.Start⟩ : Ball) (⟨a1.North, a1.East, a1.High⟩ : Mark) a2;
     .need ((impl_toldVector_need (⟨x3.X, x3.Y, x3.Z⟩ : Vec))) (
     let x4 := impl_toldVector (⟨x3.X, x3.Y, x3.Z⟩ : Vec);
     .leaf ((⟨x4.1.X, x4.1.Y, x4.1.Z⟩ : Vec), x4.2)))))))))
def impl_PlaceOf (a0 : Ball) (a1 : Mark) (a2 : Nat) : Vec × Bool := (impl_PlaceOf_tree a0 a1 a2).val
def impl_PlaceOf_need (a0 : Ball) (a1 : Mark) (a2 : Nat) : Bool := (impl_PlaceOf_tree a0 a1 a2).ok
def impl_PlaceOf_mk (p : Vec × Bool) : Ret := ⟨.tup [.agg [.flt .f32 p.1.X, .flt .f32 p.1.Y, .flt .f32 p.1.Z], .bool p.2], []⟩
def impl_PlaceOf_c : Con := fun args => match args with
  | [.agg [.flt .f32 a0_0, .flt .f32 a0_1, .flt .f32 a0_2, .flt .f32 a0_3], .agg [.flt .f32 a1_0, .flt .f32 a1_1, .flt .f32 a1_2], .flt .f32 a2] => some (.need (impl_PlaceOf_need (⟨a0_0, a0_1, a0_2, a0_3⟩ : Ball) (⟨a1_0, a1_1, a1_2⟩ : Mark) a2) (.leaf (impl_PlaceOf_mk (impl_PlaceOf (⟨a0_0, a0_1, a0_2, a0_3⟩ : Ball) (⟨a1_0, a1_1, a1_2⟩ : Mark) a2))))
  | _ => none
set_option maxRecDepth 100000 in
theorem impl_PlaceOf_ok : FunOK Try.prog 9 impl_PlaceOf_c.fn := by
  refine con_ok (Γ := gam [(30, impl_ValidBall_c), (31, impl_ValidMark_c), (32, impl_IsFinite_c), (34, impl_Ball_place_c), (33, impl_toldVector_c)]) (gam_cons impl_ValidBall_ok (gam_cons impl_ValidMark_ok (gam_cons impl_IsFinite_ok (gam_cons impl_Ball_place_ok (gam_cons impl_toldVector_ok (gam_nil)))))) tab_ok (by kernel_rfl) Try.func9 (by kernel_rfl) (by kernel_rfl) Try.ntmps9 Try.results9 (loopsOK_none rfl _) 100000 fun args t h => ?_
  unfold impl_PlaceOf_c at h
  split at h
  · rename_i a0_0 a0_1 a0_2 a0_3 a1_0 a1_1 a1_2 a2
    cases h
    exact ⟨rfl, agree_need (mk := impl_PlaceOf_mk) (t := impl_PlaceOf_tree (⟨a0_0, a0_1, a0_2, a0_3⟩ : Ball) (⟨a1_0, a1_1, a1_2⟩ : Mark) a2) (by unfold Agree; kernel_rfl)⟩
  · cases h

/-- math.Sqrt -/
def math_Sqrt_tree (a0 : Nat) : DT (Nat) :=
  let x0 := fsqrt a0;
  .leaf x0
def math_Sqrt (a0 : Nat) : Nat := (math_Sqrt_tree a0).val
def math_Sqrt_mk (p : Nat) : Ret := ⟨.flt .f64 p, []⟩
def math_Sqrt_c : Con := fun args => match args with
  | [.flt .f64 a0] => some (.leaf (math_Sqrt_mk (math_Sqrt a0)))
  | _ => none
set_option maxRecDepth 100000 in
theorem math_Sqrt_ok : FunOK Try.prog 65 math_Sqrt_c.fn := by
  refine con_ok (Γ := gam [(82, math_sqrt_c)]) (gam_cons math_sqrt_ok (gam_nil)) tab_ok (by kernel_rfl) Try.func65 (by kernel_rfl) (by kernel_rfl) Try.ntmps65 Try.results65 (loopsOK_none rfl _) 100000 fun args t h => ?_
  unfold math_Sqrt_c at h
  split at h
  · rename_i a0
    cases h
    exact ⟨rfl, agree_tot (mk := math_Sqrt_mk) (t := math_Sqrt_tree a0) (by unfold Agree; kernel_rfl) (by kernel_rfl)⟩
  · cases h

/-- loop.example/g01284/impl.RootNumber -/
def impl_RootNumber_tree (a0 : Nat) : DT (Nat) :=
  .need ((fconvOk .f32 a0 .f64)) (
  let x0 := fconv .f32 a0 .f64;
  let x1 := math_Sqrt x0;
  .need ((fconvOk .f64 x1 .f32)) (
  let x2 := fconv .f64 x1 .f32;
  .leaf x2))
def impl_RootNumber (a0 : Nat) : Nat := (impl_RootNumber_tree a0).val
def impl_RootNumber_need (a0 : Nat) : Bool := (impl_RootNumber_tree a0).ok
def impl_RootNumber_mk (p : Nat) : Ret := ⟨.flt .f32 p, []⟩
def impl_RootNumber_c : Con := fun args => match args with
  | [.flt .f32 a0] => some (.need (impl_RootNumber_need a0) (.leaf (impl_RootNumber_mk (impl_RootNumber a0))))
  | _ => none
set_option maxRecDepth 100000 in
theorem impl_RootNumber_ok : FunOK Try.prog 36 impl_RootNumber_c.fn := by
  refine con_ok (Γ := gam [(65, math_Sqrt_c)]) (gam_cons math_Sqrt_ok (gam_nil)) tab_ok (by kernel_rfl) Try.func36 (by kernel_rfl) (by kernel_rfl) Try.ntmps36 Try.results36 (loopsOK_none rfl _) 100000 fun args t h => ?_
  unfold impl_RootNumber_c at h
  split at h
  · rename_i a0
    cases h
    exact ⟨rfl, agree_need (mk := impl_RootNumber_mk) (t := impl_RootNumber_tree a0) (by unfold Agree; kernel_rfl)⟩
  · cases h

/-- loop.example/g01284/impl.angle -/
def impl_angle_tree (a0 : Nat) (a1 : Nat) : DT (Nat) :=
  let x0 := math_Abs a0;
  let x1 := math_Abs a1;
  let x2 := fdiv .f64 x0 x1;
  let x3 := fgt .f64 x0 x1;
  .ask x3
  (
   let x4 := fdiv .f64 x1 x0;
   .skip (
   let x5 := fmul .f64 x4 x4;
   let x6 := fadd .f64 4607182418800017408 x5;
   let x7 := math_Sqrt x6;
   let x8 := fadd .f64 4607182418800017408 x7;
   let x9 := fdiv .f64 x4 x8;
   .skip (
   let x10 := fmul .f64 x9 x9;
   let x11 := fadd .f64 4607182418800017408 x10;
   let x12 := math_Sqrt x11;
   let x13 := fadd .f64 4607182418800017408 x12;
   let x14 := fdiv .f64 x9 x13;
   .skip (
   let x15 := fmul .f64 x14 x14;
   let x16 := fadd .f64 4607182418800017408 x15;
   let x17 := math_Sqrt x16;
   let x18 := fadd .f64 4607182418800017408 x17;
   let x19 := fdiv .f64 x14 x18;
   .skip (
   let x20 := fmul .f64 x19 x19;
   .skip (
   let x21 := fofInt .f64 15;
   let x22 := fdiv .f64 4607182418800017408 x21;
   let x23 := fmul .f64 x20 0;
   let x24 := fsub .f64 x22 x23;
   .skip (
   let x25 := fofInt .f64 13;
   let x26 := fdiv .f64 4607182418800017408 x25;
   let x27 := fmul .f64 x20 x24;
   let x28 := fsub .f64 x26 x27;
   .skip (
   let x29 := fofInt .f64 11;
   let x30 := fdiv .f64 4607182418800017408 x29;
   let x31 := fmul .f64 x20 x28;
   let x32 := fsub .f64 x30 x31;
   .skip (
   let x33 := fofInt .f64 9;
   let x34 := fdiv .f64 4607182418800017408 x33;
   let x35 := fmul .f64 x20 x32;
   let x36 := fsub .f64 x34 x35;
   .skip (
   let x37 := fofInt .f64 7;
   let x38 := fdiv .f64 4607182418800017408 x37;
   let x39 := fmul .f64 x20 x36;
   let x40 := fsub .f64 x38 x39;
   .skip (
   let x41 := fofInt .f64 5;
   let x42 := fdiv .f64 4607182418800017408 x41;
   let x43 := fmul .f64 x20 x40;
   let x44 := fsub .f64 x42 x43;
   .skip (
   let x45 := fofInt .f64 3;
   let x46 := fdiv .f64 4607182418800017408 x45;
   let x47 := fmul .f64 x20 x44;
   let x48 := fsub .f64 x46 x47;
   .skip (
   let x49 := fofInt .f64 1;
   let x50 := fdiv .f64 4607182418800017408 x49;
   let x51 := fmul .f64 x20 x48;
   let x52 := fsub .f64 x50 x51;
   .skip (
   let x53 := fmul .f64 x19 x52;
   let x54 := fmul .f64 4620693217682128896 x53;
   let x55 := fdiv .f64 x54 4618760256179416344;
   let x56 := fgt .f64 x0 x1;
   .ask x56
   (
    let x57 := fsub .f64 4598175219545276416 x55;
    let x58 := flt .f64 a1 0;
    .ask x58
    (
     let x59 := fsub .f64 4602678819172646912 x57;
     let x60 := flt .f64 a0 0;
     .ask x60
     (
      let x61 := fneg .f64 x59;
      .leaf x61)
     (
      .leaf x59))
    (
     let x59 := flt .f64 a0 0;
     .ask x59
     (
      let x60 := fneg .f64 x57;
      .leaf x60)
     (
      .leaf x57)))
   (
    let x57 := flt .f64 a1 0;
    .ask x57
    (
     let x58 := fsub .f64 4602678819172646912 x55;
     let x59 := flt .f64 a0 0;
     .ask x59
     (
      let x60 := fneg .f64 x58;
      .leaf x60)
     (
      .leaf x58))
    (
     let x58 := flt .f64 a0 0;
     .ask x58
     (
      let x59 := fneg .f64 x55;
      .leaf x59)
     (
      .leaf x55)))))))))))))))))
  (
   .skip (
   let x4 := fmul .f64 x2 x2;
   let x5 := fadd .f64 4607182418800017408 x4;
   let x6 := math_Sqrt x5;
   let x7 := fadd .f64 4607182418800017408 x6;
   let x8 := fdiv .f64 x2 x7;
   .skip (
   let x9 := fmul .f64 x8 x8;
   let x10 := fadd .f64 4607182418800017408 x9;
   let x11 := math_Sqrt x10;
   let x12 := fadd .f64 4607182418800017408 x11;
   let x13 := fdiv .f64 x8 x12;
   .skip (
   let x14 := fmul .f64 x13 x13;
   let x15 := fadd .f64 4607182418800017408 x14;
   let x16 := math_Sqrt x15;
   let x17 := fadd .f64 4607182418800017408 x16;
   let x18 := fdiv .f64 x13 x17;
   .skip (
   let x19 := fmul .f64 x18 x18;
   .skip (
   let x20 := fofInt .f64 15;
   let x21 := fdiv .f64 4607182418800017408 x20;
   let x22 := fmul .f64 x19 0;
   let x23 := fsub .f64 x21 x22;
   .skip (
   let x24 := fofInt .f64 13;
   let x25 := fdiv .f64 4607182418800017408 x24;
   let x26 := fmul .f64 x19 x23;
   let x27 := fsub .f64 x25 x26;
   .skip (
   let x28 := fofInt .f64 11;
   let x29 := fdiv .f64 4607182418800017408 x28;
   let x30 := fmul .f64 x19 x27;
   let x31 := fsub .f64 x29 x30;
   .skip (
   let x32 := fofInt .f64 9;
   let x33 := fdiv .f64 4607182418800017408 x32;
   let x34 := fmul .f64 x19 x31;
   let x35 := fsub .f64 x33 x34;
   .skip (
   let x36 := fofInt .f64 7;
   let x37 := fdiv .f64 4607182418800017408 x36;
   let x38 := fmul .f64 x19 x35;
   let x39 := fsub .f64 x37 x38;
   .skip (
   let x40 := fofInt .f64 5;
   let x41 := fdiv .f64 4607182418800017408 x40;
   let x42 := fmul .f64 x19 x39;
   let x43 := fsub .f64 x41 x42;
   .skip (
   let x44 := fofInt .f64 3;
   let x45 := fdiv .f64 4607182418800017408 x44;
   let x46 := fmul .f64 x19 x43;
   let x47 := fsub .f64 x45 x46;
   .skip (
   let x48 := fofInt .f64 1;
   let x49 := fdiv .f64 4607182418800017408 x48;
   let x50 := fmul .f64 x19 x47;
   let x51 := fsub .f64 x49 x50;
   .skip (
   let x52 := fmul .f64 x18 x51;
   let x53 := fmul .f64 4620693217682128896 x52;
   let x54 := fdiv .f64 x53 4618760256179416344;
   let x55 := fgt .f64 x0 x1;
   .ask x55
   (
    let x56 := fsub .f64 4598175219545276416 x54;
    let x57 := flt .f64 a1 0;
    .ask x57
    (
     let x58 := fsub .f64 4602678819172646912 x56;
     let x59 := flt .f64 a0 0;
     .ask x59
     (
      let x60 := fneg .f64 x58;
      .leaf x60)
     (
      .leaf x58))
    (
     let x58 := flt .f64 a0 0;
     .ask x58
     (
      let x59 := fneg .f64 x56;
      .leaf x59)
     (
      .leaf x56)))
   (
    let x56 := flt .f64 a1 0;
    .ask x56
    (
     let x57 := fsub .f64 4602678819172646912 x54;
     let x58 := flt .f64 a0 0;
     .ask x58
     (
      let x59 := fneg .f64 x57;
      .leaf x59)
     (
      .leaf x57))
    (
     let x57 := flt .f64 a0 0;
     .ask x57
     (
      let x58 := fneg .f64 x54;
      .leaf x58)
     (
      .leaf x54)))))))))))))))))
def impl_angle (a0 : Nat) (a1 : Nat) : Nat := (impl_angle_tree a0 a1).val
def impl_angle_mk (p : Nat) : Ret := ⟨.flt .f64 p, []⟩
def impl_angle_c : Con := fun args => match args with
  | [.flt .f64 a0, .flt .f64 a1] => some (.leaf (impl_angle_mk (impl_angle a0 a1)))
  | _ => none
set_option maxRecDepth 100000 in
theorem impl_angle_ok : FunOK Try.prog 67 impl_angle_c.fn := by
  refine con_ok (Γ := gam [(72, math_Abs_c), (65, math_Sqrt_c)]) (gam_cons math_Abs_ok (gam_cons math_Sqrt_ok (gam_nil))) tab_ok (by kernel_rfl) Try.func67 (by kernel_rfl) (by kernel_rfl) Try.ntmps67 Try.results67 (loopsOK_none rfl _) 100000 fun args t h => ?_
  unfold impl_angle_c at h
  split at h
  · rename_i a0 a1
    cases h
    exact ⟨rfl, agree_tot (mk := impl_angle_mk) (t := impl_angle_tree a0 a1) (by unfold Agree; kernel_rfl) (by kernel_rfl)⟩
  · cases h

/-- loop.example/g01284/impl.AngleTurns -/
def impl_AngleTurns_tree (a0 : Nat) (a1 : Nat) : DT (Nat) :=
  .need ((impl_IsFinite_need a0)) (
  let x0 := impl_IsFinite a0;
  .ask (!x0)
  (
   let x1 := math_NaN ;
   .need ((fconvOk .f64 x1 .f32)) (
   let x2 := fconv .f64 x1 .f32;
   .leaf x2))
  (
   .need ((impl_IsFinite_need a1)) (
   let x1 := impl_IsFinite a1;
   .ask (!x1)
   (
    let x2 := math_NaN ;
    .need ((fconvOk .f64 x2 .f32)) (
    let x3 := fconv .f64 x2 .f32;
    .leaf x3))
   (
    let x2 := feq .f32 a0 0;
    .ask x2
    (
     let x3 := feq .f32 a1 0;
     .ask x3
     (
      .leaf 0)
     (
      .need ((fconvOk .f32 a0 .f64)) (
      let x4 := fconv .f32 a0 .f64;
      .need ((fconvOk .f32 a1 .f64)) (
      let x5 := fconv .f32 a1 .f64;
      let x6 := impl_angle x4 x5;
      .need ((fconvOk .f64 x6 .f32)) (
      let x7 := fconv .f64 x6 .f32;
      .leaf x7)))))
    (
     .need ((fconvOk .f32 a0 .f64)) (
     let x3 := fconv .f32 a0 .f64;
     .need ((fconvOk .f32 a1 .f64)) (
     let x4 := fconv .f32 a1 .f64;
     let x5 := impl_angle x3 x4;
     .need ((fconvOk .f64 x5 .f32)) (
     let x6 := fconv .f64 x5 .f32;
     .leaf x6))))))))
def impl_AngleTurns (a0 : Nat) (a1 : Nat) : Nat := (impl_AngleTurns_tree a0 a1).val
def impl_AngleTurns_need (a0 : Nat) (a1 : Nat) : Bool := (impl_AngleTurns_tree a0 a1).ok
def impl_AngleTurns_mk (p : Nat) : Ret := ⟨.flt .f32 p, []⟩
def impl_AngleTurns_c : Con := fun args => match args with
  | [.flt .f32 a0, .flt .f32 a1] => some (.need (impl_AngleTurns_need a0 a1) (.leaf (impl_AngleTurns_mk (impl_AngleTurns a0 a1))))
  | _ => none
set_option maxRecDepth 100000 in
theorem impl_AngleTurns_ok : FunOK Try.prog 37 impl_AngleTurns_c.fn := by
  refine con_ok (Γ := gam [(32, impl_IsFinite_c), (66, math_NaN_c), (67, impl_angle_c)]) (gam_cons impl_IsFinite_ok (gam_cons math_NaN_ok (gam_cons impl_angle_ok (gam_nil)))) tab_ok (by kernel_rfl) Try.func37 (by kernel_rfl) (by kernel_rfl) Try.ntmps37 Try.results37 (loopsOK_none rfl _) 100000 fun args t h => ?_
  unfold impl_AngleTurns_c at h
  split at h
  · rename_i a0 a1
    cases h
    exact ⟨rfl, agree_need (mk := impl_AngleTurns_mk) (t := impl_AngleTurns_tree a0 a1) (by unfold Agree; kernel_rfl)⟩
  · cases h

-- FAILED 94 math.Modf: no contract: math.Copysign 

-- FAILED 91 math.floor: no contract: math.Modf 

/-- math.Floor -/
def math_Floor_tree (a0 : Nat) : DT (Nat) :=
  let x0 := ffloor a0;
  .leaf x0
def math_Floor (a0 : Nat) : Nat := (math_Floor_tree a0).val
def math_Floor_mk (p : Nat) : Ret := ⟨.flt .f64 p, []⟩
def math_Floor_c : Con := fun args => match args with
  | [.flt .f64 a0] => some (.leaf (math_Floor_mk (math_Floor a0)))
  | _ => none
set_option maxRecDepth 100000 in
theorem math_Floor_ok : FunOK Try.prog 77 math_Floor_c.fn := by
  refine con_ok (Γ := gam [(90, math_archFloor_c)]) (gam_cons math_archFloor_ok (gam_nil)) tab_ok (by kernel_rfl) Try.func77 (by kernel_rfl) (by kernel_rfl) Try.ntmps77 Try.results77 (loopsOK_none rfl _) 100000 fun args t h => ?_
  unfold math_Floor_c at h
  split at h
  · rename_i a0
    cases h
    exact ⟨rfl, agree_tot (mk := math_Floor_mk) (t := math_Floor_tree a0) (by unfold Agree; kernel_rfl) (by kernel_rfl)⟩
  · cases h

/-- loop.example/g01284/impl.floor32 -/
def impl_floor32_tree (a0 : Nat) : DT (Nat) :=
  .need ((fconvOk .f32 a0 .f64)) (
  let x0 := fconv .f32 a0 .f64;
  let x1 := math_Floor x0;
  .need ((fconvOk .f64 x1 .f32)) (
  let x2 := fconv .f64 x1 .f32;
  .leaf x2))
def impl_floor32 (a0 : Nat) : Nat := (impl_floor32_tree a0).val
def impl_floor32_need (a0 : Nat) : Bool := (impl_floor32_tree a0).ok
def impl_floor32_mk (p : Nat) : Ret := ⟨.flt .f32 p, []⟩
def impl_floor32_c : Con := fun args => match args with
  | [.flt .f32 a0] => some (.need (impl_floor32_need a0) (.leaf (impl_floor32_mk (impl_floor32 a0))))
  | _ => none
set_option maxRecDepth 100000 in
theorem impl_floor32_ok : FunOK Try.prog 68 impl_floor32_c.fn := by
  refine con_ok (Γ := gam [(77, math_Floor_c)]) (gam_cons math_Floor_ok (gam_nil)) tab_ok (by kernel_rfl) Try.func68 (by kernel_rfl) (by kernel_rfl) Try.ntmps68 Try.results68 (loopsOK_none rfl _) 100000 fun args t h => ?_
  unfold impl_floor32_c at h
  split at h
  · rename_i a0
    cases h
    exact ⟨rfl, agree_need (mk := impl_floor32_mk) (t := impl_floor32_tree a0) (by unfold Agree; kernel_rfl)⟩
  · cases h

/-- loop.example/g01284/impl.wrapTurn -/
def impl_wrapTurn_tree (a0 : Nat) : DT (Nat) :=
  let x0 := fadd .f32 a0 1056964608;
  .need ((impl_floor32_need x0)) (
  let x1 := impl_floor32 x0;
  let x2 := fsub .f32 a0 x1;
  let x3 := flt .f32 x2 3204448256;
  .ask x3
  (
   let x4 := fadd .f32 x2 1065353216;
   let x5 := flt .f32 x4 1056964608;
   .ask (!x5)
   (
    .leaf 3204448256)
   (
    .leaf x4))
  (
   let x4 := flt .f32 x2 1056964608;
   .ask (!x4)
   (
    .leaf 3204448256)
   (
    .leaf x2)))
def impl_wrapTurn (a0 : Nat) : Nat := (impl_wrapTurn_tree a0).val
def impl_wrapTurn_need (a0 : Nat) : Bool := (impl_wrapTurn_tree a0).ok
def impl_wrapTurn_mk (p : Nat) : Ret := ⟨.flt .f32 p, []⟩
def impl_wrapTurn_c : Con := fun args => match args with
  | [.flt .f32 a0] => some (.need (impl_wrapTurn_need a0) (.leaf (impl_wrapTurn_mk (impl_wrapTurn a0))))
  | _ => none
set_option maxRecDepth 100000 in
theorem impl_wrapTurn_ok : FunOK Try.prog 39 impl_wrapTurn_c.fn := by
  refine con_ok (Γ := gam [(68, impl_floor32_c)]) (gam_cons impl_floor32_ok (gam_nil)) tab_ok (by kernel_rfl) Try.func39 (by kernel_rfl) (by kernel_rfl) Try.ntmps39 Try.results39 (loopsOK_none rfl _) 100000 fun args t h => ?_
  unfold impl_wrapTurn_c at h
  split at h
  · rename_i a0
    cases h
    exact ⟨rfl, agree_need (mk := impl_wrapTurn_mk) (t := impl_wrapTurn_tree a0) (by unfold Agree; kernel_rfl)⟩
  · cases h

/-- loop.example/g01284/impl.InnerOf -/
def impl_InnerOf_tree (a0 : Vec) (a1 : Vec) : DT (Nat) :=
  let x0 := fmul .f32 a0.X a1.X;
  let x1 := fmul .f32 a0.Y a1.Y;
  let x2 := fadd .f32 x0 x1;
  let x3 := fmul .f32 a0.Z a1.Z;
  let x4 := fadd .f32 x2 x3;
  .leaf x4
def impl_InnerOf (a0 : Vec) (a1 : Vec) : Nat := (impl_InnerOf_tree a0 a1).val
def impl_InnerOf_mk (p : Nat) : Ret := ⟨.flt .f32 p, []⟩
def impl_InnerOf_c : Con := fun args => match args with
  | [.agg [.flt .f32 a0_0, .flt .f32 a0_1, .flt .f32 a0_2], .agg [.flt .f32 a1_0, .flt .f32 a1_1, .flt .f32 a1_2]] => some (.leaf (impl_InnerOf_mk (impl_InnerOf (⟨a0_0, a0_1, a0_2⟩ : Vec) (⟨a1_0, a1_1, a1_2⟩ : Vec))))
  | _ => none
set_option maxRecDepth 100000 in
theorem impl_InnerOf_ok : FunOK Try.prog 40 impl_InnerOf_c.fn := by
  refine con_ok (Γ := gam []) (gam_nil) tab_ok (by kernel_rfl) Try.func40 (by kernel_rfl) (by kernel_rfl) Try.ntmps40 Try.results40 (loopsOK_none rfl _) 100000 fun args t h => ?_
  unfold impl_InnerOf_c at h
  split at h
  · rename_i a0_0 a0_1 a0_2 a1_0 a1_1 a1_2
    cases h
    exact ⟨rfl, agree_tot (mk := impl_InnerOf_mk) (t := impl_InnerOf_tree (⟨a0_0, a0_1, a0_2⟩ : Vec) (⟨a1_0, a1_1, a1_2⟩ : Vec)) (by unfold Agree; kernel_rfl) (by kernel_rfl)⟩
  · cases h

/-- loop.example/g01284/impl.SizeOfVector -/
def impl_SizeOfVector_tree (a0 : Vec) : DT (Nat) :=
  let x0 := impl_InnerOf (⟨a0.X, a0.Y, a0.Z⟩ : Vec) (⟨a0.X, a0.Y, a0.Z⟩ : Vec);
  .need ((impl_RootNumber_need x0)) (
  let x1 := impl_RootNumber x0;
  .leaf x1)
def impl_SizeOfVector (a0 : Vec) : Nat := (impl_SizeOfVector_tree a0).val
def impl_SizeOfVector_need (a0 : Vec) : Bool := (impl_SizeOfVector_tree a0).ok
def impl_SizeOfVector_mk (p : Nat) : Ret := ⟨.flt .f32 p, []⟩
def impl_SizeOfVector_c : Con := fun args => match args with
  | [.agg [.flt .f32 a0_0, .flt .f32 a0_1, .flt .f32 a0_2]] => some (.need (impl_SizeOfVector_need (⟨a0_0, a0_1, a0_2⟩ : Vec)) (.leaf (impl_SizeOfVector_mk (impl_SizeOfVector (⟨a0_0, a0_1, a0_2⟩ : Vec)))))
  | _ => none
set_option maxRecDepth 100000 in
theorem impl_SizeOfVector_ok : FunOK Try.prog 13 impl_SizeOfVector_c.fn := by
  refine con_ok (Γ := gam [(40, impl_InnerOf_c), (36, impl_RootNumber_c)]) (gam_cons impl_InnerOf_ok (gam_cons impl_RootNumber_ok (gam_nil))) tab_ok (by kernel_rfl) Try.func13 (by kernel_rfl) (by kernel_rfl) Try.ntmps13 Try.results13 (loopsOK_none rfl _) 100000 fun args t h => ?_
  unfold impl_SizeOfVector_c at h
  split at h
  · rename_i a0_0 a0_1 a0_2
    cases h
    exact ⟨rfl, agree_need (mk := impl_SizeOfVector_mk) (t := impl_SizeOfVector_tree (⟨a0_0, a0_1, a0_2⟩ : Vec)) (by unfold Agree; kernel_rfl)⟩
  · cases h

/-- loop.example/g01284/impl.MarkOf -/
def impl_MarkOf_tree (a0 : Ball) (a1 : Vec) (a2 : Nat) : DT (Mark × Bool) :=
  .need ((impl_ValidBall_need (⟨a0.Mass, a0.Radius, a0.Spin, a0.Start⟩ : Ball))) (
  let x0 := impl_ValidBall (⟨a0.Mass, a0.Radius, a0.Spin, a0.Start⟩ : Ball);
  .ask (!x0)
  (
   .leaf ((⟨0, 0, 0⟩ : Mark), false))
  (
   .need ((impl_isFiniteVector_need (⟨a1.X, a1.Y, a1.Z⟩ : Vec))) (
   let x1 := impl_isFiniteVector (⟨a1.X, a1.Y, a1.Z⟩ : Vec);
   .ask (!x1)
   (
    .leaf ((⟨0, 0, 0⟩ : Mark), false))
   (
    .need ((impl_IsFinite_need a2)) (
    let x2 := impl_IsFinite a2;
    .ask (!x2)
    (
     .leaf ((⟨0, 0, 0⟩ : Mark), false))
    (
     let x3 := fmul .f32 a1.X a1.X;
     let x4 := fmul .f32 a1.Y a1.Y;
     let x5 := fadd .f32 x3 x4;
     .need ((impl_RootNumber_need x5)) (
     let x6 := impl_RootNumber x5;
     .need ((impl_AngleTurns_need a1.Z x6)) (
     let x7 := impl_AngleTurns a1.Z x6;
     let x8 := fgt .f32 x7 1048576000;
     .ask x8
     (
      let x9 := flt .f32 1048576000 3196059648;
      .ask x9
      (
       .need ((impl_AngleTurns_need a1.Y a1.X)) (
       let x10 := impl_AngleTurns a1.Y a1.X;
       let x11 := impl_Ball_face (⟨a0.Mass, a0.Radius, a0.Spin, a0.Start⟩ : Ball) a2;
       let x12 := fsub .f32 x10 x11;
       .need ((impl_IsFinite_need x12)) (
       let x13 := impl_IsFinite x12;
       .ask (!x13)
       (
        .leaf ((⟨0, 0, 0⟩ : Mark), false))
       (
        .need ((impl_wrapTurn_need x12)) (
        let x14 := impl_wrapTurn x12;
        .need ((impl_SizeOfVector_need (⟨a1.X, a1.Y, a1.Z⟩ : Vec))) (
        let x15 := impl_SizeOfVector (⟨a1.X, a1.Y, a1.Z⟩ : Vec);
        let x16 := fsub .f32 x15 a0.Radius;
        .need ((impl_ValidMark_need (⟨3196059648, x14, x16⟩ : Mark))) (
        let x17 := impl_ValidMark (⟨3196059648, x14, x16⟩ : Mark);
        .ask (!x17)
        (
         .leaf ((⟨0, 0, 0⟩ : Mark), false))
        (
         .leaf ((⟨3196059648, x14, x16⟩ : Mark), true)))))))))
      (
       .need ((impl_AngleTurns_need a1.Y a1.X)) (
       let x10 := impl_AngleTurns a1.Y a1.X;
       let x11 := impl_Ball_face (⟨a0.Mass, a0.Radius, a0.Spin, a0.Start⟩ : Ball) a2;
       let x12 := fsub .f32 x10 x11;
       .need ((impl_IsFinite_need x12)) (
       let x13 := impl_IsFinite x12;
       .ask (!x13)
       (
        .leaf ((⟨0, 0, 0⟩ : Mark), false))
       (
        .need ((impl_wrapTurn_need x12)) (
        let x14 := impl_wrapTurn x12;
        .need ((impl_SizeOfVector_need (⟨a1.X, a1.Y, a1.Z⟩ : Vec))) (
        let x15 := impl_SizeOfVector (⟨a1.X, a1.Y, a1.Z⟩ : Vec);
        let x16 := fsub .f32 x15 a0.Radius;
        .need ((impl_ValidMark_need (⟨1048576000, x14, x16⟩ : Mark))) (
        let x17 := impl_ValidMark (⟨1048576000, x14, x16⟩ : Mark);
        .ask (!x17)
        (
         .leaf ((⟨0, 0, 0⟩ : Mark), false))
        (
         .leaf ((⟨1048576000, x14, x16⟩ : Mark), true))))))))))
     (
      let x9 := flt .f32 x7 3196059648;
      .ask x9
      (
       .need ((impl_AngleTurns_need a1.Y a1.X)) (
       let x10 := impl_AngleTurns a1.Y a1.X;
       let x11 := impl_Ball_face (⟨a0.Mass, a0.Radius, a0.Spin, a0.Start⟩ : Ball) a2;
       let x12 := fsub .f32 x10 x11;
       .need ((impl_IsFinite_need x12)) (
       let x13 := impl_IsFinite x12;
       .ask (!x13)
       (
        .leaf ((⟨0, 0, 0⟩ : Mark), false))
       (
        .need ((impl_wrapTurn_need x12)) (
        let x14 := impl_wrapTurn x12;
        .need ((impl_SizeOfVector_need (⟨a1.X, a1.Y, a1.Z⟩ : Vec))) (
        let x15 := impl_SizeOfVector (⟨a1.X, a1.Y, a1.Z⟩ : Vec);
        let x16 := fsub .f32 x15 a0.Radius;
        .need ((impl_ValidMark_need (⟨3196059648, x14, x16⟩ : Mark))) (
        let x17 := impl_ValidMark (⟨3196059648, x14, x16⟩ : Mark);
        .ask (!x17)
        (
         .leaf ((⟨0, 0, 0⟩ : Mark), false))
        (
         .leaf ((⟨3196059648, x14, x16⟩ : Mark), true)))))))))
      (
       .need ((impl_AngleTurns_need a1.Y a1.X)) (
       let x10 := impl_AngleTurns a1.Y a1.X;
       let x11 := impl_Ball_face (⟨a0.Mass, a0.Radius, a0.Spin, a0.Start⟩ : Ball) a2;
       let x12 := fsub .f32 x10 x11;
       .need ((impl_IsFinite_need x12)) (
       let x13 := impl_IsFinite x12;
       .ask (!x13)
       (
        .leaf ((⟨0, 0, 0⟩ : Mark), false))
       (
        .need ((impl_wrapTurn_need x12)) (
        let x14 := impl_wrapTurn x12;
        .need ((impl_SizeOfVector_need (⟨a1.X, a1.Y, a1.Z⟩ : Vec))) (
        let x15 := impl_SizeOfVector (⟨a1.X, a1.Y, a1.Z⟩ : Vec);
        let x16 := fsub .f32 x15 a0.Radius;
        .need ((impl_ValidMark_need (⟨x7, x14, x16⟩ : Mark))) (
        let x17 := impl_ValidMark (⟨x7, x14, x16⟩ : Mark);
        .ask (!x17)
        (
         .leaf ((⟨0, 0, 0⟩ : Mark), false))
        (
         .leaf ((⟨x7, x14, x16⟩ : Mark), true))))))))))))))))))
def impl_MarkOf (a0 : Ball) (a1 : Vec) (a2 : Nat) : Mark × Bool := (impl_MarkOf_tree a0 a1 a2).val
def impl_MarkOf_need (a0 : Ball) (a1 : Vec) (a2 : Nat) : Bool := (impl_MarkOf_tree a0 a1 a2).ok
def impl_MarkOf_mk (p : Mark × Bool) : Ret := ⟨.tup [.agg [.flt .f32 p.1.North, .flt .f32 p.1.East, .flt .f32 p.1.High], .bool p.2], []⟩
def impl_MarkOf_c : Con := fun args => match args with
  | [.agg [.flt .f32 a0_0, .flt .f32 a0_1, .flt .f32 a0_2, .flt .f32 a0_3], .agg [.flt .f32 a1_0, .flt .f32 a1_1, .flt .f32 a1_2], .flt .f32 a2] => some (.need (impl_MarkOf_need (⟨a0_0, a0_1, a0_2, a0_3⟩ : Ball) (⟨a1_0, a1_1, a1_2⟩ : Vec) a2) (.leaf (impl_MarkOf_mk (impl_MarkOf (⟨a0_0, a0_1, a0_2, a0_3⟩ : Ball) (⟨a1_0, a1_1, a1_2⟩ : Vec) a2))))
  | _ => none
set_option maxRecDepth 100000 in
theorem impl_MarkOf_ok : FunOK Try.prog 10 impl_MarkOf_c.fn := by
  refine con_ok (Γ := gam [(30, impl_ValidBall_c), (35, impl_isFiniteVector_c), (32, impl_IsFinite_c), (36, impl_RootNumber_c), (37, impl_AngleTurns_c), (38, impl_Ball_face_c), (39, impl_wrapTurn_c), (13, impl_SizeOfVector_c), (31, impl_ValidMark_c)]) (gam_cons impl_ValidBall_ok (gam_cons impl_isFiniteVector_ok (gam_cons impl_IsFinite_ok (gam_cons impl_RootNumber_ok (gam_cons impl_AngleTurns_ok (gam_cons impl_Ball_face_ok (gam_cons impl_wrapTurn_ok (gam_cons impl_SizeOfVector_ok (gam_cons impl_ValidMark_ok (gam_nil)))))))))) tab_ok (by kernel_rfl) Try.func10 (by kernel_rfl) (by kernel_rfl) Try.ntmps10 Try.results10 (loopsOK_none rfl _) 100000 fun args t h => ?_
  unfold impl_MarkOf_c at h
  split at h
  · rename_i a0_0 a0_1 a0_2 a0_3 a1_0 a1_1 a1_2 a2
    cases h
    exact ⟨rfl, agree_need (mk := impl_MarkOf_mk) (t := impl_MarkOf_tree (⟨a0_0, a0_1, a0_2, a0_3⟩ : Ball) (⟨a1_0, a1_1, a1_2⟩ : Vec) a2) (by unfold Agree; kernel_rfl)⟩
  · cases h

/-- loop.example/g01284/laws.r8Gap -/
def laws_r8Gap_tree (a0 : Nat) (a1 : Nat) : DT (Nat) :=
  let x0 := fsub .f64 a0 a1;
  let x1 := fsub .f64 a1 a0;
  .need (ordOk .f64 x0 x1) (
  let x2 := fmax .f64 x0 x1;
  .leaf x2)
def laws_r8Gap (a0 : Nat) (a1 : Nat) : Nat := (laws_r8Gap_tree a0 a1).val
def laws_r8Gap_need (a0 : Nat) (a1 : Nat) : Bool := (laws_r8Gap_tree a0 a1).ok
def laws_r8Gap_mk (p : Nat) : Ret := ⟨.flt .f64 p, []⟩
def laws_r8Gap_c : Con := fun args => match args with
  | [.flt .f64 a0, .flt .f64 a1] => some (.need (laws_r8Gap_need a0 a1) (.leaf (laws_r8Gap_mk (laws_r8Gap a0 a1))))
  | _ => none
set_option maxRecDepth 100000 in
theorem laws_r8Gap_ok : FunOK Try.prog 11 laws_r8Gap_c.fn := by
  refine con_ok (Γ := gam []) (gam_nil) tab_ok (by kernel_rfl) Try.func11 (by kernel_rfl) (by kernel_rfl) Try.ntmps11 Try.results11 (loopsOK_none rfl _) 100000 fun args t h => ?_
  unfold laws_r8Gap_c at h
  split at h
  · rename_i a0 a1
    cases h
    exact ⟨rfl, agree_need (mk := laws_r8Gap_mk) (t := laws_r8Gap_tree a0 a1) (by unfold Agree; kernel_rfl)⟩
  · cases h

/-- loop.example/g01284/laws.r8Turn -/
def laws_r8Turn_tree (a0 : Nat) (a1 : Nat) : DT (Nat) :=
  .need ((fconvOk .f32 a0 .f64)) (
  let x0 := fconv .f32 a0 .f64;
  .need ((fconvOk .f32 a1 .f64)) (
  let x1 := fconv .f32 a1 .f64;
  .need ((laws_r8Gap_need x0 x1)) (
  let x2 := laws_r8Gap x0 x1;
  .need ((laws_r8Gap_need x2 4607182418800017408)) (
  let x3 := laws_r8Gap x2 4607182418800017408;
  .need (ordOk .f64 x2 x3) (
  let x4 := fmin .f64 x2 x3;
  .leaf x4)))))
def laws_r8Turn (a0 : Nat) (a1 : Nat) : Nat := (laws_r8Turn_tree a0 a1).val
def laws_r8Turn_need (a0 : Nat) (a1 : Nat) : Bool := (laws_r8Turn_tree a0 a1).ok
def laws_r8Turn_mk (p : Nat) : Ret := ⟨.flt .f64 p, []⟩
def laws_r8Turn_c : Con := fun args => match args with
  | [.flt .f32 a0, .flt .f32 a1] => some (.need (laws_r8Turn_need a0 a1) (.leaf (laws_r8Turn_mk (laws_r8Turn a0 a1))))
  | _ => none
set_option maxRecDepth 100000 in
theorem laws_r8Turn_ok : FunOK Try.prog 12 laws_r8Turn_c.fn := by
  refine con_ok (Γ := gam [(11, laws_r8Gap_c)]) (gam_cons laws_r8Gap_ok (gam_nil)) tab_ok (by kernel_rfl) Try.func12 (by kernel_rfl) (by kernel_rfl) Try.ntmps12 Try.results12 (loopsOK_none rfl _) 100000 fun args t h => ?_
  unfold laws_r8Turn_c at h
  split at h
  · rename_i a0 a1
    cases h
    exact ⟨rfl, agree_need (mk := laws_r8Turn_mk) (t := laws_r8Turn_tree a0 a1) (by unfold Agree; kernel_rfl)⟩
  · cases h

/-- loop.example/g01284/impl.CrossOf -/
def impl_CrossOf_tree (a0 : Vec) (a1 : Vec) : DT (Vec) :=
  let x0 := fmul .f32 a0.Y a1.Z;
  let x1 := fmul .f32 a0.Z a1.Y;
  let x2 := fsub .f32 x0 x1;
  let x3 := fmul .f32 a0.Z a1.X;
  let x4 := fmul .f32 a0.X a1.Z;
  let x5 := fsub .f32 x3 x4;
  let x6 := fmul .f32 a0.X a1.Y;
  let x7 := fmul .f32 a0.Y a1.X;
  let x8 := fsub .f32 x6 x7;
  .leaf ((⟨x2, x5, x8⟩ : Vec))
def impl_CrossOf (a0 : Vec) (a1 : Vec) : Vec := (impl_CrossOf_tree a0 a1).val
def impl_CrossOf_mk (p : Vec) : Ret := ⟨.agg [.flt .f32 p.X, .flt .f32 p.Y, .flt .f32 p.Z], []⟩
def impl_CrossOf_c : Con := fun args => match args with
  | [.agg [.flt .f32 a0_0, .flt .f32 a0_1, .flt .f32 a0_2], .agg [.flt .f32 a1_0, .flt .f32 a1_1, .flt .f32 a1_2]] => some (.leaf (impl_CrossOf_mk (impl_CrossOf (⟨a0_0, a0_1, a0_2⟩ : Vec) (⟨a1_0, a1_1, a1_2⟩ : Vec))))
  | _ => none
set_option maxRecDepth 100000 in
theorem impl_CrossOf_ok : FunOK Try.prog 42 impl_CrossOf_c.fn := by
  refine con_ok (Γ := gam []) (gam_nil) tab_ok (by kernel_rfl) Try.func42 (by kernel_rfl) (by kernel_rfl) Try.ntmps42 Try.results42 (loopsOK_none rfl _) 100000 fun args t h => ?_
  unfold impl_CrossOf_c at h
  split at h
  · rename_i a0_0 a0_1 a0_2 a1_0 a1_1 a1_2
    cases h
    exact ⟨rfl, agree_tot (mk := impl_CrossOf_mk) (t := impl_CrossOf_tree (⟨a0_0, a0_1, a0_2⟩ : Vec) (⟨a1_0, a1_1, a1_2⟩ : Vec)) (by unfold Agree; kernel_rfl) (by kernel_rfl)⟩
  · cases h

/-- loop.example/g01284/impl.told -/
def impl_told_tree (a0 : Nat) : DT (Nat × Bool) :=
  .need ((impl_IsFinite_need a0)) (
  let x0 := impl_IsFinite a0;
  .ask (!x0)
  (
   .leaf (0, false))
  (
   .leaf (a0, true)))
def impl_told (a0 : Nat) : Nat × Bool := (impl_told_tree a0).val
def impl_told_need (a0 : Nat) : Bool := (impl_told_tree a0).ok
def impl_told_mk (p : Nat × Bool) : Ret := ⟨.tup [.flt .f32 p.1, .bool p.2], []⟩
def impl_told_c : Con := fun args => match args with
  | [.flt .f32 a0] => some (.need (impl_told_need a0) (.leaf (impl_told_mk (impl_told a0))))
  | _ => none
set_option maxRecDepth 100000 in
theorem impl_told_ok : FunOK Try.prog 41 impl_told_c.fn := by
  refine con_ok (Γ := gam [(32, impl_IsFinite_c)]) (gam_cons impl_IsFinite_ok (gam_nil)) tab_ok (by kernel_rfl) Try.func41 (by kernel_rfl) (by kernel_rfl) Try.ntmps41 Try.results41 (loopsOK_none rfl _) 100000 fun args t h => ?_
  unfold impl_told_c at h
  split at h
  · rename_i a0
    cases h
    exact ⟨rfl, agree_need (mk := impl_told_mk) (t := impl_told_tree a0) (by unfold Agree; kernel_rfl)⟩
  · cases h

/-- loop.example/g01284/impl.ArcBetween -/
def impl_ArcBetween_tree (a0 : Mark) (a1 : Mark) : DT (Nat × Bool) :=
  .need ((impl_ValidMark_need (⟨a0.North, a0.East, a0.High⟩ : Mark))) (
  let x0 := impl_ValidMark (⟨a0.North, a0.East, a0.High⟩ : Mark);
  .ask (!x0)
  (
   .leaf (0, false))
  (
   .need ((impl_ValidMark_need (⟨a1.North, a1.East, a1.High⟩ : Mark))) (
   let x1 := impl_ValidMark (⟨a1.North, a1.East, a1.High⟩ : Mark);
   .ask (!x1)
   (
    .leaf (0, false))
   (
    .need ((impl_Ball_place_need (⟨1065353216, 1065353216, 0, 0⟩ : Ball) (⟨a0.North, a0.East, 0⟩ : Mark) 0)) (
    let x2 := impl_Ball_place (⟨1065353216, 1065353216, 0, 0⟩ : Ball) (⟨a0.North, a0.East, 0⟩ : Mark) 0;
    .need ((impl_Ball_place_need (⟨1065353216, 1065353216, 0, 0⟩ : Ball) (⟨a1.North, a1.East, 0⟩ : Mark) 0)) (
    let x3 := impl_Ball_place (⟨1065353216, 1065353216, 0, 0⟩ : Ball) (⟨a1.North, a1.East, 0⟩ : Mark) 0;
    let x4 := impl_CrossOf (⟨x2.X, x2.Y, x2.Z⟩ : Vec) (⟨x3.X, x3.Y, x3.Z⟩ : Vec);
    .need ((impl_SizeOfVector_need (⟨x4.X, x4.Y, x4.Z⟩ : Vec))) (
    let x5 := impl_SizeOfVector (⟨x4.X, x4.Y, x4.Z⟩ : Vec);
    let x6 := impl_InnerOf (⟨x2.X, x2.Y, x2.Z⟩ : Vec) (⟨x3.X, x3.Y, x3.Z⟩ : Vec);
    .need ((impl_AngleTurns_need x5 x6)) (
    let x7 := impl_AngleTurns x5 x6;
    .need ((impl_told_need x7)) (
    let x8 := impl_told x7;
    .leaf (x8.1, x8.2))))))))))
def impl_ArcBetween (a0 : Mark) (a1 : Mark) : Nat × Bool := (impl_ArcBetween_tree a0 a1).val
def impl_ArcBetween_need (a0 : Mark) (a1 : Mark) : Bool := (impl_ArcBetween_tree a0 a1).ok
def impl_ArcBetween_mk (p : Nat × Bool) : Ret := ⟨.tup [.flt .f32 p.1, .bool p.2], []⟩
def impl_ArcBetween_c : Con := fun args => match args with
  | [.agg [.flt .f32 a0_0, .flt .f32 a0_1, .flt .f32 a0_2], .agg [.flt .f32 a1_0, .flt .f32 a1_1, .flt .f32 a1_2]] => some (.need (impl_ArcBetween_need (⟨a0_0, a0_1, a0_2⟩ : Mark) (⟨a1_0, a1_1, a1_2⟩ : Mark)) (.leaf (impl_ArcBetween_mk (impl_ArcBetween (⟨a0_0, a0_1, a0_2⟩ : Mark) (⟨a1_0, a1_1, a1_2⟩ : Mark)))))
  | _ => none
set_option maxRecDepth 100000 in
theorem impl_ArcBetween_ok : FunOK Try.prog 14 impl_ArcBetween_c.fn := by
  refine con_ok (Γ := gam [(31, impl_ValidMark_c), (34, impl_Ball_place_c), (42, impl_CrossOf_c), (13, impl_SizeOfVector_c), (40, impl_InnerOf_c), (37, impl_AngleTurns_c), (41, impl_told_c)]) (gam_cons impl_ValidMark_ok (gam_cons impl_Ball_place_ok (gam_cons impl_CrossOf_ok (gam_cons impl_SizeOfVector_ok (gam_cons impl_InnerOf_ok (gam_cons impl_AngleTurns_ok (gam_cons impl_told_ok (gam_nil)))))))) tab_ok (by kernel_rfl) Try.func14 (by kernel_rfl) (by kernel_rfl) Try.ntmps14 Try.results14 (loopsOK_none rfl _) 100000 fun args t h => ?_
  unfold impl_ArcBetween_c at h
  split at h
  · rename_i a0_0 a0_1 a0_2 a1_0 a1_1 a1_2
    cases h
    exact ⟨rfl, agree_need (mk := impl_ArcBetween_mk) (t := impl_ArcBetween_tree (⟨a0_0, a0_1, a0_2⟩ : Mark) (⟨a1_0, a1_1, a1_2⟩ : Mark)) (by unfold Agree; kernel_rfl)⟩
  · cases h

/-- loop.example/g01284/impl.LessVectors -/
def impl_LessVectors_tree (a0 : Vec) (a1 : Vec) : DT (Vec) :=
  let x0 := fsub .f32 a0.X a1.X;
  let x1 := fsub .f32 a0.Y a1.Y;
  let x2 := fsub .f32 a0.Z a1.Z;
  .leaf ((⟨x0, x1, x2⟩ : Vec))
def impl_LessVectors (a0 : Vec) (a1 : Vec) : Vec := (impl_LessVectors_tree a0 a1).val
def impl_LessVectors_mk (p : Vec) : Ret := ⟨.agg [.flt .f32 p.X, .flt .f32 p.Y, .flt .f32 p.Z], []⟩
def impl_LessVectors_c : Con := fun args => match args with
  | [.agg [.flt .f32 a0_0, .flt .f32 a0_1, .flt .f32 a0_2], .agg [.flt .f32 a1_0, .flt .f32 a1_1, .flt .f32 a1_2]] => some (.leaf (impl_LessVectors_mk (impl_LessVectors (⟨a0_0, a0_1, a0_2⟩ : Vec) (⟨a1_0, a1_1, a1_2⟩ : Vec))))
  | _ => none
set_option maxRecDepth 100000 in
theorem impl_LessVectors_ok : FunOK Try.prog 69 impl_LessVectors_c.fn := by
  refine con_ok (Γ := gam []) (gam_nil) tab_ok (by kernel_rfl) Try.func69 (by kernel_rfl) (by kernel_rfl) Try.ntmps69 Try.results69 (loopsOK_none rfl _) 100000 fun args t h => ?_
  unfold impl_LessVectors_c at h
  split at h
  · rename_i a0_0 a0_1 a0_2 a1_0 a1_1 a1_2
    cases h
    exact ⟨rfl, agree_tot (mk := impl_LessVectors_mk) (t := impl_LessVectors_tree (⟨a0_0, a0_1, a0_2⟩ : Vec) (⟨a1_0, a1_1, a1_2⟩ : Vec)) (by unfold Agree; kernel_rfl) (by kernel_rfl)⟩
  · cases h

/-- (loop.example/g01284/impl.Ball).rise -/
def impl_Ball_rise_tree (a0 : Ball) (a1 : Mark) (a2 : Vec) (a3 : Nat) : DT (Nat) :=
  .need ((impl_Ball_place_need (⟨a0.Mass, a0.Radius, a0.Spin, a0.Start⟩ : Ball) (⟨a1.North, a1.East, a1.High⟩ : Mark) a3)) (
  let x0 := impl_Ball_place (⟨a0.Mass, a0.Radius, a0.Spin, a0.Start⟩ : Ball) (⟨a1.North, a1.East, a1.High⟩ : Mark) a3;
  let x1 := impl_LessVectors (⟨a2.X, a2.Y, a2.Z⟩ : Vec) (⟨x0.X, x0.Y, x0.Z⟩ : Vec);
  let x2 := impl_InnerOf (⟨x0.X, x0.Y, x0.Z⟩ : Vec) (⟨x1.X, x1.Y, x1.Z⟩ : Vec);
  .need ((impl_SizeOfVector_need (⟨x0.X, x0.Y, x0.Z⟩ : Vec))) (
  let x3 := impl_SizeOfVector (⟨x0.X, x0.Y, x0.Z⟩ : Vec);
  .need ((impl_SizeOfVector_need (⟨x1.X, x1.Y, x1.Z⟩ : Vec))) (
  let x4 := impl_SizeOfVector (⟨x1.X, x1.Y, x1.Z⟩ : Vec);
  let x5 := fmul .f32 x3 x4;
  let x6 := fdiv .f32 x2 x5;
  .leaf x6)))
def impl_Ball_rise (a0 : Ball) (a1 : Mark) (a2 : Vec) (a3 : Nat) : Nat := (impl_Ball_rise_tree a0 a1 a2 a3).val
def impl_Ball_rise_need (a0 : Ball) (a1 : Mark) (a2 : Vec) (a3 : Nat) : Bool := (impl_Ball_rise_tree a0 a1 a2 a3).ok
def impl_Ball_rise_mk (p : Nat) : Ret := ⟨.flt .f32 p, []⟩
def impl_Ball_rise_c : Con := fun args => match args with
  | [.agg [.flt .f32 a0_0, .flt .f32 a0_1, .flt .f32 a0_2, .flt .f32 a0_3], .agg [.flt .f32 a1_0, .flt .f32 a1_1, .flt .f32 a1_2], .agg [.flt .f32 a2_0, .flt .f32 a2_1, .flt .f32 a2_2], .flt .f32 a3] => some (.need (impl_Ball_rise_need (⟨a0_0, a0_1, a0_2, a0_3⟩ : Ball) (⟨a1_0, a1_1, a1_2⟩ : Mark) (⟨a2_0, a2_1, a2_2⟩ : Vec) a3) (.leaf (impl_Ball_rise_mk (impl_Ball_rise (⟨a0_0, a0_1, a0_2, a0_3⟩ : Ball) (⟨a1_0, a1_1, a1_2⟩ : Mark) (⟨a2_0, a2_1, a2_2⟩ : Vec) a3))))
  | _ => none
set_option maxRecDepth 100000 in
theorem impl_Ball_rise_ok : FunOK Try.prog 43 impl_Ball_rise_c.fn := by
  refine con_ok (Γ := gam [(34, impl_Ball_place_c), (69, impl_LessVectors_c), (40, impl_InnerOf_c), (13, impl_SizeOfVector_c)]) (gam_cons impl_Ball_place_ok (gam_cons impl_LessVectors_ok (gam_cons impl_InnerOf_ok (gam_cons impl_SizeOfVector_ok (gam_nil))))) tab_ok (by kernel_rfl) Try.func43 (by kernel_rfl) (by kernel_rfl) Try.ntmps43 Try.results43 (loopsOK_none rfl _) 100000 fun args t h => ?_
  unfold impl_Ball_rise_c at h
  split at h
  · rename_i a0_0 a0_1 a0_2 a0_3 a1_0 a1_1 a1_2 a2_0 a2_1 a2_2 a3
    cases h
    exact ⟨rfl, agree_need (mk := impl_Ball_rise_mk) (t := impl_Ball_rise_tree (⟨a0_0, a0_1, a0_2, a0_3⟩ : Ball) (⟨a1_0, a1_1, a1_2⟩ : Mark) (⟨a2_0, a2_1, a2_2⟩ : Vec) a3) (by unfold Agree; kernel_rfl)⟩
  · cases h

/-- loop.example/g01284/impl.RiseAt -/
def impl_RiseAt_tree (a0 : Ball) (a1 : Mark) (a2 : Vec) (a3 : Nat) : DT (Nat × Bool) :=
  .need ((impl_ValidBall_need (⟨a0.Mass, a0.Radius, a0.Spin, a0.Start⟩ : Ball))) (
  let x0 := impl_ValidBall (⟨a0.Mass, a0.Radius, a0.Spin, a0.Start⟩ : Ball);
  .ask (!x0)
  (
   .leaf (0, false))
  (
   .need ((impl_ValidMark_need (⟨a1.North, a1.East, a1.High⟩ : Mark))) (
   let x1 := impl_ValidMark (⟨a1.North, a1.East, a1.High⟩ : Mark);
   .ask (!x1)
   (
    .leaf (0, false))
   (
    .need ((impl_isFiniteVector_need (⟨a2.X, a2.Y, a2.Z⟩ : Vec))) (
    let x2 := impl_isFiniteVector (⟨a2.X, a2.Y, a2.Z⟩ : Vec);
    .ask (!x2)
    (
     .leaf (0, false))
    (
     .need ((impl_IsFinite_need a3)) (
     let x3 := impl_IsFinite a3;
     .ask (!x3)
     (
      .leaf (0, false))
     (
      .need ((impl_Ball_rise_need (⟨a0.Mass, a0.Radius, a0.Spin, a0.Start⟩ : Ball) (⟨a1.North, a1.East, a1.High⟩ : Mark) (⟨a2.X, a2.Y, a2.Z⟩ : Vec) a3)) (
      let x4 := impl_Ball_rise (⟨a0.Mass, a0.Radius, a0.Spin, a0.Start⟩ : Ball) (⟨a1.North, a1.East, a1.High⟩ : Mark) (⟨a2.X, a2.Y, a2.Z⟩ : Vec) a3;
      .need ((impl_told_need x4)) (
      let x5 := impl_told x4;
      .leaf (x5.1, x5.2)))))))))))
def impl_RiseAt (a0 : Ball) (a1 : Mark) (a2 : Vec) (a3 : Nat) : Nat × Bool := (impl_RiseAt_tree a0 a1 a2 a3).val
def impl_RiseAt_need (a0 : Ball) (a1 : Mark) (a2 : Vec) (a3 : Nat) : Bool := (impl_RiseAt_tree a0 a1 a2 a3).ok
def impl_RiseAt_mk (p : Nat × Bool) : Ret := ⟨.tup [.flt .f32 p.1, .bool p.2], []⟩
def impl_RiseAt_c : Con := fun args => match args with
  | [.agg [.flt .f32 a0_0, .flt .f32 a0_1, .flt .f32 a0_2, .flt .f32 a0_3], .agg [.flt .f32 a1_0, .flt .f32 a1_1, .flt .f32 a1_2], .agg [.flt .f32 a2_0, .flt .f32 a2_1, .flt .f32 a2_2], .flt .f32 a3] => some (.need (impl_RiseAt_need (⟨a0_0, a0_1, a0_2, a0_3⟩ : Ball) (⟨a1_0, a1_1, a1_2⟩ : Mark) (⟨a2_0, a2_1, a2_2⟩ : Vec) a3) (.leaf (impl_RiseAt_mk (impl_RiseAt (⟨a0_0, a0_1, a0_2, a0_3⟩ : Ball) (⟨a1_0, a1_1, a1_2⟩ : Mark) (⟨a2_0, a2_1, a2_2⟩ : Vec) a3))))
  | _ => none
set_option maxRecDepth 100000 in
theorem impl_RiseAt_ok : FunOK Try.prog 15 impl_RiseAt_c.fn := by
  refine con_ok (Γ := gam [(30, impl_ValidBall_c), (31, impl_ValidMark_c), (35, impl_isFiniteVector_c), (32, impl_IsFinite_c), (43, impl_Ball_rise_c), (41, impl_told_c)]) (gam_cons impl_ValidBall_ok (gam_cons impl_ValidMark_ok (gam_cons impl_isFiniteVector_ok (gam_cons impl_IsFinite_ok (gam_cons impl_Ball_rise_ok (gam_cons impl_told_ok (gam_nil))))))) tab_ok (by kernel_rfl) Try.func15 (by kernel_rfl) (by kernel_rfl) Try.ntmps15 Try.results15 (loopsOK_none rfl _) 100000 fun args t h => ?_
  unfold impl_RiseAt_c at h
  split at h
  · rename_i a0_0 a0_1 a0_2 a0_3 a1_0 a1_1 a1_2 a2_0 a2_1 a2_2 a3
    cases h
    exact ⟨rfl, agree_need (mk := impl_RiseAt_mk) (t := impl_RiseAt_tree (⟨a0_0, a0_1, a0_2, a0_3⟩ : Ball) (⟨a1_0, a1_1, a1_2⟩ : Mark) (⟨a2_0, a2_1, a2_2⟩ : Vec) a3) (by unfold Agree; kernel_rfl)⟩
  · cases h

/-- loop.example/g01284/impl.aMass -/
def impl_aMass_tree (a0 : Nat) : DT (Bool) :=
  .need ((impl_IsFinite_need a0)) (
  let x0 := impl_IsFinite a0;
  .ask x0
  (
   let x1 := fge .f32 a0 0;
   .leaf x1)
  (
   .leaf false))
def impl_aMass (a0 : Nat) : Bool := (impl_aMass_tree a0).val
def impl_aMass_need (a0 : Nat) : Bool := (impl_aMass_tree a0).ok
def impl_aMass_mk (p : Bool) : Ret := ⟨.bool p, []⟩
def impl_aMass_c : Con := fun args => match args with
  | [.flt .f32 a0] => some (.need (impl_aMass_need a0) (.leaf (impl_aMass_mk (impl_aMass a0))))
  | _ => none
set_option maxRecDepth 100000 in
theorem impl_aMass_ok : FunOK Try.prog 44 impl_aMass_c.fn := by
  refine con_ok (Γ := gam [(32, impl_IsFinite_c)]) (gam_cons impl_IsFinite_ok (gam_nil)) tab_ok (by kernel_rfl) Try.func44 (by kernel_rfl) (by kernel_rfl) Try.ntmps44 Try.results44 (loopsOK_none rfl _) 100000 fun args t h => ?_
  unfold impl_aMass_c at h
  split at h
  · rename_i a0
    cases h
    exact ⟨rfl, agree_need (mk := impl_aMass_mk) (t := impl_aMass_tree a0) (by unfold Agree; kernel_rfl)⟩
  · cases h

/-- loop.example/g01284/impl.HorizonOf -/
def impl_HorizonOf_tree (a0 : Ball) (a1 : Nat) : DT (Nat × Bool) :=
  .need ((impl_ValidBall_need (⟨a0.Mass, a0.Radius, a0.Spin, a0.Start⟩ : Ball))) (
  let x0 := impl_ValidBall (⟨a0.Mass, a0.Radius, a0.Spin, a0.Start⟩ : Ball);
  .ask (!x0)
  (
   .leaf (0, false))
  (
   .need ((impl_aMass_need a1)) (
   let x1 := impl_aMass a1;
   .ask (!x1)
   (
    .leaf (0, false))
   (
    let x2 := fmul .f32 1073741824 a0.Radius;
    let x3 := fadd .f32 x2 a1;
    let x4 := fmul .f32 a1 x3;
    .need ((impl_RootNumber_need x4)) (
    let x5 := impl_RootNumber x4;
    .need ((impl_AngleTurns_need x5 a0.Radius)) (
    let x6 := impl_AngleTurns x5 a0.Radius;
    .need ((impl_told_need x6)) (
    let x7 := impl_told x6;
    .leaf (x7.1, x7.2))))))))
def impl_HorizonOf (a0 : Ball) (a1 : Nat) : Nat × Bool := (impl_HorizonOf_tree a0 a1).val
def impl_HorizonOf_need (a0 : Ball) (a1 : Nat) : Bool := (impl_HorizonOf_tree a0 a1).ok
def impl_HorizonOf_mk (p : Nat × Bool) : Ret := ⟨.tup [.flt .f32 p.1, .bool p.2], []⟩
def impl_HorizonOf_c : Con := fun args => match args with
  | [.agg [.flt .f32 a0_0, .flt .f32 a0_1, .flt .f32 a0_2, .flt .f32 a0_3], .flt .f32 a1] => some (.need (impl_HorizonOf_need (⟨a0_0, a0_1, a0_2, a0_3⟩ : Ball) a1) (.leaf (impl_HorizonOf_mk (impl_HorizonOf (⟨a0_0, a0_1, a0_2, a0_3⟩ : Ball) a1))))
  | _ => none
set_option maxRecDepth 100000 in
theorem impl_HorizonOf_ok : FunOK Try.prog 16 impl_HorizonOf_c.fn := by
  refine con_ok (Γ := gam [(30, impl_ValidBall_c), (44, impl_aMass_c), (36, impl_RootNumber_c), (37, impl_AngleTurns_c), (41, impl_told_c)]) (gam_cons impl_ValidBall_ok (gam_cons impl_aMass_ok (gam_cons impl_RootNumber_ok (gam_cons impl_AngleTurns_ok (gam_cons impl_told_ok (gam_nil)))))) tab_ok (by kernel_rfl) Try.func16 (by kernel_rfl) (by kernel_rfl) Try.ntmps16 Try.results16 (loopsOK_none rfl _) 100000 fun args t h => ?_
  unfold impl_HorizonOf_c at h
  split at h
  · rename_i a0_0 a0_1 a0_2 a0_3 a1
    cases h
    exact ⟨rfl, agree_need (mk := impl_HorizonOf_mk) (t := impl_HorizonOf_tree (⟨a0_0, a0_1, a0_2, a0_3⟩ : Ball) a1) (by unfold Agree; kernel_rfl)⟩
  · cases h

/-- loop.example/g01284/impl.WrapTurn -/
def impl_WrapTurn_tree (a0 : Nat) : DT (Nat × Bool) :=
  .need ((impl_IsFinite_need a0)) (
  let x0 := impl_IsFinite a0;
  .ask (!x0)
  (
   .leaf (0, false))
  (
   .need ((impl_wrapTurn_need a0)) (
   let x1 := impl_wrapTurn a0;
   .leaf (x1, true))))
def impl_WrapTurn (a0 : Nat) : Nat × Bool := (impl_WrapTurn_tree a0).val
def impl_WrapTurn_need (a0 : Nat) : Bool := (impl_WrapTurn_tree a0).ok
def impl_WrapTurn_mk (p : Nat × Bool) : Ret := ⟨.tup [.flt .f32 p.1, .bool p.2], []⟩
def impl_WrapTurn_c : Con := fun args => match args with
  | [.flt .f32 a0] => some (.need (impl_WrapTurn_need a0) (.leaf (impl_WrapTurn_mk (impl_WrapTurn a0))))
  | _ => none
set_option maxRecDepth 100000 in
theorem impl_WrapTurn_ok : FunOK Try.prog 17 impl_WrapTurn_c.fn := by
  refine con_ok (Γ := gam [(32, impl_IsFinite_c), (39, impl_wrapTurn_c)]) (gam_cons impl_IsFinite_ok (gam_cons impl_wrapTurn_ok (gam_nil))) tab_ok (by kernel_rfl) Try.func17 (by kernel_rfl) (by kernel_rfl) Try.ntmps17 Try.results17 (loopsOK_none rfl _) 100000 fun args t h => ?_
  unfold impl_WrapTurn_c at h
  split at h
  · rename_i a0
    cases h
    exact ⟨rfl, agree_need (mk := impl_WrapTurn_mk) (t := impl_WrapTurn_tree a0) (by unfold Agree; kernel_rfl)⟩
  · cases h

end
end Go.Proofs.Ytkhjcoekmamlaaa
