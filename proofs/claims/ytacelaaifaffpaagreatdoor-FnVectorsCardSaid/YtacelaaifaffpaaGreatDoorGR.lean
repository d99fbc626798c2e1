/- THE WALK, BY A PROGRAM: typed functions, and that the code is they. -/
import Derived.Test.YtacelaaifaffpaaGreatDoorFrom
namespace Go.Proofs.YtacelaaifaffpaaGreatDoor
set_option linter.unusedVariables false
set_option linter.unusedSimpArgs false
open Go.Extern
noncomputable section

set_option maxRecDepth 100000 in
theorem math_sqrt_ok : FunOK Tryz.prog 45 math_sqrt_c.fn := sqrt_ok (run_callFunc_extern Tryz.func45 (by kernel_rfl) (by kernel_rfl) (by kernel_rfl) (by kernel_rfl))

set_option maxRecDepth 100000 in
theorem math_Float32frombits_ok : FunOK Tryz.prog 55 math_Float32frombits_c.fn := frombits32_ok (run_callFunc_extern Tryz.func55 (by kernel_rfl) (by kernel_rfl) (by kernel_rfl) (by kernel_rfl))

set_option maxRecDepth 100000 in
theorem internal_bytealg_CountString_ok : FunOK Tryz.prog 95 internal_bytealg_CountString_c.fn := countString_ok (run_callFunc_extern Tryz.func95 (by kernel_rfl) (by kernel_rfl) (by kernel_rfl) (by kernel_rfl))

set_option maxRecDepth 100000 in
theorem internal_bytealg_IndexByteString_ok : FunOK Tryz.prog 108 internal_bytealg_IndexByteString_c.fn := indexByteString_ok (run_callFunc_extern Tryz.func108 (by kernel_rfl) (by kernel_rfl) (by kernel_rfl) (by kernel_rfl))

set_option maxRecDepth 100000 in
theorem math_Float64bits_ok : FunOK Tryz.prog 67 math_Float64bits_c.fn := bits64_ok (run_callFunc_extern Tryz.func67 (by kernel_rfl) (by kernel_rfl) (by kernel_rfl) (by kernel_rfl))

/-- loop.example/g01284/laws.b10Long -/
def laws_b10Long_tree (a0 : List Int) (a1 : List Int) : DT (Bool) :=
  let x0 := ((List.length a0 : Nat) : Int);
  let x1 := decide (x0 > 1048576);
  .ask x1
  (
   .leaf true)
  (
   let x2 := ((List.length a1 : Nat) : Int);
   let x3 := decide (x2 > 1048576);
   .leaf x3)
def laws_b10Long (a0 : List Int) (a1 : List Int) : Bool := (laws_b10Long_tree a0 a1).val
def laws_b10Long_mk (p : Bool) : Ret := ⟨.bool p, []⟩
def laws_b10Long_c0 : Con := fun args => match args with
  | [.vslc 1 (.int .u8) a0, .vslc 2 (.int .u8) a1] => some (.leaf (laws_b10Long_mk (laws_b10Long a0 a1)))
  | _ => none
set_option maxRecDepth 100000 in
theorem laws_b10Long_ok0 : FunOK Tryz.prog 4 laws_b10Long_c0.fn := by
  refine con_ok (Γ := gam []) (gam_nil) tab_ok (by kernel_rfl) Tryz.func4 (by kernel_rfl) (by kernel_rfl) Tryz.ntmps4 Tryz.results4 (loopsOK_none rfl _) 100000 fun args t h => ?_
  unfold laws_b10Long_c0 at h
  split at h
  · rename_i a0 a1
    cases h
    exact ⟨rfl, agree_tot (mk := laws_b10Long_mk) (t := laws_b10Long_tree a0 a1) (by unfold Agree; kernel_rfl) (by kernel_rfl)⟩
  · cases h
def laws_b10Long_c : Con := fun args => laws_b10Long_c0 (norms 0 [.slc (.int .u8), .slc (.int .u8)] args)
set_option maxRecDepth 100000 in
theorem laws_b10Long_ok : FunOK Tryz.prog 4 laws_b10Long_c.fn := con_norm [.slc (.int .u8), .slc (.int .u8)] laws_b10Long_ok0

/-- (*loop.example/g01284/spec.l00Src).next -/
def spec_l00Src_next_tree (a0_0 : List Int) (a0_1 : Int) (a0_2 : Int) : DT (Int × Int × Int) :=
  let x0 := ((List.length a0_0 : Nat) : Int);
  let x1 := decide (a0_1 < x0);
  .ask x1
  (
   .need ((decide (0 ≤ a0_1) && decide (a0_1 < ((List.length a0_0 : Nat) : Int)))) (
   let x2 := List.getD a0_0 (Int.toNat a0_1) default;
   let x3 := IntKind.wrap .i64 x2;
   let x4 := IntKind.wrap .i64 (a0_1 + 1);
   let x5 := IntKind.wrap .u64 (a0_2 * 6364136223846793005);
   let x6 := IntKind.wrap .u64 x3;
   let x7 := IntKind.wrap .u64 (x5 + x6);
   let x8 := IntKind.wrap .u64 (x7 + 1442695040888963407);
   let x9 := ((List.length a0_0 : Nat) : Int);
   let x10 := decide (x4 ≤ x9);
   .ask x10
   (
    .leaf (x3, x4, x8))
   (
    .skip (
    let x11 := Int.fdiv x8 (2 ^ (min (Int.toNat 40) (IntKind.bits .u64)));
    let x12 := IntKind.wrap .u64 (BitVec.ofInt (IntKind.bits .u64) x11 &&& BitVec.ofInt (IntKind.bits .u64) 255).toNat;
    let x13 := IntKind.wrap .i64 x12;
    .leaf (x13, x4, x8)))))
  (
   let x2 := IntKind.wrap .i64 (a0_1 + 1);
   let x3 := IntKind.wrap .u64 (a0_2 * 6364136223846793005);
   let x4 := IntKind.wrap .u64 (x3 + 0);
   let x5 := IntKind.wrap .u64 (x4 + 1442695040888963407);
   let x6 := ((List.length a0_0 : Nat) : Int);
   let x7 := decide (x2 ≤ x6);
   .ask x7
   (
    .leaf (0, x2, x5))
   (
    .skip (
    let x8 := Int.fdiv x5 (2 ^ (min (Int.toNat 40) (IntKind.bits .u64)));
    let x9 := IntKind.wrap .u64 (BitVec.ofInt (IntKind.bits .u64) x8 &&& BitVec.ofInt (IntKind.bits .u64) 255).toNat;
    let x10 := IntKind.wrap .i64 x9;
    .leaf (x10, x2, x5))))
def spec_l00Src_next (a0_0 : List Int) (a0_1 : Int) (a0_2 : Int) : Int × Int × Int := (spec_l00Src_next_tree a0_0 a0_1 a0_2).val
def spec_l00Src_next_need (a0_0 : List Int) (a0_1 : Int) (a0_2 : Int) : Bool := (spec_l00Src_next_tree a0_0 a0_1 a0_2).ok
def spec_l00Src_next_mk (p : Int × Int × Int) : PV × List (Option PV) := (.int .i64 p.1, [none, some (.int .i64 p.2.1), some (.int .u64 p.2.2)])
def spec_l00Src_next_M : BCon := fun cs ps => match cs, ps with
  | [.vslc 0 (.int .u8) a0_0, .int .i64 a0_1, .int .u64 a0_2], [] => some (.need (spec_l00Src_next_need a0_0 a0_1 a0_2) (.leaf (spec_l00Src_next_mk (spec_l00Src_next a0_0 a0_1 a0_2))))
  | _, _ => none
set_option maxRecDepth 100000 in
theorem spec_l00Src_next_ok : BoxOK Tryz.prog 31 spec_l00Src_next_M := by
  refine box_ok (Γ := gam []) (gam_nil) tab_ok (by kernel_rfl) Tryz.func31 (by kernel_rfl) (by kernel_rfl) Tryz.ntmps31 Tryz.results31 (loopsOK_none rfl _) 100000 fun cs ps t h => ?_
  unfold spec_l00Src_next_M at h
  split at h
  · rename_i a0_0 a0_1 a0_2
    cases h
    exact ⟨rfl, agreeB_need (mk := spec_l00Src_next_mk) (t := spec_l00Src_next_tree a0_0 a0_1 a0_2) (by unfold AgreeB; kernel_rfl)⟩
  · cases h

/-- (*loop.example/g01284/spec.l00Src).pick -/
def spec_l00Src_pick_tree (a0_0 : List Int) (a0_1 : Int) (a0_2 : Int) (a1 : Int) : DT (Int × Int × Int) :=
  let x0 := decide (a1 ≤ 1);
  .ask x0
  (
   .leaf (0, a0_1, a0_2))
  (
   .need ((spec_l00Src_next_need a0_0 a0_1 a0_2)) (
   let x1 := spec_l00Src_next a0_0 a0_1 a0_2;
   let x2 := decide (a1 > 200);
   .ask x2
   (
    let x3 := IntKind.wrap .i64 (x1.1 * 256);
    .need ((spec_l00Src_next_need a0_0 x1.2.1 x1.2.2)) (
    let x4 := spec_l00Src_next a0_0 x1.2.1 x1.2.2;
    let x5 := IntKind.wrap .i64 (x3 + x4.1);
    .need ((a1 != 0)) (
    let x6 := Int.tmod x5 a1;
    .leaf (x6, x4.2.1, x4.2.2))))
   (
    .need ((a1 != 0)) (
    let x3 := Int.tmod x1.1 a1;
    .leaf (x3, x1.2.1, x1.2.2)))))
def spec_l00Src_pick (a0_0 : List Int) (a0_1 : Int) (a0_2 : Int) (a1 : Int) : Int × Int × Int := (spec_l00Src_pick_tree a0_0 a0_1 a0_2 a1).val
def spec_l00Src_pick_need (a0_0 : List Int) (a0_1 : Int) (a0_2 : Int) (a1 : Int) : Bool := (spec_l00Src_pick_tree a0_0 a0_1 a0_2 a1).ok
def spec_l00Src_pick_mk (p : Int × Int × Int) : PV × List (Option PV) := (.int .i64 p.1, [none, some (.int .i64 p.2.1), some (.int .u64 p.2.2)])
def spec_l00Src_pick_M : BCon := fun cs ps => match cs, ps with
  | [.vslc 0 (.int .u8) a0_0, .int .i64 a0_1, .int .u64 a0_2], [.int .i64 a1] => some (.need (spec_l00Src_pick_need a0_0 a0_1 a0_2 a1) (.leaf (spec_l00Src_pick_mk (spec_l00Src_pick a0_0 a0_1 a0_2 a1))))
  | _, _ => none
set_option maxRecDepth 100000 in
theorem spec_l00Src_pick_ok : BoxOK Tryz.prog 22 spec_l00Src_pick_M := by
  refine box_ok (Γ := gam [] [] [(31, spec_l00Src_next_M)] []) (gam_box spec_l00Src_next_ok (gam_nil)) tab_ok (by kernel_rfl) Tryz.func22 (by kernel_rfl) (by kernel_rfl) Tryz.ntmps22 Tryz.results22 (loopsOK_none rfl _) 100000 fun cs ps t h => ?_
  unfold spec_l00Src_pick_M at h
  split at h
  · rename_i a0_0 a0_1 a0_2 a1
    cases h
    exact ⟨rfl, agreeB_need (mk := spec_l00Src_pick_mk) (t := spec_l00Src_pick_tree a0_0 a0_1 a0_2 a1) (by unfold AgreeB; kernel_rfl)⟩
  · cases h

/-- loop.example/g01284/spec.B10Vector -/
def spec_B10Vector_tree (a0 : List Int) (a1 : Int) : DT (Vec) :=
  let x0 := IntKind.wrap .i64 (2 * a1);
  let x1 := IntKind.wrap .i64 (x0 + 1);
  .need ((spec_l00Src_pick_need a0 0 0 x1)) (
  let x2 := spec_l00Src_pick a0 0 0 x1;
  let x3 := IntKind.wrap .i64 (x2.1 - a1);
  let x4 := fofInt .f32 x3;
  let x5 := IntKind.wrap .i64 (2 * a1);
  let x6 := IntKind.wrap .i64 (x5 + 1);
  .need ((spec_l00Src_pick_need a0 x2.2.1 x2.2.2 x6)) (
  let x7 := spec_l00Src_pick a0 x2.2.1 x2.2.2 x6;
  let x8 := IntKind.wrap .i64 (x7.1 - a1);
  let x9 := fofInt .f32 x8;
  let x10 := IntKind.wrap .i64 (2 * a1);
  let x11 := IntKind.wrap .i64 (x10 + 1);
  .need ((spec_l00Src_pick_need a0 x7.2.1 x7.2.2 x11)) (
  let x12 := spec_l00Src_pick a0 x7.2.1 x7.2.2 x11;
  let x13 := IntKind.wrap .i64 (x12.1 - a1);
  let x14 := fofInt .f32 x13;
  .leaf ((⟨x4, x9, x14⟩ : Vec)))))
def spec_B10Vector (a0 : List Int) (a1 : Int) : Vec := (spec_B10Vector_tree a0 a1).val
def spec_B10Vector_need (a0 : List Int) (a1 : Int) : Bool := (spec_B10Vector_tree a0 a1).ok
def spec_B10Vector_mk (p : Vec) : Ret := ⟨.agg [.flt .f32 p.X, .flt .f32 p.Y, .flt .f32 p.Z], []⟩
def spec_B10Vector_c0 : Con := fun args => match args with
  | [.vslc 1 (.int .u8) a0, .int .i64 a1] => some (.need (spec_B10Vector_need a0 a1) (.leaf (spec_B10Vector_mk (spec_B10Vector a0 a1))))
  | _ => none
set_option maxRecDepth 100000 in
theorem spec_B10Vector_ok0 : FunOK Tryz.prog 5 spec_B10Vector_c0.fn := by
  refine con_ok (Γ := gam [] [] [(22, spec_l00Src_pick_M)] [(21, spec_l00From_M)]) (gam_box spec_l00Src_pick_ok (gam_new spec_l00From_ok (gam_nil))) tab_ok (by kernel_rfl) Tryz.func5 (by kernel_rfl) (by kernel_rfl) Tryz.ntmps5 Tryz.results5 (loopsOK_none rfl _) 100000 fun args t h => ?_
  unfold spec_B10Vector_c0 at h
  split at h
  · rename_i a0 a1
    cases h
    exact ⟨rfl, agree_need (mk := spec_B10Vector_mk) (t := spec_B10Vector_tree a0 a1) (by unfold Agree; kernel_rfl)⟩
  · cases h
def spec_B10Vector_c : Con := fun args => spec_B10Vector_c0 (norms 0 [.slc (.int .u8), .none] args)
set_option maxRecDepth 100000 in
theorem spec_B10Vector_ok : FunOK Tryz.prog 5 spec_B10Vector_c.fn := con_norm [.slc (.int .u8), .none] spec_B10Vector_ok0

/-- loop.example/g01284/impl.CrossOf -/
def impl_CrossOf_tree (a0 : Vec) (a1 : Vec) : DT (Vec) :=
  let x0 := fmul .f32 a0.Y a1.Z;
  let x1 := fmul .f32 a0.Z a1.Y;
  let x2 := fsub .f32 x0 x1;
  let x3 := fmul .f32 a0.Z a1.X;
  let x4 := fmul .f32 a0.X a1.Z;
  let x5 := fsub .f32 x3 x4;
  let x6 := fmul .f32 a0.X a1.Y;
  let x7 := fmul .f32 a0.Y a1.X;
  let x8 := fsub .f32 x6 x7;
  .leaf ((⟨x2, x5, x8⟩ : Vec))
def impl_CrossOf (a0 : Vec) (a1 : Vec) : Vec := (impl_CrossOf_tree a0 a1).val
def impl_CrossOf_mk (p : Vec) : Ret := ⟨.agg [.flt .f32 p.X, .flt .f32 p.Y, .flt .f32 p.Z], []⟩
def impl_CrossOf_c : Con := fun args => match args with
  | [.agg [.flt .f32 a0_0, .flt .f32 a0_1, .flt .f32 a0_2], .agg [.flt .f32 a1_0, .flt .f32 a1_1, .flt .f32 a1_2]] => some (.leaf (impl_CrossOf_mk (impl_CrossOf (⟨a0_0, a0_1, a0_2⟩ : Vec) (⟨a1_0, a1_1, a1_2⟩ : Vec))))
  | _ => none
set_option maxRecDepth 100000 in
theorem impl_CrossOf_ok : FunOK Tryz.prog 6 impl_CrossOf_c.fn := by
  refine con_ok (Γ := gam []) (gam_nil) tab_ok (by kernel_rfl) Tryz.func6 (by kernel_rfl) (by kernel_rfl) Tryz.ntmps6 Tryz.results6 (loopsOK_none rfl _) 100000 fun args t h => ?_
  unfold impl_CrossOf_c at h
  split at h
  · rename_i a0_0 a0_1 a0_2 a1_0 a1_1 a1_2
    cases h
    exact ⟨rfl, agree_tot (mk := impl_CrossOf_mk) (t := impl_CrossOf_tree (⟨a0_0, a0_1, a0_2⟩ : Vec) (⟨a1_0, a1_1, a1_2⟩ : Vec)) (by unfold Agree; kernel_rfl) (by kernel_rfl)⟩
  · cases h

/-- loop.example/g01284/impl.LessVectors -/
def impl_LessVectors_tree (a0 : Vec) (a1 : Vec) : DT (Vec) :=
  let x0 := fsub .f32 a0.X a1.X;
  let x1 := fsub .f32 a0.Y a1.Y;
  let x2 := fsub .f32 a0.Z a1.Z;
  .leaf ((⟨x0, x1, x2⟩ : Vec))
def impl_LessVectors (a0 : Vec) (a1 : Vec) : Vec := (impl_LessVectors_tree a0 a1).val
def impl_LessVectors_mk (p : Vec) : Ret := ⟨.agg [.flt .f32 p.X, .flt .f32 p.Y, .flt .f32 p.Z], []⟩
def impl_LessVectors_c : Con := fun args => match args with
  | [.agg [.flt .f32 a0_0, .flt .f32 a0_1, .flt .f32 a0_2], .agg [.flt .f32 a1_0, .flt .f32 a1_1, .flt .f32 a1_2]] => some (.leaf (impl_LessVectors_mk (impl_LessVectors (⟨a0_0, a0_1, a0_2⟩ : Vec) (⟨a1_0, a1_1, a1_2⟩ : Vec))))
  | _ => none
set_option maxRecDepth 100000 in
theorem impl_LessVectors_ok : FunOK Tryz.prog 8 impl_LessVectors_c.fn := by
  refine con_ok (Γ := gam []) (gam_nil) tab_ok (by kernel_rfl) Tryz.func8 (by kernel_rfl) (by kernel_rfl) Tryz.ntmps8 Tryz.results8 (loopsOK_none rfl _) 100000 fun args t h => ?_
  unfold impl_LessVectors_c at h
  split at h
  · rename_i a0_0 a0_1 a0_2 a1_0 a1_1 a1_2
    cases h
    exact ⟨rfl, agree_tot (mk := impl_LessVectors_mk) (t := impl_LessVectors_tree (⟨a0_0, a0_1, a0_2⟩ : Vec) (⟨a1_0, a1_1, a1_2⟩ : Vec)) (by unfold Agree; kernel_rfl) (by kernel_rfl)⟩
  · cases h

/-- loop.example/g01284/impl.AddVectors -/
def impl_AddVectors_tree (a0 : Vec) (a1 : Vec) : DT (Vec) :=
  let x0 := fadd .f32 a0.X a1.X;
  let x1 := fadd .f32 a0.Y a1.Y;
  let x2 := fadd .f32 a0.Z a1.Z;
  .leaf ((⟨x0, x1, x2⟩ : Vec))
def impl_AddVectors (a0 : Vec) (a1 : Vec) : Vec := (impl_AddVectors_tree a0 a1).val
def impl_AddVectors_mk (p : Vec) : Ret := ⟨.agg [.flt .f32 p.X, .flt .f32 p.Y, .flt .f32 p.Z], []⟩
def impl_AddVectors_c : Con := fun args => match args with
  | [.agg [.flt .f32 a0_0, .flt .f32 a0_1, .flt .f32 a0_2], .agg [.flt .f32 a1_0, .flt .f32 a1_1, .flt .f32 a1_2]] => some (.leaf (impl_AddVectors_mk (impl_AddVectors (⟨a0_0, a0_1, a0_2⟩ : Vec) (⟨a1_0, a1_1, a1_2⟩ : Vec))))
  | _ => none
set_option maxRecDepth 100000 in
theorem impl_AddVectors_ok : FunOK Tryz.prog 7 impl_AddVectors_c.fn := by
  refine con_ok (Γ := gam []) (gam_nil) tab_ok (by kernel_rfl) Tryz.func7 (by kernel_rfl) (by kernel_rfl) Tryz.ntmps7 Tryz.results7 (loopsOK_none rfl _) 100000 fun args t h => ?_
  unfold impl_AddVectors_c at h
  split at h
  · rename_i a0_0 a0_1 a0_2 a1_0 a1_1 a1_2
    cases h
    exact ⟨rfl, agree_tot (mk := impl_AddVectors_mk) (t := impl_AddVectors_tree (⟨a0_0, a0_1, a0_2⟩ : Vec) (⟨a1_0, a1_1, a1_2⟩ : Vec)) (by unfold Agree; kernel_rfl) (by kernel_rfl)⟩
  · cases h

/-- loop.example/g01284/impl.ScaleVector -/
def impl_ScaleVector_tree (a0 : Vec) (a1 : Nat) : DT (Vec) :=
  let x0 := fmul .f32 a0.X a1;
  let x1 := fmul .f32 a0.Y a1;
  let x2 := fmul .f32 a0.Z a1;
  .leaf ((⟨x0, x1, x2⟩ : Vec))
def impl_ScaleVector (a0 : Vec) (a1 : Nat) : Vec := (impl_ScaleVector_tree a0 a1).val
def impl_ScaleVector_mk (p : Vec) : Ret := ⟨.agg [.flt .f32 p.X, .flt .f32 p.Y, .flt .f32 p.Z], []⟩
def impl_ScaleVector_c : Con := fun args => match args with
  | [.agg [.flt .f32 a0_0, .flt .f32 a0_1, .flt .f32 a0_2], .flt .f32 a1] => some (.leaf (impl_ScaleVector_mk (impl_ScaleVector (⟨a0_0, a0_1, a0_2⟩ : Vec) a1)))
  | _ => none
set_option maxRecDepth 100000 in
theorem impl_ScaleVector_ok : FunOK Tryz.prog 9 impl_ScaleVector_c.fn := by
  refine con_ok (Γ := gam []) (gam_nil) tab_ok (by kernel_rfl) Tryz.func9 (by kernel_rfl) (by kernel_rfl) Tryz.ntmps9 Tryz.results9 (loopsOK_none rfl _) 100000 fun args t h => ?_
  unfold impl_ScaleVector_c at h
  split at h
  · rename_i a0_0 a0_1 a0_2 a1
    cases h
    exact ⟨rfl, agree_tot (mk := impl_ScaleVector_mk) (t := impl_ScaleVector_tree (⟨a0_0, a0_1, a0_2⟩ : Vec) a1) (by unfold Agree; kernel_rfl) (by kernel_rfl)⟩
  · cases h

/-- loop.example/g01284/laws.b10VEqual -/
def laws_b10VEqual_tree (a0 : Vec) (a1 : Vec) : DT (Bool) :=
  let x0 := feq .f32 a0.X a1.X;
  .ask x0
  (
   let x1 := feq .f32 a0.Y a1.Y;
   .ask x1
   (
    let x2 := feq .f32 a0.Z a1.Z;
    .leaf x2)
   (
    .leaf false))
  (
   .leaf false)
def laws_b10VEqual (a0 : Vec) (a1 : Vec) : Bool := (laws_b10VEqual_tree a0 a1).val
def laws_b10VEqual_mk (p : Bool) : Ret := ⟨.bool p, []⟩
def laws_b10VEqual_c : Con := fun args => match args with
  | [.agg [.flt .f32 a0_0, .flt .f32 a0_1, .flt .f32 a0_2], .agg [.flt .f32 a1_0, .flt .f32 a1_1, .flt .f32 a1_2]] => some (.leaf (laws_b10VEqual_mk (laws_b10VEqual (⟨a0_0, a0_1, a0_2⟩ : Vec) (⟨a1_0, a1_1, a1_2⟩ : Vec))))
  | _ => none
set_option maxRecDepth 100000 in
theorem laws_b10VEqual_ok : FunOK Tryz.prog 10 laws_b10VEqual_c.fn := by
  refine con_ok (Γ := gam []) (gam_nil) tab_ok (by kernel_rfl) Tryz.func10 (by kernel_rfl) (by kernel_rfl) Tryz.ntmps10 Tryz.results10 (loopsOK_none rfl _) 100000 fun args t h => ?_
  unfold laws_b10VEqual_c at h
  split at h
  · rename_i a0_0 a0_1 a0_2 a1_0 a1_1 a1_2
    cases h
    exact ⟨rfl, agree_tot (mk := laws_b10VEqual_mk) (t := laws_b10VEqual_tree (⟨a0_0, a0_1, a0_2⟩ : Vec) (⟨a1_0, a1_1, a1_2⟩ : Vec)) (by unfold Agree; kernel_rfl) (by kernel_rfl)⟩
  · cases h

/-- loop.example/g01284/impl.InnerOf -/
def impl_InnerOf_tree (a0 : Vec) (a1 : Vec) : DT (Nat) :=
  let x0 := fmul .f32 a0.X a1.X;
  let x1 := fmul .f32 a0.Y a1.Y;
  let x2 := fadd .f32 x0 x1;
  let x3 := fmul .f32 a0.Z a1.Z;
  let x4 := fadd .f32 x2 x3;
  .leaf x4
def impl_InnerOf (a0 : Vec) (a1 : Vec) : Nat := (impl_InnerOf_tree a0 a1).val
def impl_InnerOf_mk (p : Nat) : Ret := ⟨.flt .f32 p, []⟩
def impl_InnerOf_c : Con := fun args => match args with
  | [.agg [.flt .f32 a0_0, .flt .f32 a0_1, .flt .f32 a0_2], .agg [.flt .f32 a1_0, .flt .f32 a1_1, .flt .f32 a1_2]] => some (.leaf (impl_InnerOf_mk (impl_InnerOf (⟨a0_0, a0_1, a0_2⟩ : Vec) (⟨a1_0, a1_1, a1_2⟩ : Vec))))
  | _ => none
set_option maxRecDepth 100000 in
theorem impl_InnerOf_ok : FunOK Tryz.prog 11 impl_InnerOf_c.fn := by
  refine con_ok (Γ := gam []) (gam_nil) tab_ok (by kernel_rfl) Tryz.func11 (by kernel_rfl) (by kernel_rfl) Tryz.ntmps11 Tryz.results11 (loopsOK_none rfl _) 100000 fun args t h => ?_
  unfold impl_InnerOf_c at h
  split at h
  · rename_i a0_0 a0_1 a0_2 a1_0 a1_1 a1_2
    cases h
    exact ⟨rfl, agree_tot (mk := impl_InnerOf_mk) (t := impl_InnerOf_tree (⟨a0_0, a0_1, a0_2⟩ : Vec) (⟨a1_0, a1_1, a1_2⟩ : Vec)) (by unfold Agree; kernel_rfl) (by kernel_rfl)⟩
  · cases h

/-- loop.example/g01284/laws.b10Square -/
def laws_b10Square_tree (a0 : Vec) : DT (Nat) :=
  let x0 := fmul .f32 a0.X a0.X;
  let x1 := fmul .f32 a0.Y a0.Y;
  let x2 := fadd .f32 x0 x1;
  let x3 := fmul .f32 a0.Z a0.Z;
  let x4 := fadd .f32 x2 x3;
  .leaf x4
def laws_b10Square (a0 : Vec) : Nat := (laws_b10Square_tree a0).val
def laws_b10Square_mk (p : Nat) : Ret := ⟨.flt .f32 p, []⟩
def laws_b10Square_c : Con := fun args => match args with
  | [.agg [.flt .f32 a0_0, .flt .f32 a0_1, .flt .f32 a0_2]] => some (.leaf (laws_b10Square_mk (laws_b10Square (⟨a0_0, a0_1, a0_2⟩ : Vec))))
  | _ => none
set_option maxRecDepth 100000 in
theorem laws_b10Square_ok : FunOK Tryz.prog 12 laws_b10Square_c.fn := by
  refine con_ok (Γ := gam []) (gam_nil) tab_ok (by kernel_rfl) Tryz.func12 (by kernel_rfl) (by kernel_rfl) Tryz.ntmps12 Tryz.results12 (loopsOK_none rfl _) 100000 fun args t h => ?_
  unfold laws_b10Square_c at h
  split at h
  · rename_i a0_0 a0_1 a0_2
    cases h
    exact ⟨rfl, agree_tot (mk := laws_b10Square_mk) (t := laws_b10Square_tree (⟨a0_0, a0_1, a0_2⟩ : Vec)) (by unfold Agree; kernel_rfl) (by kernel_rfl)⟩
  · cases h

/-- math.Sqrt -/
def math_Sqrt_tree (a0 : Nat) : DT (Nat) :=
  let x0 := fsqrt a0;
  .leaf x0
def math_Sqrt (a0 : Nat) : Nat := (math_Sqrt_tree a0).val
def math_Sqrt_mk (p : Nat) : Ret := ⟨.flt .f64 p, []⟩
def math_Sqrt_c : Con := fun args => match args with
  | [.flt .f64 a0] => some (.leaf (math_Sqrt_mk (math_Sqrt a0)))
  | _ => none
set_option maxRecDepth 100000 in
theorem math_Sqrt_ok : FunOK Tryz.prog 33 math_Sqrt_c.fn := by
  refine con_ok (Γ := gam [(45, math_sqrt_c)]) (gam_cons math_sqrt_ok (gam_nil)) tab_ok (by kernel_rfl) Tryz.func33 (by kernel_rfl) (by kernel_rfl) Tryz.ntmps33 Tryz.results33 (loopsOK_none rfl _) 100000 fun args t h => ?_
  unfold math_Sqrt_c at h
  split at h
  · rename_i a0
    cases h
    exact ⟨rfl, agree_tot (mk := math_Sqrt_mk) (t := math_Sqrt_tree a0) (by unfold Agree; kernel_rfl) (by kernel_rfl)⟩
  · cases h

/-- loop.example/g01284/impl.RootNumber -/
def impl_RootNumber_tree (a0 : Nat) : DT (Nat) :=
  .need ((fconvOk .f32 a0 .f64)) (
  let x0 := fconv .f32 a0 .f64;
  let x1 := math_Sqrt x0;
  .need ((fconvOk .f64 x1 .f32)) (
  let x2 := fconv .f64 x1 .f32;
  .leaf x2))
def impl_RootNumber (a0 : Nat) : Nat := (impl_RootNumber_tree a0).val
def impl_RootNumber_need (a0 : Nat) : Bool := (impl_RootNumber_tree a0).ok
def impl_RootNumber_mk (p : Nat) : Ret := ⟨.flt .f32 p, []⟩
def impl_RootNumber_c : Con := fun args => match args with
  | [.flt .f32 a0] => some (.need (impl_RootNumber_need a0) (.leaf (impl_RootNumber_mk (impl_RootNumber a0))))
  | _ => none
set_option maxRecDepth 100000 in
theorem impl_RootNumber_ok : FunOK Tryz.prog 24 impl_RootNumber_c.fn := by
  refine con_ok (Γ := gam [(33, math_Sqrt_c)]) (gam_cons math_Sqrt_ok (gam_nil)) tab_ok (by kernel_rfl) Tryz.func24 (by kernel_rfl) (by kernel_rfl) Tryz.ntmps24 Tryz.results24 (loopsOK_none rfl _) 100000 fun args t h => ?_
  unfold impl_RootNumber_c at h
  split at h
  · rename_i a0
    cases h
    exact ⟨rfl, agree_need (mk := impl_RootNumber_mk) (t := impl_RootNumber_tree a0) (by unfold Agree; kernel_rfl)⟩
  · cases h

/-- loop.example/g01284/impl.SizeOfVector -/
def impl_SizeOfVector_tree (a0 : Vec) : DT (Nat) :=
  let x0 := impl_InnerOf (⟨a0.X, a0.Y, a0.Z⟩ : Vec) (⟨a0.X, a0.Y, a0.Z⟩ : Vec);
  .need ((impl_RootNumber_need x0)) (
  let x1 := impl_RootNumber x0;
  .leaf x1)
def impl_SizeOfVector (a0 : Vec) : Nat := (impl_SizeOfVector_tree a0).val
def impl_SizeOfVector_need (a0 : Vec) : Bool := (impl_SizeOfVector_tree a0).ok
def impl_SizeOfVector_mk (p : Nat) : Ret := ⟨.flt .f32 p, []⟩
def impl_SizeOfVector_c : Con := fun args => match args with
  | [.agg [.flt .f32 a0_0, .flt .f32 a0_1, .flt .f32 a0_2]] => some (.need (impl_SizeOfVector_need (⟨a0_0, a0_1, a0_2⟩ : Vec)) (.leaf (impl_SizeOfVector_mk (impl_SizeOfVector (⟨a0_0, a0_1, a0_2⟩ : Vec)))))
  | _ => none
set_option maxRecDepth 100000 in
theorem impl_SizeOfVector_ok : FunOK Tryz.prog 14 impl_SizeOfVector_c.fn := by
  refine con_ok (Γ := gam [(11, impl_InnerOf_c), (24, impl_RootNumber_c)]) (gam_cons impl_InnerOf_ok (gam_cons impl_RootNumber_ok (gam_nil))) tab_ok (by kernel_rfl) Tryz.func14 (by kernel_rfl) (by kernel_rfl) Tryz.ntmps14 Tryz.results14 (loopsOK_none rfl _) 100000 fun args t h => ?_
  unfold impl_SizeOfVector_c at h
  split at h
  · rename_i a0_0 a0_1 a0_2
    cases h
    exact ⟨rfl, agree_need (mk := impl_SizeOfVector_mk) (t := impl_SizeOfVector_tree (⟨a0_0, a0_1, a0_2⟩ : Vec)) (by unfold Agree; kernel_rfl)⟩
  · cases h

/-- loop.example/g01284/spec.l01Narrow -/
def spec_l01Narrow_tree (a0 : Nat) : DT (Nat) :=
  .need ((fconvOk .f64 a0 .f32)) (
  let x0 := fconv .f64 a0 .f32;
  .leaf x0)
def spec_l01Narrow (a0 : Nat) : Nat := (spec_l01Narrow_tree a0).val
def spec_l01Narrow_need (a0 : Nat) : Bool := (spec_l01Narrow_tree a0).ok
def spec_l01Narrow_mk (p : Nat) : Ret := ⟨.flt .f32 p, []⟩
def spec_l01Narrow_c : Con := fun args => match args with
  | [.flt .f64 a0] => some (.need (spec_l01Narrow_need a0) (.leaf (spec_l01Narrow_mk (spec_l01Narrow a0))))
  | _ => none
set_option maxRecDepth 100000 in
theorem spec_l01Narrow_ok : FunOK Tryz.prog 34 spec_l01Narrow_c.fn := by
  refine con_ok (Γ := gam []) (gam_nil) tab_ok (by kernel_rfl) Tryz.func34 (by kernel_rfl) (by kernel_rfl) Tryz.ntmps34 Tryz.results34 (loopsOK_none rfl _) 100000 fun args t h => ?_
  unfold spec_l01Narrow_c at h
  split at h
  · rename_i a0
    cases h
    exact ⟨rfl, agree_need (mk := spec_l01Narrow_mk) (t := spec_l01Narrow_tree a0) (by unfold Agree; kernel_rfl)⟩
  · cases h

/-- loop.example/g01284/spec.l01Sqrt -/
def spec_l01Sqrt_tree (a0 : Nat) : DT (Nat) :=
  .need ((fconvOk .f32 a0 .f64)) (
  let x0 := fconv .f32 a0 .f64;
  let x1 := math_Sqrt x0;
  .need ((spec_l01Narrow_need x1)) (
  let x2 := spec_l01Narrow x1;
  .leaf x2))
def spec_l01Sqrt (a0 : Nat) : Nat := (spec_l01Sqrt_tree a0).val
def spec_l01Sqrt_need (a0 : Nat) : Bool := (spec_l01Sqrt_tree a0).ok
def spec_l01Sqrt_mk (p : Nat) : Ret := ⟨.flt .f32 p, []⟩
def spec_l01Sqrt_c : Con := fun args => match args with
  | [.flt .f32 a0] => some (.need (spec_l01Sqrt_need a0) (.leaf (spec_l01Sqrt_mk (spec_l01Sqrt a0))))
  | _ => none
set_option maxRecDepth 100000 in
theorem spec_l01Sqrt_ok : FunOK Tryz.prog 25 spec_l01Sqrt_c.fn := by
  refine con_ok (Γ := gam [(33, math_Sqrt_c), (34, spec_l01Narrow_c)]) (gam_cons math_Sqrt_ok (gam_cons spec_l01Narrow_ok (gam_nil))) tab_ok (by kernel_rfl) Tryz.func25 (by kernel_rfl) (by kernel_rfl) Tryz.ntmps25 Tryz.results25 (loopsOK_none rfl _) 100000 fun args t h => ?_
  unfold spec_l01Sqrt_c at h
  split at h
  · rename_i a0
    cases h
    exact ⟨rfl, agree_need (mk := spec_l01Sqrt_mk) (t := spec_l01Sqrt_tree a0) (by unfold Agree; kernel_rfl)⟩
  · cases h

/-- loop.example/g01284/spec.RootNumber -/
def spec_RootNumber_tree (a0 : Nat) : DT (Nat) :=
  .need ((spec_l01Sqrt_need a0)) (
  let x0 := spec_l01Sqrt a0;
  .leaf x0)
def spec_RootNumber (a0 : Nat) : Nat := (spec_RootNumber_tree a0).val
def spec_RootNumber_need (a0 : Nat) : Bool := (spec_RootNumber_tree a0).ok
def spec_RootNumber_mk (p : Nat) : Ret := ⟨.flt .f32 p, []⟩
def spec_RootNumber_c : Con := fun args => match args with
  | [.flt .f32 a0] => some (.need (spec_RootNumber_need a0) (.leaf (spec_RootNumber_mk (spec_RootNumber a0))))
  | _ => none
set_option maxRecDepth 100000 in
theorem spec_RootNumber_ok : FunOK Tryz.prog 15 spec_RootNumber_c.fn := by
  refine con_ok (Γ := gam [(25, spec_l01Sqrt_c)]) (gam_cons spec_l01Sqrt_ok (gam_nil)) tab_ok (by kernel_rfl) Tryz.func15 (by kernel_rfl) (by kernel_rfl) Tryz.ntmps15 Tryz.results15 (loopsOK_none rfl _) 100000 fun args t h => ?_
  unfold spec_RootNumber_c at h
  split at h
  · rename_i a0
    cases h
    exact ⟨rfl, agree_need (mk := spec_RootNumber_mk) (t := spec_RootNumber_tree a0) (by unfold Agree; kernel_rfl)⟩
  · cases h

/-- loop.example/g01284/spec.l01Bits -/
def spec_l01Bits_tree (a0 : Nat) : DT (Int) :=
  let x0 := fne .f32 a0 a0;
  .ask x0
  (
   .leaf 2143289344)
  (
   .need ((!isNaN .f32 a0)) (
   let x1 := IntKind.wrap .i64 ((a0 : Nat) : Int);
   .leaf x1))
def spec_l01Bits (a0 : Nat) : Int := (spec_l01Bits_tree a0).val
def spec_l01Bits_need (a0 : Nat) : Bool := (spec_l01Bits_tree a0).ok
def spec_l01Bits_mk (p : Int) : Ret := ⟨.int .i64 p, []⟩
def spec_l01Bits_c : Con := fun args => match args with
  | [.flt .f32 a0] => some (.need (spec_l01Bits_need a0) (.leaf (spec_l01Bits_mk (spec_l01Bits a0))))
  | _ => none
set_option maxRecDepth 100000 in
theorem spec_l01Bits_ok : FunOK Tryz.prog 32 spec_l01Bits_c.fn := by
  refine con_ok (Γ := gam [(44, math_Float32bits_c)]) (gam_cons math_Float32bits_ok (gam_nil)) tab_ok (by kernel_rfl) Tryz.func32 (by kernel_rfl) (by kernel_rfl) Tryz.ntmps32 Tryz.results32 (loopsOK_none rfl _) 100000 fun args t h => ?_
  unfold spec_l01Bits_c at h
  split at h
  · rename_i a0
    cases h
    exact ⟨rfl, agree_need (mk := spec_l01Bits_mk) (t := spec_l01Bits_tree a0) (by unfold Agree; kernel_rfl)⟩
  · cases h

/-- loop.example/g01284/spec.l01Same -/
def spec_l01Same_tree (a0 : Nat) (a1 : Nat) : DT (Bool) :=
  .need ((spec_l01Bits_need a0)) (
  let x0 := spec_l01Bits a0;
  .need ((spec_l01Bits_need a1)) (
  let x1 := spec_l01Bits a1;
  let x2 := (x0 == x1);
  .leaf x2))
def spec_l01Same (a0 : Nat) (a1 : Nat) : Bool := (spec_l01Same_tree a0 a1).val
def spec_l01Same_need (a0 : Nat) (a1 : Nat) : Bool := (spec_l01Same_tree a0 a1).ok
def spec_l01Same_mk (p : Bool) : Ret := ⟨.bool p, []⟩
def spec_l01Same_c : Con := fun args => match args with
  | [.flt .f32 a0, .flt .f32 a1] => some (.need (spec_l01Same_need a0 a1) (.leaf (spec_l01Same_mk (spec_l01Same a0 a1))))
  | _ => none
set_option maxRecDepth 100000 in
theorem spec_l01Same_ok : FunOK Tryz.prog 23 spec_l01Same_c.fn := by
  refine con_ok (Γ := gam [(32, spec_l01Bits_c)]) (gam_cons spec_l01Bits_ok (gam_nil)) tab_ok (by kernel_rfl) Tryz.func23 (by kernel_rfl) (by kernel_rfl) Tryz.ntmps23 Tryz.results23 (loopsOK_none rfl _) 100000 fun args t h => ?_
  unfold spec_l01Same_c at h
  split at h
  · rename_i a0 a1
    cases h
    exact ⟨rfl, agree_need (mk := spec_l01Same_mk) (t := spec_l01Same_tree a0 a1) (by unfold Agree; kernel_rfl)⟩
  · cases h

/-- loop.example/g01284/spec.SameNumber -/
def spec_SameNumber_tree (a0 : Nat) (a1 : Nat) : DT (Bool) :=
  .need ((spec_l01Same_need a0 a1)) (
  let x0 := spec_l01Same a0 a1;
  .leaf x0)
def spec_SameNumber (a0 : Nat) (a1 : Nat) : Bool := (spec_SameNumber_tree a0 a1).val
def spec_SameNumber_need (a0 : Nat) (a1 : Nat) : Bool := (spec_SameNumber_tree a0 a1).ok
def spec_SameNumber_mk (p : Bool) : Ret := ⟨.bool p, []⟩
def spec_SameNumber_c : Con := fun args => match args with
  | [.flt .f32 a0, .flt .f32 a1] => some (.need (spec_SameNumber_need a0 a1) (.leaf (spec_SameNumber_mk (spec_SameNumber a0 a1))))
  | _ => none
set_option maxRecDepth 100000 in
theorem spec_SameNumber_ok : FunOK Tryz.prog 13 spec_SameNumber_c.fn := by
  refine con_ok (Γ := gam [(23, spec_l01Same_c)]) (gam_cons spec_l01Same_ok (gam_nil)) tab_ok (by kernel_rfl) Tryz.func13 (by kernel_rfl) (by kernel_rfl) Tryz.ntmps13 Tryz.results13 (loopsOK_none rfl _) 100000 fun args t h => ?_
  unfold spec_SameNumber_c at h
  split at h
  · rename_i a0 a1
    cases h
    exact ⟨rfl, agree_need (mk := spec_SameNumber_mk) (t := spec_SameNumber_tree a0 a1) (by unfold Agree; kernel_rfl)⟩
  · cases h

/-- loop.example/g01284/impl.BetweenVectors -/
def impl_BetweenVectors_tree (a0 : Vec) (a1 : Vec) (a2 : Nat) : DT (Vec) :=
  let x0 := impl_LessVectors (⟨a1.X, a1.Y, a1.Z⟩ : Vec) (⟨a0.X, a0.Y, a0.Z⟩ : Vec);
  let x1 := impl_ScaleVector (⟨x0.X, x0.Y, x0.Z⟩ : Vec) a2;
  let x2 := impl_AddVectors (⟨a0.X, a0.Y, a0.Z⟩ : Vec) (⟨x1.X, x1.Y, x1.Z⟩ : Vec);
  .leaf ((⟨x2.X, x2.Y, x2.Z⟩ : Vec))
def impl_BetweenVectors (a0 : Vec) (a1 : Vec) (a2 : Nat) : Vec := (impl_BetweenVectors_tree a0 a1 a2).val
def impl_BetweenVectors_mk (p : Vec) : Ret := ⟨.agg [.flt .f32 p.X, .flt .f32 p.Y, .flt .f32 p.Z], []⟩
def impl_BetweenVectors_c : Con := fun args => match args with
  | [.agg [.flt .f32 a0_0, .flt .f32 a0_1, .flt .f32 a0_2], .agg [.flt .f32 a1_0, .flt .f32 a1_1, .flt .f32 a1_2], .flt .f32 a2] => some (.leaf (impl_BetweenVectors_mk (impl_BetweenVectors (⟨a0_0, a0_1, a0_2⟩ : Vec) (⟨a1_0, a1_1, a1_2⟩ : Vec) a2)))
  | _ => none
set_option maxRecDepth 100000 in
theorem impl_BetweenVectors_ok : FunOK Tryz.prog 16 impl_BetweenVectors_c.fn := by
  refine con_ok (Γ := gam [(8, impl_LessVectors_c), (9, impl_ScaleVector_c), (7, impl_AddVectors_c)]) (gam_cons impl_LessVectors_ok (gam_cons impl_ScaleVector_ok (gam_cons impl_AddVectors_ok (gam_nil)))) tab_ok (by kernel_rfl) Tryz.func16 (by kernel_rfl) (by kernel_rfl) Tryz.ntmps16 Tryz.results16 (loopsOK_none rfl _) 100000 fun args t h => ?_
  unfold impl_BetweenVectors_c at h
  split at h
  · rename_i a0_0 a0_1 a0_2 a1_0 a1_1 a1_2 a2
    cases h
    exact ⟨rfl, agree_tot (mk := impl_BetweenVectors_mk) (t := impl_BetweenVectors_tree (⟨a0_0, a0_1, a0_2⟩ : Vec) (⟨a1_0, a1_1, a1_2⟩ : Vec) a2) (by unfold Agree; kernel_rfl) (by kernel_rfl)⟩
  · cases h

/-- (*loop.example/g01284/spec.l00Src).one -/
def spec_l00Src_one_tree (a0_0 : List Int) (a0_1 : Int) (a0_2 : Int) (a1 : Int) : DT (Bool × Int × Int) :=
  .need ((spec_l00Src_pick_need a0_0 a0_1 a0_2 a1)) (
  let x0 := spec_l00Src_pick a0_0 a0_1 a0_2 a1;
  let x1 := (x0.1 == 0);
  .leaf (x1, x0.2.1, x0.2.2))
def spec_l00Src_one (a0_0 : List Int) (a0_1 : Int) (a0_2 : Int) (a1 : Int) : Bool × Int × Int := (spec_l00Src_one_tree a0_0 a0_1 a0_2 a1).val
def spec_l00Src_one_need (a0_0 : List Int) (a0_1 : Int) (a0_2 : Int) (a1 : Int) : Bool := (spec_l00Src_one_tree a0_0 a0_1 a0_2 a1).ok
def spec_l00Src_one_mk (p : Bool × Int × Int) : PV × List (Option PV) := (.bool p.1, [none, some (.int .i64 p.2.1), some (.int .u64 p.2.2)])
def spec_l00Src_one_M : BCon := fun cs ps => match cs, ps with
  | [.vslc 0 (.int .u8) a0_0, .int .i64 a0_1, .int .u64 a0_2], [.int .i64 a1] => some (.need (spec_l00Src_one_need a0_0 a0_1 a0_2 a1) (.leaf (spec_l00Src_one_mk (spec_l00Src_one a0_0 a0_1 a0_2 a1))))
  | _, _ => none
set_option maxRecDepth 100000 in
theorem spec_l00Src_one_ok : BoxOK Tryz.prog 35 spec_l00Src_one_M := by
  refine box_ok (Γ := gam [] [] [(22, spec_l00Src_pick_M)] []) (gam_box spec_l00Src_pick_ok (gam_nil)) tab_ok (by kernel_rfl) Tryz.func35 (by kernel_rfl) (by kernel_rfl) Tryz.ntmps35 Tryz.results35 (loopsOK_none rfl _) 100000 fun cs ps t h => ?_
  unfold spec_l00Src_one_M at h
  split at h
  · rename_i a0_0 a0_1 a0_2 a1
    cases h
    exact ⟨rfl, agreeB_need (mk := spec_l00Src_one_mk) (t := spec_l00Src_one_tree a0_0 a0_1 a0_2 a1) (by unfold AgreeB; kernel_rfl)⟩
  · cases h

/-- loop.example/g01284/spec.l01DrawSmall -/
def spec_l01DrawSmall_tree (a0_0 : List Int) (a0_1 : Int) (a0_2 : Int) : DT (Nat × Int × Int) :=
  .need ((spec_l00Src_pick_need a0_0 a0_1 a0_2 33)) (
  let x0 := spec_l00Src_pick a0_0 a0_1 a0_2 33;
  let x1 := IntKind.wrap .i64 (x0.1 - 16);
  let x2 := fofInt .f32 x1;
  let x3 := fdiv .f32 x2 1082130432;
  .leaf (x3, x0.2.1, x0.2.2))
def spec_l01DrawSmall (a0_0 : List Int) (a0_1 : Int) (a0_2 : Int) : Nat × Int × Int := (spec_l01DrawSmall_tree a0_0 a0_1 a0_2).val
def spec_l01DrawSmall_need (a0_0 : List Int) (a0_1 : Int) (a0_2 : Int) : Bool := (spec_l01DrawSmall_tree a0_0 a0_1 a0_2).ok
def spec_l01DrawSmall_mk (p : Nat × Int × Int) : PV × List (Option PV) := (.flt .f32 p.1, [none, some (.int .i64 p.2.1), some (.int .u64 p.2.2)])
def spec_l01DrawSmall_M : BCon := fun cs ps => match cs, ps with
  | [.vslc 0 (.int .u8) a0_0, .int .i64 a0_1, .int .u64 a0_2], [] => some (.need (spec_l01DrawSmall_need a0_0 a0_1 a0_2) (.leaf (spec_l01DrawSmall_mk (spec_l01DrawSmall a0_0 a0_1 a0_2))))
  | _, _ => none
set_option maxRecDepth 100000 in
theorem spec_l01DrawSmall_ok : BoxOK Tryz.prog 36 spec_l01DrawSmall_M := by
  refine box_ok (Γ := gam [] [] [(22, spec_l00Src_pick_M)] []) (gam_box spec_l00Src_pick_ok (gam_nil)) tab_ok (by kernel_rfl) Tryz.func36 (by kernel_rfl) (by kernel_rfl) Tryz.ntmps36 Tryz.results36 (loopsOK_none rfl _) 100000 fun cs ps t h => ?_
  unfold spec_l01DrawSmall_M at h
  split at h
  · rename_i a0_0 a0_1 a0_2
    cases h
    exact ⟨rfl, agreeB_need (mk := spec_l01DrawSmall_mk) (t := spec_l01DrawSmall_tree a0_0 a0_1 a0_2) (by unfold AgreeB; kernel_rfl)⟩
  · cases h

/-- loop.example/g01284/spec.l01DrawPlain -/
def spec_l01DrawPlain_tree (a0_0 : List Int) (a0_1 : Int) (a0_2 : Int) : DT (Nat × Int × Int) :=
  .need ((spec_l00Src_pick_need a0_0 a0_1 a0_2 129)) (
  let x0 := spec_l00Src_pick a0_0 a0_1 a0_2 129;
  let x1 := IntKind.wrap .i64 (x0.1 - 64);
  .need ((spec_l00Src_one_need a0_0 x0.2.1 x0.2.2 4)) (
  let x2 := spec_l00Src_one a0_0 x0.2.1 x0.2.2 4;
  .ask x2.1
  (
   let x3 := fofInt .f32 x1;
   let x4 := fdiv .f32 x3 1088421888;
   .leaf (x4, x2.2.1, x2.2.2))
  (
   let x3 := fofInt .f32 x1;
   let x4 := fdiv .f32 x3 1098907648;
   .leaf (x4, x2.2.1, x2.2.2))))
def spec_l01DrawPlain (a0_0 : List Int) (a0_1 : Int) (a0_2 : Int) : Nat × Int × Int := (spec_l01DrawPlain_tree a0_0 a0_1 a0_2).val
def spec_l01DrawPlain_need (a0_0 : List Int) (a0_1 : Int) (a0_2 : Int) : Bool := (spec_l01DrawPlain_tree a0_0 a0_1 a0_2).ok
def spec_l01DrawPlain_mk (p : Nat × Int × Int) : PV × List (Option PV) := (.flt .f32 p.1, [none, some (.int .i64 p.2.1), some (.int .u64 p.2.2)])
def spec_l01DrawPlain_M : BCon := fun cs ps => match cs, ps with
  | [.vslc 0 (.int .u8) a0_0, .int .i64 a0_1, .int .u64 a0_2], [] => some (.need (spec_l01DrawPlain_need a0_0 a0_1 a0_2) (.leaf (spec_l01DrawPlain_mk (spec_l01DrawPlain a0_0 a0_1 a0_2))))
  | _, _ => none
set_option maxRecDepth 100000 in
theorem spec_l01DrawPlain_ok : BoxOK Tryz.prog 46 spec_l01DrawPlain_M := by
  refine box_ok (Γ := gam [] [] [(22, spec_l00Src_pick_M), (35, spec_l00Src_one_M)] []) (gam_box spec_l00Src_pick_ok (gam_box spec_l00Src_one_ok (gam_nil))) tab_ok (by kernel_rfl) Tryz.func46 (by kernel_rfl) (by kernel_rfl) Tryz.ntmps46 Tryz.results46 (loopsOK_none rfl _) 100000 fun cs ps t h => ?_
  unfold spec_l01DrawPlain_M at h
  split at h
  · rename_i a0_0 a0_1 a0_2
    cases h
    exact ⟨rfl, agreeB_need (mk := spec_l01DrawPlain_mk) (t := spec_l01DrawPlain_tree a0_0 a0_1 a0_2) (by unfold AgreeB; kernel_rfl)⟩
  · cases h

/-- (*loop.example/g01284/spec.l00Src).among -/
def spec_l00Src_among_tree (a0_0 : List Int) (a0_1 : Int) (a0_2 : Int) (a1 : List Int) : DT (Int × Int × Int) :=
  let x0 := ((List.length a1 : Nat) : Int);
  .need ((spec_l00Src_pick_need a0_0 a0_1 a0_2 x0)) (
  let x1 := spec_l00Src_pick a0_0 a0_1 a0_2 x0;
  .need ((decide (0 ≤ x1.1) && decide (x1.1 < ((List.length a1 : Nat) : Int)))) (
  let x2 := List.getD a1 (Int.toNat x1.1) default;
  .leaf (x2, x1.2.1, x1.2.2)))
def spec_l00Src_among (a0_0 : List Int) (a0_1 : Int) (a0_2 : Int) (a1 : List Int) : Int × Int × Int := (spec_l00Src_among_tree a0_0 a0_1 a0_2 a1).val
def spec_l00Src_among_need (a0_0 : List Int) (a0_1 : Int) (a0_2 : Int) (a1 : List Int) : Bool := (spec_l00Src_among_tree a0_0 a0_1 a0_2 a1).ok
def spec_l00Src_among_mk (p : Int × Int × Int) : PV × List (Option PV) := (.int .i64 p.1, [none, some (.int .i64 p.2.1), some (.int .u64 p.2.2)])
def spec_l00Src_among_M : BCon := fun cs ps => match cs, ps with
  | [.vslc 0 (.int .u8) a0_0, .int .i64 a0_1, .int .u64 a0_2], [.vslc 0 (.int .i64) a1] => some (.need (spec_l00Src_among_need a0_0 a0_1 a0_2 a1) (.leaf (spec_l00Src_among_mk (spec_l00Src_among a0_0 a0_1 a0_2 a1))))
  | _, _ => none
set_option maxRecDepth 100000 in
theorem spec_l00Src_among_ok : BoxOK Tryz.prog 48 spec_l00Src_among_M := by
  refine box_ok (Γ := gam [] [] [(22, spec_l00Src_pick_M)] []) (gam_box spec_l00Src_pick_ok (gam_nil)) tab_ok (by kernel_rfl) Tryz.func48 (by kernel_rfl) (by kernel_rfl) Tryz.ntmps48 Tryz.results48 (loopsOK_none rfl _) 100000 fun cs ps t h => ?_
  unfold spec_l00Src_among_M at h
  split at h
  · rename_i a0_0 a0_1 a0_2 a1
    cases h
    exact ⟨rfl, agreeB_need (mk := spec_l00Src_among_mk) (t := spec_l00Src_among_tree a0_0 a0_1 a0_2 a1) (by unfold AgreeB; kernel_rfl)⟩
  · cases h

/-- loop.example/g01284/spec.l01From -/
def spec_l01From_tree (a0 : Int) : DT (Nat) :=
  let x0 := IntKind.wrap .u32 a0;
  let x1 := canon .f32 (Int.toNat x0);
  .leaf x1
def spec_l01From (a0 : Int) : Nat := (spec_l01From_tree a0).val
def spec_l01From_mk (p : Nat) : Ret := ⟨.flt .f32 p, []⟩
def spec_l01From_c : Con := fun args => match args with
  | [.int .i64 a0] => some (.leaf (spec_l01From_mk (spec_l01From a0)))
  | _ => none
set_option maxRecDepth 100000 in
theorem spec_l01From_ok : FunOK Tryz.prog 47 spec_l01From_c.fn := by
  refine con_ok (Γ := gam [(55, math_Float32frombits_c)]) (gam_cons math_Float32frombits_ok (gam_nil)) tab_ok (by kernel_rfl) Tryz.func47 (by kernel_rfl) (by kernel_rfl) Tryz.ntmps47 Tryz.results47 (loopsOK_none rfl _) 100000 fun args t h => ?_
  unfold spec_l01From_c at h
  split at h
  · rename_i a0
    cases h
    exact ⟨rfl, agree_tot (mk := spec_l01From_mk) (t := spec_l01From_tree a0) (by unfold Agree; kernel_rfl) (by kernel_rfl)⟩
  · cases h

/-- loop.example/g01284/spec.l01DrawFloat -/
def spec_l01DrawFloat_tree (a0_0 : List Int) (a0_1 : Int) (a0_2 : Int) : DT (Nat × Int × Int) :=
  .need ((spec_l00Src_one_need a0_0 a0_1 a0_2 12)) (
  let x0 := spec_l00Src_one a0_0 a0_1 a0_2 12;
  .ask (!x0.1)
  (
   .need ((spec_l01DrawPlain_need a0_0 x0.2.1 x0.2.2)) (
   let x1 := spec_l01DrawPlain a0_0 x0.2.1 x0.2.2;
   .leaf (x1.1, x1.2.1, x1.2.2)))
  (
   .need ((spec_l00Src_pick_need a0_0 x0.2.1 x0.2.2 4)) (
   let x1 := spec_l00Src_pick a0_0 x0.2.1 x0.2.2 4;
   let x2 := (x1.1 == 0);
   .ask x2
   (
    .need ((spec_l00Src_among_need a0_0 x1.2.1 x1.2.2 ([0, 2147483648, 2139095040, 4286578688, 2143289344, 1, 2139095039, 8388608, 8388607, 2147483649]))) (
    let x3 := spec_l00Src_among a0_0 x1.2.1 x1.2.2 ([0, 2147483648, 2139095040, 4286578688, 2143289344, 1, 2139095039, 8388608, 8388607, 2147483649]);
    let x4 := spec_l01From x3.1;
    .leaf (x4, x3.2.1, x3.2.2)))
   (
    let x3 := (x1.1 == 1);
    .ask x3
    (
     .need ((spec_l00Src_pick_need a0_0 x1.2.1 x1.2.2 65536)) (
     let x4 := spec_l00Src_pick a0_0 x1.2.1 x1.2.2 65536;
     let x5 := IntKind.wrap .i64 (x4.1 * 65536);
     .need ((spec_l00Src_pick_need a0_0 x4.2.1 x4.2.2 65536)) (
     let x6 := spec_l00Src_pick a0_0 x4.2.1 x4.2.2 65536;
     let x7 := IntKind.wrap .i64 (x5 + x6.1);
     let x8 := spec_l01From x7;
     .leaf (x8, x6.2.1, x6.2.2))))
    (
     let x4 := (x1.1 == 2);
     .ask x4
     (
      .need ((spec_l00Src_pick_need a0_0 x1.2.1 x1.2.2 65536)) (
      let x5 := spec_l00Src_pick a0_0 x1.2.1 x1.2.2 65536;
      let x6 := IntKind.wrap .i64 (x5.1 * 65536);
      let x7 := spec_l01From x6;
      .leaf (x7, x5.2.1, x5.2.2)))
     (
      .need ((spec_l01DrawPlain_need a0_0 x1.2.1 x1.2.2)) (
      let x5 := spec_l01DrawPlain a0_0 x1.2.1 x1.2.2;
      .need ((spec_l00Src_among_need a0_0 x5.2.1 x5.2.2 ([8388608, 2130706432, 1610612736, 536870912]))) (
      let x6 := spec_l00Src_among a0_0 x5.2.1 x5.2.2 ([8388608, 2130706432, 1610612736, 536870912]);
      let x7 := spec_l01From x6.1;
      let x8 := fmul .f32 x5.1 x7;
      .leaf (x8, x6.2.1, x6.2.2)))))))))
def spec_l01DrawFloat (a0_0 : List Int) (a0_1 : Int) (a0_2 : Int) : Nat × Int × Int := (spec_l01DrawFloat_tree a0_0 a0_1 a0_2).val
def spec_l01DrawFloat_need (a0_0 : List Int) (a0_1 : Int) (a0_2 : Int) : Bool := (spec_l01DrawFloat_tree a0_0 a0_1 a0_2).ok
def spec_l01DrawFloat_mk (p : Nat × Int × Int) : PV × List (Option PV) := (.flt .f32 p.1, [none, some (.int .i64 p.2.1), some (.int .u64 p.2.2)])
def spec_l01DrawFloat_M : BCon := fun cs ps => match cs, ps with
  | [.vslc 0 (.int .u8) a0_0, .int .i64 a0_1, .int .u64 a0_2], [] => some (.need (spec_l01DrawFloat_need a0_0 a0_1 a0_2) (.leaf (spec_l01DrawFloat_mk (spec_l01DrawFloat a0_0 a0_1 a0_2))))
  | _, _ => none
set_option maxRecDepth 100000 in
theorem spec_l01DrawFloat_ok : BoxOK Tryz.prog 37 spec_l01DrawFloat_M := by
  refine box_ok (Γ := gam [(47, spec_l01From_c)] [] [(35, spec_l00Src_one_M), (46, spec_l01DrawPlain_M), (22, spec_l00Src_pick_M), (48, spec_l00Src_among_M)] []) (gam_cons spec_l01From_ok (gam_box spec_l00Src_one_ok (gam_box spec_l01DrawPlain_ok (gam_box spec_l00Src_pick_ok (gam_box spec_l00Src_among_ok (gam_nil)))))) tab_ok (by kernel_rfl) Tryz.func37 (by kernel_rfl) (by kernel_rfl) Tryz.ntmps37 Tryz.results37 (loopsOK_none rfl _) 100000 fun cs ps t h => ?_
  unfold spec_l01DrawFloat_M at h
  split at h
  · rename_i a0_0 a0_1 a0_2
    cases h
    exact ⟨rfl, agreeB_need (mk := spec_l01DrawFloat_mk) (t := spec_l01DrawFloat_tree a0_0 a0_1 a0_2) (by unfold AgreeB; kernel_rfl)⟩
  · cases h

/-- loop.example/g01284/spec.l01DrawVector -/
def spec_l01DrawVector_tree (a0_0 : List Int) (a0_1 : Int) (a0_2 : Int) : DT (Vec × Int × Int) :=
  .need ((spec_l00Src_one_need a0_0 a0_1 a0_2 10)) (
  let x0 := spec_l00Src_one a0_0 a0_1 a0_2 10;
  .need ((spec_l01DrawSmall_need a0_0 x0.2.1 x0.2.2)) (
  let x1 := spec_l01DrawSmall a0_0 x0.2.1 x0.2.2;
  .need ((spec_l01DrawSmall_need a0_0 x1.2.1 x1.2.2)) (
  let x2 := spec_l01DrawSmall a0_0 x1.2.1 x1.2.2;
  .need ((spec_l01DrawSmall_need a0_0 x2.2.1 x2.2.2)) (
  let x3 := spec_l01DrawSmall a0_0 x2.2.1 x2.2.2;
  .ask x0.1
  (
   .need ((spec_l01DrawFloat_need a0_0 x3.2.1 x3.2.2)) (
   let x4 := spec_l01DrawFloat a0_0 x3.2.1 x3.2.2;
   .leaf ((⟨x1.1, x4.1, x3.1⟩ : Vec), x4.2.1, x4.2.2)))
  (
   .leaf ((⟨x1.1, x2.1, x3.1⟩ : Vec), x3.2.1, x3.2.2))))))
def spec_l01DrawVector (a0_0 : List Int) (a0_1 : Int) (a0_2 : Int) : Vec × Int × Int := (spec_l01DrawVector_tree a0_0 a0_1 a0_2).val
def spec_l01DrawVector_need (a0_0 : List Int) (a0_1 : Int) (a0_2 : Int) : Bool := (spec_l01DrawVector_tree a0_0 a0_1 a0_2).ok
def spec_l01DrawVector_mk (p : Vec × Int × Int) : PV × List (Option PV) := (.agg [.flt .f32 p.1.X, .flt .f32 p.1.Y, .flt .f32 p.1.Z], [none, some (.int .i64 p.2.1), some (.int .u64 p.2.2)])
def spec_l01DrawVector_M : BCon := fun cs ps => match cs, ps with
  | [.vslc 0 (.int .u8) a0_0, .int .i64 a0_1, .int .u64 a0_2], [] => some (.need (spec_l01DrawVector_need a0_0 a0_1 a0_2) (.leaf (spec_l01DrawVector_mk (spec_l01DrawVector a0_0 a0_1 a0_2))))
  | _, _ => none
set_option maxRecDepth 100000 in
theorem spec_l01DrawVector_ok : BoxOK Tryz.prog 26 spec_l01DrawVector_M := by
  refine box_ok (Γ := gam [] [] [(35, spec_l00Src_one_M), (36, spec_l01DrawSmall_M), (37, spec_l01DrawFloat_M)] []) (gam_box spec_l00Src_one_ok (gam_box spec_l01DrawSmall_ok (gam_box spec_l01DrawFloat_ok (gam_nil)))) tab_ok (by kernel_rfl) Tryz.func26 (by kernel_rfl) (by kernel_rfl) Tryz.ntmps26 Tryz.results26 (loopsOK_none rfl _) 100000 fun cs ps t h => ?_
  unfold spec_l01DrawVector_M at h
  split at h
  · rename_i a0_0 a0_1 a0_2
    cases h
    exact ⟨rfl, agreeB_need (mk := spec_l01DrawVector_mk) (t := spec_l01DrawVector_tree a0_0 a0_1 a0_2) (by unfold AgreeB; kernel_rfl)⟩
  · cases h

/-- loop.example/g01284/spec.B10AnyVector -/
def spec_B10AnyVector_tree (a0 : List Int) : DT (Vec) :=
  .need ((spec_l01DrawVector_need a0 0 0)) (
  let x0 := spec_l01DrawVector a0 0 0;
  .leaf ((⟨x0.1.X, x0.1.Y, x0.1.Z⟩ : Vec)))
def spec_B10AnyVector (a0 : List Int) : Vec := (spec_B10AnyVector_tree a0).val
def spec_B10AnyVector_need (a0 : List Int) : Bool := (spec_B10AnyVector_tree a0).ok
def spec_B10AnyVector_mk (p : Vec) : Ret := ⟨.agg [.flt .f32 p.X, .flt .f32 p.Y, .flt .f32 p.Z], []⟩
def spec_B10AnyVector_c0 : Con := fun args => match args with
  | [.vslc 1 (.int .u8) a0] => some (.need (spec_B10AnyVector_need a0) (.leaf (spec_B10AnyVector_mk (spec_B10AnyVector a0))))
  | _ => none
set_option maxRecDepth 100000 in
theorem spec_B10AnyVector_ok0 : FunOK Tryz.prog 17 spec_B10AnyVector_c0.fn := by
  refine con_ok (Γ := gam [] [] [(26, spec_l01DrawVector_M)] [(21, spec_l00From_M)]) (gam_box spec_l01DrawVector_ok (gam_new spec_l00From_ok (gam_nil))) tab_ok (by kernel_rfl) Tryz.func17 (by kernel_rfl) (by kernel_rfl) Tryz.ntmps17 Tryz.results17 (loopsOK_none rfl _) 100000 fun args t h => ?_
  unfold spec_B10AnyVector_c0 at h
  split at h
  · rename_i a0
    cases h
    exact ⟨rfl, agree_need (mk := spec_B10AnyVector_mk) (t := spec_B10AnyVector_tree a0) (by unfold Agree; kernel_rfl)⟩
  · cases h
def spec_B10AnyVector_c : Con := fun args => spec_B10AnyVector_c0 (norms 0 [.slc (.int .u8)] args)
set_option maxRecDepth 100000 in
theorem spec_B10AnyVector_ok : FunOK Tryz.prog 17 spec_B10AnyVector_c.fn := con_norm [.slc (.int .u8)] spec_B10AnyVector_ok0

/-- (loop.example/g01284/impl.Vector).numbers -/
def impl_Vector_numbers_tree (a0 : Vec) : DT (List Nat) :=
  .leaf ([a0.X, a0.Y, a0.Z])
def impl_Vector_numbers (a0 : Vec) : List Nat := (impl_Vector_numbers_tree a0).val
def impl_Vector_numbers_mk (p : List Nat) : Ret := ⟨.own 0, [.typed 24 (.flt .f32) p]⟩
def impl_Vector_numbers_c : Con := fun args => match args with
  | [.agg [.flt .f32 a0_0, .flt .f32 a0_1, .flt .f32 a0_2]] => some (.leaf (impl_Vector_numbers_mk (impl_Vector_numbers (⟨a0_0, a0_1, a0_2⟩ : Vec))))
  | _ => none
set_option maxRecDepth 100000 in
theorem impl_Vector_numbers_ok : FunOK Tryz.prog 28 impl_Vector_numbers_c.fn := by
  refine con_ok (Γ := gam []) (gam_nil) tab_ok (by kernel_rfl) Tryz.func28 (by kernel_rfl) (by kernel_rfl) Tryz.ntmps28 Tryz.results28 (loopsOK_none rfl _) 100000 fun args t h => ?_
  unfold impl_Vector_numbers_c at h
  split at h
  · rename_i a0_0 a0_1 a0_2
    cases h
    exact ⟨rfl, agree_tot (mk := impl_Vector_numbers_mk) (t := impl_Vector_numbers_tree (⟨a0_0, a0_1, a0_2⟩ : Vec)) (by unfold Agree; kernel_rfl) (by kernel_rfl)⟩
  · cases h

/-- loop.example/g01284/impl.joined -/
def impl_joined_tree (a0 : List (List UInt8)) : DT ((List UInt8)) :=
  let x0 := ((List.length a0 : Nat) : Int);
  let x1 := (x0 == 0);
  .ask x1
  (
   .leaf ([110, 111, 110, 101]))
  (
   .need ((decide (List.length a0 ≤ 140737488355328) && decide (List.length (Go.Lib.join a0 [44]) ≤ 140737488355328))) (
   let x2 := Go.Lib.join a0 [44];
   .leaf x2))
def impl_joined (a0 : List (List UInt8)) : (List UInt8) := (impl_joined_tree a0).val
def impl_joined_need (a0 : List (List UInt8)) : Bool := (impl_joined_tree a0).ok
def impl_joined_mk (p : (List UInt8)) : Ret := ⟨.str p, []⟩
def impl_joined_c0 : Con := fun args => match args with
  | [.vslc 1 .str a0] => some (.need (impl_joined_need a0) (.leaf (impl_joined_mk (impl_joined a0))))
  | _ => none
set_option maxRecDepth 100000 in
theorem impl_joined_ok0 : FunOK Tryz.prog 39 impl_joined_c0.fn := by
  refine con_ok (Γ := gam [(52, strings_Join_c)]) (gam_cons strings_Join_ok (gam_nil)) tab_ok (by kernel_rfl) Tryz.func39 (by kernel_rfl) (by kernel_rfl) Tryz.ntmps39 Tryz.results39 (loopsOK_none rfl _) 100000 fun args t h => ?_
  unfold impl_joined_c0 at h
  split at h
  · rename_i a0
    cases h
    exact ⟨rfl, agree_need (mk := impl_joined_mk) (t := impl_joined_tree a0) (by unfold Agree; kernel_rfl)⟩
  · cases h
def impl_joined_c : Con := fun args => impl_joined_c0 (norms 0 [.slc .str] args)
set_option maxRecDepth 100000 in
theorem impl_joined_ok : FunOK Tryz.prog 39 impl_joined_c.fn := con_norm [.slc .str] impl_joined_ok0

/-- a loop of impl_NumbersText -/
def impl_NumbersText_loop0_step (p : List Nat × Int) (s : Int × List (List UInt8)) : Round (Int × List (List UInt8)) (List (List UInt8)) :=
  let x0 := decide (s.1 < p.2);
  .ask x0
  (
   .need ((decide (0 ≤ s.1) && decide (s.1 < ((List.length p.1 : Nat) : Int)))) (
   let x1 := List.getD p.1 (Int.toNat s.1) default;
   .need ((impl_digits_need x1)) (
   let x2 := impl_digits x1;
   .need ((decide ((List.length s.2 + List.length [x2]) * 16 ≤ 140737488355328) && decide (List.length s.2 + List.length [x2] ≤ 9223372036854775807))) (
   let x3 := s.2 ++ [x2];
   let x4 := IntKind.wrap .i64 (s.1 + 1);
   .leaf (.inl (x4, x3), [65])))))
  (
   .leaf (.inr s.2, [0]))
def impl_NumbersText_loop0_L (p : List Nat × Int) : LoopS (Int × List (List UInt8)) (List (List UInt8)) := { tl := fun s => [.junk, .junk, .junk, .junk, .own 0, .junk, .junk, .junk, .junk, .junk, .junk, .vslc 1 (.flt .f32) p.1, .int .i64 p.2, .int .i64 s.1], hl := fun s => [some (.typed 9 .str s.2)], ex := fun r => .exit 0, otl := fun r => [.junk, .junk, .junk, .junk, .own 0], ohl := fun r => [some (.typed 9 .str r)] }
def impl_NumbersText_loop0_ext : St → Option ((List Nat × Int) × (Int × List (List UInt8)) × List Nat) := fun S => match (S.tm 4).unK, (S.tm 11).unK, (S.tm 12).unK, (S.tm 13).unK with
  | .own i0, .vslc 1 (.flt .f32) q0, .int .i64 q1, .int .i64 q2 => (match S.hp i0 with
    | some (.typed 9 .str q3) => some ((q0, q1), (q2, q3), [i0])
    | _ => none)
  | _, _, _, _ => none
def impl_NumbersText_loop0_post (p : List Nat × Int) (r : List (List UInt8)) : DT (Ex × St) := .leaf (.exit 0, LSt [.junk, .junk, .junk, .junk, .own 0] [some (.typed 9 .str r)])
def impl_NumbersText_loop0 (p : List Nat × Int) (s : Int × List (List UInt8)) : List (List UInt8) := loopVal (impl_NumbersText_loop0_step p) s
def impl_NumbersText_loop0_ends (p : List Nat × Int) (s : Int × List (List UInt8)) : Bool := loopEnds (impl_NumbersText_loop0_step p) s
def impl_NumbersText_loop0_F : LoopF := loopF impl_NumbersText_loop0_step impl_NumbersText_loop0_ext impl_NumbersText_loop0_post
theorem impl_NumbersText_loop0_hext : ∀ S p s fl, impl_NumbersText_loop0_ext S = some (p, s, fl) → Norm S fl ((impl_NumbersText_loop0_L p).tl s) ((impl_NumbersText_loop0_L p).hl s) (impl_NumbersText_loop0_L p).gl := by
  intro S p s fl h
  unfold impl_NumbersText_loop0_ext at h
  (repeat' split at h) <;> first
    | (cases h; constructor <;> simp_all [impl_NumbersText_loop0_L, keepT, keepH, rens, renH, PV.ren, Blk.ren, fOf, lget, nodup, natIn, lenEq, gtm, PV.unK])
    | cases h
theorem impl_NumbersText_loop0_hpost : ∀ p r e S', (impl_NumbersText_loop0_post p r).get = some (e, S') → e = (impl_NumbersText_loop0_L p).ex r ∧ S' = LSt ((impl_NumbersText_loop0_L p).otl r) ((impl_NumbersText_loop0_L p).ohl r) ((impl_NumbersText_loop0_L p).ogl r) := by
  intro p r e S' h
  unfold impl_NumbersText_loop0_post at h
  simp only [DT.get, Option.some.injEq, Prod.mk.injEq] at h; exact ⟨h.1.symm, h.2.symm⟩

def impl_NumbersText_loops : Nat → Option LoopF := loopTab [(5, impl_NumbersText_loop0_F)]
set_option maxRecDepth 100000 in
theorem impl_NumbersText_l0 : LoopOK Tryz.prog ⟨gam [(38, impl_digits_c), (39, impl_joined_c)], tab, 25, impl_NumbersText_loops⟩ (lp Tryz.f27 0) :=
  loopOK_some (F := impl_NumbersText_loop0_F) (by kernel_rfl) (loopF_ok (E := ⟨gam [(38, impl_digits_c), (39, impl_joined_c)], tab, 25, impl_NumbersText_loops⟩) ⟨gam_cons impl_digits_ok (gam_cons impl_joined_ok (gam_nil)), tab_ok, by kernel_rfl⟩ (fuel := 100000) (loopsOK_list (l := []) (by kernel_rfl) trivial) (L := impl_NumbersText_loop0_L) (fun p s => by unfold AgreeL; exact ⟨by kernel_rfl, by kernel_rfl⟩) (fun _ _ h => Ex.noConfusion h) impl_NumbersText_loop0_hext impl_NumbersText_loop0_hpost)
/-- loop.example/g01284/impl.NumbersText -/
def impl_NumbersText_tree (a0 : List Nat) : DT ((List UInt8) × Bool) :=
  let x0 := ((List.length a0 : Nat) : Int);
  let x1 := decide (x0 > 256);
  .ask x1
  (
   .leaf ([], false))
  (
   let x2 := ((List.length a0 : Nat) : Int);
   .need ((impl_NumbersText_loop0_ends (a0, x2) (0, []))) (
   let x3 := impl_NumbersText_loop0 (a0, x2) (0, []);
   .need ((impl_joined_need x3)) (
   let x4 := impl_joined x3;
   .leaf (x4, true))))
def impl_NumbersText (a0 : List Nat) : (List UInt8) × Bool := (impl_NumbersText_tree a0).val
def impl_NumbersText_need (a0 : List Nat) : Bool := (impl_NumbersText_tree a0).ok
def impl_NumbersText_mk (p : (List UInt8) × Bool) : Ret := ⟨.tup [.str p.1, .bool p.2], []⟩
def impl_NumbersText_c0 : Con := fun args => match args with
  | [.vslc 1 (.flt .f32) a0] => some (.need (impl_NumbersText_need a0) (.leaf (impl_NumbersText_mk (impl_NumbersText a0))))
  | _ => none
set_option maxRecDepth 100000 in
theorem impl_NumbersText_ok0 : FunOK Tryz.prog 27 impl_NumbersText_c0.fn := by
  refine con_ok (Γ := gam [(38, impl_digits_c), (39, impl_joined_c)]) (gam_cons impl_digits_ok (gam_cons impl_joined_ok (gam_nil))) tab_ok (by kernel_rfl) Tryz.func27 (by kernel_rfl) (by kernel_rfl) Tryz.ntmps27 Tryz.results27 (loops := impl_NumbersText_loops) (loopsOK_list (l := [lp Tryz.f27 0]) (by kernel_rfl) ⟨impl_NumbersText_l0, trivial⟩) 100000 fun args t h => ?_
  unfold impl_NumbersText_c0 at h
  split at h
  · rename_i a0
    cases h
    exact ⟨rfl, agree_need (mk := impl_NumbersText_mk) (t := impl_NumbersText_tree a0) (by unfold Agree; kernel_rfl)⟩
  · cases h
def impl_NumbersText_c : Con := fun args => impl_NumbersText_c0 (norms 0 [.slc (.flt .f32)] args)
set_option maxRecDepth 100000 in
theorem impl_NumbersText_ok : FunOK Tryz.prog 27 impl_NumbersText_c.fn := con_norm [.slc (.flt .f32)] impl_NumbersText_ok0

/-- loop.example/g01284/impl.VectorText -/
def impl_VectorText_tree (a0 : Vec) : DT ((List UInt8)) :=
  let x0 := impl_Vector_numbers (⟨a0.X, a0.Y, a0.Z⟩ : Vec);
  .need ((impl_NumbersText_need x0)) (
  let x1 := impl_NumbersText x0;
  .leaf x1.1)
def impl_VectorText (a0 : Vec) : (List UInt8) := (impl_VectorText_tree a0).val
def impl_VectorText_need (a0 : Vec) : Bool := (impl_VectorText_tree a0).ok
def impl_VectorText_mk (p : (List UInt8)) : Ret := ⟨.str p, []⟩
def impl_VectorText_c : Con := fun args => match args with
  | [.agg [.flt .f32 a0_0, .flt .f32 a0_1, .flt .f32 a0_2]] => some (.need (impl_VectorText_need (⟨a0_0, a0_1, a0_2⟩ : Vec)) (.leaf (impl_VectorText_mk (impl_VectorText (⟨a0_0, a0_1, a0_2⟩ : Vec)))))
  | _ => none
set_option maxRecDepth 100000 in
theorem impl_VectorText_ok : FunOK Tryz.prog 18 impl_VectorText_c.fn := by
  refine con_ok (Γ := gam [(28, impl_Vector_numbers_c), (27, impl_NumbersText_c)]) (gam_cons impl_Vector_numbers_ok (gam_cons impl_NumbersText_ok (gam_nil))) tab_ok (by kernel_rfl) Tryz.func18 (by kernel_rfl) (by kernel_rfl) Tryz.ntmps18 Tryz.results18 (loopsOK_none rfl _) 100000 fun args t h => ?_
  unfold impl_VectorText_c at h
  split at h
  · rename_i a0_0 a0_1 a0_2
    cases h
    exact ⟨rfl, agree_need (mk := impl_VectorText_mk) (t := impl_VectorText_tree (⟨a0_0, a0_1, a0_2⟩ : Vec)) (by unfold Agree; kernel_rfl)⟩
  · cases h

-- FAILED 93 unicode/utf8.RuneCountInString: operation

-- FAILED 102 unicode/utf8.decodeRuneInStringSlow: global

-- FAILED 94 unicode/utf8.DecodeRuneInString: no contract: unicode/utf8.decodeRuneInStringSlow 

-- FAILED 77 strings.explode: no contract: unicode/utf8.RuneCountInString 

/-- internal/stringslite.IndexByte -/
def internal_stringslite_IndexByte_tree (a0 : (List UInt8)) (a1 : Int) : DT (Int) :=
  let x0 := Go.Lib.indexByte a0 (Nat.toUInt8 (Int.toNat a1));
  .leaf x0
def internal_stringslite_IndexByte (a0 : (List UInt8)) (a1 : Int) : Int := (internal_stringslite_IndexByte_tree a0 a1).val
def internal_stringslite_IndexByte_mk (p : Int) : Ret := ⟨.int .i64 p, []⟩
def internal_stringslite_IndexByte_c : Con := fun args => match args with
  | [.str a0, .int .u8 a1] => some (.leaf (internal_stringslite_IndexByte_mk (internal_stringslite_IndexByte a0 a1)))
  | _ => none
set_option maxRecDepth 100000 in
theorem internal_stringslite_IndexByte_ok : FunOK Tryz.prog 103 internal_stringslite_IndexByte_c.fn := by
  refine con_ok (Γ := gam [(108, internal_bytealg_IndexByteString_c)]) (gam_cons internal_bytealg_IndexByteString_ok (gam_nil)) tab_ok (by kernel_rfl) Tryz.func103 (by kernel_rfl) (by kernel_rfl) Tryz.ntmps103 Tryz.results103 (loopsOK_none rfl _) 100000 fun args t h => ?_
  unfold internal_stringslite_IndexByte_c at h
  split at h
  · rename_i a0 a1
    cases h
    exact ⟨rfl, agree_tot (mk := internal_stringslite_IndexByte_mk) (t := internal_stringslite_IndexByte_tree a0 a1) (by unfold Agree; kernel_rfl) (by kernel_rfl)⟩
  · cases h

-- FAILED 104 internal/bytealg.IndexString: no body

/-- internal/bytealg.Cutover -/
def internal_bytealg_Cutover_tree (a0 : Int) : DT (Int) :=
  let x0 := IntKind.wrap .i64 (a0 + 16);
  .skip (
  let x1 := IntKind.wrap .i64 (Int.tdiv x0 8);
  .leaf x1)
def internal_bytealg_Cutover (a0 : Int) : Int := (internal_bytealg_Cutover_tree a0).val
def internal_bytealg_Cutover_mk (p : Int) : Ret := ⟨.int .i64 p, []⟩
def internal_bytealg_Cutover_c : Con := fun args => match args with
  | [.int .i64 a0] => some (.leaf (internal_bytealg_Cutover_mk (internal_bytealg_Cutover a0)))
  | _ => none
set_option maxRecDepth 100000 in
theorem internal_bytealg_Cutover_ok : FunOK Tryz.prog 105 internal_bytealg_Cutover_c.fn := by
  refine con_ok (Γ := gam []) (gam_nil) tab_ok (by kernel_rfl) Tryz.func105 (by kernel_rfl) (by kernel_rfl) Tryz.ntmps105 Tryz.results105 (loopsOK_none rfl _) 100000 fun args t h => ?_
  unfold internal_bytealg_Cutover_c at h
  split at h
  · rename_i a0
    cases h
    exact ⟨rfl, agree_tot (mk := internal_bytealg_Cutover_mk) (t := internal_bytealg_Cutover_tree a0) (by unfold Agree; kernel_rfl) (by kernel_rfl)⟩
  · cases h

/-- a loop of internal_bytealg_hashStr_string_ -/
def internal_bytealg_hashStr_string__loop0_step (p : (List UInt8)) (s : Int × Int) : Round (Int × Int) (Int) :=
  let x0 := ((List.length p : Nat) : Int);
  let x1 := decide (s.2 < x0);
  .ask x1
  (
   let x2 := IntKind.wrap .u32 (s.1 * 16777619);
   .need ((decide (0 ≤ s.2) && decide (s.2 < ((List.length p : Nat) : Int)))) (
   let x3 := ((List.getD (p : List UInt8) (Int.toNat s.2) 0).toNat : Int);
   let x4 := IntKind.wrap .u32 x3;
   let x5 := IntKind.wrap .u32 (x2 + x4);
   let x6 := IntKind.wrap .i64 (s.2 + 1);
   .leaf (.inl (x5, x6), [])))
  (
   .leaf (.inr s.1, []))
def internal_bytealg_hashStr_string__loop0_L (p : (List UInt8)) : LoopS (Int × Int) (Int) := { tl := fun s => [.str p, .junk, .junk, .junk, .int .u32 s.1, .int .i64 s.2], hl := fun s => [], ex := fun r => .exit 0, otl := fun r => [.str p, .junk, .junk, .junk, .int .u32 r], ohl := fun r => [] }
def internal_bytealg_hashStr_string__loop0_ext : St → Option (((List UInt8)) × (Int × Int) × List Nat) := fun S => match (S.tm 0).unK, (S.tm 4).unK, (S.tm 5).unK with
  | .str q0, .int .u32 q1, .int .i64 q2 => some (q0, (q1, q2), [])
  | _, _, _ => none
def internal_bytealg_hashStr_string__loop0_post (p : (List UInt8)) (r : Int) : DT (Ex × St) := .leaf (.exit 0, LSt [.str p, .junk, .junk, .junk, .int .u32 r] [])
def internal_bytealg_hashStr_string__loop0 (p : (List UInt8)) (s : Int × Int) : Int := loopVal (internal_bytealg_hashStr_string__loop0_step p) s
def internal_bytealg_hashStr_string__loop0_ends (p : (List UInt8)) (s : Int × Int) : Bool := loopEnds (internal_bytealg_hashStr_string__loop0_step p) s
def internal_bytealg_hashStr_string__loop0_F : LoopF := loopF internal_bytealg_hashStr_string__loop0_step internal_bytealg_hashStr_string__loop0_ext internal_bytealg_hashStr_string__loop0_post
theorem internal_bytealg_hashStr_string__loop0_hext : ∀ S p s fl, internal_bytealg_hashStr_string__loop0_ext S = some (p, s, fl) → Norm S fl ((internal_bytealg_hashStr_string__loop0_L p).tl s) ((internal_bytealg_hashStr_string__loop0_L p).hl s) (internal_bytealg_hashStr_string__loop0_L p).gl := by
  intro S p s fl h
  unfold internal_bytealg_hashStr_string__loop0_ext at h
  (repeat' split at h) <;> first
    | (cases h; constructor <;> simp_all [internal_bytealg_hashStr_string__loop0_L, keepT, keepH, rens, renH, PV.ren, Blk.ren, fOf, lget, nodup, natIn, lenEq, gtm, PV.unK])
    | cases h
theorem internal_bytealg_hashStr_string__loop0_hpost : ∀ p r e S', (internal_bytealg_hashStr_string__loop0_post p r).get = some (e, S') → e = (internal_bytealg_hashStr_string__loop0_L p).ex r ∧ S' = LSt ((internal_bytealg_hashStr_string__loop0_L p).otl r) ((internal_bytealg_hashStr_string__loop0_L p).ohl r) ((internal_bytealg_hashStr_string__loop0_L p).ogl r) := by
  intro p r e S' h
  unfold internal_bytealg_hashStr_string__loop0_post at h
  simp only [DT.get, Option.some.injEq, Prod.mk.injEq] at h; exact ⟨h.1.symm, h.2.symm⟩

/-- a loop of internal_bytealg_hashStr_string_ -/
def internal_bytealg_hashStr_string__loop1_step (p : Int) (s : Int × Int × Int) : Round (Int × Int × Int) (Int) :=
  let x0 := decide (s.2.2 > 0);
  .ask x0
  (
   let x1 := IntKind.wrap .i64 (BitVec.ofInt (IntKind.bits .i64) s.2.2 &&& BitVec.ofInt (IntKind.bits .i64) 1).toNat;
   let x2 := (x1 != 0);
   .ask x2
   (
    let x3 := IntKind.wrap .u32 (s.1 * s.2.1);
    let x4 := IntKind.wrap .u32 (s.2.1 * s.2.1);
    .skip (
    let x5 := Int.fdiv s.2.2 (2 ^ (min (Int.toNat 1) (IntKind.bits .i64)));
    .leaf (.inl (x3, x4, x5), [])))
   (
    let x3 := IntKind.wrap .u32 (s.2.1 * s.2.1);
    .skip (
    let x4 := Int.fdiv s.2.2 (2 ^ (min (Int.toNat 1) (IntKind.bits .i64)));
    .leaf (.inl (s.1, x3, x4), []))))
  (
   .leaf (.inr s.1, []))
def internal_bytealg_hashStr_string__loop1_L (p : Int) : LoopS (Int × Int × Int) (Int) := { tl := fun s => [.junk, .junk, .junk, .junk, .int .u32 p, .junk, .int .u32 s.1, .int .u32 s.2.1, .int .i64 s.2.2], hl := fun s => [], ex := fun r => .exit 2, otl := fun r => [.junk, .junk, .junk, .junk, .int .u32 p, .junk, .int .u32 r], ohl := fun r => [] }
def internal_bytealg_hashStr_string__loop1_ext : St → Option ((Int) × (Int × Int × Int) × List Nat) := fun S => match (S.tm 4).unK, (S.tm 6).unK, (S.tm 7).unK, (S.tm 8).unK with
  | .int .u32 q0, .int .u32 q1, .int .u32 q2, .int .i64 q3 => some (q0, (q1, q2, q3), [])
  | _, _, _, _ => none
def internal_bytealg_hashStr_string__loop1_post (p : Int) (r : Int) : DT (Ex × St) := .leaf (.exit 2, LSt [.junk, .junk, .junk, .junk, .int .u32 p, .junk, .int .u32 r] [])
def internal_bytealg_hashStr_string__loop1 (p : Int) (s : Int × Int × Int) : Int := loopVal (internal_bytealg_hashStr_string__loop1_step p) s
def internal_bytealg_hashStr_string__loop1_ends (p : Int) (s : Int × Int × Int) : Bool := loopEnds (internal_bytealg_hashStr_string__loop1_step p) s
def internal_bytealg_hashStr_string__loop1_F : LoopF := loopF internal_bytealg_hashStr_string__loop1_step internal_bytealg_hashStr_string__loop1_ext internal_bytealg_hashStr_string__loop1_post
theorem internal_bytealg_hashStr_string__loop1_hext : ∀ S p s fl, internal_bytealg_hashStr_string__loop1_ext S = some (p, s, fl) → Norm S fl ((internal_bytealg_hashStr_string__loop1_L p).tl s) ((internal_bytealg_hashStr_string__loop1_L p).hl s) (internal_bytealg_hashStr_string__loop1_L p).gl := by
  intro S p s fl h
  unfold internal_bytealg_hashStr_string__loop1_ext at h
  (repeat' split at h) <;> first
    | (cases h; constructor <;> simp_all [internal_bytealg_hashStr_string__loop1_L, keepT, keepH, rens, renH, PV.ren, Blk.ren, fOf, lget, nodup, natIn, lenEq, gtm, PV.unK])
    | cases h
theorem internal_bytealg_hashStr_string__loop1_hpost : ∀ p r e S', (internal_bytealg_hashStr_string__loop1_post p r).get = some (e, S') → e = (internal_bytealg_hashStr_string__loop1_L p).ex r ∧ S' = LSt ((internal_bytealg_hashStr_string__loop1_L p).otl r) ((internal_bytealg_hashStr_string__loop1_L p).ohl r) ((internal_bytealg_hashStr_string__loop1_L p).ogl r) := by
  intro p r e S' h
  unfold internal_bytealg_hashStr_string__loop1_post at h
  simp only [DT.get, Option.some.injEq, Prod.mk.injEq] at h; exact ⟨h.1.symm, h.2.symm⟩

def internal_bytealg_hashStr_string__loops : Nat → Option LoopF := loopTab [(3, internal_bytealg_hashStr_string__loop0_F), (8, internal_bytealg_hashStr_string__loop1_F)]
set_option maxRecDepth 100000 in
theorem internal_bytealg_hashStr_string__l1 : LoopOK Tryz.prog ⟨gam [], tab, 39, internal_bytealg_hashStr_string__loops⟩ (lp Tryz.f109 1) :=
  loopOK_some (F := internal_bytealg_hashStr_string__loop1_F) (by kernel_rfl) (loopF_ok (E := ⟨gam [], tab, 39, internal_bytealg_hashStr_string__loops⟩) ⟨gam_nil, tab_ok, by kernel_rfl⟩ (fuel := 100000) (loopsOK_list (l := []) (by kernel_rfl) trivial) (L := internal_bytealg_hashStr_string__loop1_L) (fun p s => by unfold AgreeL; exact ⟨by kernel_rfl, by kernel_rfl⟩) (fun _ _ h => Ex.noConfusion h) internal_bytealg_hashStr_string__loop1_hext internal_bytealg_hashStr_string__loop1_hpost)
set_option maxRecDepth 100000 in
theorem internal_bytealg_hashStr_string__l0 : LoopOK Tryz.prog ⟨gam [], tab, 39, internal_bytealg_hashStr_string__loops⟩ (lp Tryz.f109 0) :=
  loopOK_some (F := internal_bytealg_hashStr_string__loop0_F) (by kernel_rfl) (loopF_ok (E := ⟨gam [], tab, 39, internal_bytealg_hashStr_string__loops⟩) ⟨gam_nil, tab_ok, by kernel_rfl⟩ (fuel := 100000) (loopsOK_list (l := []) (by kernel_rfl) trivial) (L := internal_bytealg_hashStr_string__loop0_L) (fun p s => by unfold AgreeL; exact ⟨by kernel_rfl, by kernel_rfl⟩) (fun _ _ h => Ex.noConfusion h) internal_bytealg_hashStr_string__loop0_hext internal_bytealg_hashStr_string__loop0_hpost)
/-- internal/bytealg.hashStr[string] -/
def internal_bytealg_hashStr_string__tree (a0 : (List UInt8)) : DT (Int × Int) :=
  .need ((internal_bytealg_hashStr_string__loop0_ends a0 (0, 0))) (
  let x0 := internal_bytealg_hashStr_string__loop0 a0 (0, 0);
  let x1 := ((List.length a0 : Nat) : Int);
  .need ((internal_bytealg_hashStr_string__loop1_ends x0 (1, 16777619, x1))) (
  let x2 := internal_bytealg_hashStr_string__loop1 x0 (1, 16777619, x1);
  .leaf (x0, x2)))
def internal_bytealg_hashStr_string_ (a0 : (List UInt8)) : Int × Int := (internal_bytealg_hashStr_string__tree a0).val
def internal_bytealg_hashStr_string__need (a0 : (List UInt8)) : Bool := (internal_bytealg_hashStr_string__tree a0).ok
def internal_bytealg_hashStr_string__mk (p : Int × Int) : Ret := ⟨.tup [.int .u32 p.1, .int .u32 p.2], []⟩
def internal_bytealg_hashStr_string__c : Con := fun args => match args with
  | [.str a0] => some (.need (internal_bytealg_hashStr_string__need a0) (.leaf (internal_bytealg_hashStr_string__mk (internal_bytealg_hashStr_string_ a0))))
  | _ => none
set_option maxRecDepth 100000 in
theorem internal_bytealg_hashStr_string__ok : FunOK Tryz.prog 109 internal_bytealg_hashStr_string__c.fn := by
  refine con_ok (Γ := gam []) (gam_nil) tab_ok (by kernel_rfl) Tryz.func109 (by kernel_rfl) (by kernel_rfl) Tryz.ntmps109 Tryz.results109 (loops := internal_bytealg_hashStr_string__loops) (loopsOK_list (l := [lp Tryz.f109 0, lp Tryz.f109 1]) (by kernel_rfl) ⟨internal_bytealg_hashStr_string__l0, ⟨internal_bytealg_hashStr_string__l1, trivial⟩⟩) 100000 fun args t h => ?_
  unfold internal_bytealg_hashStr_string__c at h
  split at h
  · rename_i a0
    cases h
    exact ⟨rfl, agree_need (mk := internal_bytealg_hashStr_string__mk) (t := internal_bytealg_hashStr_string__tree a0) (by unfold Agree; kernel_rfl)⟩
  · cases h

/-- a loop of internal_bytealg_IndexRabinKarp_string_ -/
def internal_bytealg_IndexRabinKarp_string__loop0_step (p : (List UInt8) × (List UInt8) × Int × Int × Int) (s : Int × Int) : Round (Int × Int) (Int) :=
  let x0 := decide (s.2 < p.2.2.2.2);
  .ask x0
  (
   let x1 := IntKind.wrap .u32 (s.1 * 16777619);
   .need ((decide (0 ≤ s.2) && decide (s.2 < ((List.length p.1 : Nat) : Int)))) (
   let x2 := ((List.getD (p.1 : List UInt8) (Int.toNat s.2) 0).toNat : Int);
   let x3 := IntKind.wrap .u32 x2;
   let x4 := IntKind.wrap .u32 (x1 + x3);
   let x5 := IntKind.wrap .i64 (s.2 + 1);
   .leaf (.inl (x4, x5), [])))
  (
   .leaf (.inr s.1, []))
def internal_bytealg_IndexRabinKarp_string__loop0_L (p : (List UInt8) × (List UInt8) × Int × Int × Int) : LoopS (Int × Int) (Int) := { tl := fun s => [.str p.1, .str p.2.1, .junk, .junk, .junk, .int .u32 p.2.2.1, .int .u32 p.2.2.2.1, .int .i64 p.2.2.2.2, .int .u32 s.1, .int .i64 s.2], hl := fun s => [], ex := fun r => .exit 0, otl := fun r => [.str p.1, .str p.2.1, .junk, .junk, .junk, .int .u32 p.2.2.1, .int .u32 p.2.2.2.1, .int .i64 p.2.2.2.2, .int .u32 r], ohl := fun r => [] }
def internal_bytealg_IndexRabinKarp_string__loop0_ext : St → Option (((List UInt8) × (List UInt8) × Int × Int × Int) × (Int × Int) × List Nat) := fun S => match (S.tm 0).unK, (S.tm 1).unK, (S.tm 5).unK, (S.tm 6).unK, (S.tm 7).unK, (S.tm 8).unK, (S.tm 9).unK with
  | .str q0, .str q1, .int .u32 q2, .int .u32 q3, .int .i64 q4, .int .u32 q5, .int .i64 q6 => some ((q0, q1, q2, q3, q4), (q5, q6), [])
  | _, _, _, _, _, _, _ => none
def internal_bytealg_IndexRabinKarp_string__loop0_post (p : (List UInt8) × (List UInt8) × Int × Int × Int) (r : Int) : DT (Ex × St) := .leaf (.exit 0, LSt [.str p.1, .str p.2.1, .junk, .junk, .junk, .int .u32 p.2.2.1, .int .u32 p.2.2.2.1, .int .i64 p.2.2.2.2, .int .u32 r] [])
def internal_bytealg_IndexRabinKarp_string__loop0 (p : (List UInt8) × (List UInt8) × Int × Int × Int) (s : Int × Int) : Int := loopVal (internal_bytealg_IndexRabinKarp_string__loop0_step p) s
def internal_bytealg_IndexRabinKarp_string__loop0_ends (p : (List UInt8) × (List UInt8) × Int × Int × Int) (s : Int × Int) : Bool := loopEnds (internal_bytealg_IndexRabinKarp_string__loop0_step p) s
def internal_bytealg_IndexRabinKarp_string__loop0_F : LoopF := loopF internal_bytealg_IndexRabinKarp_string__loop0_step internal_bytealg_IndexRabinKarp_string__loop0_ext internal_bytealg_IndexRabinKarp_string__loop0_post
theorem internal_bytealg_IndexRabinKarp_string__loop0_hext : ∀ S p s fl, internal_bytealg_IndexRabinKarp_string__loop0_ext S = some (p, s, fl) → Norm S fl ((internal_bytealg_IndexRabinKarp_string__loop0_L p).tl s) ((internal_bytealg_IndexRabinKarp_string__loop0_L p).hl s) (internal_bytealg_IndexRabinKarp_string__loop0_L p).gl := by
  intro S p s fl h
  unfold internal_bytealg_IndexRabinKarp_string__loop0_ext at h
  (repeat' split at h) <;> first
    | (cases h; constructor <;> simp_all [internal_bytealg_IndexRabinKarp_string__loop0_L, keepT, keepH, rens, renH, PV.ren, Blk.ren, fOf, lget, nodup, natIn, lenEq, gtm, PV.unK])
    | cases h
theorem internal_bytealg_IndexRabinKarp_string__loop0_hpost : ∀ p r e S', (internal_bytealg_IndexRabinKarp_string__loop0_post p r).get = some (e, S') → e = (internal_bytealg_IndexRabinKarp_string__loop0_L p).ex r ∧ S' = LSt ((internal_bytealg_IndexRabinKarp_string__loop0_L p).otl r) ((internal_bytealg_IndexRabinKarp_string__loop0_L p).ohl r) ((internal_bytealg_IndexRabinKarp_string__loop0_L p).ogl r) := by
  intro p r e S' h
  unfold internal_bytealg_IndexRabinKarp_string__loop0_post at h
  simp only [DT.get, Option.some.injEq, Prod.mk.injEq] at h; exact ⟨h.1.symm, h.2.symm⟩

/-- a loop of internal_bytealg_IndexRabinKarp_string_ -/
def internal_bytealg_IndexRabinKarp_string__loop1_step (p : (List UInt8) × (List UInt8) × Int × Int × Int) (s : Int × Int) : Round (Int × Int) ((Int) ⊕ (Unit)) :=
  let x0 := ((List.length p.1 : Nat) : Int);
  let x1 := decide (s.2 < x0);
  .ask x1
  (
   let x2 := IntKind.wrap .u32 (s.1 * 16777619);
   .need ((decide (0 ≤ s.2) && decide (s.2 < ((List.length p.1 : Nat) : Int)))) (
   let x3 := ((List.getD (p.1 : List UInt8) (Int.toNat s.2) 0).toNat : Int);
   let x4 := IntKind.wrap .u32 x3;
   let x5 := IntKind.wrap .u32 (x2 + x4);
   let x6 := IntKind.wrap .i64 (s.2 - p.2.2.2.2);
   .need ((decide (0 ≤ x6) && decide (x6 < ((List.length p.1 : Nat) : Int)))) (
   let x7 := ((List.getD (p.1 : List UInt8) (Int.toNat x6) 0).toNat : Int);
   let x8 := IntKind.wrap .u32 x7;
   let x9 := IntKind.wrap .u32 (p.2.2.2.1 * x8);
   let x10 := IntKind.wrap .u32 (x5 - x9);
   let x11 := IntKind.wrap .i64 (s.2 + 1);
   let x12 := (x10 == p.2.2.1);
   .ask x12
   (
    let x13 := IntKind.wrap .i64 (x11 - p.2.2.2.2);
    .need ((decide (0 ≤ x11) && decide (x11 ≤ ((List.length p.1 : Nat) : Int)))) (
    .need ((decide (0 ≤ x13) && decide (x13 ≤ (((Int.toNat x11) : Nat) : Int)))) (
    let x14 := List.drop (Int.toNat x13) (List.take (Int.toNat x11) p.1);
    let x15 := (x14 == p.2.1);
    .ask x15
    (
     let x16 := IntKind.wrap .i64 (x11 - p.2.2.2.2);
     .leaf (.inr (.inl x16), []))
    (
     .leaf (.inl (x10, x11), [])))))
   (
    .leaf (.inl (x10, x11), [])))))
  (
   .leaf (.inr (.inr ()), []))
def internal_bytealg_IndexRabinKarp_string__loop1_L (p : (List UInt8) × (List UInt8) × Int × Int × Int) : LoopS (Int × Int) ((Int) ⊕ (Unit)) := { tl := fun s => [.str p.1, .str p.2.1, .junk, .junk, .junk, .int .u32 p.2.2.1, .int .u32 p.2.2.2.1, .int .i64 p.2.2.2.2, .int .u32 s.1, .junk, .int .i64 s.2], hl := fun s => [], ex := fun r => match r with | .inl r => .ret | .inr r => .exit 2, otl := fun r => match r with | .inl r => [.junk, .junk, .junk, .junk, .int .i64 r] | .inr r => [.junk], ohl := fun r => match r with | .inl r => [] | .inr r => [] }
def internal_bytealg_IndexRabinKarp_string__loop1_ext : St → Option (((List UInt8) × (List UInt8) × Int × Int × Int) × (Int × Int) × List Nat) := fun S => match (S.tm 0).unK, (S.tm 1).unK, (S.tm 5).unK, (S.tm 6).unK, (S.tm 7).unK, (S.tm 8).unK, (S.tm 10).unK with
  | .str q0, .str q1, .int .u32 q2, .int .u32 q3, .int .i64 q4, .int .u32 q5, .int .i64 q6 => some ((q0, q1, q2, q3, q4), (q5, q6), [])
  | _, _, _, _, _, _, _ => none
def internal_bytealg_IndexRabinKarp_string__loop1_post (p : (List UInt8) × (List UInt8) × Int × Int × Int) (r : (Int) ⊕ (Unit)) : DT (Ex × St) := .ask (isL r) (.leaf (.ret, LSt [.junk, .junk, .junk, .junk, .int .i64 ((leftD r))] [])) (.leaf (.exit 2, LSt [.junk] []))
def internal_bytealg_IndexRabinKarp_string__loop1 (p : (List UInt8) × (List UInt8) × Int × Int × Int) (s : Int × Int) : (Int) ⊕ (Unit) := loopVal (internal_bytealg_IndexRabinKarp_string__loop1_step p) s
def internal_bytealg_IndexRabinKarp_string__loop1_ends (p : (List UInt8) × (List UInt8) × Int × Int × Int) (s : Int × Int) : Bool := loopEnds (internal_bytealg_IndexRabinKarp_string__loop1_step p) s
def internal_bytealg_IndexRabinKarp_string__loop1_F : LoopF := loopF internal_bytealg_IndexRabinKarp_string__loop1_step internal_bytealg_IndexRabinKarp_string__loop1_ext internal_bytealg_IndexRabinKarp_string__loop1_post
theorem internal_bytealg_IndexRabinKarp_string__loop1_hext : ∀ S p s fl, internal_bytealg_IndexRabinKarp_string__loop1_ext S = some (p, s, fl) → Norm S fl ((internal_bytealg_IndexRabinKarp_string__loop1_L p).tl s) ((internal_bytealg_IndexRabinKarp_string__loop1_L p).hl s) (internal_bytealg_IndexRabinKarp_string__loop1_L p).gl := by
  intro S p s fl h
  unfold internal_bytealg_IndexRabinKarp_string__loop1_ext at h
  (repeat' split at h) <;> first
    | (cases h; constructor <;> simp_all [internal_bytealg_IndexRabinKarp_string__loop1_L, keepT, keepH, rens, renH, PV.ren, Blk.ren, fOf, lget, nodup, natIn, lenEq, gtm, PV.unK])
    | cases h
theorem internal_bytealg_IndexRabinKarp_string__loop1_hpost : ∀ p r e S', (internal_bytealg_IndexRabinKarp_string__loop1_post p r).get = some (e, S') → e = (internal_bytealg_IndexRabinKarp_string__loop1_L p).ex r ∧ S' = LSt ((internal_bytealg_IndexRabinKarp_string__loop1_L p).otl r) ((internal_bytealg_IndexRabinKarp_string__loop1_L p).ohl r) ((internal_bytealg_IndexRabinKarp_string__loop1_L p).ogl r) := by
  intro p r e S' h
  unfold internal_bytealg_IndexRabinKarp_string__loop1_post at h
  cases r <;> (simp only [isL, DT.get, Option.some.injEq, Prod.mk.injEq] at h; exact ⟨h.1.symm, h.2.symm⟩)

def internal_bytealg_IndexRabinKarp_string__loops : Nat → Option LoopF := loopTab [(5, internal_bytealg_IndexRabinKarp_string__loop0_F), (11, internal_bytealg_IndexRabinKarp_string__loop1_F)]
set_option maxRecDepth 100000 in
theorem internal_bytealg_IndexRabinKarp_string__l1 : LoopOK Tryz.prog ⟨gam [(109, internal_bytealg_hashStr_string__c)], tab, 81, internal_bytealg_IndexRabinKarp_string__loops⟩ (lp Tryz.f106 1) :=
  loopOK_some (F := internal_bytealg_IndexRabinKarp_string__loop1_F) (by kernel_rfl) (loopF_ok (E := ⟨gam [(109, internal_bytealg_hashStr_string__c)], tab, 81, internal_bytealg_IndexRabinKarp_string__loops⟩) ⟨gam_cons internal_bytealg_hashStr_string__ok (gam_nil), tab_ok, by kernel_rfl⟩ (fuel := 100000) (loopsOK_list (l := []) (by kernel_rfl) trivial) (L := internal_bytealg_IndexRabinKarp_string__loop1_L) (fun p s => by unfold AgreeL; exact ⟨by kernel_rfl, by kernel_rfl⟩) (fun _ r h => by cases r <;> exact Ex.noConfusion h) internal_bytealg_IndexRabinKarp_string__loop1_hext internal_bytealg_IndexRabinKarp_string__loop1_hpost)
set_option maxRecDepth 100000 in
theorem internal_bytealg_IndexRabinKarp_string__l0 : LoopOK Tryz.prog ⟨gam [(109, internal_bytealg_hashStr_string__c)], tab, 81, internal_bytealg_IndexRabinKarp_string__loops⟩ (lp Tryz.f106 0) :=
  loopOK_some (F := internal_bytealg_IndexRabinKarp_string__loop0_F) (by kernel_rfl) (loopF_ok (E := ⟨gam [(109, internal_bytealg_hashStr_string__c)], tab, 81, internal_bytealg_IndexRabinKarp_string__loops⟩) ⟨gam_cons internal_bytealg_hashStr_string__ok (gam_nil), tab_ok, by kernel_rfl⟩ (fuel := 100000) (loopsOK_list (l := []) (by kernel_rfl) trivial) (L := internal_bytealg_IndexRabinKarp_string__loop0_L) (fun p s => by unfold AgreeL; exact ⟨by kernel_rfl, by kernel_rfl⟩) (fun _ _ h => Ex.noConfusion h) internal_bytealg_IndexRabinKarp_string__loop0_hext internal_bytealg_IndexRabinKarp_string__loop0_hpost)
/-- internal/bytealg.IndexRabinKarp[string] -/
def internal_bytealg_IndexRabinKarp_string__tree (a0 : (List UInt8)) (a1 : (List UInt8)) : DT (Int) :=
  .need ((internal_bytealg_hashStr_string__need a1)) (
  let x0 := internal_bytealg_hashStr_string_ a1;
  let x1 := ((List.length a1 : Nat) : Int);
  .need ((internal_bytealg_IndexRabinKarp_string__loop0_ends (a0, a1, x0.1, x0.2, x1) (0, 0))) (
  let x2 := internal_bytealg_IndexRabinKarp_string__loop0 (a0, a1, x0.1, x0.2, x1) (0, 0);
  let x3 := (x2 == x0.1);
  .ask x3
  (
   .need ((decide (0 ≤ x1) && decide (x1 ≤ ((List.length a0 : Nat) : Int)))) (
   let x4 := List.drop 0 (List.take (Int.toNat x1) a0);
   let x5 := (x4 == a1);
   .ask x5
   (
    .leaf 0)
   (
    .need ((internal_bytealg_IndexRabinKarp_string__loop1_ends (a0, a1, x0.1, x0.2, x1) (x2, x1))) (
    let x6 := internal_bytealg_IndexRabinKarp_string__loop1 (a0, a1, x0.1, x0.2, x1) (x2, x1);
    .ask ((isL x6))
    (
     .leaf ((leftD x6)))
    (
     .leaf (-1))))))
  (
   .need ((internal_bytealg_IndexRabinKarp_string__loop1_ends (a0, a1, x0.1, x0.2, x1) (x2, x1))) (
   let x4 := internal_bytealg_IndexRabinKarp_string__loop1 (a0, a1, x0.1, x0.2, x1) (x2, x1);
   .ask ((isL x4))
   (
    .leaf ((leftD x4)))
   (
    .leaf (-1))))))
def internal_bytealg_IndexRabinKarp_string_ (a0 : (List UInt8)) (a1 : (List UInt8)) : Int := (internal_bytealg_IndexRabinKarp_string__tree a0 a1).val
def internal_bytealg_IndexRabinKarp_string__need (a0 : (List UInt8)) (a1 : (List UInt8)) : Bool := (internal_bytealg_IndexRabinKarp_string__tree a0 a1).ok
def internal_bytealg_IndexRabinKarp_string__mk (p : Int) : Ret := ⟨.int .i64 p, []⟩
def internal_bytealg_IndexRabinKarp_string__c : Con := fun args => match args with
  | [.str a0, .str a1] => some (.need (internal_bytealg_IndexRabinKarp_string__need a0 a1) (.leaf (internal_bytealg_IndexRabinKarp_string__mk (internal_bytealg_IndexRabinKarp_string_ a0 a1))))
  | _ => none
set_option maxRecDepth 100000 in
theorem internal_bytealg_IndexRabinKarp_string__ok : FunOK Tryz.prog 106 internal_bytealg_IndexRabinKarp_string__c.fn := by
  refine con_ok (Γ := gam [(109, internal_bytealg_hashStr_string__c)]) (gam_cons internal_bytealg_hashStr_string__ok (gam_nil)) tab_ok (by kernel_rfl) Tryz.func106 (by kernel_rfl) (by kernel_rfl) Tryz.ntmps106 Tryz.results106 (loops := internal_bytealg_IndexRabinKarp_string__loops) (loopsOK_list (l := [lp Tryz.f106 0, lp Tryz.f106 1]) (by kernel_rfl) ⟨internal_bytealg_IndexRabinKarp_string__l0, ⟨internal_bytealg_IndexRabinKarp_string__l1, trivial⟩⟩) 100000 fun args t h => ?_
  unfold internal_bytealg_IndexRabinKarp_string__c at h
  split at h
  · rename_i a0 a1
    cases h
    exact ⟨rfl, agree_need (mk := internal_bytealg_IndexRabinKarp_string__mk) (t := internal_bytealg_IndexRabinKarp_string__tree a0 a1) (by unfold Agree; kernel_rfl)⟩
  · cases h

-- FAILED 96 internal/stringslite.Index: global

-- FAILED 79 strings.Index: no contract: internal/stringslite.Index 

-- FAILED 78 strings.Count: no contract: unicode/utf8.RuneCountInString 

-- FAILED 64 strings.genSplit: no contract: strings.explode 

-- FAILED 53 strings.Split: no contract: strings.genSplit 

/-- strings.Count -/
def strings_Count_k44_tree (a0 : (List UInt8)) : DT (Int) :=
  .skip (
  .skip (
  .skip (
  let x0 := ((Go.Lib.countByte a0 (Nat.toUInt8 (Int.toNat 44)) : Nat) : Int);
  .leaf x0)))
def strings_Count_k44 (a0 : (List UInt8)) : Int := (strings_Count_k44_tree a0).val
def strings_Count_k44_mk (p : Int) : Ret := ⟨.int .i64 p, []⟩
def strings_Count_k44_c : Con := fun args => match args with
  | [.str a0, .str a1] => bif decide (a1 = ([44] : List UInt8)) then (some (.leaf (strings_Count_k44_mk (strings_Count_k44 a0)))) else none
  | _ => none
set_option maxRecDepth 100000 in
theorem strings_Count_k44_ok : FunOK Tryz.prog 78 strings_Count_k44_c.fn := by
  refine con_ok (Γ := gam [(95, internal_bytealg_CountString_c)]) (gam_cons internal_bytealg_CountString_ok (gam_nil)) tab_ok (by kernel_rfl) Tryz.func78 (by kernel_rfl) (by kernel_rfl) Tryz.ntmps78 Tryz.results78 (loopsOK_none rfl _) 100000 fun args t h => ?_
  unfold strings_Count_k44_c at h
  split at h
  · rename_i a0 a1
    obtain ⟨hk1, h⟩ := bif_some h
    subst hk1
    cases h
    exact ⟨rfl, agree_tot (mk := strings_Count_k44_mk) (t := strings_Count_k44_tree a0) (by unfold Agree; kernel_rfl) (by kernel_rfl)⟩
  · cases h

/-- internal/stringslite.Index -/
def internal_stringslite_Index_k44_tree (a0 : (List UInt8)) : DT (Int) :=
  .skip (
  .skip (
  .skip (
  let x0 := ([44] == a0);
  .skip (
  .ask x0
  (
   .leaf 0)
  (
   .skip (
   .skip (
   let x1 := internal_stringslite_IndexByte a0 44;
   .leaf x1)))))))
def internal_stringslite_Index_k44 (a0 : (List UInt8)) : Int := (internal_stringslite_Index_k44_tree a0).val
def internal_stringslite_Index_k44_mk (p : Int) : Ret := ⟨.int .i64 p, []⟩
def internal_stringslite_Index_k44_c : Con := fun args => match args with
  | [.str a0, .str a1] => bif decide (a1 = ([44] : List UInt8)) then (some (.leaf (internal_stringslite_Index_k44_mk (internal_stringslite_Index_k44 a0)))) else none
  | _ => none
set_option maxRecDepth 100000 in
theorem internal_stringslite_Index_k44_ok : FunOK Tryz.prog 96 internal_stringslite_Index_k44_c.fn := by
  refine con_ok (Γ := gam [(103, internal_stringslite_IndexByte_c)]) (gam_cons internal_stringslite_IndexByte_ok (gam_nil)) tab_ok (by kernel_rfl) Tryz.func96 (by kernel_rfl) (by kernel_rfl) Tryz.ntmps96 Tryz.results96 (loopsOK_none rfl _) 100000 fun args t h => ?_
  unfold internal_stringslite_Index_k44_c at h
  split at h
  · rename_i a0 a1
    obtain ⟨hk1, h⟩ := bif_some h
    subst hk1
    cases h
    exact ⟨rfl, agree_tot (mk := internal_stringslite_Index_k44_mk) (t := internal_stringslite_Index_k44_tree a0) (by unfold Agree; kernel_rfl) (by kernel_rfl)⟩
  · cases h

/-- strings.Index -/
def strings_Index_k44_tree (a0 : (List UInt8)) : DT (Int) :=
  let x0 := internal_stringslite_Index_k44 a0;
  .leaf x0
def strings_Index_k44 (a0 : (List UInt8)) : Int := (strings_Index_k44_tree a0).val
def strings_Index_k44_mk (p : Int) : Ret := ⟨.int .i64 p, []⟩
def strings_Index_k44_c : Con := fun args => match args with
  | [.str a0, .str a1] => bif decide (a1 = ([44] : List UInt8)) then (some (.leaf (strings_Index_k44_mk (strings_Index_k44 a0)))) else none
  | _ => none
set_option maxRecDepth 100000 in
theorem strings_Index_k44_ok : FunOK Tryz.prog 79 strings_Index_k44_c.fn := by
  refine con_ok (Γ := gam [(96, internal_stringslite_Index_k44_c)]) (gam_cons internal_stringslite_Index_k44_ok (gam_nil)) tab_ok (by kernel_rfl) Tryz.func79 (by kernel_rfl) (by kernel_rfl) Tryz.ntmps79 Tryz.results79 (loopsOK_none rfl _) 100000 fun args t h => ?_
  unfold strings_Index_k44_c at h
  split at h
  · rename_i a0 a1
    obtain ⟨hk1, h⟩ := bif_some h
    subst hk1
    cases h
    exact ⟨rfl, agree_tot (mk := strings_Index_k44_mk) (t := strings_Index_k44_tree a0) (by unfold Agree; kernel_rfl) (by kernel_rfl)⟩
  · cases h

/-- a loop of strings_genSplit_k44_k0_m1 -/
def strings_genSplit_k44_k0_m1_loop0_step (p : Int × Int) (s : (List UInt8) × Int × List (List UInt8)) : Round ((List UInt8) × Int × List (List UInt8)) ((List UInt8) × Int × List (List UInt8)) :=
  let x0 := decide (s.2.1 < p.2);
  .ask x0
  (
   let x1 := strings_Index_k44 s.1;
   let x2 := decide (x1 < 0);
   .ask x2
   (
    .leaf (.inr (s.1, s.2.1, s.2.2), [0]))
   (
    let x3 := IntKind.wrap .i64 (x1 + p.1);
    .need ((decide (0 ≤ x3) && decide (x3 ≤ ((List.length s.1 : Nat) : Int)))) (
    let x4 := List.drop 0 (List.take (Int.toNat x3) s.1);
    .need ((decide (0 ≤ s.2.1) && decide (s.2.1 < ((List.length s.2.2 : Nat) : Int)))) (
    .need ((decide ((Int.toNat s.2.1) < List.length s.2.2))) (
    let x5 := List.set s.2.2 (Int.toNat s.2.1) x4;
    let x6 := IntKind.wrap .i64 (x1 + 1);
    .need ((decide (0 ≤ x6) && decide (x6 ≤ (((List.length s.1) : Nat) : Int)))) (
    let x7 := List.drop (Int.toNat x6) (List.take (List.length s.1) s.1);
    let x8 := IntKind.wrap .i64 (s.2.1 + 1);
    .leaf (.inl (x7, x8, x5), [0])))))))
  (
   .leaf (.inr (s.1, s.2.1, s.2.2), [0]))
def strings_genSplit_k44_k0_m1_loop0_L (p : Int × Int) : LoopS ((List UInt8) × Int × List (List UInt8)) ((List UInt8) × Int × List (List UInt8)) := { tl := fun s => [.str s.1, .str [44], .int .i64 p.1, .int .i64 p.2, .junk, .junk, .junk, .junk, .junk, .own 0, .int .i64 s.2.1], hl := fun s => [some (.typed 9 .str s.2.2)], ex := fun r => .exit 0, otl := fun r => [.str r.1, .junk, .junk, .junk, .junk, .junk, .junk, .junk, .junk, .own 0, .int .i64 r.2.1], ohl := fun r => [some (.typed 9 .str r.2.2)] }
def strings_genSplit_k44_k0_m1_loop0_ext : St → Option ((Int × Int) × ((List UInt8) × Int × List (List UInt8)) × List Nat) := fun S => match (S.tm 0).unK, (S.tm 1).unK, (S.tm 2).unK, (S.tm 3).unK, (S.tm 9).unK, (S.tm 10).unK with
  | .str q0, .str q1, .int .i64 q2, .int .i64 q3, .own i0, .int .i64 q4 => (match S.hp i0 with
    | some (.typed 9 .str q5) => (if q1 = ([44] : List UInt8) then some ((q2, q3), (q0, q4, q5), [i0]) else none)
    | _ => none)
  | _, _, _, _, _, _ => none
def strings_genSplit_k44_k0_m1_loop0_post (p : Int × Int) (r : (List UInt8) × Int × List (List UInt8)) : DT (Ex × St) := .leaf (.exit 0, LSt [.str r.1, .junk, .junk, .junk, .junk, .junk, .junk, .junk, .junk, .own 0, .int .i64 r.2.1] [some (.typed 9 .str r.2.2)])
def strings_genSplit_k44_k0_m1_loop0 (p : Int × Int) (s : (List UInt8) × Int × List (List UInt8)) : (List UInt8) × Int × List (List UInt8) := loopVal (strings_genSplit_k44_k0_m1_loop0_step p) s
def strings_genSplit_k44_k0_m1_loop0_ends (p : Int × Int) (s : (List UInt8) × Int × List (List UInt8)) : Bool := loopEnds (strings_genSplit_k44_k0_m1_loop0_step p) s
def strings_genSplit_k44_k0_m1_loop0_F : LoopF := loopF strings_genSplit_k44_k0_m1_loop0_step strings_genSplit_k44_k0_m1_loop0_ext strings_genSplit_k44_k0_m1_loop0_post
theorem strings_genSplit_k44_k0_m1_loop0_hext : ∀ S p s fl, strings_genSplit_k44_k0_m1_loop0_ext S = some (p, s, fl) → Norm S fl ((strings_genSplit_k44_k0_m1_loop0_L p).tl s) ((strings_genSplit_k44_k0_m1_loop0_L p).hl s) (strings_genSplit_k44_k0_m1_loop0_L p).gl := by
  intro S p s fl h
  unfold strings_genSplit_k44_k0_m1_loop0_ext at h
  (repeat' split at h) <;> first
    | (cases h; constructor <;> simp_all [strings_genSplit_k44_k0_m1_loop0_L, keepT, keepH, rens, renH, PV.ren, Blk.ren, fOf, lget, nodup, natIn, lenEq, gtm, PV.unK])
    | cases h
theorem strings_genSplit_k44_k0_m1_loop0_hpost : ∀ p r e S', (strings_genSplit_k44_k0_m1_loop0_post p r).get = some (e, S') → e = (strings_genSplit_k44_k0_m1_loop0_L p).ex r ∧ S' = LSt ((strings_genSplit_k44_k0_m1_loop0_L p).otl r) ((strings_genSplit_k44_k0_m1_loop0_L p).ohl r) ((strings_genSplit_k44_k0_m1_loop0_L p).ogl r) := by
  intro p r e S' h
  unfold strings_genSplit_k44_k0_m1_loop0_post at h
  simp only [DT.get, Option.some.injEq, Prod.mk.injEq] at h; exact ⟨h.1.symm, h.2.symm⟩

def strings_genSplit_k44_k0_m1_loops : Nat → Option LoopF := loopTab [(11, strings_genSplit_k44_k0_m1_loop0_F)]
set_option maxRecDepth 100000 in
theorem strings_genSplit_k44_k0_m1_l0 : LoopOK Tryz.prog ⟨gam [(78, strings_Count_k44_c), (79, strings_Index_k44_c)], tab, 66, strings_genSplit_k44_k0_m1_loops⟩ (lp Tryz.f64 0) :=
  loopOK_some (F := strings_genSplit_k44_k0_m1_loop0_F) (by kernel_rfl) (loopF_ok (E := ⟨gam [(78, strings_Count_k44_c), (79, strings_Index_k44_c)], tab, 66, strings_genSplit_k44_k0_m1_loops⟩) ⟨gam_cons strings_Count_k44_ok (gam_cons strings_Index_k44_ok (gam_nil)), tab_ok, by kernel_rfl⟩ (fuel := 100000) (loopsOK_list (l := []) (by kernel_rfl) trivial) (L := strings_genSplit_k44_k0_m1_loop0_L) (fun p s => by unfold AgreeL; exact ⟨by kernel_rfl, by kernel_rfl⟩) (fun _ _ h => Ex.noConfusion h) strings_genSplit_k44_k0_m1_loop0_hext strings_genSplit_k44_k0_m1_loop0_hpost)
/-- strings.genSplit -/
def strings_genSplit_k44_k0_m1_tree (a0 : (List UInt8)) : DT (List (List UInt8)) :=
  .skip (
  .skip (
  .skip (
  let x0 := strings_Count_k44 a0;
  let x1 := IntKind.wrap .i64 (x0 + 1);
  let x2 := ((List.length a0 : Nat) : Int);
  let x3 := IntKind.wrap .i64 (x2 + 1);
  let x4 := (bif decide (x3 < x1) then x3 else x1);
  .need ((decide (0 ≤ x4) && decide (x4 ≤ x4) && decide (16 * x4 ≤ 281474976710656) && decide (x4 ≤ 9223372036854775807))) (
  let x5 := List.replicate (Int.toNat x4) [];
  let x6 := IntKind.wrap .i64 (x4 - 1);
  .need ((strings_genSplit_k44_k0_m1_loop0_ends (0, x6) (a0, 0, x5))) (
  let x7 := strings_genSplit_k44_k0_m1_loop0 (0, x6) (a0, 0, x5);
  .need ((decide (0 ≤ x7.2.1) && decide (x7.2.1 < ((List.length x7.2.2 : Nat) : Int)))) (
  .need ((decide ((Int.toNat x7.2.1) < List.length x7.2.2))) (
  let x8 := List.set x7.2.2 (Int.toNat x7.2.1) x7.1;
  let x9 := IntKind.wrap .i64 (x7.2.1 + 1);
  .need ((decide (0 ≤ x9) && decide (x9 ≤ ((List.length x8 : Nat) : Int)))) (
  .leaf ((List.take ((Int.toNat x9) - 0) x8))))))))))
def strings_genSplit_k44_k0_m1 (a0 : (List UInt8)) : List (List UInt8) := (strings_genSplit_k44_k0_m1_tree a0).val
def strings_genSplit_k44_k0_m1_need (a0 : (List UInt8)) : Bool := (strings_genSplit_k44_k0_m1_tree a0).ok
def strings_genSplit_k44_k0_m1_mk (p : List (List UInt8)) : Ret := ⟨.own 0, [.typed 9 .str p]⟩
def strings_genSplit_k44_k0_m1_c : Con := fun args => match args with
  | [.str a0, .str a1, .int .i64 a2, .int .i64 a3] => bif decide (a1 = ([44] : List UInt8)) then (bif decide (a2 = (0 : Int)) then (bif decide (a3 = ((-1) : Int)) then (some (.need (strings_genSplit_k44_k0_m1_need a0) (.leaf (strings_genSplit_k44_k0_m1_mk (strings_genSplit_k44_k0_m1 a0))))) else none) else none) else none
  | _ => none
set_option maxRecDepth 100000 in
theorem strings_genSplit_k44_k0_m1_ok : FunOK Tryz.prog 64 strings_genSplit_k44_k0_m1_c.fn := by
  refine con_ok (Γ := gam [(78, strings_Count_k44_c), (79, strings_Index_k44_c)]) (gam_cons strings_Count_k44_ok (gam_cons strings_Index_k44_ok (gam_nil))) tab_ok (by kernel_rfl) Tryz.func64 (by kernel_rfl) (by kernel_rfl) Tryz.ntmps64 Tryz.results64 (loops := strings_genSplit_k44_k0_m1_loops) (loopsOK_list (l := [lp Tryz.f64 0]) (by kernel_rfl) ⟨strings_genSplit_k44_k0_m1_l0, trivial⟩) 100000 fun args t h => ?_
  unfold strings_genSplit_k44_k0_m1_c at h
  split at h
  · rename_i a0 a1 a2 a3
    obtain ⟨hk1, h⟩ := bif_some h
    obtain ⟨hk2, h⟩ := bif_some h
    obtain ⟨hk3, h⟩ := bif_some h
    subst hk1 hk2 hk3
    cases h
    exact ⟨rfl, agree_need (mk := strings_genSplit_k44_k0_m1_mk) (t := strings_genSplit_k44_k0_m1_tree a0) (by unfold Agree; kernel_rfl)⟩
  · cases h

/-- strings.Split -/
def strings_Split_k44_tree (a0 : (List UInt8)) : DT (List (List UInt8)) :=
  .need ((strings_genSplit_k44_k0_m1_need a0)) (
  let x0 := strings_genSplit_k44_k0_m1 a0;
  .leaf x0)
def strings_Split_k44 (a0 : (List UInt8)) : List (List UInt8) := (strings_Split_k44_tree a0).val
def strings_Split_k44_need (a0 : (List UInt8)) : Bool := (strings_Split_k44_tree a0).ok
def strings_Split_k44_mk (p : List (List UInt8)) : Ret := ⟨.own 0, [.typed 9 .str p]⟩
def strings_Split_k44_c : Con := fun args => match args with
  | [.str a0, .str a1] => bif decide (a1 = ([44] : List UInt8)) then (some (.need (strings_Split_k44_need a0) (.leaf (strings_Split_k44_mk (strings_Split_k44 a0))))) else none
  | _ => none
set_option maxRecDepth 100000 in
theorem strings_Split_k44_ok : FunOK Tryz.prog 53 strings_Split_k44_c.fn := by
  refine con_ok (Γ := gam [(64, strings_genSplit_k44_k0_m1_c)]) (gam_cons strings_genSplit_k44_k0_m1_ok (gam_nil)) tab_ok (by kernel_rfl) Tryz.func53 (by kernel_rfl) (by kernel_rfl) Tryz.ntmps53 Tryz.results53 (loopsOK_none rfl _) 100000 fun args t h => ?_
  unfold strings_Split_k44_c at h
  split at h
  · rename_i a0 a1
    obtain ⟨hk1, h⟩ := bif_some h
    subst hk1
    cases h
    exact ⟨rfl, agree_need (mk := strings_Split_k44_mk) (t := strings_Split_k44_tree a0) (by unfold Agree; kernel_rfl)⟩
  · cases h

/-- loop.example/g01284/impl.apart -/
def impl_apart_tree (a0 : (List UInt8)) : DT ((Unit) ⊕ (List (List UInt8) × Bool)) :=
  let x0 := (a0 == [110, 111, 110, 101]);
  .ask x0
  (
   .leaf (.inl ()))
  (
   .need ((strings_Split_k44_need a0)) (
   let x1 := strings_Split_k44 a0;
   let x2 := ((List.length x1 : Nat) : Int);
   let x3 := decide (x2 ≤ 256);
   .leaf (.inr (x1, x3))))
def impl_apart (a0 : (List UInt8)) : (Unit) ⊕ (List (List UInt8) × Bool) := (impl_apart_tree a0).val
def impl_apart_need (a0 : (List UInt8)) : Bool := (impl_apart_tree a0).ok
def impl_apart_mk0 (p : Unit) : Ret := ⟨.tup [.nils, .bool true], []⟩
def impl_apart_mk1 (p : List (List UInt8) × Bool) : Ret := ⟨.tup [.own 0, .bool p.2], [.typed 9 .str p.1]⟩
def impl_apart_mk : (Unit) ⊕ (List (List UInt8) × Bool) → Ret := fun v => match v with
  | (.inl p) => impl_apart_mk0 p
  | (.inr p) => impl_apart_mk1 p
def impl_apart_forms (v : (Unit) ⊕ (List (List UInt8) × Bool)) : DT Ret := .ask (isL v) (.leaf (impl_apart_mk0 (leftD v))) (.leaf (impl_apart_mk1 (rightD v)))
theorem impl_apart_forms_get : ∀ v, (impl_apart_forms v).get = some (impl_apart_mk v) := by
  intro v
  rcases v with v | v <;> rfl
def impl_apart_c : Con := fun args => match args with
  | [.str a0] => some (.need (impl_apart_need a0) (impl_apart_forms (impl_apart a0)))
  | _ => none
set_option maxRecDepth 100000 in
theorem impl_apart_ok : FunOK Tryz.prog 40 impl_apart_c.fn := by
  refine con_ok (Γ := gam [(53, strings_Split_k44_c)]) (gam_cons strings_Split_k44_ok (gam_nil)) tab_ok (by kernel_rfl) Tryz.func40 (by kernel_rfl) (by kernel_rfl) Tryz.ntmps40 Tryz.results40 (loopsOK_none rfl _) 100000 fun args t h => ?_
  unfold impl_apart_c at h
  split at h
  · rename_i a0
    cases h
    exact ⟨rfl, agree_forms (mk := impl_apart_mk) (t := impl_apart_tree a0) (by unfold Agree; kernel_rfl) (fun h => h) (impl_apart_forms_get _)⟩
  · cases h

/-- internal/strconv.lower -/
def internal_strconv_lower_tree (a0 : Int) : DT (Int) :=
  let x0 := IntKind.wrap .u8 (BitVec.ofInt (IntKind.bits .u8) a0 ||| BitVec.ofInt (IntKind.bits .u8) 32).toNat;
  .leaf x0
def internal_strconv_lower (a0 : Int) : Int := (internal_strconv_lower_tree a0).val
def internal_strconv_lower_mk (p : Int) : Ret := ⟨.int .u8 p, []⟩
def internal_strconv_lower_c : Con := fun args => match args with
  | [.int .u8 a0] => some (.leaf (internal_strconv_lower_mk (internal_strconv_lower a0)))
  | _ => none
set_option maxRecDepth 100000 in
theorem internal_strconv_lower_ok : FunOK Tryz.prog 80 internal_strconv_lower_c.fn := by
  refine con_ok (Γ := gam []) (gam_nil) tab_ok (by kernel_rfl) Tryz.func80 (by kernel_rfl) (by kernel_rfl) Tryz.ntmps80 Tryz.results80 (loopsOK_none rfl _) 100000 fun args t h => ?_
  unfold internal_strconv_lower_c at h
  split at h
  · rename_i a0
    cases h
    exact ⟨rfl, agree_tot (mk := internal_strconv_lower_mk) (t := internal_strconv_lower_tree a0) (by unfold Agree; kernel_rfl) (by kernel_rfl)⟩
  · cases h

/-- a loop of internal_strconv_underscoreOK -/
def internal_strconv_underscoreOK_loop0_step (p : (List UInt8) × Bool) (s : Int × Int) : Round (Int × Int) ((Unit) ⊕ (Int)) :=
  let x0 := ((List.length p.1 : Nat) : Int);
  let x1 := decide (s.2 < x0);
  .ask x1
  (
   .need ((decide (0 ≤ s.2) && decide (s.2 < ((List.length p.1 : Nat) : Int)))) (
   let x2 := ((List.getD (p.1 : List UInt8) (Int.toNat s.2) 0).toNat : Int);
   let x3 := decide (48 ≤ x2);
   .ask x3
   (
    .need ((decide (0 ≤ s.2) && decide (s.2 < ((List.length p.1 : Nat) : Int)))) (
    let x4 := ((List.getD (p.1 : List UInt8) (Int.toNat s.2) 0).toNat : Int);
    let x5 := decide (x4 ≤ 57);
    .ask x5
    (
     let x6 := IntKind.wrap .i64 (s.2 + 1);
     .leaf (.inl (48, x6), []))
    (
     .ask p.2
     (
      .need ((decide (0 ≤ s.2) && decide (s.2 < ((List.length p.1 : Nat) : Int)))) (
      let x6 := ((List.getD (p.1 : List UInt8) (Int.toNat s.2) 0).toNat : Int);
      let x7 := internal_strconv_lower x6;
      let x8 := decide (97 ≤ x7);
      .ask x8
      (
       .need ((decide (0 ≤ s.2) && decide (s.2 < ((List.length p.1 : Nat) : Int)))) (
       let x9 := ((List.getD (p.1 : List UInt8) (Int.toNat s.2) 0).toNat : Int);
       let x10 := internal_strconv_lower x9;
       let x11 := decide (x10 ≤ 102);
       .ask x11
       (
        let x12 := IntKind.wrap .i64 (s.2 + 1);
        .leaf (.inl (48, x12), []))
       (
        .need ((decide (0 ≤ s.2) && decide (s.2 < ((List.length p.1 : Nat) : Int)))) (
        let x12 := ((List.getD (p.1 : List UInt8) (Int.toNat s.2) 0).toNat : Int);
        let x13 := (x12 == 95);
        .ask x13
        (
         let x14 := (s.1 != 48);
         .ask x14
         (
          .leaf (.inr (.inl ()), []))
         (
          let x15 := IntKind.wrap .i64 (s.2 + 1);
          .leaf (.inl (95, x15), [])))
        (
         let x14 := (s.1 == 95);
         .ask x14
         (
          .leaf (.inr (.inl ()), []))
         (
          let x15 := IntKind.wrap .i64 (s.2 + 1);
          .leaf (.inl (33, x15), [])))))))
      (
       .need ((decide (0 ≤ s.2) && decide (s.2 < ((List.length p.1 : Nat) : Int)))) (
       let x9 := ((List.getD (p.1 : List UInt8) (Int.toNat s.2) 0).toNat : Int);
       let x10 := (x9 == 95);
       .ask x10
       (
        let x11 := (s.1 != 48);
        .ask x11
        (
         .leaf (.inr (.inl ()), []))
        (
         let x12 := IntKind.wrap .i64 (s.2 + 1);
         .leaf (.inl (95, x12), [])))
       (
        let x11 := (s.1 == 95);
        .ask x11
        (
         .leaf (.inr (.inl ()), []))
        (
         let x12 := IntKind.wrap .i64 (s.2 + 1);
         .leaf (.inl (33, x12), [])))))))
     (
      .need ((decide (0 ≤ s.2) && decide (s.2 < ((List.length p.1 : Nat) : Int)))) (
      let x6 := ((List.getD (p.1 : List UInt8) (Int.toNat s.2) 0).toNat : Int);
      let x7 := (x6 == 95);
      .ask x7
      (
       let x8 := (s.1 != 48);
       .ask x8
       (
        .leaf (.inr (.inl ()), []))
       (
        let x9 := IntKind.wrap .i64 (s.2 + 1);
        .leaf (.inl (95, x9), [])))
      (
       let x8 := (s.1 == 95);
       .ask x8
       (
        .leaf (.inr (.inl ()), []))
       (
        let x9 := IntKind.wrap .i64 (s.2 + 1);
        .leaf (.inl (33, x9), []))))))))
   (
    .ask p.2
    (
     .need ((decide (0 ≤ s.2) && decide (s.2 < ((List.length p.1 : Nat) : Int)))) (
     let x4 := ((List.getD (p.1 : List UInt8) (Int.toNat s.2) 0).toNat : Int);
     let x5 := internal_strconv_lower x4;
     let x6 := decide (97 ≤ x5);
     .ask x6
     (
      .need ((decide (0 ≤ s.2) && decide (s.2 < ((List.length p.1 : Nat) : Int)))) (
      let x7 := ((List.getD (p.1 : List UInt8) (Int.toNat s.2) 0).toNat : Int);
      let x8 := internal_strconv_lower x7;
      let x9 := decide (x8 ≤ 102);
      .ask x9
      (
       let x10 := IntKind.wrap .i64 (s.2 + 1);
       .leaf (.inl (48, x10), []))
      (
       .need ((decide (0 ≤ s.2) && decide (s.2 < ((List.length p.1 : Nat) : Int)))) (
       let x10 := ((List.getD (p.1 : List UInt8) (Int.toNat s.2) 0).toNat : Int);
       let x11 := (x10 == 95);
       .ask x11
       (
        let x12 := (s.1 != 48);
        .ask x12
        (
         .leaf (.inr (.inl ()), []))
        (
         let x13 := IntKind.wrap .i64 (s.2 + 1);
         .leaf (.inl (95, x13), [])))
       (
        let x12 := (s.1 == 95);
        .ask x12
        (
         .leaf (.inr (.inl ()), []))
        (
         let x13 := IntKind.wrap .i64 (s.2 + 1);
         .leaf (.inl (33, x13), [])))))))
     (
      .need ((decide (0 ≤ s.2) && decide (s.2 < ((List.length p.1 : Nat) : Int)))) (
      let x7 := ((List.getD (p.1 : List UInt8) (Int.toNat s.2) 0).toNat : Int);
      let x8 := (x7 == 95);
      .ask x8
      (
       let x9 := (s.1 != 48);
       .ask x9
       (
        .leaf (.inr (.inl ()), []))
       (
        let x10 := IntKind.wrap .i64 (s.2 + 1);
        .leaf (.inl (95, x10), [])))
      (
       let x9 := (s.1 == 95);
       .ask x9
       (
        .leaf (.inr (.inl ()), []))
       (
        let x10 := IntKind.wrap .i64 (s.2 + 1);
        .leaf (.inl (33, x10), [])))))))
    (
     .need ((decide (0 ≤ s.2) && decide (s.2 < ((List.length p.1 : Nat) : Int)))) (
     let x4 := ((List.getD (p.1 : List UInt8) (Int.toNat s.2) 0).toNat : Int);
     let x5 := (x4 == 95);
     .ask x5
     (
      let x6 := (s.1 != 48);
      .ask x6
      (
       .leaf (.inr (.inl ()), []))
      (
       let x7 := IntKind.wrap .i64 (s.2 + 1);
       .leaf (.inl (95, x7), [])))
     (
      let x6 := (s.1 == 95);
      .ask x6
      (
       .leaf (.inr (.inl ()), []))
      (
       let x7 := IntKind.wrap .i64 (s.2 + 1);
       .leaf (.inl (33, x7), []))))))))
  (
   .leaf (.inr (.inr s.1), []))
def internal_strconv_underscoreOK_loop0_L (p : (List UInt8) × Bool) : LoopS (Int × Int) ((Unit) ⊕ (Int)) := { tl := fun s => [.str p.1, .junk, .junk, .int .i32 s.1, .int .i64 s.2, .bool p.2], hl := fun s => [], ex := fun r => match r with | .inl r => .ret | .inr r => .exit 0, otl := fun r => match r with | .inl r => [.junk, .junk, .bool false] | .inr r => [.junk, .junk, .junk, .int .i32 r], ohl := fun r => match r with | .inl r => [] | .inr r => [] }
def internal_strconv_underscoreOK_loop0_ext : St → Option (((List UInt8) × Bool) × (Int × Int) × List Nat) := fun S => match (S.tm 0).unK, (S.tm 3).unK, (S.tm 4).unK, (S.tm 5).unK with
  | .str q0, .int .i32 q1, .int .i64 q2, .bool q3 => some ((q0, q3), (q1, q2), [])
  | _, _, _, _ => none
def internal_strconv_underscoreOK_loop0_post (p : (List UInt8) × Bool) (r : (Unit) ⊕ (Int)) : DT (Ex × St) := .ask (isL r) (.leaf (.ret, LSt [.junk, .junk, .bool false] [])) (.leaf (.exit 0, LSt [.junk, .junk, .junk, .int .i32 ((rightD r))] []))
def internal_strconv_underscoreOK_loop0 (p : (List UInt8) × Bool) (s : Int × Int) : (Unit) ⊕ (Int) := loopVal (internal_strconv_underscoreOK_loop0_step p) s
def internal_strconv_underscoreOK_loop0_ends (p : (List UInt8) × Bool) (s : Int × Int) : Bool := loopEnds (internal_strconv_underscoreOK_loop0_step p) s
def internal_strconv_underscoreOK_loop0_F : LoopF := loopF internal_strconv_underscoreOK_loop0_step internal_strconv_underscoreOK_loop0_ext internal_strconv_underscoreOK_loop0_post
theorem internal_strconv_underscoreOK_loop0_hext : ∀ S p s fl, internal_strconv_underscoreOK_loop0_ext S = some (p, s, fl) → Norm S fl ((internal_strconv_underscoreOK_loop0_L p).tl s) ((internal_strconv_underscoreOK_loop0_L p).hl s) (internal_strconv_underscoreOK_loop0_L p).gl := by
  intro S p s fl h
  unfold internal_strconv_underscoreOK_loop0_ext at h
  (repeat' split at h) <;> first
    | (cases h; constructor <;> simp_all [internal_strconv_underscoreOK_loop0_L, keepT, keepH, rens, renH, PV.ren, Blk.ren, fOf, lget, nodup, natIn, lenEq, gtm, PV.unK])
    | cases h
theorem internal_strconv_underscoreOK_loop0_hpost : ∀ p r e S', (internal_strconv_underscoreOK_loop0_post p r).get = some (e, S') → e = (internal_strconv_underscoreOK_loop0_L p).ex r ∧ S' = LSt ((internal_strconv_underscoreOK_loop0_L p).otl r) ((internal_strconv_underscoreOK_loop0_L p).ohl r) ((internal_strconv_underscoreOK_loop0_L p).ogl r) := by
  intro p r e S' h
  unfold internal_strconv_underscoreOK_loop0_post at h
  cases r <;> (simp only [isL, DT.get, Option.some.injEq, Prod.mk.injEq] at h; exact ⟨h.1.symm, h.2.symm⟩)

def internal_strconv_underscoreOK_loops : Nat → Option LoopF := loopTab [(10, internal_strconv_underscoreOK_loop0_F)]
set_option maxRecDepth 100000 in
theorem internal_strconv_underscoreOK_l0 : LoopOK Tryz.prog ⟨gam [(80, internal_strconv_lower_c)], tab, 94, internal_strconv_underscoreOK_loops⟩ (lp Tryz.f81 0) :=
  loopOK_some (F := internal_strconv_underscoreOK_loop0_F) (by kernel_rfl) (loopF_ok (E := ⟨gam [(80, internal_strconv_lower_c)], tab, 94, internal_strconv_underscoreOK_loops⟩) ⟨gam_cons internal_strconv_lower_ok (gam_nil), tab_ok, by kernel_rfl⟩ (fuel := 100000) (loopsOK_list (l := []) (by kernel_rfl) trivial) (L := internal_strconv_underscoreOK_loop0_L) (fun p s => by unfold AgreeL; exact ⟨by kernel_rfl, by kernel_rfl⟩) (fun _ r h => by cases r <;> exact Ex.noConfusion h) internal_strconv_underscoreOK_loop0_hext internal_strconv_underscoreOK_loop0_hpost)
/-- internal/strconv.underscoreOK -/
def internal_strconv_underscoreOK_tree (a0 : (List UInt8)) : DT (Bool) :=
  let x0 := ((List.length a0 : Nat) : Int);
  let x1 := decide (x0 ≥ 1);
  .ask x1
  (
   .need ((decide (0 ≤ 0) && decide (0 < ((List.length a0 : Nat) : Int)))) (
   let x2 := ((List.getD (a0 : List UInt8) 0 0).toNat : Int);
   let x3 := (x2 == 45);
   .ask x3
   (
    .need ((decide (0 ≤ 1) && decide (1 ≤ (((List.length a0) : Nat) : Int)))) (
    let x4 := List.drop 1 (List.take (List.length a0) a0);
    let x5 := ((List.length x4 : Nat) : Int);
    let x6 := decide (x5 ≥ 2);
    .ask x6
    (
     .need ((decide (0 ≤ 0) && decide (0 < ((List.length x4 : Nat) : Int)))) (
     let x7 := ((List.getD (x4 : List UInt8) 0 0).toNat : Int);
     let x8 := (x7 == 48);
     .ask x8
     (
      .need ((decide (0 ≤ 1) && decide (1 < ((List.length x4 : Nat) : Int)))) (
      let x9 := ((List.getD (x4 : List UInt8) 1 0).toNat : Int);
      let x10 := internal_strconv_lower x9;
      let x11 := (x10 == 98);
      .ask x11
      (
       .need ((decide (0 ≤ 1) && decide (1 < ((List.length x4 : Nat) : Int)))) (
       let x12 := ((List.getD (x4 : List UInt8) 1 0).toNat : Int);
       let x13 := internal_strconv_lower x12;
       let x14 := (x13 == 120);
       .need ((internal_strconv_underscoreOK_loop0_ends (x4, x14) (48, 2))) (
       let x15 := internal_strconv_underscoreOK_loop0 (x4, x14) (48, 2);
       .ask ((isL x15))
       (
        .leaf false)
       (
        let x16 := ((rightD x15) != 95);
        .leaf x16))))
      (
       .need ((decide (0 ≤ 1) && decide (1 < ((List.length x4 : Nat) : Int)))) (
       let x12 := ((List.getD (x4 : List UInt8) 1 0).toNat : Int);
       let x13 := internal_strconv_lower x12;
       let x14 := (x13 == 111);
       .ask x14
       (
        .need ((decide (0 ≤ 1) && decide (1 < ((List.length x4 : Nat) : Int)))) (
        let x15 := ((List.getD (x4 : List UInt8) 1 0).toNat : Int);
        let x16 := internal_strconv_lower x15;
        let x17 := (x16 == 120);
        .need ((internal_strconv_underscoreOK_loop0_ends (x4, x17) (48, 2))) (
        let x18 := internal_strconv_underscoreOK_loop0 (x4, x17) (48, 2);
        .ask ((isL x18))
        (
         .leaf false)
        (
         let x19 := ((rightD x18) != 95);
         .leaf x19))))
       (
        .need ((decide (0 ≤ 1) && decide (1 < ((List.length x4 : Nat) : Int)))) (
        let x15 := ((List.getD (x4 : List UInt8) 1 0).toNat : Int);
        let x16 := internal_strconv_lower x15;
        let x17 := (x16 == 120);
        .ask x17
        (
         .need ((decide (0 ≤ 1) && decide (1 < ((List.length x4 : Nat) : Int)))) (
         let x18 := ((List.getD (x4 : List UInt8) 1 0).toNat : Int);
         let x19 := internal_strconv_lower x18;
         let x20 := (x19 == 120);
         .need ((internal_strconv_underscoreOK_loop0_ends (x4, x20) (48, 2))) (
         let x21 := internal_strconv_underscoreOK_loop0 (x4, x20) (48, 2);
         .ask ((isL x21))
         (
          .leaf false)
         (
          let x22 := ((rightD x21) != 95);
          .leaf x22))))
        (
         .need ((internal_strconv_underscoreOK_loop0_ends (x4, false) (94, 0))) (
         let x18 := internal_strconv_underscoreOK_loop0 (x4, false) (94, 0);
         .ask ((isL x18))
         (
          .leaf false)
         (
          let x19 := ((rightD x18) != 95);
          .leaf x19)))))))))
     (
      .need ((internal_strconv_underscoreOK_loop0_ends (x4, false) (94, 0))) (
      let x9 := internal_strconv_underscoreOK_loop0 (x4, false) (94, 0);
      .ask ((isL x9))
      (
       .leaf false)
      (
       let x10 := ((rightD x9) != 95);
       .leaf x10)))))
    (
     .need ((internal_strconv_underscoreOK_loop0_ends (x4, false) (94, 0))) (
     let x7 := internal_strconv_underscoreOK_loop0 (x4, false) (94, 0);
     .ask ((isL x7))
     (
      .leaf false)
     (
      let x8 := ((rightD x7) != 95);
      .leaf x8)))))
   (
    .need ((decide (0 ≤ 0) && decide (0 < ((List.length a0 : Nat) : Int)))) (
    let x4 := ((List.getD (a0 : List UInt8) 0 0).toNat : Int);
    let x5 := (x4 == 43);
    .ask x5
    (
     .need ((decide (0 ≤ 1) && decide (1 ≤ (((List.length a0) : Nat) : Int)))) (
     let x6 := List.drop 1 (List.take (List.length a0) a0);
     let x7 := ((List.length x6 : Nat) : Int);
     let x8 := decide (x7 ≥ 2);
     .ask x8
     (
      .need ((decide (0 ≤ 0) && decide (0 < ((List.length x6 : Nat) : Int)))) (
      let x9 := ((List.getD (x6 : List UInt8) 0 0).toNat : Int);
      let x10 := (x9 == 48);
      .ask x10
      (
       .need ((decide (0 ≤ 1) && decide (1 < ((List.length x6 : Nat) : Int)))) (
       let x11 := ((List.getD (x6 : List UInt8) 1 0).toNat : Int);
       let x12 := internal_strconv_lower x11;
       let x13 := (x12 == 98);
       .ask x13
       (
        .need ((decide (0 ≤ 1) && decide (1 < ((List.length x6 : Nat) : Int)))) (
        let x14 := ((List.getD (x6 : List UInt8) 1 0).toNat : Int);
        let x15 := internal_strconv_lower x14;
        let x16 := (x15 == 120);
        .need ((internal_strconv_underscoreOK_loop0_ends (x6, x16) (48, 2))) (
        let x17 := internal_strconv_underscoreOK_loop0 (x6, x16) (48, 2);
        .ask ((isL x17))
        (
         .leaf false)
        (
         let x18 := ((rightD x17) != 95);
         .leaf x18))))
       (
        .need ((decide (0 ≤ 1) && decide (1 < ((List.length x6 : Nat) : Int)))) (
        let x14 := ((List.getD (x6 : List UInt8) 1 0).toNat : Int);
        let x15 := internal_strconv_lower x14;
        let x16 := (x15 == 111);
        .ask x16
        (
         .need ((decide (0 ≤ 1) && decide (1 < ((List.length x6 : Nat) : Int)))) (
         let x17 := ((List.getD (x6 : List UInt8) 1 0).toNat : Int);
         let x18 := internal_strconv_lower x17;
         let x19 := (x18 == 120);
         .need ((internal_strconv_underscoreOK_loop0_ends (x6, x19) (48, 2))) (
         let x20 := internal_strconv_underscoreOK_loop0 (x6, x19) (48, 2);
         .ask ((isL x20))
         (
          .leaf false)
         (
          let x21 := ((rightD x20) != 95);
          .leaf x21))))
        (
         .need ((decide (0 ≤ 1) && decide (1 < ((List.length x6 : Nat) : Int)))) (
         let x17 := ((List.getD (x6 : List UInt8) 1 0).toNat : Int);
         let x18 := internal_strconv_lower x17;
         let x19 := (x18 == 120);
         .ask x19
         (
          .need ((decide (0 ≤ 1) && decide (1 < ((List.length x6 : Nat) : Int)))) (
          let x20 := ((List.getD (x6 : List UInt8) 1 0).toNat : Int);
          let x21 := internal_strconv_lower x20;
          let x22 := (x21 == 120);
          .need ((internal_strconv_underscoreOK_loop0_ends (x6, x22) (48, 2))) (
          let x23 := internal_strconv_underscoreOK_loop0 (x6, x22) (48, 2);
          .ask ((isL x23))
          (
           .leaf false)
          (
           let x24 := ((rightD x23) != 95);
           .leaf x24))))
         (
          .need ((internal_strconv_underscoreOK_loop0_ends (x6, false) (94, 0))) (
          let x20 := internal_strconv_underscoreOK_loop0 (x6, false) (94, 0);
          .ask ((isL x20))
          (
           .leaf false)
          (
           let x21 := ((rightD x20) != 95);
           .leaf x21)))))))))
      (
       .need ((internal_strconv_underscoreOK_loop0_ends (x6, false) (94, 0))) (
       let x11 := internal_strconv_underscoreOK_loop0 (x6, false) (94, 0);
       .ask ((isL x11))
       (
        .leaf false)
       (
        let x12 := ((rightD x11) != 95);
        .leaf x12)))))
     (
      .need ((internal_strconv_underscoreOK_loop0_ends (x6, false) (94, 0))) (
      let x9 := internal_strconv_underscoreOK_loop0 (x6, false) (94, 0);
      .ask ((isL x9))
      (
       .leaf false)
      (
       let x10 := ((rightD x9) != 95);
       .leaf x10)))))
    (
     let x6 := ((List.length a0 : Nat) : Int);
     let x7 := decide (x6 ≥ 2);
     .ask x7
     (
      .need ((decide (0 ≤ 0) && decide (0 < ((List.length a0 : Nat) : Int)))) (
      let x8 := ((List.getD (a0 : List UInt8) 0 0).toNat : Int);
      let x9 := (x8 == 48);
      .ask x9
      (
       .need ((decide (0 ≤ 1) && decide (1 < ((List.length a0 : Nat) : Int)))) (
       let x10 := ((List.getD (a0 : List UInt8) 1 0).toNat : Int);
       let x11 := internal_strconv_lower x10;
       let x12 := (x11 == 98);
       .ask x12
       (
        .need ((decide (0 ≤ 1) && decide (1 < ((List.length a0 : Nat) : Int)))) (
        let x13 := ((List.getD (a0 : List UInt8) 1 0).toNat : Int);
        let x14 := internal_strconv_lower x13;
        let x15 := (x14 == 120);
        .need ((internal_strconv_underscoreOK_loop0_ends (a0, x15) (48, 2))) (
        let x16 := internal_strconv_underscoreOK_loop0 (a0, x15) (48, 2);
        .ask ((isL x16))
        (
         .leaf false)
        (
         let x17 := ((rightD x16) != 95);
         .leaf x17))))
       (
        .need ((decide (0 ≤ 1) && decide (1 < ((List.length a0 : Nat) : Int)))) (
        let x13 := ((List.getD (a0 : List UInt8) 1 0).toNat : Int);
        let x14 := internal_strconv_lower x13;
        let x15 := (x14 == 111);
        .ask x15
        (
         .need ((decide (0 ≤ 1) && decide (1 < ((List.length a0 : Nat) : Int)))) (
         let x16 := ((List.getD (a0 : List UInt8) 1 0).toNat : Int);
         let x17 := internal_strconv_lower x16;
         let x18 := (x17 == 120);
         .need ((internal_strconv_underscoreOK_loop0_ends (a0, x18) (48, 2))) (
         let x19 := internal_strconv_underscoreOK_loop0 (a0, x18) (48, 2);
         .ask ((isL x19))
         (
          .leaf false)
         (
          let x20 := ((rightD x19) != 95);
          .leaf x20))))
        (
         .need ((decide (0 ≤ 1) && decide (1 < ((List.length a0 : Nat) : Int)))) (
         let x16 := ((List.getD (a0 : List UInt8) 1 0).toNat : Int);
         let x17 := internal_strconv_lower x16;
         let x18 := (x17 == 120);
         .ask x18
         (
          .need ((decide (0 ≤ 1) && decide (1 < ((List.length a0 : Nat) : Int)))) (
          let x19 := ((List.getD (a0 : List UInt8) 1 0).toNat : Int);
          let x20 := internal_strconv_lower x19;
          let x21 := (x20 == 120);
          .need ((internal_strconv_underscoreOK_loop0_ends (a0, x21) (48, 2))) (
          let x22 := internal_strconv_underscoreOK_loop0 (a0, x21) (48, 2);
          .ask ((isL x22))
          (
           .leaf false)
          (
           let x23 := ((rightD x22) != 95);
           .leaf x23))))
         (
          .need ((internal_strconv_underscoreOK_loop0_ends (a0, false) (94, 0))) (
          let x19 := internal_strconv_underscoreOK_loop0 (a0, false) (94, 0);
          .ask ((isL x19))
          (
           .leaf false)
          (
           let x20 := ((rightD x19) != 95);
           .leaf x20)))))))))
      (
       .need ((internal_strconv_underscoreOK_loop0_ends (a0, false) (94, 0))) (
       let x10 := internal_strconv_underscoreOK_loop0 (a0, false) (94, 0);
       .ask ((isL x10))
       (
        .leaf false)
       (
        let x11 := ((rightD x10) != 95);
        .leaf x11)))))
     (
      .need ((internal_strconv_underscoreOK_loop0_ends (a0, false) (94, 0))) (
      let x8 := internal_strconv_underscoreOK_loop0 (a0, false) (94, 0);
      .ask ((isL x8))
      (
       .leaf false)
      (
       let x9 := ((rightD x8) != 95);
       .leaf x9))))))))
  (
   let x2 := ((List.length a0 : Nat) : Int);
   let x3 := decide (x2 ≥ 2);
   .ask x3
   (
    .need ((decide (0 ≤ 0) && decide (0 < ((List.length a0 : Nat) : Int)))) (
    let x4 := ((List.getD (a0 : List UInt8) 0 0).toNat : Int);
    let x5 := (x4 == 48);
    .ask x5
    (
     .need ((decide (0 ≤ 1) && decide (1 < ((List.length a0 : Nat) : Int)))) (
     let x6 := ((List.getD (a0 : List UInt8) 1 0).toNat : Int);
     let x7 := internal_strconv_lower x6;
     let x8 := (x7 == 98);
     .ask x8
     (
      .need ((decide (0 ≤ 1) && decide (1 < ((List.length a0 : Nat) : Int)))) (
      let x9 := ((List.getD (a0 : List UInt8) 1 0).toNat : Int);
      let x10 := internal_strconv_lower x9;
      let x11 := (x10 == 120);
      .need ((internal_strconv_underscoreOK_loop0_ends (a0, x11) (48, 2))) (
      let x12 := internal_strconv_underscoreOK_loop0 (a0, x11) (48, 2);
      .ask ((isL x12))
      (
       .leaf false)
      (
       let x13 := ((rightD x12) != 95);
       .leaf x13))))
     (
      .need ((decide (0 ≤ 1) && decide (1 < ((List.length a0 : Nat) : Int)))) (
      let x9 := ((List.getD (a0 : List UInt8) 1 0).toNat : Int);
      let x10 := internal_strconv_lower x9;
      let x11 := (x10 == 111);
      .ask x11
      (
       .need ((decide (0 ≤ 1) && decide (1 < ((List.length a0 : Nat) : Int)))) (
       let x12 := ((List.getD (a0 : List UInt8) 1 0).toNat : Int);
       let x13 := internal_strconv_lower x12;
       let x14 := (x13 == 120);
       .need ((internal_strconv_underscoreOK_loop0_ends (a0, x14) (48, 2))) (
       let x15 := internal_strconv_underscoreOK_loop0 (a0, x14) (48, 2);
       .ask ((isL x15))
       (
        .leaf false)
       (
        let x16 := ((rightD x15) != 95);
        .leaf x16))))
      (
       .need ((decide (0 ≤ 1) && decide (1 < ((List.length a0 : Nat) : Int)))) (
       let x12 := ((List.getD (a0 : List UInt8) 1 0).toNat : Int);
       let x13 := internal_strconv_lower x12;
       let x14 := (x13 == 120);
       .ask x14
       (
        .need ((decide (0 ≤ 1) && decide (1 < ((List.length a0 : Nat) : Int)))) (
        let x15 := ((List.getD (a0 : List UInt8) 1 0).toNat : Int);
        let x16 := internal_strconv_lower x15;
        let x17 := (x16 == 120);
        .need ((internal_strconv_underscoreOK_loop0_ends (a0, x17) (48, 2))) (
        let x18 := internal_strconv_underscoreOK_loop0 (a0, x17) (48, 2);
        .ask ((isL x18))
        (
         .leaf false)
        (
         let x19 := ((rightD x18) != 95);
         .leaf x19))))
       (
        .need ((internal_strconv_underscoreOK_loop0_ends (a0, false) (94, 0))) (
        let x15 := internal_strconv_underscoreOK_loop0 (a0, false) (94, 0);
        .ask ((isL x15))
        (
         .leaf false)
        (
         let x16 := ((rightD x15) != 95);
         .leaf x16)))))))))
    (
     .need ((internal_strconv_underscoreOK_loop0_ends (a0, false) (94, 0))) (
     let x6 := internal_strconv_underscoreOK_loop0 (a0, false) (94, 0);
     .ask ((isL x6))
     (
      .leaf false)
     (
      let x7 := ((rightD x6) != 95);
      .leaf x7)))))
   (
    .need ((internal_strconv_underscoreOK_loop0_ends (a0, false) (94, 0))) (
    let x4 := internal_strconv_underscoreOK_loop0 (a0, false) (94, 0);
    .ask ((isL x4))
    (
     .leaf false)
    (
     let x5 := ((rightD x4) != 95);
     .leaf x5))))
def internal_strconv_underscoreOK (a0 : (List UInt8)) : Bool := (internal_strconv_underscoreOK_tree a0).val
def internal_strconv_underscoreOK_need (a0 : (List UInt8)) : Bool := (internal_strconv_underscoreOK_tree a0).ok
def internal_strconv_underscoreOK_mk (p : Bool) : Ret := ⟨.bool p, []⟩
def internal_strconv_underscoreOK_c : Con := fun args => match args with
  | [.str a0] => some (.need (internal_strconv_underscoreOK_need a0) (.leaf (internal_strconv_underscoreOK_mk (internal_strconv_underscoreOK a0))))
  | _ => none
set_option maxRecDepth 100000 in
theorem internal_strconv_underscoreOK_ok : FunOK Tryz.prog 81 internal_strconv_underscoreOK_c.fn := by
  refine con_ok (Γ := gam [(80, internal_strconv_lower_c)]) (gam_cons internal_strconv_lower_ok (gam_nil)) tab_ok (by kernel_rfl) Tryz.func81 (by kernel_rfl) (by kernel_rfl) Tryz.ntmps81 Tryz.results81 (loops := internal_strconv_underscoreOK_loops) (loopsOK_list (l := [lp Tryz.f81 0]) (by kernel_rfl) ⟨internal_strconv_underscoreOK_l0, trivial⟩) 100000 fun args t h => ?_
  unfold internal_strconv_underscoreOK_c at h
  split at h
  · rename_i a0
    cases h
    exact ⟨rfl, agree_need (mk := internal_strconv_underscoreOK_mk) (t := internal_strconv_underscoreOK_tree a0) (by unfold Agree; kernel_rfl)⟩
  · cases h

-- FAILED 65 internal/strconv.ParseUint: operation

-- FAILED 97 internal/stringslite.Clone: builtin

-- FAILED 82 strconv.syntaxError: no contract: internal/stringslite.Clone 

-- FAILED 83 strconv.rangeError: no contract: internal/stringslite.Clone 

-- FAILED 107 internal/strconv.Itoa: no contract: internal/strconv.FormatInt 

-- FAILED 99 strconv.Itoa: no contract: internal/strconv.Itoa 

-- FAILED 98 errors.New: operation

-- FAILED 84 strconv.baseError: no contract: internal/stringslite.Clone 

-- FAILED 85 strconv.bitSizeError: no contract: internal/stringslite.Clone 

-- FAILED 66 strconv.toError: param type 80

-- FAILED 54 strconv.ParseUint: no contract: internal/strconv.ParseUint 

/-- a loop of impl_ReadNumbers -/
def impl_ReadNumbers_loop0_step (p : Bool × Int × List (List UInt8)) (s : Int × List Nat) : Round (Int × List Nat) ((Unit) ⊕ (List Nat)) :=
  let x0 := decide (s.1 < p.2.1);
  .ask x0
  (
   .need ((decide (0 ≤ s.1) && decide (s.1 < ((List.length p.2.2 : Nat) : Int)))) (
   .need ((decide ((Int.toNat s.1) < List.length p.2.2))) (
   let x1 := List.getD p.2.2 (Int.toNat s.1) default;
   .need ((decide (List.length x1 ≤ 281474976710656) && impl_digits_need (canon .f32 (valP (parseS x1))))) (
   let x2 := readD x1;
   .ask (!p.1)
   (
    .leaf (.inr (.inl ()), []))
   (
    .ask (!x2.2)
    (
     .leaf (.inr (.inl ()), []))
    (
     .need ((decide ((List.length s.2 + List.length [x2.1]) * 4 ≤ 140737488355328) && decide (List.length s.2 + List.length [x2.1] ≤ 9223372036854775807))) (
     let x3 := s.2 ++ [x2.1];
     let x4 := IntKind.wrap .i64 (s.1 + 1);
     .leaf (.inl (x4, x3), [162, 1]))))))))
  (
   .leaf (.inr (.inr s.2), [0]))
def impl_ReadNumbers_loop0_L (p : Bool × Int × List (List UInt8)) : LoopS (Int × List Nat) ((Unit) ⊕ (List Nat)) := { tl := fun s => [.junk, .junk, .junk, .junk, .junk, .bool p.1, .own 0, .junk, .junk, .junk, .junk, .junk, .junk, .junk, .junk, .junk, .junk, .own 1, .int .i64 p.2.1, .int .i64 s.1], hl := fun s => [some (.typed 24 (.flt .f32) s.2), some (.typed 9 .str p.2.2)], ex := fun r => match r with | .inl r => .ret | .inr r => .exit 0, otl := fun r => match r with | .inl r => [.junk, .junk, .nils, .bool false] | .inr r => [.junk, .junk, .junk, .junk, .junk, .bool p.1, .own 0], ohl := fun r => match r with | .inl r => [] | .inr r => [some (.typed 24 (.flt .f32) r)] }
def impl_ReadNumbers_loop0_ext : St → Option ((Bool × Int × List (List UInt8)) × (Int × List Nat) × List Nat) := fun S => match (S.tm 5).unK, (S.tm 6).unK, (S.tm 17).unK, (S.tm 18).unK, (S.tm 19).unK with
  | .bool q0, .own i0, .own i1, .int .i64 q1, .int .i64 q2 => (match S.hp i0 with
    | some (.typed 24 (.flt .f32) q3) => (match S.hp i1 with
    | some (.typed 9 .str q4) => (if nodup [i0, i1] = true then some ((q0, q1, q4), (q2, q3), [i0, i1]) else none)
    | _ => none)
    | _ => none)
  | _, _, _, _, _ => none
def impl_ReadNumbers_loop0_post (p : Bool × Int × List (List UInt8)) (r : (Unit) ⊕ (List Nat)) : DT (Ex × St) := .ask (isL r) (.leaf (.ret, LSt [.junk, .junk, .nils, .bool false] [])) (.leaf (.exit 0, LSt [.junk, .junk, .junk, .junk, .junk, .bool p.1, .own 0] [some (.typed 24 (.flt .f32) ((rightD r)))]))
def impl_ReadNumbers_loop0 (p : Bool × Int × List (List UInt8)) (s : Int × List Nat) : (Unit) ⊕ (List Nat) := loopVal (impl_ReadNumbers_loop0_step p) s
def impl_ReadNumbers_loop0_ends (p : Bool × Int × List (List UInt8)) (s : Int × List Nat) : Bool := loopEnds (impl_ReadNumbers_loop0_step p) s
def impl_ReadNumbers_loop0_F : LoopF := loopF impl_ReadNumbers_loop0_step impl_ReadNumbers_loop0_ext impl_ReadNumbers_loop0_post
theorem impl_ReadNumbers_loop0_hext : ∀ S p s fl, impl_ReadNumbers_loop0_ext S = some (p, s, fl) → Norm S fl ((impl_ReadNumbers_loop0_L p).tl s) ((impl_ReadNumbers_loop0_L p).hl s) (impl_ReadNumbers_loop0_L p).gl := by
  intro S p s fl h
  unfold impl_ReadNumbers_loop0_ext at h
  (repeat' split at h) <;> first
    | (cases h; constructor <;> simp_all [impl_ReadNumbers_loop0_L, keepT, keepH, rens, renH, PV.ren, Blk.ren, fOf, lget, nodup, natIn, lenEq, gtm, PV.unK])
    | cases h
theorem impl_ReadNumbers_loop0_hpost : ∀ p r e S', (impl_ReadNumbers_loop0_post p r).get = some (e, S') → e = (impl_ReadNumbers_loop0_L p).ex r ∧ S' = LSt ((impl_ReadNumbers_loop0_L p).otl r) ((impl_ReadNumbers_loop0_L p).ohl r) ((impl_ReadNumbers_loop0_L p).ogl r) := by
  intro p r e S' h
  unfold impl_ReadNumbers_loop0_post at h
  cases r <;> (simp only [isL, DT.get, Option.some.injEq, Prod.mk.injEq] at h; exact ⟨h.1.symm, h.2.symm⟩)

def impl_ReadNumbers_loops : Nat → Option LoopF := loopTab [(4, impl_ReadNumbers_loop0_F)]
set_option maxRecDepth 100000 in
theorem impl_ReadNumbers_l0 : LoopOK Tryz.prog ⟨gam [(40, impl_apart_c), (41, impl_readDigits_c)], tab, 42, impl_ReadNumbers_loops⟩ (lp Tryz.f29 0) :=
  loopOK_some (F := impl_ReadNumbers_loop0_F) (by kernel_rfl) (loopF_ok (E := ⟨gam [(40, impl_apart_c), (41, impl_readDigits_c)], tab, 42, impl_ReadNumbers_loops⟩) ⟨gam_cons impl_apart_ok (gam_cons impl_readDigits_ok (gam_nil)), tab_ok, by kernel_rfl⟩ (fuel := 100000) (loopsOK_list (l := []) (by kernel_rfl) trivial) (L := impl_ReadNumbers_loop0_L) (fun p s => by unfold AgreeL; exact ⟨by kernel_rfl, by kernel_rfl⟩) (fun _ r h => by cases r <;> exact Ex.noConfusion h) impl_ReadNumbers_loop0_hext impl_ReadNumbers_loop0_hpost)
/-- loop.example/g01284/impl.ReadNumbers -/
def impl_ReadNumbers_tree (a0 : (List UInt8)) : DT ((List Nat) ⊕ (Unit)) :=
  .need ((impl_apart_need a0)) (
  let x0 := impl_apart a0;
  .ask ((isL x0))
  (
   .skip (
   .skip (
   .leaf (.inl []))))
  (
   let x1 := ((List.length (rightD x0).1 : Nat) : Int);
   .need ((impl_ReadNumbers_loop0_ends ((rightD x0).2, x1, (rightD x0).1) (0, []))) (
   let x2 := impl_ReadNumbers_loop0 ((rightD x0).2, x1, (rightD x0).1) (0, []);
   .ask ((isL x2))
   (
    .leaf (.inr ()))
   (
    let x3 := (!(rightD x0).2);
    .ask x3
    (
     .leaf (.inr ()))
    (
     .leaf (.inl ((rightD x2))))))))
def impl_ReadNumbers (a0 : (List UInt8)) : (List Nat) ⊕ (Unit) := (impl_ReadNumbers_tree a0).val
def impl_ReadNumbers_need (a0 : (List UInt8)) : Bool := (impl_ReadNumbers_tree a0).ok
def impl_ReadNumbers_mk0 (p : List Nat) : Ret := ⟨.tup [.own 0, .bool true], [.typed 24 (.flt .f32) p]⟩
def impl_ReadNumbers_mk1 (p : Unit) : Ret := ⟨.tup [.nils, .bool false], []⟩
def impl_ReadNumbers_mk : (List Nat) ⊕ (Unit) → Ret := fun v => match v with
  | (.inl p) => impl_ReadNumbers_mk0 p
  | (.inr p) => impl_ReadNumbers_mk1 p
def impl_ReadNumbers_forms (v : (List Nat) ⊕ (Unit)) : DT Ret := .ask (isL v) (.leaf (impl_ReadNumbers_mk0 (leftD v))) (.leaf (impl_ReadNumbers_mk1 (rightD v)))
theorem impl_ReadNumbers_forms_get : ∀ v, (impl_ReadNumbers_forms v).get = some (impl_ReadNumbers_mk v) := by
  intro v
  rcases v with v | v <;> rfl
def impl_ReadNumbers_c : Con := fun args => match args with
  | [.str a0] => some (.need (impl_ReadNumbers_need a0) (impl_ReadNumbers_forms (impl_ReadNumbers a0)))
  | _ => none
set_option maxRecDepth 100000 in
theorem impl_ReadNumbers_ok : FunOK Tryz.prog 29 impl_ReadNumbers_c.fn := by
  refine con_ok (Γ := gam [(40, impl_apart_c), (41, impl_readDigits_c)]) (gam_cons impl_apart_ok (gam_cons impl_readDigits_ok (gam_nil))) tab_ok (by kernel_rfl) Tryz.func29 (by kernel_rfl) (by kernel_rfl) Tryz.ntmps29 Tryz.results29 (loops := impl_ReadNumbers_loops) (loopsOK_list (l := [lp Tryz.f29 0]) (by kernel_rfl) ⟨impl_ReadNumbers_l0, trivial⟩) 100000 fun args t h => ?_
  unfold impl_ReadNumbers_c at h
  split at h
  · rename_i a0
    cases h
    exact ⟨rfl, agree_forms (mk := impl_ReadNumbers_mk) (t := impl_ReadNumbers_tree a0) (by unfold Agree; kernel_rfl) (fun h => h) (impl_ReadNumbers_forms_get _)⟩
  · cases h

/-- loop.example/g01284/impl.ReadVector -/
def impl_ReadVector_tree (a0 : (List UInt8)) : DT (Vec × Bool) :=
  .need ((impl_ReadNumbers_need a0)) (
  let x0 := impl_ReadNumbers a0;
  .ask ((isL x0))
  (
   .skip (
   .skip (
   let x1 := ((List.length (leftD x0) : Nat) : Int);
   .skip (
   let x2 := (x1 != 3);
   .skip (
   .ask x2
   (
    .leaf ((⟨0, 0, 0⟩ : Vec), false))
   (
    .need ((decide (0 ≤ 0) && decide (0 < ((List.length (leftD x0) : Nat) : Int)))) (
    .need ((decide (0 < List.length (leftD x0)))) (
    let x3 := List.getD (leftD x0) 0 default;
    .need ((decide (0 ≤ 1) && decide (1 < ((List.length (leftD x0) : Nat) : Int)))) (
    .need ((decide (1 < List.length (leftD x0)))) (
    let x4 := List.getD (leftD x0) 1 default;
    .need ((decide (0 ≤ 2) && decide (2 < ((List.length (leftD x0) : Nat) : Int)))) (
    .need ((decide (2 < List.length (leftD x0)))) (
    let x5 := List.getD (leftD x0) 2 default;
    .leaf ((⟨x3, x4, x5⟩ : Vec), true)))))))))))))
  (
   .skip (
   .skip (
   .skip (
   .skip (
   .leaf ((⟨0, 0, 0⟩ : Vec), false)))))))
def impl_ReadVector (a0 : (List UInt8)) : Vec × Bool := (impl_ReadVector_tree a0).val
def impl_ReadVector_need (a0 : (List UInt8)) : Bool := (impl_ReadVector_tree a0).ok
def impl_ReadVector_mk (p : Vec × Bool) : Ret := ⟨.tup [.agg [.flt .f32 p.1.X, .flt .f32 p.1.Y, .flt .f32 p.1.Z], .bool p.2], []⟩
def impl_ReadVector_c : Con := fun args => match args with
  | [.str a0] => some (.need (impl_ReadVector_need a0) (.leaf (impl_ReadVector_mk (impl_ReadVector a0))))
  | _ => none
set_option maxRecDepth 100000 in
theorem impl_ReadVector_ok : FunOK Tryz.prog 19 impl_ReadVector_c.fn := by
  refine con_ok (Γ := gam [(29, impl_ReadNumbers_c)]) (gam_cons impl_ReadNumbers_ok (gam_nil)) tab_ok (by kernel_rfl) Tryz.func19 (by kernel_rfl) (by kernel_rfl) Tryz.ntmps19 Tryz.results19 (loopsOK_none rfl _) 100000 fun args t h => ?_
  unfold impl_ReadVector_c at h
  split at h
  · rename_i a0
    cases h
    exact ⟨rfl, agree_need (mk := impl_ReadVector_mk) (t := impl_ReadVector_tree a0) (by unfold Agree; kernel_rfl)⟩
  · cases h

/-- loop.example/g01284/impl.SameNumber -/
def impl_SameNumber_tree (a0 : Nat) (a1 : Nat) : DT (Bool) :=
  let x0 := fne .f32 a0 a0;
  .ask x0
  (
   let x1 := fne .f32 a0 a0;
   .ask x1
   (
    let x2 := fne .f32 a1 a1;
    .leaf x2)
   (
    .leaf false))
  (
   let x1 := fne .f32 a1 a1;
   .ask x1
   (
    let x2 := fne .f32 a0 a0;
    .ask x2
    (
     let x3 := fne .f32 a1 a1;
     .leaf x3)
    (
     .leaf false))
   (
    let x2 := feq .f32 a0 a1;
    .ask x2
    (
     .need ((fconvOk .f32 a0 .f64)) (
     let x3 := fconv .f32 a0 .f64;
     .need ((!isNaN .f64 x3)) (
     let x4 := decide (IntKind.wrap .i64 ((x3 : Nat) : Int) < 0);
     .need ((fconvOk .f32 a1 .f64)) (
     let x5 := fconv .f32 a1 .f64;
     .need ((!isNaN .f64 x5)) (
     let x6 := decide (IntKind.wrap .i64 ((x5 : Nat) : Int) < 0);
     let x7 := (x4 == x6);
     .leaf x7)))))
    (
     .leaf false)))
def impl_SameNumber (a0 : Nat) (a1 : Nat) : Bool := (impl_SameNumber_tree a0 a1).val
def impl_SameNumber_need (a0 : Nat) (a1 : Nat) : Bool := (impl_SameNumber_tree a0 a1).ok
def impl_SameNumber_mk (p : Bool) : Ret := ⟨.bool p, []⟩
def impl_SameNumber_c : Con := fun args => match args with
  | [.flt .f32 a0, .flt .f32 a1] => some (.need (impl_SameNumber_need a0 a1) (.leaf (impl_SameNumber_mk (impl_SameNumber a0 a1))))
  | _ => none
set_option maxRecDepth 100000 in
theorem impl_SameNumber_ok : FunOK Tryz.prog 43 impl_SameNumber_c.fn := by
  refine con_ok (Γ := gam [(56, math_Signbit_c)]) (gam_cons math_Signbit_ok (gam_nil)) tab_ok (by kernel_rfl) Tryz.func43 (by kernel_rfl) (by kernel_rfl) Tryz.ntmps43 Tryz.results43 (loopsOK_none rfl _) 100000 fun args t h => ?_
  unfold impl_SameNumber_c at h
  split at h
  · rename_i a0 a1
    cases h
    exact ⟨rfl, agree_need (mk := impl_SameNumber_mk) (t := impl_SameNumber_tree a0 a1) (by unfold Agree; kernel_rfl)⟩
  · cases h

/-- a loop of slices_EqualFunc___float32___float32_float32_float32__impl_SameNumber -/
def slices_EqualFunc___float32___float32_float32_float32__impl_SameNumber_loop0_step (p : List Nat × List Nat × Int) (s : Int) : Round (Int) ((Unit) ⊕ (Unit)) :=
  let x0 := decide (s < p.2.2);
  .ask x0
  (
   .need ((decide (0 ≤ s) && decide (s < ((List.length p.2.1 : Nat) : Int)))) (
   let x1 := List.getD p.2.1 (Int.toNat s) default;
   .need ((decide (0 ≤ s) && decide (s < ((List.length p.1 : Nat) : Int)))) (
   let x2 := List.getD p.1 (Int.toNat s) default;
   .need ((impl_SameNumber_need x1 x2)) (
   let x3 := impl_SameNumber x1 x2;
   .ask (!x3)
   (
    .leaf (.inr (.inl ()), []))
   (
    let x4 := IntKind.wrap .i64 (s + 1);
    .leaf (.inl x4, []))))))
  (
   .leaf (.inr (.inr ()), []))
def slices_EqualFunc___float32___float32_float32_float32__impl_SameNumber_loop0_L (p : List Nat × List Nat × Int) : LoopS (Int) ((Unit) ⊕ (Unit)) := { tl := fun s => [.junk, .vslc 2 (.flt .f32) p.1, .func (.func 43) [] [], .junk, .junk, .junk, .junk, .junk, .junk, .junk, .junk, .junk, .junk, .junk, .junk, .vslc 1 (.flt .f32) p.2.1, .int .i64 p.2.2, .int .i64 s], hl := fun s => [], ex := fun r => match r with | .inl r => .ret | .inr r => .exit 0, otl := fun r => match r with | .inl r => [.junk, .junk, .junk, .junk, .junk, .junk, .bool false] | .inr r => [.junk], ohl := fun r => match r with | .inl r => [] | .inr r => [] }
def slices_EqualFunc___float32___float32_float32_float32__impl_SameNumber_loop0_ext : St → Option ((List Nat × List Nat × Int) × (Int) × List Nat) := fun S => match (S.tm 1).unK, (S.tm 2).unK, (S.tm 15).unK, (S.tm 16).unK, (S.tm 17).unK with
  | .vslc 2 (.flt .f32) q0, .func (.func 43) [] [], .vslc 1 (.flt .f32) q1, .int .i64 q2, .int .i64 q3 => some ((q0, q1, q2), q3, [])
  | _, _, _, _, _ => none
def slices_EqualFunc___float32___float32_float32_float32__impl_SameNumber_loop0_post (p : List Nat × List Nat × Int) (r : (Unit) ⊕ (Unit)) : DT (Ex × St) := .ask (isL r) (.leaf (.ret, LSt [.junk, .junk, .junk, .junk, .junk, .junk, .bool false] [])) (.leaf (.exit 0, LSt [.junk] []))
def slices_EqualFunc___float32___float32_float32_float32__impl_SameNumber_loop0 (p : List Nat × List Nat × Int) (s : Int) : (Unit) ⊕ (Unit) := loopVal (slices_EqualFunc___float32___float32_float32_float32__impl_SameNumber_loop0_step p) s
def slices_EqualFunc___float32___float32_float32_float32__impl_SameNumber_loop0_ends (p : List Nat × List Nat × Int) (s : Int) : Bool := loopEnds (slices_EqualFunc___float32___float32_float32_float32__impl_SameNumber_loop0_step p) s
def slices_EqualFunc___float32___float32_float32_float32__impl_SameNumber_loop0_F : LoopF := loopF slices_EqualFunc___float32___float32_float32_float32__impl_SameNumber_loop0_step slices_EqualFunc___float32___float32_float32_float32__impl_SameNumber_loop0_ext slices_EqualFunc___float32___float32_float32_float32__impl_SameNumber_loop0_post
theorem slices_EqualFunc___float32___float32_float32_float32__impl_SameNumber_loop0_hext : ∀ S p s fl, slices_EqualFunc___float32___float32_float32_float32__impl_SameNumber_loop0_ext S = some (p, s, fl) → Norm S fl ((slices_EqualFunc___float32___float32_float32_float32__impl_SameNumber_loop0_L p).tl s) ((slices_EqualFunc___float32___float32_float32_float32__impl_SameNumber_loop0_L p).hl s) (slices_EqualFunc___float32___float32_float32_float32__impl_SameNumber_loop0_L p).gl := by
  intro S p s fl h
  unfold slices_EqualFunc___float32___float32_float32_float32__impl_SameNumber_loop0_ext at h
  (repeat' split at h) <;> first
    | (cases h; constructor <;> simp_all [slices_EqualFunc___float32___float32_float32_float32__impl_SameNumber_loop0_L, keepT, keepH, rens, renH, PV.ren, Blk.ren, fOf, lget, nodup, natIn, lenEq, gtm, PV.unK])
    | cases h
theorem slices_EqualFunc___float32___float32_float32_float32__impl_SameNumber_loop0_hpost : ∀ p r e S', (slices_EqualFunc___float32___float32_float32_float32__impl_SameNumber_loop0_post p r).get = some (e, S') → e = (slices_EqualFunc___float32___float32_float32_float32__impl_SameNumber_loop0_L p).ex r ∧ S' = LSt ((slices_EqualFunc___float32___float32_float32_float32__impl_SameNumber_loop0_L p).otl r) ((slices_EqualFunc___float32___float32_float32_float32__impl_SameNumber_loop0_L p).ohl r) ((slices_EqualFunc___float32___float32_float32_float32__impl_SameNumber_loop0_L p).ogl r) := by
  intro p r e S' h
  unfold slices_EqualFunc___float32___float32_float32_float32__impl_SameNumber_loop0_post at h
  cases r <;> (simp only [isL, DT.get, Option.some.injEq, Prod.mk.injEq] at h; exact ⟨h.1.symm, h.2.symm⟩)

def slices_EqualFunc___float32___float32_float32_float32__impl_SameNumber_loops : Nat → Option LoopF := loopTab [(4, slices_EqualFunc___float32___float32_float32_float32__impl_SameNumber_loop0_F)]
set_option maxRecDepth 100000 in
theorem slices_EqualFunc___float32___float32_float32_float32__impl_SameNumber_l0 : LoopOK Tryz.prog ⟨gam [(43, impl_SameNumber_c)], tab, 32, slices_EqualFunc___float32___float32_float32_float32__impl_SameNumber_loops⟩ (lp Tryz.f42 0) :=
  loopOK_some (F := slices_EqualFunc___float32___float32_float32_float32__impl_SameNumber_loop0_F) (by kernel_rfl) (loopF_ok (E := ⟨gam [(43, impl_SameNumber_c)], tab, 32, slices_EqualFunc___float32___float32_float32_float32__impl_SameNumber_loops⟩) ⟨gam_cons impl_SameNumber_ok (gam_nil), tab_ok, by kernel_rfl⟩ (fuel := 100000) (loopsOK_list (l := []) (by kernel_rfl) trivial) (L := slices_EqualFunc___float32___float32_float32_float32__impl_SameNumber_loop0_L) (fun p s => by unfold AgreeL; exact ⟨by kernel_rfl, by kernel_rfl⟩) (fun _ r h => by cases r <;> exact Ex.noConfusion h) slices_EqualFunc___float32___float32_float32_float32__impl_SameNumber_loop0_hext slices_EqualFunc___float32___float32_float32_float32__impl_SameNumber_loop0_hpost)
/-- slices.EqualFunc[[]float32,[]float32,float32,float32] -/
def slices_EqualFunc___float32___float32_float32_float32__impl_SameNumber_tree (a0 : List Nat) (a1 : List Nat) : DT (Bool) :=
  let x0 := ((List.length a0 : Nat) : Int);
  let x1 := ((List.length a1 : Nat) : Int);
  let x2 := (x0 != x1);
  .ask x2
  (
   .leaf false)
  (
   let x3 := ((List.length a0 : Nat) : Int);
   .need ((slices_EqualFunc___float32___float32_float32_float32__impl_SameNumber_loop0_ends (a1, a0, x3) 0)) (
   let x4 := slices_EqualFunc___float32___float32_float32_float32__impl_SameNumber_loop0 (a1, a0, x3) 0;
   .ask ((isL x4))
   (
    .leaf false)
   (
    .leaf true)))
def slices_EqualFunc___float32___float32_float32_float32__impl_SameNumber (a0 : List Nat) (a1 : List Nat) : Bool := (slices_EqualFunc___float32___float32_float32_float32__impl_SameNumber_tree a0 a1).val
def slices_EqualFunc___float32___float32_float32_float32__impl_SameNumber_need (a0 : List Nat) (a1 : List Nat) : Bool := (slices_EqualFunc___float32___float32_float32_float32__impl_SameNumber_tree a0 a1).ok
def slices_EqualFunc___float32___float32_float32_float32__impl_SameNumber_mk (p : Bool) : Ret := ⟨.bool p, []⟩
def slices_EqualFunc___float32___float32_float32_float32__impl_SameNumber_c0 : Con := fun args => match args with
  | [.vslc 1 (.flt .f32) a0, .vslc 2 (.flt .f32) a1, .func (.func 43) [] []] => some (.need (slices_EqualFunc___float32___float32_float32_float32__impl_SameNumber_need a0 a1) (.leaf (slices_EqualFunc___float32___float32_float32_float32__impl_SameNumber_mk (slices_EqualFunc___float32___float32_float32_float32__impl_SameNumber a0 a1))))
  | _ => none
set_option maxRecDepth 100000 in
theorem slices_EqualFunc___float32___float32_float32_float32__impl_SameNumber_ok0 : FunOK Tryz.prog 42 slices_EqualFunc___float32___float32_float32_float32__impl_SameNumber_c0.fn := by
  refine con_ok (Γ := gam [(43, impl_SameNumber_c)]) (gam_cons impl_SameNumber_ok (gam_nil)) tab_ok (by kernel_rfl) Tryz.func42 (by kernel_rfl) (by kernel_rfl) Tryz.ntmps42 Tryz.results42 (loops := slices_EqualFunc___float32___float32_float32_float32__impl_SameNumber_loops) (loopsOK_list (l := [lp Tryz.f42 0]) (by kernel_rfl) ⟨slices_EqualFunc___float32___float32_float32_float32__impl_SameNumber_l0, trivial⟩) 100000 fun args t h => ?_
  unfold slices_EqualFunc___float32___float32_float32_float32__impl_SameNumber_c0 at h
  split at h
  · rename_i a0 a1
    cases h
    exact ⟨rfl, agree_need (mk := slices_EqualFunc___float32___float32_float32_float32__impl_SameNumber_mk) (t := slices_EqualFunc___float32___float32_float32_float32__impl_SameNumber_tree a0 a1) (by unfold Agree; kernel_rfl)⟩
  · cases h
def slices_EqualFunc___float32___float32_float32_float32__impl_SameNumber_c : Con := fun args => slices_EqualFunc___float32___float32_float32_float32__impl_SameNumber_c0 (norms 0 [.slc (.flt .f32), .slc (.flt .f32), .none] args)
set_option maxRecDepth 100000 in
theorem slices_EqualFunc___float32___float32_float32_float32__impl_SameNumber_ok : FunOK Tryz.prog 42 slices_EqualFunc___float32___float32_float32_float32__impl_SameNumber_c.fn := con_norm [.slc (.flt .f32), .slc (.flt .f32), .none] slices_EqualFunc___float32___float32_float32_float32__impl_SameNumber_ok0

/-- loop.example/g01284/impl.sameNumbers -/
def impl_sameNumbers_tree (a0 : List Nat) (a1 : List Nat) : DT (Bool) :=
  .need ((slices_EqualFunc___float32___float32_float32_float32__impl_SameNumber_need a0 a1 )) (
  let x0 := slices_EqualFunc___float32___float32_float32_float32__impl_SameNumber a0 a1 ;
  .leaf x0)
def impl_sameNumbers (a0 : List Nat) (a1 : List Nat) : Bool := (impl_sameNumbers_tree a0 a1).val
def impl_sameNumbers_need (a0 : List Nat) (a1 : List Nat) : Bool := (impl_sameNumbers_tree a0 a1).ok
def impl_sameNumbers_mk (p : Bool) : Ret := ⟨.bool p, []⟩
def impl_sameNumbers_c0 : Con := fun args => match args with
  | [.vslc 1 (.flt .f32) a0, .vslc 2 (.flt .f32) a1] => some (.need (impl_sameNumbers_need a0 a1) (.leaf (impl_sameNumbers_mk (impl_sameNumbers a0 a1))))
  | _ => none
set_option maxRecDepth 100000 in
theorem impl_sameNumbers_ok0 : FunOK Tryz.prog 30 impl_sameNumbers_c0.fn := by
  refine con_ok (Γ := gam [(42, slices_EqualFunc___float32___float32_float32_float32__impl_SameNumber_c)]) (gam_cons slices_EqualFunc___float32___float32_float32_float32__impl_SameNumber_ok (gam_nil)) tab_ok (by kernel_rfl) Tryz.func30 (by kernel_rfl) (by kernel_rfl) Tryz.ntmps30 Tryz.results30 (loopsOK_none rfl _) 100000 fun args t h => ?_
  unfold impl_sameNumbers_c0 at h
  split at h
  · rename_i a0 a1
    cases h
    exact ⟨rfl, agree_need (mk := impl_sameNumbers_mk) (t := impl_sameNumbers_tree a0 a1) (by unfold Agree; kernel_rfl)⟩
  · cases h
def impl_sameNumbers_c : Con := fun args => impl_sameNumbers_c0 (norms 0 [.slc (.flt .f32), .slc (.flt .f32)] args)
set_option maxRecDepth 100000 in
theorem impl_sameNumbers_ok : FunOK Tryz.prog 30 impl_sameNumbers_c.fn := con_norm [.slc (.flt .f32), .slc (.flt .f32)] impl_sameNumbers_ok0

/-- loop.example/g01284/impl.SameVector -/
def impl_SameVector_tree (a0 : Vec) (a1 : Vec) : DT (Bool) :=
  let x0 := impl_Vector_numbers (⟨a0.X, a0.Y, a0.Z⟩ : Vec);
  let x1 := impl_Vector_numbers (⟨a1.X, a1.Y, a1.Z⟩ : Vec);
  .need ((impl_sameNumbers_need x0 x1)) (
  let x2 := impl_sameNumbers x0 x1;
  .leaf x2)
def impl_SameVector (a0 : Vec) (a1 : Vec) : Bool := (impl_SameVector_tree a0 a1).val
def impl_SameVector_need (a0 : Vec) (a1 : Vec) : Bool := (impl_SameVector_tree a0 a1).ok
def impl_SameVector_mk (p : Bool) : Ret := ⟨.bool p, []⟩
def impl_SameVector_c : Con := fun args => match args with
  | [.agg [.flt .f32 a0_0, .flt .f32 a0_1, .flt .f32 a0_2], .agg [.flt .f32 a1_0, .flt .f32 a1_1, .flt .f32 a1_2]] => some (.need (impl_SameVector_need (⟨a0_0, a0_1, a0_2⟩ : Vec) (⟨a1_0, a1_1, a1_2⟩ : Vec)) (.leaf (impl_SameVector_mk (impl_SameVector (⟨a0_0, a0_1, a0_2⟩ : Vec) (⟨a1_0, a1_1, a1_2⟩ : Vec)))))
  | _ => none
set_option maxRecDepth 100000 in
theorem impl_SameVector_ok : FunOK Tryz.prog 20 impl_SameVector_c.fn := by
  refine con_ok (Γ := gam [(28, impl_Vector_numbers_c), (30, impl_sameNumbers_c)]) (gam_cons impl_Vector_numbers_ok (gam_cons impl_sameNumbers_ok (gam_nil))) tab_ok (by kernel_rfl) Tryz.func20 (by kernel_rfl) (by kernel_rfl) Tryz.ntmps20 Tryz.results20 (loopsOK_none rfl _) 100000 fun args t h => ?_
  unfold impl_SameVector_c at h
  split at h
  · rename_i a0_0 a0_1 a0_2 a1_0 a1_1 a1_2
    cases h
    exact ⟨rfl, agree_need (mk := impl_SameVector_mk) (t := impl_SameVector_tree (⟨a0_0, a0_1, a0_2⟩ : Vec) (⟨a1_0, a1_1, a1_2⟩ : Vec)) (by unfold Agree; kernel_rfl)⟩
  · cases h

/-- loop.example/g01284/laws.FnVectors -/
def laws_FnVectors_tree (a0 : List Int) (a1 : List Int) : DT (Bool) :=
  let x0 := laws_b10Long a0 a1;
  .ask x0
  (
   .leaf true)
  (
   .need ((spec_B10Vector_need a0 50)) (
   let x1 := spec_B10Vector a0 50;
   .need ((spec_B10Vector_need a1 50)) (
   let x2 := spec_B10Vector a1 50;
   let x3 := impl_CrossOf (⟨x1.X, x1.Y, x1.Z⟩ : Vec) (⟨x2.X, x2.Y, x2.Z⟩ : Vec);
   let x4 := impl_CrossOf (⟨x2.X, x2.Y, x2.Z⟩ : Vec) (⟨x1.X, x1.Y, x1.Z⟩ : Vec);
   let x5 := impl_LessVectors (⟨x1.X, x1.Y, x1.Z⟩ : Vec) (⟨x2.X, x2.Y, x2.Z⟩ : Vec);
   let x6 := impl_AddVectors (⟨x2.X, x2.Y, x2.Z⟩ : Vec) (⟨x5.X, x5.Y, x5.Z⟩ : Vec);
   let x7 := impl_ScaleVector (⟨x1.X, x1.Y, x1.Z⟩ : Vec) 1073741824;
   let x8 := laws_b10VEqual (⟨x6.X, x6.Y, x6.Z⟩ : Vec) (⟨x1.X, x1.Y, x1.Z⟩ : Vec);
   .ask (!x8)
   (
    .leaf false)
   (
    let x9 := impl_InnerOf (⟨x3.X, x3.Y, x3.Z⟩ : Vec) (⟨x1.X, x1.Y, x1.Z⟩ : Vec);
    let x10 := fne .f32 x9 0;
    .ask x10
    (
     .leaf false)
    (
     let x11 := impl_InnerOf (⟨x3.X, x3.Y, x3.Z⟩ : Vec) (⟨x2.X, x2.Y, x2.Z⟩ : Vec);
     let x12 := fne .f32 x11 0;
     .ask x12
     (
      .leaf false)
     (
      let x13 := impl_ScaleVector (⟨x4.X, x4.Y, x4.Z⟩ : Vec) 3212836864;
      let x14 := laws_b10VEqual (⟨x3.X, x3.Y, x3.Z⟩ : Vec) (⟨x13.X, x13.Y, x13.Z⟩ : Vec);
      .ask (!x14)
      (
       .leaf false)
      (
       let x15 := impl_AddVectors (⟨x1.X, x1.Y, x1.Z⟩ : Vec) (⟨x1.X, x1.Y, x1.Z⟩ : Vec);
       let x16 := laws_b10VEqual (⟨x7.X, x7.Y, x7.Z⟩ : Vec) (⟨x15.X, x15.Y, x15.Z⟩ : Vec);
       .ask (!x16)
       (
        .leaf false)
       (
        let x17 := impl_InnerOf (⟨x1.X, x1.Y, x1.Z⟩ : Vec) (⟨x1.X, x1.Y, x1.Z⟩ : Vec);
        let x18 := laws_b10Square (⟨x1.X, x1.Y, x1.Z⟩ : Vec);
        let x19 := fne .f32 x17 x18;
        .ask x19
        (
         .leaf false)
        (
         .need ((impl_SizeOfVector_need (⟨x1.X, x1.Y, x1.Z⟩ : Vec))) (
         let x20 := impl_SizeOfVector (⟨x1.X, x1.Y, x1.Z⟩ : Vec);
         let x21 := laws_b10Square (⟨x1.X, x1.Y, x1.Z⟩ : Vec);
         .need ((spec_RootNumber_need x21)) (
         let x22 := spec_RootNumber x21;
         .need ((spec_SameNumber_need x20 x22)) (
         let x23 := spec_SameNumber x20 x22;
         .ask (!x23)
         (
          .leaf false)
         (
          let x24 := impl_BetweenVectors (⟨x1.X, x1.Y, x1.Z⟩ : Vec) (⟨x2.X, x2.Y, x2.Z⟩ : Vec) 0;
          let x25 := laws_b10VEqual (⟨x24.X, x24.Y, x24.Z⟩ : Vec) (⟨x1.X, x1.Y, x1.Z⟩ : Vec);
          .ask (!x25)
          (
           .leaf false)
          (
           let x26 := impl_BetweenVectors (⟨x1.X, x1.Y, x1.Z⟩ : Vec) (⟨x2.X, x2.Y, x2.Z⟩ : Vec) 1065353216;
           let x27 := laws_b10VEqual (⟨x26.X, x26.Y, x26.Z⟩ : Vec) (⟨x2.X, x2.Y, x2.Z⟩ : Vec);
           .ask (!x27)
           (
            .leaf false)
           (
            .need ((spec_B10AnyVector_need a0)) (
            let x28 := spec_B10AnyVector a0;
            .need ((impl_VectorText_need (⟨x28.X, x28.Y, x28.Z⟩ : Vec))) (
            let x29 := impl_VectorText (⟨x28.X, x28.Y, x28.Z⟩ : Vec);
            .need ((impl_ReadVector_need x29)) (
            let x30 := impl_ReadVector x29;
            .ask x30.2
            (
             .need ((impl_SameVector_need (⟨x30.1.X, x30.1.Y, x30.1.Z⟩ : Vec) (⟨x28.X, x28.Y, x28.Z⟩ : Vec))) (
             let x31 := impl_SameVector (⟨x30.1.X, x30.1.Y, x30.1.Z⟩ : Vec) (⟨x28.X, x28.Y, x28.Z⟩ : Vec);
             .ask x31
             (
              let x32 := ((List.length x29 : Nat) : Int);
              let x33 := (x32 == 26);
              .leaf x33)
             (
              .leaf false)))
            (
             .leaf false)))))))))))))))))))
def laws_FnVectors (a0 : List Int) (a1 : List Int) : Bool := (laws_FnVectors_tree a0 a1).val
def laws_FnVectors_need (a0 : List Int) (a1 : List Int) : Bool := (laws_FnVectors_tree a0 a1).ok
def laws_FnVectors_mk (p : Bool) : Ret := ⟨.bool p, []⟩
def laws_FnVectors_c0 : Con := fun args => match args with
  | [.vslc 1 (.int .u8) a0, .vslc 2 (.int .u8) a1] => some (.need (laws_FnVectors_need a0 a1) (.leaf (laws_FnVectors_mk (laws_FnVectors a0 a1))))
  | _ => none
set_option maxRecDepth 100000 in
theorem laws_FnVectors_ok0 : FunOK Tryz.prog 3 laws_FnVectors_c0.fn := by
  refine con_ok (Γ := gam [(4, laws_b10Long_c), (5, spec_B10Vector_c), (6, impl_CrossOf_c), (8, impl_LessVectors_c), (7, impl_AddVectors_c), (9, impl_ScaleVector_c), (10, laws_b10VEqual_c), (11, impl_InnerOf_c), (12, laws_b10Square_c), (14, impl_SizeOfVector_c), (15, spec_RootNumber_c), (13, spec_SameNumber_c), (16, impl_BetweenVectors_c), (17, spec_B10AnyVector_c), (18, impl_VectorText_c), (19, impl_ReadVector_c), (20, impl_SameVector_c)]) (gam_cons laws_b10Long_ok (gam_cons spec_B10Vector_ok (gam_cons impl_CrossOf_ok (gam_cons impl_LessVectors_ok (gam_cons impl_AddVectors_ok (gam_cons impl_ScaleVector_ok (gam_cons laws_b10VEqual_ok (gam_cons impl_InnerOf_ok (gam_cons laws_b10Square_ok (gam_cons impl_SizeOfVector_ok (gam_cons spec_RootNumber_ok (gam_cons spec_SameNumber_ok (gam_cons impl_BetweenVectors_ok (gam_cons spec_B10AnyVector_ok (gam_cons impl_VectorText_ok (gam_cons impl_ReadVector_ok (gam_cons impl_SameVector_ok (gam_nil)))))))))))))))))) tab_ok (by kernel_rfl) Tryz.func3 (by kernel_rfl) (by kernel_rfl) Tryz.ntmps3 Tryz.results3 (loopsOK_none rfl _) 100000 fun args t h => ?_
  unfold laws_FnVectors_c0 at h
  split at h
  · rename_i a0 a1
    cases h
    exact ⟨rfl, agree_need (mk := laws_FnVectors_mk) (t := laws_FnVectors_tree a0 a1) (by unfold Agree; kernel_rfl)⟩
  · cases h
def laws_FnVectors_c : Con := fun args => laws_FnVectors_c0 (norms 0 [.slc (.int .u8), .slc (.int .u8)] args)
set_option maxRecDepth 100000 in
theorem laws_FnVectors_ok : FunOK Tryz.prog 3 laws_FnVectors_c.fn := con_norm [.slc (.int .u8), .slc (.int .u8)] laws_FnVectors_ok0

end
end Go.Proofs.YtacelaaifaffpaaGreatDoor
