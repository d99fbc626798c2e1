/- THE TYPES, BY A PROGRAM: what the evaluator takes from the table of types, and that it stands there. -/
import Derived.Test.YtacelaaifaffpaaDoorEngQc
import Derived.Test.YtacelaaifaffpaaDoorProg
namespace Go.Proofs.YtacelaaifaffpaaDoor
/-- A string's bytes, as integers. -/
def u8i (l : List UInt8) : List Int := u8s l
theorem z_int {k : IntKind} : ZSim (.int k 0) (.int k 0) := fun c => by simp only [VSim]
theorem z_f32 : ZSim (.flt .f32 0) (.float .f32 0) := fun c => by simp only [VSim]; exact ⟨0, rfl, by decide +kernel⟩
theorem z_f64 : ZSim (.flt .f64 0) (.float .f64 0) := fun c => by simp only [VSim]; exact ⟨0, rfl, by decide +kernel⟩
theorem z_c32 : ZSim (.cplx .f32 0 0) (.complex .f32 0 0) := fun c => by simp only [VSim]; exact ⟨0, 0, rfl, by decide +kernel, by decide +kernel⟩
theorem z_c64 : ZSim (.cplx .f64 0 0) (.complex .f64 0 0) := fun c => by simp only [VSim]; exact ⟨0, 0, rfl, by decide +kernel, by decide +kernel⟩
theorem z_bool : ZSim (.bool false) (.bool false) := fun c => by simp only [VSim]
theorem z_str {s : ByteArray} (h : s.data.toList = []) : ZSim (.str []) (.string s) := fun c => by simp only [VSim]; exact ⟨s, rfl, h⟩
theorem z_nilp : ZSim .nilp (.pointer none) := fun c => by simp only [VSim]
theorem z_nils : ZSim .nils (.slice none 0 0) := fun c => by simp only [VSim]
theorem z_nilf : ZSim .nilf .nilFunc := fun c => by simp only [VSim]
theorem z_nili : ZSim .nili .nilIface := fun c => by simp only [VSim]
theorem ti1 : TIOK Tryd.prog 1 ⟨.other, 1, 8, [.nilf], none⟩ := ⟨⟨_, Tryd.underlying1, (fun f h => by cases h), (fun n e h => by cases h)⟩, Tryd.t1, _, by kernel_rfl, rfl, rfl, rfl, ⟨z_nilf, trivial⟩⟩
theorem ti2 : TIOK Tryd.prog 2 ⟨.int .i64, 1, 8, [.int .i64 0], some (.int .i64)⟩ := ⟨Tryd.underlying2, Tryd.t2, _, by kernel_rfl, rfl, rfl, rfl, ⟨z_int, trivial⟩⟩
theorem ti3 : TIOK Tryd.prog 3 ⟨.int .i64, 1, 8, [.int .i64 0], some (.int .i64)⟩ := ⟨Tryd.underlying3, Tryd.t3, _, by kernel_rfl, rfl, rfl, rfl, ⟨z_int, trivial⟩⟩
theorem ti4 : TIOK Tryd.prog 4 ⟨.bool, 1, 1, [.bool false], some .bool⟩ := ⟨Tryd.underlying4, Tryd.t4, _, by kernel_rfl, rfl, rfl, rfl, ⟨z_bool, trivial⟩⟩
theorem ti5 : TIOK Tryd.prog 5 ⟨.int .u8, 1, 1, [.int .u8 0], some (.int .u8)⟩ := ⟨Tryd.underlying5, Tryd.t5, _, by kernel_rfl, rfl, rfl, rfl, ⟨z_int, trivial⟩⟩
theorem ti6 : TIOK Tryd.prog 6 ⟨.int .u8, 1, 1, [.int .u8 0], some (.int .u8)⟩ := ⟨Tryd.underlying6, Tryd.t6, _, by kernel_rfl, rfl, rfl, rfl, ⟨z_int, trivial⟩⟩
theorem ti7 : TIOK Tryd.prog 7 ⟨.struct [(0, 2), (1, 3), (2, 4), (3, 6)], 4, 24, [.int .i64 0, .int .i64 0, .bool false, .int .u8 0], none⟩ := ⟨⟨_, Tryd.underlying7, rfl⟩, Tryd.t7, _, by kernel_rfl, rfl, rfl, rfl, ⟨z_int, z_int, z_bool, z_int, trivial⟩⟩
theorem ti8 : TIOK Tryd.prog 8 ⟨.struct [(0, 2), (1, 3), (2, 4), (3, 6)], 4, 24, [.int .i64 0, .int .i64 0, .bool false, .int .u8 0], none⟩ := ⟨⟨_, Tryd.underlying8, rfl⟩, Tryd.t8, _, by kernel_rfl, rfl, rfl, rfl, ⟨z_int, z_int, z_bool, z_int, trivial⟩⟩
theorem ti9 : TIOK Tryd.prog 9 ⟨.str, 1, 16, [.str []], some .str⟩ := ⟨Tryd.underlying9, Tryd.t9, _, by kernel_rfl, rfl, rfl, rfl, ⟨z_str rfl, trivial⟩⟩
theorem ti10 : TIOK Tryd.prog 10 ⟨.str, 1, 16, [.str []], some .str⟩ := ⟨Tryd.underlying10, Tryd.t10, _, by kernel_rfl, rfl, rfl, rfl, ⟨z_str rfl, trivial⟩⟩
theorem ti11 : TIOK Tryd.prog 11 ⟨.str, 1, 16, [.str []], some .str⟩ := ⟨Tryd.underlying11, Tryd.t11, _, by kernel_rfl, rfl, rfl, rfl, ⟨z_str rfl, trivial⟩⟩
theorem ti12 : TIOK Tryd.prog 12 ⟨.int .u64, 1, 8, [.int .u64 0], some (.int .u64)⟩ := ⟨Tryd.underlying12, Tryd.t12, _, by kernel_rfl, rfl, rfl, rfl, ⟨z_int, trivial⟩⟩
theorem ti13 : TIOK Tryd.prog 13 ⟨.struct [(0, 9), (1, 12)], 2, 24, [.str [], .int .u64 0], none⟩ := ⟨⟨_, Tryd.underlying13, rfl⟩, Tryd.t13, _, by kernel_rfl, rfl, rfl, rfl, ⟨z_str rfl, z_int, trivial⟩⟩
theorem ti14 : TIOK Tryd.prog 14 ⟨.struct [(0, 9), (1, 12)], 2, 24, [.str [], .int .u64 0], none⟩ := ⟨⟨_, Tryd.underlying14, rfl⟩, Tryd.t14, _, by kernel_rfl, rfl, rfl, rfl, ⟨z_str rfl, z_int, trivial⟩⟩
theorem ti15 : TIOK Tryd.prog 15 ⟨.ptr 130, 1, 8, [.nilp], none⟩ := ⟨Tryd.underlying15, Tryd.t15, _, by kernel_rfl, rfl, rfl, rfl, ⟨z_nilp, trivial⟩⟩
theorem ti16 : TIOK Tryd.prog 16 ⟨.ptr 133, 1, 8, [.nilp], none⟩ := ⟨Tryd.underlying16, Tryd.t16, _, by kernel_rfl, rfl, rfl, rfl, ⟨z_nilp, trivial⟩⟩
theorem ti17 : TIOK Tryd.prog 17 ⟨.ptr 140, 1, 8, [.nilp], none⟩ := ⟨Tryd.underlying17, Tryd.t17, _, by kernel_rfl, rfl, rfl, rfl, ⟨z_nilp, trivial⟩⟩
theorem ti18 : TIOK Tryd.prog 18 ⟨.struct [(0, 17)], 1, 8, [.nilp], none⟩ := ⟨⟨_, Tryd.underlying18, rfl⟩, Tryd.t18, _, by kernel_rfl, rfl, rfl, rfl, ⟨z_nilp, trivial⟩⟩
theorem ti19 : TIOK Tryd.prog 19 ⟨.struct [(0, 17)], 1, 8, [.nilp], none⟩ := ⟨⟨_, Tryd.underlying19, rfl⟩, Tryd.t19, _, by kernel_rfl, rfl, rfl, rfl, ⟨z_nilp, trivial⟩⟩
theorem ti20 : TIOK Tryd.prog 20 ⟨.other, 1, 16, [.nili], none⟩ := ⟨⟨_, Tryd.underlying20, (fun f h => by cases h), (fun n e h => by cases h)⟩, Tryd.t20, _, by kernel_rfl, rfl, rfl, rfl, ⟨z_nili, trivial⟩⟩
theorem ti21 : TIOK Tryd.prog 21 ⟨.int .i32, 1, 4, [.int .i32 0], some (.int .i32)⟩ := ⟨Tryd.underlying21, Tryd.t21, _, by kernel_rfl, rfl, rfl, rfl, ⟨z_int, trivial⟩⟩
theorem ti22 : TIOK Tryd.prog 22 ⟨.cplx .f32, 1, 8, [.cplx .f32 0 0], some (.cplx .f32)⟩ := ⟨Tryd.underlying22, Tryd.t22, _, by kernel_rfl, rfl, rfl, rfl, ⟨z_c32, trivial⟩⟩
theorem ti23 : TIOK Tryd.prog 23 ⟨.struct [(0, 22), (1, 22)], 2, 16, [.cplx .f32 0 0, .cplx .f32 0 0], none⟩ := ⟨⟨_, Tryd.underlying23, rfl⟩, Tryd.t23, _, by kernel_rfl, rfl, rfl, rfl, ⟨z_c32, z_c32, trivial⟩⟩
theorem ti24 : TIOK Tryd.prog 24 ⟨.struct [(0, 22), (1, 22)], 2, 16, [.cplx .f32 0 0, .cplx .f32 0 0], none⟩ := ⟨⟨_, Tryd.underlying24, rfl⟩, Tryd.t24, _, by kernel_rfl, rfl, rfl, rfl, ⟨z_c32, z_c32, trivial⟩⟩
theorem ti26 : TIOK Tryd.prog 26 ⟨.other, 1, 8, [.nilf], none⟩ := ⟨⟨_, Tryd.underlying26, (fun f h => by cases h), (fun n e h => by cases h)⟩, Tryd.t26, _, by kernel_rfl, rfl, rfl, rfl, ⟨z_nilf, trivial⟩⟩
theorem ti27 : TIOK Tryd.prog 27 ⟨.other, 1, 8, [.nilf], none⟩ := ⟨⟨_, Tryd.underlying27, (fun f h => by cases h), (fun n e h => by cases h)⟩, Tryd.t27, _, by kernel_rfl, rfl, rfl, rfl, ⟨z_nilf, trivial⟩⟩
theorem ti28 : TIOK Tryd.prog 28 ⟨.other, 1, 8, [.nilf], none⟩ := ⟨⟨_, Tryd.underlying28, (fun f h => by cases h), (fun n e h => by cases h)⟩, Tryd.t28, _, by kernel_rfl, rfl, rfl, rfl, ⟨z_nilf, trivial⟩⟩
theorem ti29 : TIOK Tryd.prog 29 ⟨.slc 22, 1, 24, [.nils], none⟩ := ⟨Tryd.underlying29, Tryd.t29, _, by kernel_rfl, rfl, rfl, rfl, ⟨z_nils, trivial⟩⟩
theorem ti31 : TIOK Tryd.prog 31 ⟨.other, 1, 8, [.nilf], none⟩ := ⟨⟨_, Tryd.underlying31, (fun f h => by cases h), (fun n e h => by cases h)⟩, Tryd.t31, _, by kernel_rfl, rfl, rfl, rfl, ⟨z_nilf, trivial⟩⟩
theorem ti32 : TIOK Tryd.prog 32 ⟨.other, 1, 8, [.nilf], none⟩ := ⟨⟨_, Tryd.underlying32, (fun f h => by cases h), (fun n e h => by cases h)⟩, Tryd.t32, _, by kernel_rfl, rfl, rfl, rfl, ⟨z_nilf, trivial⟩⟩
theorem ti33 : TIOK Tryd.prog 33 ⟨.other, 1, 8, [.nilf], none⟩ := ⟨⟨_, Tryd.underlying33, (fun f h => by cases h), (fun n e h => by cases h)⟩, Tryd.t33, _, by kernel_rfl, rfl, rfl, rfl, ⟨z_nilf, trivial⟩⟩
theorem ti34 : TIOK Tryd.prog 34 ⟨.cplx .f64, 1, 16, [.cplx .f64 0 0], some (.cplx .f64)⟩ := ⟨Tryd.underlying34, Tryd.t34, _, by kernel_rfl, rfl, rfl, rfl, ⟨z_c64, trivial⟩⟩
theorem ti35 : TIOK Tryd.prog 35 ⟨.slc 9, 1, 24, [.nils], none⟩ := ⟨Tryd.underlying35, Tryd.t35, _, by kernel_rfl, rfl, rfl, rfl, ⟨z_nils, trivial⟩⟩
theorem ti37 : TIOK Tryd.prog 37 ⟨.other, 1, 8, [.nilf], none⟩ := ⟨⟨_, Tryd.underlying37, (fun f h => by cases h), (fun n e h => by cases h)⟩, Tryd.t37, _, by kernel_rfl, rfl, rfl, rfl, ⟨z_nilf, trivial⟩⟩
theorem ti38 : TIOK Tryd.prog 38 ⟨.flt .f32, 1, 4, [.flt .f32 0], some (.flt .f32)⟩ := ⟨Tryd.underlying38, Tryd.t38, _, by kernel_rfl, rfl, rfl, rfl, ⟨z_f32, trivial⟩⟩
theorem ti40 : TIOK Tryd.prog 40 ⟨.other, 1, 8, [.nilf], none⟩ := ⟨⟨_, Tryd.underlying40, (fun f h => by cases h), (fun n e h => by cases h)⟩, Tryd.t40, _, by kernel_rfl, rfl, rfl, rfl, ⟨z_nilf, trivial⟩⟩
theorem ti41 : TIOK Tryd.prog 41 ⟨.other, 1, 8, [.nilf], none⟩ := ⟨⟨_, Tryd.underlying41, (fun f h => by cases h), (fun n e h => by cases h)⟩, Tryd.t41, _, by kernel_rfl, rfl, rfl, rfl, ⟨z_nilf, trivial⟩⟩
theorem ti42 : TIOK Tryd.prog 42 ⟨.other, 1, 8, [.nilf], none⟩ := ⟨⟨_, Tryd.underlying42, (fun f h => by cases h), (fun n e h => by cases h)⟩, Tryd.t42, _, by kernel_rfl, rfl, rfl, rfl, ⟨z_nilf, trivial⟩⟩
theorem ti43 : TIOK Tryd.prog 43 ⟨.flt .f64, 1, 8, [.flt .f64 0], some (.flt .f64)⟩ := ⟨Tryd.underlying43, Tryd.t43, _, by kernel_rfl, rfl, rfl, rfl, ⟨z_f64, trivial⟩⟩
theorem ti44 : TIOK Tryd.prog 44 ⟨.other, 1, 8, [.nilf], none⟩ := ⟨⟨_, Tryd.underlying44, (fun f h => by cases h), (fun n e h => by cases h)⟩, Tryd.t44, _, by kernel_rfl, rfl, rfl, rfl, ⟨z_nilf, trivial⟩⟩
theorem ti45 : TIOK Tryd.prog 45 ⟨.other, 1, 8, [.nilf], none⟩ := ⟨⟨_, Tryd.underlying45, (fun f h => by cases h), (fun n e h => by cases h)⟩, Tryd.t45, _, by kernel_rfl, rfl, rfl, rfl, ⟨z_nilf, trivial⟩⟩
theorem ti46 : TIOK Tryd.prog 46 ⟨.ptr 24, 1, 8, [.nilp], none⟩ := ⟨Tryd.underlying46, Tryd.t46, _, by kernel_rfl, rfl, rfl, rfl, ⟨z_nilp, trivial⟩⟩
theorem ti47 : TIOK Tryd.prog 47 ⟨.other, 1, 8, [.nilf], none⟩ := ⟨⟨_, Tryd.underlying47, (fun f h => by cases h), (fun n e h => by cases h)⟩, Tryd.t47, _, by kernel_rfl, rfl, rfl, rfl, ⟨z_nilf, trivial⟩⟩
theorem ti48 : TIOK Tryd.prog 48 ⟨.int .u64, 1, 8, [.int .u64 0], some (.int .u64)⟩ := ⟨Tryd.underlying48, Tryd.t48, _, by kernel_rfl, rfl, rfl, rfl, ⟨z_int, trivial⟩⟩
theorem ti49 : TIOK Tryd.prog 49 ⟨.other, 1, 16, [.nili], none⟩ := ⟨⟨_, Tryd.underlying49, (fun f h => by cases h), (fun n e h => by cases h)⟩, Tryd.t49, _, by kernel_rfl, rfl, rfl, rfl, ⟨z_nili, trivial⟩⟩
theorem ti50 : TIOK Tryd.prog 50 ⟨.other, 1, 16, [.nili], none⟩ := ⟨⟨_, Tryd.underlying50, (fun f h => by cases h), (fun n e h => by cases h)⟩, Tryd.t50, _, by kernel_rfl, rfl, rfl, rfl, ⟨z_nili, trivial⟩⟩
theorem ti52 : TIOK Tryd.prog 52 ⟨.other, 1, 8, [.nilf], none⟩ := ⟨⟨_, Tryd.underlying52, (fun f h => by cases h), (fun n e h => by cases h)⟩, Tryd.t52, _, by kernel_rfl, rfl, rfl, rfl, ⟨z_nilf, trivial⟩⟩
theorem ti53 : TIOK Tryd.prog 53 ⟨.other, 1, 8, [.nilf], none⟩ := ⟨⟨_, Tryd.underlying53, (fun f h => by cases h), (fun n e h => by cases h)⟩, Tryd.t53, _, by kernel_rfl, rfl, rfl, rfl, ⟨z_nilf, trivial⟩⟩
theorem ti54 : TIOK Tryd.prog 54 ⟨.int .u32, 1, 4, [.int .u32 0], some (.int .u32)⟩ := ⟨Tryd.underlying54, Tryd.t54, _, by kernel_rfl, rfl, rfl, rfl, ⟨z_int, trivial⟩⟩
theorem ti55 : TIOK Tryd.prog 55 ⟨.other, 1, 8, [.nilf], none⟩ := ⟨⟨_, Tryd.underlying55, (fun f h => by cases h), (fun n e h => by cases h)⟩, Tryd.t55, _, by kernel_rfl, rfl, rfl, rfl, ⟨z_nilf, trivial⟩⟩
theorem ti56 : TIOK Tryd.prog 56 ⟨.other, 1, 8, [.nilf], none⟩ := ⟨⟨_, Tryd.underlying56, (fun f h => by cases h), (fun n e h => by cases h)⟩, Tryd.t56, _, by kernel_rfl, rfl, rfl, rfl, ⟨z_nilf, trivial⟩⟩
theorem ti57 : TIOK Tryd.prog 57 ⟨.other, 1, 8, [.nilf], none⟩ := ⟨⟨_, Tryd.underlying57, (fun f h => by cases h), (fun n e h => by cases h)⟩, Tryd.t57, _, by kernel_rfl, rfl, rfl, rfl, ⟨z_nilf, trivial⟩⟩
theorem ti58 : TIOK Tryd.prog 58 ⟨.other, 1, 8, [.nilf], none⟩ := ⟨⟨_, Tryd.underlying58, (fun f h => by cases h), (fun n e h => by cases h)⟩, Tryd.t58, _, by kernel_rfl, rfl, rfl, rfl, ⟨z_nilf, trivial⟩⟩
theorem ti59 : TIOK Tryd.prog 59 ⟨.other, 1, 8, [.nilf], none⟩ := ⟨⟨_, Tryd.underlying59, (fun f h => by cases h), (fun n e h => by cases h)⟩, Tryd.t59, _, by kernel_rfl, rfl, rfl, rfl, ⟨z_nilf, trivial⟩⟩
theorem ti60 : TIOK Tryd.prog 60 ⟨.other, 1, 8, [.nilf], none⟩ := ⟨⟨_, Tryd.underlying60, (fun f h => by cases h), (fun n e h => by cases h)⟩, Tryd.t60, _, by kernel_rfl, rfl, rfl, rfl, ⟨z_nilf, trivial⟩⟩
theorem ti61 : TIOK Tryd.prog 61 ⟨.other, 1, 8, [.nilf], none⟩ := ⟨⟨_, Tryd.underlying61, (fun f h => by cases h), (fun n e h => by cases h)⟩, Tryd.t61, _, by kernel_rfl, rfl, rfl, rfl, ⟨z_nilf, trivial⟩⟩
theorem ti62 : TIOK Tryd.prog 62 ⟨.other, 1, 8, [.nilf], none⟩ := ⟨⟨_, Tryd.underlying62, (fun f h => by cases h), (fun n e h => by cases h)⟩, Tryd.t62, _, by kernel_rfl, rfl, rfl, rfl, ⟨z_nilf, trivial⟩⟩
theorem ti63 : TIOK Tryd.prog 63 ⟨.other, 1, 8, [.nilf], none⟩ := ⟨⟨_, Tryd.underlying63, (fun f h => by cases h), (fun n e h => by cases h)⟩, Tryd.t63, _, by kernel_rfl, rfl, rfl, rfl, ⟨z_nilf, trivial⟩⟩
theorem ti64 : TIOK Tryd.prog 64 ⟨.other, 1, 8, [.nilf], none⟩ := ⟨⟨_, Tryd.underlying64, (fun f h => by cases h), (fun n e h => by cases h)⟩, Tryd.t64, _, by kernel_rfl, rfl, rfl, rfl, ⟨z_nilf, trivial⟩⟩
theorem ti65 : TIOK Tryd.prog 65 ⟨.other, 1, 8, [.nilf], none⟩ := ⟨⟨_, Tryd.underlying65, (fun f h => by cases h), (fun n e h => by cases h)⟩, Tryd.t65, _, by kernel_rfl, rfl, rfl, rfl, ⟨z_nilf, trivial⟩⟩
theorem ti66 : TIOK Tryd.prog 66 ⟨.other, 1, 8, [.nilf], none⟩ := ⟨⟨_, Tryd.underlying66, (fun f h => by cases h), (fun n e h => by cases h)⟩, Tryd.t66, _, by kernel_rfl, rfl, rfl, rfl, ⟨z_nilf, trivial⟩⟩
theorem ti67 : TIOK Tryd.prog 67 ⟨.int .i64, 1, 8, [.int .i64 0], some (.int .i64)⟩ := ⟨Tryd.underlying67, Tryd.t67, _, by kernel_rfl, rfl, rfl, rfl, ⟨z_int, trivial⟩⟩
theorem ti68 : TIOK Tryd.prog 68 ⟨.other, 1, 8, [.nilf], none⟩ := ⟨⟨_, Tryd.underlying68, (fun f h => by cases h), (fun n e h => by cases h)⟩, Tryd.t68, _, by kernel_rfl, rfl, rfl, rfl, ⟨z_nilf, trivial⟩⟩
theorem ti69 : TIOK Tryd.prog 69 ⟨.int .u64, 1, 8, [.int .u64 0], some (.int .u64)⟩ := ⟨Tryd.underlying69, Tryd.t69, _, by kernel_rfl, rfl, rfl, rfl, ⟨z_int, trivial⟩⟩
theorem ti70 : TIOK Tryd.prog 70 ⟨.slc 5, 1, 24, [.nils], none⟩ := ⟨Tryd.underlying70, Tryd.t70, _, by kernel_rfl, rfl, rfl, rfl, ⟨z_nils, trivial⟩⟩
theorem ti71 : TIOK Tryd.prog 71 ⟨.ptr 92, 1, 8, [.nilp], none⟩ := ⟨Tryd.underlying71, Tryd.t71, _, by kernel_rfl, rfl, rfl, rfl, ⟨z_nilp, trivial⟩⟩
theorem ti72 : TIOK Tryd.prog 72 ⟨.other, 1, 8, [.nilf], none⟩ := ⟨⟨_, Tryd.underlying72, (fun f h => by cases h), (fun n e h => by cases h)⟩, Tryd.t72, _, by kernel_rfl, rfl, rfl, rfl, ⟨z_nilf, trivial⟩⟩
theorem ti73 : TIOK Tryd.prog 73 ⟨.other, 1, 8, [.nilf], none⟩ := ⟨⟨_, Tryd.underlying73, (fun f h => by cases h), (fun n e h => by cases h)⟩, Tryd.t73, _, by kernel_rfl, rfl, rfl, rfl, ⟨z_nilf, trivial⟩⟩
theorem ti75 : TIOK Tryd.prog 75 ⟨.other, 1, 8, [.nilf], none⟩ := ⟨⟨_, Tryd.underlying75, (fun f h => by cases h), (fun n e h => by cases h)⟩, Tryd.t75, _, by kernel_rfl, rfl, rfl, rfl, ⟨z_nilf, trivial⟩⟩
theorem ti76 : TIOK Tryd.prog 76 ⟨.other, 1, 8, [.nilf], none⟩ := ⟨⟨_, Tryd.underlying76, (fun f h => by cases h), (fun n e h => by cases h)⟩, Tryd.t76, _, by kernel_rfl, rfl, rfl, rfl, ⟨z_nilf, trivial⟩⟩
theorem ti77 : TIOK Tryd.prog 77 ⟨.ptr 79, 1, 8, [.nilp], none⟩ := ⟨Tryd.underlying77, Tryd.t77, _, by kernel_rfl, rfl, rfl, rfl, ⟨z_nilp, trivial⟩⟩
theorem ti78 : TIOK Tryd.prog 78 ⟨.struct [(0, 77), (1, 70)], 2, 32, [.nilp, .nils], none⟩ := ⟨⟨_, Tryd.underlying78, rfl⟩, Tryd.t78, _, by kernel_rfl, rfl, rfl, rfl, ⟨z_nilp, z_nils, trivial⟩⟩
theorem ti79 : TIOK Tryd.prog 79 ⟨.struct [(0, 77), (1, 70)], 2, 32, [.nilp, .nils], none⟩ := ⟨⟨_, Tryd.underlying79, rfl⟩, Tryd.t79, _, by kernel_rfl, rfl, rfl, rfl, ⟨z_nilp, z_nils, trivial⟩⟩
theorem ti80 : TIOK Tryd.prog 80 ⟨.other, 1, 8, [.nilf], none⟩ := ⟨⟨_, Tryd.underlying80, (fun f h => by cases h), (fun n e h => by cases h)⟩, Tryd.t80, _, by kernel_rfl, rfl, rfl, rfl, ⟨z_nilf, trivial⟩⟩
theorem ti82 : TIOK Tryd.prog 82 ⟨.other, 1, 8, [.nilf], none⟩ := ⟨⟨_, Tryd.underlying82, (fun f h => by cases h), (fun n e h => by cases h)⟩, Tryd.t82, _, by kernel_rfl, rfl, rfl, rfl, ⟨z_nilf, trivial⟩⟩
theorem ti83 : TIOK Tryd.prog 83 ⟨.other, 1, 8, [.nilf], none⟩ := ⟨⟨_, Tryd.underlying83, (fun f h => by cases h), (fun n e h => by cases h)⟩, Tryd.t83, _, by kernel_rfl, rfl, rfl, rfl, ⟨z_nilf, trivial⟩⟩
theorem ti84 : TIOK Tryd.prog 84 ⟨.other, 1, 8, [.nilf], none⟩ := ⟨⟨_, Tryd.underlying84, (fun f h => by cases h), (fun n e h => by cases h)⟩, Tryd.t84, _, by kernel_rfl, rfl, rfl, rfl, ⟨z_nilf, trivial⟩⟩
theorem ti85 : TIOK Tryd.prog 85 ⟨.other, 1, 8, [.nilf], none⟩ := ⟨⟨_, Tryd.underlying85, (fun f h => by cases h), (fun n e h => by cases h)⟩, Tryd.t85, _, by kernel_rfl, rfl, rfl, rfl, ⟨z_nilf, trivial⟩⟩
theorem ti86 : TIOK Tryd.prog 86 ⟨.other, 1, 8, [.nilf], none⟩ := ⟨⟨_, Tryd.underlying86, (fun f h => by cases h), (fun n e h => by cases h)⟩, Tryd.t86, _, by kernel_rfl, rfl, rfl, rfl, ⟨z_nilf, trivial⟩⟩
theorem ti88 : TIOK Tryd.prog 88 ⟨.other, 1, 8, [.nilf], none⟩ := ⟨⟨_, Tryd.underlying88, (fun f h => by cases h), (fun n e h => by cases h)⟩, Tryd.t88, _, by kernel_rfl, rfl, rfl, rfl, ⟨z_nilf, trivial⟩⟩
theorem ti89 : TIOK Tryd.prog 89 ⟨.other, 1, 8, [.nilf], none⟩ := ⟨⟨_, Tryd.underlying89, (fun f h => by cases h), (fun n e h => by cases h)⟩, Tryd.t89, _, by kernel_rfl, rfl, rfl, rfl, ⟨z_nilf, trivial⟩⟩
theorem ti90 : TIOK Tryd.prog 90 ⟨.other, 1, 8, [.nilf], none⟩ := ⟨⟨_, Tryd.underlying90, (fun f h => by cases h), (fun n e h => by cases h)⟩, Tryd.t90, _, by kernel_rfl, rfl, rfl, rfl, ⟨z_nilf, trivial⟩⟩
theorem ti91 : TIOK Tryd.prog 91 ⟨.struct [(0, 9), (1, 9), (2, 50)], 3, 48, [.str [], .str [], .nili], none⟩ := ⟨⟨_, Tryd.underlying91, rfl⟩, Tryd.t91, _, by kernel_rfl, rfl, rfl, rfl, ⟨z_str rfl, z_str rfl, z_nili, trivial⟩⟩
theorem ti92 : TIOK Tryd.prog 92 ⟨.struct [(0, 9), (1, 9), (2, 50)], 3, 48, [.str [], .str [], .nili], none⟩ := ⟨⟨_, Tryd.underlying92, rfl⟩, Tryd.t92, _, by kernel_rfl, rfl, rfl, rfl, ⟨z_str rfl, z_str rfl, z_nili, trivial⟩⟩
theorem ti93 : TIOK Tryd.prog 93 ⟨.other, 1, 8, [.nilf], none⟩ := ⟨⟨_, Tryd.underlying93, (fun f h => by cases h), (fun n e h => by cases h)⟩, Tryd.t93, _, by kernel_rfl, rfl, rfl, rfl, ⟨z_nilf, trivial⟩⟩
theorem ti94 : TIOK Tryd.prog 94 ⟨.other, 1, 8, [.nilf], none⟩ := ⟨⟨_, Tryd.underlying94, (fun f h => by cases h), (fun n e h => by cases h)⟩, Tryd.t94, _, by kernel_rfl, rfl, rfl, rfl, ⟨z_nilf, trivial⟩⟩
theorem ti95 : TIOK Tryd.prog 95 ⟨.arr 24 5, 24, 24, [.int .u8 0, .int .u8 0, .int .u8 0, .int .u8 0, .int .u8 0, .int .u8 0, .int .u8 0, .int .u8 0, .int .u8 0, .int .u8 0, .int .u8 0, .int .u8 0, .int .u8 0, .int .u8 0, .int .u8 0, .int .u8 0, .int .u8 0, .int .u8 0, .int .u8 0, .int .u8 0, .int .u8 0, .int .u8 0, .int .u8 0, .int .u8 0], none⟩ := ⟨Tryd.underlying95, Tryd.t95, _, by kernel_rfl, rfl, rfl, rfl, ⟨z_int, z_int, z_int, z_int, z_int, z_int, z_int, z_int, z_int, z_int, z_int, z_int, z_int, z_int, z_int, z_int, z_int, z_int, z_int, z_int, z_int, z_int, z_int, z_int, trivial⟩⟩
theorem ti96 : TIOK Tryd.prog 96 ⟨.other, 1, 8, [.nilf], none⟩ := ⟨⟨_, Tryd.underlying96, (fun f h => by cases h), (fun n e h => by cases h)⟩, Tryd.t96, _, by kernel_rfl, rfl, rfl, rfl, ⟨z_nilf, trivial⟩⟩
theorem ti97 : TIOK Tryd.prog 97 ⟨.other, 1, 8, [.nilf], none⟩ := ⟨⟨_, Tryd.underlying97, (fun f h => by cases h), (fun n e h => by cases h)⟩, Tryd.t97, _, by kernel_rfl, rfl, rfl, rfl, ⟨z_nilf, trivial⟩⟩
theorem ti99 : TIOK Tryd.prog 99 ⟨.other, 1, 8, [.nilf], none⟩ := ⟨⟨_, Tryd.underlying99, (fun f h => by cases h), (fun n e h => by cases h)⟩, Tryd.t99, _, by kernel_rfl, rfl, rfl, rfl, ⟨z_nilf, trivial⟩⟩
theorem ti101 : TIOK Tryd.prog 101 ⟨.other, 1, 8, [.nilf], none⟩ := ⟨⟨_, Tryd.underlying101, (fun f h => by cases h), (fun n e h => by cases h)⟩, Tryd.t101, _, by kernel_rfl, rfl, rfl, rfl, ⟨z_nilf, trivial⟩⟩
theorem ti103 : TIOK Tryd.prog 103 ⟨.other, 1, 8, [.nilf], none⟩ := ⟨⟨_, Tryd.underlying103, (fun f h => by cases h), (fun n e h => by cases h)⟩, Tryd.t103, _, by kernel_rfl, rfl, rfl, rfl, ⟨z_nilf, trivial⟩⟩
theorem ti104 : TIOK Tryd.prog 104 ⟨.ptr 5, 1, 8, [.nilp], none⟩ := ⟨Tryd.underlying104, Tryd.t104, _, by kernel_rfl, rfl, rfl, rfl, ⟨z_nilp, trivial⟩⟩
theorem ti105 : TIOK Tryd.prog 105 ⟨.other, 1, 8, [.nilf], none⟩ := ⟨⟨_, Tryd.underlying105, (fun f h => by cases h), (fun n e h => by cases h)⟩, Tryd.t105, _, by kernel_rfl, rfl, rfl, rfl, ⟨z_nilf, trivial⟩⟩
theorem ti106 : TIOK Tryd.prog 106 ⟨.other, 1, 8, [.nilf], none⟩ := ⟨⟨_, Tryd.underlying106, (fun f h => by cases h), (fun n e h => by cases h)⟩, Tryd.t106, _, by kernel_rfl, rfl, rfl, rfl, ⟨z_nilf, trivial⟩⟩
theorem ti107 : TIOK Tryd.prog 107 ⟨.ptr 109, 1, 8, [.nilp], none⟩ := ⟨Tryd.underlying107, Tryd.t107, _, by kernel_rfl, rfl, rfl, rfl, ⟨z_nilp, trivial⟩⟩
theorem ti108 : TIOK Tryd.prog 108 ⟨.struct [(0, 9)], 1, 16, [.str []], none⟩ := ⟨⟨_, Tryd.underlying108, rfl⟩, Tryd.t108, _, by kernel_rfl, rfl, rfl, rfl, ⟨z_str rfl, trivial⟩⟩
theorem ti109 : TIOK Tryd.prog 109 ⟨.struct [(0, 9)], 1, 16, [.str []], none⟩ := ⟨⟨_, Tryd.underlying109, rfl⟩, Tryd.t109, _, by kernel_rfl, rfl, rfl, rfl, ⟨z_str rfl, trivial⟩⟩
theorem ti110 : TIOK Tryd.prog 110 ⟨.other, 1, 8, [.nilf], none⟩ := ⟨⟨_, Tryd.underlying110, (fun f h => by cases h), (fun n e h => by cases h)⟩, Tryd.t110, _, by kernel_rfl, rfl, rfl, rfl, ⟨z_nilf, trivial⟩⟩
theorem ti111 : TIOK Tryd.prog 111 ⟨.arr 20 48, 20, 160, [.int .u64 0, .int .u64 0, .int .u64 0, .int .u64 0, .int .u64 0, .int .u64 0, .int .u64 0, .int .u64 0, .int .u64 0, .int .u64 0, .int .u64 0, .int .u64 0, .int .u64 0, .int .u64 0, .int .u64 0, .int .u64 0, .int .u64 0, .int .u64 0, .int .u64 0, .int .u64 0], none⟩ := ⟨Tryd.underlying111, Tryd.t111, _, by kernel_rfl, rfl, rfl, rfl, ⟨z_int, z_int, z_int, z_int, z_int, z_int, z_int, z_int, z_int, z_int, z_int, z_int, z_int, z_int, z_int, z_int, z_int, z_int, z_int, z_int, trivial⟩⟩
theorem ti113 : TIOK Tryd.prog 113 ⟨.other, 1, 8, [.nilf], none⟩ := ⟨⟨_, Tryd.underlying113, (fun f h => by cases h), (fun n e h => by cases h)⟩, Tryd.t113, _, by kernel_rfl, rfl, rfl, rfl, ⟨z_nilf, trivial⟩⟩
theorem ti114 : TIOK Tryd.prog 114 ⟨.other, 1, 8, [.nilf], none⟩ := ⟨⟨_, Tryd.underlying114, (fun f h => by cases h), (fun n e h => by cases h)⟩, Tryd.t114, _, by kernel_rfl, rfl, rfl, rfl, ⟨z_nilf, trivial⟩⟩
theorem ti115 : TIOK Tryd.prog 115 ⟨.other, 1, 8, [.nilp], none⟩ := ⟨⟨_, Tryd.underlying115, (fun f h => by cases h), (fun n e h => by cases h)⟩, Tryd.t115, _, by kernel_rfl, rfl, rfl, rfl, ⟨z_nilp, trivial⟩⟩
theorem ti116 : TIOK Tryd.prog 116 ⟨.other, 1, 8, [.nilf], none⟩ := ⟨⟨_, Tryd.underlying116, (fun f h => by cases h), (fun n e h => by cases h)⟩, Tryd.t116, _, by kernel_rfl, rfl, rfl, rfl, ⟨z_nilf, trivial⟩⟩
theorem ti117 : TIOK Tryd.prog 117 ⟨.other, 1, 8, [.nilf], none⟩ := ⟨⟨_, Tryd.underlying117, (fun f h => by cases h), (fun n e h => by cases h)⟩, Tryd.t117, _, by kernel_rfl, rfl, rfl, rfl, ⟨z_nilf, trivial⟩⟩
theorem ti118 : TIOK Tryd.prog 118 ⟨.other, 1, 8, [.nilf], none⟩ := ⟨⟨_, Tryd.underlying118, (fun f h => by cases h), (fun n e h => by cases h)⟩, Tryd.t118, _, by kernel_rfl, rfl, rfl, rfl, ⟨z_nilf, trivial⟩⟩
theorem ti120 : TIOK Tryd.prog 120 ⟨.struct [(0, 5), (1, 5)], 2, 2, [.int .u8 0, .int .u8 0], none⟩ := ⟨⟨_, Tryd.underlying120, rfl⟩, Tryd.t120, _, by kernel_rfl, rfl, rfl, rfl, ⟨z_int, z_int, trivial⟩⟩
theorem ti121 : TIOK Tryd.prog 121 ⟨.struct [(0, 5), (1, 5)], 2, 2, [.int .u8 0, .int .u8 0], none⟩ := ⟨⟨_, Tryd.underlying121, rfl⟩, Tryd.t121, _, by kernel_rfl, rfl, rfl, rfl, ⟨z_int, z_int, trivial⟩⟩
theorem ti122 : TIOK Tryd.prog 122 ⟨.arr 16 121, 32, 32, [.int .u8 0, .int .u8 0, .int .u8 0, .int .u8 0, .int .u8 0, .int .u8 0, .int .u8 0, .int .u8 0, .int .u8 0, .int .u8 0, .int .u8 0, .int .u8 0, .int .u8 0, .int .u8 0, .int .u8 0, .int .u8 0, .int .u8 0, .int .u8 0, .int .u8 0, .int .u8 0, .int .u8 0, .int .u8 0, .int .u8 0, .int .u8 0, .int .u8 0, .int .u8 0, .int .u8 0, .int .u8 0, .int .u8 0, .int .u8 0, .int .u8 0, .int .u8 0], none⟩ := ⟨Tryd.underlying122, Tryd.t122, _, by kernel_rfl, rfl, rfl, rfl, ⟨z_int, z_int, z_int, z_int, z_int, z_int, z_int, z_int, z_int, z_int, z_int, z_int, z_int, z_int, z_int, z_int, z_int, z_int, z_int, z_int, z_int, z_int, z_int, z_int, z_int, z_int, z_int, z_int, z_int, z_int, z_int, z_int, trivial⟩⟩
theorem ti123 : TIOK Tryd.prog 123 ⟨.other, 1, 8, [.nilf], none⟩ := ⟨⟨_, Tryd.underlying123, (fun f h => by cases h), (fun n e h => by cases h)⟩, Tryd.t123, _, by kernel_rfl, rfl, rfl, rfl, ⟨z_nilf, trivial⟩⟩
theorem ti124 : TIOK Tryd.prog 124 ⟨.other, 1, 8, [.nilf], none⟩ := ⟨⟨_, Tryd.underlying124, (fun f h => by cases h), (fun n e h => by cases h)⟩, Tryd.t124, _, by kernel_rfl, rfl, rfl, rfl, ⟨z_nilf, trivial⟩⟩
theorem ti125 : TIOK Tryd.prog 125 ⟨.other, 1, 8, [.nilf], none⟩ := ⟨⟨_, Tryd.underlying125, (fun f h => by cases h), (fun n e h => by cases h)⟩, Tryd.t125, _, by kernel_rfl, rfl, rfl, rfl, ⟨z_nilf, trivial⟩⟩
theorem ti126 : TIOK Tryd.prog 126 ⟨.other, 1, 8, [.nilf], none⟩ := ⟨⟨_, Tryd.underlying126, (fun f h => by cases h), (fun n e h => by cases h)⟩, Tryd.t126, _, by kernel_rfl, rfl, rfl, rfl, ⟨z_nilf, trivial⟩⟩
theorem ti127 : TIOK Tryd.prog 127 ⟨.arr 32 5, 32, 32, [.int .u8 0, .int .u8 0, .int .u8 0, .int .u8 0, .int .u8 0, .int .u8 0, .int .u8 0, .int .u8 0, .int .u8 0, .int .u8 0, .int .u8 0, .int .u8 0, .int .u8 0, .int .u8 0, .int .u8 0, .int .u8 0, .int .u8 0, .int .u8 0, .int .u8 0, .int .u8 0, .int .u8 0, .int .u8 0, .int .u8 0, .int .u8 0, .int .u8 0, .int .u8 0, .int .u8 0, .int .u8 0, .int .u8 0, .int .u8 0, .int .u8 0, .int .u8 0], none⟩ := ⟨Tryd.underlying127, Tryd.t127, _, by kernel_rfl, rfl, rfl, rfl, ⟨z_int, z_int, z_int, z_int, z_int, z_int, z_int, z_int, z_int, z_int, z_int, z_int, z_int, z_int, z_int, z_int, z_int, z_int, z_int, z_int, z_int, z_int, z_int, z_int, z_int, z_int, z_int, z_int, z_int, z_int, z_int, z_int, trivial⟩⟩
theorem ti128 : TIOK Tryd.prog 128 ⟨.arr 64 5, 64, 64, [.int .u8 0, .int .u8 0, .int .u8 0, .int .u8 0, .int .u8 0, .int .u8 0, .int .u8 0, .int .u8 0, .int .u8 0, .int .u8 0, .int .u8 0, .int .u8 0, .int .u8 0, .int .u8 0, .int .u8 0, .int .u8 0, .int .u8 0, .int .u8 0, .int .u8 0, .int .u8 0, .int .u8 0, .int .u8 0, .int .u8 0, .int .u8 0, .int .u8 0, .int .u8 0, .int .u8 0, .int .u8 0, .int .u8 0, .int .u8 0, .int .u8 0, .int .u8 0, .int .u8 0, .int .u8 0, .int .u8 0, .int .u8 0, .int .u8 0, .int .u8 0, .int .u8 0, .int .u8 0, .int .u8 0, .int .u8 0, .int .u8 0, .int .u8 0, .int .u8 0, .int .u8 0, .int .u8 0, .int .u8 0, .int .u8 0, .int .u8 0, .int .u8 0, .int .u8 0, .int .u8 0, .int .u8 0, .int .u8 0, .int .u8 0, .int .u8 0, .int .u8 0, .int .u8 0, .int .u8 0, .int .u8 0, .int .u8 0, .int .u8 0, .int .u8 0], none⟩ := ⟨Tryd.underlying128, Tryd.t128, _, by kernel_rfl, rfl, rfl, rfl, ⟨z_int, z_int, z_int, z_int, z_int, z_int, z_int, z_int, z_int, z_int, z_int, z_int, z_int, z_int, z_int, z_int, z_int, z_int, z_int, z_int, z_int, z_int, z_int, z_int, z_int, z_int, z_int, z_int, z_int, z_int, z_int, z_int, z_int, z_int, z_int, z_int, z_int, z_int, z_int, z_int, z_int, z_int, z_int, z_int, z_int, z_int, z_int, z_int, z_int, z_int, z_int, z_int, z_int, z_int, z_int, z_int, z_int, z_int, z_int, z_int, z_int, z_int, z_int, z_int, trivial⟩⟩
theorem ti129 : TIOK Tryd.prog 129 ⟨.struct [(0, 17), (1, 17), (2, 17), (3, 9)], 4, 40, [.nilp, .nilp, .nilp, .str []], none⟩ := ⟨⟨_, Tryd.underlying129, rfl⟩, Tryd.t129, _, by kernel_rfl, rfl, rfl, rfl, ⟨z_nilp, z_nilp, z_nilp, z_str rfl, trivial⟩⟩
theorem ti130 : TIOK Tryd.prog 130 ⟨.struct [(0, 17), (1, 17), (2, 17), (3, 9)], 4, 40, [.nilp, .nilp, .nilp, .str []], none⟩ := ⟨⟨_, Tryd.underlying130, rfl⟩, Tryd.t130, _, by kernel_rfl, rfl, rfl, rfl, ⟨z_nilp, z_nilp, z_nilp, z_str rfl, trivial⟩⟩
theorem ti131 : TIOK Tryd.prog 131 ⟨.arr 0 16, 0, 0, [], none⟩ := ⟨Tryd.underlying131, Tryd.t131, _, by kernel_rfl, rfl, rfl, rfl, trivial⟩
theorem ti132 : TIOK Tryd.prog 132 ⟨.struct [(0, 131)], 0, 0, [], none⟩ := ⟨⟨_, Tryd.underlying132, rfl⟩, Tryd.t132, _, by kernel_rfl, rfl, rfl, rfl, trivial⟩
theorem ti133 : TIOK Tryd.prog 133 ⟨.struct [(0, 131)], 0, 0, [], none⟩ := ⟨⟨_, Tryd.underlying133, rfl⟩, Tryd.t133, _, by kernel_rfl, rfl, rfl, rfl, trivial⟩
theorem ti134 : TIOK Tryd.prog 134 ⟨.int .u8, 1, 1, [.int .u8 0], some (.int .u8)⟩ := ⟨Tryd.underlying134, Tryd.t134, _, by kernel_rfl, rfl, rfl, rfl, ⟨z_int, trivial⟩⟩
theorem ti135 : TIOK Tryd.prog 135 ⟨.int .u8, 1, 1, [.int .u8 0], some (.int .u8)⟩ := ⟨Tryd.underlying135, Tryd.t135, _, by kernel_rfl, rfl, rfl, rfl, ⟨z_int, trivial⟩⟩
theorem ti136 : TIOK Tryd.prog 136 ⟨.other, 1, 8, [.nilf], none⟩ := ⟨⟨_, Tryd.underlying136, (fun f h => by cases h), (fun n e h => by cases h)⟩, Tryd.t136, _, by kernel_rfl, rfl, rfl, rfl, ⟨z_nilf, trivial⟩⟩
theorem ti137 : TIOK Tryd.prog 137 ⟨.int .i32, 1, 4, [.int .i32 0], some (.int .i32)⟩ := ⟨Tryd.underlying137, Tryd.t137, _, by kernel_rfl, rfl, rfl, rfl, ⟨z_int, trivial⟩⟩
theorem ti138 : TIOK Tryd.prog 138 ⟨.int .i32, 1, 4, [.int .i32 0], some (.int .i32)⟩ := ⟨Tryd.underlying138, Tryd.t138, _, by kernel_rfl, rfl, rfl, rfl, ⟨z_int, trivial⟩⟩
theorem ti139 : TIOK Tryd.prog 139 ⟨.struct [(0, 12), (1, 12), (2, 54), (3, 134), (4, 5), (5, 5), (6, 135), (7, 136), (8, 104), (9, 137), (10, 138)], 11, 48, [.int .u64 0, .int .u64 0, .int .u32 0, .int .u8 0, .int .u8 0, .int .u8 0, .int .u8 0, .nilf, .nilp, .int .i32 0, .int .i32 0], none⟩ := ⟨⟨_, Tryd.underlying139, rfl⟩, Tryd.t139, _, by kernel_rfl, rfl, rfl, rfl, ⟨z_int, z_int, z_int, z_int, z_int, z_int, z_int, z_nilf, z_nilp, z_int, z_int, trivial⟩⟩
theorem ti140 : TIOK Tryd.prog 140 ⟨.struct [(0, 12), (1, 12), (2, 54), (3, 134), (4, 5), (5, 5), (6, 135), (7, 136), (8, 104), (9, 137), (10, 138)], 11, 48, [.int .u64 0, .int .u64 0, .int .u32 0, .int .u8 0, .int .u8 0, .int .u8 0, .int .u8 0, .nilf, .nilp, .int .i32 0, .int .i32 0], none⟩ := ⟨⟨_, Tryd.underlying140, rfl⟩, Tryd.t140, _, by kernel_rfl, rfl, rfl, rfl, ⟨z_int, z_int, z_int, z_int, z_int, z_int, z_int, z_nilf, z_nilp, z_int, z_int, trivial⟩⟩
theorem ti141 : TIOK Tryd.prog 141 ⟨.other, 1, 8, [.nilf], none⟩ := ⟨⟨_, Tryd.underlying141, (fun f h => by cases h), (fun n e h => by cases h)⟩, Tryd.t141, _, by kernel_rfl, rfl, rfl, rfl, ⟨z_nilf, trivial⟩⟩
def tget : List (Nat × TI) → TT
  | [], _ => none
  | (n, i) :: r, t => bif n == t then some i else tget r t
def tget2 : List (List (Nat × TI)) → TT
  | [], _ => none
  | l :: r, t => match tget l t with
    | some i => some i
    | none => tget2 r t
def AllT (P : Program) : List (Nat × TI) → Prop
  | [] => True
  | x :: r => TIOK P x.1 x.2 ∧ AllT P r
def AllT2 (P : Program) : List (List (Nat × TI)) → Prop
  | [] => True
  | x :: r => AllT P x ∧ AllT2 P r
theorem tget_ok {P : Program} : ∀ (l : List (Nat × TI)), AllT P l → TTOK P (tget l)
  | [], _ => fun t i h => by simp [tget] at h
  | (n, j) :: r, hl => fun t i h => by
    simp only [tget, cond_eq_ite, beq_iff_eq] at h
    by_cases q : n = t
    · rw [if_pos q] at h; cases h; subst q; exact hl.1
    · rw [if_neg q] at h; exact tget_ok r hl.2 t i h
theorem tget2_ok {P : Program} : ∀ (l : List (List (Nat × TI))), AllT2 P l → TTOK P (tget2 l)
  | [], _ => fun t i h => by simp [tget2] at h
  | x :: r, hl => fun t i h => by
    simp only [tget2] at h
    split at h
    · rename_i j hj; cases h; exact tget_ok x hl.1 t _ hj
    · exact tget2_ok r hl.2 t i h
def tl0 : List (Nat × TI) := [
(1, ⟨.other, 1, 8, [.nilf], none⟩),
(2, ⟨.int .i64, 1, 8, [.int .i64 0], some (.int .i64)⟩),
(3, ⟨.int .i64, 1, 8, [.int .i64 0], some (.int .i64)⟩),
(4, ⟨.bool, 1, 1, [.bool false], some .bool⟩),
(5, ⟨.int .u8, 1, 1, [.int .u8 0], some (.int .u8)⟩),
(6, ⟨.int .u8, 1, 1, [.int .u8 0], some (.int .u8)⟩),
(7, ⟨.struct [(0, 2), (1, 3), (2, 4), (3, 6)], 4, 24, [.int .i64 0, .int .i64 0, .bool false, .int .u8 0], none⟩),
(8, ⟨.struct [(0, 2), (1, 3), (2, 4), (3, 6)], 4, 24, [.int .i64 0, .int .i64 0, .bool false, .int .u8 0], none⟩),
(9, ⟨.str, 1, 16, [.str []], some .str⟩),
(10, ⟨.str, 1, 16, [.str []], some .str⟩),
(11, ⟨.str, 1, 16, [.str []], some .str⟩),
(12, ⟨.int .u64, 1, 8, [.int .u64 0], some (.int .u64)⟩),
(13, ⟨.struct [(0, 9), (1, 12)], 2, 24, [.str [], .int .u64 0], none⟩),
(14, ⟨.struct [(0, 9), (1, 12)], 2, 24, [.str [], .int .u64 0], none⟩),
(15, ⟨.ptr 130, 1, 8, [.nilp], none⟩),
(16, ⟨.ptr 133, 1, 8, [.nilp], none⟩),
(17, ⟨.ptr 140, 1, 8, [.nilp], none⟩),
(18, ⟨.struct [(0, 17)], 1, 8, [.nilp], none⟩),
(19, ⟨.struct [(0, 17)], 1, 8, [.nilp], none⟩),
(20, ⟨.other, 1, 16, [.nili], none⟩),
(21, ⟨.int .i32, 1, 4, [.int .i32 0], some (.int .i32)⟩),
(22, ⟨.cplx .f32, 1, 8, [.cplx .f32 0 0], some (.cplx .f32)⟩),
(23, ⟨.struct [(0, 22), (1, 22)], 2, 16, [.cplx .f32 0 0, .cplx .f32 0 0], none⟩),
(24, ⟨.struct [(0, 22), (1, 22)], 2, 16, [.cplx .f32 0 0, .cplx .f32 0 0], none⟩)
]
theorem tlOk0 : AllT Tryd.prog tl0 := ⟨ti1, ti2, ti3, ti4, ti5, ti6, ti7, ti8, ti9, ti10, ti11, ti12, ti13, ti14, ti15, ti16, ti17, ti18, ti19, ti20, ti21, ti22, ti23, ti24, trivial⟩
def tl1 : List (Nat × TI) := [
(26, ⟨.other, 1, 8, [.nilf], none⟩),
(27, ⟨.other, 1, 8, [.nilf], none⟩),
(28, ⟨.other, 1, 8, [.nilf], none⟩),
(29, ⟨.slc 22, 1, 24, [.nils], none⟩),
(31, ⟨.other, 1, 8, [.nilf], none⟩),
(32, ⟨.other, 1, 8, [.nilf], none⟩),
(33, ⟨.other, 1, 8, [.nilf], none⟩),
(34, ⟨.cplx .f64, 1, 16, [.cplx .f64 0 0], some (.cplx .f64)⟩),
(35, ⟨.slc 9, 1, 24, [.nils], none⟩),
(37, ⟨.other, 1, 8, [.nilf], none⟩),
(38, ⟨.flt .f32, 1, 4, [.flt .f32 0], some (.flt .f32)⟩),
(40, ⟨.other, 1, 8, [.nilf], none⟩),
(41, ⟨.other, 1, 8, [.nilf], none⟩),
(42, ⟨.other, 1, 8, [.nilf], none⟩),
(43, ⟨.flt .f64, 1, 8, [.flt .f64 0], some (.flt .f64)⟩),
(44, ⟨.other, 1, 8, [.nilf], none⟩),
(45, ⟨.other, 1, 8, [.nilf], none⟩),
(46, ⟨.ptr 24, 1, 8, [.nilp], none⟩),
(47, ⟨.other, 1, 8, [.nilf], none⟩),
(48, ⟨.int .u64, 1, 8, [.int .u64 0], some (.int .u64)⟩),
(49, ⟨.other, 1, 16, [.nili], none⟩),
(50, ⟨.other, 1, 16, [.nili], none⟩),
(52, ⟨.other, 1, 8, [.nilf], none⟩),
(53, ⟨.other, 1, 8, [.nilf], none⟩)
]
theorem tlOk1 : AllT Tryd.prog tl1 := ⟨ti26, ti27, ti28, ti29, ti31, ti32, ti33, ti34, ti35, ti37, ti38, ti40, ti41, ti42, ti43, ti44, ti45, ti46, ti47, ti48, ti49, ti50, ti52, ti53, trivial⟩
def tl2 : List (Nat × TI) := [
(54, ⟨.int .u32, 1, 4, [.int .u32 0], some (.int .u32)⟩),
(55, ⟨.other, 1, 8, [.nilf], none⟩),
(56, ⟨.other, 1, 8, [.nilf], none⟩),
(57, ⟨.other, 1, 8, [.nilf], none⟩),
(58, ⟨.other, 1, 8, [.nilf], none⟩),
(59, ⟨.other, 1, 8, [.nilf], none⟩),
(60, ⟨.other, 1, 8, [.nilf], none⟩),
(61, ⟨.other, 1, 8, [.nilf], none⟩),
(62, ⟨.other, 1, 8, [.nilf], none⟩),
(63, ⟨.other, 1, 8, [.nilf], none⟩),
(64, ⟨.other, 1, 8, [.nilf], none⟩),
(65, ⟨.other, 1, 8, [.nilf], none⟩),
(66, ⟨.other, 1, 8, [.nilf], none⟩),
(67, ⟨.int .i64, 1, 8, [.int .i64 0], some (.int .i64)⟩),
(68, ⟨.other, 1, 8, [.nilf], none⟩),
(69, ⟨.int .u64, 1, 8, [.int .u64 0], some (.int .u64)⟩),
(70, ⟨.slc 5, 1, 24, [.nils], none⟩),
(71, ⟨.ptr 92, 1, 8, [.nilp], none⟩),
(72, ⟨.other, 1, 8, [.nilf], none⟩),
(73, ⟨.other, 1, 8, [.nilf], none⟩),
(75, ⟨.other, 1, 8, [.nilf], none⟩),
(76, ⟨.other, 1, 8, [.nilf], none⟩),
(77, ⟨.ptr 79, 1, 8, [.nilp], none⟩),
(78, ⟨.struct [(0, 77), (1, 70)], 2, 32, [.nilp, .nils], none⟩)
]
theorem tlOk2 : AllT Tryd.prog tl2 := ⟨ti54, ti55, ti56, ti57, ti58, ti59, ti60, ti61, ti62, ti63, ti64, ti65, ti66, ti67, ti68, ti69, ti70, ti71, ti72, ti73, ti75, ti76, ti77, ti78, trivial⟩
def tl3 : List (Nat × TI) := [
(79, ⟨.struct [(0, 77), (1, 70)], 2, 32, [.nilp, .nils], none⟩),
(80, ⟨.other, 1, 8, [.nilf], none⟩),
(82, ⟨.other, 1, 8, [.nilf], none⟩),
(83, ⟨.other, 1, 8, [.nilf], none⟩),
(84, ⟨.other, 1, 8, [.nilf], none⟩),
(85, ⟨.other, 1, 8, [.nilf], none⟩),
(86, ⟨.other, 1, 8, [.nilf], none⟩),
(88, ⟨.other, 1, 8, [.nilf], none⟩),
(89, ⟨.other, 1, 8, [.nilf], none⟩),
(90, ⟨.other, 1, 8, [.nilf], none⟩),
(91, ⟨.struct [(0, 9), (1, 9), (2, 50)], 3, 48, [.str [], .str [], .nili], none⟩),
(92, ⟨.struct [(0, 9), (1, 9), (2, 50)], 3, 48, [.str [], .str [], .nili], none⟩),
(93, ⟨.other, 1, 8, [.nilf], none⟩),
(94, ⟨.other, 1, 8, [.nilf], none⟩),
(95, ⟨.arr 24 5, 24, 24, [.int .u8 0, .int .u8 0, .int .u8 0, .int .u8 0, .int .u8 0, .int .u8 0, .int .u8 0, .int .u8 0, .int .u8 0, .int .u8 0, .int .u8 0, .int .u8 0, .int .u8 0, .int .u8 0, .int .u8 0, .int .u8 0, .int .u8 0, .int .u8 0, .int .u8 0, .int .u8 0, .int .u8 0, .int .u8 0, .int .u8 0, .int .u8 0], none⟩),
(96, ⟨.other, 1, 8, [.nilf], none⟩),
(97, ⟨.other, 1, 8, [.nilf], none⟩),
(99, ⟨.other, 1, 8, [.nilf], none⟩),
(101, ⟨.other, 1, 8, [.nilf], none⟩),
(103, ⟨.other, 1, 8, [.nilf], none⟩),
(104, ⟨.ptr 5, 1, 8, [.nilp], none⟩),
(105, ⟨.other, 1, 8, [.nilf], none⟩),
(106, ⟨.other, 1, 8, [.nilf], none⟩),
(107, ⟨.ptr 109, 1, 8, [.nilp], none⟩)
]
theorem tlOk3 : AllT Tryd.prog tl3 := ⟨ti79, ti80, ti82, ti83, ti84, ti85, ti86, ti88, ti89, ti90, ti91, ti92, ti93, ti94, ti95, ti96, ti97, ti99, ti101, ti103, ti104, ti105, ti106, ti107, trivial⟩
def tl4 : List (Nat × TI) := [
(108, ⟨.struct [(0, 9)], 1, 16, [.str []], none⟩),
(109, ⟨.struct [(0, 9)], 1, 16, [.str []], none⟩),
(110, ⟨.other, 1, 8, [.nilf], none⟩),
(111, ⟨.arr 20 48, 20, 160, [.int .u64 0, .int .u64 0, .int .u64 0, .int .u64 0, .int .u64 0, .int .u64 0, .int .u64 0, .int .u64 0, .int .u64 0, .int .u64 0, .int .u64 0, .int .u64 0, .int .u64 0, .int .u64 0, .int .u64 0, .int .u64 0, .int .u64 0, .int .u64 0, .int .u64 0, .int .u64 0], none⟩),
(113, ⟨.other, 1, 8, [.nilf], none⟩),
(114, ⟨.other, 1, 8, [.nilf], none⟩),
(115, ⟨.other, 1, 8, [.nilp], none⟩),
(116, ⟨.other, 1, 8, [.nilf], none⟩),
(117, ⟨.other, 1, 8, [.nilf], none⟩),
(118, ⟨.other, 1, 8, [.nilf], none⟩),
(120, ⟨.struct [(0, 5), (1, 5)], 2, 2, [.int .u8 0, .int .u8 0], none⟩),
(121, ⟨.struct [(0, 5), (1, 5)], 2, 2, [.int .u8 0, .int .u8 0], none⟩),
(122, ⟨.arr 16 121, 32, 32, [.int .u8 0, .int .u8 0, .int .u8 0, .int .u8 0, .int .u8 0, .int .u8 0, .int .u8 0, .int .u8 0, .int .u8 0, .int .u8 0, .int .u8 0, .int .u8 0, .int .u8 0, .int .u8 0, .int .u8 0, .int .u8 0, .int .u8 0, .int .u8 0, .int .u8 0, .int .u8 0, .int .u8 0, .int .u8 0, .int .u8 0, .int .u8 0, .int .u8 0, .int .u8 0, .int .u8 0, .int .u8 0, .int .u8 0, .int .u8 0, .int .u8 0, .int .u8 0], none⟩),
(123, ⟨.other, 1, 8, [.nilf], none⟩),
(124, ⟨.other, 1, 8, [.nilf], none⟩),
(125, ⟨.other, 1, 8, [.nilf], none⟩),
(126, ⟨.other, 1, 8, [.nilf], none⟩),
(127, ⟨.arr 32 5, 32, 32, [.int .u8 0, .int .u8 0, .int .u8 0, .int .u8 0, .int .u8 0, .int .u8 0, .int .u8 0, .int .u8 0, .int .u8 0, .int .u8 0, .int .u8 0, .int .u8 0, .int .u8 0, .int .u8 0, .int .u8 0, .int .u8 0, .int .u8 0, .int .u8 0, .int .u8 0, .int .u8 0, .int .u8 0, .int .u8 0, .int .u8 0, .int .u8 0, .int .u8 0, .int .u8 0, .int .u8 0, .int .u8 0, .int .u8 0, .int .u8 0, .int .u8 0, .int .u8 0], none⟩),
(128, ⟨.arr 64 5, 64, 64, [.int .u8 0, .int .u8 0, .int .u8 0, .int .u8 0, .int .u8 0, .int .u8 0, .int .u8 0, .int .u8 0, .int .u8 0, .int .u8 0, .int .u8 0, .int .u8 0, .int .u8 0, .int .u8 0, .int .u8 0, .int .u8 0, .int .u8 0, .int .u8 0, .int .u8 0, .int .u8 0, .int .u8 0, .int .u8 0, .int .u8 0, .int .u8 0, .int .u8 0, .int .u8 0, .int .u8 0, .int .u8 0, .int .u8 0, .int .u8 0, .int .u8 0, .int .u8 0, .int .u8 0, .int .u8 0, .int .u8 0, .int .u8 0, .int .u8 0, .int .u8 0, .int .u8 0, .int .u8 0, .int .u8 0, .int .u8 0, .int .u8 0, .int .u8 0, .int .u8 0, .int .u8 0, .int .u8 0, .int .u8 0, .int .u8 0, .int .u8 0, .int .u8 0, .int .u8 0, .int .u8 0, .int .u8 0, .int .u8 0, .int .u8 0, .int .u8 0, .int .u8 0, .int .u8 0, .int .u8 0, .int .u8 0, .int .u8 0, .int .u8 0, .int .u8 0], none⟩),
(129, ⟨.struct [(0, 17), (1, 17), (2, 17), (3, 9)], 4, 40, [.nilp, .nilp, .nilp, .str []], none⟩),
(130, ⟨.struct [(0, 17), (1, 17), (2, 17), (3, 9)], 4, 40, [.nilp, .nilp, .nilp, .str []], none⟩),
(131, ⟨.arr 0 16, 0, 0, [], none⟩),
(132, ⟨.struct [(0, 131)], 0, 0, [], none⟩),
(133, ⟨.struct [(0, 131)], 0, 0, [], none⟩)
]
theorem tlOk4 : AllT Tryd.prog tl4 := ⟨ti108, ti109, ti110, ti111, ti113, ti114, ti115, ti116, ti117, ti118, ti120, ti121, ti122, ti123, ti124, ti125, ti126, ti127, ti128, ti129, ti130, ti131, ti132, ti133, trivial⟩
def tl5 : List (Nat × TI) := [
(134, ⟨.int .u8, 1, 1, [.int .u8 0], some (.int .u8)⟩),
(135, ⟨.int .u8, 1, 1, [.int .u8 0], some (.int .u8)⟩),
(136, ⟨.other, 1, 8, [.nilf], none⟩),
(137, ⟨.int .i32, 1, 4, [.int .i32 0], some (.int .i32)⟩),
(138, ⟨.int .i32, 1, 4, [.int .i32 0], some (.int .i32)⟩),
(139, ⟨.struct [(0, 12), (1, 12), (2, 54), (3, 134), (4, 5), (5, 5), (6, 135), (7, 136), (8, 104), (9, 137), (10, 138)], 11, 48, [.int .u64 0, .int .u64 0, .int .u32 0, .int .u8 0, .int .u8 0, .int .u8 0, .int .u8 0, .nilf, .nilp, .int .i32 0, .int .i32 0], none⟩),
(140, ⟨.struct [(0, 12), (1, 12), (2, 54), (3, 134), (4, 5), (5, 5), (6, 135), (7, 136), (8, 104), (9, 137), (10, 138)], 11, 48, [.int .u64 0, .int .u64 0, .int .u32 0, .int .u8 0, .int .u8 0, .int .u8 0, .int .u8 0, .nilf, .nilp, .int .i32 0, .int .i32 0], none⟩),
(141, ⟨.other, 1, 8, [.nilf], none⟩)
]
theorem tlOk5 : AllT Tryd.prog tl5 := ⟨ti134, ti135, ti136, ti137, ti138, ti139, ti140, ti141, trivial⟩
def tab : TT := tget2 [tl0, tl1, tl2, tl3, tl4, tl5]
theorem tab_ok : TTOK Tryd.prog tab := tget2_ok _ ⟨tlOk0, tlOk1, tlOk2, tlOk3, tlOk4, tlOk5, trivial⟩
end Go.Proofs.YtacelaaifaffpaaDoor
