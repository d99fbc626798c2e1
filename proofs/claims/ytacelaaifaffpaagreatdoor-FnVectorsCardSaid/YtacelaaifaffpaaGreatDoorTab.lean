/- THE TYPES, BY A PROGRAM: what the evaluator takes from the table of types, and that it stands there. -/
import Derived.Test.YtacelaaifaffpaaGreatDoorEngQd
import Derived.Test.YtacelaaifaffpaaGreatDoorProg
namespace Go.Proofs.YtacelaaifaffpaaGreatDoor
/-- A string's bytes, as integers. -/
def u8i (l : List UInt8) : List Int := u8s l
theorem z_int {k : IntKind} : ZSim (.int k 0) (.int k 0) := fun c => by simp only [VSim]
theorem z_f32 : ZSim (.flt .f32 0) (.float .f32 0) := fun c => by simp only [VSim]; exact ⟨0, rfl, by decide +kernel⟩
theorem z_f64 : ZSim (.flt .f64 0) (.float .f64 0) := fun c => by simp only [VSim]; exact ⟨0, rfl, by decide +kernel⟩
theorem z_c32 : ZSim (.cplx .f32 0 0) (.complex .f32 0 0) := fun c => by simp only [VSim]; exact ⟨0, 0, rfl, by decide +kernel, by decide +kernel⟩
theorem z_c64 : ZSim (.cplx .f64 0 0) (.complex .f64 0 0) := fun c => by simp only [VSim]; exact ⟨0, 0, rfl, by decide +kernel, by decide +kernel⟩
theorem z_bool : ZSim (.bool false) (.bool false) := fun c => by simp only [VSim]
theorem z_str {s : ByteArray} (h : s.data.toList = []) : ZSim (.str []) (.string s) := fun c => by simp only [VSim]; exact ⟨s, rfl, h⟩
theorem z_nilp : ZSim .nilp (.pointer none) := fun c => by simp only [VSim]
theorem z_nils : ZSim .nils (.slice none 0 0) := fun c => by simp only [VSim]
theorem z_nilf : ZSim .nilf .nilFunc := fun c => by simp only [VSim]
theorem z_nili : ZSim .nili .nilIface := fun c => by simp only [VSim]
theorem ti1 : TIOK Tryz.prog 1 ⟨.other, 1, 8, [.nilf], none⟩ := ⟨⟨_, Tryz.underlying1, (fun f h => by cases h), (fun n e h => by cases h)⟩, Tryz.t1, _, by kernel_rfl, rfl, rfl, rfl, ⟨z_nilf, trivial⟩⟩
theorem ti2 : TIOK Tryz.prog 2 ⟨.int .i64, 1, 8, [.int .i64 0], some (.int .i64)⟩ := ⟨Tryz.underlying2, Tryz.t2, _, by kernel_rfl, rfl, rfl, rfl, ⟨z_int, trivial⟩⟩
theorem ti3 : TIOK Tryz.prog 3 ⟨.int .i64, 1, 8, [.int .i64 0], some (.int .i64)⟩ := ⟨Tryz.underlying3, Tryz.t3, _, by kernel_rfl, rfl, rfl, rfl, ⟨z_int, trivial⟩⟩
theorem ti4 : TIOK Tryz.prog 4 ⟨.bool, 1, 1, [.bool false], some .bool⟩ := ⟨Tryz.underlying4, Tryz.t4, _, by kernel_rfl, rfl, rfl, rfl, ⟨z_bool, trivial⟩⟩
theorem ti5 : TIOK Tryz.prog 5 ⟨.int .u8, 1, 1, [.int .u8 0], some (.int .u8)⟩ := ⟨Tryz.underlying5, Tryz.t5, _, by kernel_rfl, rfl, rfl, rfl, ⟨z_int, trivial⟩⟩
theorem ti6 : TIOK Tryz.prog 6 ⟨.int .u8, 1, 1, [.int .u8 0], some (.int .u8)⟩ := ⟨Tryz.underlying6, Tryz.t6, _, by kernel_rfl, rfl, rfl, rfl, ⟨z_int, trivial⟩⟩
theorem ti7 : TIOK Tryz.prog 7 ⟨.struct [(0, 2), (1, 3), (2, 4), (3, 6)], 4, 24, [.int .i64 0, .int .i64 0, .bool false, .int .u8 0], none⟩ := ⟨⟨_, Tryz.underlying7, rfl⟩, Tryz.t7, _, by kernel_rfl, rfl, rfl, rfl, ⟨z_int, z_int, z_bool, z_int, trivial⟩⟩
theorem ti8 : TIOK Tryz.prog 8 ⟨.struct [(0, 2), (1, 3), (2, 4), (3, 6)], 4, 24, [.int .i64 0, .int .i64 0, .bool false, .int .u8 0], none⟩ := ⟨⟨_, Tryz.underlying8, rfl⟩, Tryz.t8, _, by kernel_rfl, rfl, rfl, rfl, ⟨z_int, z_int, z_bool, z_int, trivial⟩⟩
theorem ti9 : TIOK Tryz.prog 9 ⟨.str, 1, 16, [.str []], some .str⟩ := ⟨Tryz.underlying9, Tryz.t9, _, by kernel_rfl, rfl, rfl, rfl, ⟨z_str rfl, trivial⟩⟩
theorem ti10 : TIOK Tryz.prog 10 ⟨.str, 1, 16, [.str []], some .str⟩ := ⟨Tryz.underlying10, Tryz.t10, _, by kernel_rfl, rfl, rfl, rfl, ⟨z_str rfl, trivial⟩⟩
theorem ti11 : TIOK Tryz.prog 11 ⟨.str, 1, 16, [.str []], some .str⟩ := ⟨Tryz.underlying11, Tryz.t11, _, by kernel_rfl, rfl, rfl, rfl, ⟨z_str rfl, trivial⟩⟩
theorem ti12 : TIOK Tryz.prog 12 ⟨.int .u64, 1, 8, [.int .u64 0], some (.int .u64)⟩ := ⟨Tryz.underlying12, Tryz.t12, _, by kernel_rfl, rfl, rfl, rfl, ⟨z_int, trivial⟩⟩
theorem ti13 : TIOK Tryz.prog 13 ⟨.struct [(0, 9), (1, 12)], 2, 24, [.str [], .int .u64 0], none⟩ := ⟨⟨_, Tryz.underlying13, rfl⟩, Tryz.t13, _, by kernel_rfl, rfl, rfl, rfl, ⟨z_str rfl, z_int, trivial⟩⟩
theorem ti14 : TIOK Tryz.prog 14 ⟨.struct [(0, 9), (1, 12)], 2, 24, [.str [], .int .u64 0], none⟩ := ⟨⟨_, Tryz.underlying14, rfl⟩, Tryz.t14, _, by kernel_rfl, rfl, rfl, rfl, ⟨z_str rfl, z_int, trivial⟩⟩
theorem ti15 : TIOK Tryz.prog 15 ⟨.ptr 147, 1, 8, [.nilp], none⟩ := ⟨Tryz.underlying15, Tryz.t15, _, by kernel_rfl, rfl, rfl, rfl, ⟨z_nilp, trivial⟩⟩
theorem ti16 : TIOK Tryz.prog 16 ⟨.ptr 150, 1, 8, [.nilp], none⟩ := ⟨Tryz.underlying16, Tryz.t16, _, by kernel_rfl, rfl, rfl, rfl, ⟨z_nilp, trivial⟩⟩
theorem ti17 : TIOK Tryz.prog 17 ⟨.ptr 157, 1, 8, [.nilp], none⟩ := ⟨Tryz.underlying17, Tryz.t17, _, by kernel_rfl, rfl, rfl, rfl, ⟨z_nilp, trivial⟩⟩
theorem ti18 : TIOK Tryz.prog 18 ⟨.struct [(0, 17)], 1, 8, [.nilp], none⟩ := ⟨⟨_, Tryz.underlying18, rfl⟩, Tryz.t18, _, by kernel_rfl, rfl, rfl, rfl, ⟨z_nilp, trivial⟩⟩
theorem ti19 : TIOK Tryz.prog 19 ⟨.struct [(0, 17)], 1, 8, [.nilp], none⟩ := ⟨⟨_, Tryz.underlying19, rfl⟩, Tryz.t19, _, by kernel_rfl, rfl, rfl, rfl, ⟨z_nilp, trivial⟩⟩
theorem ti20 : TIOK Tryz.prog 20 ⟨.other, 1, 16, [.nili], none⟩ := ⟨⟨_, Tryz.underlying20, (fun f h => by cases h), (fun n e h => by cases h)⟩, Tryz.t20, _, by kernel_rfl, rfl, rfl, rfl, ⟨z_nili, trivial⟩⟩
theorem ti21 : TIOK Tryz.prog 21 ⟨.int .i32, 1, 4, [.int .i32 0], some (.int .i32)⟩ := ⟨Tryz.underlying21, Tryz.t21, _, by kernel_rfl, rfl, rfl, rfl, ⟨z_int, trivial⟩⟩
theorem ti22 : TIOK Tryz.prog 22 ⟨.slc 5, 1, 24, [.nils], none⟩ := ⟨Tryz.underlying22, Tryz.t22, _, by kernel_rfl, rfl, rfl, rfl, ⟨z_nils, trivial⟩⟩
theorem ti23 : TIOK Tryz.prog 23 ⟨.other, 1, 8, [.nilf], none⟩ := ⟨⟨_, Tryz.underlying23, (fun f h => by cases h), (fun n e h => by cases h)⟩, Tryz.t23, _, by kernel_rfl, rfl, rfl, rfl, ⟨z_nilf, trivial⟩⟩
theorem ti24 : TIOK Tryz.prog 24 ⟨.flt .f32, 1, 4, [.flt .f32 0], some (.flt .f32)⟩ := ⟨Tryz.underlying24, Tryz.t24, _, by kernel_rfl, rfl, rfl, rfl, ⟨z_f32, trivial⟩⟩
theorem ti25 : TIOK Tryz.prog 25 ⟨.struct [(0, 24), (1, 24), (2, 24)], 3, 12, [.flt .f32 0, .flt .f32 0, .flt .f32 0], none⟩ := ⟨⟨_, Tryz.underlying25, rfl⟩, Tryz.t25, _, by kernel_rfl, rfl, rfl, rfl, ⟨z_f32, z_f32, z_f32, trivial⟩⟩
theorem ti26 : TIOK Tryz.prog 26 ⟨.struct [(0, 24), (1, 24), (2, 24)], 3, 12, [.flt .f32 0, .flt .f32 0, .flt .f32 0], some .vec⟩ := ⟨⟨_, Tryz.underlying26, rfl⟩, Tryz.t26, _, by kernel_rfl, rfl, rfl, rfl, ⟨z_f32, z_f32, z_f32, trivial⟩⟩
theorem ti27 : TIOK Tryz.prog 27 ⟨.other, 1, 8, [.nilf], none⟩ := ⟨⟨_, Tryz.underlying27, (fun f h => by cases h), (fun n e h => by cases h)⟩, Tryz.t27, _, by kernel_rfl, rfl, rfl, rfl, ⟨z_nilf, trivial⟩⟩
theorem ti28 : TIOK Tryz.prog 28 ⟨.other, 1, 8, [.nilf], none⟩ := ⟨⟨_, Tryz.underlying28, (fun f h => by cases h), (fun n e h => by cases h)⟩, Tryz.t28, _, by kernel_rfl, rfl, rfl, rfl, ⟨z_nilf, trivial⟩⟩
theorem ti29 : TIOK Tryz.prog 29 ⟨.other, 1, 8, [.nilf], none⟩ := ⟨⟨_, Tryz.underlying29, (fun f h => by cases h), (fun n e h => by cases h)⟩, Tryz.t29, _, by kernel_rfl, rfl, rfl, rfl, ⟨z_nilf, trivial⟩⟩
theorem ti30 : TIOK Tryz.prog 30 ⟨.other, 1, 8, [.nilf], none⟩ := ⟨⟨_, Tryz.underlying30, (fun f h => by cases h), (fun n e h => by cases h)⟩, Tryz.t30, _, by kernel_rfl, rfl, rfl, rfl, ⟨z_nilf, trivial⟩⟩
theorem ti31 : TIOK Tryz.prog 31 ⟨.other, 1, 8, [.nilf], none⟩ := ⟨⟨_, Tryz.underlying31, (fun f h => by cases h), (fun n e h => by cases h)⟩, Tryz.t31, _, by kernel_rfl, rfl, rfl, rfl, ⟨z_nilf, trivial⟩⟩
theorem ti32 : TIOK Tryz.prog 32 ⟨.other, 1, 8, [.nilf], none⟩ := ⟨⟨_, Tryz.underlying32, (fun f h => by cases h), (fun n e h => by cases h)⟩, Tryz.t32, _, by kernel_rfl, rfl, rfl, rfl, ⟨z_nilf, trivial⟩⟩
theorem ti33 : TIOK Tryz.prog 33 ⟨.other, 1, 8, [.nilf], none⟩ := ⟨⟨_, Tryz.underlying33, (fun f h => by cases h), (fun n e h => by cases h)⟩, Tryz.t33, _, by kernel_rfl, rfl, rfl, rfl, ⟨z_nilf, trivial⟩⟩
theorem ti34 : TIOK Tryz.prog 34 ⟨.other, 1, 8, [.nilf], none⟩ := ⟨⟨_, Tryz.underlying34, (fun f h => by cases h), (fun n e h => by cases h)⟩, Tryz.t34, _, by kernel_rfl, rfl, rfl, rfl, ⟨z_nilf, trivial⟩⟩
theorem ti35 : TIOK Tryz.prog 35 ⟨.other, 1, 8, [.nilf], none⟩ := ⟨⟨_, Tryz.underlying35, (fun f h => by cases h), (fun n e h => by cases h)⟩, Tryz.t35, _, by kernel_rfl, rfl, rfl, rfl, ⟨z_nilf, trivial⟩⟩
theorem ti36 : TIOK Tryz.prog 36 ⟨.other, 1, 8, [.nilf], none⟩ := ⟨⟨_, Tryz.underlying36, (fun f h => by cases h), (fun n e h => by cases h)⟩, Tryz.t36, _, by kernel_rfl, rfl, rfl, rfl, ⟨z_nilf, trivial⟩⟩
theorem ti37 : TIOK Tryz.prog 37 ⟨.other, 1, 8, [.nilf], none⟩ := ⟨⟨_, Tryz.underlying37, (fun f h => by cases h), (fun n e h => by cases h)⟩, Tryz.t37, _, by kernel_rfl, rfl, rfl, rfl, ⟨z_nilf, trivial⟩⟩
theorem ti39 : TIOK Tryz.prog 39 ⟨.other, 1, 8, [.nilf], none⟩ := ⟨⟨_, Tryz.underlying39, (fun f h => by cases h), (fun n e h => by cases h)⟩, Tryz.t39, _, by kernel_rfl, rfl, rfl, rfl, ⟨z_nilf, trivial⟩⟩
theorem ti40 : TIOK Tryz.prog 40 ⟨.ptr 53, 1, 8, [.nilp], none⟩ := ⟨Tryz.underlying40, Tryz.t40, _, by kernel_rfl, rfl, rfl, rfl, ⟨z_nilp, trivial⟩⟩
theorem ti41 : TIOK Tryz.prog 41 ⟨.other, 1, 8, [.nilf], none⟩ := ⟨⟨_, Tryz.underlying41, (fun f h => by cases h), (fun n e h => by cases h)⟩, Tryz.t41, _, by kernel_rfl, rfl, rfl, rfl, ⟨z_nilf, trivial⟩⟩
theorem ti42 : TIOK Tryz.prog 42 ⟨.other, 1, 8, [.nilf], none⟩ := ⟨⟨_, Tryz.underlying42, (fun f h => by cases h), (fun n e h => by cases h)⟩, Tryz.t42, _, by kernel_rfl, rfl, rfl, rfl, ⟨z_nilf, trivial⟩⟩
theorem ti43 : TIOK Tryz.prog 43 ⟨.other, 1, 8, [.nilf], none⟩ := ⟨⟨_, Tryz.underlying43, (fun f h => by cases h), (fun n e h => by cases h)⟩, Tryz.t43, _, by kernel_rfl, rfl, rfl, rfl, ⟨z_nilf, trivial⟩⟩
theorem ti45 : TIOK Tryz.prog 45 ⟨.other, 1, 8, [.nilf], none⟩ := ⟨⟨_, Tryz.underlying45, (fun f h => by cases h), (fun n e h => by cases h)⟩, Tryz.t45, _, by kernel_rfl, rfl, rfl, rfl, ⟨z_nilf, trivial⟩⟩
theorem ti46 : TIOK Tryz.prog 46 ⟨.slc 24, 1, 24, [.nils], none⟩ := ⟨Tryz.underlying46, Tryz.t46, _, by kernel_rfl, rfl, rfl, rfl, ⟨z_nils, trivial⟩⟩
theorem ti47 : TIOK Tryz.prog 47 ⟨.other, 1, 8, [.nilf], none⟩ := ⟨⟨_, Tryz.underlying47, (fun f h => by cases h), (fun n e h => by cases h)⟩, Tryz.t47, _, by kernel_rfl, rfl, rfl, rfl, ⟨z_nilf, trivial⟩⟩
theorem ti49 : TIOK Tryz.prog 49 ⟨.other, 1, 8, [.nilf], none⟩ := ⟨⟨_, Tryz.underlying49, (fun f h => by cases h), (fun n e h => by cases h)⟩, Tryz.t49, _, by kernel_rfl, rfl, rfl, rfl, ⟨z_nilf, trivial⟩⟩
theorem ti50 : TIOK Tryz.prog 50 ⟨.other, 1, 8, [.nilf], none⟩ := ⟨⟨_, Tryz.underlying50, (fun f h => by cases h), (fun n e h => by cases h)⟩, Tryz.t50, _, by kernel_rfl, rfl, rfl, rfl, ⟨z_nilf, trivial⟩⟩
theorem ti51 : TIOK Tryz.prog 51 ⟨.int .u64, 1, 8, [.int .u64 0], some (.int .u64)⟩ := ⟨Tryz.underlying51, Tryz.t51, _, by kernel_rfl, rfl, rfl, rfl, ⟨z_int, trivial⟩⟩
theorem ti52 : TIOK Tryz.prog 52 ⟨.struct [(0, 22), (1, 3), (2, 51)], 3, 40, [.nils, .int .i64 0, .int .u64 0], none⟩ := ⟨⟨_, Tryz.underlying52, rfl⟩, Tryz.t52, _, by kernel_rfl, rfl, rfl, rfl, ⟨z_nils, z_int, z_int, trivial⟩⟩
theorem ti53 : TIOK Tryz.prog 53 ⟨.struct [(0, 22), (1, 3), (2, 51)], 3, 40, [.nils, .int .i64 0, .int .u64 0], none⟩ := ⟨⟨_, Tryz.underlying53, rfl⟩, Tryz.t53, _, by kernel_rfl, rfl, rfl, rfl, ⟨z_nils, z_int, z_int, trivial⟩⟩
theorem ti54 : TIOK Tryz.prog 54 ⟨.other, 1, 8, [.nilf], none⟩ := ⟨⟨_, Tryz.underlying54, (fun f h => by cases h), (fun n e h => by cases h)⟩, Tryz.t54, _, by kernel_rfl, rfl, rfl, rfl, ⟨z_nilf, trivial⟩⟩
theorem ti55 : TIOK Tryz.prog 55 ⟨.other, 1, 8, [.nilf], none⟩ := ⟨⟨_, Tryz.underlying55, (fun f h => by cases h), (fun n e h => by cases h)⟩, Tryz.t55, _, by kernel_rfl, rfl, rfl, rfl, ⟨z_nilf, trivial⟩⟩
theorem ti56 : TIOK Tryz.prog 56 ⟨.flt .f64, 1, 8, [.flt .f64 0], some (.flt .f64)⟩ := ⟨Tryz.underlying56, Tryz.t56, _, by kernel_rfl, rfl, rfl, rfl, ⟨z_f64, trivial⟩⟩
theorem ti57 : TIOK Tryz.prog 57 ⟨.other, 1, 8, [.nilf], none⟩ := ⟨⟨_, Tryz.underlying57, (fun f h => by cases h), (fun n e h => by cases h)⟩, Tryz.t57, _, by kernel_rfl, rfl, rfl, rfl, ⟨z_nilf, trivial⟩⟩
theorem ti58 : TIOK Tryz.prog 58 ⟨.other, 1, 8, [.nilf], none⟩ := ⟨⟨_, Tryz.underlying58, (fun f h => by cases h), (fun n e h => by cases h)⟩, Tryz.t58, _, by kernel_rfl, rfl, rfl, rfl, ⟨z_nilf, trivial⟩⟩
theorem ti59 : TIOK Tryz.prog 59 ⟨.other, 1, 8, [.nilf], none⟩ := ⟨⟨_, Tryz.underlying59, (fun f h => by cases h), (fun n e h => by cases h)⟩, Tryz.t59, _, by kernel_rfl, rfl, rfl, rfl, ⟨z_nilf, trivial⟩⟩
theorem ti60 : TIOK Tryz.prog 60 ⟨.other, 1, 8, [.nilf], none⟩ := ⟨⟨_, Tryz.underlying60, (fun f h => by cases h), (fun n e h => by cases h)⟩, Tryz.t60, _, by kernel_rfl, rfl, rfl, rfl, ⟨z_nilf, trivial⟩⟩
theorem ti61 : TIOK Tryz.prog 61 ⟨.slc 9, 1, 24, [.nils], none⟩ := ⟨Tryz.underlying61, Tryz.t61, _, by kernel_rfl, rfl, rfl, rfl, ⟨z_nils, trivial⟩⟩
theorem ti62 : TIOK Tryz.prog 62 ⟨.other, 1, 8, [.nilf], none⟩ := ⟨⟨_, Tryz.underlying62, (fun f h => by cases h), (fun n e h => by cases h)⟩, Tryz.t62, _, by kernel_rfl, rfl, rfl, rfl, ⟨z_nilf, trivial⟩⟩
theorem ti63 : TIOK Tryz.prog 63 ⟨.other, 1, 8, [.nilf], none⟩ := ⟨⟨_, Tryz.underlying63, (fun f h => by cases h), (fun n e h => by cases h)⟩, Tryz.t63, _, by kernel_rfl, rfl, rfl, rfl, ⟨z_nilf, trivial⟩⟩
theorem ti65 : TIOK Tryz.prog 65 ⟨.other, 1, 8, [.nilf], none⟩ := ⟨⟨_, Tryz.underlying65, (fun f h => by cases h), (fun n e h => by cases h)⟩, Tryz.t65, _, by kernel_rfl, rfl, rfl, rfl, ⟨z_nilf, trivial⟩⟩
theorem ti67 : TIOK Tryz.prog 67 ⟨.other, 1, 8, [.nilf], none⟩ := ⟨⟨_, Tryz.underlying67, (fun f h => by cases h), (fun n e h => by cases h)⟩, Tryz.t67, _, by kernel_rfl, rfl, rfl, rfl, ⟨z_nilf, trivial⟩⟩
theorem ti68 : TIOK Tryz.prog 68 ⟨.other, 1, 8, [.nilf], none⟩ := ⟨⟨_, Tryz.underlying68, (fun f h => by cases h), (fun n e h => by cases h)⟩, Tryz.t68, _, by kernel_rfl, rfl, rfl, rfl, ⟨z_nilf, trivial⟩⟩
theorem ti69 : TIOK Tryz.prog 69 ⟨.int .u64, 1, 8, [.int .u64 0], some (.int .u64)⟩ := ⟨Tryz.underlying69, Tryz.t69, _, by kernel_rfl, rfl, rfl, rfl, ⟨z_int, trivial⟩⟩
theorem ti70 : TIOK Tryz.prog 70 ⟨.int .u32, 1, 4, [.int .u32 0], some (.int .u32)⟩ := ⟨Tryz.underlying70, Tryz.t70, _, by kernel_rfl, rfl, rfl, rfl, ⟨z_int, trivial⟩⟩
theorem ti71 : TIOK Tryz.prog 71 ⟨.other, 1, 8, [.nilf], none⟩ := ⟨⟨_, Tryz.underlying71, (fun f h => by cases h), (fun n e h => by cases h)⟩, Tryz.t71, _, by kernel_rfl, rfl, rfl, rfl, ⟨z_nilf, trivial⟩⟩
theorem ti72 : TIOK Tryz.prog 72 ⟨.other, 1, 8, [.nilf], none⟩ := ⟨⟨_, Tryz.underlying72, (fun f h => by cases h), (fun n e h => by cases h)⟩, Tryz.t72, _, by kernel_rfl, rfl, rfl, rfl, ⟨z_nilf, trivial⟩⟩
theorem ti73 : TIOK Tryz.prog 73 ⟨.other, 1, 8, [.nilf], none⟩ := ⟨⟨_, Tryz.underlying73, (fun f h => by cases h), (fun n e h => by cases h)⟩, Tryz.t73, _, by kernel_rfl, rfl, rfl, rfl, ⟨z_nilf, trivial⟩⟩
theorem ti74 : TIOK Tryz.prog 74 ⟨.slc 2, 1, 24, [.nils], none⟩ := ⟨Tryz.underlying74, Tryz.t74, _, by kernel_rfl, rfl, rfl, rfl, ⟨z_nils, trivial⟩⟩
theorem ti75 : TIOK Tryz.prog 75 ⟨.other, 1, 8, [.nilf], none⟩ := ⟨⟨_, Tryz.underlying75, (fun f h => by cases h), (fun n e h => by cases h)⟩, Tryz.t75, _, by kernel_rfl, rfl, rfl, rfl, ⟨z_nilf, trivial⟩⟩
theorem ti76 : TIOK Tryz.prog 76 ⟨.other, 1, 8, [.nilf], none⟩ := ⟨⟨_, Tryz.underlying76, (fun f h => by cases h), (fun n e h => by cases h)⟩, Tryz.t76, _, by kernel_rfl, rfl, rfl, rfl, ⟨z_nilf, trivial⟩⟩
theorem ti77 : TIOK Tryz.prog 77 ⟨.other, 1, 8, [.nilf], none⟩ := ⟨⟨_, Tryz.underlying77, (fun f h => by cases h), (fun n e h => by cases h)⟩, Tryz.t77, _, by kernel_rfl, rfl, rfl, rfl, ⟨z_nilf, trivial⟩⟩
theorem ti78 : TIOK Tryz.prog 78 ⟨.other, 1, 8, [.nilf], none⟩ := ⟨⟨_, Tryz.underlying78, (fun f h => by cases h), (fun n e h => by cases h)⟩, Tryz.t78, _, by kernel_rfl, rfl, rfl, rfl, ⟨z_nilf, trivial⟩⟩
theorem ti79 : TIOK Tryz.prog 79 ⟨.other, 1, 16, [.nili], none⟩ := ⟨⟨_, Tryz.underlying79, (fun f h => by cases h), (fun n e h => by cases h)⟩, Tryz.t79, _, by kernel_rfl, rfl, rfl, rfl, ⟨z_nili, trivial⟩⟩
theorem ti80 : TIOK Tryz.prog 80 ⟨.other, 1, 16, [.nili], none⟩ := ⟨⟨_, Tryz.underlying80, (fun f h => by cases h), (fun n e h => by cases h)⟩, Tryz.t80, _, by kernel_rfl, rfl, rfl, rfl, ⟨z_nili, trivial⟩⟩
theorem ti82 : TIOK Tryz.prog 82 ⟨.other, 1, 8, [.nilf], none⟩ := ⟨⟨_, Tryz.underlying82, (fun f h => by cases h), (fun n e h => by cases h)⟩, Tryz.t82, _, by kernel_rfl, rfl, rfl, rfl, ⟨z_nilf, trivial⟩⟩
theorem ti83 : TIOK Tryz.prog 83 ⟨.other, 1, 8, [.nilf], none⟩ := ⟨⟨_, Tryz.underlying83, (fun f h => by cases h), (fun n e h => by cases h)⟩, Tryz.t83, _, by kernel_rfl, rfl, rfl, rfl, ⟨z_nilf, trivial⟩⟩
theorem ti84 : TIOK Tryz.prog 84 ⟨.other, 1, 8, [.nilf], none⟩ := ⟨⟨_, Tryz.underlying84, (fun f h => by cases h), (fun n e h => by cases h)⟩, Tryz.t84, _, by kernel_rfl, rfl, rfl, rfl, ⟨z_nilf, trivial⟩⟩
theorem ti86 : TIOK Tryz.prog 86 ⟨.other, 1, 8, [.nilf], none⟩ := ⟨⟨_, Tryz.underlying86, (fun f h => by cases h), (fun n e h => by cases h)⟩, Tryz.t86, _, by kernel_rfl, rfl, rfl, rfl, ⟨z_nilf, trivial⟩⟩
theorem ti87 : TIOK Tryz.prog 87 ⟨.other, 1, 8, [.nilf], none⟩ := ⟨⟨_, Tryz.underlying87, (fun f h => by cases h), (fun n e h => by cases h)⟩, Tryz.t87, _, by kernel_rfl, rfl, rfl, rfl, ⟨z_nilf, trivial⟩⟩
theorem ti88 : TIOK Tryz.prog 88 ⟨.ptr 90, 1, 8, [.nilp], none⟩ := ⟨Tryz.underlying88, Tryz.t88, _, by kernel_rfl, rfl, rfl, rfl, ⟨z_nilp, trivial⟩⟩
theorem ti89 : TIOK Tryz.prog 89 ⟨.struct [(0, 88), (1, 22)], 2, 32, [.nilp, .nils], none⟩ := ⟨⟨_, Tryz.underlying89, rfl⟩, Tryz.t89, _, by kernel_rfl, rfl, rfl, rfl, ⟨z_nilp, z_nils, trivial⟩⟩
theorem ti90 : TIOK Tryz.prog 90 ⟨.struct [(0, 88), (1, 22)], 2, 32, [.nilp, .nils], none⟩ := ⟨⟨_, Tryz.underlying90, rfl⟩, Tryz.t90, _, by kernel_rfl, rfl, rfl, rfl, ⟨z_nilp, z_nils, trivial⟩⟩
theorem ti91 : TIOK Tryz.prog 91 ⟨.other, 1, 8, [.nilf], none⟩ := ⟨⟨_, Tryz.underlying91, (fun f h => by cases h), (fun n e h => by cases h)⟩, Tryz.t91, _, by kernel_rfl, rfl, rfl, rfl, ⟨z_nilf, trivial⟩⟩
theorem ti93 : TIOK Tryz.prog 93 ⟨.other, 1, 8, [.nilf], none⟩ := ⟨⟨_, Tryz.underlying93, (fun f h => by cases h), (fun n e h => by cases h)⟩, Tryz.t93, _, by kernel_rfl, rfl, rfl, rfl, ⟨z_nilf, trivial⟩⟩
theorem ti94 : TIOK Tryz.prog 94 ⟨.other, 1, 8, [.nilf], none⟩ := ⟨⟨_, Tryz.underlying94, (fun f h => by cases h), (fun n e h => by cases h)⟩, Tryz.t94, _, by kernel_rfl, rfl, rfl, rfl, ⟨z_nilf, trivial⟩⟩
theorem ti95 : TIOK Tryz.prog 95 ⟨.other, 1, 8, [.nilf], none⟩ := ⟨⟨_, Tryz.underlying95, (fun f h => by cases h), (fun n e h => by cases h)⟩, Tryz.t95, _, by kernel_rfl, rfl, rfl, rfl, ⟨z_nilf, trivial⟩⟩
theorem ti96 : TIOK Tryz.prog 96 ⟨.other, 1, 8, [.nilf], none⟩ := ⟨⟨_, Tryz.underlying96, (fun f h => by cases h), (fun n e h => by cases h)⟩, Tryz.t96, _, by kernel_rfl, rfl, rfl, rfl, ⟨z_nilf, trivial⟩⟩
theorem ti97 : TIOK Tryz.prog 97 ⟨.other, 1, 8, [.nilf], none⟩ := ⟨⟨_, Tryz.underlying97, (fun f h => by cases h), (fun n e h => by cases h)⟩, Tryz.t97, _, by kernel_rfl, rfl, rfl, rfl, ⟨z_nilf, trivial⟩⟩
theorem ti98 : TIOK Tryz.prog 98 ⟨.other, 1, 8, [.nilf], none⟩ := ⟨⟨_, Tryz.underlying98, (fun f h => by cases h), (fun n e h => by cases h)⟩, Tryz.t98, _, by kernel_rfl, rfl, rfl, rfl, ⟨z_nilf, trivial⟩⟩
theorem ti99 : TIOK Tryz.prog 99 ⟨.other, 1, 8, [.nilf], none⟩ := ⟨⟨_, Tryz.underlying99, (fun f h => by cases h), (fun n e h => by cases h)⟩, Tryz.t99, _, by kernel_rfl, rfl, rfl, rfl, ⟨z_nilf, trivial⟩⟩
theorem ti100 : TIOK Tryz.prog 100 ⟨.arr 24 5, 24, 24, [.int .u8 0, .int .u8 0, .int .u8 0, .int .u8 0, .int .u8 0, .int .u8 0, .int .u8 0, .int .u8 0, .int .u8 0, .int .u8 0, .int .u8 0, .int .u8 0, .int .u8 0, .int .u8 0, .int .u8 0, .int .u8 0, .int .u8 0, .int .u8 0, .int .u8 0, .int .u8 0, .int .u8 0, .int .u8 0, .int .u8 0, .int .u8 0], none⟩ := ⟨Tryz.underlying100, Tryz.t100, _, by kernel_rfl, rfl, rfl, rfl, ⟨z_int, z_int, z_int, z_int, z_int, z_int, z_int, z_int, z_int, z_int, z_int, z_int, z_int, z_int, z_int, z_int, z_int, z_int, z_int, z_int, z_int, z_int, z_int, z_int, trivial⟩⟩
theorem ti101 : TIOK Tryz.prog 101 ⟨.other, 1, 8, [.nilf], none⟩ := ⟨⟨_, Tryz.underlying101, (fun f h => by cases h), (fun n e h => by cases h)⟩, Tryz.t101, _, by kernel_rfl, rfl, rfl, rfl, ⟨z_nilf, trivial⟩⟩
theorem ti102 : TIOK Tryz.prog 102 ⟨.other, 1, 8, [.nilf], none⟩ := ⟨⟨_, Tryz.underlying102, (fun f h => by cases h), (fun n e h => by cases h)⟩, Tryz.t102, _, by kernel_rfl, rfl, rfl, rfl, ⟨z_nilf, trivial⟩⟩
theorem ti104 : TIOK Tryz.prog 104 ⟨.other, 1, 8, [.nilf], none⟩ := ⟨⟨_, Tryz.underlying104, (fun f h => by cases h), (fun n e h => by cases h)⟩, Tryz.t104, _, by kernel_rfl, rfl, rfl, rfl, ⟨z_nilf, trivial⟩⟩
theorem ti106 : TIOK Tryz.prog 106 ⟨.other, 1, 8, [.nilf], none⟩ := ⟨⟨_, Tryz.underlying106, (fun f h => by cases h), (fun n e h => by cases h)⟩, Tryz.t106, _, by kernel_rfl, rfl, rfl, rfl, ⟨z_nilf, trivial⟩⟩
theorem ti108 : TIOK Tryz.prog 108 ⟨.other, 1, 8, [.nilf], none⟩ := ⟨⟨_, Tryz.underlying108, (fun f h => by cases h), (fun n e h => by cases h)⟩, Tryz.t108, _, by kernel_rfl, rfl, rfl, rfl, ⟨z_nilf, trivial⟩⟩
theorem ti109 : TIOK Tryz.prog 109 ⟨.ptr 5, 1, 8, [.nilp], none⟩ := ⟨Tryz.underlying109, Tryz.t109, _, by kernel_rfl, rfl, rfl, rfl, ⟨z_nilp, trivial⟩⟩
theorem ti110 : TIOK Tryz.prog 110 ⟨.other, 1, 8, [.nilf], none⟩ := ⟨⟨_, Tryz.underlying110, (fun f h => by cases h), (fun n e h => by cases h)⟩, Tryz.t110, _, by kernel_rfl, rfl, rfl, rfl, ⟨z_nilf, trivial⟩⟩
theorem ti111 : TIOK Tryz.prog 111 ⟨.other, 1, 8, [.nilf], none⟩ := ⟨⟨_, Tryz.underlying111, (fun f h => by cases h), (fun n e h => by cases h)⟩, Tryz.t111, _, by kernel_rfl, rfl, rfl, rfl, ⟨z_nilf, trivial⟩⟩
theorem ti112 : TIOK Tryz.prog 112 ⟨.int .i64, 1, 8, [.int .i64 0], some (.int .i64)⟩ := ⟨Tryz.underlying112, Tryz.t112, _, by kernel_rfl, rfl, rfl, rfl, ⟨z_int, trivial⟩⟩
theorem ti113 : TIOK Tryz.prog 113 ⟨.other, 1, 8, [.nilf], none⟩ := ⟨⟨_, Tryz.underlying113, (fun f h => by cases h), (fun n e h => by cases h)⟩, Tryz.t113, _, by kernel_rfl, rfl, rfl, rfl, ⟨z_nilf, trivial⟩⟩
theorem ti114 : TIOK Tryz.prog 114 ⟨.other, 1, 8, [.nilf], none⟩ := ⟨⟨_, Tryz.underlying114, (fun f h => by cases h), (fun n e h => by cases h)⟩, Tryz.t114, _, by kernel_rfl, rfl, rfl, rfl, ⟨z_nilf, trivial⟩⟩
theorem ti115 : TIOK Tryz.prog 115 ⟨.ptr 133, 1, 8, [.nilp], none⟩ := ⟨Tryz.underlying115, Tryz.t115, _, by kernel_rfl, rfl, rfl, rfl, ⟨z_nilp, trivial⟩⟩
theorem ti116 : TIOK Tryz.prog 116 ⟨.other, 1, 8, [.nilf], none⟩ := ⟨⟨_, Tryz.underlying116, (fun f h => by cases h), (fun n e h => by cases h)⟩, Tryz.t116, _, by kernel_rfl, rfl, rfl, rfl, ⟨z_nilf, trivial⟩⟩
theorem ti117 : TIOK Tryz.prog 117 ⟨.other, 1, 8, [.nilf], none⟩ := ⟨⟨_, Tryz.underlying117, (fun f h => by cases h), (fun n e h => by cases h)⟩, Tryz.t117, _, by kernel_rfl, rfl, rfl, rfl, ⟨z_nilf, trivial⟩⟩
theorem ti118 : TIOK Tryz.prog 118 ⟨.other, 1, 8, [.nilf], none⟩ := ⟨⟨_, Tryz.underlying118, (fun f h => by cases h), (fun n e h => by cases h)⟩, Tryz.t118, _, by kernel_rfl, rfl, rfl, rfl, ⟨z_nilf, trivial⟩⟩
theorem ti119 : TIOK Tryz.prog 119 ⟨.other, 1, 8, [.nilf], none⟩ := ⟨⟨_, Tryz.underlying119, (fun f h => by cases h), (fun n e h => by cases h)⟩, Tryz.t119, _, by kernel_rfl, rfl, rfl, rfl, ⟨z_nilf, trivial⟩⟩
theorem ti120 : TIOK Tryz.prog 120 ⟨.arr 20 51, 20, 160, [.int .u64 0, .int .u64 0, .int .u64 0, .int .u64 0, .int .u64 0, .int .u64 0, .int .u64 0, .int .u64 0, .int .u64 0, .int .u64 0, .int .u64 0, .int .u64 0, .int .u64 0, .int .u64 0, .int .u64 0, .int .u64 0, .int .u64 0, .int .u64 0, .int .u64 0, .int .u64 0], none⟩ := ⟨Tryz.underlying120, Tryz.t120, _, by kernel_rfl, rfl, rfl, rfl, ⟨z_int, z_int, z_int, z_int, z_int, z_int, z_int, z_int, z_int, z_int, z_int, z_int, z_int, z_int, z_int, z_int, z_int, z_int, z_int, z_int, trivial⟩⟩
theorem ti122 : TIOK Tryz.prog 122 ⟨.other, 1, 8, [.nilf], none⟩ := ⟨⟨_, Tryz.underlying122, (fun f h => by cases h), (fun n e h => by cases h)⟩, Tryz.t122, _, by kernel_rfl, rfl, rfl, rfl, ⟨z_nilf, trivial⟩⟩
theorem ti123 : TIOK Tryz.prog 123 ⟨.other, 1, 8, [.nilf], none⟩ := ⟨⟨_, Tryz.underlying123, (fun f h => by cases h), (fun n e h => by cases h)⟩, Tryz.t123, _, by kernel_rfl, rfl, rfl, rfl, ⟨z_nilf, trivial⟩⟩
theorem ti124 : TIOK Tryz.prog 124 ⟨.other, 1, 8, [.nilp], none⟩ := ⟨⟨_, Tryz.underlying124, (fun f h => by cases h), (fun n e h => by cases h)⟩, Tryz.t124, _, by kernel_rfl, rfl, rfl, rfl, ⟨z_nilp, trivial⟩⟩
theorem ti125 : TIOK Tryz.prog 125 ⟨.other, 1, 8, [.nilf], none⟩ := ⟨⟨_, Tryz.underlying125, (fun f h => by cases h), (fun n e h => by cases h)⟩, Tryz.t125, _, by kernel_rfl, rfl, rfl, rfl, ⟨z_nilf, trivial⟩⟩
theorem ti126 : TIOK Tryz.prog 126 ⟨.other, 1, 8, [.nilf], none⟩ := ⟨⟨_, Tryz.underlying126, (fun f h => by cases h), (fun n e h => by cases h)⟩, Tryz.t126, _, by kernel_rfl, rfl, rfl, rfl, ⟨z_nilf, trivial⟩⟩
theorem ti127 : TIOK Tryz.prog 127 ⟨.other, 1, 8, [.nilf], none⟩ := ⟨⟨_, Tryz.underlying127, (fun f h => by cases h), (fun n e h => by cases h)⟩, Tryz.t127, _, by kernel_rfl, rfl, rfl, rfl, ⟨z_nilf, trivial⟩⟩
theorem ti129 : TIOK Tryz.prog 129 ⟨.other, 1, 8, [.nilf], none⟩ := ⟨⟨_, Tryz.underlying129, (fun f h => by cases h), (fun n e h => by cases h)⟩, Tryz.t129, _, by kernel_rfl, rfl, rfl, rfl, ⟨z_nilf, trivial⟩⟩
theorem ti130 : TIOK Tryz.prog 130 ⟨.other, 1, 8, [.nilf], none⟩ := ⟨⟨_, Tryz.underlying130, (fun f h => by cases h), (fun n e h => by cases h)⟩, Tryz.t130, _, by kernel_rfl, rfl, rfl, rfl, ⟨z_nilf, trivial⟩⟩
theorem ti131 : TIOK Tryz.prog 131 ⟨.other, 1, 8, [.nilf], none⟩ := ⟨⟨_, Tryz.underlying131, (fun f h => by cases h), (fun n e h => by cases h)⟩, Tryz.t131, _, by kernel_rfl, rfl, rfl, rfl, ⟨z_nilf, trivial⟩⟩
theorem ti132 : TIOK Tryz.prog 132 ⟨.struct [(0, 9), (1, 9), (2, 80)], 3, 48, [.str [], .str [], .nili], none⟩ := ⟨⟨_, Tryz.underlying132, rfl⟩, Tryz.t132, _, by kernel_rfl, rfl, rfl, rfl, ⟨z_str rfl, z_str rfl, z_nili, trivial⟩⟩
theorem ti133 : TIOK Tryz.prog 133 ⟨.struct [(0, 9), (1, 9), (2, 80)], 3, 48, [.str [], .str [], .nili], none⟩ := ⟨⟨_, Tryz.underlying133, rfl⟩, Tryz.t133, _, by kernel_rfl, rfl, rfl, rfl, ⟨z_str rfl, z_str rfl, z_nili, trivial⟩⟩
theorem ti134 : TIOK Tryz.prog 134 ⟨.other, 1, 8, [.nilf], none⟩ := ⟨⟨_, Tryz.underlying134, (fun f h => by cases h), (fun n e h => by cases h)⟩, Tryz.t134, _, by kernel_rfl, rfl, rfl, rfl, ⟨z_nilf, trivial⟩⟩
theorem ti135 : TIOK Tryz.prog 135 ⟨.other, 1, 8, [.nilf], none⟩ := ⟨⟨_, Tryz.underlying135, (fun f h => by cases h), (fun n e h => by cases h)⟩, Tryz.t135, _, by kernel_rfl, rfl, rfl, rfl, ⟨z_nilf, trivial⟩⟩
theorem ti136 : TIOK Tryz.prog 136 ⟨.ptr 138, 1, 8, [.nilp], none⟩ := ⟨Tryz.underlying136, Tryz.t136, _, by kernel_rfl, rfl, rfl, rfl, ⟨z_nilp, trivial⟩⟩
theorem ti137 : TIOK Tryz.prog 137 ⟨.struct [(0, 9)], 1, 16, [.str []], none⟩ := ⟨⟨_, Tryz.underlying137, rfl⟩, Tryz.t137, _, by kernel_rfl, rfl, rfl, rfl, ⟨z_str rfl, trivial⟩⟩
theorem ti138 : TIOK Tryz.prog 138 ⟨.struct [(0, 9)], 1, 16, [.str []], none⟩ := ⟨⟨_, Tryz.underlying138, rfl⟩, Tryz.t138, _, by kernel_rfl, rfl, rfl, rfl, ⟨z_str rfl, trivial⟩⟩
theorem ti139 : TIOK Tryz.prog 139 ⟨.arr 32 5, 32, 32, [.int .u8 0, .int .u8 0, .int .u8 0, .int .u8 0, .int .u8 0, .int .u8 0, .int .u8 0, .int .u8 0, .int .u8 0, .int .u8 0, .int .u8 0, .int .u8 0, .int .u8 0, .int .u8 0, .int .u8 0, .int .u8 0, .int .u8 0, .int .u8 0, .int .u8 0, .int .u8 0, .int .u8 0, .int .u8 0, .int .u8 0, .int .u8 0, .int .u8 0, .int .u8 0, .int .u8 0, .int .u8 0, .int .u8 0, .int .u8 0, .int .u8 0, .int .u8 0], none⟩ := ⟨Tryz.underlying139, Tryz.t139, _, by kernel_rfl, rfl, rfl, rfl, ⟨z_int, z_int, z_int, z_int, z_int, z_int, z_int, z_int, z_int, z_int, z_int, z_int, z_int, z_int, z_int, z_int, z_int, z_int, z_int, z_int, z_int, z_int, z_int, z_int, z_int, z_int, z_int, z_int, z_int, z_int, z_int, z_int, trivial⟩⟩
theorem ti140 : TIOK Tryz.prog 140 ⟨.arr 64 5, 64, 64, [.int .u8 0, .int .u8 0, .int .u8 0, .int .u8 0, .int .u8 0, .int .u8 0, .int .u8 0, .int .u8 0, .int .u8 0, .int .u8 0, .int .u8 0, .int .u8 0, .int .u8 0, .int .u8 0, .int .u8 0, .int .u8 0, .int .u8 0, .int .u8 0, .int .u8 0, .int .u8 0, .int .u8 0, .int .u8 0, .int .u8 0, .int .u8 0, .int .u8 0, .int .u8 0, .int .u8 0, .int .u8 0, .int .u8 0, .int .u8 0, .int .u8 0, .int .u8 0, .int .u8 0, .int .u8 0, .int .u8 0, .int .u8 0, .int .u8 0, .int .u8 0, .int .u8 0, .int .u8 0, .int .u8 0, .int .u8 0, .int .u8 0, .int .u8 0, .int .u8 0, .int .u8 0, .int .u8 0, .int .u8 0, .int .u8 0, .int .u8 0, .int .u8 0, .int .u8 0, .int .u8 0, .int .u8 0, .int .u8 0, .int .u8 0, .int .u8 0, .int .u8 0, .int .u8 0, .int .u8 0, .int .u8 0, .int .u8 0, .int .u8 0, .int .u8 0], none⟩ := ⟨Tryz.underlying140, Tryz.t140, _, by kernel_rfl, rfl, rfl, rfl, ⟨z_int, z_int, z_int, z_int, z_int, z_int, z_int, z_int, z_int, z_int, z_int, z_int, z_int, z_int, z_int, z_int, z_int, z_int, z_int, z_int, z_int, z_int, z_int, z_int, z_int, z_int, z_int, z_int, z_int, z_int, z_int, z_int, z_int, z_int, z_int, z_int, z_int, z_int, z_int, z_int, z_int, z_int, z_int, z_int, z_int, z_int, z_int, z_int, z_int, z_int, z_int, z_int, z_int, z_int, z_int, z_int, z_int, z_int, z_int, z_int, z_int, z_int, z_int, z_int, trivial⟩⟩
theorem ti142 : TIOK Tryz.prog 142 ⟨.struct [(0, 5), (1, 5)], 2, 2, [.int .u8 0, .int .u8 0], none⟩ := ⟨⟨_, Tryz.underlying142, rfl⟩, Tryz.t142, _, by kernel_rfl, rfl, rfl, rfl, ⟨z_int, z_int, trivial⟩⟩
theorem ti143 : TIOK Tryz.prog 143 ⟨.struct [(0, 5), (1, 5)], 2, 2, [.int .u8 0, .int .u8 0], none⟩ := ⟨⟨_, Tryz.underlying143, rfl⟩, Tryz.t143, _, by kernel_rfl, rfl, rfl, rfl, ⟨z_int, z_int, trivial⟩⟩
theorem ti144 : TIOK Tryz.prog 144 ⟨.arr 16 143, 32, 32, [.int .u8 0, .int .u8 0, .int .u8 0, .int .u8 0, .int .u8 0, .int .u8 0, .int .u8 0, .int .u8 0, .int .u8 0, .int .u8 0, .int .u8 0, .int .u8 0, .int .u8 0, .int .u8 0, .int .u8 0, .int .u8 0, .int .u8 0, .int .u8 0, .int .u8 0, .int .u8 0, .int .u8 0, .int .u8 0, .int .u8 0, .int .u8 0, .int .u8 0, .int .u8 0, .int .u8 0, .int .u8 0, .int .u8 0, .int .u8 0, .int .u8 0, .int .u8 0], none⟩ := ⟨Tryz.underlying144, Tryz.t144, _, by kernel_rfl, rfl, rfl, rfl, ⟨z_int, z_int, z_int, z_int, z_int, z_int, z_int, z_int, z_int, z_int, z_int, z_int, z_int, z_int, z_int, z_int, z_int, z_int, z_int, z_int, z_int, z_int, z_int, z_int, z_int, z_int, z_int, z_int, z_int, z_int, z_int, z_int, trivial⟩⟩
theorem ti145 : TIOK Tryz.prog 145 ⟨.other, 1, 8, [.nilf], none⟩ := ⟨⟨_, Tryz.underlying145, (fun f h => by cases h), (fun n e h => by cases h)⟩, Tryz.t145, _, by kernel_rfl, rfl, rfl, rfl, ⟨z_nilf, trivial⟩⟩
theorem ti146 : TIOK Tryz.prog 146 ⟨.struct [(0, 17), (1, 17), (2, 17), (3, 9)], 4, 40, [.nilp, .nilp, .nilp, .str []], none⟩ := ⟨⟨_, Tryz.underlying146, rfl⟩, Tryz.t146, _, by kernel_rfl, rfl, rfl, rfl, ⟨z_nilp, z_nilp, z_nilp, z_str rfl, trivial⟩⟩
theorem ti147 : TIOK Tryz.prog 147 ⟨.struct [(0, 17), (1, 17), (2, 17), (3, 9)], 4, 40, [.nilp, .nilp, .nilp, .str []], none⟩ := ⟨⟨_, Tryz.underlying147, rfl⟩, Tryz.t147, _, by kernel_rfl, rfl, rfl, rfl, ⟨z_nilp, z_nilp, z_nilp, z_str rfl, trivial⟩⟩
theorem ti148 : TIOK Tryz.prog 148 ⟨.arr 0 16, 0, 0, [], none⟩ := ⟨Tryz.underlying148, Tryz.t148, _, by kernel_rfl, rfl, rfl, rfl, trivial⟩
theorem ti149 : TIOK Tryz.prog 149 ⟨.struct [(0, 148)], 0, 0, [], none⟩ := ⟨⟨_, Tryz.underlying149, rfl⟩, Tryz.t149, _, by kernel_rfl, rfl, rfl, rfl, trivial⟩
theorem ti150 : TIOK Tryz.prog 150 ⟨.struct [(0, 148)], 0, 0, [], none⟩ := ⟨⟨_, Tryz.underlying150, rfl⟩, Tryz.t150, _, by kernel_rfl, rfl, rfl, rfl, trivial⟩
theorem ti151 : TIOK Tryz.prog 151 ⟨.int .u8, 1, 1, [.int .u8 0], some (.int .u8)⟩ := ⟨Tryz.underlying151, Tryz.t151, _, by kernel_rfl, rfl, rfl, rfl, ⟨z_int, trivial⟩⟩
theorem ti152 : TIOK Tryz.prog 152 ⟨.int .u8, 1, 1, [.int .u8 0], some (.int .u8)⟩ := ⟨Tryz.underlying152, Tryz.t152, _, by kernel_rfl, rfl, rfl, rfl, ⟨z_int, trivial⟩⟩
theorem ti153 : TIOK Tryz.prog 153 ⟨.other, 1, 8, [.nilf], none⟩ := ⟨⟨_, Tryz.underlying153, (fun f h => by cases h), (fun n e h => by cases h)⟩, Tryz.t153, _, by kernel_rfl, rfl, rfl, rfl, ⟨z_nilf, trivial⟩⟩
theorem ti154 : TIOK Tryz.prog 154 ⟨.int .i32, 1, 4, [.int .i32 0], some (.int .i32)⟩ := ⟨Tryz.underlying154, Tryz.t154, _, by kernel_rfl, rfl, rfl, rfl, ⟨z_int, trivial⟩⟩
theorem ti155 : TIOK Tryz.prog 155 ⟨.int .i32, 1, 4, [.int .i32 0], some (.int .i32)⟩ := ⟨Tryz.underlying155, Tryz.t155, _, by kernel_rfl, rfl, rfl, rfl, ⟨z_int, trivial⟩⟩
theorem ti156 : TIOK Tryz.prog 156 ⟨.struct [(0, 12), (1, 12), (2, 70), (3, 151), (4, 5), (5, 5), (6, 152), (7, 153), (8, 109), (9, 154), (10, 155)], 11, 48, [.int .u64 0, .int .u64 0, .int .u32 0, .int .u8 0, .int .u8 0, .int .u8 0, .int .u8 0, .nilf, .nilp, .int .i32 0, .int .i32 0], none⟩ := ⟨⟨_, Tryz.underlying156, rfl⟩, Tryz.t156, _, by kernel_rfl, rfl, rfl, rfl, ⟨z_int, z_int, z_int, z_int, z_int, z_int, z_int, z_nilf, z_nilp, z_int, z_int, trivial⟩⟩
theorem ti157 : TIOK Tryz.prog 157 ⟨.struct [(0, 12), (1, 12), (2, 70), (3, 151), (4, 5), (5, 5), (6, 152), (7, 153), (8, 109), (9, 154), (10, 155)], 11, 48, [.int .u64 0, .int .u64 0, .int .u32 0, .int .u8 0, .int .u8 0, .int .u8 0, .int .u8 0, .nilf, .nilp, .int .i32 0, .int .i32 0], none⟩ := ⟨⟨_, Tryz.underlying157, rfl⟩, Tryz.t157, _, by kernel_rfl, rfl, rfl, rfl, ⟨z_int, z_int, z_int, z_int, z_int, z_int, z_int, z_nilf, z_nilp, z_int, z_int, trivial⟩⟩
def tget : List (Nat × TI) → TT
  | [], _ => none
  | (n, i) :: r, t => bif n == t then some i else tget r t
def tget2 : List (List (Nat × TI)) → TT
  | [], _ => none
  | l :: r, t => match tget l t with
    | some i => some i
    | none => tget2 r t
def AllT (P : Program) : List (Nat × TI) → Prop
  | [] => True
  | x :: r => TIOK P x.1 x.2 ∧ AllT P r
def AllT2 (P : Program) : List (List (Nat × TI)) → Prop
  | [] => True
  | x :: r => AllT P x ∧ AllT2 P r
theorem tget_ok {P : Program} : ∀ (l : List (Nat × TI)), AllT P l → TTOK P (tget l)
  | [], _ => fun t i h => by simp [tget] at h
  | (n, j) :: r, hl => fun t i h => by
    simp only [tget, cond_eq_ite, beq_iff_eq] at h
    by_cases q : n = t
    · rw [if_pos q] at h; cases h; subst q; exact hl.1
    · rw [if_neg q] at h; exact tget_ok r hl.2 t i h
theorem tget2_ok {P : Program} : ∀ (l : List (List (Nat × TI))), AllT2 P l → TTOK P (tget2 l)
  | [], _ => fun t i h => by simp [tget2] at h
  | x :: r, hl => fun t i h => by
    simp only [tget2] at h
    split at h
    · rename_i j hj; cases h; exact tget_ok x hl.1 t _ hj
    · exact tget2_ok r hl.2 t i h
def tl0 : List (Nat × TI) := [
(1, ⟨.other, 1, 8, [.nilf], none⟩),
(2, ⟨.int .i64, 1, 8, [.int .i64 0], some (.int .i64)⟩),
(3, ⟨.int .i64, 1, 8, [.int .i64 0], some (.int .i64)⟩),
(4, ⟨.bool, 1, 1, [.bool false], some .bool⟩),
(5, ⟨.int .u8, 1, 1, [.int .u8 0], some (.int .u8)⟩),
(6, ⟨.int .u8, 1, 1, [.int .u8 0], some (.int .u8)⟩),
(7, ⟨.struct [(0, 2), (1, 3), (2, 4), (3, 6)], 4, 24, [.int .i64 0, .int .i64 0, .bool false, .int .u8 0], none⟩),
(8, ⟨.struct [(0, 2), (1, 3), (2, 4), (3, 6)], 4, 24, [.int .i64 0, .int .i64 0, .bool false, .int .u8 0], none⟩),
(9, ⟨.str, 1, 16, [.str []], some .str⟩),
(10, ⟨.str, 1, 16, [.str []], some .str⟩),
(11, ⟨.str, 1, 16, [.str []], some .str⟩),
(12, ⟨.int .u64, 1, 8, [.int .u64 0], some (.int .u64)⟩),
(13, ⟨.struct [(0, 9), (1, 12)], 2, 24, [.str [], .int .u64 0], none⟩),
(14, ⟨.struct [(0, 9), (1, 12)], 2, 24, [.str [], .int .u64 0], none⟩),
(15, ⟨.ptr 147, 1, 8, [.nilp], none⟩),
(16, ⟨.ptr 150, 1, 8, [.nilp], none⟩),
(17, ⟨.ptr 157, 1, 8, [.nilp], none⟩),
(18, ⟨.struct [(0, 17)], 1, 8, [.nilp], none⟩),
(19, ⟨.struct [(0, 17)], 1, 8, [.nilp], none⟩),
(20, ⟨.other, 1, 16, [.nili], none⟩),
(21, ⟨.int .i32, 1, 4, [.int .i32 0], some (.int .i32)⟩),
(22, ⟨.slc 5, 1, 24, [.nils], none⟩),
(23, ⟨.other, 1, 8, [.nilf], none⟩),
(24, ⟨.flt .f32, 1, 4, [.flt .f32 0], some (.flt .f32)⟩)
]
theorem tlOk0 : AllT Tryz.prog tl0 := ⟨ti1, ti2, ti3, ti4, ti5, ti6, ti7, ti8, ti9, ti10, ti11, ti12, ti13, ti14, ti15, ti16, ti17, ti18, ti19, ti20, ti21, ti22, ti23, ti24, trivial⟩
def tl1 : List (Nat × TI) := [
(25, ⟨.struct [(0, 24), (1, 24), (2, 24)], 3, 12, [.flt .f32 0, .flt .f32 0, .flt .f32 0], none⟩),
(26, ⟨.struct [(0, 24), (1, 24), (2, 24)], 3, 12, [.flt .f32 0, .flt .f32 0, .flt .f32 0], some .vec⟩),
(27, ⟨.other, 1, 8, [.nilf], none⟩),
(28, ⟨.other, 1, 8, [.nilf], none⟩),
(29, ⟨.other, 1, 8, [.nilf], none⟩),
(30, ⟨.other, 1, 8, [.nilf], none⟩),
(31, ⟨.other, 1, 8, [.nilf], none⟩),
(32, ⟨.other, 1, 8, [.nilf], none⟩),
(33, ⟨.other, 1, 8, [.nilf], none⟩),
(34, ⟨.other, 1, 8, [.nilf], none⟩),
(35, ⟨.other, 1, 8, [.nilf], none⟩),
(36, ⟨.other, 1, 8, [.nilf], none⟩),
(37, ⟨.other, 1, 8, [.nilf], none⟩),
(39, ⟨.other, 1, 8, [.nilf], none⟩),
(40, ⟨.ptr 53, 1, 8, [.nilp], none⟩),
(41, ⟨.other, 1, 8, [.nilf], none⟩),
(42, ⟨.other, 1, 8, [.nilf], none⟩),
(43, ⟨.other, 1, 8, [.nilf], none⟩),
(45, ⟨.other, 1, 8, [.nilf], none⟩),
(46, ⟨.slc 24, 1, 24, [.nils], none⟩),
(47, ⟨.other, 1, 8, [.nilf], none⟩),
(49, ⟨.other, 1, 8, [.nilf], none⟩),
(50, ⟨.other, 1, 8, [.nilf], none⟩),
(51, ⟨.int .u64, 1, 8, [.int .u64 0], some (.int .u64)⟩)
]
theorem tlOk1 : AllT Tryz.prog tl1 := ⟨ti25, ti26, ti27, ti28, ti29, ti30, ti31, ti32, ti33, ti34, ti35, ti36, ti37, ti39, ti40, ti41, ti42, ti43, ti45, ti46, ti47, ti49, ti50, ti51, trivial⟩
def tl2 : List (Nat × TI) := [
(52, ⟨.struct [(0, 22), (1, 3), (2, 51)], 3, 40, [.nils, .int .i64 0, .int .u64 0], none⟩),
(53, ⟨.struct [(0, 22), (1, 3), (2, 51)], 3, 40, [.nils, .int .i64 0, .int .u64 0], none⟩),
(54, ⟨.other, 1, 8, [.nilf], none⟩),
(55, ⟨.other, 1, 8, [.nilf], none⟩),
(56, ⟨.flt .f64, 1, 8, [.flt .f64 0], some (.flt .f64)⟩),
(57, ⟨.other, 1, 8, [.nilf], none⟩),
(58, ⟨.other, 1, 8, [.nilf], none⟩),
(59, ⟨.other, 1, 8, [.nilf], none⟩),
(60, ⟨.other, 1, 8, [.nilf], none⟩),
(61, ⟨.slc 9, 1, 24, [.nils], none⟩),
(62, ⟨.other, 1, 8, [.nilf], none⟩),
(63, ⟨.other, 1, 8, [.nilf], none⟩),
(65, ⟨.other, 1, 8, [.nilf], none⟩),
(67, ⟨.other, 1, 8, [.nilf], none⟩),
(68, ⟨.other, 1, 8, [.nilf], none⟩),
(69, ⟨.int .u64, 1, 8, [.int .u64 0], some (.int .u64)⟩),
(70, ⟨.int .u32, 1, 4, [.int .u32 0], some (.int .u32)⟩),
(71, ⟨.other, 1, 8, [.nilf], none⟩),
(72, ⟨.other, 1, 8, [.nilf], none⟩),
(73, ⟨.other, 1, 8, [.nilf], none⟩),
(74, ⟨.slc 2, 1, 24, [.nils], none⟩),
(75, ⟨.other, 1, 8, [.nilf], none⟩),
(76, ⟨.other, 1, 8, [.nilf], none⟩),
(77, ⟨.other, 1, 8, [.nilf], none⟩)
]
theorem tlOk2 : AllT Tryz.prog tl2 := ⟨ti52, ti53, ti54, ti55, ti56, ti57, ti58, ti59, ti60, ti61, ti62, ti63, ti65, ti67, ti68, ti69, ti70, ti71, ti72, ti73, ti74, ti75, ti76, ti77, trivial⟩
def tl3 : List (Nat × TI) := [
(78, ⟨.other, 1, 8, [.nilf], none⟩),
(79, ⟨.other, 1, 16, [.nili], none⟩),
(80, ⟨.other, 1, 16, [.nili], none⟩),
(82, ⟨.other, 1, 8, [.nilf], none⟩),
(83, ⟨.other, 1, 8, [.nilf], none⟩),
(84, ⟨.other, 1, 8, [.nilf], none⟩),
(86, ⟨.other, 1, 8, [.nilf], none⟩),
(87, ⟨.other, 1, 8, [.nilf], none⟩),
(88, ⟨.ptr 90, 1, 8, [.nilp], none⟩),
(89, ⟨.struct [(0, 88), (1, 22)], 2, 32, [.nilp, .nils], none⟩),
(90, ⟨.struct [(0, 88), (1, 22)], 2, 32, [.nilp, .nils], none⟩),
(91, ⟨.other, 1, 8, [.nilf], none⟩),
(93, ⟨.other, 1, 8, [.nilf], none⟩),
(94, ⟨.other, 1, 8, [.nilf], none⟩),
(95, ⟨.other, 1, 8, [.nilf], none⟩),
(96, ⟨.other, 1, 8, [.nilf], none⟩),
(97, ⟨.other, 1, 8, [.nilf], none⟩),
(98, ⟨.other, 1, 8, [.nilf], none⟩),
(99, ⟨.other, 1, 8, [.nilf], none⟩),
(100, ⟨.arr 24 5, 24, 24, [.int .u8 0, .int .u8 0, .int .u8 0, .int .u8 0, .int .u8 0, .int .u8 0, .int .u8 0, .int .u8 0, .int .u8 0, .int .u8 0, .int .u8 0, .int .u8 0, .int .u8 0, .int .u8 0, .int .u8 0, .int .u8 0, .int .u8 0, .int .u8 0, .int .u8 0, .int .u8 0, .int .u8 0, .int .u8 0, .int .u8 0, .int .u8 0], none⟩),
(101, ⟨.other, 1, 8, [.nilf], none⟩),
(102, ⟨.other, 1, 8, [.nilf], none⟩),
(104, ⟨.other, 1, 8, [.nilf], none⟩),
(106, ⟨.other, 1, 8, [.nilf], none⟩)
]
theorem tlOk3 : AllT Tryz.prog tl3 := ⟨ti78, ti79, ti80, ti82, ti83, ti84, ti86, ti87, ti88, ti89, ti90, ti91, ti93, ti94, ti95, ti96, ti97, ti98, ti99, ti100, ti101, ti102, ti104, ti106, trivial⟩
def tl4 : List (Nat × TI) := [
(108, ⟨.other, 1, 8, [.nilf], none⟩),
(109, ⟨.ptr 5, 1, 8, [.nilp], none⟩),
(110, ⟨.other, 1, 8, [.nilf], none⟩),
(111, ⟨.other, 1, 8, [.nilf], none⟩),
(112, ⟨.int .i64, 1, 8, [.int .i64 0], some (.int .i64)⟩),
(113, ⟨.other, 1, 8, [.nilf], none⟩),
(114, ⟨.other, 1, 8, [.nilf], none⟩),
(115, ⟨.ptr 133, 1, 8, [.nilp], none⟩),
(116, ⟨.other, 1, 8, [.nilf], none⟩),
(117, ⟨.other, 1, 8, [.nilf], none⟩),
(118, ⟨.other, 1, 8, [.nilf], none⟩),
(119, ⟨.other, 1, 8, [.nilf], none⟩),
(120, ⟨.arr 20 51, 20, 160, [.int .u64 0, .int .u64 0, .int .u64 0, .int .u64 0, .int .u64 0, .int .u64 0, .int .u64 0, .int .u64 0, .int .u64 0, .int .u64 0, .int .u64 0, .int .u64 0, .int .u64 0, .int .u64 0, .int .u64 0, .int .u64 0, .int .u64 0, .int .u64 0, .int .u64 0, .int .u64 0], none⟩),
(122, ⟨.other, 1, 8, [.nilf], none⟩),
(123, ⟨.other, 1, 8, [.nilf], none⟩),
(124, ⟨.other, 1, 8, [.nilp], none⟩),
(125, ⟨.other, 1, 8, [.nilf], none⟩),
(126, ⟨.other, 1, 8, [.nilf], none⟩),
(127, ⟨.other, 1, 8, [.nilf], none⟩),
(129, ⟨.other, 1, 8, [.nilf], none⟩),
(130, ⟨.other, 1, 8, [.nilf], none⟩),
(131, ⟨.other, 1, 8, [.nilf], none⟩),
(132, ⟨.struct [(0, 9), (1, 9), (2, 80)], 3, 48, [.str [], .str [], .nili], none⟩),
(133, ⟨.struct [(0, 9), (1, 9), (2, 80)], 3, 48, [.str [], .str [], .nili], none⟩)
]
theorem tlOk4 : AllT Tryz.prog tl4 := ⟨ti108, ti109, ti110, ti111, ti112, ti113, ti114, ti115, ti116, ti117, ti118, ti119, ti120, ti122, ti123, ti124, ti125, ti126, ti127, ti129, ti130, ti131, ti132, ti133, trivial⟩
def tl5 : List (Nat × TI) := [
(134, ⟨.other, 1, 8, [.nilf], none⟩),
(135, ⟨.other, 1, 8, [.nilf], none⟩),
(136, ⟨.ptr 138, 1, 8, [.nilp], none⟩),
(137, ⟨.struct [(0, 9)], 1, 16, [.str []], none⟩),
(138, ⟨.struct [(0, 9)], 1, 16, [.str []], none⟩),
(139, ⟨.arr 32 5, 32, 32, [.int .u8 0, .int .u8 0, .int .u8 0, .int .u8 0, .int .u8 0, .int .u8 0, .int .u8 0, .int .u8 0, .int .u8 0, .int .u8 0, .int .u8 0, .int .u8 0, .int .u8 0, .int .u8 0, .int .u8 0, .int .u8 0, .int .u8 0, .int .u8 0, .int .u8 0, .int .u8 0, .int .u8 0, .int .u8 0, .int .u8 0, .int .u8 0, .int .u8 0, .int .u8 0, .int .u8 0, .int .u8 0, .int .u8 0, .int .u8 0, .int .u8 0, .int .u8 0], none⟩),
(140, ⟨.arr 64 5, 64, 64, [.int .u8 0, .int .u8 0, .int .u8 0, .int .u8 0, .int .u8 0, .int .u8 0, .int .u8 0, .int .u8 0, .int .u8 0, .int .u8 0, .int .u8 0, .int .u8 0, .int .u8 0, .int .u8 0, .int .u8 0, .int .u8 0, .int .u8 0, .int .u8 0, .int .u8 0, .int .u8 0, .int .u8 0, .int .u8 0, .int .u8 0, .int .u8 0, .int .u8 0, .int .u8 0, .int .u8 0, .int .u8 0, .int .u8 0, .int .u8 0, .int .u8 0, .int .u8 0, .int .u8 0, .int .u8 0, .int .u8 0, .int .u8 0, .int .u8 0, .int .u8 0, .int .u8 0, .int .u8 0, .int .u8 0, .int .u8 0, .int .u8 0, .int .u8 0, .int .u8 0, .int .u8 0, .int .u8 0, .int .u8 0, .int .u8 0, .int .u8 0, .int .u8 0, .int .u8 0, .int .u8 0, .int .u8 0, .int .u8 0, .int .u8 0, .int .u8 0, .int .u8 0, .int .u8 0, .int .u8 0, .int .u8 0, .int .u8 0, .int .u8 0, .int .u8 0], none⟩),
(142, ⟨.struct [(0, 5), (1, 5)], 2, 2, [.int .u8 0, .int .u8 0], none⟩),
(143, ⟨.struct [(0, 5), (1, 5)], 2, 2, [.int .u8 0, .int .u8 0], none⟩),
(144, ⟨.arr 16 143, 32, 32, [.int .u8 0, .int .u8 0, .int .u8 0, .int .u8 0, .int .u8 0, .int .u8 0, .int .u8 0, .int .u8 0, .int .u8 0, .int .u8 0, .int .u8 0, .int .u8 0, .int .u8 0, .int .u8 0, .int .u8 0, .int .u8 0, .int .u8 0, .int .u8 0, .int .u8 0, .int .u8 0, .int .u8 0, .int .u8 0, .int .u8 0, .int .u8 0, .int .u8 0, .int .u8 0, .int .u8 0, .int .u8 0, .int .u8 0, .int .u8 0, .int .u8 0, .int .u8 0], none⟩),
(145, ⟨.other, 1, 8, [.nilf], none⟩),
(146, ⟨.struct [(0, 17), (1, 17), (2, 17), (3, 9)], 4, 40, [.nilp, .nilp, .nilp, .str []], none⟩),
(147, ⟨.struct [(0, 17), (1, 17), (2, 17), (3, 9)], 4, 40, [.nilp, .nilp, .nilp, .str []], none⟩),
(148, ⟨.arr 0 16, 0, 0, [], none⟩),
(149, ⟨.struct [(0, 148)], 0, 0, [], none⟩),
(150, ⟨.struct [(0, 148)], 0, 0, [], none⟩),
(151, ⟨.int .u8, 1, 1, [.int .u8 0], some (.int .u8)⟩),
(152, ⟨.int .u8, 1, 1, [.int .u8 0], some (.int .u8)⟩),
(153, ⟨.other, 1, 8, [.nilf], none⟩),
(154, ⟨.int .i32, 1, 4, [.int .i32 0], some (.int .i32)⟩),
(155, ⟨.int .i32, 1, 4, [.int .i32 0], some (.int .i32)⟩),
(156, ⟨.struct [(0, 12), (1, 12), (2, 70), (3, 151), (4, 5), (5, 5), (6, 152), (7, 153), (8, 109), (9, 154), (10, 155)], 11, 48, [.int .u64 0, .int .u64 0, .int .u32 0, .int .u8 0, .int .u8 0, .int .u8 0, .int .u8 0, .nilf, .nilp, .int .i32 0, .int .i32 0], none⟩),
(157, ⟨.struct [(0, 12), (1, 12), (2, 70), (3, 151), (4, 5), (5, 5), (6, 152), (7, 153), (8, 109), (9, 154), (10, 155)], 11, 48, [.int .u64 0, .int .u64 0, .int .u32 0, .int .u8 0, .int .u8 0, .int .u8 0, .int .u8 0, .nilf, .nilp, .int .i32 0, .int .i32 0], none⟩)
]
theorem tlOk5 : AllT Tryz.prog tl5 := ⟨ti134, ti135, ti136, ti137, ti138, ti139, ti140, ti142, ti143, ti144, ti145, ti146, ti147, ti148, ti149, ti150, ti151, ti152, ti153, ti154, ti155, ti156, ti157, trivial⟩
def tab : TT := tget2 [tl0, tl1, tl2, tl3, tl4, tl5]
theorem tab_ok : TTOK Tryz.prog tab := tget2_ok _ ⟨tlOk0, tlOk1, tlOk2, tlOk3, tlOk4, tlOk5, trivial⟩
end Go.Proofs.YtacelaaifaffpaaGreatDoor
