/- THE TYPES, BY A PROGRAM: what the evaluator takes from the table of types, and that it stands there. -/
import Derived.Test.YtcipkfndnkmjlaaGreatDoorEngQc
import Derived.Test.YtcipkfndnkmjlaaGreatDoorProg
namespace Go.Proofs.YtcipkfndnkmjlaaGreatDoor
/-- A string's bytes, as integers. -/
def u8i (l : List UInt8) : List Int := u8s l
theorem z_int {k : IntKind} : ZSim (.int k 0) (.int k 0) := fun c => by simp only [VSim]
theorem z_f32 : ZSim (.flt .f32 0) (.float .f32 0) := fun c => by simp only [VSim]; exact ⟨0, rfl, by decide +kernel⟩
theorem z_f64 : ZSim (.flt .f64 0) (.float .f64 0) := fun c => by simp only [VSim]; exact ⟨0, rfl, by decide +kernel⟩
theorem z_c32 : ZSim (.cplx .f32 0 0) (.complex .f32 0 0) := fun c => by simp only [VSim]; exact ⟨0, 0, rfl, by decide +kernel, by decide +kernel⟩
theorem z_c64 : ZSim (.cplx .f64 0 0) (.complex .f64 0 0) := fun c => by simp only [VSim]; exact ⟨0, 0, rfl, by decide +kernel, by decide +kernel⟩
theorem z_bool : ZSim (.bool false) (.bool false) := fun c => by simp only [VSim]
theorem z_str {s : ByteArray} (h : s.data.toList = []) : ZSim (.str []) (.string s) := fun c => by simp only [VSim]; exact ⟨s, rfl, h⟩
theorem z_nilp : ZSim .nilp (.pointer none) := fun c => by simp only [VSim]
theorem z_nils : ZSim .nils (.slice none 0 0) := fun c => by simp only [VSim]
theorem z_nilf : ZSim .nilf .nilFunc := fun c => by simp only [VSim]
theorem z_nili : ZSim .nili .nilIface := fun c => by simp only [VSim]
theorem ti1 : TIOK Tryz.prog 1 ⟨.other, 1, 8, [.nilf], none⟩ := ⟨⟨_, Tryz.underlying1, (fun f h => by cases h), (fun n e h => by cases h)⟩, Tryz.t1, _, by kernel_rfl, rfl, rfl, rfl, ⟨z_nilf, trivial⟩⟩
theorem ti2 : TIOK Tryz.prog 2 ⟨.int .i64, 1, 8, [.int .i64 0], some (.int .i64)⟩ := ⟨Tryz.underlying2, Tryz.t2, _, by kernel_rfl, rfl, rfl, rfl, ⟨z_int, trivial⟩⟩
theorem ti3 : TIOK Tryz.prog 3 ⟨.int .i64, 1, 8, [.int .i64 0], some (.int .i64)⟩ := ⟨Tryz.underlying3, Tryz.t3, _, by kernel_rfl, rfl, rfl, rfl, ⟨z_int, trivial⟩⟩
theorem ti4 : TIOK Tryz.prog 4 ⟨.bool, 1, 1, [.bool false], some .bool⟩ := ⟨Tryz.underlying4, Tryz.t4, _, by kernel_rfl, rfl, rfl, rfl, ⟨z_bool, trivial⟩⟩
theorem ti5 : TIOK Tryz.prog 5 ⟨.int .u8, 1, 1, [.int .u8 0], some (.int .u8)⟩ := ⟨Tryz.underlying5, Tryz.t5, _, by kernel_rfl, rfl, rfl, rfl, ⟨z_int, trivial⟩⟩
theorem ti6 : TIOK Tryz.prog 6 ⟨.int .u8, 1, 1, [.int .u8 0], some (.int .u8)⟩ := ⟨Tryz.underlying6, Tryz.t6, _, by kernel_rfl, rfl, rfl, rfl, ⟨z_int, trivial⟩⟩
theorem ti7 : TIOK Tryz.prog 7 ⟨.struct [(0, 2), (1, 3), (2, 4), (3, 6)], 4, 24, [.int .i64 0, .int .i64 0, .bool false, .int .u8 0], none⟩ := ⟨⟨_, Tryz.underlying7, rfl⟩, Tryz.t7, _, by kernel_rfl, rfl, rfl, rfl, ⟨z_int, z_int, z_bool, z_int, trivial⟩⟩
theorem ti8 : TIOK Tryz.prog 8 ⟨.struct [(0, 2), (1, 3), (2, 4), (3, 6)], 4, 24, [.int .i64 0, .int .i64 0, .bool false, .int .u8 0], none⟩ := ⟨⟨_, Tryz.underlying8, rfl⟩, Tryz.t8, _, by kernel_rfl, rfl, rfl, rfl, ⟨z_int, z_int, z_bool, z_int, trivial⟩⟩
theorem ti9 : TIOK Tryz.prog 9 ⟨.str, 1, 16, [.str []], some .str⟩ := ⟨Tryz.underlying9, Tryz.t9, _, by kernel_rfl, rfl, rfl, rfl, ⟨z_str rfl, trivial⟩⟩
theorem ti10 : TIOK Tryz.prog 10 ⟨.str, 1, 16, [.str []], some .str⟩ := ⟨Tryz.underlying10, Tryz.t10, _, by kernel_rfl, rfl, rfl, rfl, ⟨z_str rfl, trivial⟩⟩
theorem ti11 : TIOK Tryz.prog 11 ⟨.str, 1, 16, [.str []], some .str⟩ := ⟨Tryz.underlying11, Tryz.t11, _, by kernel_rfl, rfl, rfl, rfl, ⟨z_str rfl, trivial⟩⟩
theorem ti12 : TIOK Tryz.prog 12 ⟨.int .u64, 1, 8, [.int .u64 0], some (.int .u64)⟩ := ⟨Tryz.underlying12, Tryz.t12, _, by kernel_rfl, rfl, rfl, rfl, ⟨z_int, trivial⟩⟩
theorem ti13 : TIOK Tryz.prog 13 ⟨.struct [(0, 9), (1, 12)], 2, 24, [.str [], .int .u64 0], none⟩ := ⟨⟨_, Tryz.underlying13, rfl⟩, Tryz.t13, _, by kernel_rfl, rfl, rfl, rfl, ⟨z_str rfl, z_int, trivial⟩⟩
theorem ti14 : TIOK Tryz.prog 14 ⟨.struct [(0, 9), (1, 12)], 2, 24, [.str [], .int .u64 0], none⟩ := ⟨⟨_, Tryz.underlying14, rfl⟩, Tryz.t14, _, by kernel_rfl, rfl, rfl, rfl, ⟨z_str rfl, z_int, trivial⟩⟩
theorem ti15 : TIOK Tryz.prog 15 ⟨.ptr 165, 1, 8, [.nilp], none⟩ := ⟨Tryz.underlying15, Tryz.t15, _, by kernel_rfl, rfl, rfl, rfl, ⟨z_nilp, trivial⟩⟩
theorem ti16 : TIOK Tryz.prog 16 ⟨.ptr 168, 1, 8, [.nilp], none⟩ := ⟨Tryz.underlying16, Tryz.t16, _, by kernel_rfl, rfl, rfl, rfl, ⟨z_nilp, trivial⟩⟩
theorem ti17 : TIOK Tryz.prog 17 ⟨.ptr 175, 1, 8, [.nilp], none⟩ := ⟨Tryz.underlying17, Tryz.t17, _, by kernel_rfl, rfl, rfl, rfl, ⟨z_nilp, trivial⟩⟩
theorem ti18 : TIOK Tryz.prog 18 ⟨.struct [(0, 17)], 1, 8, [.nilp], none⟩ := ⟨⟨_, Tryz.underlying18, rfl⟩, Tryz.t18, _, by kernel_rfl, rfl, rfl, rfl, ⟨z_nilp, trivial⟩⟩
theorem ti19 : TIOK Tryz.prog 19 ⟨.struct [(0, 17)], 1, 8, [.nilp], none⟩ := ⟨⟨_, Tryz.underlying19, rfl⟩, Tryz.t19, _, by kernel_rfl, rfl, rfl, rfl, ⟨z_nilp, trivial⟩⟩
theorem ti20 : TIOK Tryz.prog 20 ⟨.other, 1, 16, [.nili], none⟩ := ⟨⟨_, Tryz.underlying20, (fun f h => by cases h), (fun n e h => by cases h)⟩, Tryz.t20, _, by kernel_rfl, rfl, rfl, rfl, ⟨z_nili, trivial⟩⟩
theorem ti21 : TIOK Tryz.prog 21 ⟨.int .i32, 1, 4, [.int .i32 0], some (.int .i32)⟩ := ⟨Tryz.underlying21, Tryz.t21, _, by kernel_rfl, rfl, rfl, rfl, ⟨z_int, trivial⟩⟩
theorem ti22 : TIOK Tryz.prog 22 ⟨.slc 44, 1, 24, [.nils], none⟩ := ⟨Tryz.underlying22, Tryz.t22, _, by kernel_rfl, rfl, rfl, rfl, ⟨z_nils, trivial⟩⟩
theorem ti24 : TIOK Tryz.prog 24 ⟨.other, 1, 8, [.nilf], none⟩ := ⟨⟨_, Tryz.underlying24, (fun f h => by cases h), (fun n e h => by cases h)⟩, Tryz.t24, _, by kernel_rfl, rfl, rfl, rfl, ⟨z_nilf, trivial⟩⟩
theorem ti25 : TIOK Tryz.prog 25 ⟨.other, 1, 8, [.nilf], none⟩ := ⟨⟨_, Tryz.underlying25, (fun f h => by cases h), (fun n e h => by cases h)⟩, Tryz.t25, _, by kernel_rfl, rfl, rfl, rfl, ⟨z_nilf, trivial⟩⟩
theorem ti26 : TIOK Tryz.prog 26 ⟨.other, 1, 8, [.nilf], none⟩ := ⟨⟨_, Tryz.underlying26, (fun f h => by cases h), (fun n e h => by cases h)⟩, Tryz.t26, _, by kernel_rfl, rfl, rfl, rfl, ⟨z_nilf, trivial⟩⟩
theorem ti27 : TIOK Tryz.prog 27 ⟨.other, 1, 8, [.nilf], none⟩ := ⟨⟨_, Tryz.underlying27, (fun f h => by cases h), (fun n e h => by cases h)⟩, Tryz.t27, _, by kernel_rfl, rfl, rfl, rfl, ⟨z_nilf, trivial⟩⟩
theorem ti28 : TIOK Tryz.prog 28 ⟨.slc 56, 1, 24, [.nils], none⟩ := ⟨Tryz.underlying28, Tryz.t28, _, by kernel_rfl, rfl, rfl, rfl, ⟨z_nils, trivial⟩⟩
theorem ti30 : TIOK Tryz.prog 30 ⟨.other, 1, 8, [.nilf], none⟩ := ⟨⟨_, Tryz.underlying30, (fun f h => by cases h), (fun n e h => by cases h)⟩, Tryz.t30, _, by kernel_rfl, rfl, rfl, rfl, ⟨z_nilf, trivial⟩⟩
theorem ti31 : TIOK Tryz.prog 31 ⟨.other, 1, 8, [.nilf], none⟩ := ⟨⟨_, Tryz.underlying31, (fun f h => by cases h), (fun n e h => by cases h)⟩, Tryz.t31, _, by kernel_rfl, rfl, rfl, rfl, ⟨z_nilf, trivial⟩⟩
theorem ti32 : TIOK Tryz.prog 32 ⟨.other, 1, 8, [.nilf], none⟩ := ⟨⟨_, Tryz.underlying32, (fun f h => by cases h), (fun n e h => by cases h)⟩, Tryz.t32, _, by kernel_rfl, rfl, rfl, rfl, ⟨z_nilf, trivial⟩⟩
theorem ti33 : TIOK Tryz.prog 33 ⟨.slc 9, 1, 24, [.nils], none⟩ := ⟨Tryz.underlying33, Tryz.t33, _, by kernel_rfl, rfl, rfl, rfl, ⟨z_nils, trivial⟩⟩
theorem ti34 : TIOK Tryz.prog 34 ⟨.other, 1, 8, [.nilf], none⟩ := ⟨⟨_, Tryz.underlying34, (fun f h => by cases h), (fun n e h => by cases h)⟩, Tryz.t34, _, by kernel_rfl, rfl, rfl, rfl, ⟨z_nilf, trivial⟩⟩
theorem ti35 : TIOK Tryz.prog 35 ⟨.other, 1, 8, [.nilf], none⟩ := ⟨⟨_, Tryz.underlying35, (fun f h => by cases h), (fun n e h => by cases h)⟩, Tryz.t35, _, by kernel_rfl, rfl, rfl, rfl, ⟨z_nilf, trivial⟩⟩
theorem ti36 : TIOK Tryz.prog 36 ⟨.flt .f32, 1, 4, [.flt .f32 0], some (.flt .f32)⟩ := ⟨Tryz.underlying36, Tryz.t36, _, by kernel_rfl, rfl, rfl, rfl, ⟨z_f32, trivial⟩⟩
theorem ti37 : TIOK Tryz.prog 37 ⟨.struct [(0, 36), (1, 36), (2, 36)], 3, 12, [.flt .f32 0, .flt .f32 0, .flt .f32 0], none⟩ := ⟨⟨_, Tryz.underlying37, rfl⟩, Tryz.t37, _, by kernel_rfl, rfl, rfl, rfl, ⟨z_f32, z_f32, z_f32, trivial⟩⟩
theorem ti38 : TIOK Tryz.prog 38 ⟨.struct [(0, 36), (1, 36), (2, 36)], 3, 12, [.flt .f32 0, .flt .f32 0, .flt .f32 0], some .vec⟩ := ⟨⟨_, Tryz.underlying38, rfl⟩, Tryz.t38, _, by kernel_rfl, rfl, rfl, rfl, ⟨z_f32, z_f32, z_f32, trivial⟩⟩
theorem ti40 : TIOK Tryz.prog 40 ⟨.other, 1, 8, [.nilf], none⟩ := ⟨⟨_, Tryz.underlying40, (fun f h => by cases h), (fun n e h => by cases h)⟩, Tryz.t40, _, by kernel_rfl, rfl, rfl, rfl, ⟨z_nilf, trivial⟩⟩
theorem ti42 : TIOK Tryz.prog 42 ⟨.other, 1, 8, [.nilf], none⟩ := ⟨⟨_, Tryz.underlying42, (fun f h => by cases h), (fun n e h => by cases h)⟩, Tryz.t42, _, by kernel_rfl, rfl, rfl, rfl, ⟨z_nilf, trivial⟩⟩
theorem ti43 : TIOK Tryz.prog 43 ⟨.struct [(0, 38), (3, 38), (6, 36)], 7, 28, [.flt .f32 0, .flt .f32 0, .flt .f32 0, .flt .f32 0, .flt .f32 0, .flt .f32 0, .flt .f32 0], none⟩ := ⟨⟨_, Tryz.underlying43, rfl⟩, Tryz.t43, _, by kernel_rfl, rfl, rfl, rfl, ⟨z_f32, z_f32, z_f32, z_f32, z_f32, z_f32, z_f32, trivial⟩⟩
theorem ti44 : TIOK Tryz.prog 44 ⟨.struct [(0, 38), (3, 38), (6, 36)], 7, 28, [.flt .f32 0, .flt .f32 0, .flt .f32 0, .flt .f32 0, .flt .f32 0, .flt .f32 0, .flt .f32 0], some .body⟩ := ⟨⟨_, Tryz.underlying44, rfl⟩, Tryz.t44, _, by kernel_rfl, rfl, rfl, rfl, ⟨z_f32, z_f32, z_f32, z_f32, z_f32, z_f32, z_f32, trivial⟩⟩
theorem ti45 : TIOK Tryz.prog 45 ⟨.other, 1, 8, [.nilf], none⟩ := ⟨⟨_, Tryz.underlying45, (fun f h => by cases h), (fun n e h => by cases h)⟩, Tryz.t45, _, by kernel_rfl, rfl, rfl, rfl, ⟨z_nilf, trivial⟩⟩
theorem ti46 : TIOK Tryz.prog 46 ⟨.other, 1, 8, [.nilf], none⟩ := ⟨⟨_, Tryz.underlying46, (fun f h => by cases h), (fun n e h => by cases h)⟩, Tryz.t46, _, by kernel_rfl, rfl, rfl, rfl, ⟨z_nilf, trivial⟩⟩
theorem ti48 : TIOK Tryz.prog 48 ⟨.other, 1, 8, [.nilf], none⟩ := ⟨⟨_, Tryz.underlying48, (fun f h => by cases h), (fun n e h => by cases h)⟩, Tryz.t48, _, by kernel_rfl, rfl, rfl, rfl, ⟨z_nilf, trivial⟩⟩
theorem ti49 : TIOK Tryz.prog 49 ⟨.slc 36, 1, 24, [.nils], none⟩ := ⟨Tryz.underlying49, Tryz.t49, _, by kernel_rfl, rfl, rfl, rfl, ⟨z_nils, trivial⟩⟩
theorem ti51 : TIOK Tryz.prog 51 ⟨.other, 1, 8, [.nilf], none⟩ := ⟨⟨_, Tryz.underlying51, (fun f h => by cases h), (fun n e h => by cases h)⟩, Tryz.t51, _, by kernel_rfl, rfl, rfl, rfl, ⟨z_nilf, trivial⟩⟩
theorem ti52 : TIOK Tryz.prog 52 ⟨.struct [(0, 36), (1, 36), (2, 36), (3, 36), (4, 36), (5, 36)], 6, 24, [.flt .f32 0, .flt .f32 0, .flt .f32 0, .flt .f32 0, .flt .f32 0, .flt .f32 0], none⟩ := ⟨⟨_, Tryz.underlying52, rfl⟩, Tryz.t52, _, by kernel_rfl, rfl, rfl, rfl, ⟨z_f32, z_f32, z_f32, z_f32, z_f32, z_f32, trivial⟩⟩
theorem ti53 : TIOK Tryz.prog 53 ⟨.struct [(0, 36), (1, 36), (2, 36), (3, 36), (4, 36), (5, 36)], 6, 24, [.flt .f32 0, .flt .f32 0, .flt .f32 0, .flt .f32 0, .flt .f32 0, .flt .f32 0], none⟩ := ⟨⟨_, Tryz.underlying53, rfl⟩, Tryz.t53, _, by kernel_rfl, rfl, rfl, rfl, ⟨z_f32, z_f32, z_f32, z_f32, z_f32, z_f32, trivial⟩⟩
theorem ti54 : TIOK Tryz.prog 54 ⟨.other, 1, 8, [.nilf], none⟩ := ⟨⟨_, Tryz.underlying54, (fun f h => by cases h), (fun n e h => by cases h)⟩, Tryz.t54, _, by kernel_rfl, rfl, rfl, rfl, ⟨z_nilf, trivial⟩⟩
theorem ti55 : TIOK Tryz.prog 55 ⟨.struct [(0, 9), (1, 36), (2, 53)], 8, 48, [.str [], .flt .f32 0, .flt .f32 0, .flt .f32 0, .flt .f32 0, .flt .f32 0, .flt .f32 0, .flt .f32 0], none⟩ := ⟨⟨_, Tryz.underlying55, rfl⟩, Tryz.t55, _, by kernel_rfl, rfl, rfl, rfl, ⟨z_str rfl, z_f32, z_f32, z_f32, z_f32, z_f32, z_f32, z_f32, trivial⟩⟩
theorem ti56 : TIOK Tryz.prog 56 ⟨.struct [(0, 9), (1, 36), (2, 53)], 8, 48, [.str [], .flt .f32 0, .flt .f32 0, .flt .f32 0, .flt .f32 0, .flt .f32 0, .flt .f32 0, .flt .f32 0], some .entry⟩ := ⟨⟨_, Tryz.underlying56, rfl⟩, Tryz.t56, _, by kernel_rfl, rfl, rfl, rfl, ⟨z_str rfl, z_f32, z_f32, z_f32, z_f32, z_f32, z_f32, z_f32, trivial⟩⟩
theorem ti57 : TIOK Tryz.prog 57 ⟨.other, 1, 8, [.nilf], none⟩ := ⟨⟨_, Tryz.underlying57, (fun f h => by cases h), (fun n e h => by cases h)⟩, Tryz.t57, _, by kernel_rfl, rfl, rfl, rfl, ⟨z_nilf, trivial⟩⟩
theorem ti58 : TIOK Tryz.prog 58 ⟨.other, 1, 8, [.nilf], none⟩ := ⟨⟨_, Tryz.underlying58, (fun f h => by cases h), (fun n e h => by cases h)⟩, Tryz.t58, _, by kernel_rfl, rfl, rfl, rfl, ⟨z_nilf, trivial⟩⟩
theorem ti59 : TIOK Tryz.prog 59 ⟨.other, 1, 8, [.nilf], none⟩ := ⟨⟨_, Tryz.underlying59, (fun f h => by cases h), (fun n e h => by cases h)⟩, Tryz.t59, _, by kernel_rfl, rfl, rfl, rfl, ⟨z_nilf, trivial⟩⟩
theorem ti60 : TIOK Tryz.prog 60 ⟨.other, 1, 8, [.nilf], none⟩ := ⟨⟨_, Tryz.underlying60, (fun f h => by cases h), (fun n e h => by cases h)⟩, Tryz.t60, _, by kernel_rfl, rfl, rfl, rfl, ⟨z_nilf, trivial⟩⟩
theorem ti61 : TIOK Tryz.prog 61 ⟨.other, 1, 8, [.nilf], none⟩ := ⟨⟨_, Tryz.underlying61, (fun f h => by cases h), (fun n e h => by cases h)⟩, Tryz.t61, _, by kernel_rfl, rfl, rfl, rfl, ⟨z_nilf, trivial⟩⟩
theorem ti62 : TIOK Tryz.prog 62 ⟨.other, 1, 8, [.nilf], none⟩ := ⟨⟨_, Tryz.underlying62, (fun f h => by cases h), (fun n e h => by cases h)⟩, Tryz.t62, _, by kernel_rfl, rfl, rfl, rfl, ⟨z_nilf, trivial⟩⟩
theorem ti63 : TIOK Tryz.prog 63 ⟨.other, 1, 8, [.nilf], none⟩ := ⟨⟨_, Tryz.underlying63, (fun f h => by cases h), (fun n e h => by cases h)⟩, Tryz.t63, _, by kernel_rfl, rfl, rfl, rfl, ⟨z_nilf, trivial⟩⟩
theorem ti64 : TIOK Tryz.prog 64 ⟨.other, 1, 8, [.nilf], none⟩ := ⟨⟨_, Tryz.underlying64, (fun f h => by cases h), (fun n e h => by cases h)⟩, Tryz.t64, _, by kernel_rfl, rfl, rfl, rfl, ⟨z_nilf, trivial⟩⟩
theorem ti65 : TIOK Tryz.prog 65 ⟨.flt .f64, 1, 8, [.flt .f64 0], some (.flt .f64)⟩ := ⟨Tryz.underlying65, Tryz.t65, _, by kernel_rfl, rfl, rfl, rfl, ⟨z_f64, trivial⟩⟩
theorem ti67 : TIOK Tryz.prog 67 ⟨.other, 1, 8, [.nilf], none⟩ := ⟨⟨_, Tryz.underlying67, (fun f h => by cases h), (fun n e h => by cases h)⟩, Tryz.t67, _, by kernel_rfl, rfl, rfl, rfl, ⟨z_nilf, trivial⟩⟩
theorem ti68 : TIOK Tryz.prog 68 ⟨.other, 1, 8, [.nilf], none⟩ := ⟨⟨_, Tryz.underlying68, (fun f h => by cases h), (fun n e h => by cases h)⟩, Tryz.t68, _, by kernel_rfl, rfl, rfl, rfl, ⟨z_nilf, trivial⟩⟩
theorem ti69 : TIOK Tryz.prog 69 ⟨.other, 1, 8, [.nilf], none⟩ := ⟨⟨_, Tryz.underlying69, (fun f h => by cases h), (fun n e h => by cases h)⟩, Tryz.t69, _, by kernel_rfl, rfl, rfl, rfl, ⟨z_nilf, trivial⟩⟩
theorem ti70 : TIOK Tryz.prog 70 ⟨.slc 5, 1, 24, [.nils], none⟩ := ⟨Tryz.underlying70, Tryz.t70, _, by kernel_rfl, rfl, rfl, rfl, ⟨z_nils, trivial⟩⟩
theorem ti71 : TIOK Tryz.prog 71 ⟨.other, 1, 8, [.nilf], none⟩ := ⟨⟨_, Tryz.underlying71, (fun f h => by cases h), (fun n e h => by cases h)⟩, Tryz.t71, _, by kernel_rfl, rfl, rfl, rfl, ⟨z_nilf, trivial⟩⟩
theorem ti72 : TIOK Tryz.prog 72 ⟨.other, 1, 8, [.nilf], none⟩ := ⟨⟨_, Tryz.underlying72, (fun f h => by cases h), (fun n e h => by cases h)⟩, Tryz.t72, _, by kernel_rfl, rfl, rfl, rfl, ⟨z_nilf, trivial⟩⟩
theorem ti73 : TIOK Tryz.prog 73 ⟨.other, 1, 8, [.nilf], none⟩ := ⟨⟨_, Tryz.underlying73, (fun f h => by cases h), (fun n e h => by cases h)⟩, Tryz.t73, _, by kernel_rfl, rfl, rfl, rfl, ⟨z_nilf, trivial⟩⟩
theorem ti74 : TIOK Tryz.prog 74 ⟨.other, 1, 8, [.nilf], none⟩ := ⟨⟨_, Tryz.underlying74, (fun f h => by cases h), (fun n e h => by cases h)⟩, Tryz.t74, _, by kernel_rfl, rfl, rfl, rfl, ⟨z_nilf, trivial⟩⟩
theorem ti75 : TIOK Tryz.prog 75 ⟨.other, 1, 8, [.nilf], none⟩ := ⟨⟨_, Tryz.underlying75, (fun f h => by cases h), (fun n e h => by cases h)⟩, Tryz.t75, _, by kernel_rfl, rfl, rfl, rfl, ⟨z_nilf, trivial⟩⟩
theorem ti76 : TIOK Tryz.prog 76 ⟨.other, 1, 8, [.nilf], none⟩ := ⟨⟨_, Tryz.underlying76, (fun f h => by cases h), (fun n e h => by cases h)⟩, Tryz.t76, _, by kernel_rfl, rfl, rfl, rfl, ⟨z_nilf, trivial⟩⟩
theorem ti77 : TIOK Tryz.prog 77 ⟨.other, 1, 8, [.nilf], none⟩ := ⟨⟨_, Tryz.underlying77, (fun f h => by cases h), (fun n e h => by cases h)⟩, Tryz.t77, _, by kernel_rfl, rfl, rfl, rfl, ⟨z_nilf, trivial⟩⟩
theorem ti78 : TIOK Tryz.prog 78 ⟨.other, 1, 8, [.nilf], none⟩ := ⟨⟨_, Tryz.underlying78, (fun f h => by cases h), (fun n e h => by cases h)⟩, Tryz.t78, _, by kernel_rfl, rfl, rfl, rfl, ⟨z_nilf, trivial⟩⟩
theorem ti79 : TIOK Tryz.prog 79 ⟨.other, 1, 8, [.nilf], none⟩ := ⟨⟨_, Tryz.underlying79, (fun f h => by cases h), (fun n e h => by cases h)⟩, Tryz.t79, _, by kernel_rfl, rfl, rfl, rfl, ⟨z_nilf, trivial⟩⟩
theorem ti80 : TIOK Tryz.prog 80 ⟨.ptr 56, 1, 8, [.nilp], none⟩ := ⟨Tryz.underlying80, Tryz.t80, _, by kernel_rfl, rfl, rfl, rfl, ⟨z_nilp, trivial⟩⟩
theorem ti81 : TIOK Tryz.prog 81 ⟨.int .u64, 1, 8, [.int .u64 0], some (.int .u64)⟩ := ⟨Tryz.underlying81, Tryz.t81, _, by kernel_rfl, rfl, rfl, rfl, ⟨z_int, trivial⟩⟩
theorem ti82 : TIOK Tryz.prog 82 ⟨.other, 1, 16, [.nili], none⟩ := ⟨⟨_, Tryz.underlying82, (fun f h => by cases h), (fun n e h => by cases h)⟩, Tryz.t82, _, by kernel_rfl, rfl, rfl, rfl, ⟨z_nili, trivial⟩⟩
theorem ti83 : TIOK Tryz.prog 83 ⟨.other, 1, 16, [.nili], none⟩ := ⟨⟨_, Tryz.underlying83, (fun f h => by cases h), (fun n e h => by cases h)⟩, Tryz.t83, _, by kernel_rfl, rfl, rfl, rfl, ⟨z_nili, trivial⟩⟩
theorem ti85 : TIOK Tryz.prog 85 ⟨.other, 1, 8, [.nilf], none⟩ := ⟨⟨_, Tryz.underlying85, (fun f h => by cases h), (fun n e h => by cases h)⟩, Tryz.t85, _, by kernel_rfl, rfl, rfl, rfl, ⟨z_nilf, trivial⟩⟩
theorem ti86 : TIOK Tryz.prog 86 ⟨.other, 1, 8, [.nilf], none⟩ := ⟨⟨_, Tryz.underlying86, (fun f h => by cases h), (fun n e h => by cases h)⟩, Tryz.t86, _, by kernel_rfl, rfl, rfl, rfl, ⟨z_nilf, trivial⟩⟩
theorem ti87 : TIOK Tryz.prog 87 ⟨.int .u32, 1, 4, [.int .u32 0], some (.int .u32)⟩ := ⟨Tryz.underlying87, Tryz.t87, _, by kernel_rfl, rfl, rfl, rfl, ⟨z_int, trivial⟩⟩
theorem ti88 : TIOK Tryz.prog 88 ⟨.other, 1, 8, [.nilf], none⟩ := ⟨⟨_, Tryz.underlying88, (fun f h => by cases h), (fun n e h => by cases h)⟩, Tryz.t88, _, by kernel_rfl, rfl, rfl, rfl, ⟨z_nilf, trivial⟩⟩
theorem ti89 : TIOK Tryz.prog 89 ⟨.other, 1, 8, [.nilf], none⟩ := ⟨⟨_, Tryz.underlying89, (fun f h => by cases h), (fun n e h => by cases h)⟩, Tryz.t89, _, by kernel_rfl, rfl, rfl, rfl, ⟨z_nilf, trivial⟩⟩
theorem ti90 : TIOK Tryz.prog 90 ⟨.other, 1, 8, [.nilf], none⟩ := ⟨⟨_, Tryz.underlying90, (fun f h => by cases h), (fun n e h => by cases h)⟩, Tryz.t90, _, by kernel_rfl, rfl, rfl, rfl, ⟨z_nilf, trivial⟩⟩
theorem ti91 : TIOK Tryz.prog 91 ⟨.ptr 44, 1, 8, [.nilp], none⟩ := ⟨Tryz.underlying91, Tryz.t91, _, by kernel_rfl, rfl, rfl, rfl, ⟨z_nilp, trivial⟩⟩
theorem ti92 : TIOK Tryz.prog 92 ⟨.other, 1, 8, [.nilf], none⟩ := ⟨⟨_, Tryz.underlying92, (fun f h => by cases h), (fun n e h => by cases h)⟩, Tryz.t92, _, by kernel_rfl, rfl, rfl, rfl, ⟨z_nilf, trivial⟩⟩
theorem ti94 : TIOK Tryz.prog 94 ⟨.other, 1, 8, [.nilf], none⟩ := ⟨⟨_, Tryz.underlying94, (fun f h => by cases h), (fun n e h => by cases h)⟩, Tryz.t94, _, by kernel_rfl, rfl, rfl, rfl, ⟨z_nilf, trivial⟩⟩
theorem ti95 : TIOK Tryz.prog 95 ⟨.other, 1, 8, [.nilf], none⟩ := ⟨⟨_, Tryz.underlying95, (fun f h => by cases h), (fun n e h => by cases h)⟩, Tryz.t95, _, by kernel_rfl, rfl, rfl, rfl, ⟨z_nilf, trivial⟩⟩
theorem ti96 : TIOK Tryz.prog 96 ⟨.other, 1, 8, [.nilf], none⟩ := ⟨⟨_, Tryz.underlying96, (fun f h => by cases h), (fun n e h => by cases h)⟩, Tryz.t96, _, by kernel_rfl, rfl, rfl, rfl, ⟨z_nilf, trivial⟩⟩
theorem ti97 : TIOK Tryz.prog 97 ⟨.other, 1, 8, [.nilf], none⟩ := ⟨⟨_, Tryz.underlying97, (fun f h => by cases h), (fun n e h => by cases h)⟩, Tryz.t97, _, by kernel_rfl, rfl, rfl, rfl, ⟨z_nilf, trivial⟩⟩
theorem ti98 : TIOK Tryz.prog 98 ⟨.other, 1, 8, [.nilf], none⟩ := ⟨⟨_, Tryz.underlying98, (fun f h => by cases h), (fun n e h => by cases h)⟩, Tryz.t98, _, by kernel_rfl, rfl, rfl, rfl, ⟨z_nilf, trivial⟩⟩
theorem ti99 : TIOK Tryz.prog 99 ⟨.other, 1, 8, [.nilf], none⟩ := ⟨⟨_, Tryz.underlying99, (fun f h => by cases h), (fun n e h => by cases h)⟩, Tryz.t99, _, by kernel_rfl, rfl, rfl, rfl, ⟨z_nilf, trivial⟩⟩
theorem ti100 : TIOK Tryz.prog 100 ⟨.other, 1, 8, [.nilf], none⟩ := ⟨⟨_, Tryz.underlying100, (fun f h => by cases h), (fun n e h => by cases h)⟩, Tryz.t100, _, by kernel_rfl, rfl, rfl, rfl, ⟨z_nilf, trivial⟩⟩
theorem ti101 : TIOK Tryz.prog 101 ⟨.other, 1, 8, [.nilf], none⟩ := ⟨⟨_, Tryz.underlying101, (fun f h => by cases h), (fun n e h => by cases h)⟩, Tryz.t101, _, by kernel_rfl, rfl, rfl, rfl, ⟨z_nilf, trivial⟩⟩
theorem ti102 : TIOK Tryz.prog 102 ⟨.ptr 53, 1, 8, [.nilp], none⟩ := ⟨Tryz.underlying102, Tryz.t102, _, by kernel_rfl, rfl, rfl, rfl, ⟨z_nilp, trivial⟩⟩
theorem ti103 : TIOK Tryz.prog 103 ⟨.other, 1, 8, [.nilf], none⟩ := ⟨⟨_, Tryz.underlying103, (fun f h => by cases h), (fun n e h => by cases h)⟩, Tryz.t103, _, by kernel_rfl, rfl, rfl, rfl, ⟨z_nilf, trivial⟩⟩
theorem ti104 : TIOK Tryz.prog 104 ⟨.int .u64, 1, 8, [.int .u64 0], some (.int .u64)⟩ := ⟨Tryz.underlying104, Tryz.t104, _, by kernel_rfl, rfl, rfl, rfl, ⟨z_int, trivial⟩⟩
theorem ti105 : TIOK Tryz.prog 105 ⟨.other, 1, 8, [.nilf], none⟩ := ⟨⟨_, Tryz.underlying105, (fun f h => by cases h), (fun n e h => by cases h)⟩, Tryz.t105, _, by kernel_rfl, rfl, rfl, rfl, ⟨z_nilf, trivial⟩⟩
theorem ti106 : TIOK Tryz.prog 106 ⟨.other, 1, 8, [.nilf], none⟩ := ⟨⟨_, Tryz.underlying106, (fun f h => by cases h), (fun n e h => by cases h)⟩, Tryz.t106, _, by kernel_rfl, rfl, rfl, rfl, ⟨z_nilf, trivial⟩⟩
theorem ti107 : TIOK Tryz.prog 107 ⟨.other, 1, 8, [.nilf], none⟩ := ⟨⟨_, Tryz.underlying107, (fun f h => by cases h), (fun n e h => by cases h)⟩, Tryz.t107, _, by kernel_rfl, rfl, rfl, rfl, ⟨z_nilf, trivial⟩⟩
theorem ti108 : TIOK Tryz.prog 108 ⟨.other, 1, 8, [.nilf], none⟩ := ⟨⟨_, Tryz.underlying108, (fun f h => by cases h), (fun n e h => by cases h)⟩, Tryz.t108, _, by kernel_rfl, rfl, rfl, rfl, ⟨z_nilf, trivial⟩⟩
theorem ti109 : TIOK Tryz.prog 109 ⟨.other, 1, 8, [.nilf], none⟩ := ⟨⟨_, Tryz.underlying109, (fun f h => by cases h), (fun n e h => by cases h)⟩, Tryz.t109, _, by kernel_rfl, rfl, rfl, rfl, ⟨z_nilf, trivial⟩⟩
theorem ti110 : TIOK Tryz.prog 110 ⟨.other, 1, 8, [.nilf], none⟩ := ⟨⟨_, Tryz.underlying110, (fun f h => by cases h), (fun n e h => by cases h)⟩, Tryz.t110, _, by kernel_rfl, rfl, rfl, rfl, ⟨z_nilf, trivial⟩⟩
theorem ti112 : TIOK Tryz.prog 112 ⟨.other, 1, 8, [.nilf], none⟩ := ⟨⟨_, Tryz.underlying112, (fun f h => by cases h), (fun n e h => by cases h)⟩, Tryz.t112, _, by kernel_rfl, rfl, rfl, rfl, ⟨z_nilf, trivial⟩⟩
theorem ti113 : TIOK Tryz.prog 113 ⟨.int .i64, 1, 8, [.int .i64 0], some (.int .i64)⟩ := ⟨Tryz.underlying113, Tryz.t113, _, by kernel_rfl, rfl, rfl, rfl, ⟨z_int, trivial⟩⟩
theorem ti114 : TIOK Tryz.prog 114 ⟨.other, 1, 8, [.nilf], none⟩ := ⟨⟨_, Tryz.underlying114, (fun f h => by cases h), (fun n e h => by cases h)⟩, Tryz.t114, _, by kernel_rfl, rfl, rfl, rfl, ⟨z_nilf, trivial⟩⟩
theorem ti115 : TIOK Tryz.prog 115 ⟨.ptr 137, 1, 8, [.nilp], none⟩ := ⟨Tryz.underlying115, Tryz.t115, _, by kernel_rfl, rfl, rfl, rfl, ⟨z_nilp, trivial⟩⟩
theorem ti116 : TIOK Tryz.prog 116 ⟨.other, 1, 8, [.nilf], none⟩ := ⟨⟨_, Tryz.underlying116, (fun f h => by cases h), (fun n e h => by cases h)⟩, Tryz.t116, _, by kernel_rfl, rfl, rfl, rfl, ⟨z_nilf, trivial⟩⟩
theorem ti117 : TIOK Tryz.prog 117 ⟨.other, 1, 8, [.nilf], none⟩ := ⟨⟨_, Tryz.underlying117, (fun f h => by cases h), (fun n e h => by cases h)⟩, Tryz.t117, _, by kernel_rfl, rfl, rfl, rfl, ⟨z_nilf, trivial⟩⟩
theorem ti119 : TIOK Tryz.prog 119 ⟨.other, 1, 8, [.nilf], none⟩ := ⟨⟨_, Tryz.underlying119, (fun f h => by cases h), (fun n e h => by cases h)⟩, Tryz.t119, _, by kernel_rfl, rfl, rfl, rfl, ⟨z_nilf, trivial⟩⟩
theorem ti120 : TIOK Tryz.prog 120 ⟨.other, 1, 8, [.nilf], none⟩ := ⟨⟨_, Tryz.underlying120, (fun f h => by cases h), (fun n e h => by cases h)⟩, Tryz.t120, _, by kernel_rfl, rfl, rfl, rfl, ⟨z_nilf, trivial⟩⟩
theorem ti121 : TIOK Tryz.prog 121 ⟨.ptr 123, 1, 8, [.nilp], none⟩ := ⟨Tryz.underlying121, Tryz.t121, _, by kernel_rfl, rfl, rfl, rfl, ⟨z_nilp, trivial⟩⟩
theorem ti122 : TIOK Tryz.prog 122 ⟨.struct [(0, 121), (1, 70)], 2, 32, [.nilp, .nils], none⟩ := ⟨⟨_, Tryz.underlying122, rfl⟩, Tryz.t122, _, by kernel_rfl, rfl, rfl, rfl, ⟨z_nilp, z_nils, trivial⟩⟩
theorem ti123 : TIOK Tryz.prog 123 ⟨.struct [(0, 121), (1, 70)], 2, 32, [.nilp, .nils], none⟩ := ⟨⟨_, Tryz.underlying123, rfl⟩, Tryz.t123, _, by kernel_rfl, rfl, rfl, rfl, ⟨z_nilp, z_nils, trivial⟩⟩
theorem ti124 : TIOK Tryz.prog 124 ⟨.other, 1, 8, [.nilf], none⟩ := ⟨⟨_, Tryz.underlying124, (fun f h => by cases h), (fun n e h => by cases h)⟩, Tryz.t124, _, by kernel_rfl, rfl, rfl, rfl, ⟨z_nilf, trivial⟩⟩
theorem ti126 : TIOK Tryz.prog 126 ⟨.other, 1, 8, [.nilf], none⟩ := ⟨⟨_, Tryz.underlying126, (fun f h => by cases h), (fun n e h => by cases h)⟩, Tryz.t126, _, by kernel_rfl, rfl, rfl, rfl, ⟨z_nilf, trivial⟩⟩
theorem ti127 : TIOK Tryz.prog 127 ⟨.other, 1, 8, [.nilf], none⟩ := ⟨⟨_, Tryz.underlying127, (fun f h => by cases h), (fun n e h => by cases h)⟩, Tryz.t127, _, by kernel_rfl, rfl, rfl, rfl, ⟨z_nilf, trivial⟩⟩
theorem ti128 : TIOK Tryz.prog 128 ⟨.other, 1, 8, [.nilf], none⟩ := ⟨⟨_, Tryz.underlying128, (fun f h => by cases h), (fun n e h => by cases h)⟩, Tryz.t128, _, by kernel_rfl, rfl, rfl, rfl, ⟨z_nilf, trivial⟩⟩
theorem ti130 : TIOK Tryz.prog 130 ⟨.struct [(0, 5), (1, 5)], 2, 2, [.int .u8 0, .int .u8 0], none⟩ := ⟨⟨_, Tryz.underlying130, rfl⟩, Tryz.t130, _, by kernel_rfl, rfl, rfl, rfl, ⟨z_int, z_int, trivial⟩⟩
theorem ti131 : TIOK Tryz.prog 131 ⟨.struct [(0, 5), (1, 5)], 2, 2, [.int .u8 0, .int .u8 0], none⟩ := ⟨⟨_, Tryz.underlying131, rfl⟩, Tryz.t131, _, by kernel_rfl, rfl, rfl, rfl, ⟨z_int, z_int, trivial⟩⟩
theorem ti132 : TIOK Tryz.prog 132 ⟨.arr 16 131, 32, 32, [.int .u8 0, .int .u8 0, .int .u8 0, .int .u8 0, .int .u8 0, .int .u8 0, .int .u8 0, .int .u8 0, .int .u8 0, .int .u8 0, .int .u8 0, .int .u8 0, .int .u8 0, .int .u8 0, .int .u8 0, .int .u8 0, .int .u8 0, .int .u8 0, .int .u8 0, .int .u8 0, .int .u8 0, .int .u8 0, .int .u8 0, .int .u8 0, .int .u8 0, .int .u8 0, .int .u8 0, .int .u8 0, .int .u8 0, .int .u8 0, .int .u8 0, .int .u8 0], none⟩ := ⟨Tryz.underlying132, Tryz.t132, _, by kernel_rfl, rfl, rfl, rfl, ⟨z_int, z_int, z_int, z_int, z_int, z_int, z_int, z_int, z_int, z_int, z_int, z_int, z_int, z_int, z_int, z_int, z_int, z_int, z_int, z_int, z_int, z_int, z_int, z_int, z_int, z_int, z_int, z_int, z_int, z_int, z_int, z_int, trivial⟩⟩
theorem ti133 : TIOK Tryz.prog 133 ⟨.other, 1, 8, [.nilf], none⟩ := ⟨⟨_, Tryz.underlying133, (fun f h => by cases h), (fun n e h => by cases h)⟩, Tryz.t133, _, by kernel_rfl, rfl, rfl, rfl, ⟨z_nilf, trivial⟩⟩
theorem ti134 : TIOK Tryz.prog 134 ⟨.other, 1, 8, [.nilf], none⟩ := ⟨⟨_, Tryz.underlying134, (fun f h => by cases h), (fun n e h => by cases h)⟩, Tryz.t134, _, by kernel_rfl, rfl, rfl, rfl, ⟨z_nilf, trivial⟩⟩
theorem ti135 : TIOK Tryz.prog 135 ⟨.other, 1, 8, [.nilf], none⟩ := ⟨⟨_, Tryz.underlying135, (fun f h => by cases h), (fun n e h => by cases h)⟩, Tryz.t135, _, by kernel_rfl, rfl, rfl, rfl, ⟨z_nilf, trivial⟩⟩
theorem ti136 : TIOK Tryz.prog 136 ⟨.struct [(0, 9), (1, 9), (2, 83)], 3, 48, [.str [], .str [], .nili], none⟩ := ⟨⟨_, Tryz.underlying136, rfl⟩, Tryz.t136, _, by kernel_rfl, rfl, rfl, rfl, ⟨z_str rfl, z_str rfl, z_nili, trivial⟩⟩
theorem ti137 : TIOK Tryz.prog 137 ⟨.struct [(0, 9), (1, 9), (2, 83)], 3, 48, [.str [], .str [], .nili], none⟩ := ⟨⟨_, Tryz.underlying137, rfl⟩, Tryz.t137, _, by kernel_rfl, rfl, rfl, rfl, ⟨z_str rfl, z_str rfl, z_nili, trivial⟩⟩
theorem ti138 : TIOK Tryz.prog 138 ⟨.other, 1, 8, [.nilf], none⟩ := ⟨⟨_, Tryz.underlying138, (fun f h => by cases h), (fun n e h => by cases h)⟩, Tryz.t138, _, by kernel_rfl, rfl, rfl, rfl, ⟨z_nilf, trivial⟩⟩
theorem ti139 : TIOK Tryz.prog 139 ⟨.arr 24 5, 24, 24, [.int .u8 0, .int .u8 0, .int .u8 0, .int .u8 0, .int .u8 0, .int .u8 0, .int .u8 0, .int .u8 0, .int .u8 0, .int .u8 0, .int .u8 0, .int .u8 0, .int .u8 0, .int .u8 0, .int .u8 0, .int .u8 0, .int .u8 0, .int .u8 0, .int .u8 0, .int .u8 0, .int .u8 0, .int .u8 0, .int .u8 0, .int .u8 0], none⟩ := ⟨Tryz.underlying139, Tryz.t139, _, by kernel_rfl, rfl, rfl, rfl, ⟨z_int, z_int, z_int, z_int, z_int, z_int, z_int, z_int, z_int, z_int, z_int, z_int, z_int, z_int, z_int, z_int, z_int, z_int, z_int, z_int, z_int, z_int, z_int, z_int, trivial⟩⟩
theorem ti140 : TIOK Tryz.prog 140 ⟨.other, 1, 8, [.nilf], none⟩ := ⟨⟨_, Tryz.underlying140, (fun f h => by cases h), (fun n e h => by cases h)⟩, Tryz.t140, _, by kernel_rfl, rfl, rfl, rfl, ⟨z_nilf, trivial⟩⟩
theorem ti141 : TIOK Tryz.prog 141 ⟨.other, 1, 8, [.nilf], none⟩ := ⟨⟨_, Tryz.underlying141, (fun f h => by cases h), (fun n e h => by cases h)⟩, Tryz.t141, _, by kernel_rfl, rfl, rfl, rfl, ⟨z_nilf, trivial⟩⟩
theorem ti143 : TIOK Tryz.prog 143 ⟨.other, 1, 8, [.nilf], none⟩ := ⟨⟨_, Tryz.underlying143, (fun f h => by cases h), (fun n e h => by cases h)⟩, Tryz.t143, _, by kernel_rfl, rfl, rfl, rfl, ⟨z_nilf, trivial⟩⟩
theorem ti144 : TIOK Tryz.prog 144 ⟨.other, 1, 8, [.nilf], none⟩ := ⟨⟨_, Tryz.underlying144, (fun f h => by cases h), (fun n e h => by cases h)⟩, Tryz.t144, _, by kernel_rfl, rfl, rfl, rfl, ⟨z_nilf, trivial⟩⟩
theorem ti146 : TIOK Tryz.prog 146 ⟨.other, 1, 8, [.nilf], none⟩ := ⟨⟨_, Tryz.underlying146, (fun f h => by cases h), (fun n e h => by cases h)⟩, Tryz.t146, _, by kernel_rfl, rfl, rfl, rfl, ⟨z_nilf, trivial⟩⟩
theorem ti147 : TIOK Tryz.prog 147 ⟨.ptr 5, 1, 8, [.nilp], none⟩ := ⟨Tryz.underlying147, Tryz.t147, _, by kernel_rfl, rfl, rfl, rfl, ⟨z_nilp, trivial⟩⟩
theorem ti148 : TIOK Tryz.prog 148 ⟨.other, 1, 8, [.nilf], none⟩ := ⟨⟨_, Tryz.underlying148, (fun f h => by cases h), (fun n e h => by cases h)⟩, Tryz.t148, _, by kernel_rfl, rfl, rfl, rfl, ⟨z_nilf, trivial⟩⟩
theorem ti149 : TIOK Tryz.prog 149 ⟨.other, 1, 8, [.nilf], none⟩ := ⟨⟨_, Tryz.underlying149, (fun f h => by cases h), (fun n e h => by cases h)⟩, Tryz.t149, _, by kernel_rfl, rfl, rfl, rfl, ⟨z_nilf, trivial⟩⟩
theorem ti150 : TIOK Tryz.prog 150 ⟨.ptr 152, 1, 8, [.nilp], none⟩ := ⟨Tryz.underlying150, Tryz.t150, _, by kernel_rfl, rfl, rfl, rfl, ⟨z_nilp, trivial⟩⟩
theorem ti151 : TIOK Tryz.prog 151 ⟨.struct [(0, 9)], 1, 16, [.str []], none⟩ := ⟨⟨_, Tryz.underlying151, rfl⟩, Tryz.t151, _, by kernel_rfl, rfl, rfl, rfl, ⟨z_str rfl, trivial⟩⟩
theorem ti152 : TIOK Tryz.prog 152 ⟨.struct [(0, 9)], 1, 16, [.str []], none⟩ := ⟨⟨_, Tryz.underlying152, rfl⟩, Tryz.t152, _, by kernel_rfl, rfl, rfl, rfl, ⟨z_str rfl, trivial⟩⟩
theorem ti153 : TIOK Tryz.prog 153 ⟨.other, 1, 8, [.nilf], none⟩ := ⟨⟨_, Tryz.underlying153, (fun f h => by cases h), (fun n e h => by cases h)⟩, Tryz.t153, _, by kernel_rfl, rfl, rfl, rfl, ⟨z_nilf, trivial⟩⟩
theorem ti154 : TIOK Tryz.prog 154 ⟨.arr 20 81, 20, 160, [.int .u64 0, .int .u64 0, .int .u64 0, .int .u64 0, .int .u64 0, .int .u64 0, .int .u64 0, .int .u64 0, .int .u64 0, .int .u64 0, .int .u64 0, .int .u64 0, .int .u64 0, .int .u64 0, .int .u64 0, .int .u64 0, .int .u64 0, .int .u64 0, .int .u64 0, .int .u64 0], none⟩ := ⟨Tryz.underlying154, Tryz.t154, _, by kernel_rfl, rfl, rfl, rfl, ⟨z_int, z_int, z_int, z_int, z_int, z_int, z_int, z_int, z_int, z_int, z_int, z_int, z_int, z_int, z_int, z_int, z_int, z_int, z_int, z_int, trivial⟩⟩
theorem ti156 : TIOK Tryz.prog 156 ⟨.other, 1, 8, [.nilf], none⟩ := ⟨⟨_, Tryz.underlying156, (fun f h => by cases h), (fun n e h => by cases h)⟩, Tryz.t156, _, by kernel_rfl, rfl, rfl, rfl, ⟨z_nilf, trivial⟩⟩
theorem ti157 : TIOK Tryz.prog 157 ⟨.other, 1, 8, [.nilf], none⟩ := ⟨⟨_, Tryz.underlying157, (fun f h => by cases h), (fun n e h => by cases h)⟩, Tryz.t157, _, by kernel_rfl, rfl, rfl, rfl, ⟨z_nilf, trivial⟩⟩
theorem ti158 : TIOK Tryz.prog 158 ⟨.other, 1, 8, [.nilp], none⟩ := ⟨⟨_, Tryz.underlying158, (fun f h => by cases h), (fun n e h => by cases h)⟩, Tryz.t158, _, by kernel_rfl, rfl, rfl, rfl, ⟨z_nilp, trivial⟩⟩
theorem ti159 : TIOK Tryz.prog 159 ⟨.other, 1, 8, [.nilf], none⟩ := ⟨⟨_, Tryz.underlying159, (fun f h => by cases h), (fun n e h => by cases h)⟩, Tryz.t159, _, by kernel_rfl, rfl, rfl, rfl, ⟨z_nilf, trivial⟩⟩
theorem ti160 : TIOK Tryz.prog 160 ⟨.other, 1, 8, [.nilf], none⟩ := ⟨⟨_, Tryz.underlying160, (fun f h => by cases h), (fun n e h => by cases h)⟩, Tryz.t160, _, by kernel_rfl, rfl, rfl, rfl, ⟨z_nilf, trivial⟩⟩
theorem ti161 : TIOK Tryz.prog 161 ⟨.other, 1, 8, [.nilf], none⟩ := ⟨⟨_, Tryz.underlying161, (fun f h => by cases h), (fun n e h => by cases h)⟩, Tryz.t161, _, by kernel_rfl, rfl, rfl, rfl, ⟨z_nilf, trivial⟩⟩
theorem ti162 : TIOK Tryz.prog 162 ⟨.arr 32 5, 32, 32, [.int .u8 0, .int .u8 0, .int .u8 0, .int .u8 0, .int .u8 0, .int .u8 0, .int .u8 0, .int .u8 0, .int .u8 0, .int .u8 0, .int .u8 0, .int .u8 0, .int .u8 0, .int .u8 0, .int .u8 0, .int .u8 0, .int .u8 0, .int .u8 0, .int .u8 0, .int .u8 0, .int .u8 0, .int .u8 0, .int .u8 0, .int .u8 0, .int .u8 0, .int .u8 0, .int .u8 0, .int .u8 0, .int .u8 0, .int .u8 0, .int .u8 0, .int .u8 0], none⟩ := ⟨Tryz.underlying162, Tryz.t162, _, by kernel_rfl, rfl, rfl, rfl, ⟨z_int, z_int, z_int, z_int, z_int, z_int, z_int, z_int, z_int, z_int, z_int, z_int, z_int, z_int, z_int, z_int, z_int, z_int, z_int, z_int, z_int, z_int, z_int, z_int, z_int, z_int, z_int, z_int, z_int, z_int, z_int, z_int, trivial⟩⟩
theorem ti163 : TIOK Tryz.prog 163 ⟨.arr 64 5, 64, 64, [.int .u8 0, .int .u8 0, .int .u8 0, .int .u8 0, .int .u8 0, .int .u8 0, .int .u8 0, .int .u8 0, .int .u8 0, .int .u8 0, .int .u8 0, .int .u8 0, .int .u8 0, .int .u8 0, .int .u8 0, .int .u8 0, .int .u8 0, .int .u8 0, .int .u8 0, .int .u8 0, .int .u8 0, .int .u8 0, .int .u8 0, .int .u8 0, .int .u8 0, .int .u8 0, .int .u8 0, .int .u8 0, .int .u8 0, .int .u8 0, .int .u8 0, .int .u8 0, .int .u8 0, .int .u8 0, .int .u8 0, .int .u8 0, .int .u8 0, .int .u8 0, .int .u8 0, .int .u8 0, .int .u8 0, .int .u8 0, .int .u8 0, .int .u8 0, .int .u8 0, .int .u8 0, .int .u8 0, .int .u8 0, .int .u8 0, .int .u8 0, .int .u8 0, .int .u8 0, .int .u8 0, .int .u8 0, .int .u8 0, .int .u8 0, .int .u8 0, .int .u8 0, .int .u8 0, .int .u8 0, .int .u8 0, .int .u8 0, .int .u8 0, .int .u8 0], none⟩ := ⟨Tryz.underlying163, Tryz.t163, _, by kernel_rfl, rfl, rfl, rfl, ⟨z_int, z_int, z_int, z_int, z_int, z_int, z_int, z_int, z_int, z_int, z_int, z_int, z_int, z_int, z_int, z_int, z_int, z_int, z_int, z_int, z_int, z_int, z_int, z_int, z_int, z_int, z_int, z_int, z_int, z_int, z_int, z_int, z_int, z_int, z_int, z_int, z_int, z_int, z_int, z_int, z_int, z_int, z_int, z_int, z_int, z_int, z_int, z_int, z_int, z_int, z_int, z_int, z_int, z_int, z_int, z_int, z_int, z_int, z_int, z_int, z_int, z_int, z_int, z_int, trivial⟩⟩
theorem ti164 : TIOK Tryz.prog 164 ⟨.struct [(0, 17), (1, 17), (2, 17), (3, 9)], 4, 40, [.nilp, .nilp, .nilp, .str []], none⟩ := ⟨⟨_, Tryz.underlying164, rfl⟩, Tryz.t164, _, by kernel_rfl, rfl, rfl, rfl, ⟨z_nilp, z_nilp, z_nilp, z_str rfl, trivial⟩⟩
theorem ti165 : TIOK Tryz.prog 165 ⟨.struct [(0, 17), (1, 17), (2, 17), (3, 9)], 4, 40, [.nilp, .nilp, .nilp, .str []], none⟩ := ⟨⟨_, Tryz.underlying165, rfl⟩, Tryz.t165, _, by kernel_rfl, rfl, rfl, rfl, ⟨z_nilp, z_nilp, z_nilp, z_str rfl, trivial⟩⟩
theorem ti166 : TIOK Tryz.prog 166 ⟨.arr 0 16, 0, 0, [], none⟩ := ⟨Tryz.underlying166, Tryz.t166, _, by kernel_rfl, rfl, rfl, rfl, trivial⟩
theorem ti167 : TIOK Tryz.prog 167 ⟨.struct [(0, 166)], 0, 0, [], none⟩ := ⟨⟨_, Tryz.underlying167, rfl⟩, Tryz.t167, _, by kernel_rfl, rfl, rfl, rfl, trivial⟩
theorem ti168 : TIOK Tryz.prog 168 ⟨.struct [(0, 166)], 0, 0, [], none⟩ := ⟨⟨_, Tryz.underlying168, rfl⟩, Tryz.t168, _, by kernel_rfl, rfl, rfl, rfl, trivial⟩
theorem ti169 : TIOK Tryz.prog 169 ⟨.int .u8, 1, 1, [.int .u8 0], some (.int .u8)⟩ := ⟨Tryz.underlying169, Tryz.t169, _, by kernel_rfl, rfl, rfl, rfl, ⟨z_int, trivial⟩⟩
theorem ti170 : TIOK Tryz.prog 170 ⟨.int .u8, 1, 1, [.int .u8 0], some (.int .u8)⟩ := ⟨Tryz.underlying170, Tryz.t170, _, by kernel_rfl, rfl, rfl, rfl, ⟨z_int, trivial⟩⟩
theorem ti171 : TIOK Tryz.prog 171 ⟨.other, 1, 8, [.nilf], none⟩ := ⟨⟨_, Tryz.underlying171, (fun f h => by cases h), (fun n e h => by cases h)⟩, Tryz.t171, _, by kernel_rfl, rfl, rfl, rfl, ⟨z_nilf, trivial⟩⟩
theorem ti172 : TIOK Tryz.prog 172 ⟨.int .i32, 1, 4, [.int .i32 0], some (.int .i32)⟩ := ⟨Tryz.underlying172, Tryz.t172, _, by kernel_rfl, rfl, rfl, rfl, ⟨z_int, trivial⟩⟩
theorem ti173 : TIOK Tryz.prog 173 ⟨.int .i32, 1, 4, [.int .i32 0], some (.int .i32)⟩ := ⟨Tryz.underlying173, Tryz.t173, _, by kernel_rfl, rfl, rfl, rfl, ⟨z_int, trivial⟩⟩
theorem ti174 : TIOK Tryz.prog 174 ⟨.struct [(0, 12), (1, 12), (2, 87), (3, 169), (4, 5), (5, 5), (6, 170), (7, 171), (8, 147), (9, 172), (10, 173)], 11, 48, [.int .u64 0, .int .u64 0, .int .u32 0, .int .u8 0, .int .u8 0, .int .u8 0, .int .u8 0, .nilf, .nilp, .int .i32 0, .int .i32 0], none⟩ := ⟨⟨_, Tryz.underlying174, rfl⟩, Tryz.t174, _, by kernel_rfl, rfl, rfl, rfl, ⟨z_int, z_int, z_int, z_int, z_int, z_int, z_int, z_nilf, z_nilp, z_int, z_int, trivial⟩⟩
theorem ti175 : TIOK Tryz.prog 175 ⟨.struct [(0, 12), (1, 12), (2, 87), (3, 169), (4, 5), (5, 5), (6, 170), (7, 171), (8, 147), (9, 172), (10, 173)], 11, 48, [.int .u64 0, .int .u64 0, .int .u32 0, .int .u8 0, .int .u8 0, .int .u8 0, .int .u8 0, .nilf, .nilp, .int .i32 0, .int .i32 0], none⟩ := ⟨⟨_, Tryz.underlying175, rfl⟩, Tryz.t175, _, by kernel_rfl, rfl, rfl, rfl, ⟨z_int, z_int, z_int, z_int, z_int, z_int, z_int, z_nilf, z_nilp, z_int, z_int, trivial⟩⟩
theorem ti176 : TIOK Tryz.prog 176 ⟨.other, 1, 8, [.nilf], none⟩ := ⟨⟨_, Tryz.underlying176, (fun f h => by cases h), (fun n e h => by cases h)⟩, Tryz.t176, _, by kernel_rfl, rfl, rfl, rfl, ⟨z_nilf, trivial⟩⟩
def tget : List (Nat × TI) → TT
  | [], _ => none
  | (n, i) :: r, t => bif n == t then some i else tget r t
def tget2 : List (List (Nat × TI)) → TT
  | [], _ => none
  | l :: r, t => match tget l t with
    | some i => some i
    | none => tget2 r t
def AllT (P : Program) : List (Nat × TI) → Prop
  | [] => True
  | x :: r => TIOK P x.1 x.2 ∧ AllT P r
def AllT2 (P : Program) : List (List (Nat × TI)) → Prop
  | [] => True
  | x :: r => AllT P x ∧ AllT2 P r
theorem tget_ok {P : Program} : ∀ (l : List (Nat × TI)), AllT P l → TTOK P (tget l)
  | [], _ => fun t i h => by simp [tget] at h
  | (n, j) :: r, hl => fun t i h => by
    simp only [tget, cond_eq_ite, beq_iff_eq] at h
    by_cases q : n = t
    · rw [if_pos q] at h; cases h; subst q; exact hl.1
    · rw [if_neg q] at h; exact tget_ok r hl.2 t i h
theorem tget2_ok {P : Program} : ∀ (l : List (List (Nat × TI))), AllT2 P l → TTOK P (tget2 l)
  | [], _ => fun t i h => by simp [tget2] at h
  | x :: r, hl => fun t i h => by
    simp only [tget2] at h
    split at h
    · rename_i j hj; cases h; exact tget_ok x hl.1 t _ hj
    · exact tget2_ok r hl.2 t i h
def tl0 : List (Nat × TI) := [
(1, ⟨.other, 1, 8, [.nilf], none⟩),
(2, ⟨.int .i64, 1, 8, [.int .i64 0], some (.int .i64)⟩),
(3, ⟨.int .i64, 1, 8, [.int .i64 0], some (.int .i64)⟩),
(4, ⟨.bool, 1, 1, [.bool false], some .bool⟩),
(5, ⟨.int .u8, 1, 1, [.int .u8 0], some (.int .u8)⟩),
(6, ⟨.int .u8, 1, 1, [.int .u8 0], some (.int .u8)⟩),
(7, ⟨.struct [(0, 2), (1, 3), (2, 4), (3, 6)], 4, 24, [.int .i64 0, .int .i64 0, .bool false, .int .u8 0], none⟩),
(8, ⟨.struct [(0, 2), (1, 3), (2, 4), (3, 6)], 4, 24, [.int .i64 0, .int .i64 0, .bool false, .int .u8 0], none⟩),
(9, ⟨.str, 1, 16, [.str []], some .str⟩),
(10, ⟨.str, 1, 16, [.str []], some .str⟩),
(11, ⟨.str, 1, 16, [.str []], some .str⟩),
(12, ⟨.int .u64, 1, 8, [.int .u64 0], some (.int .u64)⟩),
(13, ⟨.struct [(0, 9), (1, 12)], 2, 24, [.str [], .int .u64 0], none⟩),
(14, ⟨.struct [(0, 9), (1, 12)], 2, 24, [.str [], .int .u64 0], none⟩),
(15, ⟨.ptr 165, 1, 8, [.nilp], none⟩),
(16, ⟨.ptr 168, 1, 8, [.nilp], none⟩),
(17, ⟨.ptr 175, 1, 8, [.nilp], none⟩),
(18, ⟨.struct [(0, 17)], 1, 8, [.nilp], none⟩),
(19, ⟨.struct [(0, 17)], 1, 8, [.nilp], none⟩),
(20, ⟨.other, 1, 16, [.nili], none⟩),
(21, ⟨.int .i32, 1, 4, [.int .i32 0], some (.int .i32)⟩),
(22, ⟨.slc 44, 1, 24, [.nils], none⟩),
(24, ⟨.other, 1, 8, [.nilf], none⟩),
(25, ⟨.other, 1, 8, [.nilf], none⟩)
]
theorem tlOk0 : AllT Tryz.prog tl0 := ⟨ti1, ti2, ti3, ti4, ti5, ti6, ti7, ti8, ti9, ti10, ti11, ti12, ti13, ti14, ti15, ti16, ti17, ti18, ti19, ti20, ti21, ti22, ti24, ti25, trivial⟩
def tl1 : List (Nat × TI) := [
(26, ⟨.other, 1, 8, [.nilf], none⟩),
(27, ⟨.other, 1, 8, [.nilf], none⟩),
(28, ⟨.slc 56, 1, 24, [.nils], none⟩),
(30, ⟨.other, 1, 8, [.nilf], none⟩),
(31, ⟨.other, 1, 8, [.nilf], none⟩),
(32, ⟨.other, 1, 8, [.nilf], none⟩),
(33, ⟨.slc 9, 1, 24, [.nils], none⟩),
(34, ⟨.other, 1, 8, [.nilf], none⟩),
(35, ⟨.other, 1, 8, [.nilf], none⟩),
(36, ⟨.flt .f32, 1, 4, [.flt .f32 0], some (.flt .f32)⟩),
(37, ⟨.struct [(0, 36), (1, 36), (2, 36)], 3, 12, [.flt .f32 0, .flt .f32 0, .flt .f32 0], none⟩),
(38, ⟨.struct [(0, 36), (1, 36), (2, 36)], 3, 12, [.flt .f32 0, .flt .f32 0, .flt .f32 0], some .vec⟩),
(40, ⟨.other, 1, 8, [.nilf], none⟩),
(42, ⟨.other, 1, 8, [.nilf], none⟩),
(43, ⟨.struct [(0, 38), (3, 38), (6, 36)], 7, 28, [.flt .f32 0, .flt .f32 0, .flt .f32 0, .flt .f32 0, .flt .f32 0, .flt .f32 0, .flt .f32 0], none⟩),
(44, ⟨.struct [(0, 38), (3, 38), (6, 36)], 7, 28, [.flt .f32 0, .flt .f32 0, .flt .f32 0, .flt .f32 0, .flt .f32 0, .flt .f32 0, .flt .f32 0], some .body⟩),
(45, ⟨.other, 1, 8, [.nilf], none⟩),
(46, ⟨.other, 1, 8, [.nilf], none⟩),
(48, ⟨.other, 1, 8, [.nilf], none⟩),
(49, ⟨.slc 36, 1, 24, [.nils], none⟩),
(51, ⟨.other, 1, 8, [.nilf], none⟩),
(52, ⟨.struct [(0, 36), (1, 36), (2, 36), (3, 36), (4, 36), (5, 36)], 6, 24, [.flt .f32 0, .flt .f32 0, .flt .f32 0, .flt .f32 0, .flt .f32 0, .flt .f32 0], none⟩),
(53, ⟨.struct [(0, 36), (1, 36), (2, 36), (3, 36), (4, 36), (5, 36)], 6, 24, [.flt .f32 0, .flt .f32 0, .flt .f32 0, .flt .f32 0, .flt .f32 0, .flt .f32 0], none⟩),
(54, ⟨.other, 1, 8, [.nilf], none⟩)
]
theorem tlOk1 : AllT Tryz.prog tl1 := ⟨ti26, ti27, ti28, ti30, ti31, ti32, ti33, ti34, ti35, ti36, ti37, ti38, ti40, ti42, ti43, ti44, ti45, ti46, ti48, ti49, ti51, ti52, ti53, ti54, trivial⟩
def tl2 : List (Nat × TI) := [
(55, ⟨.struct [(0, 9), (1, 36), (2, 53)], 8, 48, [.str [], .flt .f32 0, .flt .f32 0, .flt .f32 0, .flt .f32 0, .flt .f32 0, .flt .f32 0, .flt .f32 0], none⟩),
(56, ⟨.struct [(0, 9), (1, 36), (2, 53)], 8, 48, [.str [], .flt .f32 0, .flt .f32 0, .flt .f32 0, .flt .f32 0, .flt .f32 0, .flt .f32 0, .flt .f32 0], some .entry⟩),
(57, ⟨.other, 1, 8, [.nilf], none⟩),
(58, ⟨.other, 1, 8, [.nilf], none⟩),
(59, ⟨.other, 1, 8, [.nilf], none⟩),
(60, ⟨.other, 1, 8, [.nilf], none⟩),
(61, ⟨.other, 1, 8, [.nilf], none⟩),
(62, ⟨.other, 1, 8, [.nilf], none⟩),
(63, ⟨.other, 1, 8, [.nilf], none⟩),
(64, ⟨.other, 1, 8, [.nilf], none⟩),
(65, ⟨.flt .f64, 1, 8, [.flt .f64 0], some (.flt .f64)⟩),
(67, ⟨.other, 1, 8, [.nilf], none⟩),
(68, ⟨.other, 1, 8, [.nilf], none⟩),
(69, ⟨.other, 1, 8, [.nilf], none⟩),
(70, ⟨.slc 5, 1, 24, [.nils], none⟩),
(71, ⟨.other, 1, 8, [.nilf], none⟩),
(72, ⟨.other, 1, 8, [.nilf], none⟩),
(73, ⟨.other, 1, 8, [.nilf], none⟩),
(74, ⟨.other, 1, 8, [.nilf], none⟩),
(75, ⟨.other, 1, 8, [.nilf], none⟩),
(76, ⟨.other, 1, 8, [.nilf], none⟩),
(77, ⟨.other, 1, 8, [.nilf], none⟩),
(78, ⟨.other, 1, 8, [.nilf], none⟩),
(79, ⟨.other, 1, 8, [.nilf], none⟩)
]
theorem tlOk2 : AllT Tryz.prog tl2 := ⟨ti55, ti56, ti57, ti58, ti59, ti60, ti61, ti62, ti63, ti64, ti65, ti67, ti68, ti69, ti70, ti71, ti72, ti73, ti74, ti75, ti76, ti77, ti78, ti79, trivial⟩
def tl3 : List (Nat × TI) := [
(80, ⟨.ptr 56, 1, 8, [.nilp], none⟩),
(81, ⟨.int .u64, 1, 8, [.int .u64 0], some (.int .u64)⟩),
(82, ⟨.other, 1, 16, [.nili], none⟩),
(83, ⟨.other, 1, 16, [.nili], none⟩),
(85, ⟨.other, 1, 8, [.nilf], none⟩),
(86, ⟨.other, 1, 8, [.nilf], none⟩),
(87, ⟨.int .u32, 1, 4, [.int .u32 0], some (.int .u32)⟩),
(88, ⟨.other, 1, 8, [.nilf], none⟩),
(89, ⟨.other, 1, 8, [.nilf], none⟩),
(90, ⟨.other, 1, 8, [.nilf], none⟩),
(91, ⟨.ptr 44, 1, 8, [.nilp], none⟩),
(92, ⟨.other, 1, 8, [.nilf], none⟩),
(94, ⟨.other, 1, 8, [.nilf], none⟩),
(95, ⟨.other, 1, 8, [.nilf], none⟩),
(96, ⟨.other, 1, 8, [.nilf], none⟩),
(97, ⟨.other, 1, 8, [.nilf], none⟩),
(98, ⟨.other, 1, 8, [.nilf], none⟩),
(99, ⟨.other, 1, 8, [.nilf], none⟩),
(100, ⟨.other, 1, 8, [.nilf], none⟩),
(101, ⟨.other, 1, 8, [.nilf], none⟩),
(102, ⟨.ptr 53, 1, 8, [.nilp], none⟩),
(103, ⟨.other, 1, 8, [.nilf], none⟩),
(104, ⟨.int .u64, 1, 8, [.int .u64 0], some (.int .u64)⟩),
(105, ⟨.other, 1, 8, [.nilf], none⟩)
]
theorem tlOk3 : AllT Tryz.prog tl3 := ⟨ti80, ti81, ti82, ti83, ti85, ti86, ti87, ti88, ti89, ti90, ti91, ti92, ti94, ti95, ti96, ti97, ti98, ti99, ti100, ti101, ti102, ti103, ti104, ti105, trivial⟩
def tl4 : List (Nat × TI) := [
(106, ⟨.other, 1, 8, [.nilf], none⟩),
(107, ⟨.other, 1, 8, [.nilf], none⟩),
(108, ⟨.other, 1, 8, [.nilf], none⟩),
(109, ⟨.other, 1, 8, [.nilf], none⟩),
(110, ⟨.other, 1, 8, [.nilf], none⟩),
(112, ⟨.other, 1, 8, [.nilf], none⟩),
(113, ⟨.int .i64, 1, 8, [.int .i64 0], some (.int .i64)⟩),
(114, ⟨.other, 1, 8, [.nilf], none⟩),
(115, ⟨.ptr 137, 1, 8, [.nilp], none⟩),
(116, ⟨.other, 1, 8, [.nilf], none⟩),
(117, ⟨.other, 1, 8, [.nilf], none⟩),
(119, ⟨.other, 1, 8, [.nilf], none⟩),
(120, ⟨.other, 1, 8, [.nilf], none⟩),
(121, ⟨.ptr 123, 1, 8, [.nilp], none⟩),
(122, ⟨.struct [(0, 121), (1, 70)], 2, 32, [.nilp, .nils], none⟩),
(123, ⟨.struct [(0, 121), (1, 70)], 2, 32, [.nilp, .nils], none⟩),
(124, ⟨.other, 1, 8, [.nilf], none⟩),
(126, ⟨.other, 1, 8, [.nilf], none⟩),
(127, ⟨.other, 1, 8, [.nilf], none⟩),
(128, ⟨.other, 1, 8, [.nilf], none⟩),
(130, ⟨.struct [(0, 5), (1, 5)], 2, 2, [.int .u8 0, .int .u8 0], none⟩),
(131, ⟨.struct [(0, 5), (1, 5)], 2, 2, [.int .u8 0, .int .u8 0], none⟩),
(132, ⟨.arr 16 131, 32, 32, [.int .u8 0, .int .u8 0, .int .u8 0, .int .u8 0, .int .u8 0, .int .u8 0, .int .u8 0, .int .u8 0, .int .u8 0, .int .u8 0, .int .u8 0, .int .u8 0, .int .u8 0, .int .u8 0, .int .u8 0, .int .u8 0, .int .u8 0, .int .u8 0, .int .u8 0, .int .u8 0, .int .u8 0, .int .u8 0, .int .u8 0, .int .u8 0, .int .u8 0, .int .u8 0, .int .u8 0, .int .u8 0, .int .u8 0, .int .u8 0, .int .u8 0, .int .u8 0], none⟩),
(133, ⟨.other, 1, 8, [.nilf], none⟩)
]
theorem tlOk4 : AllT Tryz.prog tl4 := ⟨ti106, ti107, ti108, ti109, ti110, ti112, ti113, ti114, ti115, ti116, ti117, ti119, ti120, ti121, ti122, ti123, ti124, ti126, ti127, ti128, ti130, ti131, ti132, ti133, trivial⟩
def tl5 : List (Nat × TI) := [
(134, ⟨.other, 1, 8, [.nilf], none⟩),
(135, ⟨.other, 1, 8, [.nilf], none⟩),
(136, ⟨.struct [(0, 9), (1, 9), (2, 83)], 3, 48, [.str [], .str [], .nili], none⟩),
(137, ⟨.struct [(0, 9), (1, 9), (2, 83)], 3, 48, [.str [], .str [], .nili], none⟩),
(138, ⟨.other, 1, 8, [.nilf], none⟩),
(139, ⟨.arr 24 5, 24, 24, [.int .u8 0, .int .u8 0, .int .u8 0, .int .u8 0, .int .u8 0, .int .u8 0, .int .u8 0, .int .u8 0, .int .u8 0, .int .u8 0, .int .u8 0, .int .u8 0, .int .u8 0, .int .u8 0, .int .u8 0, .int .u8 0, .int .u8 0, .int .u8 0, .int .u8 0, .int .u8 0, .int .u8 0, .int .u8 0, .int .u8 0, .int .u8 0], none⟩),
(140, ⟨.other, 1, 8, [.nilf], none⟩),
(141, ⟨.other, 1, 8, [.nilf], none⟩),
(143, ⟨.other, 1, 8, [.nilf], none⟩),
(144, ⟨.other, 1, 8, [.nilf], none⟩),
(146, ⟨.other, 1, 8, [.nilf], none⟩),
(147, ⟨.ptr 5, 1, 8, [.nilp], none⟩),
(148, ⟨.other, 1, 8, [.nilf], none⟩),
(149, ⟨.other, 1, 8, [.nilf], none⟩),
(150, ⟨.ptr 152, 1, 8, [.nilp], none⟩),
(151, ⟨.struct [(0, 9)], 1, 16, [.str []], none⟩),
(152, ⟨.struct [(0, 9)], 1, 16, [.str []], none⟩),
(153, ⟨.other, 1, 8, [.nilf], none⟩),
(154, ⟨.arr 20 81, 20, 160, [.int .u64 0, .int .u64 0, .int .u64 0, .int .u64 0, .int .u64 0, .int .u64 0, .int .u64 0, .int .u64 0, .int .u64 0, .int .u64 0, .int .u64 0, .int .u64 0, .int .u64 0, .int .u64 0, .int .u64 0, .int .u64 0, .int .u64 0, .int .u64 0, .int .u64 0, .int .u64 0], none⟩),
(156, ⟨.other, 1, 8, [.nilf], none⟩),
(157, ⟨.other, 1, 8, [.nilf], none⟩),
(158, ⟨.other, 1, 8, [.nilp], none⟩),
(159, ⟨.other, 1, 8, [.nilf], none⟩),
(160, ⟨.other, 1, 8, [.nilf], none⟩)
]
theorem tlOk5 : AllT Tryz.prog tl5 := ⟨ti134, ti135, ti136, ti137, ti138, ti139, ti140, ti141, ti143, ti144, ti146, ti147, ti148, ti149, ti150, ti151, ti152, ti153, ti154, ti156, ti157, ti158, ti159, ti160, trivial⟩
def tl6 : List (Nat × TI) := [
(161, ⟨.other, 1, 8, [.nilf], none⟩),
(162, ⟨.arr 32 5, 32, 32, [.int .u8 0, .int .u8 0, .int .u8 0, .int .u8 0, .int .u8 0, .int .u8 0, .int .u8 0, .int .u8 0, .int .u8 0, .int .u8 0, .int .u8 0, .int .u8 0, .int .u8 0, .int .u8 0, .int .u8 0, .int .u8 0, .int .u8 0, .int .u8 0, .int .u8 0, .int .u8 0, .int .u8 0, .int .u8 0, .int .u8 0, .int .u8 0, .int .u8 0, .int .u8 0, .int .u8 0, .int .u8 0, .int .u8 0, .int .u8 0, .int .u8 0, .int .u8 0], none⟩),
(163, ⟨.arr 64 5, 64, 64, [.int .u8 0, .int .u8 0, .int .u8 0, .int .u8 0, .int .u8 0, .int .u8 0, .int .u8 0, .int .u8 0, .int .u8 0, .int .u8 0, .int .u8 0, .int .u8 0, .int .u8 0, .int .u8 0, .int .u8 0, .int .u8 0, .int .u8 0, .int .u8 0, .int .u8 0, .int .u8 0, .int .u8 0, .int .u8 0, .int .u8 0, .int .u8 0, .int .u8 0, .int .u8 0, .int .u8 0, .int .u8 0, .int .u8 0, .int .u8 0, .int .u8 0, .int .u8 0, .int .u8 0, .int .u8 0, .int .u8 0, .int .u8 0, .int .u8 0, .int .u8 0, .int .u8 0, .int .u8 0, .int .u8 0, .int .u8 0, .int .u8 0, .int .u8 0, .int .u8 0, .int .u8 0, .int .u8 0, .int .u8 0, .int .u8 0, .int .u8 0, .int .u8 0, .int .u8 0, .int .u8 0, .int .u8 0, .int .u8 0, .int .u8 0, .int .u8 0, .int .u8 0, .int .u8 0, .int .u8 0, .int .u8 0, .int .u8 0, .int .u8 0, .int .u8 0], none⟩),
(164, ⟨.struct [(0, 17), (1, 17), (2, 17), (3, 9)], 4, 40, [.nilp, .nilp, .nilp, .str []], none⟩),
(165, ⟨.struct [(0, 17), (1, 17), (2, 17), (3, 9)], 4, 40, [.nilp, .nilp, .nilp, .str []], none⟩),
(166, ⟨.arr 0 16, 0, 0, [], none⟩),
(167, ⟨.struct [(0, 166)], 0, 0, [], none⟩),
(168, ⟨.struct [(0, 166)], 0, 0, [], none⟩),
(169, ⟨.int .u8, 1, 1, [.int .u8 0], some (.int .u8)⟩),
(170, ⟨.int .u8, 1, 1, [.int .u8 0], some (.int .u8)⟩),
(171, ⟨.other, 1, 8, [.nilf], none⟩),
(172, ⟨.int .i32, 1, 4, [.int .i32 0], some (.int .i32)⟩),
(173, ⟨.int .i32, 1, 4, [.int .i32 0], some (.int .i32)⟩),
(174, ⟨.struct [(0, 12), (1, 12), (2, 87), (3, 169), (4, 5), (5, 5), (6, 170), (7, 171), (8, 147), (9, 172), (10, 173)], 11, 48, [.int .u64 0, .int .u64 0, .int .u32 0, .int .u8 0, .int .u8 0, .int .u8 0, .int .u8 0, .nilf, .nilp, .int .i32 0, .int .i32 0], none⟩),
(175, ⟨.struct [(0, 12), (1, 12), (2, 87), (3, 169), (4, 5), (5, 5), (6, 170), (7, 171), (8, 147), (9, 172), (10, 173)], 11, 48, [.int .u64 0, .int .u64 0, .int .u32 0, .int .u8 0, .int .u8 0, .int .u8 0, .int .u8 0, .nilf, .nilp, .int .i32 0, .int .i32 0], none⟩),
(176, ⟨.other, 1, 8, [.nilf], none⟩)
]
theorem tlOk6 : AllT Tryz.prog tl6 := ⟨ti161, ti162, ti163, ti164, ti165, ti166, ti167, ti168, ti169, ti170, ti171, ti172, ti173, ti174, ti175, ti176, trivial⟩
def tab : TT := tget2 [tl0, tl1, tl2, tl3, tl4, tl5, tl6]
theorem tab_ok : TTOK Tryz.prog tab := tget2_ok _ ⟨tlOk0, tlOk1, tlOk2, tlOk3, tlOk4, tlOk5, tlOk6, trivial⟩
end Go.Proofs.YtcipkfndnkmjlaaGreatDoor
