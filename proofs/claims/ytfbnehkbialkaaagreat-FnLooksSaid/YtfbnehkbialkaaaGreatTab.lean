/- THE TYPES, BY A PROGRAM: what the evaluator takes from the table of types, and that it stands there. -/
import Derived.Test.YtfbnehkbialkaaaGreatEngQb
import Derived.Test.YtfbnehkbialkaaaGreatProg
namespace Go.Proofs.YtfbnehkbialkaaaGreat
/-- A string's bytes, as integers. -/
def u8i (l : List UInt8) : List Int := u8s l
theorem z_int {k : IntKind} : ZSim (.int k 0) (.int k 0) := fun c => by simp only [VSim]
theorem z_f32 : ZSim (.flt .f32 0) (.float .f32 0) := fun c => by simp only [VSim]; exact ⟨0, rfl, by decide +kernel⟩
theorem z_f64 : ZSim (.flt .f64 0) (.float .f64 0) := fun c => by simp only [VSim]; exact ⟨0, rfl, by decide +kernel⟩
theorem z_c32 : ZSim (.cplx .f32 0 0) (.complex .f32 0 0) := fun c => by simp only [VSim]; exact ⟨0, 0, rfl, by decide +kernel, by decide +kernel⟩
theorem z_c64 : ZSim (.cplx .f64 0 0) (.complex .f64 0 0) := fun c => by simp only [VSim]; exact ⟨0, 0, rfl, by decide +kernel, by decide +kernel⟩
theorem z_bool : ZSim (.bool false) (.bool false) := fun c => by simp only [VSim]
theorem z_str {s : ByteArray} (h : s.data.toList = []) : ZSim (.str []) (.string s) := fun c => by simp only [VSim]; exact ⟨s, rfl, h⟩
theorem z_nilp : ZSim .nilp (.pointer none) := fun c => by simp only [VSim]
theorem z_nils : ZSim .nils (.slice none 0 0) := fun c => by simp only [VSim]
theorem z_nilf : ZSim .nilf .nilFunc := fun c => by simp only [VSim]
theorem z_nili : ZSim .nili .nilIface := fun c => by simp only [VSim]
theorem ti1 : TIOK Tryz.prog 1 ⟨.other, 1, 8, [.nilf], none⟩ := ⟨⟨_, Tryz.underlying1, (fun f h => by cases h), (fun n e h => by cases h)⟩, Tryz.t1, _, by kernel_rfl, rfl, rfl, rfl, ⟨z_nilf, trivial⟩⟩
theorem ti2 : TIOK Tryz.prog 2 ⟨.int .i64, 1, 8, [.int .i64 0], some (.int .i64)⟩ := ⟨Tryz.underlying2, Tryz.t2, _, by kernel_rfl, rfl, rfl, rfl, ⟨z_int, trivial⟩⟩
theorem ti3 : TIOK Tryz.prog 3 ⟨.int .i64, 1, 8, [.int .i64 0], some (.int .i64)⟩ := ⟨Tryz.underlying3, Tryz.t3, _, by kernel_rfl, rfl, rfl, rfl, ⟨z_int, trivial⟩⟩
theorem ti4 : TIOK Tryz.prog 4 ⟨.bool, 1, 1, [.bool false], some .bool⟩ := ⟨Tryz.underlying4, Tryz.t4, _, by kernel_rfl, rfl, rfl, rfl, ⟨z_bool, trivial⟩⟩
theorem ti5 : TIOK Tryz.prog 5 ⟨.int .u8, 1, 1, [.int .u8 0], some (.int .u8)⟩ := ⟨Tryz.underlying5, Tryz.t5, _, by kernel_rfl, rfl, rfl, rfl, ⟨z_int, trivial⟩⟩
theorem ti6 : TIOK Tryz.prog 6 ⟨.int .u8, 1, 1, [.int .u8 0], some (.int .u8)⟩ := ⟨Tryz.underlying6, Tryz.t6, _, by kernel_rfl, rfl, rfl, rfl, ⟨z_int, trivial⟩⟩
theorem ti7 : TIOK Tryz.prog 7 ⟨.struct [(0, 2), (1, 3), (2, 4), (3, 6)], 4, 24, [.int .i64 0, .int .i64 0, .bool false, .int .u8 0], none⟩ := ⟨⟨_, Tryz.underlying7, rfl⟩, Tryz.t7, _, by kernel_rfl, rfl, rfl, rfl, ⟨z_int, z_int, z_bool, z_int, trivial⟩⟩
theorem ti8 : TIOK Tryz.prog 8 ⟨.struct [(0, 2), (1, 3), (2, 4), (3, 6)], 4, 24, [.int .i64 0, .int .i64 0, .bool false, .int .u8 0], none⟩ := ⟨⟨_, Tryz.underlying8, rfl⟩, Tryz.t8, _, by kernel_rfl, rfl, rfl, rfl, ⟨z_int, z_int, z_bool, z_int, trivial⟩⟩
theorem ti9 : TIOK Tryz.prog 9 ⟨.str, 1, 16, [.str []], some .str⟩ := ⟨Tryz.underlying9, Tryz.t9, _, by kernel_rfl, rfl, rfl, rfl, ⟨z_str rfl, trivial⟩⟩
theorem ti10 : TIOK Tryz.prog 10 ⟨.str, 1, 16, [.str []], some .str⟩ := ⟨Tryz.underlying10, Tryz.t10, _, by kernel_rfl, rfl, rfl, rfl, ⟨z_str rfl, trivial⟩⟩
theorem ti11 : TIOK Tryz.prog 11 ⟨.str, 1, 16, [.str []], some .str⟩ := ⟨Tryz.underlying11, Tryz.t11, _, by kernel_rfl, rfl, rfl, rfl, ⟨z_str rfl, trivial⟩⟩
theorem ti12 : TIOK Tryz.prog 12 ⟨.int .u64, 1, 8, [.int .u64 0], some (.int .u64)⟩ := ⟨Tryz.underlying12, Tryz.t12, _, by kernel_rfl, rfl, rfl, rfl, ⟨z_int, trivial⟩⟩
theorem ti13 : TIOK Tryz.prog 13 ⟨.struct [(0, 9), (1, 12)], 2, 24, [.str [], .int .u64 0], none⟩ := ⟨⟨_, Tryz.underlying13, rfl⟩, Tryz.t13, _, by kernel_rfl, rfl, rfl, rfl, ⟨z_str rfl, z_int, trivial⟩⟩
theorem ti14 : TIOK Tryz.prog 14 ⟨.struct [(0, 9), (1, 12)], 2, 24, [.str [], .int .u64 0], none⟩ := ⟨⟨_, Tryz.underlying14, rfl⟩, Tryz.t14, _, by kernel_rfl, rfl, rfl, rfl, ⟨z_str rfl, z_int, trivial⟩⟩
theorem ti15 : TIOK Tryz.prog 15 ⟨.ptr 134, 1, 8, [.nilp], none⟩ := ⟨Tryz.underlying15, Tryz.t15, _, by kernel_rfl, rfl, rfl, rfl, ⟨z_nilp, trivial⟩⟩
theorem ti16 : TIOK Tryz.prog 16 ⟨.ptr 137, 1, 8, [.nilp], none⟩ := ⟨Tryz.underlying16, Tryz.t16, _, by kernel_rfl, rfl, rfl, rfl, ⟨z_nilp, trivial⟩⟩
theorem ti17 : TIOK Tryz.prog 17 ⟨.ptr 146, 1, 8, [.nilp], none⟩ := ⟨Tryz.underlying17, Tryz.t17, _, by kernel_rfl, rfl, rfl, rfl, ⟨z_nilp, trivial⟩⟩
theorem ti18 : TIOK Tryz.prog 18 ⟨.struct [(0, 17)], 1, 8, [.nilp], none⟩ := ⟨⟨_, Tryz.underlying18, rfl⟩, Tryz.t18, _, by kernel_rfl, rfl, rfl, rfl, ⟨z_nilp, trivial⟩⟩
theorem ti19 : TIOK Tryz.prog 19 ⟨.struct [(0, 17)], 1, 8, [.nilp], none⟩ := ⟨⟨_, Tryz.underlying19, rfl⟩, Tryz.t19, _, by kernel_rfl, rfl, rfl, rfl, ⟨z_nilp, trivial⟩⟩
theorem ti20 : TIOK Tryz.prog 20 ⟨.other, 1, 16, [.nili], none⟩ := ⟨⟨_, Tryz.underlying20, (fun f h => by cases h), (fun n e h => by cases h)⟩, Tryz.t20, _, by kernel_rfl, rfl, rfl, rfl, ⟨z_nili, trivial⟩⟩
theorem ti21 : TIOK Tryz.prog 21 ⟨.int .i32, 1, 4, [.int .i32 0], some (.int .i32)⟩ := ⟨Tryz.underlying21, Tryz.t21, _, by kernel_rfl, rfl, rfl, rfl, ⟨z_int, trivial⟩⟩
theorem ti22 : TIOK Tryz.prog 22 ⟨.slc 5, 1, 24, [.nils], none⟩ := ⟨Tryz.underlying22, Tryz.t22, _, by kernel_rfl, rfl, rfl, rfl, ⟨z_nils, trivial⟩⟩
theorem ti23 : TIOK Tryz.prog 23 ⟨.other, 1, 8, [.nilf], none⟩ := ⟨⟨_, Tryz.underlying23, (fun f h => by cases h), (fun n e h => by cases h)⟩, Tryz.t23, _, by kernel_rfl, rfl, rfl, rfl, ⟨z_nilf, trivial⟩⟩
theorem ti24 : TIOK Tryz.prog 24 ⟨.flt .f32, 1, 4, [.flt .f32 0], some (.flt .f32)⟩ := ⟨Tryz.underlying24, Tryz.t24, _, by kernel_rfl, rfl, rfl, rfl, ⟨z_f32, trivial⟩⟩
theorem ti25 : TIOK Tryz.prog 25 ⟨.struct [(0, 24), (1, 24), (2, 24), (3, 24), (4, 24), (5, 24)], 6, 24, [.flt .f32 0, .flt .f32 0, .flt .f32 0, .flt .f32 0, .flt .f32 0, .flt .f32 0], none⟩ := ⟨⟨_, Tryz.underlying25, rfl⟩, Tryz.t25, _, by kernel_rfl, rfl, rfl, rfl, ⟨z_f32, z_f32, z_f32, z_f32, z_f32, z_f32, trivial⟩⟩
theorem ti26 : TIOK Tryz.prog 26 ⟨.struct [(0, 24), (1, 24), (2, 24), (3, 24), (4, 24), (5, 24)], 6, 24, [.flt .f32 0, .flt .f32 0, .flt .f32 0, .flt .f32 0, .flt .f32 0, .flt .f32 0], none⟩ := ⟨⟨_, Tryz.underlying26, rfl⟩, Tryz.t26, _, by kernel_rfl, rfl, rfl, rfl, ⟨z_f32, z_f32, z_f32, z_f32, z_f32, z_f32, trivial⟩⟩
theorem ti27 : TIOK Tryz.prog 27 ⟨.other, 1, 8, [.nilf], none⟩ := ⟨⟨_, Tryz.underlying27, (fun f h => by cases h), (fun n e h => by cases h)⟩, Tryz.t27, _, by kernel_rfl, rfl, rfl, rfl, ⟨z_nilf, trivial⟩⟩
theorem ti28 : TIOK Tryz.prog 28 ⟨.other, 1, 8, [.nilf], none⟩ := ⟨⟨_, Tryz.underlying28, (fun f h => by cases h), (fun n e h => by cases h)⟩, Tryz.t28, _, by kernel_rfl, rfl, rfl, rfl, ⟨z_nilf, trivial⟩⟩
theorem ti29 : TIOK Tryz.prog 29 ⟨.other, 1, 8, [.nilf], none⟩ := ⟨⟨_, Tryz.underlying29, (fun f h => by cases h), (fun n e h => by cases h)⟩, Tryz.t29, _, by kernel_rfl, rfl, rfl, rfl, ⟨z_nilf, trivial⟩⟩
theorem ti31 : TIOK Tryz.prog 31 ⟨.other, 1, 8, [.nilf], none⟩ := ⟨⟨_, Tryz.underlying31, (fun f h => by cases h), (fun n e h => by cases h)⟩, Tryz.t31, _, by kernel_rfl, rfl, rfl, rfl, ⟨z_nilf, trivial⟩⟩
theorem ti32 : TIOK Tryz.prog 32 ⟨.struct [(0, 24), (1, 24), (2, 24), (3, 24), (4, 24)], 5, 20, [.flt .f32 0, .flt .f32 0, .flt .f32 0, .flt .f32 0, .flt .f32 0], none⟩ := ⟨⟨_, Tryz.underlying32, rfl⟩, Tryz.t32, _, by kernel_rfl, rfl, rfl, rfl, ⟨z_f32, z_f32, z_f32, z_f32, z_f32, trivial⟩⟩
theorem ti33 : TIOK Tryz.prog 33 ⟨.struct [(0, 24), (1, 24), (2, 24), (3, 24), (4, 24)], 5, 20, [.flt .f32 0, .flt .f32 0, .flt .f32 0, .flt .f32 0, .flt .f32 0], some .look⟩ := ⟨⟨_, Tryz.underlying33, rfl⟩, Tryz.t33, _, by kernel_rfl, rfl, rfl, rfl, ⟨z_f32, z_f32, z_f32, z_f32, z_f32, trivial⟩⟩
theorem ti35 : TIOK Tryz.prog 35 ⟨.other, 1, 8, [.nilf], none⟩ := ⟨⟨_, Tryz.underlying35, (fun f h => by cases h), (fun n e h => by cases h)⟩, Tryz.t35, _, by kernel_rfl, rfl, rfl, rfl, ⟨z_nilf, trivial⟩⟩
theorem ti36 : TIOK Tryz.prog 36 ⟨.struct [(0, 24), (1, 24), (2, 24)], 3, 12, [.flt .f32 0, .flt .f32 0, .flt .f32 0], none⟩ := ⟨⟨_, Tryz.underlying36, rfl⟩, Tryz.t36, _, by kernel_rfl, rfl, rfl, rfl, ⟨z_f32, z_f32, z_f32, trivial⟩⟩
theorem ti37 : TIOK Tryz.prog 37 ⟨.struct [(0, 24), (1, 24), (2, 24)], 3, 12, [.flt .f32 0, .flt .f32 0, .flt .f32 0], some .vec⟩ := ⟨⟨_, Tryz.underlying37, rfl⟩, Tryz.t37, _, by kernel_rfl, rfl, rfl, rfl, ⟨z_f32, z_f32, z_f32, trivial⟩⟩
theorem ti39 : TIOK Tryz.prog 39 ⟨.other, 1, 8, [.nilf], none⟩ := ⟨⟨_, Tryz.underlying39, (fun f h => by cases h), (fun n e h => by cases h)⟩, Tryz.t39, _, by kernel_rfl, rfl, rfl, rfl, ⟨z_nilf, trivial⟩⟩
theorem ti41 : TIOK Tryz.prog 41 ⟨.other, 1, 8, [.nilf], none⟩ := ⟨⟨_, Tryz.underlying41, (fun f h => by cases h), (fun n e h => by cases h)⟩, Tryz.t41, _, by kernel_rfl, rfl, rfl, rfl, ⟨z_nilf, trivial⟩⟩
theorem ti42 : TIOK Tryz.prog 42 ⟨.other, 1, 8, [.nilf], none⟩ := ⟨⟨_, Tryz.underlying42, (fun f h => by cases h), (fun n e h => by cases h)⟩, Tryz.t42, _, by kernel_rfl, rfl, rfl, rfl, ⟨z_nilf, trivial⟩⟩
theorem ti43 : TIOK Tryz.prog 43 ⟨.other, 1, 8, [.nilf], none⟩ := ⟨⟨_, Tryz.underlying43, (fun f h => by cases h), (fun n e h => by cases h)⟩, Tryz.t43, _, by kernel_rfl, rfl, rfl, rfl, ⟨z_nilf, trivial⟩⟩
theorem ti44 : TIOK Tryz.prog 44 ⟨.slc 33, 1, 24, [.nils], none⟩ := ⟨Tryz.underlying44, Tryz.t44, _, by kernel_rfl, rfl, rfl, rfl, ⟨z_nils, trivial⟩⟩
theorem ti46 : TIOK Tryz.prog 46 ⟨.other, 1, 8, [.nilf], none⟩ := ⟨⟨_, Tryz.underlying46, (fun f h => by cases h), (fun n e h => by cases h)⟩, Tryz.t46, _, by kernel_rfl, rfl, rfl, rfl, ⟨z_nilf, trivial⟩⟩
theorem ti48 : TIOK Tryz.prog 48 ⟨.other, 1, 8, [.nilf], none⟩ := ⟨⟨_, Tryz.underlying48, (fun f h => by cases h), (fun n e h => by cases h)⟩, Tryz.t48, _, by kernel_rfl, rfl, rfl, rfl, ⟨z_nilf, trivial⟩⟩
theorem ti50 : TIOK Tryz.prog 50 ⟨.other, 1, 8, [.nilf], none⟩ := ⟨⟨_, Tryz.underlying50, (fun f h => by cases h), (fun n e h => by cases h)⟩, Tryz.t50, _, by kernel_rfl, rfl, rfl, rfl, ⟨z_nilf, trivial⟩⟩
theorem ti51 : TIOK Tryz.prog 51 ⟨.other, 1, 8, [.nilf], none⟩ := ⟨⟨_, Tryz.underlying51, (fun f h => by cases h), (fun n e h => by cases h)⟩, Tryz.t51, _, by kernel_rfl, rfl, rfl, rfl, ⟨z_nilf, trivial⟩⟩
theorem ti52 : TIOK Tryz.prog 52 ⟨.flt .f64, 1, 8, [.flt .f64 0], some (.flt .f64)⟩ := ⟨Tryz.underlying52, Tryz.t52, _, by kernel_rfl, rfl, rfl, rfl, ⟨z_f64, trivial⟩⟩
theorem ti53 : TIOK Tryz.prog 53 ⟨.other, 1, 8, [.nilf], none⟩ := ⟨⟨_, Tryz.underlying53, (fun f h => by cases h), (fun n e h => by cases h)⟩, Tryz.t53, _, by kernel_rfl, rfl, rfl, rfl, ⟨z_nilf, trivial⟩⟩
theorem ti54 : TIOK Tryz.prog 54 ⟨.other, 1, 8, [.nilf], none⟩ := ⟨⟨_, Tryz.underlying54, (fun f h => by cases h), (fun n e h => by cases h)⟩, Tryz.t54, _, by kernel_rfl, rfl, rfl, rfl, ⟨z_nilf, trivial⟩⟩
theorem ti55 : TIOK Tryz.prog 55 ⟨.other, 1, 8, [.nilf], none⟩ := ⟨⟨_, Tryz.underlying55, (fun f h => by cases h), (fun n e h => by cases h)⟩, Tryz.t55, _, by kernel_rfl, rfl, rfl, rfl, ⟨z_nilf, trivial⟩⟩
theorem ti56 : TIOK Tryz.prog 56 ⟨.other, 1, 8, [.nilf], none⟩ := ⟨⟨_, Tryz.underlying56, (fun f h => by cases h), (fun n e h => by cases h)⟩, Tryz.t56, _, by kernel_rfl, rfl, rfl, rfl, ⟨z_nilf, trivial⟩⟩
theorem ti57 : TIOK Tryz.prog 57 ⟨.ptr 85, 1, 8, [.nilp], none⟩ := ⟨Tryz.underlying57, Tryz.t57, _, by kernel_rfl, rfl, rfl, rfl, ⟨z_nilp, trivial⟩⟩
theorem ti58 : TIOK Tryz.prog 58 ⟨.other, 1, 8, [.nilf], none⟩ := ⟨⟨_, Tryz.underlying58, (fun f h => by cases h), (fun n e h => by cases h)⟩, Tryz.t58, _, by kernel_rfl, rfl, rfl, rfl, ⟨z_nilf, trivial⟩⟩
theorem ti59 : TIOK Tryz.prog 59 ⟨.other, 1, 8, [.nilf], none⟩ := ⟨⟨_, Tryz.underlying59, (fun f h => by cases h), (fun n e h => by cases h)⟩, Tryz.t59, _, by kernel_rfl, rfl, rfl, rfl, ⟨z_nilf, trivial⟩⟩
theorem ti60 : TIOK Tryz.prog 60 ⟨.other, 1, 8, [.nilf], none⟩ := ⟨⟨_, Tryz.underlying60, (fun f h => by cases h), (fun n e h => by cases h)⟩, Tryz.t60, _, by kernel_rfl, rfl, rfl, rfl, ⟨z_nilf, trivial⟩⟩
theorem ti61 : TIOK Tryz.prog 61 ⟨.other, 1, 8, [.nilf], none⟩ := ⟨⟨_, Tryz.underlying61, (fun f h => by cases h), (fun n e h => by cases h)⟩, Tryz.t61, _, by kernel_rfl, rfl, rfl, rfl, ⟨z_nilf, trivial⟩⟩
theorem ti62 : TIOK Tryz.prog 62 ⟨.ptr 26, 1, 8, [.nilp], none⟩ := ⟨Tryz.underlying62, Tryz.t62, _, by kernel_rfl, rfl, rfl, rfl, ⟨z_nilp, trivial⟩⟩
theorem ti63 : TIOK Tryz.prog 63 ⟨.other, 1, 8, [.nilf], none⟩ := ⟨⟨_, Tryz.underlying63, (fun f h => by cases h), (fun n e h => by cases h)⟩, Tryz.t63, _, by kernel_rfl, rfl, rfl, rfl, ⟨z_nilf, trivial⟩⟩
theorem ti64 : TIOK Tryz.prog 64 ⟨.other, 1, 8, [.nilf], none⟩ := ⟨⟨_, Tryz.underlying64, (fun f h => by cases h), (fun n e h => by cases h)⟩, Tryz.t64, _, by kernel_rfl, rfl, rfl, rfl, ⟨z_nilf, trivial⟩⟩
theorem ti65 : TIOK Tryz.prog 65 ⟨.other, 1, 8, [.nilf], none⟩ := ⟨⟨_, Tryz.underlying65, (fun f h => by cases h), (fun n e h => by cases h)⟩, Tryz.t65, _, by kernel_rfl, rfl, rfl, rfl, ⟨z_nilf, trivial⟩⟩
theorem ti66 : TIOK Tryz.prog 66 ⟨.other, 1, 8, [.nilf], none⟩ := ⟨⟨_, Tryz.underlying66, (fun f h => by cases h), (fun n e h => by cases h)⟩, Tryz.t66, _, by kernel_rfl, rfl, rfl, rfl, ⟨z_nilf, trivial⟩⟩
theorem ti67 : TIOK Tryz.prog 67 ⟨.arr 3 24, 3, 12, [.flt .f32 0, .flt .f32 0, .flt .f32 0], none⟩ := ⟨Tryz.underlying67, Tryz.t67, _, by kernel_rfl, rfl, rfl, rfl, ⟨z_f32, z_f32, z_f32, trivial⟩⟩
theorem ti68 : TIOK Tryz.prog 68 ⟨.arr 3 24, 3, 12, [.flt .f32 0, .flt .f32 0, .flt .f32 0], none⟩ := ⟨Tryz.underlying68, Tryz.t68, _, by kernel_rfl, rfl, rfl, rfl, ⟨z_f32, z_f32, z_f32, trivial⟩⟩
theorem ti70 : TIOK Tryz.prog 70 ⟨.other, 1, 8, [.nilf], none⟩ := ⟨⟨_, Tryz.underlying70, (fun f h => by cases h), (fun n e h => by cases h)⟩, Tryz.t70, _, by kernel_rfl, rfl, rfl, rfl, ⟨z_nilf, trivial⟩⟩
theorem ti71 : TIOK Tryz.prog 71 ⟨.slc 24, 1, 24, [.nils], none⟩ := ⟨Tryz.underlying71, Tryz.t71, _, by kernel_rfl, rfl, rfl, rfl, ⟨z_nils, trivial⟩⟩
theorem ti73 : TIOK Tryz.prog 73 ⟨.other, 1, 8, [.nilf], none⟩ := ⟨⟨_, Tryz.underlying73, (fun f h => by cases h), (fun n e h => by cases h)⟩, Tryz.t73, _, by kernel_rfl, rfl, rfl, rfl, ⟨z_nilf, trivial⟩⟩
theorem ti75 : TIOK Tryz.prog 75 ⟨.other, 1, 8, [.nilf], none⟩ := ⟨⟨_, Tryz.underlying75, (fun f h => by cases h), (fun n e h => by cases h)⟩, Tryz.t75, _, by kernel_rfl, rfl, rfl, rfl, ⟨z_nilf, trivial⟩⟩
theorem ti76 : TIOK Tryz.prog 76 ⟨.other, 1, 8, [.nilf], none⟩ := ⟨⟨_, Tryz.underlying76, (fun f h => by cases h), (fun n e h => by cases h)⟩, Tryz.t76, _, by kernel_rfl, rfl, rfl, rfl, ⟨z_nilf, trivial⟩⟩
theorem ti77 : TIOK Tryz.prog 77 ⟨.other, 1, 8, [.nilf], none⟩ := ⟨⟨_, Tryz.underlying77, (fun f h => by cases h), (fun n e h => by cases h)⟩, Tryz.t77, _, by kernel_rfl, rfl, rfl, rfl, ⟨z_nilf, trivial⟩⟩
theorem ti78 : TIOK Tryz.prog 78 ⟨.other, 1, 8, [.nilf], none⟩ := ⟨⟨_, Tryz.underlying78, (fun f h => by cases h), (fun n e h => by cases h)⟩, Tryz.t78, _, by kernel_rfl, rfl, rfl, rfl, ⟨z_nilf, trivial⟩⟩
theorem ti79 : TIOK Tryz.prog 79 ⟨.other, 1, 8, [.nilf], none⟩ := ⟨⟨_, Tryz.underlying79, (fun f h => by cases h), (fun n e h => by cases h)⟩, Tryz.t79, _, by kernel_rfl, rfl, rfl, rfl, ⟨z_nilf, trivial⟩⟩
theorem ti80 : TIOK Tryz.prog 80 ⟨.other, 1, 8, [.nilf], none⟩ := ⟨⟨_, Tryz.underlying80, (fun f h => by cases h), (fun n e h => by cases h)⟩, Tryz.t80, _, by kernel_rfl, rfl, rfl, rfl, ⟨z_nilf, trivial⟩⟩
theorem ti81 : TIOK Tryz.prog 81 ⟨.other, 1, 8, [.nilf], none⟩ := ⟨⟨_, Tryz.underlying81, (fun f h => by cases h), (fun n e h => by cases h)⟩, Tryz.t81, _, by kernel_rfl, rfl, rfl, rfl, ⟨z_nilf, trivial⟩⟩
theorem ti82 : TIOK Tryz.prog 82 ⟨.other, 1, 8, [.nilf], none⟩ := ⟨⟨_, Tryz.underlying82, (fun f h => by cases h), (fun n e h => by cases h)⟩, Tryz.t82, _, by kernel_rfl, rfl, rfl, rfl, ⟨z_nilf, trivial⟩⟩
theorem ti83 : TIOK Tryz.prog 83 ⟨.int .u64, 1, 8, [.int .u64 0], some (.int .u64)⟩ := ⟨Tryz.underlying83, Tryz.t83, _, by kernel_rfl, rfl, rfl, rfl, ⟨z_int, trivial⟩⟩
theorem ti84 : TIOK Tryz.prog 84 ⟨.struct [(0, 22), (1, 3), (2, 83)], 3, 40, [.nils, .int .i64 0, .int .u64 0], none⟩ := ⟨⟨_, Tryz.underlying84, rfl⟩, Tryz.t84, _, by kernel_rfl, rfl, rfl, rfl, ⟨z_nils, z_int, z_int, trivial⟩⟩
theorem ti85 : TIOK Tryz.prog 85 ⟨.struct [(0, 22), (1, 3), (2, 83)], 3, 40, [.nils, .int .i64 0, .int .u64 0], none⟩ := ⟨⟨_, Tryz.underlying85, rfl⟩, Tryz.t85, _, by kernel_rfl, rfl, rfl, rfl, ⟨z_nils, z_int, z_int, trivial⟩⟩
theorem ti86 : TIOK Tryz.prog 86 ⟨.other, 1, 8, [.nilf], none⟩ := ⟨⟨_, Tryz.underlying86, (fun f h => by cases h), (fun n e h => by cases h)⟩, Tryz.t86, _, by kernel_rfl, rfl, rfl, rfl, ⟨z_nilf, trivial⟩⟩
theorem ti87 : TIOK Tryz.prog 87 ⟨.other, 1, 8, [.nilf], none⟩ := ⟨⟨_, Tryz.underlying87, (fun f h => by cases h), (fun n e h => by cases h)⟩, Tryz.t87, _, by kernel_rfl, rfl, rfl, rfl, ⟨z_nilf, trivial⟩⟩
theorem ti88 : TIOK Tryz.prog 88 ⟨.other, 1, 8, [.nilf], none⟩ := ⟨⟨_, Tryz.underlying88, (fun f h => by cases h), (fun n e h => by cases h)⟩, Tryz.t88, _, by kernel_rfl, rfl, rfl, rfl, ⟨z_nilf, trivial⟩⟩
theorem ti89 : TIOK Tryz.prog 89 ⟨.other, 1, 8, [.nilf], none⟩ := ⟨⟨_, Tryz.underlying89, (fun f h => by cases h), (fun n e h => by cases h)⟩, Tryz.t89, _, by kernel_rfl, rfl, rfl, rfl, ⟨z_nilf, trivial⟩⟩
theorem ti90 : TIOK Tryz.prog 90 ⟨.other, 1, 8, [.nilf], none⟩ := ⟨⟨_, Tryz.underlying90, (fun f h => by cases h), (fun n e h => by cases h)⟩, Tryz.t90, _, by kernel_rfl, rfl, rfl, rfl, ⟨z_nilf, trivial⟩⟩
theorem ti91 : TIOK Tryz.prog 91 ⟨.other, 1, 8, [.nilf], none⟩ := ⟨⟨_, Tryz.underlying91, (fun f h => by cases h), (fun n e h => by cases h)⟩, Tryz.t91, _, by kernel_rfl, rfl, rfl, rfl, ⟨z_nilf, trivial⟩⟩
theorem ti92 : TIOK Tryz.prog 92 ⟨.other, 1, 8, [.nilf], none⟩ := ⟨⟨_, Tryz.underlying92, (fun f h => by cases h), (fun n e h => by cases h)⟩, Tryz.t92, _, by kernel_rfl, rfl, rfl, rfl, ⟨z_nilf, trivial⟩⟩
theorem ti93 : TIOK Tryz.prog 93 ⟨.other, 1, 8, [.nilf], none⟩ := ⟨⟨_, Tryz.underlying93, (fun f h => by cases h), (fun n e h => by cases h)⟩, Tryz.t93, _, by kernel_rfl, rfl, rfl, rfl, ⟨z_nilf, trivial⟩⟩
theorem ti95 : TIOK Tryz.prog 95 ⟨.other, 1, 8, [.nilf], none⟩ := ⟨⟨_, Tryz.underlying95, (fun f h => by cases h), (fun n e h => by cases h)⟩, Tryz.t95, _, by kernel_rfl, rfl, rfl, rfl, ⟨z_nilf, trivial⟩⟩
theorem ti96 : TIOK Tryz.prog 96 ⟨.other, 1, 8, [.nilf], none⟩ := ⟨⟨_, Tryz.underlying96, (fun f h => by cases h), (fun n e h => by cases h)⟩, Tryz.t96, _, by kernel_rfl, rfl, rfl, rfl, ⟨z_nilf, trivial⟩⟩
theorem ti97 : TIOK Tryz.prog 97 ⟨.other, 1, 8, [.nilf], none⟩ := ⟨⟨_, Tryz.underlying97, (fun f h => by cases h), (fun n e h => by cases h)⟩, Tryz.t97, _, by kernel_rfl, rfl, rfl, rfl, ⟨z_nilf, trivial⟩⟩
theorem ti98 : TIOK Tryz.prog 98 ⟨.other, 1, 8, [.nilf], none⟩ := ⟨⟨_, Tryz.underlying98, (fun f h => by cases h), (fun n e h => by cases h)⟩, Tryz.t98, _, by kernel_rfl, rfl, rfl, rfl, ⟨z_nilf, trivial⟩⟩
theorem ti99 : TIOK Tryz.prog 99 ⟨.arr 4 52, 4, 32, [.flt .f64 0, .flt .f64 0, .flt .f64 0, .flt .f64 0], none⟩ := ⟨Tryz.underlying99, Tryz.t99, _, by kernel_rfl, rfl, rfl, rfl, ⟨z_f64, z_f64, z_f64, z_f64, trivial⟩⟩
theorem ti100 : TIOK Tryz.prog 100 ⟨.other, 1, 8, [.nilf], none⟩ := ⟨⟨_, Tryz.underlying100, (fun f h => by cases h), (fun n e h => by cases h)⟩, Tryz.t100, _, by kernel_rfl, rfl, rfl, rfl, ⟨z_nilf, trivial⟩⟩
theorem ti101 : TIOK Tryz.prog 101 ⟨.other, 1, 8, [.nilf], none⟩ := ⟨⟨_, Tryz.underlying101, (fun f h => by cases h), (fun n e h => by cases h)⟩, Tryz.t101, _, by kernel_rfl, rfl, rfl, rfl, ⟨z_nilf, trivial⟩⟩
theorem ti102 : TIOK Tryz.prog 102 ⟨.arr 3 52, 3, 24, [.flt .f64 0, .flt .f64 0, .flt .f64 0], none⟩ := ⟨Tryz.underlying102, Tryz.t102, _, by kernel_rfl, rfl, rfl, rfl, ⟨z_f64, z_f64, z_f64, trivial⟩⟩
theorem ti103 : TIOK Tryz.prog 103 ⟨.arr 3 52, 3, 24, [.flt .f64 0, .flt .f64 0, .flt .f64 0], none⟩ := ⟨Tryz.underlying103, Tryz.t103, _, by kernel_rfl, rfl, rfl, rfl, ⟨z_f64, z_f64, z_f64, trivial⟩⟩
theorem ti104 : TIOK Tryz.prog 104 ⟨.other, 1, 8, [.nilf], none⟩ := ⟨⟨_, Tryz.underlying104, (fun f h => by cases h), (fun n e h => by cases h)⟩, Tryz.t104, _, by kernel_rfl, rfl, rfl, rfl, ⟨z_nilf, trivial⟩⟩
theorem ti105 : TIOK Tryz.prog 105 ⟨.other, 1, 8, [.nilf], none⟩ := ⟨⟨_, Tryz.underlying105, (fun f h => by cases h), (fun n e h => by cases h)⟩, Tryz.t105, _, by kernel_rfl, rfl, rfl, rfl, ⟨z_nilf, trivial⟩⟩
theorem ti106 : TIOK Tryz.prog 106 ⟨.other, 1, 8, [.nilf], none⟩ := ⟨⟨_, Tryz.underlying106, (fun f h => by cases h), (fun n e h => by cases h)⟩, Tryz.t106, _, by kernel_rfl, rfl, rfl, rfl, ⟨z_nilf, trivial⟩⟩
theorem ti108 : TIOK Tryz.prog 108 ⟨.other, 1, 8, [.nilf], none⟩ := ⟨⟨_, Tryz.underlying108, (fun f h => by cases h), (fun n e h => by cases h)⟩, Tryz.t108, _, by kernel_rfl, rfl, rfl, rfl, ⟨z_nilf, trivial⟩⟩
theorem ti109 : TIOK Tryz.prog 109 ⟨.other, 1, 8, [.nilf], none⟩ := ⟨⟨_, Tryz.underlying109, (fun f h => by cases h), (fun n e h => by cases h)⟩, Tryz.t109, _, by kernel_rfl, rfl, rfl, rfl, ⟨z_nilf, trivial⟩⟩
theorem ti110 : TIOK Tryz.prog 110 ⟨.other, 1, 8, [.nilf], none⟩ := ⟨⟨_, Tryz.underlying110, (fun f h => by cases h), (fun n e h => by cases h)⟩, Tryz.t110, _, by kernel_rfl, rfl, rfl, rfl, ⟨z_nilf, trivial⟩⟩
theorem ti111 : TIOK Tryz.prog 111 ⟨.other, 1, 8, [.nilf], none⟩ := ⟨⟨_, Tryz.underlying111, (fun f h => by cases h), (fun n e h => by cases h)⟩, Tryz.t111, _, by kernel_rfl, rfl, rfl, rfl, ⟨z_nilf, trivial⟩⟩
theorem ti112 : TIOK Tryz.prog 112 ⟨.other, 1, 8, [.nilf], none⟩ := ⟨⟨_, Tryz.underlying112, (fun f h => by cases h), (fun n e h => by cases h)⟩, Tryz.t112, _, by kernel_rfl, rfl, rfl, rfl, ⟨z_nilf, trivial⟩⟩
theorem ti113 : TIOK Tryz.prog 113 ⟨.other, 1, 8, [.nilf], none⟩ := ⟨⟨_, Tryz.underlying113, (fun f h => by cases h), (fun n e h => by cases h)⟩, Tryz.t113, _, by kernel_rfl, rfl, rfl, rfl, ⟨z_nilf, trivial⟩⟩
theorem ti114 : TIOK Tryz.prog 114 ⟨.other, 1, 8, [.nilf], none⟩ := ⟨⟨_, Tryz.underlying114, (fun f h => by cases h), (fun n e h => by cases h)⟩, Tryz.t114, _, by kernel_rfl, rfl, rfl, rfl, ⟨z_nilf, trivial⟩⟩
theorem ti115 : TIOK Tryz.prog 115 ⟨.int .u64, 1, 8, [.int .u64 0], some (.int .u64)⟩ := ⟨Tryz.underlying115, Tryz.t115, _, by kernel_rfl, rfl, rfl, rfl, ⟨z_int, trivial⟩⟩
theorem ti117 : TIOK Tryz.prog 117 ⟨.other, 1, 8, [.nilf], none⟩ := ⟨⟨_, Tryz.underlying117, (fun f h => by cases h), (fun n e h => by cases h)⟩, Tryz.t117, _, by kernel_rfl, rfl, rfl, rfl, ⟨z_nilf, trivial⟩⟩
theorem ti118 : TIOK Tryz.prog 118 ⟨.other, 1, 8, [.nilf], none⟩ := ⟨⟨_, Tryz.underlying118, (fun f h => by cases h), (fun n e h => by cases h)⟩, Tryz.t118, _, by kernel_rfl, rfl, rfl, rfl, ⟨z_nilf, trivial⟩⟩
theorem ti119 : TIOK Tryz.prog 119 ⟨.other, 1, 8, [.nilf], none⟩ := ⟨⟨_, Tryz.underlying119, (fun f h => by cases h), (fun n e h => by cases h)⟩, Tryz.t119, _, by kernel_rfl, rfl, rfl, rfl, ⟨z_nilf, trivial⟩⟩
theorem ti120 : TIOK Tryz.prog 120 ⟨.other, 1, 8, [.nilf], none⟩ := ⟨⟨_, Tryz.underlying120, (fun f h => by cases h), (fun n e h => by cases h)⟩, Tryz.t120, _, by kernel_rfl, rfl, rfl, rfl, ⟨z_nilf, trivial⟩⟩
theorem ti121 : TIOK Tryz.prog 121 ⟨.int .u32, 1, 4, [.int .u32 0], some (.int .u32)⟩ := ⟨Tryz.underlying121, Tryz.t121, _, by kernel_rfl, rfl, rfl, rfl, ⟨z_int, trivial⟩⟩
theorem ti122 : TIOK Tryz.prog 122 ⟨.other, 1, 8, [.nilf], none⟩ := ⟨⟨_, Tryz.underlying122, (fun f h => by cases h), (fun n e h => by cases h)⟩, Tryz.t122, _, by kernel_rfl, rfl, rfl, rfl, ⟨z_nilf, trivial⟩⟩
theorem ti123 : TIOK Tryz.prog 123 ⟨.other, 1, 8, [.nilf], none⟩ := ⟨⟨_, Tryz.underlying123, (fun f h => by cases h), (fun n e h => by cases h)⟩, Tryz.t123, _, by kernel_rfl, rfl, rfl, rfl, ⟨z_nilf, trivial⟩⟩
theorem ti124 : TIOK Tryz.prog 124 ⟨.ptr 33, 1, 8, [.nilp], none⟩ := ⟨Tryz.underlying124, Tryz.t124, _, by kernel_rfl, rfl, rfl, rfl, ⟨z_nilp, trivial⟩⟩
theorem ti125 : TIOK Tryz.prog 125 ⟨.other, 1, 8, [.nilf], none⟩ := ⟨⟨_, Tryz.underlying125, (fun f h => by cases h), (fun n e h => by cases h)⟩, Tryz.t125, _, by kernel_rfl, rfl, rfl, rfl, ⟨z_nilf, trivial⟩⟩
theorem ti126 : TIOK Tryz.prog 126 ⟨.other, 1, 8, [.nilf], none⟩ := ⟨⟨_, Tryz.underlying126, (fun f h => by cases h), (fun n e h => by cases h)⟩, Tryz.t126, _, by kernel_rfl, rfl, rfl, rfl, ⟨z_nilf, trivial⟩⟩
theorem ti127 : TIOK Tryz.prog 127 ⟨.other, 1, 8, [.nilf], none⟩ := ⟨⟨_, Tryz.underlying127, (fun f h => by cases h), (fun n e h => by cases h)⟩, Tryz.t127, _, by kernel_rfl, rfl, rfl, rfl, ⟨z_nilf, trivial⟩⟩
theorem ti128 : TIOK Tryz.prog 128 ⟨.other, 1, 8, [.nilf], none⟩ := ⟨⟨_, Tryz.underlying128, (fun f h => by cases h), (fun n e h => by cases h)⟩, Tryz.t128, _, by kernel_rfl, rfl, rfl, rfl, ⟨z_nilf, trivial⟩⟩
theorem ti130 : TIOK Tryz.prog 130 ⟨.other, 1, 8, [.nilf], none⟩ := ⟨⟨_, Tryz.underlying130, (fun f h => by cases h), (fun n e h => by cases h)⟩, Tryz.t130, _, by kernel_rfl, rfl, rfl, rfl, ⟨z_nilf, trivial⟩⟩
theorem ti131 : TIOK Tryz.prog 131 ⟨.other, 1, 8, [.nilf], none⟩ := ⟨⟨_, Tryz.underlying131, (fun f h => by cases h), (fun n e h => by cases h)⟩, Tryz.t131, _, by kernel_rfl, rfl, rfl, rfl, ⟨z_nilf, trivial⟩⟩
theorem ti132 : TIOK Tryz.prog 132 ⟨.other, 1, 8, [.nilf], none⟩ := ⟨⟨_, Tryz.underlying132, (fun f h => by cases h), (fun n e h => by cases h)⟩, Tryz.t132, _, by kernel_rfl, rfl, rfl, rfl, ⟨z_nilf, trivial⟩⟩
theorem ti133 : TIOK Tryz.prog 133 ⟨.struct [(0, 17), (1, 17), (2, 17), (3, 9)], 4, 40, [.nilp, .nilp, .nilp, .str []], none⟩ := ⟨⟨_, Tryz.underlying133, rfl⟩, Tryz.t133, _, by kernel_rfl, rfl, rfl, rfl, ⟨z_nilp, z_nilp, z_nilp, z_str rfl, trivial⟩⟩
theorem ti134 : TIOK Tryz.prog 134 ⟨.struct [(0, 17), (1, 17), (2, 17), (3, 9)], 4, 40, [.nilp, .nilp, .nilp, .str []], none⟩ := ⟨⟨_, Tryz.underlying134, rfl⟩, Tryz.t134, _, by kernel_rfl, rfl, rfl, rfl, ⟨z_nilp, z_nilp, z_nilp, z_str rfl, trivial⟩⟩
theorem ti135 : TIOK Tryz.prog 135 ⟨.arr 0 16, 0, 0, [], none⟩ := ⟨Tryz.underlying135, Tryz.t135, _, by kernel_rfl, rfl, rfl, rfl, trivial⟩
theorem ti136 : TIOK Tryz.prog 136 ⟨.struct [(0, 135)], 0, 0, [], none⟩ := ⟨⟨_, Tryz.underlying136, rfl⟩, Tryz.t136, _, by kernel_rfl, rfl, rfl, rfl, trivial⟩
theorem ti137 : TIOK Tryz.prog 137 ⟨.struct [(0, 135)], 0, 0, [], none⟩ := ⟨⟨_, Tryz.underlying137, rfl⟩, Tryz.t137, _, by kernel_rfl, rfl, rfl, rfl, trivial⟩
theorem ti138 : TIOK Tryz.prog 138 ⟨.other, 1, 8, [.nilf], none⟩ := ⟨⟨_, Tryz.underlying138, (fun f h => by cases h), (fun n e h => by cases h)⟩, Tryz.t138, _, by kernel_rfl, rfl, rfl, rfl, ⟨z_nilf, trivial⟩⟩
theorem ti139 : TIOK Tryz.prog 139 ⟨.int .u8, 1, 1, [.int .u8 0], some (.int .u8)⟩ := ⟨Tryz.underlying139, Tryz.t139, _, by kernel_rfl, rfl, rfl, rfl, ⟨z_int, trivial⟩⟩
theorem ti140 : TIOK Tryz.prog 140 ⟨.int .u8, 1, 1, [.int .u8 0], some (.int .u8)⟩ := ⟨Tryz.underlying140, Tryz.t140, _, by kernel_rfl, rfl, rfl, rfl, ⟨z_int, trivial⟩⟩
theorem ti141 : TIOK Tryz.prog 141 ⟨.other, 1, 8, [.nilf], none⟩ := ⟨⟨_, Tryz.underlying141, (fun f h => by cases h), (fun n e h => by cases h)⟩, Tryz.t141, _, by kernel_rfl, rfl, rfl, rfl, ⟨z_nilf, trivial⟩⟩
theorem ti142 : TIOK Tryz.prog 142 ⟨.ptr 5, 1, 8, [.nilp], none⟩ := ⟨Tryz.underlying142, Tryz.t142, _, by kernel_rfl, rfl, rfl, rfl, ⟨z_nilp, trivial⟩⟩
theorem ti143 : TIOK Tryz.prog 143 ⟨.int .i32, 1, 4, [.int .i32 0], some (.int .i32)⟩ := ⟨Tryz.underlying143, Tryz.t143, _, by kernel_rfl, rfl, rfl, rfl, ⟨z_int, trivial⟩⟩
theorem ti144 : TIOK Tryz.prog 144 ⟨.int .i32, 1, 4, [.int .i32 0], some (.int .i32)⟩ := ⟨Tryz.underlying144, Tryz.t144, _, by kernel_rfl, rfl, rfl, rfl, ⟨z_int, trivial⟩⟩
theorem ti145 : TIOK Tryz.prog 145 ⟨.struct [(0, 12), (1, 12), (2, 121), (3, 139), (4, 5), (5, 5), (6, 140), (7, 141), (8, 142), (9, 143), (10, 144)], 11, 48, [.int .u64 0, .int .u64 0, .int .u32 0, .int .u8 0, .int .u8 0, .int .u8 0, .int .u8 0, .nilf, .nilp, .int .i32 0, .int .i32 0], none⟩ := ⟨⟨_, Tryz.underlying145, rfl⟩, Tryz.t145, _, by kernel_rfl, rfl, rfl, rfl, ⟨z_int, z_int, z_int, z_int, z_int, z_int, z_int, z_nilf, z_nilp, z_int, z_int, trivial⟩⟩
theorem ti146 : TIOK Tryz.prog 146 ⟨.struct [(0, 12), (1, 12), (2, 121), (3, 139), (4, 5), (5, 5), (6, 140), (7, 141), (8, 142), (9, 143), (10, 144)], 11, 48, [.int .u64 0, .int .u64 0, .int .u32 0, .int .u8 0, .int .u8 0, .int .u8 0, .int .u8 0, .nilf, .nilp, .int .i32 0, .int .i32 0], none⟩ := ⟨⟨_, Tryz.underlying146, rfl⟩, Tryz.t146, _, by kernel_rfl, rfl, rfl, rfl, ⟨z_int, z_int, z_int, z_int, z_int, z_int, z_int, z_nilf, z_nilp, z_int, z_int, trivial⟩⟩
theorem ti147 : TIOK Tryz.prog 147 ⟨.other, 1, 8, [.nilp], none⟩ := ⟨⟨_, Tryz.underlying147, (fun f h => by cases h), (fun n e h => by cases h)⟩, Tryz.t147, _, by kernel_rfl, rfl, rfl, rfl, ⟨z_nilp, trivial⟩⟩
def tget : List (Nat × TI) → TT
  | [], _ => none
  | (n, i) :: r, t => bif n == t then some i else tget r t
def tget2 : List (List (Nat × TI)) → TT
  | [], _ => none
  | l :: r, t => match tget l t with
    | some i => some i
    | none => tget2 r t
def AllT (P : Program) : List (Nat × TI) → Prop
  | [] => True
  | x :: r => TIOK P x.1 x.2 ∧ AllT P r
def AllT2 (P : Program) : List (List (Nat × TI)) → Prop
  | [] => True
  | x :: r => AllT P x ∧ AllT2 P r
theorem tget_ok {P : Program} : ∀ (l : List (Nat × TI)), AllT P l → TTOK P (tget l)
  | [], _ => fun t i h => by simp [tget] at h
  | (n, j) :: r, hl => fun t i h => by
    simp only [tget, cond_eq_ite, beq_iff_eq] at h
    by_cases q : n = t
    · rw [if_pos q] at h; cases h; subst q; exact hl.1
    · rw [if_neg q] at h; exact tget_ok r hl.2 t i h
theorem tget2_ok {P : Program} : ∀ (l : List (List (Nat × TI))), AllT2 P l → TTOK P (tget2 l)
  | [], _ => fun t i h => by simp [tget2] at h
  | x :: r, hl => fun t i h => by
    simp only [tget2] at h
    split at h
    · rename_i j hj; cases h; exact tget_ok x hl.1 t _ hj
    · exact tget2_ok r hl.2 t i h
def tl0 : List (Nat × TI) := [
(1, ⟨.other, 1, 8, [.nilf], none⟩),
(2, ⟨.int .i64, 1, 8, [.int .i64 0], some (.int .i64)⟩),
(3, ⟨.int .i64, 1, 8, [.int .i64 0], some (.int .i64)⟩),
(4, ⟨.bool, 1, 1, [.bool false], some .bool⟩),
(5, ⟨.int .u8, 1, 1, [.int .u8 0], some (.int .u8)⟩),
(6, ⟨.int .u8, 1, 1, [.int .u8 0], some (.int .u8)⟩),
(7, ⟨.struct [(0, 2), (1, 3), (2, 4), (3, 6)], 4, 24, [.int .i64 0, .int .i64 0, .bool false, .int .u8 0], none⟩),
(8, ⟨.struct [(0, 2), (1, 3), (2, 4), (3, 6)], 4, 24, [.int .i64 0, .int .i64 0, .bool false, .int .u8 0], none⟩),
(9, ⟨.str, 1, 16, [.str []], some .str⟩),
(10, ⟨.str, 1, 16, [.str []], some .str⟩),
(11, ⟨.str, 1, 16, [.str []], some .str⟩),
(12, ⟨.int .u64, 1, 8, [.int .u64 0], some (.int .u64)⟩),
(13, ⟨.struct [(0, 9), (1, 12)], 2, 24, [.str [], .int .u64 0], none⟩),
(14, ⟨.struct [(0, 9), (1, 12)], 2, 24, [.str [], .int .u64 0], none⟩),
(15, ⟨.ptr 134, 1, 8, [.nilp], none⟩),
(16, ⟨.ptr 137, 1, 8, [.nilp], none⟩),
(17, ⟨.ptr 146, 1, 8, [.nilp], none⟩),
(18, ⟨.struct [(0, 17)], 1, 8, [.nilp], none⟩),
(19, ⟨.struct [(0, 17)], 1, 8, [.nilp], none⟩),
(20, ⟨.other, 1, 16, [.nili], none⟩),
(21, ⟨.int .i32, 1, 4, [.int .i32 0], some (.int .i32)⟩),
(22, ⟨.slc 5, 1, 24, [.nils], none⟩),
(23, ⟨.other, 1, 8, [.nilf], none⟩),
(24, ⟨.flt .f32, 1, 4, [.flt .f32 0], some (.flt .f32)⟩)
]
theorem tlOk0 : AllT Tryz.prog tl0 := ⟨ti1, ti2, ti3, ti4, ti5, ti6, ti7, ti8, ti9, ti10, ti11, ti12, ti13, ti14, ti15, ti16, ti17, ti18, ti19, ti20, ti21, ti22, ti23, ti24, trivial⟩
def tl1 : List (Nat × TI) := [
(25, ⟨.struct [(0, 24), (1, 24), (2, 24), (3, 24), (4, 24), (5, 24)], 6, 24, [.flt .f32 0, .flt .f32 0, .flt .f32 0, .flt .f32 0, .flt .f32 0, .flt .f32 0], none⟩),
(26, ⟨.struct [(0, 24), (1, 24), (2, 24), (3, 24), (4, 24), (5, 24)], 6, 24, [.flt .f32 0, .flt .f32 0, .flt .f32 0, .flt .f32 0, .flt .f32 0, .flt .f32 0], none⟩),
(27, ⟨.other, 1, 8, [.nilf], none⟩),
(28, ⟨.other, 1, 8, [.nilf], none⟩),
(29, ⟨.other, 1, 8, [.nilf], none⟩),
(31, ⟨.other, 1, 8, [.nilf], none⟩),
(32, ⟨.struct [(0, 24), (1, 24), (2, 24), (3, 24), (4, 24)], 5, 20, [.flt .f32 0, .flt .f32 0, .flt .f32 0, .flt .f32 0, .flt .f32 0], none⟩),
(33, ⟨.struct [(0, 24), (1, 24), (2, 24), (3, 24), (4, 24)], 5, 20, [.flt .f32 0, .flt .f32 0, .flt .f32 0, .flt .f32 0, .flt .f32 0], some .look⟩),
(35, ⟨.other, 1, 8, [.nilf], none⟩),
(36, ⟨.struct [(0, 24), (1, 24), (2, 24)], 3, 12, [.flt .f32 0, .flt .f32 0, .flt .f32 0], none⟩),
(37, ⟨.struct [(0, 24), (1, 24), (2, 24)], 3, 12, [.flt .f32 0, .flt .f32 0, .flt .f32 0], some .vec⟩),
(39, ⟨.other, 1, 8, [.nilf], none⟩),
(41, ⟨.other, 1, 8, [.nilf], none⟩),
(42, ⟨.other, 1, 8, [.nilf], none⟩),
(43, ⟨.other, 1, 8, [.nilf], none⟩),
(44, ⟨.slc 33, 1, 24, [.nils], none⟩),
(46, ⟨.other, 1, 8, [.nilf], none⟩),
(48, ⟨.other, 1, 8, [.nilf], none⟩),
(50, ⟨.other, 1, 8, [.nilf], none⟩),
(51, ⟨.other, 1, 8, [.nilf], none⟩),
(52, ⟨.flt .f64, 1, 8, [.flt .f64 0], some (.flt .f64)⟩),
(53, ⟨.other, 1, 8, [.nilf], none⟩),
(54, ⟨.other, 1, 8, [.nilf], none⟩),
(55, ⟨.other, 1, 8, [.nilf], none⟩)
]
theorem tlOk1 : AllT Tryz.prog tl1 := ⟨ti25, ti26, ti27, ti28, ti29, ti31, ti32, ti33, ti35, ti36, ti37, ti39, ti41, ti42, ti43, ti44, ti46, ti48, ti50, ti51, ti52, ti53, ti54, ti55, trivial⟩
def tl2 : List (Nat × TI) := [
(56, ⟨.other, 1, 8, [.nilf], none⟩),
(57, ⟨.ptr 85, 1, 8, [.nilp], none⟩),
(58, ⟨.other, 1, 8, [.nilf], none⟩),
(59, ⟨.other, 1, 8, [.nilf], none⟩),
(60, ⟨.other, 1, 8, [.nilf], none⟩),
(61, ⟨.other, 1, 8, [.nilf], none⟩),
(62, ⟨.ptr 26, 1, 8, [.nilp], none⟩),
(63, ⟨.other, 1, 8, [.nilf], none⟩),
(64, ⟨.other, 1, 8, [.nilf], none⟩),
(65, ⟨.other, 1, 8, [.nilf], none⟩),
(66, ⟨.other, 1, 8, [.nilf], none⟩),
(67, ⟨.arr 3 24, 3, 12, [.flt .f32 0, .flt .f32 0, .flt .f32 0], none⟩),
(68, ⟨.arr 3 24, 3, 12, [.flt .f32 0, .flt .f32 0, .flt .f32 0], none⟩),
(70, ⟨.other, 1, 8, [.nilf], none⟩),
(71, ⟨.slc 24, 1, 24, [.nils], none⟩),
(73, ⟨.other, 1, 8, [.nilf], none⟩),
(75, ⟨.other, 1, 8, [.nilf], none⟩),
(76, ⟨.other, 1, 8, [.nilf], none⟩),
(77, ⟨.other, 1, 8, [.nilf], none⟩),
(78, ⟨.other, 1, 8, [.nilf], none⟩),
(79, ⟨.other, 1, 8, [.nilf], none⟩),
(80, ⟨.other, 1, 8, [.nilf], none⟩),
(81, ⟨.other, 1, 8, [.nilf], none⟩),
(82, ⟨.other, 1, 8, [.nilf], none⟩)
]
theorem tlOk2 : AllT Tryz.prog tl2 := ⟨ti56, ti57, ti58, ti59, ti60, ti61, ti62, ti63, ti64, ti65, ti66, ti67, ti68, ti70, ti71, ti73, ti75, ti76, ti77, ti78, ti79, ti80, ti81, ti82, trivial⟩
def tl3 : List (Nat × TI) := [
(83, ⟨.int .u64, 1, 8, [.int .u64 0], some (.int .u64)⟩),
(84, ⟨.struct [(0, 22), (1, 3), (2, 83)], 3, 40, [.nils, .int .i64 0, .int .u64 0], none⟩),
(85, ⟨.struct [(0, 22), (1, 3), (2, 83)], 3, 40, [.nils, .int .i64 0, .int .u64 0], none⟩),
(86, ⟨.other, 1, 8, [.nilf], none⟩),
(87, ⟨.other, 1, 8, [.nilf], none⟩),
(88, ⟨.other, 1, 8, [.nilf], none⟩),
(89, ⟨.other, 1, 8, [.nilf], none⟩),
(90, ⟨.other, 1, 8, [.nilf], none⟩),
(91, ⟨.other, 1, 8, [.nilf], none⟩),
(92, ⟨.other, 1, 8, [.nilf], none⟩),
(93, ⟨.other, 1, 8, [.nilf], none⟩),
(95, ⟨.other, 1, 8, [.nilf], none⟩),
(96, ⟨.other, 1, 8, [.nilf], none⟩),
(97, ⟨.other, 1, 8, [.nilf], none⟩),
(98, ⟨.other, 1, 8, [.nilf], none⟩),
(99, ⟨.arr 4 52, 4, 32, [.flt .f64 0, .flt .f64 0, .flt .f64 0, .flt .f64 0], none⟩),
(100, ⟨.other, 1, 8, [.nilf], none⟩),
(101, ⟨.other, 1, 8, [.nilf], none⟩),
(102, ⟨.arr 3 52, 3, 24, [.flt .f64 0, .flt .f64 0, .flt .f64 0], none⟩),
(103, ⟨.arr 3 52, 3, 24, [.flt .f64 0, .flt .f64 0, .flt .f64 0], none⟩),
(104, ⟨.other, 1, 8, [.nilf], none⟩),
(105, ⟨.other, 1, 8, [.nilf], none⟩),
(106, ⟨.other, 1, 8, [.nilf], none⟩),
(108, ⟨.other, 1, 8, [.nilf], none⟩)
]
theorem tlOk3 : AllT Tryz.prog tl3 := ⟨ti83, ti84, ti85, ti86, ti87, ti88, ti89, ti90, ti91, ti92, ti93, ti95, ti96, ti97, ti98, ti99, ti100, ti101, ti102, ti103, ti104, ti105, ti106, ti108, trivial⟩
def tl4 : List (Nat × TI) := [
(109, ⟨.other, 1, 8, [.nilf], none⟩),
(110, ⟨.other, 1, 8, [.nilf], none⟩),
(111, ⟨.other, 1, 8, [.nilf], none⟩),
(112, ⟨.other, 1, 8, [.nilf], none⟩),
(113, ⟨.other, 1, 8, [.nilf], none⟩),
(114, ⟨.other, 1, 8, [.nilf], none⟩),
(115, ⟨.int .u64, 1, 8, [.int .u64 0], some (.int .u64)⟩),
(117, ⟨.other, 1, 8, [.nilf], none⟩),
(118, ⟨.other, 1, 8, [.nilf], none⟩),
(119, ⟨.other, 1, 8, [.nilf], none⟩),
(120, ⟨.other, 1, 8, [.nilf], none⟩),
(121, ⟨.int .u32, 1, 4, [.int .u32 0], some (.int .u32)⟩),
(122, ⟨.other, 1, 8, [.nilf], none⟩),
(123, ⟨.other, 1, 8, [.nilf], none⟩),
(124, ⟨.ptr 33, 1, 8, [.nilp], none⟩),
(125, ⟨.other, 1, 8, [.nilf], none⟩),
(126, ⟨.other, 1, 8, [.nilf], none⟩),
(127, ⟨.other, 1, 8, [.nilf], none⟩),
(128, ⟨.other, 1, 8, [.nilf], none⟩),
(130, ⟨.other, 1, 8, [.nilf], none⟩),
(131, ⟨.other, 1, 8, [.nilf], none⟩),
(132, ⟨.other, 1, 8, [.nilf], none⟩),
(133, ⟨.struct [(0, 17), (1, 17), (2, 17), (3, 9)], 4, 40, [.nilp, .nilp, .nilp, .str []], none⟩),
(134, ⟨.struct [(0, 17), (1, 17), (2, 17), (3, 9)], 4, 40, [.nilp, .nilp, .nilp, .str []], none⟩)
]
theorem tlOk4 : AllT Tryz.prog tl4 := ⟨ti109, ti110, ti111, ti112, ti113, ti114, ti115, ti117, ti118, ti119, ti120, ti121, ti122, ti123, ti124, ti125, ti126, ti127, ti128, ti130, ti131, ti132, ti133, ti134, trivial⟩
def tl5 : List (Nat × TI) := [
(135, ⟨.arr 0 16, 0, 0, [], none⟩),
(136, ⟨.struct [(0, 135)], 0, 0, [], none⟩),
(137, ⟨.struct [(0, 135)], 0, 0, [], none⟩),
(138, ⟨.other, 1, 8, [.nilf], none⟩),
(139, ⟨.int .u8, 1, 1, [.int .u8 0], some (.int .u8)⟩),
(140, ⟨.int .u8, 1, 1, [.int .u8 0], some (.int .u8)⟩),
(141, ⟨.other, 1, 8, [.nilf], none⟩),
(142, ⟨.ptr 5, 1, 8, [.nilp], none⟩),
(143, ⟨.int .i32, 1, 4, [.int .i32 0], some (.int .i32)⟩),
(144, ⟨.int .i32, 1, 4, [.int .i32 0], some (.int .i32)⟩),
(145, ⟨.struct [(0, 12), (1, 12), (2, 121), (3, 139), (4, 5), (5, 5), (6, 140), (7, 141), (8, 142), (9, 143), (10, 144)], 11, 48, [.int .u64 0, .int .u64 0, .int .u32 0, .int .u8 0, .int .u8 0, .int .u8 0, .int .u8 0, .nilf, .nilp, .int .i32 0, .int .i32 0], none⟩),
(146, ⟨.struct [(0, 12), (1, 12), (2, 121), (3, 139), (4, 5), (5, 5), (6, 140), (7, 141), (8, 142), (9, 143), (10, 144)], 11, 48, [.int .u64 0, .int .u64 0, .int .u32 0, .int .u8 0, .int .u8 0, .int .u8 0, .int .u8 0, .nilf, .nilp, .int .i32 0, .int .i32 0], none⟩),
(147, ⟨.other, 1, 8, [.nilp], none⟩)
]
theorem tlOk5 : AllT Tryz.prog tl5 := ⟨ti135, ti136, ti137, ti138, ti139, ti140, ti141, ti142, ti143, ti144, ti145, ti146, ti147, trivial⟩
def tab : TT := tget2 [tl0, tl1, tl2, tl3, tl4, tl5]
theorem tab_ok : TTOK Tryz.prog tab := tget2_ok _ ⟨tlOk0, tlOk1, tlOk2, tlOk3, tlOk4, tlOk5, trivial⟩
end Go.Proofs.YtfbnehkbialkaaaGreat
