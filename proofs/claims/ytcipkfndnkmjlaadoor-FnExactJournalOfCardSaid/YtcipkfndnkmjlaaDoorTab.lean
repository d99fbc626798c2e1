/- THE TYPES, BY A PROGRAM: what the evaluator takes from the table of types, and that it stands there. -/
import Derived.Test.YtcipkfndnkmjlaaDoorEngQc
import Derived.Test.YtcipkfndnkmjlaaDoorProg
namespace Go.Proofs.YtcipkfndnkmjlaaDoor
/-- A string's bytes, as integers. -/
def u8i (l : List UInt8) : List Int := u8s l
theorem z_int {k : IntKind} : ZSim (.int k 0) (.int k 0) := fun c => by simp only [VSim]
theorem z_f32 : ZSim (.flt .f32 0) (.float .f32 0) := fun c => by simp only [VSim]; exact ⟨0, rfl, by decide +kernel⟩
theorem z_f64 : ZSim (.flt .f64 0) (.float .f64 0) := fun c => by simp only [VSim]; exact ⟨0, rfl, by decide +kernel⟩
theorem z_c32 : ZSim (.cplx .f32 0 0) (.complex .f32 0 0) := fun c => by simp only [VSim]; exact ⟨0, 0, rfl, by decide +kernel, by decide +kernel⟩
theorem z_c64 : ZSim (.cplx .f64 0 0) (.complex .f64 0 0) := fun c => by simp only [VSim]; exact ⟨0, 0, rfl, by decide +kernel, by decide +kernel⟩
theorem z_bool : ZSim (.bool false) (.bool false) := fun c => by simp only [VSim]
theorem z_str {s : ByteArray} (h : s.data.toList = []) : ZSim (.str []) (.string s) := fun c => by simp only [VSim]; exact ⟨s, rfl, h⟩
theorem z_nilp : ZSim .nilp (.pointer none) := fun c => by simp only [VSim]
theorem z_nils : ZSim .nils (.slice none 0 0) := fun c => by simp only [VSim]
theorem z_nilf : ZSim .nilf .nilFunc := fun c => by simp only [VSim]
theorem z_nili : ZSim .nili .nilIface := fun c => by simp only [VSim]
theorem ti1 : TIOK Tryd.prog 1 ⟨.other, 1, 8, [.nilf], none⟩ := ⟨⟨_, Tryd.underlying1, (fun f h => by cases h), (fun n e h => by cases h)⟩, Tryd.t1, _, by kernel_rfl, rfl, rfl, rfl, ⟨z_nilf, trivial⟩⟩
theorem ti2 : TIOK Tryd.prog 2 ⟨.int .i64, 1, 8, [.int .i64 0], some (.int .i64)⟩ := ⟨Tryd.underlying2, Tryd.t2, _, by kernel_rfl, rfl, rfl, rfl, ⟨z_int, trivial⟩⟩
theorem ti3 : TIOK Tryd.prog 3 ⟨.int .i64, 1, 8, [.int .i64 0], some (.int .i64)⟩ := ⟨Tryd.underlying3, Tryd.t3, _, by kernel_rfl, rfl, rfl, rfl, ⟨z_int, trivial⟩⟩
theorem ti4 : TIOK Tryd.prog 4 ⟨.bool, 1, 1, [.bool false], some .bool⟩ := ⟨Tryd.underlying4, Tryd.t4, _, by kernel_rfl, rfl, rfl, rfl, ⟨z_bool, trivial⟩⟩
theorem ti5 : TIOK Tryd.prog 5 ⟨.int .u8, 1, 1, [.int .u8 0], some (.int .u8)⟩ := ⟨Tryd.underlying5, Tryd.t5, _, by kernel_rfl, rfl, rfl, rfl, ⟨z_int, trivial⟩⟩
theorem ti6 : TIOK Tryd.prog 6 ⟨.int .u8, 1, 1, [.int .u8 0], some (.int .u8)⟩ := ⟨Tryd.underlying6, Tryd.t6, _, by kernel_rfl, rfl, rfl, rfl, ⟨z_int, trivial⟩⟩
theorem ti7 : TIOK Tryd.prog 7 ⟨.struct [(0, 2), (1, 3), (2, 4), (3, 6)], 4, 24, [.int .i64 0, .int .i64 0, .bool false, .int .u8 0], none⟩ := ⟨⟨_, Tryd.underlying7, rfl⟩, Tryd.t7, _, by kernel_rfl, rfl, rfl, rfl, ⟨z_int, z_int, z_bool, z_int, trivial⟩⟩
theorem ti8 : TIOK Tryd.prog 8 ⟨.struct [(0, 2), (1, 3), (2, 4), (3, 6)], 4, 24, [.int .i64 0, .int .i64 0, .bool false, .int .u8 0], none⟩ := ⟨⟨_, Tryd.underlying8, rfl⟩, Tryd.t8, _, by kernel_rfl, rfl, rfl, rfl, ⟨z_int, z_int, z_bool, z_int, trivial⟩⟩
theorem ti9 : TIOK Tryd.prog 9 ⟨.str, 1, 16, [.str []], some .str⟩ := ⟨Tryd.underlying9, Tryd.t9, _, by kernel_rfl, rfl, rfl, rfl, ⟨z_str rfl, trivial⟩⟩
theorem ti10 : TIOK Tryd.prog 10 ⟨.str, 1, 16, [.str []], some .str⟩ := ⟨Tryd.underlying10, Tryd.t10, _, by kernel_rfl, rfl, rfl, rfl, ⟨z_str rfl, trivial⟩⟩
theorem ti11 : TIOK Tryd.prog 11 ⟨.str, 1, 16, [.str []], some .str⟩ := ⟨Tryd.underlying11, Tryd.t11, _, by kernel_rfl, rfl, rfl, rfl, ⟨z_str rfl, trivial⟩⟩
theorem ti12 : TIOK Tryd.prog 12 ⟨.int .u64, 1, 8, [.int .u64 0], some (.int .u64)⟩ := ⟨Tryd.underlying12, Tryd.t12, _, by kernel_rfl, rfl, rfl, rfl, ⟨z_int, trivial⟩⟩
theorem ti13 : TIOK Tryd.prog 13 ⟨.struct [(0, 9), (1, 12)], 2, 24, [.str [], .int .u64 0], none⟩ := ⟨⟨_, Tryd.underlying13, rfl⟩, Tryd.t13, _, by kernel_rfl, rfl, rfl, rfl, ⟨z_str rfl, z_int, trivial⟩⟩
theorem ti14 : TIOK Tryd.prog 14 ⟨.struct [(0, 9), (1, 12)], 2, 24, [.str [], .int .u64 0], none⟩ := ⟨⟨_, Tryd.underlying14, rfl⟩, Tryd.t14, _, by kernel_rfl, rfl, rfl, rfl, ⟨z_str rfl, z_int, trivial⟩⟩
theorem ti15 : TIOK Tryd.prog 15 ⟨.ptr 221, 1, 8, [.nilp], none⟩ := ⟨Tryd.underlying15, Tryd.t15, _, by kernel_rfl, rfl, rfl, rfl, ⟨z_nilp, trivial⟩⟩
theorem ti16 : TIOK Tryd.prog 16 ⟨.ptr 224, 1, 8, [.nilp], none⟩ := ⟨Tryd.underlying16, Tryd.t16, _, by kernel_rfl, rfl, rfl, rfl, ⟨z_nilp, trivial⟩⟩
theorem ti17 : TIOK Tryd.prog 17 ⟨.ptr 231, 1, 8, [.nilp], none⟩ := ⟨Tryd.underlying17, Tryd.t17, _, by kernel_rfl, rfl, rfl, rfl, ⟨z_nilp, trivial⟩⟩
theorem ti18 : TIOK Tryd.prog 18 ⟨.struct [(0, 17)], 1, 8, [.nilp], none⟩ := ⟨⟨_, Tryd.underlying18, rfl⟩, Tryd.t18, _, by kernel_rfl, rfl, rfl, rfl, ⟨z_nilp, trivial⟩⟩
theorem ti19 : TIOK Tryd.prog 19 ⟨.struct [(0, 17)], 1, 8, [.nilp], none⟩ := ⟨⟨_, Tryd.underlying19, rfl⟩, Tryd.t19, _, by kernel_rfl, rfl, rfl, rfl, ⟨z_nilp, trivial⟩⟩
theorem ti20 : TIOK Tryd.prog 20 ⟨.other, 1, 16, [.nili], none⟩ := ⟨⟨_, Tryd.underlying20, (fun f h => by cases h), (fun n e h => by cases h)⟩, Tryd.t20, _, by kernel_rfl, rfl, rfl, rfl, ⟨z_nili, trivial⟩⟩
theorem ti21 : TIOK Tryd.prog 21 ⟨.int .i32, 1, 4, [.int .i32 0], some (.int .i32)⟩ := ⟨Tryd.underlying21, Tryd.t21, _, by kernel_rfl, rfl, rfl, rfl, ⟨z_int, trivial⟩⟩
theorem ti22 : TIOK Tryd.prog 22 ⟨.flt .f32, 1, 4, [.flt .f32 0], some (.flt .f32)⟩ := ⟨Tryd.underlying22, Tryd.t22, _, by kernel_rfl, rfl, rfl, rfl, ⟨z_f32, trivial⟩⟩
theorem ti23 : TIOK Tryd.prog 23 ⟨.struct [(0, 22), (1, 22), (2, 22)], 3, 12, [.flt .f32 0, .flt .f32 0, .flt .f32 0], none⟩ := ⟨⟨_, Tryd.underlying23, rfl⟩, Tryd.t23, _, by kernel_rfl, rfl, rfl, rfl, ⟨z_f32, z_f32, z_f32, trivial⟩⟩
theorem ti24 : TIOK Tryd.prog 24 ⟨.struct [(0, 22), (1, 22), (2, 22)], 3, 12, [.flt .f32 0, .flt .f32 0, .flt .f32 0], some .vec⟩ := ⟨⟨_, Tryd.underlying24, rfl⟩, Tryd.t24, _, by kernel_rfl, rfl, rfl, rfl, ⟨z_f32, z_f32, z_f32, trivial⟩⟩
theorem ti25 : TIOK Tryd.prog 25 ⟨.other, 1, 8, [.nilf], none⟩ := ⟨⟨_, Tryd.underlying25, (fun f h => by cases h), (fun n e h => by cases h)⟩, Tryd.t25, _, by kernel_rfl, rfl, rfl, rfl, ⟨z_nilf, trivial⟩⟩
theorem ti26 : TIOK Tryd.prog 26 ⟨.struct [(0, 22), (1, 22), (2, 22)], 3, 12, [.flt .f32 0, .flt .f32 0, .flt .f32 0], some .vec⟩ := ⟨⟨_, Tryd.underlying26, rfl⟩, Tryd.t26, _, by kernel_rfl, rfl, rfl, rfl, ⟨z_f32, z_f32, z_f32, trivial⟩⟩
theorem ti27 : TIOK Tryd.prog 27 ⟨.other, 1, 8, [.nilf], none⟩ := ⟨⟨_, Tryd.underlying27, (fun f h => by cases h), (fun n e h => by cases h)⟩, Tryd.t27, _, by kernel_rfl, rfl, rfl, rfl, ⟨z_nilf, trivial⟩⟩
theorem ti28 : TIOK Tryd.prog 28 ⟨.other, 1, 8, [.nilf], none⟩ := ⟨⟨_, Tryd.underlying28, (fun f h => by cases h), (fun n e h => by cases h)⟩, Tryd.t28, _, by kernel_rfl, rfl, rfl, rfl, ⟨z_nilf, trivial⟩⟩
theorem ti29 : TIOK Tryd.prog 29 ⟨.struct [(0, 22), (1, 22), (2, 22), (3, 22)], 4, 16, [.flt .f32 0, .flt .f32 0, .flt .f32 0, .flt .f32 0], none⟩ := ⟨⟨_, Tryd.underlying29, rfl⟩, Tryd.t29, _, by kernel_rfl, rfl, rfl, rfl, ⟨z_f32, z_f32, z_f32, z_f32, trivial⟩⟩
theorem ti30 : TIOK Tryd.prog 30 ⟨.struct [(0, 22), (1, 22), (2, 22), (3, 22)], 4, 16, [.flt .f32 0, .flt .f32 0, .flt .f32 0, .flt .f32 0], none⟩ := ⟨⟨_, Tryd.underlying30, rfl⟩, Tryd.t30, _, by kernel_rfl, rfl, rfl, rfl, ⟨z_f32, z_f32, z_f32, z_f32, trivial⟩⟩
theorem ti32 : TIOK Tryd.prog 32 ⟨.other, 1, 8, [.nilf], none⟩ := ⟨⟨_, Tryd.underlying32, (fun f h => by cases h), (fun n e h => by cases h)⟩, Tryd.t32, _, by kernel_rfl, rfl, rfl, rfl, ⟨z_nilf, trivial⟩⟩
theorem ti33 : TIOK Tryd.prog 33 ⟨.struct [(0, 22), (1, 22), (2, 22), (3, 22)], 4, 16, [.flt .f32 0, .flt .f32 0, .flt .f32 0, .flt .f32 0], none⟩ := ⟨⟨_, Tryd.underlying33, rfl⟩, Tryd.t33, _, by kernel_rfl, rfl, rfl, rfl, ⟨z_f32, z_f32, z_f32, z_f32, trivial⟩⟩
theorem ti34 : TIOK Tryd.prog 34 ⟨.other, 1, 8, [.nilf], none⟩ := ⟨⟨_, Tryd.underlying34, (fun f h => by cases h), (fun n e h => by cases h)⟩, Tryd.t34, _, by kernel_rfl, rfl, rfl, rfl, ⟨z_nilf, trivial⟩⟩
theorem ti35 : TIOK Tryd.prog 35 ⟨.other, 1, 8, [.nilf], none⟩ := ⟨⟨_, Tryd.underlying35, (fun f h => by cases h), (fun n e h => by cases h)⟩, Tryd.t35, _, by kernel_rfl, rfl, rfl, rfl, ⟨z_nilf, trivial⟩⟩
theorem ti36 : TIOK Tryd.prog 36 ⟨.struct [(0, 22), (1, 22), (2, 22), (3, 22), (4, 22), (5, 22)], 6, 24, [.flt .f32 0, .flt .f32 0, .flt .f32 0, .flt .f32 0, .flt .f32 0, .flt .f32 0], none⟩ := ⟨⟨_, Tryd.underlying36, rfl⟩, Tryd.t36, _, by kernel_rfl, rfl, rfl, rfl, ⟨z_f32, z_f32, z_f32, z_f32, z_f32, z_f32, trivial⟩⟩
theorem ti37 : TIOK Tryd.prog 37 ⟨.struct [(0, 22), (1, 22), (2, 22), (3, 22), (4, 22), (5, 22)], 6, 24, [.flt .f32 0, .flt .f32 0, .flt .f32 0, .flt .f32 0, .flt .f32 0, .flt .f32 0], none⟩ := ⟨⟨_, Tryd.underlying37, rfl⟩, Tryd.t37, _, by kernel_rfl, rfl, rfl, rfl, ⟨z_f32, z_f32, z_f32, z_f32, z_f32, z_f32, trivial⟩⟩
theorem ti38 : TIOK Tryd.prog 38 ⟨.other, 1, 8, [.nilf], none⟩ := ⟨⟨_, Tryd.underlying38, (fun f h => by cases h), (fun n e h => by cases h)⟩, Tryd.t38, _, by kernel_rfl, rfl, rfl, rfl, ⟨z_nilf, trivial⟩⟩
theorem ti39 : TIOK Tryd.prog 39 ⟨.struct [(0, 22), (1, 22), (2, 22), (3, 22), (4, 22), (5, 22)], 6, 24, [.flt .f32 0, .flt .f32 0, .flt .f32 0, .flt .f32 0, .flt .f32 0, .flt .f32 0], none⟩ := ⟨⟨_, Tryd.underlying39, rfl⟩, Tryd.t39, _, by kernel_rfl, rfl, rfl, rfl, ⟨z_f32, z_f32, z_f32, z_f32, z_f32, z_f32, trivial⟩⟩
theorem ti40 : TIOK Tryd.prog 40 ⟨.other, 1, 8, [.nilf], none⟩ := ⟨⟨_, Tryd.underlying40, (fun f h => by cases h), (fun n e h => by cases h)⟩, Tryd.t40, _, by kernel_rfl, rfl, rfl, rfl, ⟨z_nilf, trivial⟩⟩
theorem ti41 : TIOK Tryd.prog 41 ⟨.other, 1, 8, [.nilf], none⟩ := ⟨⟨_, Tryd.underlying41, (fun f h => by cases h), (fun n e h => by cases h)⟩, Tryd.t41, _, by kernel_rfl, rfl, rfl, rfl, ⟨z_nilf, trivial⟩⟩
theorem ti42 : TIOK Tryd.prog 42 ⟨.slc 92, 1, 24, [.nils], none⟩ := ⟨Tryd.underlying42, Tryd.t42, _, by kernel_rfl, rfl, rfl, rfl, ⟨z_nils, trivial⟩⟩
theorem ti43 : TIOK Tryd.prog 43 ⟨.other, 1, 8, [.nilf], none⟩ := ⟨⟨_, Tryd.underlying43, (fun f h => by cases h), (fun n e h => by cases h)⟩, Tryd.t43, _, by kernel_rfl, rfl, rfl, rfl, ⟨z_nilf, trivial⟩⟩
theorem ti44 : TIOK Tryd.prog 44 ⟨.other, 1, 8, [.nilf], none⟩ := ⟨⟨_, Tryd.underlying44, (fun f h => by cases h), (fun n e h => by cases h)⟩, Tryd.t44, _, by kernel_rfl, rfl, rfl, rfl, ⟨z_nilf, trivial⟩⟩
theorem ti45 : TIOK Tryd.prog 45 ⟨.slc 89, 1, 24, [.nils], none⟩ := ⟨Tryd.underlying45, Tryd.t45, _, by kernel_rfl, rfl, rfl, rfl, ⟨z_nils, trivial⟩⟩
theorem ti46 : TIOK Tryd.prog 46 ⟨.other, 1, 8, [.nilf], none⟩ := ⟨⟨_, Tryd.underlying46, (fun f h => by cases h), (fun n e h => by cases h)⟩, Tryd.t46, _, by kernel_rfl, rfl, rfl, rfl, ⟨z_nilf, trivial⟩⟩
theorem ti47 : TIOK Tryd.prog 47 ⟨.other, 1, 8, [.nilf], none⟩ := ⟨⟨_, Tryd.underlying47, (fun f h => by cases h), (fun n e h => by cases h)⟩, Tryd.t47, _, by kernel_rfl, rfl, rfl, rfl, ⟨z_nilf, trivial⟩⟩
theorem ti48 : TIOK Tryd.prog 48 ⟨.other, 1, 8, [.nilf], none⟩ := ⟨⟨_, Tryd.underlying48, (fun f h => by cases h), (fun n e h => by cases h)⟩, Tryd.t48, _, by kernel_rfl, rfl, rfl, rfl, ⟨z_nilf, trivial⟩⟩
theorem ti49 : TIOK Tryd.prog 49 ⟨.slc 97, 1, 24, [.nils], none⟩ := ⟨Tryd.underlying49, Tryd.t49, _, by kernel_rfl, rfl, rfl, rfl, ⟨z_nils, trivial⟩⟩
theorem ti50 : TIOK Tryd.prog 50 ⟨.other, 1, 8, [.nilf], none⟩ := ⟨⟨_, Tryd.underlying50, (fun f h => by cases h), (fun n e h => by cases h)⟩, Tryd.t50, _, by kernel_rfl, rfl, rfl, rfl, ⟨z_nilf, trivial⟩⟩
theorem ti51 : TIOK Tryd.prog 51 ⟨.other, 1, 8, [.nilf], none⟩ := ⟨⟨_, Tryd.underlying51, (fun f h => by cases h), (fun n e h => by cases h)⟩, Tryd.t51, _, by kernel_rfl, rfl, rfl, rfl, ⟨z_nilf, trivial⟩⟩
theorem ti52 : TIOK Tryd.prog 52 ⟨.slc 101, 1, 24, [.nils], none⟩ := ⟨Tryd.underlying52, Tryd.t52, _, by kernel_rfl, rfl, rfl, rfl, ⟨z_nils, trivial⟩⟩
theorem ti53 : TIOK Tryd.prog 53 ⟨.other, 1, 8, [.nilf], none⟩ := ⟨⟨_, Tryd.underlying53, (fun f h => by cases h), (fun n e h => by cases h)⟩, Tryd.t53, _, by kernel_rfl, rfl, rfl, rfl, ⟨z_nilf, trivial⟩⟩
theorem ti54 : TIOK Tryd.prog 54 ⟨.other, 1, 8, [.nilf], none⟩ := ⟨⟨_, Tryd.underlying54, (fun f h => by cases h), (fun n e h => by cases h)⟩, Tryd.t54, _, by kernel_rfl, rfl, rfl, rfl, ⟨z_nilf, trivial⟩⟩
theorem ti55 : TIOK Tryd.prog 55 ⟨.other, 1, 8, [.nilf], none⟩ := ⟨⟨_, Tryd.underlying55, (fun f h => by cases h), (fun n e h => by cases h)⟩, Tryd.t55, _, by kernel_rfl, rfl, rfl, rfl, ⟨z_nilf, trivial⟩⟩
theorem ti57 : TIOK Tryd.prog 57 ⟨.other, 1, 8, [.nilf], none⟩ := ⟨⟨_, Tryd.underlying57, (fun f h => by cases h), (fun n e h => by cases h)⟩, Tryd.t57, _, by kernel_rfl, rfl, rfl, rfl, ⟨z_nilf, trivial⟩⟩
theorem ti58 : TIOK Tryd.prog 58 ⟨.other, 1, 8, [.nilf], none⟩ := ⟨⟨_, Tryd.underlying58, (fun f h => by cases h), (fun n e h => by cases h)⟩, Tryd.t58, _, by kernel_rfl, rfl, rfl, rfl, ⟨z_nilf, trivial⟩⟩
theorem ti59 : TIOK Tryd.prog 59 ⟨.other, 1, 8, [.nilf], none⟩ := ⟨⟨_, Tryd.underlying59, (fun f h => by cases h), (fun n e h => by cases h)⟩, Tryd.t59, _, by kernel_rfl, rfl, rfl, rfl, ⟨z_nilf, trivial⟩⟩
theorem ti61 : TIOK Tryd.prog 61 ⟨.other, 1, 8, [.nilf], none⟩ := ⟨⟨_, Tryd.underlying61, (fun f h => by cases h), (fun n e h => by cases h)⟩, Tryd.t61, _, by kernel_rfl, rfl, rfl, rfl, ⟨z_nilf, trivial⟩⟩
theorem ti62 : TIOK Tryd.prog 62 ⟨.other, 1, 8, [.nilf], none⟩ := ⟨⟨_, Tryd.underlying62, (fun f h => by cases h), (fun n e h => by cases h)⟩, Tryd.t62, _, by kernel_rfl, rfl, rfl, rfl, ⟨z_nilf, trivial⟩⟩
theorem ti63 : TIOK Tryd.prog 63 ⟨.slc 9, 1, 24, [.nils], none⟩ := ⟨Tryd.underlying63, Tryd.t63, _, by kernel_rfl, rfl, rfl, rfl, ⟨z_nils, trivial⟩⟩
theorem ti64 : TIOK Tryd.prog 64 ⟨.other, 1, 8, [.nilf], none⟩ := ⟨⟨_, Tryd.underlying64, (fun f h => by cases h), (fun n e h => by cases h)⟩, Tryd.t64, _, by kernel_rfl, rfl, rfl, rfl, ⟨z_nilf, trivial⟩⟩
theorem ti65 : TIOK Tryd.prog 65 ⟨.other, 1, 8, [.nilf], none⟩ := ⟨⟨_, Tryd.underlying65, (fun f h => by cases h), (fun n e h => by cases h)⟩, Tryd.t65, _, by kernel_rfl, rfl, rfl, rfl, ⟨z_nilf, trivial⟩⟩
theorem ti66 : TIOK Tryd.prog 66 ⟨.other, 1, 8, [.nilf], none⟩ := ⟨⟨_, Tryd.underlying66, (fun f h => by cases h), (fun n e h => by cases h)⟩, Tryd.t66, _, by kernel_rfl, rfl, rfl, rfl, ⟨z_nilf, trivial⟩⟩
theorem ti67 : TIOK Tryd.prog 67 ⟨.other, 1, 8, [.nilf], none⟩ := ⟨⟨_, Tryd.underlying67, (fun f h => by cases h), (fun n e h => by cases h)⟩, Tryd.t67, _, by kernel_rfl, rfl, rfl, rfl, ⟨z_nilf, trivial⟩⟩
theorem ti68 : TIOK Tryd.prog 68 ⟨.other, 1, 8, [.nilf], none⟩ := ⟨⟨_, Tryd.underlying68, (fun f h => by cases h), (fun n e h => by cases h)⟩, Tryd.t68, _, by kernel_rfl, rfl, rfl, rfl, ⟨z_nilf, trivial⟩⟩
theorem ti70 : TIOK Tryd.prog 70 ⟨.other, 1, 8, [.nilf], none⟩ := ⟨⟨_, Tryd.underlying70, (fun f h => by cases h), (fun n e h => by cases h)⟩, Tryd.t70, _, by kernel_rfl, rfl, rfl, rfl, ⟨z_nilf, trivial⟩⟩
theorem ti72 : TIOK Tryd.prog 72 ⟨.other, 1, 8, [.nilf], none⟩ := ⟨⟨_, Tryd.underlying72, (fun f h => by cases h), (fun n e h => by cases h)⟩, Tryd.t72, _, by kernel_rfl, rfl, rfl, rfl, ⟨z_nilf, trivial⟩⟩
theorem ti73 : TIOK Tryd.prog 73 ⟨.other, 1, 8, [.nilf], none⟩ := ⟨⟨_, Tryd.underlying73, (fun f h => by cases h), (fun n e h => by cases h)⟩, Tryd.t73, _, by kernel_rfl, rfl, rfl, rfl, ⟨z_nilf, trivial⟩⟩
theorem ti74 : TIOK Tryd.prog 74 ⟨.slc 22, 1, 24, [.nils], none⟩ := ⟨Tryd.underlying74, Tryd.t74, _, by kernel_rfl, rfl, rfl, rfl, ⟨z_nils, trivial⟩⟩
theorem ti75 : TIOK Tryd.prog 75 ⟨.other, 1, 8, [.nilf], none⟩ := ⟨⟨_, Tryd.underlying75, (fun f h => by cases h), (fun n e h => by cases h)⟩, Tryd.t75, _, by kernel_rfl, rfl, rfl, rfl, ⟨z_nilf, trivial⟩⟩
theorem ti76 : TIOK Tryd.prog 76 ⟨.other, 1, 8, [.nilf], none⟩ := ⟨⟨_, Tryd.underlying76, (fun f h => by cases h), (fun n e h => by cases h)⟩, Tryd.t76, _, by kernel_rfl, rfl, rfl, rfl, ⟨z_nilf, trivial⟩⟩
theorem ti77 : TIOK Tryd.prog 77 ⟨.ptr 33, 1, 8, [.nilp], none⟩ := ⟨Tryd.underlying77, Tryd.t77, _, by kernel_rfl, rfl, rfl, rfl, ⟨z_nilp, trivial⟩⟩
theorem ti78 : TIOK Tryd.prog 78 ⟨.other, 1, 8, [.nilf], none⟩ := ⟨⟨_, Tryd.underlying78, (fun f h => by cases h), (fun n e h => by cases h)⟩, Tryd.t78, _, by kernel_rfl, rfl, rfl, rfl, ⟨z_nilf, trivial⟩⟩
theorem ti79 : TIOK Tryd.prog 79 ⟨.other, 1, 8, [.nilf], none⟩ := ⟨⟨_, Tryd.underlying79, (fun f h => by cases h), (fun n e h => by cases h)⟩, Tryd.t79, _, by kernel_rfl, rfl, rfl, rfl, ⟨z_nilf, trivial⟩⟩
theorem ti80 : TIOK Tryd.prog 80 ⟨.other, 1, 8, [.nilf], none⟩ := ⟨⟨_, Tryd.underlying80, (fun f h => by cases h), (fun n e h => by cases h)⟩, Tryd.t80, _, by kernel_rfl, rfl, rfl, rfl, ⟨z_nilf, trivial⟩⟩
theorem ti81 : TIOK Tryd.prog 81 ⟨.other, 1, 8, [.nilf], none⟩ := ⟨⟨_, Tryd.underlying81, (fun f h => by cases h), (fun n e h => by cases h)⟩, Tryd.t81, _, by kernel_rfl, rfl, rfl, rfl, ⟨z_nilf, trivial⟩⟩
theorem ti82 : TIOK Tryd.prog 82 ⟨.ptr 39, 1, 8, [.nilp], none⟩ := ⟨Tryd.underlying82, Tryd.t82, _, by kernel_rfl, rfl, rfl, rfl, ⟨z_nilp, trivial⟩⟩
theorem ti83 : TIOK Tryd.prog 83 ⟨.other, 1, 8, [.nilf], none⟩ := ⟨⟨_, Tryd.underlying83, (fun f h => by cases h), (fun n e h => by cases h)⟩, Tryd.t83, _, by kernel_rfl, rfl, rfl, rfl, ⟨z_nilf, trivial⟩⟩
theorem ti84 : TIOK Tryd.prog 84 ⟨.other, 1, 8, [.nilf], none⟩ := ⟨⟨_, Tryd.underlying84, (fun f h => by cases h), (fun n e h => by cases h)⟩, Tryd.t84, _, by kernel_rfl, rfl, rfl, rfl, ⟨z_nilf, trivial⟩⟩
theorem ti85 : TIOK Tryd.prog 85 ⟨.other, 1, 8, [.nilf], none⟩ := ⟨⟨_, Tryd.underlying85, (fun f h => by cases h), (fun n e h => by cases h)⟩, Tryd.t85, _, by kernel_rfl, rfl, rfl, rfl, ⟨z_nilf, trivial⟩⟩
theorem ti86 : TIOK Tryd.prog 86 ⟨.other, 1, 8, [.nilf], none⟩ := ⟨⟨_, Tryd.underlying86, (fun f h => by cases h), (fun n e h => by cases h)⟩, Tryd.t86, _, by kernel_rfl, rfl, rfl, rfl, ⟨z_nilf, trivial⟩⟩
theorem ti87 : TIOK Tryd.prog 87 ⟨.other, 1, 8, [.nilf], none⟩ := ⟨⟨_, Tryd.underlying87, (fun f h => by cases h), (fun n e h => by cases h)⟩, Tryd.t87, _, by kernel_rfl, rfl, rfl, rfl, ⟨z_nilf, trivial⟩⟩
theorem ti88 : TIOK Tryd.prog 88 ⟨.struct [(0, 26), (3, 26), (6, 22)], 7, 28, [.flt .f32 0, .flt .f32 0, .flt .f32 0, .flt .f32 0, .flt .f32 0, .flt .f32 0, .flt .f32 0], none⟩ := ⟨⟨_, Tryd.underlying88, rfl⟩, Tryd.t88, _, by kernel_rfl, rfl, rfl, rfl, ⟨z_f32, z_f32, z_f32, z_f32, z_f32, z_f32, z_f32, trivial⟩⟩
theorem ti89 : TIOK Tryd.prog 89 ⟨.struct [(0, 26), (3, 26), (6, 22)], 7, 28, [.flt .f32 0, .flt .f32 0, .flt .f32 0, .flt .f32 0, .flt .f32 0, .flt .f32 0, .flt .f32 0], some .body⟩ := ⟨⟨_, Tryd.underlying89, rfl⟩, Tryd.t89, _, by kernel_rfl, rfl, rfl, rfl, ⟨z_f32, z_f32, z_f32, z_f32, z_f32, z_f32, z_f32, trivial⟩⟩
theorem ti90 : TIOK Tryd.prog 90 ⟨.other, 1, 8, [.nilf], none⟩ := ⟨⟨_, Tryd.underlying90, (fun f h => by cases h), (fun n e h => by cases h)⟩, Tryd.t90, _, by kernel_rfl, rfl, rfl, rfl, ⟨z_nilf, trivial⟩⟩
theorem ti91 : TIOK Tryd.prog 91 ⟨.struct [(0, 24), (3, 24), (6, 22)], 7, 28, [.flt .f32 0, .flt .f32 0, .flt .f32 0, .flt .f32 0, .flt .f32 0, .flt .f32 0, .flt .f32 0], none⟩ := ⟨⟨_, Tryd.underlying91, rfl⟩, Tryd.t91, _, by kernel_rfl, rfl, rfl, rfl, ⟨z_f32, z_f32, z_f32, z_f32, z_f32, z_f32, z_f32, trivial⟩⟩
theorem ti92 : TIOK Tryd.prog 92 ⟨.struct [(0, 24), (3, 24), (6, 22)], 7, 28, [.flt .f32 0, .flt .f32 0, .flt .f32 0, .flt .f32 0, .flt .f32 0, .flt .f32 0, .flt .f32 0], some .body⟩ := ⟨⟨_, Tryd.underlying92, rfl⟩, Tryd.t92, _, by kernel_rfl, rfl, rfl, rfl, ⟨z_f32, z_f32, z_f32, z_f32, z_f32, z_f32, z_f32, trivial⟩⟩
theorem ti93 : TIOK Tryd.prog 93 ⟨.other, 1, 8, [.nilf], none⟩ := ⟨⟨_, Tryd.underlying93, (fun f h => by cases h), (fun n e h => by cases h)⟩, Tryd.t93, _, by kernel_rfl, rfl, rfl, rfl, ⟨z_nilf, trivial⟩⟩
theorem ti94 : TIOK Tryd.prog 94 ⟨.other, 1, 8, [.nilf], none⟩ := ⟨⟨_, Tryd.underlying94, (fun f h => by cases h), (fun n e h => by cases h)⟩, Tryd.t94, _, by kernel_rfl, rfl, rfl, rfl, ⟨z_nilf, trivial⟩⟩
theorem ti95 : TIOK Tryd.prog 95 ⟨.other, 1, 8, [.nilf], none⟩ := ⟨⟨_, Tryd.underlying95, (fun f h => by cases h), (fun n e h => by cases h)⟩, Tryd.t95, _, by kernel_rfl, rfl, rfl, rfl, ⟨z_nilf, trivial⟩⟩
theorem ti96 : TIOK Tryd.prog 96 ⟨.struct [(0, 9), (1, 22), (2, 37)], 8, 48, [.str [], .flt .f32 0, .flt .f32 0, .flt .f32 0, .flt .f32 0, .flt .f32 0, .flt .f32 0, .flt .f32 0], none⟩ := ⟨⟨_, Tryd.underlying96, rfl⟩, Tryd.t96, _, by kernel_rfl, rfl, rfl, rfl, ⟨z_str rfl, z_f32, z_f32, z_f32, z_f32, z_f32, z_f32, z_f32, trivial⟩⟩
theorem ti97 : TIOK Tryd.prog 97 ⟨.struct [(0, 9), (1, 22), (2, 37)], 8, 48, [.str [], .flt .f32 0, .flt .f32 0, .flt .f32 0, .flt .f32 0, .flt .f32 0, .flt .f32 0, .flt .f32 0], some .entry⟩ := ⟨⟨_, Tryd.underlying97, rfl⟩, Tryd.t97, _, by kernel_rfl, rfl, rfl, rfl, ⟨z_str rfl, z_f32, z_f32, z_f32, z_f32, z_f32, z_f32, z_f32, trivial⟩⟩
theorem ti98 : TIOK Tryd.prog 98 ⟨.other, 1, 8, [.nilf], none⟩ := ⟨⟨_, Tryd.underlying98, (fun f h => by cases h), (fun n e h => by cases h)⟩, Tryd.t98, _, by kernel_rfl, rfl, rfl, rfl, ⟨z_nilf, trivial⟩⟩
theorem ti99 : TIOK Tryd.prog 99 ⟨.other, 1, 8, [.nilf], none⟩ := ⟨⟨_, Tryd.underlying99, (fun f h => by cases h), (fun n e h => by cases h)⟩, Tryd.t99, _, by kernel_rfl, rfl, rfl, rfl, ⟨z_nilf, trivial⟩⟩
theorem ti100 : TIOK Tryd.prog 100 ⟨.struct [(0, 9), (1, 22), (2, 39)], 8, 48, [.str [], .flt .f32 0, .flt .f32 0, .flt .f32 0, .flt .f32 0, .flt .f32 0, .flt .f32 0, .flt .f32 0], none⟩ := ⟨⟨_, Tryd.underlying100, rfl⟩, Tryd.t100, _, by kernel_rfl, rfl, rfl, rfl, ⟨z_str rfl, z_f32, z_f32, z_f32, z_f32, z_f32, z_f32, z_f32, trivial⟩⟩
theorem ti101 : TIOK Tryd.prog 101 ⟨.struct [(0, 9), (1, 22), (2, 39)], 8, 48, [.str [], .flt .f32 0, .flt .f32 0, .flt .f32 0, .flt .f32 0, .flt .f32 0, .flt .f32 0, .flt .f32 0], some .entry⟩ := ⟨⟨_, Tryd.underlying101, rfl⟩, Tryd.t101, _, by kernel_rfl, rfl, rfl, rfl, ⟨z_str rfl, z_f32, z_f32, z_f32, z_f32, z_f32, z_f32, z_f32, trivial⟩⟩
theorem ti102 : TIOK Tryd.prog 102 ⟨.other, 1, 8, [.nilf], none⟩ := ⟨⟨_, Tryd.underlying102, (fun f h => by cases h), (fun n e h => by cases h)⟩, Tryd.t102, _, by kernel_rfl, rfl, rfl, rfl, ⟨z_nilf, trivial⟩⟩
theorem ti103 : TIOK Tryd.prog 103 ⟨.other, 1, 8, [.nilf], none⟩ := ⟨⟨_, Tryd.underlying103, (fun f h => by cases h), (fun n e h => by cases h)⟩, Tryd.t103, _, by kernel_rfl, rfl, rfl, rfl, ⟨z_nilf, trivial⟩⟩
theorem ti105 : TIOK Tryd.prog 105 ⟨.other, 1, 8, [.nilf], none⟩ := ⟨⟨_, Tryd.underlying105, (fun f h => by cases h), (fun n e h => by cases h)⟩, Tryd.t105, _, by kernel_rfl, rfl, rfl, rfl, ⟨z_nilf, trivial⟩⟩
theorem ti106 : TIOK Tryd.prog 106 ⟨.other, 1, 8, [.nilf], none⟩ := ⟨⟨_, Tryd.underlying106, (fun f h => by cases h), (fun n e h => by cases h)⟩, Tryd.t106, _, by kernel_rfl, rfl, rfl, rfl, ⟨z_nilf, trivial⟩⟩
theorem ti107 : TIOK Tryd.prog 107 ⟨.flt .f64, 1, 8, [.flt .f64 0], some (.flt .f64)⟩ := ⟨Tryd.underlying107, Tryd.t107, _, by kernel_rfl, rfl, rfl, rfl, ⟨z_f64, trivial⟩⟩
theorem ti108 : TIOK Tryd.prog 108 ⟨.other, 1, 8, [.nilf], none⟩ := ⟨⟨_, Tryd.underlying108, (fun f h => by cases h), (fun n e h => by cases h)⟩, Tryd.t108, _, by kernel_rfl, rfl, rfl, rfl, ⟨z_nilf, trivial⟩⟩
theorem ti109 : TIOK Tryd.prog 109 ⟨.other, 1, 8, [.nilf], none⟩ := ⟨⟨_, Tryd.underlying109, (fun f h => by cases h), (fun n e h => by cases h)⟩, Tryd.t109, _, by kernel_rfl, rfl, rfl, rfl, ⟨z_nilf, trivial⟩⟩
theorem ti110 : TIOK Tryd.prog 110 ⟨.ptr 113, 1, 8, [.nilp], none⟩ := ⟨Tryd.underlying110, Tryd.t110, _, by kernel_rfl, rfl, rfl, rfl, ⟨z_nilp, trivial⟩⟩
theorem ti111 : TIOK Tryd.prog 111 ⟨.slc 5, 1, 24, [.nils], none⟩ := ⟨Tryd.underlying111, Tryd.t111, _, by kernel_rfl, rfl, rfl, rfl, ⟨z_nils, trivial⟩⟩
theorem ti112 : TIOK Tryd.prog 112 ⟨.struct [(0, 110), (1, 111)], 2, 32, [.nilp, .nils], none⟩ := ⟨⟨_, Tryd.underlying112, rfl⟩, Tryd.t112, _, by kernel_rfl, rfl, rfl, rfl, ⟨z_nilp, z_nils, trivial⟩⟩
theorem ti113 : TIOK Tryd.prog 113 ⟨.struct [(0, 110), (1, 111)], 2, 32, [.nilp, .nils], none⟩ := ⟨⟨_, Tryd.underlying113, rfl⟩, Tryd.t113, _, by kernel_rfl, rfl, rfl, rfl, ⟨z_nilp, z_nils, trivial⟩⟩
theorem ti114 : TIOK Tryd.prog 114 ⟨.other, 1, 8, [.nilf], none⟩ := ⟨⟨_, Tryd.underlying114, (fun f h => by cases h), (fun n e h => by cases h)⟩, Tryd.t114, _, by kernel_rfl, rfl, rfl, rfl, ⟨z_nilf, trivial⟩⟩
theorem ti115 : TIOK Tryd.prog 115 ⟨.other, 1, 8, [.nilf], none⟩ := ⟨⟨_, Tryd.underlying115, (fun f h => by cases h), (fun n e h => by cases h)⟩, Tryd.t115, _, by kernel_rfl, rfl, rfl, rfl, ⟨z_nilf, trivial⟩⟩
theorem ti116 : TIOK Tryd.prog 116 ⟨.other, 1, 8, [.nilf], none⟩ := ⟨⟨_, Tryd.underlying116, (fun f h => by cases h), (fun n e h => by cases h)⟩, Tryd.t116, _, by kernel_rfl, rfl, rfl, rfl, ⟨z_nilf, trivial⟩⟩
theorem ti117 : TIOK Tryd.prog 117 ⟨.other, 1, 16, [.nili], none⟩ := ⟨⟨_, Tryd.underlying117, (fun f h => by cases h), (fun n e h => by cases h)⟩, Tryd.t117, _, by kernel_rfl, rfl, rfl, rfl, ⟨z_nili, trivial⟩⟩
theorem ti118 : TIOK Tryd.prog 118 ⟨.other, 1, 16, [.nili], none⟩ := ⟨⟨_, Tryd.underlying118, (fun f h => by cases h), (fun n e h => by cases h)⟩, Tryd.t118, _, by kernel_rfl, rfl, rfl, rfl, ⟨z_nili, trivial⟩⟩
theorem ti120 : TIOK Tryd.prog 120 ⟨.other, 1, 8, [.nilf], none⟩ := ⟨⟨_, Tryd.underlying120, (fun f h => by cases h), (fun n e h => by cases h)⟩, Tryd.t120, _, by kernel_rfl, rfl, rfl, rfl, ⟨z_nilf, trivial⟩⟩
theorem ti121 : TIOK Tryd.prog 121 ⟨.other, 1, 8, [.nilf], none⟩ := ⟨⟨_, Tryd.underlying121, (fun f h => by cases h), (fun n e h => by cases h)⟩, Tryd.t121, _, by kernel_rfl, rfl, rfl, rfl, ⟨z_nilf, trivial⟩⟩
theorem ti122 : TIOK Tryd.prog 122 ⟨.other, 1, 8, [.nilf], none⟩ := ⟨⟨_, Tryd.underlying122, (fun f h => by cases h), (fun n e h => by cases h)⟩, Tryd.t122, _, by kernel_rfl, rfl, rfl, rfl, ⟨z_nilf, trivial⟩⟩
theorem ti124 : TIOK Tryd.prog 124 ⟨.other, 1, 8, [.nilf], none⟩ := ⟨⟨_, Tryd.underlying124, (fun f h => by cases h), (fun n e h => by cases h)⟩, Tryd.t124, _, by kernel_rfl, rfl, rfl, rfl, ⟨z_nilf, trivial⟩⟩
theorem ti126 : TIOK Tryd.prog 126 ⟨.other, 1, 8, [.nilf], none⟩ := ⟨⟨_, Tryd.underlying126, (fun f h => by cases h), (fun n e h => by cases h)⟩, Tryd.t126, _, by kernel_rfl, rfl, rfl, rfl, ⟨z_nilf, trivial⟩⟩
theorem ti127 : TIOK Tryd.prog 127 ⟨.other, 1, 8, [.nilf], none⟩ := ⟨⟨_, Tryd.underlying127, (fun f h => by cases h), (fun n e h => by cases h)⟩, Tryd.t127, _, by kernel_rfl, rfl, rfl, rfl, ⟨z_nilf, trivial⟩⟩
theorem ti129 : TIOK Tryd.prog 129 ⟨.other, 1, 8, [.nilf], none⟩ := ⟨⟨_, Tryd.underlying129, (fun f h => by cases h), (fun n e h => by cases h)⟩, Tryd.t129, _, by kernel_rfl, rfl, rfl, rfl, ⟨z_nilf, trivial⟩⟩
theorem ti131 : TIOK Tryd.prog 131 ⟨.other, 1, 8, [.nilf], none⟩ := ⟨⟨_, Tryd.underlying131, (fun f h => by cases h), (fun n e h => by cases h)⟩, Tryd.t131, _, by kernel_rfl, rfl, rfl, rfl, ⟨z_nilf, trivial⟩⟩
theorem ti132 : TIOK Tryd.prog 132 ⟨.other, 1, 8, [.nilf], none⟩ := ⟨⟨_, Tryd.underlying132, (fun f h => by cases h), (fun n e h => by cases h)⟩, Tryd.t132, _, by kernel_rfl, rfl, rfl, rfl, ⟨z_nilf, trivial⟩⟩
theorem ti133 : TIOK Tryd.prog 133 ⟨.other, 1, 8, [.nilf], none⟩ := ⟨⟨_, Tryd.underlying133, (fun f h => by cases h), (fun n e h => by cases h)⟩, Tryd.t133, _, by kernel_rfl, rfl, rfl, rfl, ⟨z_nilf, trivial⟩⟩
theorem ti134 : TIOK Tryd.prog 134 ⟨.other, 1, 8, [.nilf], none⟩ := ⟨⟨_, Tryd.underlying134, (fun f h => by cases h), (fun n e h => by cases h)⟩, Tryd.t134, _, by kernel_rfl, rfl, rfl, rfl, ⟨z_nilf, trivial⟩⟩
theorem ti135 : TIOK Tryd.prog 135 ⟨.other, 1, 8, [.nilf], none⟩ := ⟨⟨_, Tryd.underlying135, (fun f h => by cases h), (fun n e h => by cases h)⟩, Tryd.t135, _, by kernel_rfl, rfl, rfl, rfl, ⟨z_nilf, trivial⟩⟩
theorem ti136 : TIOK Tryd.prog 136 ⟨.other, 1, 8, [.nilf], none⟩ := ⟨⟨_, Tryd.underlying136, (fun f h => by cases h), (fun n e h => by cases h)⟩, Tryd.t136, _, by kernel_rfl, rfl, rfl, rfl, ⟨z_nilf, trivial⟩⟩
theorem ti137 : TIOK Tryd.prog 137 ⟨.ptr 89, 1, 8, [.nilp], none⟩ := ⟨Tryd.underlying137, Tryd.t137, _, by kernel_rfl, rfl, rfl, rfl, ⟨z_nilp, trivial⟩⟩
theorem ti138 : TIOK Tryd.prog 138 ⟨.other, 1, 8, [.nilf], none⟩ := ⟨⟨_, Tryd.underlying138, (fun f h => by cases h), (fun n e h => by cases h)⟩, Tryd.t138, _, by kernel_rfl, rfl, rfl, rfl, ⟨z_nilf, trivial⟩⟩
theorem ti139 : TIOK Tryd.prog 139 ⟨.other, 1, 8, [.nilf], none⟩ := ⟨⟨_, Tryd.underlying139, (fun f h => by cases h), (fun n e h => by cases h)⟩, Tryd.t139, _, by kernel_rfl, rfl, rfl, rfl, ⟨z_nilf, trivial⟩⟩
theorem ti140 : TIOK Tryd.prog 140 ⟨.other, 1, 8, [.nilf], none⟩ := ⟨⟨_, Tryd.underlying140, (fun f h => by cases h), (fun n e h => by cases h)⟩, Tryd.t140, _, by kernel_rfl, rfl, rfl, rfl, ⟨z_nilf, trivial⟩⟩
theorem ti141 : TIOK Tryd.prog 141 ⟨.other, 1, 8, [.nilf], none⟩ := ⟨⟨_, Tryd.underlying141, (fun f h => by cases h), (fun n e h => by cases h)⟩, Tryd.t141, _, by kernel_rfl, rfl, rfl, rfl, ⟨z_nilf, trivial⟩⟩
theorem ti142 : TIOK Tryd.prog 142 ⟨.other, 1, 8, [.nilf], none⟩ := ⟨⟨_, Tryd.underlying142, (fun f h => by cases h), (fun n e h => by cases h)⟩, Tryd.t142, _, by kernel_rfl, rfl, rfl, rfl, ⟨z_nilf, trivial⟩⟩
theorem ti143 : TIOK Tryd.prog 143 ⟨.other, 1, 8, [.nilf], none⟩ := ⟨⟨_, Tryd.underlying143, (fun f h => by cases h), (fun n e h => by cases h)⟩, Tryd.t143, _, by kernel_rfl, rfl, rfl, rfl, ⟨z_nilf, trivial⟩⟩
theorem ti144 : TIOK Tryd.prog 144 ⟨.ptr 101, 1, 8, [.nilp], none⟩ := ⟨Tryd.underlying144, Tryd.t144, _, by kernel_rfl, rfl, rfl, rfl, ⟨z_nilp, trivial⟩⟩
theorem ti145 : TIOK Tryd.prog 145 ⟨.other, 1, 8, [.nilf], none⟩ := ⟨⟨_, Tryd.underlying145, (fun f h => by cases h), (fun n e h => by cases h)⟩, Tryd.t145, _, by kernel_rfl, rfl, rfl, rfl, ⟨z_nilf, trivial⟩⟩
theorem ti147 : TIOK Tryd.prog 147 ⟨.other, 1, 8, [.nilf], none⟩ := ⟨⟨_, Tryd.underlying147, (fun f h => by cases h), (fun n e h => by cases h)⟩, Tryd.t147, _, by kernel_rfl, rfl, rfl, rfl, ⟨z_nilf, trivial⟩⟩
theorem ti148 : TIOK Tryd.prog 148 ⟨.other, 1, 8, [.nilf], none⟩ := ⟨⟨_, Tryd.underlying148, (fun f h => by cases h), (fun n e h => by cases h)⟩, Tryd.t148, _, by kernel_rfl, rfl, rfl, rfl, ⟨z_nilf, trivial⟩⟩
theorem ti149 : TIOK Tryd.prog 149 ⟨.other, 1, 8, [.nilf], none⟩ := ⟨⟨_, Tryd.underlying149, (fun f h => by cases h), (fun n e h => by cases h)⟩, Tryd.t149, _, by kernel_rfl, rfl, rfl, rfl, ⟨z_nilf, trivial⟩⟩
theorem ti150 : TIOK Tryd.prog 150 ⟨.other, 1, 8, [.nilf], none⟩ := ⟨⟨_, Tryd.underlying150, (fun f h => by cases h), (fun n e h => by cases h)⟩, Tryd.t150, _, by kernel_rfl, rfl, rfl, rfl, ⟨z_nilf, trivial⟩⟩
theorem ti151 : TIOK Tryd.prog 151 ⟨.ptr 5, 1, 8, [.nilp], none⟩ := ⟨Tryd.underlying151, Tryd.t151, _, by kernel_rfl, rfl, rfl, rfl, ⟨z_nilp, trivial⟩⟩
theorem ti152 : TIOK Tryd.prog 152 ⟨.other, 1, 8, [.nilf], none⟩ := ⟨⟨_, Tryd.underlying152, (fun f h => by cases h), (fun n e h => by cases h)⟩, Tryd.t152, _, by kernel_rfl, rfl, rfl, rfl, ⟨z_nilf, trivial⟩⟩
theorem ti153 : TIOK Tryd.prog 153 ⟨.other, 1, 8, [.nilf], none⟩ := ⟨⟨_, Tryd.underlying153, (fun f h => by cases h), (fun n e h => by cases h)⟩, Tryd.t153, _, by kernel_rfl, rfl, rfl, rfl, ⟨z_nilf, trivial⟩⟩
theorem ti154 : TIOK Tryd.prog 154 ⟨.other, 1, 8, [.nilf], none⟩ := ⟨⟨_, Tryd.underlying154, (fun f h => by cases h), (fun n e h => by cases h)⟩, Tryd.t154, _, by kernel_rfl, rfl, rfl, rfl, ⟨z_nilf, trivial⟩⟩
theorem ti155 : TIOK Tryd.prog 155 ⟨.other, 1, 8, [.nilf], none⟩ := ⟨⟨_, Tryd.underlying155, (fun f h => by cases h), (fun n e h => by cases h)⟩, Tryd.t155, _, by kernel_rfl, rfl, rfl, rfl, ⟨z_nilf, trivial⟩⟩
theorem ti156 : TIOK Tryd.prog 156 ⟨.other, 1, 8, [.nilf], none⟩ := ⟨⟨_, Tryd.underlying156, (fun f h => by cases h), (fun n e h => by cases h)⟩, Tryd.t156, _, by kernel_rfl, rfl, rfl, rfl, ⟨z_nilf, trivial⟩⟩
theorem ti157 : TIOK Tryd.prog 157 ⟨.int .u64, 1, 8, [.int .u64 0], some (.int .u64)⟩ := ⟨Tryd.underlying157, Tryd.t157, _, by kernel_rfl, rfl, rfl, rfl, ⟨z_int, trivial⟩⟩
theorem ti158 : TIOK Tryd.prog 158 ⟨.other, 1, 8, [.nilf], none⟩ := ⟨⟨_, Tryd.underlying158, (fun f h => by cases h), (fun n e h => by cases h)⟩, Tryd.t158, _, by kernel_rfl, rfl, rfl, rfl, ⟨z_nilf, trivial⟩⟩
theorem ti159 : TIOK Tryd.prog 159 ⟨.other, 1, 8, [.nilf], none⟩ := ⟨⟨_, Tryd.underlying159, (fun f h => by cases h), (fun n e h => by cases h)⟩, Tryd.t159, _, by kernel_rfl, rfl, rfl, rfl, ⟨z_nilf, trivial⟩⟩
theorem ti160 : TIOK Tryd.prog 160 ⟨.other, 1, 8, [.nilf], none⟩ := ⟨⟨_, Tryd.underlying160, (fun f h => by cases h), (fun n e h => by cases h)⟩, Tryd.t160, _, by kernel_rfl, rfl, rfl, rfl, ⟨z_nilf, trivial⟩⟩
theorem ti161 : TIOK Tryd.prog 161 ⟨.other, 1, 8, [.nilf], none⟩ := ⟨⟨_, Tryd.underlying161, (fun f h => by cases h), (fun n e h => by cases h)⟩, Tryd.t161, _, by kernel_rfl, rfl, rfl, rfl, ⟨z_nilf, trivial⟩⟩
theorem ti162 : TIOK Tryd.prog 162 ⟨.int .u64, 1, 8, [.int .u64 0], some (.int .u64)⟩ := ⟨Tryd.underlying162, Tryd.t162, _, by kernel_rfl, rfl, rfl, rfl, ⟨z_int, trivial⟩⟩
theorem ti164 : TIOK Tryd.prog 164 ⟨.other, 1, 8, [.nilf], none⟩ := ⟨⟨_, Tryd.underlying164, (fun f h => by cases h), (fun n e h => by cases h)⟩, Tryd.t164, _, by kernel_rfl, rfl, rfl, rfl, ⟨z_nilf, trivial⟩⟩
theorem ti165 : TIOK Tryd.prog 165 ⟨.other, 1, 8, [.nilf], none⟩ := ⟨⟨_, Tryd.underlying165, (fun f h => by cases h), (fun n e h => by cases h)⟩, Tryd.t165, _, by kernel_rfl, rfl, rfl, rfl, ⟨z_nilf, trivial⟩⟩
theorem ti166 : TIOK Tryd.prog 166 ⟨.int .u32, 1, 4, [.int .u32 0], some (.int .u32)⟩ := ⟨Tryd.underlying166, Tryd.t166, _, by kernel_rfl, rfl, rfl, rfl, ⟨z_int, trivial⟩⟩
theorem ti167 : TIOK Tryd.prog 167 ⟨.other, 1, 8, [.nilp], none⟩ := ⟨⟨_, Tryd.underlying167, (fun f h => by cases h), (fun n e h => by cases h)⟩, Tryd.t167, _, by kernel_rfl, rfl, rfl, rfl, ⟨z_nilp, trivial⟩⟩
theorem ti168 : TIOK Tryd.prog 168 ⟨.other, 1, 8, [.nilf], none⟩ := ⟨⟨_, Tryd.underlying168, (fun f h => by cases h), (fun n e h => by cases h)⟩, Tryd.t168, _, by kernel_rfl, rfl, rfl, rfl, ⟨z_nilf, trivial⟩⟩
theorem ti169 : TIOK Tryd.prog 169 ⟨.other, 1, 8, [.nilf], none⟩ := ⟨⟨_, Tryd.underlying169, (fun f h => by cases h), (fun n e h => by cases h)⟩, Tryd.t169, _, by kernel_rfl, rfl, rfl, rfl, ⟨z_nilf, trivial⟩⟩
theorem ti170 : TIOK Tryd.prog 170 ⟨.other, 1, 8, [.nilf], none⟩ := ⟨⟨_, Tryd.underlying170, (fun f h => by cases h), (fun n e h => by cases h)⟩, Tryd.t170, _, by kernel_rfl, rfl, rfl, rfl, ⟨z_nilf, trivial⟩⟩
theorem ti172 : TIOK Tryd.prog 172 ⟨.other, 1, 8, [.nilf], none⟩ := ⟨⟨_, Tryd.underlying172, (fun f h => by cases h), (fun n e h => by cases h)⟩, Tryd.t172, _, by kernel_rfl, rfl, rfl, rfl, ⟨z_nilf, trivial⟩⟩
theorem ti173 : TIOK Tryd.prog 173 ⟨.other, 1, 8, [.nilf], none⟩ := ⟨⟨_, Tryd.underlying173, (fun f h => by cases h), (fun n e h => by cases h)⟩, Tryd.t173, _, by kernel_rfl, rfl, rfl, rfl, ⟨z_nilf, trivial⟩⟩
theorem ti174 : TIOK Tryd.prog 174 ⟨.other, 1, 8, [.nilf], none⟩ := ⟨⟨_, Tryd.underlying174, (fun f h => by cases h), (fun n e h => by cases h)⟩, Tryd.t174, _, by kernel_rfl, rfl, rfl, rfl, ⟨z_nilf, trivial⟩⟩
theorem ti175 : TIOK Tryd.prog 175 ⟨.other, 1, 8, [.nilf], none⟩ := ⟨⟨_, Tryd.underlying175, (fun f h => by cases h), (fun n e h => by cases h)⟩, Tryd.t175, _, by kernel_rfl, rfl, rfl, rfl, ⟨z_nilf, trivial⟩⟩
theorem ti176 : TIOK Tryd.prog 176 ⟨.other, 1, 8, [.nilf], none⟩ := ⟨⟨_, Tryd.underlying176, (fun f h => by cases h), (fun n e h => by cases h)⟩, Tryd.t176, _, by kernel_rfl, rfl, rfl, rfl, ⟨z_nilf, trivial⟩⟩
theorem ti177 : TIOK Tryd.prog 177 ⟨.other, 1, 8, [.nilf], none⟩ := ⟨⟨_, Tryd.underlying177, (fun f h => by cases h), (fun n e h => by cases h)⟩, Tryd.t177, _, by kernel_rfl, rfl, rfl, rfl, ⟨z_nilf, trivial⟩⟩
theorem ti178 : TIOK Tryd.prog 178 ⟨.arr 24 5, 24, 24, [.int .u8 0, .int .u8 0, .int .u8 0, .int .u8 0, .int .u8 0, .int .u8 0, .int .u8 0, .int .u8 0, .int .u8 0, .int .u8 0, .int .u8 0, .int .u8 0, .int .u8 0, .int .u8 0, .int .u8 0, .int .u8 0, .int .u8 0, .int .u8 0, .int .u8 0, .int .u8 0, .int .u8 0, .int .u8 0, .int .u8 0, .int .u8 0], none⟩ := ⟨Tryd.underlying178, Tryd.t178, _, by kernel_rfl, rfl, rfl, rfl, ⟨z_int, z_int, z_int, z_int, z_int, z_int, z_int, z_int, z_int, z_int, z_int, z_int, z_int, z_int, z_int, z_int, z_int, z_int, z_int, z_int, z_int, z_int, z_int, z_int, trivial⟩⟩
theorem ti179 : TIOK Tryd.prog 179 ⟨.other, 1, 8, [.nilf], none⟩ := ⟨⟨_, Tryd.underlying179, (fun f h => by cases h), (fun n e h => by cases h)⟩, Tryd.t179, _, by kernel_rfl, rfl, rfl, rfl, ⟨z_nilf, trivial⟩⟩
theorem ti180 : TIOK Tryd.prog 180 ⟨.other, 1, 8, [.nilf], none⟩ := ⟨⟨_, Tryd.underlying180, (fun f h => by cases h), (fun n e h => by cases h)⟩, Tryd.t180, _, by kernel_rfl, rfl, rfl, rfl, ⟨z_nilf, trivial⟩⟩
theorem ti182 : TIOK Tryd.prog 182 ⟨.other, 1, 8, [.nilf], none⟩ := ⟨⟨_, Tryd.underlying182, (fun f h => by cases h), (fun n e h => by cases h)⟩, Tryd.t182, _, by kernel_rfl, rfl, rfl, rfl, ⟨z_nilf, trivial⟩⟩
theorem ti183 : TIOK Tryd.prog 183 ⟨.other, 1, 8, [.nilf], none⟩ := ⟨⟨_, Tryd.underlying183, (fun f h => by cases h), (fun n e h => by cases h)⟩, Tryd.t183, _, by kernel_rfl, rfl, rfl, rfl, ⟨z_nilf, trivial⟩⟩
theorem ti185 : TIOK Tryd.prog 185 ⟨.other, 1, 8, [.nilf], none⟩ := ⟨⟨_, Tryd.underlying185, (fun f h => by cases h), (fun n e h => by cases h)⟩, Tryd.t185, _, by kernel_rfl, rfl, rfl, rfl, ⟨z_nilf, trivial⟩⟩
theorem ti187 : TIOK Tryd.prog 187 ⟨.other, 1, 8, [.nilf], none⟩ := ⟨⟨_, Tryd.underlying187, (fun f h => by cases h), (fun n e h => by cases h)⟩, Tryd.t187, _, by kernel_rfl, rfl, rfl, rfl, ⟨z_nilf, trivial⟩⟩
theorem ti188 : TIOK Tryd.prog 188 ⟨.other, 1, 8, [.nilf], none⟩ := ⟨⟨_, Tryd.underlying188, (fun f h => by cases h), (fun n e h => by cases h)⟩, Tryd.t188, _, by kernel_rfl, rfl, rfl, rfl, ⟨z_nilf, trivial⟩⟩
theorem ti189 : TIOK Tryd.prog 189 ⟨.other, 1, 8, [.nilf], none⟩ := ⟨⟨_, Tryd.underlying189, (fun f h => by cases h), (fun n e h => by cases h)⟩, Tryd.t189, _, by kernel_rfl, rfl, rfl, rfl, ⟨z_nilf, trivial⟩⟩
theorem ti190 : TIOK Tryd.prog 190 ⟨.int .i64, 1, 8, [.int .i64 0], some (.int .i64)⟩ := ⟨Tryd.underlying190, Tryd.t190, _, by kernel_rfl, rfl, rfl, rfl, ⟨z_int, trivial⟩⟩
theorem ti191 : TIOK Tryd.prog 191 ⟨.other, 1, 8, [.nilf], none⟩ := ⟨⟨_, Tryd.underlying191, (fun f h => by cases h), (fun n e h => by cases h)⟩, Tryd.t191, _, by kernel_rfl, rfl, rfl, rfl, ⟨z_nilf, trivial⟩⟩
theorem ti192 : TIOK Tryd.prog 192 ⟨.ptr 208, 1, 8, [.nilp], none⟩ := ⟨Tryd.underlying192, Tryd.t192, _, by kernel_rfl, rfl, rfl, rfl, ⟨z_nilp, trivial⟩⟩
theorem ti193 : TIOK Tryd.prog 193 ⟨.other, 1, 8, [.nilf], none⟩ := ⟨⟨_, Tryd.underlying193, (fun f h => by cases h), (fun n e h => by cases h)⟩, Tryd.t193, _, by kernel_rfl, rfl, rfl, rfl, ⟨z_nilf, trivial⟩⟩
theorem ti194 : TIOK Tryd.prog 194 ⟨.other, 1, 8, [.nilf], none⟩ := ⟨⟨_, Tryd.underlying194, (fun f h => by cases h), (fun n e h => by cases h)⟩, Tryd.t194, _, by kernel_rfl, rfl, rfl, rfl, ⟨z_nilf, trivial⟩⟩
theorem ti195 : TIOK Tryd.prog 195 ⟨.other, 1, 8, [.nilf], none⟩ := ⟨⟨_, Tryd.underlying195, (fun f h => by cases h), (fun n e h => by cases h)⟩, Tryd.t195, _, by kernel_rfl, rfl, rfl, rfl, ⟨z_nilf, trivial⟩⟩
theorem ti196 : TIOK Tryd.prog 196 ⟨.other, 1, 8, [.nilf], none⟩ := ⟨⟨_, Tryd.underlying196, (fun f h => by cases h), (fun n e h => by cases h)⟩, Tryd.t196, _, by kernel_rfl, rfl, rfl, rfl, ⟨z_nilf, trivial⟩⟩
theorem ti197 : TIOK Tryd.prog 197 ⟨.arr 20 162, 20, 160, [.int .u64 0, .int .u64 0, .int .u64 0, .int .u64 0, .int .u64 0, .int .u64 0, .int .u64 0, .int .u64 0, .int .u64 0, .int .u64 0, .int .u64 0, .int .u64 0, .int .u64 0, .int .u64 0, .int .u64 0, .int .u64 0, .int .u64 0, .int .u64 0, .int .u64 0, .int .u64 0], none⟩ := ⟨Tryd.underlying197, Tryd.t197, _, by kernel_rfl, rfl, rfl, rfl, ⟨z_int, z_int, z_int, z_int, z_int, z_int, z_int, z_int, z_int, z_int, z_int, z_int, z_int, z_int, z_int, z_int, z_int, z_int, z_int, z_int, trivial⟩⟩
theorem ti199 : TIOK Tryd.prog 199 ⟨.other, 1, 8, [.nilf], none⟩ := ⟨⟨_, Tryd.underlying199, (fun f h => by cases h), (fun n e h => by cases h)⟩, Tryd.t199, _, by kernel_rfl, rfl, rfl, rfl, ⟨z_nilf, trivial⟩⟩
theorem ti200 : TIOK Tryd.prog 200 ⟨.other, 1, 8, [.nilf], none⟩ := ⟨⟨_, Tryd.underlying200, (fun f h => by cases h), (fun n e h => by cases h)⟩, Tryd.t200, _, by kernel_rfl, rfl, rfl, rfl, ⟨z_nilf, trivial⟩⟩
theorem ti201 : TIOK Tryd.prog 201 ⟨.other, 1, 8, [.nilf], none⟩ := ⟨⟨_, Tryd.underlying201, (fun f h => by cases h), (fun n e h => by cases h)⟩, Tryd.t201, _, by kernel_rfl, rfl, rfl, rfl, ⟨z_nilf, trivial⟩⟩
theorem ti203 : TIOK Tryd.prog 203 ⟨.other, 1, 8, [.nilf], none⟩ := ⟨⟨_, Tryd.underlying203, (fun f h => by cases h), (fun n e h => by cases h)⟩, Tryd.t203, _, by kernel_rfl, rfl, rfl, rfl, ⟨z_nilf, trivial⟩⟩
theorem ti204 : TIOK Tryd.prog 204 ⟨.other, 1, 8, [.nilf], none⟩ := ⟨⟨_, Tryd.underlying204, (fun f h => by cases h), (fun n e h => by cases h)⟩, Tryd.t204, _, by kernel_rfl, rfl, rfl, rfl, ⟨z_nilf, trivial⟩⟩
theorem ti205 : TIOK Tryd.prog 205 ⟨.other, 1, 8, [.nilf], none⟩ := ⟨⟨_, Tryd.underlying205, (fun f h => by cases h), (fun n e h => by cases h)⟩, Tryd.t205, _, by kernel_rfl, rfl, rfl, rfl, ⟨z_nilf, trivial⟩⟩
theorem ti206 : TIOK Tryd.prog 206 ⟨.other, 1, 8, [.nilf], none⟩ := ⟨⟨_, Tryd.underlying206, (fun f h => by cases h), (fun n e h => by cases h)⟩, Tryd.t206, _, by kernel_rfl, rfl, rfl, rfl, ⟨z_nilf, trivial⟩⟩
theorem ti207 : TIOK Tryd.prog 207 ⟨.struct [(0, 9), (1, 9), (2, 118)], 3, 48, [.str [], .str [], .nili], none⟩ := ⟨⟨_, Tryd.underlying207, rfl⟩, Tryd.t207, _, by kernel_rfl, rfl, rfl, rfl, ⟨z_str rfl, z_str rfl, z_nili, trivial⟩⟩
theorem ti208 : TIOK Tryd.prog 208 ⟨.struct [(0, 9), (1, 9), (2, 118)], 3, 48, [.str [], .str [], .nili], none⟩ := ⟨⟨_, Tryd.underlying208, rfl⟩, Tryd.t208, _, by kernel_rfl, rfl, rfl, rfl, ⟨z_str rfl, z_str rfl, z_nili, trivial⟩⟩
theorem ti209 : TIOK Tryd.prog 209 ⟨.other, 1, 8, [.nilf], none⟩ := ⟨⟨_, Tryd.underlying209, (fun f h => by cases h), (fun n e h => by cases h)⟩, Tryd.t209, _, by kernel_rfl, rfl, rfl, rfl, ⟨z_nilf, trivial⟩⟩
theorem ti210 : TIOK Tryd.prog 210 ⟨.other, 1, 8, [.nilf], none⟩ := ⟨⟨_, Tryd.underlying210, (fun f h => by cases h), (fun n e h => by cases h)⟩, Tryd.t210, _, by kernel_rfl, rfl, rfl, rfl, ⟨z_nilf, trivial⟩⟩
theorem ti211 : TIOK Tryd.prog 211 ⟨.ptr 213, 1, 8, [.nilp], none⟩ := ⟨Tryd.underlying211, Tryd.t211, _, by kernel_rfl, rfl, rfl, rfl, ⟨z_nilp, trivial⟩⟩
theorem ti212 : TIOK Tryd.prog 212 ⟨.struct [(0, 9)], 1, 16, [.str []], none⟩ := ⟨⟨_, Tryd.underlying212, rfl⟩, Tryd.t212, _, by kernel_rfl, rfl, rfl, rfl, ⟨z_str rfl, trivial⟩⟩
theorem ti213 : TIOK Tryd.prog 213 ⟨.struct [(0, 9)], 1, 16, [.str []], none⟩ := ⟨⟨_, Tryd.underlying213, rfl⟩, Tryd.t213, _, by kernel_rfl, rfl, rfl, rfl, ⟨z_str rfl, trivial⟩⟩
theorem ti214 : TIOK Tryd.prog 214 ⟨.arr 32 5, 32, 32, [.int .u8 0, .int .u8 0, .int .u8 0, .int .u8 0, .int .u8 0, .int .u8 0, .int .u8 0, .int .u8 0, .int .u8 0, .int .u8 0, .int .u8 0, .int .u8 0, .int .u8 0, .int .u8 0, .int .u8 0, .int .u8 0, .int .u8 0, .int .u8 0, .int .u8 0, .int .u8 0, .int .u8 0, .int .u8 0, .int .u8 0, .int .u8 0, .int .u8 0, .int .u8 0, .int .u8 0, .int .u8 0, .int .u8 0, .int .u8 0, .int .u8 0, .int .u8 0], none⟩ := ⟨Tryd.underlying214, Tryd.t214, _, by kernel_rfl, rfl, rfl, rfl, ⟨z_int, z_int, z_int, z_int, z_int, z_int, z_int, z_int, z_int, z_int, z_int, z_int, z_int, z_int, z_int, z_int, z_int, z_int, z_int, z_int, z_int, z_int, z_int, z_int, z_int, z_int, z_int, z_int, z_int, z_int, z_int, z_int, trivial⟩⟩
theorem ti215 : TIOK Tryd.prog 215 ⟨.arr 64 5, 64, 64, [.int .u8 0, .int .u8 0, .int .u8 0, .int .u8 0, .int .u8 0, .int .u8 0, .int .u8 0, .int .u8 0, .int .u8 0, .int .u8 0, .int .u8 0, .int .u8 0, .int .u8 0, .int .u8 0, .int .u8 0, .int .u8 0, .int .u8 0, .int .u8 0, .int .u8 0, .int .u8 0, .int .u8 0, .int .u8 0, .int .u8 0, .int .u8 0, .int .u8 0, .int .u8 0, .int .u8 0, .int .u8 0, .int .u8 0, .int .u8 0, .int .u8 0, .int .u8 0, .int .u8 0, .int .u8 0, .int .u8 0, .int .u8 0, .int .u8 0, .int .u8 0, .int .u8 0, .int .u8 0, .int .u8 0, .int .u8 0, .int .u8 0, .int .u8 0, .int .u8 0, .int .u8 0, .int .u8 0, .int .u8 0, .int .u8 0, .int .u8 0, .int .u8 0, .int .u8 0, .int .u8 0, .int .u8 0, .int .u8 0, .int .u8 0, .int .u8 0, .int .u8 0, .int .u8 0, .int .u8 0, .int .u8 0, .int .u8 0, .int .u8 0, .int .u8 0], none⟩ := ⟨Tryd.underlying215, Tryd.t215, _, by kernel_rfl, rfl, rfl, rfl, ⟨z_int, z_int, z_int, z_int, z_int, z_int, z_int, z_int, z_int, z_int, z_int, z_int, z_int, z_int, z_int, z_int, z_int, z_int, z_int, z_int, z_int, z_int, z_int, z_int, z_int, z_int, z_int, z_int, z_int, z_int, z_int, z_int, z_int, z_int, z_int, z_int, z_int, z_int, z_int, z_int, z_int, z_int, z_int, z_int, z_int, z_int, z_int, z_int, z_int, z_int, z_int, z_int, z_int, z_int, z_int, z_int, z_int, z_int, z_int, z_int, z_int, z_int, z_int, z_int, trivial⟩⟩
theorem ti217 : TIOK Tryd.prog 217 ⟨.struct [(0, 5), (1, 5)], 2, 2, [.int .u8 0, .int .u8 0], none⟩ := ⟨⟨_, Tryd.underlying217, rfl⟩, Tryd.t217, _, by kernel_rfl, rfl, rfl, rfl, ⟨z_int, z_int, trivial⟩⟩
theorem ti218 : TIOK Tryd.prog 218 ⟨.struct [(0, 5), (1, 5)], 2, 2, [.int .u8 0, .int .u8 0], none⟩ := ⟨⟨_, Tryd.underlying218, rfl⟩, Tryd.t218, _, by kernel_rfl, rfl, rfl, rfl, ⟨z_int, z_int, trivial⟩⟩
theorem ti219 : TIOK Tryd.prog 219 ⟨.arr 16 218, 32, 32, [.int .u8 0, .int .u8 0, .int .u8 0, .int .u8 0, .int .u8 0, .int .u8 0, .int .u8 0, .int .u8 0, .int .u8 0, .int .u8 0, .int .u8 0, .int .u8 0, .int .u8 0, .int .u8 0, .int .u8 0, .int .u8 0, .int .u8 0, .int .u8 0, .int .u8 0, .int .u8 0, .int .u8 0, .int .u8 0, .int .u8 0, .int .u8 0, .int .u8 0, .int .u8 0, .int .u8 0, .int .u8 0, .int .u8 0, .int .u8 0, .int .u8 0, .int .u8 0], none⟩ := ⟨Tryd.underlying219, Tryd.t219, _, by kernel_rfl, rfl, rfl, rfl, ⟨z_int, z_int, z_int, z_int, z_int, z_int, z_int, z_int, z_int, z_int, z_int, z_int, z_int, z_int, z_int, z_int, z_int, z_int, z_int, z_int, z_int, z_int, z_int, z_int, z_int, z_int, z_int, z_int, z_int, z_int, z_int, z_int, trivial⟩⟩
theorem ti220 : TIOK Tryd.prog 220 ⟨.struct [(0, 17), (1, 17), (2, 17), (3, 9)], 4, 40, [.nilp, .nilp, .nilp, .str []], none⟩ := ⟨⟨_, Tryd.underlying220, rfl⟩, Tryd.t220, _, by kernel_rfl, rfl, rfl, rfl, ⟨z_nilp, z_nilp, z_nilp, z_str rfl, trivial⟩⟩
theorem ti221 : TIOK Tryd.prog 221 ⟨.struct [(0, 17), (1, 17), (2, 17), (3, 9)], 4, 40, [.nilp, .nilp, .nilp, .str []], none⟩ := ⟨⟨_, Tryd.underlying221, rfl⟩, Tryd.t221, _, by kernel_rfl, rfl, rfl, rfl, ⟨z_nilp, z_nilp, z_nilp, z_str rfl, trivial⟩⟩
theorem ti222 : TIOK Tryd.prog 222 ⟨.arr 0 16, 0, 0, [], none⟩ := ⟨Tryd.underlying222, Tryd.t222, _, by kernel_rfl, rfl, rfl, rfl, trivial⟩
theorem ti223 : TIOK Tryd.prog 223 ⟨.struct [(0, 222)], 0, 0, [], none⟩ := ⟨⟨_, Tryd.underlying223, rfl⟩, Tryd.t223, _, by kernel_rfl, rfl, rfl, rfl, trivial⟩
theorem ti224 : TIOK Tryd.prog 224 ⟨.struct [(0, 222)], 0, 0, [], none⟩ := ⟨⟨_, Tryd.underlying224, rfl⟩, Tryd.t224, _, by kernel_rfl, rfl, rfl, rfl, trivial⟩
theorem ti225 : TIOK Tryd.prog 225 ⟨.int .u8, 1, 1, [.int .u8 0], some (.int .u8)⟩ := ⟨Tryd.underlying225, Tryd.t225, _, by kernel_rfl, rfl, rfl, rfl, ⟨z_int, trivial⟩⟩
theorem ti226 : TIOK Tryd.prog 226 ⟨.int .u8, 1, 1, [.int .u8 0], some (.int .u8)⟩ := ⟨Tryd.underlying226, Tryd.t226, _, by kernel_rfl, rfl, rfl, rfl, ⟨z_int, trivial⟩⟩
theorem ti227 : TIOK Tryd.prog 227 ⟨.other, 1, 8, [.nilf], none⟩ := ⟨⟨_, Tryd.underlying227, (fun f h => by cases h), (fun n e h => by cases h)⟩, Tryd.t227, _, by kernel_rfl, rfl, rfl, rfl, ⟨z_nilf, trivial⟩⟩
theorem ti228 : TIOK Tryd.prog 228 ⟨.int .i32, 1, 4, [.int .i32 0], some (.int .i32)⟩ := ⟨Tryd.underlying228, Tryd.t228, _, by kernel_rfl, rfl, rfl, rfl, ⟨z_int, trivial⟩⟩
theorem ti229 : TIOK Tryd.prog 229 ⟨.int .i32, 1, 4, [.int .i32 0], some (.int .i32)⟩ := ⟨Tryd.underlying229, Tryd.t229, _, by kernel_rfl, rfl, rfl, rfl, ⟨z_int, trivial⟩⟩
theorem ti230 : TIOK Tryd.prog 230 ⟨.struct [(0, 12), (1, 12), (2, 166), (3, 225), (4, 5), (5, 5), (6, 226), (7, 227), (8, 151), (9, 228), (10, 229)], 11, 48, [.int .u64 0, .int .u64 0, .int .u32 0, .int .u8 0, .int .u8 0, .int .u8 0, .int .u8 0, .nilf, .nilp, .int .i32 0, .int .i32 0], none⟩ := ⟨⟨_, Tryd.underlying230, rfl⟩, Tryd.t230, _, by kernel_rfl, rfl, rfl, rfl, ⟨z_int, z_int, z_int, z_int, z_int, z_int, z_int, z_nilf, z_nilp, z_int, z_int, trivial⟩⟩
theorem ti231 : TIOK Tryd.prog 231 ⟨.struct [(0, 12), (1, 12), (2, 166), (3, 225), (4, 5), (5, 5), (6, 226), (7, 227), (8, 151), (9, 228), (10, 229)], 11, 48, [.int .u64 0, .int .u64 0, .int .u32 0, .int .u8 0, .int .u8 0, .int .u8 0, .int .u8 0, .nilf, .nilp, .int .i32 0, .int .i32 0], none⟩ := ⟨⟨_, Tryd.underlying231, rfl⟩, Tryd.t231, _, by kernel_rfl, rfl, rfl, rfl, ⟨z_int, z_int, z_int, z_int, z_int, z_int, z_int, z_nilf, z_nilp, z_int, z_int, trivial⟩⟩
theorem ti232 : TIOK Tryd.prog 232 ⟨.other, 1, 8, [.nilf], none⟩ := ⟨⟨_, Tryd.underlying232, (fun f h => by cases h), (fun n e h => by cases h)⟩, Tryd.t232, _, by kernel_rfl, rfl, rfl, rfl, ⟨z_nilf, trivial⟩⟩
theorem ti233 : TIOK Tryd.prog 233 ⟨.other, 1, 8, [.nilf], none⟩ := ⟨⟨_, Tryd.underlying233, (fun f h => by cases h), (fun n e h => by cases h)⟩, Tryd.t233, _, by kernel_rfl, rfl, rfl, rfl, ⟨z_nilf, trivial⟩⟩
def tget : List (Nat × TI) → TT
  | [], _ => none
  | (n, i) :: r, t => bif n == t then some i else tget r t
def tget2 : List (List (Nat × TI)) → TT
  | [], _ => none
  | l :: r, t => match tget l t with
    | some i => some i
    | none => tget2 r t
def AllT (P : Program) : List (Nat × TI) → Prop
  | [] => True
  | x :: r => TIOK P x.1 x.2 ∧ AllT P r
def AllT2 (P : Program) : List (List (Nat × TI)) → Prop
  | [] => True
  | x :: r => AllT P x ∧ AllT2 P r
theorem tget_ok {P : Program} : ∀ (l : List (Nat × TI)), AllT P l → TTOK P (tget l)
  | [], _ => fun t i h => by simp [tget] at h
  | (n, j) :: r, hl => fun t i h => by
    simp only [tget, cond_eq_ite, beq_iff_eq] at h
    by_cases q : n = t
    · rw [if_pos q] at h; cases h; subst q; exact hl.1
    · rw [if_neg q] at h; exact tget_ok r hl.2 t i h
theorem tget2_ok {P : Program} : ∀ (l : List (List (Nat × TI))), AllT2 P l → TTOK P (tget2 l)
  | [], _ => fun t i h => by simp [tget2] at h
  | x :: r, hl => fun t i h => by
    simp only [tget2] at h
    split at h
    · rename_i j hj; cases h; exact tget_ok x hl.1 t _ hj
    · exact tget2_ok r hl.2 t i h
def tl0 : List (Nat × TI) := [
(1, ⟨.other, 1, 8, [.nilf], none⟩),
(2, ⟨.int .i64, 1, 8, [.int .i64 0], some (.int .i64)⟩),
(3, ⟨.int .i64, 1, 8, [.int .i64 0], some (.int .i64)⟩),
(4, ⟨.bool, 1, 1, [.bool false], some .bool⟩),
(5, ⟨.int .u8, 1, 1, [.int .u8 0], some (.int .u8)⟩),
(6, ⟨.int .u8, 1, 1, [.int .u8 0], some (.int .u8)⟩),
(7, ⟨.struct [(0, 2), (1, 3), (2, 4), (3, 6)], 4, 24, [.int .i64 0, .int .i64 0, .bool false, .int .u8 0], none⟩),
(8, ⟨.struct [(0, 2), (1, 3), (2, 4), (3, 6)], 4, 24, [.int .i64 0, .int .i64 0, .bool false, .int .u8 0], none⟩),
(9, ⟨.str, 1, 16, [.str []], some .str⟩),
(10, ⟨.str, 1, 16, [.str []], some .str⟩),
(11, ⟨.str, 1, 16, [.str []], some .str⟩),
(12, ⟨.int .u64, 1, 8, [.int .u64 0], some (.int .u64)⟩),
(13, ⟨.struct [(0, 9), (1, 12)], 2, 24, [.str [], .int .u64 0], none⟩),
(14, ⟨.struct [(0, 9), (1, 12)], 2, 24, [.str [], .int .u64 0], none⟩),
(15, ⟨.ptr 221, 1, 8, [.nilp], none⟩),
(16, ⟨.ptr 224, 1, 8, [.nilp], none⟩),
(17, ⟨.ptr 231, 1, 8, [.nilp], none⟩),
(18, ⟨.struct [(0, 17)], 1, 8, [.nilp], none⟩),
(19, ⟨.struct [(0, 17)], 1, 8, [.nilp], none⟩),
(20, ⟨.other, 1, 16, [.nili], none⟩),
(21, ⟨.int .i32, 1, 4, [.int .i32 0], some (.int .i32)⟩),
(22, ⟨.flt .f32, 1, 4, [.flt .f32 0], some (.flt .f32)⟩),
(23, ⟨.struct [(0, 22), (1, 22), (2, 22)], 3, 12, [.flt .f32 0, .flt .f32 0, .flt .f32 0], none⟩),
(24, ⟨.struct [(0, 22), (1, 22), (2, 22)], 3, 12, [.flt .f32 0, .flt .f32 0, .flt .f32 0], some .vec⟩)
]
theorem tlOk0 : AllT Tryd.prog tl0 := ⟨ti1, ti2, ti3, ti4, ti5, ti6, ti7, ti8, ti9, ti10, ti11, ti12, ti13, ti14, ti15, ti16, ti17, ti18, ti19, ti20, ti21, ti22, ti23, ti24, trivial⟩
def tl1 : List (Nat × TI) := [
(25, ⟨.other, 1, 8, [.nilf], none⟩),
(26, ⟨.struct [(0, 22), (1, 22), (2, 22)], 3, 12, [.flt .f32 0, .flt .f32 0, .flt .f32 0], some .vec⟩),
(27, ⟨.other, 1, 8, [.nilf], none⟩),
(28, ⟨.other, 1, 8, [.nilf], none⟩),
(29, ⟨.struct [(0, 22), (1, 22), (2, 22), (3, 22)], 4, 16, [.flt .f32 0, .flt .f32 0, .flt .f32 0, .flt .f32 0], none⟩),
(30, ⟨.struct [(0, 22), (1, 22), (2, 22), (3, 22)], 4, 16, [.flt .f32 0, .flt .f32 0, .flt .f32 0, .flt .f32 0], none⟩),
(32, ⟨.other, 1, 8, [.nilf], none⟩),
(33, ⟨.struct [(0, 22), (1, 22), (2, 22), (3, 22)], 4, 16, [.flt .f32 0, .flt .f32 0, .flt .f32 0, .flt .f32 0], none⟩),
(34, ⟨.other, 1, 8, [.nilf], none⟩),
(35, ⟨.other, 1, 8, [.nilf], none⟩),
(36, ⟨.struct [(0, 22), (1, 22), (2, 22), (3, 22), (4, 22), (5, 22)], 6, 24, [.flt .f32 0, .flt .f32 0, .flt .f32 0, .flt .f32 0, .flt .f32 0, .flt .f32 0], none⟩),
(37, ⟨.struct [(0, 22), (1, 22), (2, 22), (3, 22), (4, 22), (5, 22)], 6, 24, [.flt .f32 0, .flt .f32 0, .flt .f32 0, .flt .f32 0, .flt .f32 0, .flt .f32 0], none⟩),
(38, ⟨.other, 1, 8, [.nilf], none⟩),
(39, ⟨.struct [(0, 22), (1, 22), (2, 22), (3, 22), (4, 22), (5, 22)], 6, 24, [.flt .f32 0, .flt .f32 0, .flt .f32 0, .flt .f32 0, .flt .f32 0, .flt .f32 0], none⟩),
(40, ⟨.other, 1, 8, [.nilf], none⟩),
(41, ⟨.other, 1, 8, [.nilf], none⟩),
(42, ⟨.slc 92, 1, 24, [.nils], none⟩),
(43, ⟨.other, 1, 8, [.nilf], none⟩),
(44, ⟨.other, 1, 8, [.nilf], none⟩),
(45, ⟨.slc 89, 1, 24, [.nils], none⟩),
(46, ⟨.other, 1, 8, [.nilf], none⟩),
(47, ⟨.other, 1, 8, [.nilf], none⟩),
(48, ⟨.other, 1, 8, [.nilf], none⟩),
(49, ⟨.slc 97, 1, 24, [.nils], none⟩)
]
theorem tlOk1 : AllT Tryd.prog tl1 := ⟨ti25, ti26, ti27, ti28, ti29, ti30, ti32, ti33, ti34, ti35, ti36, ti37, ti38, ti39, ti40, ti41, ti42, ti43, ti44, ti45, ti46, ti47, ti48, ti49, trivial⟩
def tl2 : List (Nat × TI) := [
(50, ⟨.other, 1, 8, [.nilf], none⟩),
(51, ⟨.other, 1, 8, [.nilf], none⟩),
(52, ⟨.slc 101, 1, 24, [.nils], none⟩),
(53, ⟨.other, 1, 8, [.nilf], none⟩),
(54, ⟨.other, 1, 8, [.nilf], none⟩),
(55, ⟨.other, 1, 8, [.nilf], none⟩),
(57, ⟨.other, 1, 8, [.nilf], none⟩),
(58, ⟨.other, 1, 8, [.nilf], none⟩),
(59, ⟨.other, 1, 8, [.nilf], none⟩),
(61, ⟨.other, 1, 8, [.nilf], none⟩),
(62, ⟨.other, 1, 8, [.nilf], none⟩),
(63, ⟨.slc 9, 1, 24, [.nils], none⟩),
(64, ⟨.other, 1, 8, [.nilf], none⟩),
(65, ⟨.other, 1, 8, [.nilf], none⟩),
(66, ⟨.other, 1, 8, [.nilf], none⟩),
(67, ⟨.other, 1, 8, [.nilf], none⟩),
(68, ⟨.other, 1, 8, [.nilf], none⟩),
(70, ⟨.other, 1, 8, [.nilf], none⟩),
(72, ⟨.other, 1, 8, [.nilf], none⟩),
(73, ⟨.other, 1, 8, [.nilf], none⟩),
(74, ⟨.slc 22, 1, 24, [.nils], none⟩),
(75, ⟨.other, 1, 8, [.nilf], none⟩),
(76, ⟨.other, 1, 8, [.nilf], none⟩),
(77, ⟨.ptr 33, 1, 8, [.nilp], none⟩)
]
theorem tlOk2 : AllT Tryd.prog tl2 := ⟨ti50, ti51, ti52, ti53, ti54, ti55, ti57, ti58, ti59, ti61, ti62, ti63, ti64, ti65, ti66, ti67, ti68, ti70, ti72, ti73, ti74, ti75, ti76, ti77, trivial⟩
def tl3 : List (Nat × TI) := [
(78, ⟨.other, 1, 8, [.nilf], none⟩),
(79, ⟨.other, 1, 8, [.nilf], none⟩),
(80, ⟨.other, 1, 8, [.nilf], none⟩),
(81, ⟨.other, 1, 8, [.nilf], none⟩),
(82, ⟨.ptr 39, 1, 8, [.nilp], none⟩),
(83, ⟨.other, 1, 8, [.nilf], none⟩),
(84, ⟨.other, 1, 8, [.nilf], none⟩),
(85, ⟨.other, 1, 8, [.nilf], none⟩),
(86, ⟨.other, 1, 8, [.nilf], none⟩),
(87, ⟨.other, 1, 8, [.nilf], none⟩),
(88, ⟨.struct [(0, 26), (3, 26), (6, 22)], 7, 28, [.flt .f32 0, .flt .f32 0, .flt .f32 0, .flt .f32 0, .flt .f32 0, .flt .f32 0, .flt .f32 0], none⟩),
(89, ⟨.struct [(0, 26), (3, 26), (6, 22)], 7, 28, [.flt .f32 0, .flt .f32 0, .flt .f32 0, .flt .f32 0, .flt .f32 0, .flt .f32 0, .flt .f32 0], some .body⟩),
(90, ⟨.other, 1, 8, [.nilf], none⟩),
(91, ⟨.struct [(0, 24), (3, 24), (6, 22)], 7, 28, [.flt .f32 0, .flt .f32 0, .flt .f32 0, .flt .f32 0, .flt .f32 0, .flt .f32 0, .flt .f32 0], none⟩),
(92, ⟨.struct [(0, 24), (3, 24), (6, 22)], 7, 28, [.flt .f32 0, .flt .f32 0, .flt .f32 0, .flt .f32 0, .flt .f32 0, .flt .f32 0, .flt .f32 0], some .body⟩),
(93, ⟨.other, 1, 8, [.nilf], none⟩),
(94, ⟨.other, 1, 8, [.nilf], none⟩),
(95, ⟨.other, 1, 8, [.nilf], none⟩),
(96, ⟨.struct [(0, 9), (1, 22), (2, 37)], 8, 48, [.str [], .flt .f32 0, .flt .f32 0, .flt .f32 0, .flt .f32 0, .flt .f32 0, .flt .f32 0, .flt .f32 0], none⟩),
(97, ⟨.struct [(0, 9), (1, 22), (2, 37)], 8, 48, [.str [], .flt .f32 0, .flt .f32 0, .flt .f32 0, .flt .f32 0, .flt .f32 0, .flt .f32 0, .flt .f32 0], some .entry⟩),
(98, ⟨.other, 1, 8, [.nilf], none⟩),
(99, ⟨.other, 1, 8, [.nilf], none⟩),
(100, ⟨.struct [(0, 9), (1, 22), (2, 39)], 8, 48, [.str [], .flt .f32 0, .flt .f32 0, .flt .f32 0, .flt .f32 0, .flt .f32 0, .flt .f32 0, .flt .f32 0], none⟩),
(101, ⟨.struct [(0, 9), (1, 22), (2, 39)], 8, 48, [.str [], .flt .f32 0, .flt .f32 0, .flt .f32 0, .flt .f32 0, .flt .f32 0, .flt .f32 0, .flt .f32 0], some .entry⟩)
]
theorem tlOk3 : AllT Tryd.prog tl3 := ⟨ti78, ti79, ti80, ti81, ti82, ti83, ti84, ti85, ti86, ti87, ti88, ti89, ti90, ti91, ti92, ti93, ti94, ti95, ti96, ti97, ti98, ti99, ti100, ti101, trivial⟩
def tl4 : List (Nat × TI) := [
(102, ⟨.other, 1, 8, [.nilf], none⟩),
(103, ⟨.other, 1, 8, [.nilf], none⟩),
(105, ⟨.other, 1, 8, [.nilf], none⟩),
(106, ⟨.other, 1, 8, [.nilf], none⟩),
(107, ⟨.flt .f64, 1, 8, [.flt .f64 0], some (.flt .f64)⟩),
(108, ⟨.other, 1, 8, [.nilf], none⟩),
(109, ⟨.other, 1, 8, [.nilf], none⟩),
(110, ⟨.ptr 113, 1, 8, [.nilp], none⟩),
(111, ⟨.slc 5, 1, 24, [.nils], none⟩),
(112, ⟨.struct [(0, 110), (1, 111)], 2, 32, [.nilp, .nils], none⟩),
(113, ⟨.struct [(0, 110), (1, 111)], 2, 32, [.nilp, .nils], none⟩),
(114, ⟨.other, 1, 8, [.nilf], none⟩),
(115, ⟨.other, 1, 8, [.nilf], none⟩),
(116, ⟨.other, 1, 8, [.nilf], none⟩),
(117, ⟨.other, 1, 16, [.nili], none⟩),
(118, ⟨.other, 1, 16, [.nili], none⟩),
(120, ⟨.other, 1, 8, [.nilf], none⟩),
(121, ⟨.other, 1, 8, [.nilf], none⟩),
(122, ⟨.other, 1, 8, [.nilf], none⟩),
(124, ⟨.other, 1, 8, [.nilf], none⟩),
(126, ⟨.other, 1, 8, [.nilf], none⟩),
(127, ⟨.other, 1, 8, [.nilf], none⟩),
(129, ⟨.other, 1, 8, [.nilf], none⟩),
(131, ⟨.other, 1, 8, [.nilf], none⟩)
]
theorem tlOk4 : AllT Tryd.prog tl4 := ⟨ti102, ti103, ti105, ti106, ti107, ti108, ti109, ti110, ti111, ti112, ti113, ti114, ti115, ti116, ti117, ti118, ti120, ti121, ti122, ti124, ti126, ti127, ti129, ti131, trivial⟩
def tl5 : List (Nat × TI) := [
(132, ⟨.other, 1, 8, [.nilf], none⟩),
(133, ⟨.other, 1, 8, [.nilf], none⟩),
(134, ⟨.other, 1, 8, [.nilf], none⟩),
(135, ⟨.other, 1, 8, [.nilf], none⟩),
(136, ⟨.other, 1, 8, [.nilf], none⟩),
(137, ⟨.ptr 89, 1, 8, [.nilp], none⟩),
(138, ⟨.other, 1, 8, [.nilf], none⟩),
(139, ⟨.other, 1, 8, [.nilf], none⟩),
(140, ⟨.other, 1, 8, [.nilf], none⟩),
(141, ⟨.other, 1, 8, [.nilf], none⟩),
(142, ⟨.other, 1, 8, [.nilf], none⟩),
(143, ⟨.other, 1, 8, [.nilf], none⟩),
(144, ⟨.ptr 101, 1, 8, [.nilp], none⟩),
(145, ⟨.other, 1, 8, [.nilf], none⟩),
(147, ⟨.other, 1, 8, [.nilf], none⟩),
(148, ⟨.other, 1, 8, [.nilf], none⟩),
(149, ⟨.other, 1, 8, [.nilf], none⟩),
(150, ⟨.other, 1, 8, [.nilf], none⟩),
(151, ⟨.ptr 5, 1, 8, [.nilp], none⟩),
(152, ⟨.other, 1, 8, [.nilf], none⟩),
(153, ⟨.other, 1, 8, [.nilf], none⟩),
(154, ⟨.other, 1, 8, [.nilf], none⟩),
(155, ⟨.other, 1, 8, [.nilf], none⟩),
(156, ⟨.other, 1, 8, [.nilf], none⟩)
]
theorem tlOk5 : AllT Tryd.prog tl5 := ⟨ti132, ti133, ti134, ti135, ti136, ti137, ti138, ti139, ti140, ti141, ti142, ti143, ti144, ti145, ti147, ti148, ti149, ti150, ti151, ti152, ti153, ti154, ti155, ti156, trivial⟩
def tl6 : List (Nat × TI) := [
(157, ⟨.int .u64, 1, 8, [.int .u64 0], some (.int .u64)⟩),
(158, ⟨.other, 1, 8, [.nilf], none⟩),
(159, ⟨.other, 1, 8, [.nilf], none⟩),
(160, ⟨.other, 1, 8, [.nilf], none⟩),
(161, ⟨.other, 1, 8, [.nilf], none⟩),
(162, ⟨.int .u64, 1, 8, [.int .u64 0], some (.int .u64)⟩),
(164, ⟨.other, 1, 8, [.nilf], none⟩),
(165, ⟨.other, 1, 8, [.nilf], none⟩),
(166, ⟨.int .u32, 1, 4, [.int .u32 0], some (.int .u32)⟩),
(167, ⟨.other, 1, 8, [.nilp], none⟩),
(168, ⟨.other, 1, 8, [.nilf], none⟩),
(169, ⟨.other, 1, 8, [.nilf], none⟩),
(170, ⟨.other, 1, 8, [.nilf], none⟩),
(172, ⟨.other, 1, 8, [.nilf], none⟩),
(173, ⟨.other, 1, 8, [.nilf], none⟩),
(174, ⟨.other, 1, 8, [.nilf], none⟩),
(175, ⟨.other, 1, 8, [.nilf], none⟩),
(176, ⟨.other, 1, 8, [.nilf], none⟩),
(177, ⟨.other, 1, 8, [.nilf], none⟩),
(178, ⟨.arr 24 5, 24, 24, [.int .u8 0, .int .u8 0, .int .u8 0, .int .u8 0, .int .u8 0, .int .u8 0, .int .u8 0, .int .u8 0, .int .u8 0, .int .u8 0, .int .u8 0, .int .u8 0, .int .u8 0, .int .u8 0, .int .u8 0, .int .u8 0, .int .u8 0, .int .u8 0, .int .u8 0, .int .u8 0, .int .u8 0, .int .u8 0, .int .u8 0, .int .u8 0], none⟩),
(179, ⟨.other, 1, 8, [.nilf], none⟩),
(180, ⟨.other, 1, 8, [.nilf], none⟩),
(182, ⟨.other, 1, 8, [.nilf], none⟩),
(183, ⟨.other, 1, 8, [.nilf], none⟩)
]
theorem tlOk6 : AllT Tryd.prog tl6 := ⟨ti157, ti158, ti159, ti160, ti161, ti162, ti164, ti165, ti166, ti167, ti168, ti169, ti170, ti172, ti173, ti174, ti175, ti176, ti177, ti178, ti179, ti180, ti182, ti183, trivial⟩
def tl7 : List (Nat × TI) := [
(185, ⟨.other, 1, 8, [.nilf], none⟩),
(187, ⟨.other, 1, 8, [.nilf], none⟩),
(188, ⟨.other, 1, 8, [.nilf], none⟩),
(189, ⟨.other, 1, 8, [.nilf], none⟩),
(190, ⟨.int .i64, 1, 8, [.int .i64 0], some (.int .i64)⟩),
(191, ⟨.other, 1, 8, [.nilf], none⟩),
(192, ⟨.ptr 208, 1, 8, [.nilp], none⟩),
(193, ⟨.other, 1, 8, [.nilf], none⟩),
(194, ⟨.other, 1, 8, [.nilf], none⟩),
(195, ⟨.other, 1, 8, [.nilf], none⟩),
(196, ⟨.other, 1, 8, [.nilf], none⟩),
(197, ⟨.arr 20 162, 20, 160, [.int .u64 0, .int .u64 0, .int .u64 0, .int .u64 0, .int .u64 0, .int .u64 0, .int .u64 0, .int .u64 0, .int .u64 0, .int .u64 0, .int .u64 0, .int .u64 0, .int .u64 0, .int .u64 0, .int .u64 0, .int .u64 0, .int .u64 0, .int .u64 0, .int .u64 0, .int .u64 0], none⟩),
(199, ⟨.other, 1, 8, [.nilf], none⟩),
(200, ⟨.other, 1, 8, [.nilf], none⟩),
(201, ⟨.other, 1, 8, [.nilf], none⟩),
(203, ⟨.other, 1, 8, [.nilf], none⟩),
(204, ⟨.other, 1, 8, [.nilf], none⟩),
(205, ⟨.other, 1, 8, [.nilf], none⟩),
(206, ⟨.other, 1, 8, [.nilf], none⟩),
(207, ⟨.struct [(0, 9), (1, 9), (2, 118)], 3, 48, [.str [], .str [], .nili], none⟩),
(208, ⟨.struct [(0, 9), (1, 9), (2, 118)], 3, 48, [.str [], .str [], .nili], none⟩),
(209, ⟨.other, 1, 8, [.nilf], none⟩),
(210, ⟨.other, 1, 8, [.nilf], none⟩),
(211, ⟨.ptr 213, 1, 8, [.nilp], none⟩)
]
theorem tlOk7 : AllT Tryd.prog tl7 := ⟨ti185, ti187, ti188, ti189, ti190, ti191, ti192, ti193, ti194, ti195, ti196, ti197, ti199, ti200, ti201, ti203, ti204, ti205, ti206, ti207, ti208, ti209, ti210, ti211, trivial⟩
def tl8 : List (Nat × TI) := [
(212, ⟨.struct [(0, 9)], 1, 16, [.str []], none⟩),
(213, ⟨.struct [(0, 9)], 1, 16, [.str []], none⟩),
(214, ⟨.arr 32 5, 32, 32, [.int .u8 0, .int .u8 0, .int .u8 0, .int .u8 0, .int .u8 0, .int .u8 0, .int .u8 0, .int .u8 0, .int .u8 0, .int .u8 0, .int .u8 0, .int .u8 0, .int .u8 0, .int .u8 0, .int .u8 0, .int .u8 0, .int .u8 0, .int .u8 0, .int .u8 0, .int .u8 0, .int .u8 0, .int .u8 0, .int .u8 0, .int .u8 0, .int .u8 0, .int .u8 0, .int .u8 0, .int .u8 0, .int .u8 0, .int .u8 0, .int .u8 0, .int .u8 0], none⟩),
(215, ⟨.arr 64 5, 64, 64, [.int .u8 0, .int .u8 0, .int .u8 0, .int .u8 0, .int .u8 0, .int .u8 0, .int .u8 0, .int .u8 0, .int .u8 0, .int .u8 0, .int .u8 0, .int .u8 0, .int .u8 0, .int .u8 0, .int .u8 0, .int .u8 0, .int .u8 0, .int .u8 0, .int .u8 0, .int .u8 0, .int .u8 0, .int .u8 0, .int .u8 0, .int .u8 0, .int .u8 0, .int .u8 0, .int .u8 0, .int .u8 0, .int .u8 0, .int .u8 0, .int .u8 0, .int .u8 0, .int .u8 0, .int .u8 0, .int .u8 0, .int .u8 0, .int .u8 0, .int .u8 0, .int .u8 0, .int .u8 0, .int .u8 0, .int .u8 0, .int .u8 0, .int .u8 0, .int .u8 0, .int .u8 0, .int .u8 0, .int .u8 0, .int .u8 0, .int .u8 0, .int .u8 0, .int .u8 0, .int .u8 0, .int .u8 0, .int .u8 0, .int .u8 0, .int .u8 0, .int .u8 0, .int .u8 0, .int .u8 0, .int .u8 0, .int .u8 0, .int .u8 0, .int .u8 0], none⟩),
(217, ⟨.struct [(0, 5), (1, 5)], 2, 2, [.int .u8 0, .int .u8 0], none⟩),
(218, ⟨.struct [(0, 5), (1, 5)], 2, 2, [.int .u8 0, .int .u8 0], none⟩),
(219, ⟨.arr 16 218, 32, 32, [.int .u8 0, .int .u8 0, .int .u8 0, .int .u8 0, .int .u8 0, .int .u8 0, .int .u8 0, .int .u8 0, .int .u8 0, .int .u8 0, .int .u8 0, .int .u8 0, .int .u8 0, .int .u8 0, .int .u8 0, .int .u8 0, .int .u8 0, .int .u8 0, .int .u8 0, .int .u8 0, .int .u8 0, .int .u8 0, .int .u8 0, .int .u8 0, .int .u8 0, .int .u8 0, .int .u8 0, .int .u8 0, .int .u8 0, .int .u8 0, .int .u8 0, .int .u8 0], none⟩),
(220, ⟨.struct [(0, 17), (1, 17), (2, 17), (3, 9)], 4, 40, [.nilp, .nilp, .nilp, .str []], none⟩),
(221, ⟨.struct [(0, 17), (1, 17), (2, 17), (3, 9)], 4, 40, [.nilp, .nilp, .nilp, .str []], none⟩),
(222, ⟨.arr 0 16, 0, 0, [], none⟩),
(223, ⟨.struct [(0, 222)], 0, 0, [], none⟩),
(224, ⟨.struct [(0, 222)], 0, 0, [], none⟩),
(225, ⟨.int .u8, 1, 1, [.int .u8 0], some (.int .u8)⟩),
(226, ⟨.int .u8, 1, 1, [.int .u8 0], some (.int .u8)⟩),
(227, ⟨.other, 1, 8, [.nilf], none⟩),
(228, ⟨.int .i32, 1, 4, [.int .i32 0], some (.int .i32)⟩),
(229, ⟨.int .i32, 1, 4, [.int .i32 0], some (.int .i32)⟩),
(230, ⟨.struct [(0, 12), (1, 12), (2, 166), (3, 225), (4, 5), (5, 5), (6, 226), (7, 227), (8, 151), (9, 228), (10, 229)], 11, 48, [.int .u64 0, .int .u64 0, .int .u32 0, .int .u8 0, .int .u8 0, .int .u8 0, .int .u8 0, .nilf, .nilp, .int .i32 0, .int .i32 0], none⟩),
(231, ⟨.struct [(0, 12), (1, 12), (2, 166), (3, 225), (4, 5), (5, 5), (6, 226), (7, 227), (8, 151), (9, 228), (10, 229)], 11, 48, [.int .u64 0, .int .u64 0, .int .u32 0, .int .u8 0, .int .u8 0, .int .u8 0, .int .u8 0, .nilf, .nilp, .int .i32 0, .int .i32 0], none⟩),
(232, ⟨.other, 1, 8, [.nilf], none⟩),
(233, ⟨.other, 1, 8, [.nilf], none⟩)
]
theorem tlOk8 : AllT Tryd.prog tl8 := ⟨ti212, ti213, ti214, ti215, ti217, ti218, ti219, ti220, ti221, ti222, ti223, ti224, ti225, ti226, ti227, ti228, ti229, ti230, ti231, ti232, ti233, trivial⟩
def tab : TT := tget2 [tl0, tl1, tl2, tl3, tl4, tl5, tl6, tl7, tl8]
theorem tab_ok : TTOK Tryd.prog tab := tget2_ok _ ⟨tlOk0, tlOk1, tlOk2, tlOk3, tlOk4, tlOk5, tlOk6, tlOk7, tlOk8, trivial⟩
end Go.Proofs.YtcipkfndnkmjlaaDoor
