/- A part of the proof: a machine on trees that is sound for the model, its tables, and contracts of functions. Conditions: none. -/
import Derived.Test.YtpookgemmjdgfaaGreatAeTj
import Derived.Test.YtpookgemmjdgfaaGreatProg
import Derived.KernelRfl
namespace Go.Ae
open Go.Proofs
def AllZe (P : Program) : List (TypeId × Value) → Prop
  | [] => True
  | x :: r => zeB P x.1 x.2 ∧ AllZe P r
theorem all_of {P : Program} : ∀ {l : List (TypeId × Value)}, AllZe P l → ∀ x, x ∈ l → zeB P x.1 x.2
  | [], _, x, hx => by cases hx
  | y :: r, h, x, hx => by
    rcases List.mem_cons.1 hx with rfl | hx
    · exact h.1
    · exact all_of h.2 x hx
def I : TI where
  sc := [1, 2, 3, 4, 5, 9, 10, 11, 15, 16, 17, 20, 22, 24, 25, 34, 35, 38, 39, 40, 41, 42, 47, 48, 49, 50, 53, 54, 60, 61, 67, 69, 75, 76, 81, 84, 92, 101, 105, 108, 109, 116, 132, 134, 135, 142, 166, 181, 187, 203, 204, 221, 236, 242, 275, 292, 293, 294, 314, 332, 345, 357, 360, 366, 383]
  ag := [(7, 4), (8, 4), (14, 2), (19, 1), (37, 2), (44, 5), (52, 4), (56, 7), (63, 3), (73, 2), (78, 4), (80, 2), (83, 3), (94, 3), (96, 5), (99, 6), (130, 4), (140, 2), (146, 2), (151, 2), (159, 2), (185, 2), (189, 11), (235, 5), (239, 3), (265, 4), (298, 4), (316, 2)]
  fd := [((7, 0), 0), ((7, 1), 1), ((7, 2), 2), ((7, 3), 3), ((8, 0), 0), ((8, 1), 1), ((8, 2), 2), ((8, 3), 3), ((14, 0), 0), ((14, 1), 1), ((19, 0), 0), ((37, 0), 0), ((37, 1), 1), ((44, 0), 0), ((44, 1), 1), ((44, 2), 2), ((44, 3), 3), ((44, 4), 4), ((52, 0), 0), ((52, 1), 1), ((52, 2), 2), ((52, 3), 3), ((56, 0), 0), ((56, 1), 1), ((56, 2), 5), ((56, 3), 6), ((63, 0), 0), ((63, 1), 1), ((63, 2), 2), ((73, 0), 0), ((73, 1), 1), ((78, 0), 0), ((78, 1), 1), ((78, 2), 2), ((78, 3), 3), ((80, 0), 0), ((80, 1), 1), ((83, 0), 0), ((83, 1), 1), ((83, 2), 2), ((94, 0), 0), ((94, 1), 1), ((94, 2), 2), ((96, 0), 0), ((96, 1), 1), ((96, 2), 2), ((96, 3), 3), ((96, 4), 4), ((99, 0), 0), ((99, 1), 1), ((99, 2), 2), ((99, 3), 3), ((99, 4), 4), ((99, 5), 5), ((130, 0), 0), ((130, 1), 1), ((130, 2), 2), ((130, 3), 3), ((140, 0), 0), ((140, 1), 1), ((146, 0), 0), ((146, 1), 1), ((151, 0), 0), ((151, 1), 1), ((159, 0), 0), ((159, 1), 1), ((185, 0), 0), ((185, 1), 1), ((189, 0), 0), ((189, 1), 4), ((189, 2), 5), ((189, 3), 6), ((235, 0), 0), ((235, 1), 1), ((235, 2), 2), ((235, 3), 3), ((235, 4), 4), ((239, 0), 0), ((239, 1), 1), ((239, 2), 2), ((265, 0), 0), ((265, 1), 1), ((265, 2), 2), ((265, 3), 3), ((298, 0), 0), ((298, 1), 1), ((298, 2), 2), ((298, 3), 3), ((316, 0), 0), ((316, 1), 1)]
  sl := [(22, 5, 1, 1), (24, 37, 2, 48), (34, 3, 1, 8), (35, 83, 3, 24), (38, 63, 3, 72), (40, 151, 2, 32), (41, 80, 2, 16), (42, 159, 2, 16), (48, 73, 2, 24), (49, 9, 1, 16), (50, 39, 1, 4), (53, 22, 1, 24), (54, 78, 4, 64), (60, 2, 1, 8), (61, 81, 1, 8), (75, 235, 5, 56), (76, 239, 3, 40), (116, 38, 1, 24), (181, 265, 4, 40), (221, 49, 1, 24)]
  ar := []
  ik := [(2, Go.IntKind.i64), (3, Go.IntKind.i64), (5, Go.IntKind.u8), (25, Go.IntKind.i64), (39, Go.IntKind.u32), (67, Go.IntKind.u64), (275, Go.IntKind.u64), (332, Go.IntKind.i64), (357, Go.IntKind.u64), (383, Go.IntKind.u8)]
  st := [9, 10, 11]
  ze := [(2, Go.Value.int Go.IntKind.i64 0),
    (3, Go.Value.int Go.IntKind.i64 0),
    (5, Go.Value.int Go.IntKind.u8 0),
    (9, Go.Value.string { data := #[] }),
    (22, Go.Value.slice none 0 0),
    (25, Go.Value.int Go.IntKind.i64 0),
    (37, Go.Value.agg #[Go.Value.slice none 0 0, Go.Value.slice none 0 0]),
    (38, Go.Value.slice none 0 0),
    (39, Go.Value.int Go.IntKind.u32 0),
    (44, Go.Value.agg #[Go.Value.int Go.IntKind.u32 0, Go.Value.slice none 0 0, Go.Value.slice none 0 0, Go.Value.slice none 0 0, Go.Value.int Go.IntKind.i64 0]),
    (49, Go.Value.slice none 0 0),
    (52, Go.Value.agg #[Go.Value.slice none 0 0, Go.Value.slice none 0 0, Go.Value.slice none 0 0, Go.Value.slice none 0 0]),
    (56, Go.Value.agg #[Go.Value.bool false, Go.Value.slice none 0 0, Go.Value.slice none 0 0, Go.Value.slice none 0 0, Go.Value.slice none 0 0, Go.Value.slice none 0 0, Go.Value.slice none 0 0]),
    (63, Go.Value.agg #[Go.Value.slice none 0 0, Go.Value.slice none 0 0, Go.Value.slice none 0 0]),
    (67, Go.Value.int Go.IntKind.u64 0),
    (73, Go.Value.agg #[Go.Value.string { data := #[] }, Go.Value.int Go.IntKind.i64 0]),
    (78, Go.Value.agg #[Go.Value.int Go.IntKind.u64 0, Go.Value.int Go.IntKind.i64 0, Go.Value.slice none 0 0, Go.Value.slice none 0 0]),
    (80, Go.Value.agg #[Go.Value.int Go.IntKind.i64 0, Go.Value.int Go.IntKind.i64 0]),
    (81, Go.Value.float Go.FloatKind.f64 0),
    (83, Go.Value.agg #[Go.Value.bool false, Go.Value.int Go.IntKind.i64 0, Go.Value.float Go.FloatKind.f64 0]),
    (94, Go.Value.agg #[Go.Value.slice none 0 0, Go.Value.int Go.IntKind.i64 0, Go.Value.int Go.IntKind.i64 0]),
    (96, Go.Value.agg #[Go.Value.int Go.IntKind.u64 0, Go.Value.int Go.IntKind.i64 0, Go.Value.string { data := #[] }, Go.Value.int Go.IntKind.i64 0, Go.Value.int Go.IntKind.i64 0]),
    (99, Go.Value.agg #[Go.Value.int Go.IntKind.i64 0, Go.Value.int Go.IntKind.u64 0, Go.Value.int Go.IntKind.i64 0, Go.Value.float Go.FloatKind.f64 0, Go.Value.string { data := #[] }, Go.Value.int Go.IntKind.i64 0]),
    (130, Go.Value.agg #[Go.Value.bool false, Go.Value.slice none 0 0, Go.Value.int Go.IntKind.i64 0, Go.Value.int Go.IntKind.i64 0]),
    (140, Go.Value.agg #[Go.Value.bool false, Go.Value.slice none 0 0]),
    (146, Go.Value.agg #[Go.Value.bool false, Go.Value.slice none 0 0]),
    (151, Go.Value.agg #[Go.Value.int Go.IntKind.i64 0, Go.Value.slice none 0 0]),
    (159, Go.Value.agg #[Go.Value.int Go.IntKind.i64 0, Go.Value.bool false]),
    (185, Go.Value.agg #[Go.Value.int Go.IntKind.i64 0, Go.Value.int Go.IntKind.i64 0]),
    (187, Go.Value.pointer none),
    (189, Go.Value.agg #[Go.Value.slice none 0 0, Go.Value.slice none 0 0, Go.Value.slice none 0 0, Go.Value.slice none 0 0, Go.Value.slice none 0 0, Go.Value.int Go.IntKind.i64 0, Go.Value.int Go.IntKind.u32 0, Go.Value.slice none 0 0, Go.Value.slice none 0 0, Go.Value.slice none 0 0, Go.Value.int Go.IntKind.i64 0]),
    (235, Go.Value.agg #[Go.Value.int Go.IntKind.i64 0, Go.Value.int Go.IntKind.i64 0, Go.Value.slice none 0 0, Go.Value.int Go.IntKind.i64 0, Go.Value.int Go.IntKind.i64 0]),
    (239, Go.Value.agg #[Go.Value.slice none 0 0, Go.Value.float Go.FloatKind.f64 0, Go.Value.float Go.FloatKind.f64 0]),
    (265, Go.Value.agg #[Go.Value.int Go.IntKind.i64 0, Go.Value.string { data := #[] }, Go.Value.int Go.IntKind.i64 0, Go.Value.int Go.IntKind.i64 0]),
    (298, Go.Value.agg #[Go.Value.bool false, Go.Value.int Go.IntKind.u8 0, Go.Value.bool false, Go.Value.slice none 0 0]),
    (316, Go.Value.agg #[Go.Value.slice none 0 0, Go.Value.slice none 0 0]),
    (357, Go.Value.int Go.IntKind.u64 0)]
  fn := [2, 3, 4, 5, 6, 7, 8, 9, 10, 11, 12, 13, 14, 15, 16, 17, 18, 19, 20, 21, 22, 23, 24, 25, 26, 27, 28, 29, 30, 31, 32, 33, 34, 35, 36, 37, 38, 39, 40, 41, 42, 43, 44, 45, 46, 47, 48, 49, 50, 51, 52, 53, 54, 55, 56, 57, 58, 59, 60, 61, 62, 63, 64, 65, 66, 67, 68, 69, 70, 71, 72, 73, 74, 75, 76, 77, 78, 79, 80, 81, 82, 83, 84, 85, 86, 87, 88, 89, 90, 91, 92, 93, 94, 95, 96, 97, 98, 99, 100, 101, 102, 103, 104, 105, 106, 107, 108, 109, 110, 111, 112, 113, 114, 115, 116, 117, 118, 119, 120, 121, 122, 123, 124, 125, 126, 127, 128, 129, 130, 131, 132, 133, 134, 135, 136, 137, 138, 139, 140, 141, 142, 143, 144, 145, 146, 147, 148, 149, 150, 151, 152, 153, 154, 155, 156, 157, 158, 159, 160, 161, 162, 163, 164, 165, 166, 167, 168, 169, 170, 171, 172, 173, 174, 175, 176, 177, 178, 179, 180, 181, 182, 183, 184, 185, 186, 187, 188, 189, 190, 191, 192, 193, 194, 195, 197, 198, 199, 200, 201, 202, 203, 204, 205, 206, 207, 208, 209, 210, 211, 212, 213, 214, 215, 216, 217, 218, 219, 220, 221, 222, 223, 224, 225, 226, 227, 228, 229, 230, 231, 232, 233, 234, 235, 237, 238, 239, 240, 241, 242, 243, 244, 245, 246, 247, 248, 249, 250, 251, 252, 253, 254, 255, 256, 257, 258, 259, 260, 261, 262, 263, 264, 265, 266, 267, 268, 269, 270, 271, 272, 273, 274, 275, 276, 277, 278, 279, 280, 281, 282, 283, 284, 285, 286, 287, 288, 289, 290, 291, 292, 309, 310, 311, 312]
  bo := [4]
  pt := [15, 16, 17, 47, 84, 92, 105, 187, 236, 314, 360, 366]
  pl := [(37, [(0, 1), (1, 1)]), (44, [(0, 1), (1, 1), (2, 1), (3, 1), (4, 1)]), (52, [(0, 1), (1, 1), (2, 1), (3, 1)]), (56, [(0, 1), (1, 4), (5, 1), (6, 1)]), (63, [(0, 1), (1, 1), (2, 1)]), (73, [(0, 1), (1, 1)]), (78, [(0, 1), (1, 1), (2, 1), (3, 1)]), (80, [(0, 1), (1, 1)]), (83, [(0, 1), (1, 1), (2, 1)]), (94, [(0, 1), (1, 1), (2, 1)]), (96, [(0, 1), (1, 1), (2, 1), (3, 1), (4, 1)]), (99, [(0, 1), (1, 1), (2, 1), (3, 1), (4, 1), (5, 1)]), (130, [(0, 1), (1, 1), (2, 1), (3, 1)]), (140, [(0, 1), (1, 1)]), (146, [(0, 1), (1, 1)]), (151, [(0, 1), (1, 1)]), (159, [(0, 1), (1, 1)]), (185, [(0, 1), (1, 1)]), (189, [(0, 4), (4, 1), (5, 1), (6, 5)]), (235, [(0, 1), (1, 1), (2, 1), (3, 1), (4, 1)]), (239, [(0, 1), (1, 1), (2, 1)]), (265, [(0, 1), (1, 1), (2, 1), (3, 1)]), (298, [(0, 1), (1, 1), (2, 1), (3, 1)]), (316, [(0, 1), (1, 1)])]
  mt := [(166, 67, 78, false), (294, 9, 3, true)]
  cc := [3, 9, 185, 314]
  iv := [((314, "Len"), 226), ((314, "Less"), 309), ((314, "Pop"), 310), ((314, "Push"), 311), ((314, "Swap"), 312)]
  bs := [(22, 5)]
theorem ze2 : zeB Tryz.prog 2 (Go.Value.int Go.IntKind.i64 0) := ⟨Tryz.t2, by kernel_rfl, by kernel_rfl⟩
theorem ze3 : zeB Tryz.prog 3 (Go.Value.int Go.IntKind.i64 0) := ⟨Tryz.t3, by kernel_rfl, by kernel_rfl⟩
theorem ze5 : zeB Tryz.prog 5 (Go.Value.int Go.IntKind.u8 0) := ⟨Tryz.t5, by kernel_rfl, by kernel_rfl⟩
theorem ze9 : zeB Tryz.prog 9 (Go.Value.string { data := #[] }) := ⟨Tryz.t9, by kernel_rfl, by kernel_rfl⟩
theorem ze22 : zeB Tryz.prog 22 (Go.Value.slice none 0 0) := ⟨Tryz.t22, by kernel_rfl, by kernel_rfl⟩
theorem ze25 : zeB Tryz.prog 25 (Go.Value.int Go.IntKind.i64 0) := ⟨Tryz.t25, by kernel_rfl, by kernel_rfl⟩
theorem ze37 : zeB Tryz.prog 37 (Go.Value.agg #[Go.Value.slice none 0 0, Go.Value.slice none 0 0]) := ⟨Tryz.t37, by kernel_rfl, by kernel_rfl⟩
theorem ze38 : zeB Tryz.prog 38 (Go.Value.slice none 0 0) := ⟨Tryz.t38, by kernel_rfl, by kernel_rfl⟩
theorem ze39 : zeB Tryz.prog 39 (Go.Value.int Go.IntKind.u32 0) := ⟨Tryz.t39, by kernel_rfl, by kernel_rfl⟩
theorem ze44 : zeB Tryz.prog 44 (Go.Value.agg #[Go.Value.int Go.IntKind.u32 0, Go.Value.slice none 0 0, Go.Value.slice none 0 0, Go.Value.slice none 0 0, Go.Value.int Go.IntKind.i64 0]) := ⟨Tryz.t44, by kernel_rfl, by kernel_rfl⟩
theorem ze49 : zeB Tryz.prog 49 (Go.Value.slice none 0 0) := ⟨Tryz.t49, by kernel_rfl, by kernel_rfl⟩
theorem ze52 : zeB Tryz.prog 52 (Go.Value.agg #[Go.Value.slice none 0 0, Go.Value.slice none 0 0, Go.Value.slice none 0 0, Go.Value.slice none 0 0]) := ⟨Tryz.t52, by kernel_rfl, by kernel_rfl⟩
theorem ze56 : zeB Tryz.prog 56 (Go.Value.agg #[Go.Value.bool false, Go.Value.slice none 0 0, Go.Value.slice none 0 0, Go.Value.slice none 0 0, Go.Value.slice none 0 0, Go.Value.slice none 0 0, Go.Value.slice none 0 0]) := ⟨Tryz.t56, by kernel_rfl, by kernel_rfl⟩
theorem ze63 : zeB Tryz.prog 63 (Go.Value.agg #[Go.Value.slice none 0 0, Go.Value.slice none 0 0, Go.Value.slice none 0 0]) := ⟨Tryz.t63, by kernel_rfl, by kernel_rfl⟩
theorem ze67 : zeB Tryz.prog 67 (Go.Value.int Go.IntKind.u64 0) := ⟨Tryz.t67, by kernel_rfl, by kernel_rfl⟩
theorem ze73 : zeB Tryz.prog 73 (Go.Value.agg #[Go.Value.string { data := #[] }, Go.Value.int Go.IntKind.i64 0]) := ⟨Tryz.t73, by kernel_rfl, by kernel_rfl⟩
theorem ze78 : zeB Tryz.prog 78 (Go.Value.agg #[Go.Value.int Go.IntKind.u64 0, Go.Value.int Go.IntKind.i64 0, Go.Value.slice none 0 0, Go.Value.slice none 0 0]) := ⟨Tryz.t78, by kernel_rfl, by kernel_rfl⟩
theorem ze80 : zeB Tryz.prog 80 (Go.Value.agg #[Go.Value.int Go.IntKind.i64 0, Go.Value.int Go.IntKind.i64 0]) := ⟨Tryz.t80, by kernel_rfl, by kernel_rfl⟩
theorem ze81 : zeB Tryz.prog 81 (Go.Value.float Go.FloatKind.f64 0) := ⟨Tryz.t81, by kernel_rfl, by kernel_rfl⟩
theorem ze83 : zeB Tryz.prog 83 (Go.Value.agg #[Go.Value.bool false, Go.Value.int Go.IntKind.i64 0, Go.Value.float Go.FloatKind.f64 0]) := ⟨Tryz.t83, by kernel_rfl, by kernel_rfl⟩
theorem ze94 : zeB Tryz.prog 94 (Go.Value.agg #[Go.Value.slice none 0 0, Go.Value.int Go.IntKind.i64 0, Go.Value.int Go.IntKind.i64 0]) := ⟨Tryz.t94, by kernel_rfl, by kernel_rfl⟩
theorem ze96 : zeB Tryz.prog 96 (Go.Value.agg #[Go.Value.int Go.IntKind.u64 0, Go.Value.int Go.IntKind.i64 0, Go.Value.string { data := #[] }, Go.Value.int Go.IntKind.i64 0, Go.Value.int Go.IntKind.i64 0]) := ⟨Tryz.t96, by kernel_rfl, by kernel_rfl⟩
theorem ze99 : zeB Tryz.prog 99 (Go.Value.agg #[Go.Value.int Go.IntKind.i64 0, Go.Value.int Go.IntKind.u64 0, Go.Value.int Go.IntKind.i64 0, Go.Value.float Go.FloatKind.f64 0, Go.Value.string { data := #[] }, Go.Value.int Go.IntKind.i64 0]) := ⟨Tryz.t99, by kernel_rfl, by kernel_rfl⟩
theorem ze130 : zeB Tryz.prog 130 (Go.Value.agg #[Go.Value.bool false, Go.Value.slice none 0 0, Go.Value.int Go.IntKind.i64 0, Go.Value.int Go.IntKind.i64 0]) := ⟨Tryz.t130, by kernel_rfl, by kernel_rfl⟩
theorem ze140 : zeB Tryz.prog 140 (Go.Value.agg #[Go.Value.bool false, Go.Value.slice none 0 0]) := ⟨Tryz.t140, by kernel_rfl, by kernel_rfl⟩
theorem ze146 : zeB Tryz.prog 146 (Go.Value.agg #[Go.Value.bool false, Go.Value.slice none 0 0]) := ⟨Tryz.t146, by kernel_rfl, by kernel_rfl⟩
theorem ze151 : zeB Tryz.prog 151 (Go.Value.agg #[Go.Value.int Go.IntKind.i64 0, Go.Value.slice none 0 0]) := ⟨Tryz.t151, by kernel_rfl, by kernel_rfl⟩
theorem ze159 : zeB Tryz.prog 159 (Go.Value.agg #[Go.Value.int Go.IntKind.i64 0, Go.Value.bool false]) := ⟨Tryz.t159, by kernel_rfl, by kernel_rfl⟩
theorem ze185 : zeB Tryz.prog 185 (Go.Value.agg #[Go.Value.int Go.IntKind.i64 0, Go.Value.int Go.IntKind.i64 0]) := ⟨Tryz.t185, by kernel_rfl, by kernel_rfl⟩
theorem ze187 : zeB Tryz.prog 187 (Go.Value.pointer none) := ⟨Tryz.t187, by kernel_rfl, by kernel_rfl⟩
theorem ze189 : zeB Tryz.prog 189 (Go.Value.agg #[Go.Value.slice none 0 0, Go.Value.slice none 0 0, Go.Value.slice none 0 0, Go.Value.slice none 0 0, Go.Value.slice none 0 0, Go.Value.int Go.IntKind.i64 0, Go.Value.int Go.IntKind.u32 0, Go.Value.slice none 0 0, Go.Value.slice none 0 0, Go.Value.slice none 0 0, Go.Value.int Go.IntKind.i64 0]) := ⟨Tryz.t189, by kernel_rfl, by kernel_rfl⟩
theorem ze235 : zeB Tryz.prog 235 (Go.Value.agg #[Go.Value.int Go.IntKind.i64 0, Go.Value.int Go.IntKind.i64 0, Go.Value.slice none 0 0, Go.Value.int Go.IntKind.i64 0, Go.Value.int Go.IntKind.i64 0]) := ⟨Tryz.t235, by kernel_rfl, by kernel_rfl⟩
theorem ze239 : zeB Tryz.prog 239 (Go.Value.agg #[Go.Value.slice none 0 0, Go.Value.float Go.FloatKind.f64 0, Go.Value.float Go.FloatKind.f64 0]) := ⟨Tryz.t239, by kernel_rfl, by kernel_rfl⟩
theorem ze265 : zeB Tryz.prog 265 (Go.Value.agg #[Go.Value.int Go.IntKind.i64 0, Go.Value.string { data := #[] }, Go.Value.int Go.IntKind.i64 0, Go.Value.int Go.IntKind.i64 0]) := ⟨Tryz.t265, by kernel_rfl, by kernel_rfl⟩
theorem ze298 : zeB Tryz.prog 298 (Go.Value.agg #[Go.Value.bool false, Go.Value.int Go.IntKind.u8 0, Go.Value.bool false, Go.Value.slice none 0 0]) := ⟨Tryz.t298, by kernel_rfl, by kernel_rfl⟩
theorem ze316 : zeB Tryz.prog 316 (Go.Value.agg #[Go.Value.slice none 0 0, Go.Value.slice none 0 0]) := ⟨Tryz.t316, by kernel_rfl, by kernel_rfl⟩
theorem ze357 : zeB Tryz.prog 357 (Go.Value.int Go.IntKind.u64 0) := ⟨Tryz.t357, by kernel_rfl, by kernel_rfl⟩
theorem I_ze : AllZe Tryz.prog I.ze := And.intro ze2 (And.intro ze3 (And.intro ze5 (And.intro ze9 (And.intro ze22 (And.intro ze25 (And.intro ze37 (And.intro ze38 (And.intro ze39 (And.intro ze44 (And.intro ze49 (And.intro ze52 (And.intro ze56 (And.intro ze63 (And.intro ze67 (And.intro ze73 (And.intro ze78 (And.intro ze80 (And.intro ze81 (And.intro ze83 (And.intro ze94 (And.intro ze96 (And.intro ze99 (And.intro ze130 (And.intro ze140 (And.intro ze146 (And.intro ze151 (And.intro ze159 (And.intro ze185 (And.intro ze187 (And.intro ze189 (And.intro ze235 (And.intro ze239 (And.intro ze265 (And.intro ze298 (And.intro ze316 (And.intro ze357 trivial))))))))))))))))))))))))))))))))))))
theorem I_all : I.All Tryz.prog where
  sc := by kernel_rfl
  ag := by kernel_rfl
  fd := by kernel_rfl
  sl := by kernel_rfl
  ar := by kernel_rfl
  ik := by kernel_rfl
  st := by kernel_rfl
  fn := by kernel_rfl
  bo := by kernel_rfl
  pt := by kernel_rfl
  pl := by kernel_rfl
  s1 := by kernel_rfl
  zs := by kernel_rfl
  mt := by kernel_rfl
  cc := by kernel_rfl
  iv := by kernel_rfl
  bs := by kernel_rfl
  ze := all_of I_ze
end Go.Ae
