/- Facts on the program's types and functions, each by the kernel's reckoning. No condition. -/
import Derived.Test.YtkfcpnaiimcjeaaQData
import Derived.Test.YtkfcpnaiimcjeaaProg
import Derived.KernelRfl
namespace Go.Proofs
open Go.Q
theorem Ty.c3 : CellT Try.prog 3 := ⟨_, Try.underlying3, rfl, by kernel_rfl⟩
theorem Ty.c4 : CellT Try.prog 4 := ⟨_, Try.underlying4, rfl, by kernel_rfl⟩
theorem Ty.c5 : CellT Try.prog 5 := ⟨_, Try.underlying5, rfl, by kernel_rfl⟩
theorem Ty.c9 : CellT Try.prog 9 := ⟨_, Try.underlying9, rfl, by kernel_rfl⟩
theorem Ty.c24 : CellT Try.prog 24 := ⟨_, Try.underlying24, rfl, by kernel_rfl⟩
theorem Ty.c30 : CellT Try.prog 30 := ⟨_, Try.underlying30, rfl, by kernel_rfl⟩
theorem Ty.c31 : CellT Try.prog 31 := ⟨_, Try.underlying31, rfl, by kernel_rfl⟩
theorem Ty.c34 : CellT Try.prog 34 := ⟨_, Try.underlying34, rfl, by kernel_rfl⟩
theorem Ty.c39 : CellT Try.prog 39 := ⟨_, Try.underlying39, rfl, by kernel_rfl⟩
theorem Ty.c41 : CellT Try.prog 41 := ⟨_, Try.underlying41, rfl, by kernel_rfl⟩
theorem Ty.c48 : CellT Try.prog 48 := ⟨_, Try.underlying48, rfl, by kernel_rfl⟩
theorem Ty.c56 : CellT Try.prog 56 := ⟨_, Try.underlying56, rfl, by kernel_rfl⟩
theorem Ty.c121 : CellT Try.prog 121 := ⟨_, Try.underlying121, rfl, by kernel_rfl⟩
theorem Ty.c128 : CellT Try.prog 128 := ⟨_, Try.underlying128, rfl, by kernel_rfl⟩
theorem Ty.c136 : CellT Try.prog 136 := ⟨_, Try.underlying136, rfl, by kernel_rfl⟩
theorem Ty.c137 : CellT Try.prog 137 := ⟨_, Try.underlying137, rfl, by kernel_rfl⟩
theorem Ty.c138 : CellT Try.prog 138 := ⟨_, Try.underlying138, rfl, by kernel_rfl⟩
theorem Ty.c151 : CellT Try.prog 151 := ⟨_, Try.underlying151, rfl, by kernel_rfl⟩
theorem Ty.c170 : CellT Try.prog 170 := ⟨_, Try.underlying170, rfl, by kernel_rfl⟩
theorem Ty.c185 : CellT Try.prog 185 := ⟨_, Try.underlying185, rfl, by kernel_rfl⟩
theorem Ty.r33 : RowT Try.prog 33 3 := ⟨_, Try.underlying33, rfl, by kernel_rfl⟩
theorem Ty.r36 : RowT Try.prog 36 5 := ⟨_, Try.underlying36, rfl, by kernel_rfl⟩
theorem Ty.r40 : RowT Try.prog 40 3 := ⟨_, Try.underlying40, rfl, by kernel_rfl⟩
theorem Ty.r43 : RowT Try.prog 43 5 := ⟨_, Try.underlying43, rfl, by kernel_rfl⟩
theorem Ty.r50 : RowT Try.prog 50 2 := ⟨_, Try.underlying50, rfl, by kernel_rfl⟩
theorem Ty.r63 : RowT Try.prog 63 1 := ⟨_, Try.underlying63, rfl, by kernel_rfl⟩
theorem Ty.r65 : RowT Try.prog 65 3 := ⟨_, Try.underlying65, rfl, by kernel_rfl⟩
theorem Ty.r66 : RowT Try.prog 66 1 := ⟨_, Try.underlying66, rfl, by kernel_rfl⟩
theorem Ty.r68 : RowT Try.prog 68 3 := ⟨_, Try.underlying68, rfl, by kernel_rfl⟩
theorem Ty.r82 : RowT Try.prog 82 3 := ⟨_, Try.underlying82, rfl, by kernel_rfl⟩
theorem Ty.r91 : RowT Try.prog 91 2 := ⟨_, Try.underlying91, rfl, by kernel_rfl⟩
theorem Ty.r110 : RowT Try.prog 110 3 := ⟨_, Try.underlying110, rfl, by kernel_rfl⟩
theorem Ty.r140 : RowT Try.prog 140 3 := ⟨_, Try.underlying140, rfl, by kernel_rfl⟩
theorem Ty.r163 : RowT Try.prog 163 3 := ⟨_, Try.underlying163, rfl, by kernel_rfl⟩
theorem Ty.r172 : RowT Try.prog 172 2 := ⟨_, Try.underlying172, rfl, by kernel_rfl⟩
theorem Ty.r175 : RowT Try.prog 175 2 := ⟨_, Try.underlying175, rfl, by kernel_rfl⟩
theorem Ty.r178 : RowT Try.prog 178 3 := ⟨_, Try.underlying178, rfl, by kernel_rfl⟩
theorem Ty.n3 : SizeT Try.prog 3 1 := by unfold SizeT; kernel_rfl
theorem Ty.n4 : SizeT Try.prog 4 1 := by unfold SizeT; kernel_rfl
theorem Ty.n9 : SizeT Try.prog 9 1 := by unfold SizeT; kernel_rfl
theorem Ty.n24 : SizeT Try.prog 24 1 := by unfold SizeT; kernel_rfl
theorem Ty.n31 : SizeT Try.prog 31 1 := by unfold SizeT; kernel_rfl
theorem Ty.n39 : SizeT Try.prog 39 1 := by unfold SizeT; kernel_rfl
theorem Ty.n40 : SizeT Try.prog 40 3 := by unfold SizeT; kernel_rfl
theorem Ty.n41 : SizeT Try.prog 41 1 := by unfold SizeT; kernel_rfl
theorem Ty.n43 : SizeT Try.prog 43 5 := by unfold SizeT; kernel_rfl
theorem Ty.n48 : SizeT Try.prog 48 1 := by unfold SizeT; kernel_rfl
theorem Ty.n50 : SizeT Try.prog 50 2 := by unfold SizeT; kernel_rfl
theorem Ty.n56 : SizeT Try.prog 56 1 := by unfold SizeT; kernel_rfl
theorem Ty.n66 : SizeT Try.prog 66 1 := by unfold SizeT; kernel_rfl
theorem Ty.n68 : SizeT Try.prog 68 3 := by unfold SizeT; kernel_rfl
theorem Ty.n82 : SizeT Try.prog 82 3 := by unfold SizeT; kernel_rfl
theorem Ty.n91 : SizeT Try.prog 91 2 := by unfold SizeT; kernel_rfl
theorem Ty.n121 : SizeT Try.prog 121 1 := by unfold SizeT; kernel_rfl
theorem Ty.n128 : SizeT Try.prog 128 1 := by unfold SizeT; kernel_rfl
theorem Ty.n136 : SizeT Try.prog 136 1 := by unfold SizeT; kernel_rfl
theorem Ty.n137 : SizeT Try.prog 137 1 := by unfold SizeT; kernel_rfl
theorem Ty.n138 : SizeT Try.prog 138 1 := by unfold SizeT; kernel_rfl
theorem Ty.n140 : SizeT Try.prog 140 3 := by unfold SizeT; kernel_rfl
theorem Ty.n163 : SizeT Try.prog 163 3 := by unfold SizeT; kernel_rfl
theorem Ty.n170 : SizeT Try.prog 170 1 := by unfold SizeT; kernel_rfl
theorem Ty.n172 : SizeT Try.prog 172 2 := by unfold SizeT; kernel_rfl
theorem Ty.n175 : SizeT Try.prog 175 2 := by unfold SizeT; kernel_rfl
theorem Ty.n178 : SizeT Try.prog 178 3 := by unfold SizeT; kernel_rfl
theorem Ty.n185 : SizeT Try.prog 185 1 := by unfold SizeT; kernel_rfl
theorem Ty.z3 : ZeroT Try.prog 3 [.int .i64 0] := ⟨.int .i64 0, by kernel_rfl, rfl, by unfold SizeT; kernel_rfl⟩
theorem Ty.z9 : ZeroT Try.prog 9 [.string ⟨#[]⟩] := ⟨.string ⟨#[]⟩, by kernel_rfl, rfl, by unfold SizeT; kernel_rfl⟩
theorem Ty.z24 : ZeroT Try.prog 24 [.slice none 0 0] := ⟨.slice none 0 0, by kernel_rfl, rfl, by unfold SizeT; kernel_rfl⟩
theorem Ty.z40 : ZeroT Try.prog 40 [.int .i64 0, .string ⟨#[]⟩, .slice none 0 0] := ⟨.agg #[.int .i64 0, .string ⟨#[]⟩, .slice none 0 0], by kernel_rfl, rfl, by unfold SizeT; kernel_rfl⟩
theorem Ty.z43 : ZeroT Try.prog 43 [.slice none 0 0, .int .i64 0, .string ⟨#[]⟩, .slice none 0 0, .slice none 0 0] := ⟨.agg #[.slice none 0 0, .int .i64 0, .string ⟨#[]⟩, .slice none 0 0, .slice none 0 0], by kernel_rfl, rfl, by unfold SizeT; kernel_rfl⟩
theorem Ty.z50 : ZeroT Try.prog 50 [.slice none 0 0, .slice none 0 0] := ⟨.agg #[.slice none 0 0, .slice none 0 0], by kernel_rfl, rfl, by unfold SizeT; kernel_rfl⟩
theorem Ty.z66 : ZeroT Try.prog 66 [.slice none 0 0] := ⟨.agg #[.slice none 0 0], by kernel_rfl, rfl, by unfold SizeT; kernel_rfl⟩
theorem Ty.z68 : ZeroT Try.prog 68 [.int .i64 0, .slice none 0 0, .bool false] := ⟨.agg #[.int .i64 0, .slice none 0 0, .bool false], by kernel_rfl, rfl, by unfold SizeT; kernel_rfl⟩
theorem Ty.z82 : ZeroT Try.prog 82 [.int .i64 0, .string ⟨#[]⟩, .slice none 0 0] := ⟨.agg #[.int .i64 0, .string ⟨#[]⟩, .slice none 0 0], by kernel_rfl, rfl, by unfold SizeT; kernel_rfl⟩
theorem Ty.z91 : ZeroT Try.prog 91 [.slice none 0 0, .slice none 0 0] := ⟨.agg #[.slice none 0 0, .slice none 0 0], by kernel_rfl, rfl, by unfold SizeT; kernel_rfl⟩
theorem Ty.z121 : ZeroT Try.prog 121 [.map none] := ⟨.map none, by kernel_rfl, rfl, by unfold SizeT; kernel_rfl⟩
theorem Ty.z128 : ZeroT Try.prog 128 [.nilFunc] := ⟨.nilFunc, by kernel_rfl, rfl, by unfold SizeT; kernel_rfl⟩
theorem Ty.z140 : ZeroT Try.prog 140 [.slice none 0 0, .slice none 0 0, .slice none 0 0] := ⟨.agg #[.slice none 0 0, .slice none 0 0, .slice none 0 0], by kernel_rfl, rfl, by unfold SizeT; kernel_rfl⟩
theorem Ty.z163 : ZeroT Try.prog 163 [.int .i64 0, .string ⟨#[]⟩, .int .i64 0] := ⟨.agg #[.int .i64 0, .string ⟨#[]⟩, .int .i64 0], by kernel_rfl, rfl, by unfold SizeT; kernel_rfl⟩
theorem Ty.z172 : ZeroT Try.prog 172 [.string ⟨#[]⟩, .slice none 0 0] := ⟨.agg #[.string ⟨#[]⟩, .slice none 0 0], by kernel_rfl, rfl, by unfold SizeT; kernel_rfl⟩
theorem Ty.z175 : ZeroT Try.prog 175 [.string ⟨#[]⟩, .slice none 0 0] := ⟨.agg #[.string ⟨#[]⟩, .slice none 0 0], by kernel_rfl, rfl, by unfold SizeT; kernel_rfl⟩
theorem Ty.z178 : ZeroT Try.prog 178 [.string ⟨#[]⟩, .slice none 0 0, .int .i64 0] := ⟨.agg #[.string ⟨#[]⟩, .slice none 0 0, .int .i64 0], by kernel_rfl, rfl, by unfold SizeT; kernel_rfl⟩
theorem Ty.z187 : ZeroT Try.prog 187 [.pointer none, .slice none 0 0] := ⟨.agg #[.pointer none, .slice none 0 0], by kernel_rfl, rfl, by unfold SizeT; kernel_rfl⟩
theorem Ty.f33_0 : FieldT Try.prog 33 0 0 1 := ⟨_, _, Try.underlying33, rfl, rfl, by unfold SizeT; kernel_rfl, by decide⟩
theorem Ty.f33_1 : FieldT Try.prog 33 1 1 1 := ⟨_, _, Try.underlying33, rfl, rfl, by unfold SizeT; kernel_rfl, by decide⟩
theorem Ty.f33_2 : FieldT Try.prog 33 2 2 1 := ⟨_, _, Try.underlying33, rfl, rfl, by unfold SizeT; kernel_rfl, by decide⟩
theorem Ty.f36_0 : FieldT Try.prog 36 0 0 1 := ⟨_, _, Try.underlying36, rfl, rfl, by unfold SizeT; kernel_rfl, by decide⟩
theorem Ty.f36_1 : FieldT Try.prog 36 1 1 3 := ⟨_, _, Try.underlying36, rfl, rfl, by unfold SizeT; kernel_rfl, by decide⟩
theorem Ty.f36_2 : FieldT Try.prog 36 2 4 1 := ⟨_, _, Try.underlying36, rfl, rfl, by unfold SizeT; kernel_rfl, by decide⟩
theorem Ty.f40_0 : FieldT Try.prog 40 0 0 1 := ⟨_, _, Try.underlying40, rfl, rfl, by unfold SizeT; kernel_rfl, by decide⟩
theorem Ty.f40_1 : FieldT Try.prog 40 1 1 1 := ⟨_, _, Try.underlying40, rfl, rfl, by unfold SizeT; kernel_rfl, by decide⟩
theorem Ty.f40_2 : FieldT Try.prog 40 2 2 1 := ⟨_, _, Try.underlying40, rfl, rfl, by unfold SizeT; kernel_rfl, by decide⟩
theorem Ty.f43_0 : FieldT Try.prog 43 0 0 1 := ⟨_, _, Try.underlying43, rfl, rfl, by unfold SizeT; kernel_rfl, by decide⟩
theorem Ty.f43_1 : FieldT Try.prog 43 1 1 3 := ⟨_, _, Try.underlying43, rfl, rfl, by unfold SizeT; kernel_rfl, by decide⟩
theorem Ty.f43_2 : FieldT Try.prog 43 2 4 1 := ⟨_, _, Try.underlying43, rfl, rfl, by unfold SizeT; kernel_rfl, by decide⟩
theorem Ty.f50_0 : FieldT Try.prog 50 0 0 1 := ⟨_, _, Try.underlying50, rfl, rfl, by unfold SizeT; kernel_rfl, by decide⟩
theorem Ty.f50_1 : FieldT Try.prog 50 1 1 1 := ⟨_, _, Try.underlying50, rfl, rfl, by unfold SizeT; kernel_rfl, by decide⟩
theorem Ty.f63_0 : FieldT Try.prog 63 0 0 1 := ⟨_, _, Try.underlying63, rfl, rfl, by unfold SizeT; kernel_rfl, by decide⟩
theorem Ty.f65_0 : FieldT Try.prog 65 0 0 1 := ⟨_, _, Try.underlying65, rfl, rfl, by unfold SizeT; kernel_rfl, by decide⟩
theorem Ty.f65_1 : FieldT Try.prog 65 1 1 1 := ⟨_, _, Try.underlying65, rfl, rfl, by unfold SizeT; kernel_rfl, by decide⟩
theorem Ty.f65_2 : FieldT Try.prog 65 2 2 1 := ⟨_, _, Try.underlying65, rfl, rfl, by unfold SizeT; kernel_rfl, by decide⟩
theorem Ty.f66_0 : FieldT Try.prog 66 0 0 1 := ⟨_, _, Try.underlying66, rfl, rfl, by unfold SizeT; kernel_rfl, by decide⟩
theorem Ty.f68_0 : FieldT Try.prog 68 0 0 1 := ⟨_, _, Try.underlying68, rfl, rfl, by unfold SizeT; kernel_rfl, by decide⟩
theorem Ty.f68_1 : FieldT Try.prog 68 1 1 1 := ⟨_, _, Try.underlying68, rfl, rfl, by unfold SizeT; kernel_rfl, by decide⟩
theorem Ty.f68_2 : FieldT Try.prog 68 2 2 1 := ⟨_, _, Try.underlying68, rfl, rfl, by unfold SizeT; kernel_rfl, by decide⟩
theorem Ty.f82_0 : FieldT Try.prog 82 0 0 1 := ⟨_, _, Try.underlying82, rfl, rfl, by unfold SizeT; kernel_rfl, by decide⟩
theorem Ty.f82_1 : FieldT Try.prog 82 1 1 1 := ⟨_, _, Try.underlying82, rfl, rfl, by unfold SizeT; kernel_rfl, by decide⟩
theorem Ty.f82_2 : FieldT Try.prog 82 2 2 1 := ⟨_, _, Try.underlying82, rfl, rfl, by unfold SizeT; kernel_rfl, by decide⟩
theorem Ty.f91_0 : FieldT Try.prog 91 0 0 1 := ⟨_, _, Try.underlying91, rfl, rfl, by unfold SizeT; kernel_rfl, by decide⟩
theorem Ty.f91_1 : FieldT Try.prog 91 1 1 1 := ⟨_, _, Try.underlying91, rfl, rfl, by unfold SizeT; kernel_rfl, by decide⟩
theorem Ty.f110_0 : FieldT Try.prog 110 0 0 1 := ⟨_, _, Try.underlying110, rfl, rfl, by unfold SizeT; kernel_rfl, by decide⟩
theorem Ty.f110_1 : FieldT Try.prog 110 1 1 1 := ⟨_, _, Try.underlying110, rfl, rfl, by unfold SizeT; kernel_rfl, by decide⟩
theorem Ty.f110_2 : FieldT Try.prog 110 2 2 1 := ⟨_, _, Try.underlying110, rfl, rfl, by unfold SizeT; kernel_rfl, by decide⟩
theorem Ty.f134_0 : FieldT Try.prog 134 0 0 1 := ⟨_, _, Try.underlying134, rfl, rfl, by unfold SizeT; kernel_rfl, by decide⟩
theorem Ty.f134_1 : FieldT Try.prog 134 1 1 1 := ⟨_, _, Try.underlying134, rfl, rfl, by unfold SizeT; kernel_rfl, by decide⟩
theorem Ty.f134_2 : FieldT Try.prog 134 2 2 1 := ⟨_, _, Try.underlying134, rfl, rfl, by unfold SizeT; kernel_rfl, by decide⟩
theorem Ty.f140_0 : FieldT Try.prog 140 0 0 1 := ⟨_, _, Try.underlying140, rfl, rfl, by unfold SizeT; kernel_rfl, by decide⟩
theorem Ty.f140_1 : FieldT Try.prog 140 1 1 1 := ⟨_, _, Try.underlying140, rfl, rfl, by unfold SizeT; kernel_rfl, by decide⟩
theorem Ty.f140_2 : FieldT Try.prog 140 2 2 1 := ⟨_, _, Try.underlying140, rfl, rfl, by unfold SizeT; kernel_rfl, by decide⟩
theorem Ty.f156_0 : FieldT Try.prog 156 0 0 1 := ⟨_, _, Try.underlying156, rfl, rfl, by unfold SizeT; kernel_rfl, by decide⟩
theorem Ty.f156_1 : FieldT Try.prog 156 1 1 1 := ⟨_, _, Try.underlying156, rfl, rfl, by unfold SizeT; kernel_rfl, by decide⟩
theorem Ty.f156_2 : FieldT Try.prog 156 2 2 1 := ⟨_, _, Try.underlying156, rfl, rfl, by unfold SizeT; kernel_rfl, by decide⟩
theorem Ty.f156_3 : FieldT Try.prog 156 3 3 1 := ⟨_, _, Try.underlying156, rfl, rfl, by unfold SizeT; kernel_rfl, by decide⟩
theorem Ty.f156_4 : FieldT Try.prog 156 4 4 1 := ⟨_, _, Try.underlying156, rfl, rfl, by unfold SizeT; kernel_rfl, by decide⟩
theorem Ty.f156_5 : FieldT Try.prog 156 5 5 1 := ⟨_, _, Try.underlying156, rfl, rfl, by unfold SizeT; kernel_rfl, by decide⟩
theorem Ty.f156_6 : FieldT Try.prog 156 6 6 1 := ⟨_, _, Try.underlying156, rfl, rfl, by unfold SizeT; kernel_rfl, by decide⟩
theorem Ty.f156_7 : FieldT Try.prog 156 7 7 3 := ⟨_, _, Try.underlying156, rfl, rfl, by unfold SizeT; kernel_rfl, by decide⟩
theorem Ty.f163_0 : FieldT Try.prog 163 0 0 1 := ⟨_, _, Try.underlying163, rfl, rfl, by unfold SizeT; kernel_rfl, by decide⟩
theorem Ty.f163_1 : FieldT Try.prog 163 1 1 1 := ⟨_, _, Try.underlying163, rfl, rfl, by unfold SizeT; kernel_rfl, by decide⟩
theorem Ty.f172_1 : FieldT Try.prog 172 1 1 1 := ⟨_, _, Try.underlying172, rfl, rfl, by unfold SizeT; kernel_rfl, by decide⟩
theorem Ty.f175_1 : FieldT Try.prog 175 1 1 1 := ⟨_, _, Try.underlying175, rfl, rfl, by unfold SizeT; kernel_rfl, by decide⟩
theorem Ty.f178_1 : FieldT Try.prog 178 1 1 1 := ⟨_, _, Try.underlying178, rfl, rfl, by unfold SizeT; kernel_rfl, by decide⟩
theorem Ty.f178_2 : FieldT Try.prog 178 2 2 1 := ⟨_, _, Try.underlying178, rfl, rfl, by unfold SizeT; kernel_rfl, by decide⟩
theorem Ty.f187_0 : FieldT Try.prog 187 0 0 1 := ⟨_, _, Try.underlying187, rfl, rfl, by unfold SizeT; kernel_rfl, by decide⟩
theorem Ty.f187_1 : FieldT Try.prog 187 1 1 1 := ⟨_, _, Try.underlying187, rfl, rfl, by unfold SizeT; kernel_rfl, by decide⟩
theorem Ty.e22 : ElemT Try.prog 22 65 3 40 := .of (z := .agg #[.int .i64 0, .slice none 0 0, .bool false]) Try.underlying22 (by kernel_rfl) rfl
theorem Ty.s22 : SliceT Try.prog 22 65 3 := Ty.e22.sl
theorem Ty.e24 : ElemT Try.prog 24 68 3 40 := .of (z := .agg #[.int .i64 0, .slice none 0 0, .bool false]) Try.underlying24 (by kernel_rfl) rfl
theorem Ty.s24 : SliceT Try.prog 24 68 3 := Ty.e24.sl
theorem Ty.e30 : ElemT Try.prog 30 110 3 48 := .of (z := .agg #[.int .i64 0, .string ⟨#[]⟩, .slice none 0 0]) Try.underlying30 (by kernel_rfl) rfl
theorem Ty.s30 : SliceT Try.prog 30 110 3 := Ty.e30.sl
theorem Ty.e31 : ElemT Try.prog 31 3 1 8 := .of (z := .int .i64 0) Try.underlying31 (by kernel_rfl) rfl
theorem Ty.s31 : SliceT Try.prog 31 3 1 := Ty.e31.sl
theorem Ty.e34 : ElemT Try.prog 34 33 3 48 := .of (z := .agg #[.int .i64 0, .string ⟨#[]⟩, .slice none 0 0]) Try.underlying34 (by kernel_rfl) rfl
theorem Ty.s34 : SliceT Try.prog 34 33 3 := Ty.e34.sl
theorem Ty.e39 : ElemT Try.prog 39 82 3 48 := .of (z := .agg #[.int .i64 0, .string ⟨#[]⟩, .slice none 0 0]) Try.underlying39 (by kernel_rfl) rfl
theorem Ty.s39 : SliceT Try.prog 39 82 3 := Ty.e39.sl
theorem Ty.e41 : ElemT Try.prog 41 40 3 48 := .of (z := .agg #[.int .i64 0, .string ⟨#[]⟩, .slice none 0 0]) Try.underlying41 (by kernel_rfl) rfl
theorem Ty.s41 : SliceT Try.prog 41 40 3 := Ty.e41.sl
theorem Ty.e48 : ElemT Try.prog 48 9 1 16 := .of (z := .string ⟨#[]⟩) Try.underlying48 (by kernel_rfl) rfl
theorem Ty.s48 : SliceT Try.prog 48 9 1 := Ty.e48.sl
theorem Ty.e56 : ElemT Try.prog 56 5 1 1 := .of (z := .int .u8 0) Try.underlying56 (by kernel_rfl) rfl
theorem Ty.s56 : SliceT Try.prog 56 5 1 := Ty.e56.sl
theorem Ty.e136 : ElemT Try.prog 136 172 2 40 := .of (z := .agg #[.string ⟨#[]⟩, .slice none 0 0]) Try.underlying136 (by kernel_rfl) rfl
theorem Ty.s136 : SliceT Try.prog 136 172 2 := Ty.e136.sl
theorem Ty.e137 : ElemT Try.prog 137 178 3 48 := .of (z := .agg #[.string ⟨#[]⟩, .slice none 0 0, .int .i64 0]) Try.underlying137 (by kernel_rfl) rfl
theorem Ty.s137 : SliceT Try.prog 137 178 3 := Ty.e137.sl
theorem Ty.e138 : ElemT Try.prog 138 43 5 96 := .of (z := .agg #[.slice none 0 0, .int .i64 0, .string ⟨#[]⟩, .slice none 0 0, .slice none 0 0]) Try.underlying138 (by kernel_rfl) rfl
theorem Ty.s138 : SliceT Try.prog 138 43 5 := Ty.e138.sl
theorem Ty.e151 : ElemT Try.prog 151 163 3 32 := .of (z := .agg #[.int .i64 0, .string ⟨#[]⟩, .int .i64 0]) Try.underlying151 (by kernel_rfl) rfl
theorem Ty.s151 : SliceT Try.prog 151 163 3 := Ty.e151.sl
theorem Ty.e170 : ElemT Try.prog 170 175 2 40 := .of (z := .agg #[.string ⟨#[]⟩, .slice none 0 0]) Try.underlying170 (by kernel_rfl) rfl
theorem Ty.s170 : SliceT Try.prog 170 175 2 := Ty.e170.sl
theorem Ty.str9 : Try.prog.underlying 9 = some .string := Try.underlying9
theorem Ty.bool4 : Try.prog.underlying 4 = some .bool := Try.underlying4
theorem Ty.b40 : BuildT Try.prog 40 [(0, 1), (1, 1), (2, 1)] [.int .i64 0, .string ⟨#[]⟩, .slice none 0 0] := .of (z := .agg #[.int .i64 0, .string ⟨#[]⟩, .slice none 0 0]) Try.underlying40 (by kernel_rfl) rfl (by kernel_rfl)
theorem Ty.b43 : BuildT Try.prog 43 [(0, 1), (1, 3), (4, 1)] [.slice none 0 0, .int .i64 0, .string ⟨#[]⟩, .slice none 0 0, .slice none 0 0] := .of (z := .agg #[.slice none 0 0, .int .i64 0, .string ⟨#[]⟩, .slice none 0 0, .slice none 0 0]) Try.underlying43 (by kernel_rfl) rfl (by kernel_rfl)
theorem Ty.b50 : BuildT Try.prog 50 [(0, 1), (1, 1)] [.slice none 0 0, .slice none 0 0] := .of (z := .agg #[.slice none 0 0, .slice none 0 0]) Try.underlying50 (by kernel_rfl) rfl (by kernel_rfl)
theorem Ty.b66 : BuildT Try.prog 66 [(0, 1)] [.slice none 0 0] := .of (z := .agg #[.slice none 0 0]) Try.underlying66 (by kernel_rfl) rfl (by kernel_rfl)
theorem Ty.b68 : BuildT Try.prog 68 [(0, 1), (1, 1), (2, 1)] [.int .i64 0, .slice none 0 0, .bool false] := .of (z := .agg #[.int .i64 0, .slice none 0 0, .bool false]) Try.underlying68 (by kernel_rfl) rfl (by kernel_rfl)
theorem Ty.b82 : BuildT Try.prog 82 [(0, 1), (1, 1), (2, 1)] [.int .i64 0, .string ⟨#[]⟩, .slice none 0 0] := .of (z := .agg #[.int .i64 0, .string ⟨#[]⟩, .slice none 0 0]) Try.underlying82 (by kernel_rfl) rfl (by kernel_rfl)
theorem Ty.b91 : BuildT Try.prog 91 [(0, 1), (1, 1)] [.slice none 0 0, .slice none 0 0] := .of (z := .agg #[.slice none 0 0, .slice none 0 0]) Try.underlying91 (by kernel_rfl) rfl (by kernel_rfl)
theorem Ty.b134 : BuildT Try.prog 134 [(0, 1), (1, 1), (2, 1)] [.slice none 0 0, .int .i64 0, .int .i64 0] := .of (z := .agg #[.slice none 0 0, .int .i64 0, .int .i64 0]) Try.underlying134 (by kernel_rfl) rfl (by kernel_rfl)
theorem Ty.b140 : BuildT Try.prog 140 [(0, 1), (1, 1), (2, 1)] [.slice none 0 0, .slice none 0 0, .slice none 0 0] := .of (z := .agg #[.slice none 0 0, .slice none 0 0, .slice none 0 0]) Try.underlying140 (by kernel_rfl) rfl (by kernel_rfl)
theorem Ty.b156 : BuildT Try.prog 156 [(0, 1), (1, 1), (2, 1), (3, 1), (4, 1), (5, 1), (6, 1), (7, 3)] [.slice none 0 0, .int .i64 0, .int .i64 0, .int .i64 0, .bool false, .bool false, .slice none 0 0, .slice none 0 0, .slice none 0 0, .slice none 0 0] := .of (z := .agg #[.slice none 0 0, .int .i64 0, .int .i64 0, .int .i64 0, .bool false, .bool false, .slice none 0 0, .slice none 0 0, .slice none 0 0, .slice none 0 0]) Try.underlying156 (by kernel_rfl) rfl (by kernel_rfl)
theorem Ty.b163 : BuildT Try.prog 163 [(0, 1), (1, 1), (2, 1)] [.int .i64 0, .string ⟨#[]⟩, .int .i64 0] := .of (z := .agg #[.int .i64 0, .string ⟨#[]⟩, .int .i64 0]) Try.underlying163 (by kernel_rfl) rfl (by kernel_rfl)
theorem Ty.b172 : BuildT Try.prog 172 [(0, 1), (1, 1)] [.string ⟨#[]⟩, .slice none 0 0] := .of (z := .agg #[.string ⟨#[]⟩, .slice none 0 0]) Try.underlying172 (by kernel_rfl) rfl (by kernel_rfl)
theorem Ty.b175 : BuildT Try.prog 175 [(0, 1), (1, 1)] [.string ⟨#[]⟩, .slice none 0 0] := .of (z := .agg #[.string ⟨#[]⟩, .slice none 0 0]) Try.underlying175 (by kernel_rfl) rfl (by kernel_rfl)
theorem Ty.b178 : BuildT Try.prog 178 [(0, 1), (1, 1), (2, 1)] [.string ⟨#[]⟩, .slice none 0 0, .int .i64 0] := .of (z := .agg #[.string ⟨#[]⟩, .slice none 0 0, .int .i64 0]) Try.underlying178 (by kernel_rfl) rfl (by kernel_rfl)
theorem Ty.k121 : KeyT Try.prog 121 9 4 str := keyT_str Try.underlying121 Try.underlying9
theorem Ty.kz121 : ZeroT Try.prog 4 [.bool false] := ⟨.bool false, by kernel_rfl, rfl, by unfold SizeT; kernel_rfl⟩
theorem Ty.kv121 : (Try.prog.info? 4).bind (·.zero) = some (.bool false) := by kernel_rfl
theorem Ty.k126 : KeyT Try.prog 126 9 82 str := keyT_str Try.underlying126 Try.underlying9
theorem Ty.kz126 : ZeroT Try.prog 82 [.int .i64 0, .string ⟨#[]⟩, .slice none 0 0] := ⟨.agg #[.int .i64 0, .string ⟨#[]⟩, .slice none 0 0], by kernel_rfl, rfl, by unfold SizeT; kernel_rfl⟩
theorem Ty.kv126 : (Try.prog.info? 82).bind (·.zero) = some (.agg #[.int .i64 0, .string ⟨#[]⟩, .slice none 0 0]) := by kernel_rfl
theorem Ty.mixed : Try.prog.follows .mixedOrders = true := by kernel_rfl
theorem Fk.ok8 : FunOk Try.prog 8 := ⟨_, _, Try.func8, rfl, by kernel_rfl⟩
theorem Fk.ok9 : FunOk Try.prog 9 := ⟨_, _, Try.func9, rfl, by kernel_rfl⟩
theorem Fk.ok10 : FunOk Try.prog 10 := ⟨_, _, Try.func10, rfl, by kernel_rfl⟩
theorem Fk.ok11 : FunOk Try.prog 11 := ⟨_, _, Try.func11, rfl, by kernel_rfl⟩
theorem Fk.ok12 : FunOk Try.prog 12 := ⟨_, _, Try.func12, rfl, by kernel_rfl⟩
theorem Fk.ok13 : FunOk Try.prog 13 := ⟨_, _, Try.func13, rfl, by kernel_rfl⟩
theorem Fk.ok14 : FunOk Try.prog 14 := ⟨_, _, Try.func14, rfl, by kernel_rfl⟩
theorem Fk.ok15 : FunOk Try.prog 15 := ⟨_, _, Try.func15, rfl, by kernel_rfl⟩
theorem Fk.ok16 : FunOk Try.prog 16 := ⟨_, _, Try.func16, rfl, by kernel_rfl⟩
theorem Fk.ok17 : FunOk Try.prog 17 := ⟨_, _, Try.func17, rfl, by kernel_rfl⟩
theorem Fk.ok18 : FunOk Try.prog 18 := ⟨_, _, Try.func18, rfl, by kernel_rfl⟩
theorem Fk.ok19 : FunOk Try.prog 19 := ⟨_, _, Try.func19, rfl, by kernel_rfl⟩
theorem Fk.ok20 : FunOk Try.prog 20 := ⟨_, _, Try.func20, rfl, by kernel_rfl⟩
theorem Fk.ok21 : FunOk Try.prog 21 := ⟨_, _, Try.func21, rfl, by kernel_rfl⟩
theorem Fk.ok22 : FunOk Try.prog 22 := ⟨_, _, Try.func22, rfl, by kernel_rfl⟩
theorem Fk.ok23 : FunOk Try.prog 23 := ⟨_, _, Try.func23, rfl, by kernel_rfl⟩
theorem Fk.ok24 : FunOk Try.prog 24 := ⟨_, _, Try.func24, rfl, by kernel_rfl⟩
theorem Fk.ok25 : FunOk Try.prog 25 := ⟨_, _, Try.func25, rfl, by kernel_rfl⟩
theorem Fk.ok26 : FunOk Try.prog 26 := ⟨_, _, Try.func26, rfl, by kernel_rfl⟩
theorem Fk.ok27 : FunOk Try.prog 27 := ⟨_, _, Try.func27, rfl, by kernel_rfl⟩
theorem Fk.ok28 : FunOk Try.prog 28 := ⟨_, _, Try.func28, rfl, by kernel_rfl⟩
theorem Fk.ok29 : FunOk Try.prog 29 := ⟨_, _, Try.func29, rfl, by kernel_rfl⟩
theorem Fk.ok30 : FunOk Try.prog 30 := ⟨_, _, Try.func30, rfl, by kernel_rfl⟩
theorem Fk.ok31 : FunOk Try.prog 31 := ⟨_, _, Try.func31, rfl, by kernel_rfl⟩
theorem Fk.ok32 : FunOk Try.prog 32 := ⟨_, _, Try.func32, rfl, by kernel_rfl⟩
theorem Fk.ok33 : FunOk Try.prog 33 := ⟨_, _, Try.func33, rfl, by kernel_rfl⟩
theorem Fk.ok34 : FunOk Try.prog 34 := ⟨_, _, Try.func34, rfl, by kernel_rfl⟩
theorem Fk.ok35 : FunOk Try.prog 35 := ⟨_, _, Try.func35, rfl, by kernel_rfl⟩
theorem Fk.ok36 : FunOk Try.prog 36 := ⟨_, _, Try.func36, rfl, by kernel_rfl⟩
theorem Fk.ok37 : FunOk Try.prog 37 := ⟨_, _, Try.func37, rfl, by kernel_rfl⟩
theorem Fk.ok38 : FunOk Try.prog 38 := ⟨_, _, Try.func38, rfl, by kernel_rfl⟩
theorem Fk.ok39 : FunOk Try.prog 39 := ⟨_, _, Try.func39, rfl, by kernel_rfl⟩
theorem Fk.ok40 : FunOk Try.prog 40 := ⟨_, _, Try.func40, rfl, by kernel_rfl⟩
theorem Fk.ok41 : FunOk Try.prog 41 := ⟨_, _, Try.func41, rfl, by kernel_rfl⟩
theorem Fk.ok42 : FunOk Try.prog 42 := ⟨_, _, Try.func42, rfl, by kernel_rfl⟩
theorem Fk.ok43 : FunOk Try.prog 43 := ⟨_, _, Try.func43, rfl, by kernel_rfl⟩
theorem Fk.ok44 : FunOk Try.prog 44 := ⟨_, _, Try.func44, rfl, by kernel_rfl⟩
theorem Fk.ok45 : FunOk Try.prog 45 := ⟨_, _, Try.func45, rfl, by kernel_rfl⟩
theorem Fk.ok46 : FunOk Try.prog 46 := ⟨_, _, Try.func46, rfl, by kernel_rfl⟩
theorem Fk.ok47 : FunOk Try.prog 47 := ⟨_, _, Try.func47, rfl, by kernel_rfl⟩
theorem Fk.ok48 : FunOk Try.prog 48 := ⟨_, _, Try.func48, rfl, by kernel_rfl⟩
theorem Fk.ok49 : FunOk Try.prog 49 := ⟨_, _, Try.func49, rfl, by kernel_rfl⟩
theorem Fk.ok50 : FunOk Try.prog 50 := ⟨_, _, Try.func50, rfl, by kernel_rfl⟩
theorem Fk.ok51 : FunOk Try.prog 51 := ⟨_, _, Try.func51, rfl, by kernel_rfl⟩
theorem Fk.ok52 : FunOk Try.prog 52 := ⟨_, _, Try.func52, rfl, by kernel_rfl⟩
theorem Fk.ok53 : FunOk Try.prog 53 := ⟨_, _, Try.func53, rfl, by kernel_rfl⟩
theorem Fk.ok54 : FunOk Try.prog 54 := ⟨_, _, Try.func54, rfl, by kernel_rfl⟩
theorem Fk.ok55 : FunOk Try.prog 55 := ⟨_, _, Try.func55, rfl, by kernel_rfl⟩
theorem Fk.ok56 : FunOk Try.prog 56 := ⟨_, _, Try.func56, rfl, by kernel_rfl⟩
theorem Fk.ok57 : FunOk Try.prog 57 := ⟨_, _, Try.func57, rfl, by kernel_rfl⟩
theorem Fk.ok58 : FunOk Try.prog 58 := ⟨_, _, Try.func58, rfl, by kernel_rfl⟩
theorem Fk.ok59 : FunOk Try.prog 59 := ⟨_, _, Try.func59, rfl, by kernel_rfl⟩
theorem Fk.ok60 : FunOk Try.prog 60 := ⟨_, _, Try.func60, rfl, by kernel_rfl⟩
theorem Fk.ok61 : FunOk Try.prog 61 := ⟨_, _, Try.func61, rfl, by kernel_rfl⟩
theorem Fk.ok62 : FunOk Try.prog 62 := ⟨_, _, Try.func62, rfl, by kernel_rfl⟩
theorem Fk.ok63 : FunOk Try.prog 63 := ⟨_, _, Try.func63, rfl, by kernel_rfl⟩
theorem Fk.ok64 : FunOk Try.prog 64 := ⟨_, _, Try.func64, rfl, by kernel_rfl⟩
theorem Fk.ok65 : FunOk Try.prog 65 := ⟨_, _, Try.func65, rfl, by kernel_rfl⟩
theorem Fk.ok66 : FunOk Try.prog 66 := ⟨_, _, Try.func66, rfl, by kernel_rfl⟩
theorem Fk.ok67 : FunOk Try.prog 67 := ⟨_, _, Try.func67, rfl, by kernel_rfl⟩
theorem Fk.ok68 : FunOk Try.prog 68 := ⟨_, _, Try.func68, rfl, by kernel_rfl⟩
theorem Fk.ok69 : FunOk Try.prog 69 := ⟨_, _, Try.func69, rfl, by kernel_rfl⟩
theorem Fk.ok70 : FunOk Try.prog 70 := ⟨_, _, Try.func70, rfl, by kernel_rfl⟩
theorem Fk.ok71 : FunOk Try.prog 71 := ⟨_, _, Try.func71, rfl, by kernel_rfl⟩
theorem Fk.ok72 : FunOk Try.prog 72 := ⟨_, _, Try.func72, rfl, by kernel_rfl⟩
theorem Fk.ok73 : FunOk Try.prog 73 := ⟨_, _, Try.func73, rfl, by kernel_rfl⟩
theorem Fk.ok74 : FunOk Try.prog 74 := ⟨_, _, Try.func74, rfl, by kernel_rfl⟩
theorem Fk.ok75 : FunOk Try.prog 75 := ⟨_, _, Try.func75, rfl, by kernel_rfl⟩
theorem Fk.ok76 : FunOk Try.prog 76 := ⟨_, _, Try.func76, rfl, by kernel_rfl⟩
theorem Fk.ok77 : FunOk Try.prog 77 := ⟨_, _, Try.func77, rfl, by kernel_rfl⟩
theorem Fk.ok78 : FunOk Try.prog 78 := ⟨_, _, Try.func78, rfl, by kernel_rfl⟩
theorem Fk.ok79 : FunOk Try.prog 79 := ⟨_, _, Try.func79, rfl, by kernel_rfl⟩
theorem Fk.ok80 : FunOk Try.prog 80 := ⟨_, _, Try.func80, rfl, by kernel_rfl⟩
theorem Fk.ok81 : FunOk Try.prog 81 := ⟨_, _, Try.func81, rfl, by kernel_rfl⟩
theorem Fk.ok82 : FunOk Try.prog 82 := ⟨_, _, Try.func82, rfl, by kernel_rfl⟩
theorem Fk.ok83 : FunOk Try.prog 83 := ⟨_, _, Try.func83, rfl, by kernel_rfl⟩
theorem Fk.ok84 : FunOk Try.prog 84 := ⟨_, _, Try.func84, rfl, by kernel_rfl⟩
theorem Fk.ok85 : FunOk Try.prog 85 := ⟨_, _, Try.func85, rfl, by kernel_rfl⟩
theorem Fk.ok86 : FunOk Try.prog 86 := ⟨_, _, Try.func86, rfl, by kernel_rfl⟩
theorem Fk.ok87 : FunOk Try.prog 87 := ⟨_, _, Try.func87, rfl, by kernel_rfl⟩
theorem Fk.ok88 : FunOk Try.prog 88 := ⟨_, _, Try.func88, rfl, by kernel_rfl⟩
theorem Fk.ok89 : FunOk Try.prog 89 := ⟨_, _, Try.func89, rfl, by kernel_rfl⟩
theorem Fk.ok90 : FunOk Try.prog 90 := ⟨_, _, Try.func90, rfl, by kernel_rfl⟩
theorem Fk.ok91 : FunOk Try.prog 91 := ⟨_, _, Try.func91, rfl, by kernel_rfl⟩
theorem Fk.ok92 : FunOk Try.prog 92 := ⟨_, _, Try.func92, rfl, by kernel_rfl⟩
theorem Fk.ok93 : FunOk Try.prog 93 := ⟨_, _, Try.func93, rfl, by kernel_rfl⟩
theorem Fk.ok94 : FunOk Try.prog 94 := ⟨_, _, Try.func94, rfl, by kernel_rfl⟩
theorem Fk.ok95 : FunOk Try.prog 95 := ⟨_, _, Try.func95, rfl, by kernel_rfl⟩
theorem Fk.ok96 : FunOk Try.prog 96 := ⟨_, _, Try.func96, rfl, by kernel_rfl⟩
theorem Fk.ok97 : FunOk Try.prog 97 := ⟨_, _, Try.func97, rfl, by kernel_rfl⟩
theorem Fk.ok98 : FunOk Try.prog 98 := ⟨_, _, Try.func98, rfl, by kernel_rfl⟩
theorem Fk.ok99 : FunOk Try.prog 99 := ⟨_, _, Try.func99, rfl, by kernel_rfl⟩
theorem Fk.ok100 : FunOk Try.prog 100 := ⟨_, _, Try.func100, rfl, by kernel_rfl⟩
theorem Fk.ok102 : FunOk Try.prog 102 := ⟨_, _, Try.func102, rfl, by kernel_rfl⟩
theorem Fk.ok103 : FunOk Try.prog 103 := ⟨_, _, Try.func103, rfl, by kernel_rfl⟩
theorem Fk.ok104 : FunOk Try.prog 104 := ⟨_, _, Try.func104, rfl, by kernel_rfl⟩
theorem Fk.ok105 : FunOk Try.prog 105 := ⟨_, _, Try.func105, rfl, by kernel_rfl⟩
theorem Fk.ok106 : FunOk Try.prog 106 := ⟨_, _, Try.func106, rfl, by kernel_rfl⟩
theorem Fk.ok107 : FunOk Try.prog 107 := ⟨_, _, Try.func107, rfl, by kernel_rfl⟩
theorem Fk.ok108 : FunOk Try.prog 108 := ⟨_, _, Try.func108, rfl, by kernel_rfl⟩
theorem Fk.ok109 : FunOk Try.prog 109 := ⟨_, _, Try.func109, rfl, by kernel_rfl⟩
theorem Fk.ok110 : FunOk Try.prog 110 := ⟨_, _, Try.func110, rfl, by kernel_rfl⟩
theorem Fk.ok111 : FunOk Try.prog 111 := ⟨_, _, Try.func111, rfl, by kernel_rfl⟩
theorem Fk.ok112 : FunOk Try.prog 112 := ⟨_, _, Try.func112, rfl, by kernel_rfl⟩
theorem Fk.ok113 : FunOk Try.prog 113 := ⟨_, _, Try.func113, rfl, by kernel_rfl⟩
theorem Fk.ok114 : FunOk Try.prog 114 := ⟨_, _, Try.func114, rfl, by kernel_rfl⟩
theorem Fk.ok115 : FunOk Try.prog 115 := ⟨_, _, Try.func115, rfl, by kernel_rfl⟩
theorem Fk.ok116 : FunOk Try.prog 116 := ⟨_, _, Try.func116, rfl, by kernel_rfl⟩
theorem Fk.ok117 : FunOk Try.prog 117 := ⟨_, _, Try.func117, rfl, by kernel_rfl⟩
theorem Fk.ok118 : FunOk Try.prog 118 := ⟨_, _, Try.func118, rfl, by kernel_rfl⟩
theorem Fk.ok119 : FunOk Try.prog 119 := ⟨_, _, Try.func119, rfl, by kernel_rfl⟩
theorem Fk.ok120 : FunOk Try.prog 120 := ⟨_, _, Try.func120, rfl, by kernel_rfl⟩
theorem Fk.ok121 : FunOk Try.prog 121 := ⟨_, _, Try.func121, rfl, by kernel_rfl⟩
theorem Fk.ok122 : FunOk Try.prog 122 := ⟨_, _, Try.func122, rfl, by kernel_rfl⟩
theorem Fk.ok123 : FunOk Try.prog 123 := ⟨_, _, Try.func123, rfl, by kernel_rfl⟩
theorem Fk.ok124 : FunOk Try.prog 124 := ⟨_, _, Try.func124, rfl, by kernel_rfl⟩
theorem Fk.ok125 : FunOk Try.prog 125 := ⟨_, _, Try.func125, rfl, by kernel_rfl⟩
theorem Fk.ok126 : FunOk Try.prog 126 := ⟨_, _, Try.func126, rfl, by kernel_rfl⟩
theorem Fk.ok127 : FunOk Try.prog 127 := ⟨_, _, Try.func127, rfl, by kernel_rfl⟩
theorem Fk.ok128 : FunOk Try.prog 128 := ⟨_, _, Try.func128, rfl, by kernel_rfl⟩
theorem Fk.ok129 : FunOk Try.prog 129 := ⟨_, _, Try.func129, rfl, by kernel_rfl⟩
theorem Fk.ok130 : FunOk Try.prog 130 := ⟨_, _, Try.func130, rfl, by kernel_rfl⟩
theorem Fk.ok131 : FunOk Try.prog 131 := ⟨_, _, Try.func131, rfl, by kernel_rfl⟩
theorem Fk.ok132 : FunOk Try.prog 132 := ⟨_, _, Try.func132, rfl, by kernel_rfl⟩
theorem Fk.ok133 : FunOk Try.prog 133 := ⟨_, _, Try.func133, rfl, by kernel_rfl⟩
theorem Fk.ok134 : FunOk Try.prog 134 := ⟨_, _, Try.func134, rfl, by kernel_rfl⟩
theorem Fk.ok135 : FunOk Try.prog 135 := ⟨_, _, Try.func135, rfl, by kernel_rfl⟩
theorem Fk.ok136 : FunOk Try.prog 136 := ⟨_, _, Try.func136, rfl, by kernel_rfl⟩
theorem Fk.ok137 : FunOk Try.prog 137 := ⟨_, _, Try.func137, rfl, by kernel_rfl⟩
theorem Fk.ok138 : FunOk Try.prog 138 := ⟨_, _, Try.func138, rfl, by kernel_rfl⟩
theorem Fk.ok139 : FunOk Try.prog 139 := ⟨_, _, Try.func139, rfl, by kernel_rfl⟩
theorem Fk.ok140 : FunOk Try.prog 140 := ⟨_, _, Try.func140, rfl, by kernel_rfl⟩
theorem Fk.ok141 : FunOk Try.prog 141 := ⟨_, _, Try.func141, rfl, by kernel_rfl⟩
theorem Fk.ok142 : FunOk Try.prog 142 := ⟨_, _, Try.func142, rfl, by kernel_rfl⟩
theorem Fk.ok143 : FunOk Try.prog 143 := ⟨_, _, Try.func143, rfl, by kernel_rfl⟩
theorem Fk.ok144 : FunOk Try.prog 144 := ⟨_, _, Try.func144, rfl, by kernel_rfl⟩
theorem Fk.ok145 : FunOk Try.prog 145 := ⟨_, _, Try.func145, rfl, by kernel_rfl⟩
theorem Fk.ok146 : FunOk Try.prog 146 := ⟨_, _, Try.func146, rfl, by kernel_rfl⟩
theorem Fk.ok147 : FunOk Try.prog 147 := ⟨_, _, Try.func147, rfl, by kernel_rfl⟩
theorem Fk.ok148 : FunOk Try.prog 148 := ⟨_, _, Try.func148, rfl, by kernel_rfl⟩
theorem Fk.ok149 : FunOk Try.prog 149 := ⟨_, _, Try.func149, rfl, by kernel_rfl⟩
theorem Fk.ok150 : FunOk Try.prog 150 := ⟨_, _, Try.func150, rfl, by kernel_rfl⟩
theorem Fk.ok153 : FunOk Try.prog 153 := ⟨_, _, Try.func153, rfl, by kernel_rfl⟩
end Go.Proofs
