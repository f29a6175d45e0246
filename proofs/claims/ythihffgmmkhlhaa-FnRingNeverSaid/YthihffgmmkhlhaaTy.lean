/-
  The types of this translation, as the executor wants them. Conditions: none.
-/
import Derived.Test.YthihffgmmkhlhaaProg
import Derived.Test.YthihffgmmkhlhaaSx
import Derived.KernelRfl
namespace Go.Proofs.Ythihffgmmkhlhaa
open Go.SX Go.Proofs
def ty3 : TI := ⟨.int .i64, 1, 8, .int .i64 0⟩
theorem ty3_ok : ty3.ok Try.prog 3 := ⟨Try.underlying3, by kernel_rfl⟩
def ty4 : TI := ⟨.bool, 1, 1, .bool false⟩
theorem ty4_ok : ty4.ok Try.prog 4 := ⟨Try.underlying4, by kernel_rfl⟩
def ty9 : TI := ⟨.string, 1, 16, .string .empty⟩
theorem ty9_ok : ty9.ok Try.prog 9 := ⟨Try.underlying9, by kernel_rfl⟩
def ty5 : TI := ⟨.int .u8, 1, 1, .int .u8 0⟩
theorem ty5_ok : ty5.ok Try.prog 5 := ⟨Try.underlying5, by kernel_rfl⟩
def ty29 : TI := ⟨.slice 3, 1, 24, .slice none 0 0⟩
theorem ty29_ok : ty29.ok Try.prog 29 := ⟨Try.underlying29, by kernel_rfl⟩
def ty2 : TI := ⟨.int .i64, 1, 8, .int .i64 0⟩
theorem ty2_ok : ty2.ok Try.prog 2 := ⟨Try.underlying2, by kernel_rfl⟩
def ty12 : TI := ⟨.int .u64, 1, 8, .int .u64 0⟩
theorem ty12_ok : ty12.ok Try.prog 12 := ⟨Try.underlying12, by kernel_rfl⟩
def ty13 : TI := ⟨.struct [(0, 9), (1, 12)], 2, 24, .agg #[.string .empty, .int .u64 0]⟩
theorem ty13_ok : ty13.ok Try.prog 13 := ⟨⟨_, Try.underlying13, by kernel_rfl⟩, by kernel_rfl⟩
def ty21 : TI := ⟨.int .i32, 1, 4, .int .i32 0⟩
theorem ty21_ok : ty21.ok Try.prog 21 := ⟨Try.underlying21, by kernel_rfl⟩
def ty22 : TI := ⟨.struct [(0, 3), (1, 3), (2, 3)], 3, 24, .agg #[.int .i64 0, .int .i64 0, .int .i64 0]⟩
theorem ty22_ok : ty22.ok Try.prog 22 := ⟨⟨_, Try.underlying22, by kernel_rfl⟩, by kernel_rfl⟩
def ty23 : TI := ⟨.struct [(0, 3), (1, 3), (2, 3)], 3, 24, .agg #[.int .i64 0, .int .i64 0, .int .i64 0]⟩
theorem ty23_ok : ty23.ok Try.prog 23 := ⟨⟨_, Try.underlying23, by kernel_rfl⟩, by kernel_rfl⟩
def ty25 : TI := ⟨.struct [(0, 3), (1, 3), (2, 3)], 3, 24, .agg #[.int .i64 0, .int .i64 0, .int .i64 0]⟩
theorem ty25_ok : ty25.ok Try.prog 25 := ⟨⟨_, Try.underlying25, by kernel_rfl⟩, by kernel_rfl⟩
def ty28 : TI := ⟨.slice 4, 1, 24, .slice none 0 0⟩
theorem ty28_ok : ty28.ok Try.prog 28 := ⟨Try.underlying28, by kernel_rfl⟩
def ty30 : TI := ⟨.struct [(0, 28), (1, 29), (2, 28), (3, 29), (4, 3), (5, 3), (6, 4), (7, 4)], 8, 120, .agg #[.slice none 0 0, .slice none 0 0, .slice none 0 0, .slice none 0 0, .int .i64 0, .int .i64 0, .bool false, .bool false]⟩
theorem ty30_ok : ty30.ok Try.prog 30 := ⟨⟨_, Try.underlying30, by kernel_rfl⟩, by kernel_rfl⟩
def ty31 : TI := ⟨.struct [(0, 28), (1, 29), (2, 28), (3, 29), (4, 3), (5, 3), (6, 4), (7, 4)], 8, 120, .agg #[.slice none 0 0, .slice none 0 0, .slice none 0 0, .slice none 0 0, .int .i64 0, .int .i64 0, .bool false, .bool false]⟩
theorem ty31_ok : ty31.ok Try.prog 31 := ⟨⟨_, Try.underlying31, by kernel_rfl⟩, by kernel_rfl⟩
def ty34 : TI := ⟨.struct [(0, 28), (1, 29), (2, 28), (3, 29), (4, 3), (5, 3), (6, 4), (7, 4)], 8, 120, .agg #[.slice none 0 0, .slice none 0 0, .slice none 0 0, .slice none 0 0, .int .i64 0, .int .i64 0, .bool false, .bool false]⟩
theorem ty34_ok : ty34.ok Try.prog 34 := ⟨⟨_, Try.underlying34, by kernel_rfl⟩, by kernel_rfl⟩
def ty38 : TI := ⟨.slice 5, 1, 24, .slice none 0 0⟩
theorem ty38_ok : ty38.ok Try.prog 38 := ⟨Try.underlying38, by kernel_rfl⟩
def ty41 : TI := ⟨.slice 43, 1, 24, .slice none 0 0⟩
theorem ty41_ok : ty41.ok Try.prog 41 := ⟨Try.underlying41, by kernel_rfl⟩
def ty42 : TI := ⟨.struct [(0, 3), (1, 3), (2, 3)], 3, 24, .agg #[.int .i64 0, .int .i64 0, .int .i64 0]⟩
theorem ty42_ok : ty42.ok Try.prog 42 := ⟨⟨_, Try.underlying42, by kernel_rfl⟩, by kernel_rfl⟩
def ty43 : TI := ⟨.struct [(0, 3), (1, 3), (2, 3)], 3, 24, .agg #[.int .i64 0, .int .i64 0, .int .i64 0]⟩
theorem ty43_ok : ty43.ok Try.prog 43 := ⟨⟨_, Try.underlying43, by kernel_rfl⟩, by kernel_rfl⟩
def ty50 : TI := ⟨.struct [(0, 3), (1, 3), (2, 3)], 3, 24, .agg #[.int .i64 0, .int .i64 0, .int .i64 0]⟩
theorem ty50_ok : ty50.ok Try.prog 50 := ⟨⟨_, Try.underlying50, by kernel_rfl⟩, by kernel_rfl⟩
def ty60 : TI := ⟨.slice 50, 1, 24, .slice none 0 0⟩
theorem ty60_ok : ty60.ok Try.prog 60 := ⟨Try.underlying60, by kernel_rfl⟩
def ty73 : TI := ⟨.pointer 86, 1, 8, .pointer none⟩
theorem ty73_ok : ty73.ok Try.prog 73 := ⟨Try.underlying73, by kernel_rfl⟩
def ty80 : TI := ⟨.pointer 34, 1, 8, .pointer none⟩
theorem ty80_ok : ty80.ok Try.prog 80 := ⟨Try.underlying80, by kernel_rfl⟩
def ty85 : TI := ⟨.struct [(0, 38), (1, 3), (2, 3)], 3, 40, .agg #[.slice none 0 0, .int .i64 0, .int .i64 0]⟩
theorem ty85_ok : ty85.ok Try.prog 85 := ⟨⟨_, Try.underlying85, by kernel_rfl⟩, by kernel_rfl⟩
def ty86 : TI := ⟨.struct [(0, 38), (1, 3), (2, 3)], 3, 40, .agg #[.slice none 0 0, .int .i64 0, .int .i64 0]⟩
theorem ty86_ok : ty86.ok Try.prog 86 := ⟨⟨_, Try.underlying86, by kernel_rfl⟩, by kernel_rfl⟩
def ty87 : TI := ⟨.int .u64, 1, 8, .int .u64 0⟩
theorem ty87_ok : ty87.ok Try.prog 87 := ⟨Try.underlying87, by kernel_rfl⟩
def ty99 : TI := ⟨.int .u32, 1, 4, .int .u32 0⟩
theorem ty99_ok : ty99.ok Try.prog 99 := ⟨Try.underlying99, by kernel_rfl⟩
def ty103 : TI := ⟨.pointer 5, 1, 8, .pointer none⟩
theorem ty103_ok : ty103.ok Try.prog 103 := ⟨Try.underlying103, by kernel_rfl⟩
def G : Ty := [(3, ty3), (4, ty4), (9, ty9), (5, ty5), (29, ty29), (2, ty2), (12, ty12), (13, ty13), (21, ty21), (22, ty22), (23, ty23), (25, ty25), (28, ty28), (30, ty30), (31, ty31), (34, ty34), (38, ty38), (41, ty41), (42, ty42), (43, ty43), (50, ty50), (60, ty60), (73, ty73), (80, ty80), (85, ty85), (86, ty86), (87, ty87), (99, ty99), (103, ty103)]
theorem G_ok : TyOk Try.prog G :=
  .cons ty3_ok (.cons ty4_ok (.cons ty9_ok (.cons ty5_ok (.cons ty29_ok (.cons ty2_ok (.cons ty12_ok (.cons ty13_ok (.cons ty21_ok (.cons ty22_ok (.cons ty23_ok (.cons ty25_ok (.cons ty28_ok (.cons ty30_ok (.cons ty31_ok (.cons ty34_ok (.cons ty38_ok (.cons ty41_ok (.cons ty42_ok (.cons ty43_ok (.cons ty50_ok (.cons ty60_ok (.cons ty73_ok (.cons ty80_ok (.cons ty85_ok (.cons ty86_ok (.cons ty87_ok (.cons ty99_ok (.cons ty103_ok (.nil)))))))))))))))))))))))))))))
end Go.Proofs.Ythihffgmmkhlhaa
