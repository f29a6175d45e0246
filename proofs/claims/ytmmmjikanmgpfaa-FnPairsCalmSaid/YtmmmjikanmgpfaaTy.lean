/-
  The types of this translation, as the executor wants them. Conditions: none.
-/
import Derived.Test.YtmmmjikanmgpfaaProg
import Derived.Test.YtmmmjikanmgpfaaSx
import Derived.KernelRfl
namespace Go.Proofs.Ytmmmjikanmgpfaa
open Go.SX Go.Proofs
def ty3 : TI := ⟨.int .i64, 1, 8, .int .i64 0⟩
theorem ty3_ok : ty3.ok Try.prog 3 := ⟨Try.underlying3, by kernel_rfl⟩
def ty4 : TI := ⟨.bool, 1, 1, .bool false⟩
theorem ty4_ok : ty4.ok Try.prog 4 := ⟨Try.underlying4, by kernel_rfl⟩
def ty9 : TI := ⟨.string, 1, 16, .string .empty⟩
theorem ty9_ok : ty9.ok Try.prog 9 := ⟨Try.underlying9, by kernel_rfl⟩
def ty5 : TI := ⟨.int .u8, 1, 1, .int .u8 0⟩
theorem ty5_ok : ty5.ok Try.prog 5 := ⟨Try.underlying5, by kernel_rfl⟩
def ty29 : TI := ⟨.slice 3, 1, 24, .slice none 0 0⟩
theorem ty29_ok : ty29.ok Try.prog 29 := ⟨Try.underlying29, by kernel_rfl⟩
def ty2 : TI := ⟨.int .i64, 1, 8, .int .i64 0⟩
theorem ty2_ok : ty2.ok Try.prog 2 := ⟨Try.underlying2, by kernel_rfl⟩
def ty12 : TI := ⟨.int .u64, 1, 8, .int .u64 0⟩
theorem ty12_ok : ty12.ok Try.prog 12 := ⟨Try.underlying12, by kernel_rfl⟩
def ty13 : TI := ⟨.struct [(0, 9), (1, 12)], 2, 24, .agg #[.string .empty, .int .u64 0]⟩
theorem ty13_ok : ty13.ok Try.prog 13 := ⟨⟨_, Try.underlying13, by kernel_rfl⟩, by kernel_rfl⟩
def ty21 : TI := ⟨.int .i32, 1, 4, .int .i32 0⟩
theorem ty21_ok : ty21.ok Try.prog 21 := ⟨Try.underlying21, by kernel_rfl⟩
def ty22 : TI := ⟨.slice 5, 1, 24, .slice none 0 0⟩
theorem ty22_ok : ty22.ok Try.prog 22 := ⟨Try.underlying22, by kernel_rfl⟩
def ty24 : TI := ⟨.slice 35, 1, 24, .slice none 0 0⟩
theorem ty24_ok : ty24.ok Try.prog 24 := ⟨Try.underlying24, by kernel_rfl⟩
def ty26 : TI := ⟨.slice 45, 1, 24, .slice none 0 0⟩
theorem ty26_ok : ty26.ok Try.prog 26 := ⟨Try.underlying26, by kernel_rfl⟩
def ty27 : TI := ⟨.slice 9, 1, 24, .slice none 0 0⟩
theorem ty27_ok : ty27.ok Try.prog 27 := ⟨Try.underlying27, by kernel_rfl⟩
def ty28 : TI := ⟨.slice 27, 1, 24, .slice none 0 0⟩
theorem ty28_ok : ty28.ok Try.prog 28 := ⟨Try.underlying28, by kernel_rfl⟩
def ty30 : TI := ⟨.struct [(0, 26), (1, 27), (2, 28), (3, 29)], 4, 96, .agg #[.slice none 0 0, .slice none 0 0, .slice none 0 0, .slice none 0 0]⟩
theorem ty30_ok : ty30.ok Try.prog 30 := ⟨⟨_, Try.underlying30, by kernel_rfl⟩, by kernel_rfl⟩
def ty31 : TI := ⟨.struct [(0, 26), (1, 27), (2, 28), (3, 29)], 4, 96, .agg #[.slice none 0 0, .slice none 0 0, .slice none 0 0, .slice none 0 0]⟩
theorem ty31_ok : ty31.ok Try.prog 31 := ⟨⟨_, Try.underlying31, by kernel_rfl⟩, by kernel_rfl⟩
def ty34 : TI := ⟨.struct [(0, 3), (1, 3), (2, 3), (3, 9)], 4, 40, .agg #[.int .i64 0, .int .i64 0, .int .i64 0, .string .empty]⟩
theorem ty34_ok : ty34.ok Try.prog 34 := ⟨⟨_, Try.underlying34, by kernel_rfl⟩, by kernel_rfl⟩
def ty35 : TI := ⟨.struct [(0, 3), (1, 3), (2, 3), (3, 9)], 4, 40, .agg #[.int .i64 0, .int .i64 0, .int .i64 0, .string .empty]⟩
theorem ty35_ok : ty35.ok Try.prog 35 := ⟨⟨_, Try.underlying35, by kernel_rfl⟩, by kernel_rfl⟩
def ty44 : TI := ⟨.struct [(0, 27), (1, 3), (2, 3)], 3, 40, .agg #[.slice none 0 0, .int .i64 0, .int .i64 0]⟩
theorem ty44_ok : ty44.ok Try.prog 44 := ⟨⟨_, Try.underlying44, by kernel_rfl⟩, by kernel_rfl⟩
def ty45 : TI := ⟨.struct [(0, 27), (1, 3), (2, 3)], 3, 40, .agg #[.slice none 0 0, .int .i64 0, .int .i64 0]⟩
theorem ty45_ok : ty45.ok Try.prog 45 := ⟨⟨_, Try.underlying45, by kernel_rfl⟩, by kernel_rfl⟩
def ty46 : TI := ⟨.slice 66, 1, 24, .slice none 0 0⟩
theorem ty46_ok : ty46.ok Try.prog 46 := ⟨Try.underlying46, by kernel_rfl⟩
def ty55 : TI := ⟨.pointer 78, 1, 8, .pointer none⟩
theorem ty55_ok : ty55.ok Try.prog 55 := ⟨Try.underlying55, by kernel_rfl⟩
def ty58 : TI := ⟨.pointer 31, 1, 8, .pointer none⟩
theorem ty58_ok : ty58.ok Try.prog 58 := ⟨Try.underlying58, by kernel_rfl⟩
def ty62 : TI := ⟨.slice 89, 1, 24, .slice none 0 0⟩
theorem ty62_ok : ty62.ok Try.prog 62 := ⟨Try.underlying62, by kernel_rfl⟩
def ty66 : TI := ⟨.struct [(0, 3), (1, 3), (2, 3), (3, 9)], 4, 40, .agg #[.int .i64 0, .int .i64 0, .int .i64 0, .string .empty]⟩
theorem ty66_ok : ty66.ok Try.prog 66 := ⟨⟨_, Try.underlying66, by kernel_rfl⟩, by kernel_rfl⟩
def ty77 : TI := ⟨.struct [(0, 22), (1, 3), (2, 3)], 3, 40, .agg #[.slice none 0 0, .int .i64 0, .int .i64 0]⟩
theorem ty77_ok : ty77.ok Try.prog 77 := ⟨⟨_, Try.underlying77, by kernel_rfl⟩, by kernel_rfl⟩
def ty78 : TI := ⟨.struct [(0, 22), (1, 3), (2, 3)], 3, 40, .agg #[.slice none 0 0, .int .i64 0, .int .i64 0]⟩
theorem ty78_ok : ty78.ok Try.prog 78 := ⟨⟨_, Try.underlying78, by kernel_rfl⟩, by kernel_rfl⟩
def ty88 : TI := ⟨.struct [(0, 3), (1, 3), (2, 3), (3, 3), (4, 3), (5, 9)], 6, 56, .agg #[.int .i64 0, .int .i64 0, .int .i64 0, .int .i64 0, .int .i64 0, .string .empty]⟩
theorem ty88_ok : ty88.ok Try.prog 88 := ⟨⟨_, Try.underlying88, by kernel_rfl⟩, by kernel_rfl⟩
def ty89 : TI := ⟨.struct [(0, 3), (1, 3), (2, 3), (3, 3), (4, 3), (5, 9)], 6, 56, .agg #[.int .i64 0, .int .i64 0, .int .i64 0, .int .i64 0, .int .i64 0, .string .empty]⟩
theorem ty89_ok : ty89.ok Try.prog 89 := ⟨⟨_, Try.underlying89, by kernel_rfl⟩, by kernel_rfl⟩
def ty104 : TI := ⟨.struct [(0, 9), (1, 3), (2, 4)], 3, 32, .agg #[.string .empty, .int .i64 0, .bool false]⟩
theorem ty104_ok : ty104.ok Try.prog 104 := ⟨⟨_, Try.underlying104, by kernel_rfl⟩, by kernel_rfl⟩
def ty105 : TI := ⟨.struct [(0, 9), (1, 3), (2, 4)], 3, 32, .agg #[.string .empty, .int .i64 0, .bool false]⟩
theorem ty105_ok : ty105.ok Try.prog 105 := ⟨⟨_, Try.underlying105, by kernel_rfl⟩, by kernel_rfl⟩
def ty110 : TI := ⟨.pointer 112, 1, 8, .pointer none⟩
theorem ty110_ok : ty110.ok Try.prog 110 := ⟨Try.underlying110, by kernel_rfl⟩
def ty111 : TI := ⟨.struct [(0, 9), (1, 3), (2, 4)], 3, 32, .agg #[.string .empty, .int .i64 0, .bool false]⟩
theorem ty111_ok : ty111.ok Try.prog 111 := ⟨⟨_, Try.underlying111, by kernel_rfl⟩, by kernel_rfl⟩
def ty112 : TI := ⟨.struct [(0, 9), (1, 3), (2, 4)], 3, 32, .agg #[.string .empty, .int .i64 0, .bool false]⟩
theorem ty112_ok : ty112.ok Try.prog 112 := ⟨⟨_, Try.underlying112, by kernel_rfl⟩, by kernel_rfl⟩
def ty115 : TI := ⟨.pointer 105, 1, 8, .pointer none⟩
theorem ty115_ok : ty115.ok Try.prog 115 := ⟨Try.underlying115, by kernel_rfl⟩
def ty118 : TI := ⟨.int .u64, 1, 8, .int .u64 0⟩
theorem ty118_ok : ty118.ok Try.prog 118 := ⟨Try.underlying118, by kernel_rfl⟩
def ty120 : TI := ⟨.int .u32, 1, 4, .int .u32 0⟩
theorem ty120_ok : ty120.ok Try.prog 120 := ⟨Try.underlying120, by kernel_rfl⟩
def ty131 : TI := ⟨.pointer 5, 1, 8, .pointer none⟩
theorem ty131_ok : ty131.ok Try.prog 131 := ⟨Try.underlying131, by kernel_rfl⟩
def G : Ty := [(3, ty3), (4, ty4), (9, ty9), (5, ty5), (29, ty29), (2, ty2), (12, ty12), (13, ty13), (21, ty21), (22, ty22), (24, ty24), (26, ty26), (27, ty27), (28, ty28), (30, ty30), (31, ty31), (34, ty34), (35, ty35), (44, ty44), (45, ty45), (46, ty46), (55, ty55), (58, ty58), (62, ty62), (66, ty66), (77, ty77), (78, ty78), (88, ty88), (89, ty89), (104, ty104), (105, ty105), (110, ty110), (111, ty111), (112, ty112), (115, ty115), (118, ty118), (120, ty120), (131, ty131)]
theorem G_ok : TyOk Try.prog G :=
  .cons ty3_ok (.cons ty4_ok (.cons ty9_ok (.cons ty5_ok (.cons ty29_ok (.cons ty2_ok (.cons ty12_ok (.cons ty13_ok (.cons ty21_ok (.cons ty22_ok (.cons ty24_ok (.cons ty26_ok (.cons ty27_ok (.cons ty28_ok (.cons ty30_ok (.cons ty31_ok (.cons ty34_ok (.cons ty35_ok (.cons ty44_ok (.cons ty45_ok (.cons ty46_ok (.cons ty55_ok (.cons ty58_ok (.cons ty62_ok (.cons ty66_ok (.cons ty77_ok (.cons ty78_ok (.cons ty88_ok (.cons ty89_ok (.cons ty104_ok (.cons ty105_ok (.cons ty110_ok (.cons ty111_ok (.cons ty112_ok (.cons ty115_ok (.cons ty118_ok (.cons ty120_ok (.cons ty131_ok (.nil))))))))))))))))))))))))))))))))))))))
end Go.Proofs.Ytmmmjikanmgpfaa
