/-
  The types of this translation, as the executor wants them. Conditions: none.
-/
import Derived.Test.YtcnclhjhnjpeiaaDoorProg
import Derived.Test.YtcnclhjhnjpeiaaDoorSx
import Derived.KernelRfl
namespace Go.Proofs.YtcnclhjhnjpeiaaDoor
open Go.SX Go.Proofs
def ty3 : TI := ⟨.int .i64, 1, 8, .int .i64 0⟩
theorem ty3_ok : ty3.ok Tryd.prog 3 := ⟨Tryd.underlying3, by kernel_rfl⟩
def ty4 : TI := ⟨.bool, 1, 1, .bool false⟩
theorem ty4_ok : ty4.ok Tryd.prog 4 := ⟨Tryd.underlying4, by kernel_rfl⟩
def ty9 : TI := ⟨.string, 1, 16, .string .empty⟩
theorem ty9_ok : ty9.ok Tryd.prog 9 := ⟨Tryd.underlying9, by kernel_rfl⟩
def ty5 : TI := ⟨.int .u8, 1, 1, .int .u8 0⟩
theorem ty5_ok : ty5.ok Tryd.prog 5 := ⟨Tryd.underlying5, by kernel_rfl⟩
def ty102 : TI := ⟨.slice 3, 1, 24, .slice none 0 0⟩
theorem ty102_ok : ty102.ok Tryd.prog 102 := ⟨Tryd.underlying102, by kernel_rfl⟩
def ty2 : TI := ⟨.int .i64, 1, 8, .int .i64 0⟩
theorem ty2_ok : ty2.ok Tryd.prog 2 := ⟨Tryd.underlying2, by kernel_rfl⟩
def ty12 : TI := ⟨.int .u64, 1, 8, .int .u64 0⟩
theorem ty12_ok : ty12.ok Tryd.prog 12 := ⟨Tryd.underlying12, by kernel_rfl⟩
def ty13 : TI := ⟨.struct [(0, 9), (1, 12)], 2, 24, .agg #[.string .empty, .int .u64 0]⟩
theorem ty13_ok : ty13.ok Tryd.prog 13 := ⟨⟨_, Tryd.underlying13, by kernel_rfl⟩, by kernel_rfl⟩
def ty21 : TI := ⟨.int .i32, 1, 4, .int .i32 0⟩
theorem ty21_ok : ty21.ok Tryd.prog 21 := ⟨Tryd.underlying21, by kernel_rfl⟩
def ty22 : TI := ⟨.slice 72, 1, 24, .slice none 0 0⟩
theorem ty22_ok : ty22.ok Tryd.prog 22 := ⟨Tryd.underlying22, by kernel_rfl⟩
def ty23 : TI := ⟨.struct [(0, 3), (1, 22)], 2, 32, .agg #[.int .i64 0, .slice none 0 0]⟩
theorem ty23_ok : ty23.ok Tryd.prog 23 := ⟨⟨_, Tryd.underlying23, by kernel_rfl⟩, by kernel_rfl⟩
def ty24 : TI := ⟨.struct [(0, 3), (1, 22)], 2, 32, .agg #[.int .i64 0, .slice none 0 0]⟩
theorem ty24_ok : ty24.ok Tryd.prog 24 := ⟨⟨_, Tryd.underlying24, by kernel_rfl⟩, by kernel_rfl⟩
def ty27 : TI := ⟨.slice 42, 1, 24, .slice none 0 0⟩
theorem ty27_ok : ty27.ok Tryd.prog 27 := ⟨Tryd.underlying27, by kernel_rfl⟩
def ty28 : TI := ⟨.struct [(0, 3), (1, 27)], 2, 32, .agg #[.int .i64 0, .slice none 0 0]⟩
theorem ty28_ok : ty28.ok Tryd.prog 28 := ⟨⟨_, Tryd.underlying28, by kernel_rfl⟩, by kernel_rfl⟩
def ty29 : TI := ⟨.struct [(0, 3), (1, 27)], 2, 32, .agg #[.int .i64 0, .slice none 0 0]⟩
theorem ty29_ok : ty29.ok Tryd.prog 29 := ⟨⟨_, Tryd.underlying29, by kernel_rfl⟩, by kernel_rfl⟩
def ty37 : TI := ⟨.slice 5, 1, 24, .slice none 0 0⟩
theorem ty37_ok : ty37.ok Tryd.prog 37 := ⟨Tryd.underlying37, by kernel_rfl⟩
def ty41 : TI := ⟨.struct [(0, 3), (1, 5), (2, 3)], 3, 24, .agg #[.int .i64 0, .int .u8 0, .int .i64 0]⟩
theorem ty41_ok : ty41.ok Tryd.prog 41 := ⟨⟨_, Tryd.underlying41, by kernel_rfl⟩, by kernel_rfl⟩
def ty42 : TI := ⟨.struct [(0, 3), (1, 5), (2, 3)], 3, 24, .agg #[.int .i64 0, .int .u8 0, .int .i64 0]⟩
theorem ty42_ok : ty42.ok Tryd.prog 42 := ⟨⟨_, Tryd.underlying42, by kernel_rfl⟩, by kernel_rfl⟩
def ty47 : TI := ⟨.pointer 49, 1, 8, .pointer none⟩
theorem ty47_ok : ty47.ok Tryd.prog 47 := ⟨Tryd.underlying47, by kernel_rfl⟩
def ty48 : TI := ⟨.struct [(0, 47), (1, 37)], 2, 32, .agg #[.pointer none, .slice none 0 0]⟩
theorem ty48_ok : ty48.ok Tryd.prog 48 := ⟨⟨_, Tryd.underlying48, by kernel_rfl⟩, by kernel_rfl⟩
def ty49 : TI := ⟨.struct [(0, 47), (1, 37)], 2, 32, .agg #[.pointer none, .slice none 0 0]⟩
theorem ty49_ok : ty49.ok Tryd.prog 49 := ⟨⟨_, Tryd.underlying49, by kernel_rfl⟩, by kernel_rfl⟩
def ty57 : TI := ⟨.slice 9, 1, 24, .slice none 0 0⟩
theorem ty57_ok : ty57.ok Tryd.prog 57 := ⟨Tryd.underlying57, by kernel_rfl⟩
def ty65 : TI := ⟨.pointer 88, 1, 8, .pointer none⟩
theorem ty65_ok : ty65.ok Tryd.prog 65 := ⟨Tryd.underlying65, by kernel_rfl⟩
def ty72 : TI := ⟨.struct [(0, 3), (1, 5), (2, 3)], 3, 24, .agg #[.int .i64 0, .int .u8 0, .int .i64 0]⟩
theorem ty72_ok : ty72.ok Tryd.prog 72 := ⟨⟨_, Tryd.underlying72, by kernel_rfl⟩, by kernel_rfl⟩
def ty75 : TI := ⟨.pointer 5, 1, 8, .pointer none⟩
theorem ty75_ok : ty75.ok Tryd.prog 75 := ⟨Tryd.underlying75, by kernel_rfl⟩
def ty87 : TI := ⟨.struct [(0, 37), (1, 3), (2, 3)], 3, 40, .agg #[.slice none 0 0, .int .i64 0, .int .i64 0]⟩
theorem ty87_ok : ty87.ok Tryd.prog 87 := ⟨⟨_, Tryd.underlying87, by kernel_rfl⟩, by kernel_rfl⟩
def ty88 : TI := ⟨.struct [(0, 37), (1, 3), (2, 3)], 3, 40, .agg #[.slice none 0 0, .int .i64 0, .int .i64 0]⟩
theorem ty88_ok : ty88.ok Tryd.prog 88 := ⟨⟨_, Tryd.underlying88, by kernel_rfl⟩, by kernel_rfl⟩
def ty108 : TI := ⟨.int .u64, 1, 8, .int .u64 0⟩
theorem ty108_ok : ty108.ok Tryd.prog 108 := ⟨Tryd.underlying108, by kernel_rfl⟩
def ty112 : TI := ⟨.int .u64, 1, 8, .int .u64 0⟩
theorem ty112_ok : ty112.ok Tryd.prog 112 := ⟨Tryd.underlying112, by kernel_rfl⟩
def ty125 : TI := ⟨.int .u32, 1, 4, .int .u32 0⟩
theorem ty125_ok : ty125.ok Tryd.prog 125 := ⟨Tryd.underlying125, by kernel_rfl⟩
def ty131 : TI := ⟨.struct [(0, 5), (1, 5)], 2, 2, .agg #[.int .u8 0, .int .u8 0]⟩
theorem ty131_ok : ty131.ok Tryd.prog 131 := ⟨⟨_, Tryd.underlying131, by kernel_rfl⟩, by kernel_rfl⟩
def ty132 : TI := ⟨.struct [(0, 5), (1, 5)], 2, 2, .agg #[.int .u8 0, .int .u8 0]⟩
theorem ty132_ok : ty132.ok Tryd.prog 132 := ⟨⟨_, Tryd.underlying132, by kernel_rfl⟩, by kernel_rfl⟩
def G : Ty := [(3, ty3), (4, ty4), (9, ty9), (5, ty5), (102, ty102), (2, ty2), (12, ty12), (13, ty13), (21, ty21), (22, ty22), (23, ty23), (24, ty24), (27, ty27), (28, ty28), (29, ty29), (37, ty37), (41, ty41), (42, ty42), (47, ty47), (48, ty48), (49, ty49), (57, ty57), (65, ty65), (72, ty72), (75, ty75), (87, ty87), (88, ty88), (108, ty108), (112, ty112), (125, ty125), (131, ty131), (132, ty132)]
theorem G_ok : TyOk Tryd.prog G :=
  .cons ty3_ok (.cons ty4_ok (.cons ty9_ok (.cons ty5_ok (.cons ty102_ok (.cons ty2_ok (.cons ty12_ok (.cons ty13_ok (.cons ty21_ok (.cons ty22_ok (.cons ty23_ok (.cons ty24_ok (.cons ty27_ok (.cons ty28_ok (.cons ty29_ok (.cons ty37_ok (.cons ty41_ok (.cons ty42_ok (.cons ty47_ok (.cons ty48_ok (.cons ty49_ok (.cons ty57_ok (.cons ty65_ok (.cons ty72_ok (.cons ty75_ok (.cons ty87_ok (.cons ty88_ok (.cons ty108_ok (.cons ty112_ok (.cons ty125_ok (.cons ty131_ok (.cons ty132_ok (.nil))))))))))))))))))))))))))))))))
end Go.Proofs.YtcnclhjhnjpeiaaDoor
