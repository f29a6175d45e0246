/-
  The types of this translation, as the executor wants them. Conditions: none.
-/
import Derived.Test.YthihffgmmkhlhaaProg
import Derived.Test.YthihffgmmkhlhaaSx
import Derived.KernelRfl
namespace Go.Proofs.Ythihffgmmkhlhaa
open Go.SX Go.Proofs
/-- int -/
def ty3 : TI := ⟨.int .i64, 1, 8, .int .i64 0⟩
theorem ty3_ok : ty3.ok Try.prog 3 := ⟨Try.underlying3, by kernel_rfl⟩
/-- bool -/
def ty4 : TI := ⟨.bool, 1, 1, .bool false⟩
theorem ty4_ok : ty4.ok Try.prog 4 := ⟨Try.underlying4, by kernel_rfl⟩
/-- string -/
def ty9 : TI := ⟨.string, 1, 16, .string .empty⟩
theorem ty9_ok : ty9.ok Try.prog 9 := ⟨Try.underlying9, by kernel_rfl⟩
/-- uint8 -/
def ty5 : TI := ⟨.int .u8, 1, 1, .int .u8 0⟩
theorem ty5_ok : ty5.ok Try.prog 5 := ⟨Try.underlying5, by kernel_rfl⟩
/-- []int -/
def ty29 : TI := ⟨.slice 3, 1, 24, .slice none 0 0⟩
theorem ty29_ok : ty29.ok Try.prog 29 := ⟨Try.underlying29, by kernel_rfl⟩
/-- func() -/
def ty1 : TI := ⟨.func, 1, 8, .nilFunc⟩
theorem ty1_ok : ty1.ok Try.prog 1 := ⟨⟨_, _, _, Try.underlying1⟩, by kernel_rfl⟩
/-- int64 -/
def ty2 : TI := ⟨.int .i64, 1, 8, .int .i64 0⟩
theorem ty2_ok : ty2.ok Try.prog 2 := ⟨Try.underlying2, by kernel_rfl⟩
/-- uintptr -/
def ty12 : TI := ⟨.int .u64, 1, 8, .int .u64 0⟩
theorem ty12_ok : ty12.ok Try.prog 12 := ⟨Try.underlying12, by kernel_rfl⟩
/-- struct   msg string  addr uintptr   -/
def ty13 : TI := ⟨.struct [(0, 9), (1, 12)], 2, 24, .agg #[.string .empty, .int .u64 0]⟩
theorem ty13_ok : ty13.ok Try.prog 13 := ⟨⟨_, Try.underlying13, by kernel_rfl⟩, by kernel_rfl⟩
/-- int32 -/
def ty21 : TI := ⟨.int .i32, 1, 4, .int .i32 0⟩
theorem ty21_ok : ty21.ok Try.prog 21 := ⟨Try.underlying21, by kernel_rfl⟩
/-- struct   Kind int  Node int  At int   -/
def ty22 : TI := ⟨.struct [(0, 3), (1, 3), (2, 3)], 3, 24, .agg #[.int .i64 0, .int .i64 0, .int .i64 0]⟩
theorem ty22_ok : ty22.ok Try.prog 22 := ⟨⟨_, Try.underlying22, by kernel_rfl⟩, by kernel_rfl⟩
/-- laws.Event -/
def ty23 : TI := ⟨.struct [(0, 3), (1, 3), (2, 3)], 3, 24, .agg #[.int .i64 0, .int .i64 0, .int .i64 0]⟩
theorem ty23_ok : ty23.ok Try.prog 23 := ⟨⟨_, Try.underlying23, by kernel_rfl⟩, by kernel_rfl⟩
/-- func(impl.Event) bool -/
def ty24 : TI := ⟨.func, 1, 8, .nilFunc⟩
theorem ty24_ok : ty24.ok Try.prog 24 := ⟨⟨_, _, _, Try.underlying24⟩, by kernel_rfl⟩
/-- impl.Event -/
def ty25 : TI := ⟨.struct [(0, 3), (1, 3), (2, 3)], 3, 24, .agg #[.int .i64 0, .int .i64 0, .int .i64 0]⟩
theorem ty25_ok : ty25.ok Try.prog 25 := ⟨⟨_, Try.underlying25, by kernel_rfl⟩, by kernel_rfl⟩
/-- func(laws.Event) impl.Event -/
def ty26 : TI := ⟨.func, 1, 8, .nilFunc⟩
theorem ty26_ok : ty26.ok Try.prog 26 := ⟨⟨_, _, _, Try.underlying26⟩, by kernel_rfl⟩
/-- func(laws.Event) bool -/
def ty27 : TI := ⟨.func, 1, 8, .nilFunc⟩
theorem ty27_ok : ty27.ok Try.prog 27 := ⟨⟨_, _, _, Try.underlying27⟩, by kernel_rfl⟩
/-- []bool -/
def ty28 : TI := ⟨.slice 4, 1, 24, .slice none 0 0⟩
theorem ty28_ok : ty28.ok Try.prog 28 := ⟨Try.underlying28, by kernel_rfl⟩
/-- struct   Actives []bool  Counts []int  Blacks []bool  Flying []int  Held int  Nu -/
def ty30 : TI := ⟨.struct [(0, 28), (1, 29), (2, 28), (3, 29), (4, 3), (5, 3), (6, 4), (7, 4)], 8, 120, .agg #[.slice none 0 0, .slice none 0 0, .slice none 0 0, .slice none 0 0, .int .i64 0, .int .i64 0, .bool false, .bool false]⟩
theorem ty30_ok : ty30.ok Try.prog 30 := ⟨⟨_, Try.underlying30, by kernel_rfl⟩, by kernel_rfl⟩
/-- laws.Ring -/
def ty31 : TI := ⟨.struct [(0, 28), (1, 29), (2, 28), (3, 29), (4, 3), (5, 3), (6, 4), (7, 4)], 8, 120, .agg #[.slice none 0 0, .slice none 0 0, .slice none 0 0, .slice none 0 0, .int .i64 0, .int .i64 0, .bool false, .bool false]⟩
theorem ty31_ok : ty31.ok Try.prog 31 := ⟨⟨_, Try.underlying31, by kernel_rfl⟩, by kernel_rfl⟩
/-- func(laws.Ring  int) int -/
def ty32 : TI := ⟨.func, 1, 8, .nilFunc⟩
theorem ty32_ok : ty32.ok Try.prog 32 := ⟨⟨_, _, _, Try.underlying32⟩, by kernel_rfl⟩
/-- func(impl.Ring) bool -/
def ty33 : TI := ⟨.func, 1, 8, .nilFunc⟩
theorem ty33_ok : ty33.ok Try.prog 33 := ⟨⟨_, _, _, Try.underlying33⟩, by kernel_rfl⟩
/-- impl.Ring -/
def ty34 : TI := ⟨.struct [(0, 28), (1, 29), (2, 28), (3, 29), (4, 3), (5, 3), (6, 4), (7, 4)], 8, 120, .agg #[.slice none 0 0, .slice none 0 0, .slice none 0 0, .slice none 0 0, .int .i64 0, .int .i64 0, .bool false, .bool false]⟩
theorem ty34_ok : ty34.ok Try.prog 34 := ⟨⟨_, Try.underlying34, by kernel_rfl⟩, by kernel_rfl⟩
/-- func(laws.Ring) impl.Ring -/
def ty35 : TI := ⟨.func, 1, 8, .nilFunc⟩
theorem ty35_ok : ty35.ok Try.prog 35 := ⟨⟨_, _, _, Try.underlying35⟩, by kernel_rfl⟩
/-- func(impl.Ring  impl.Ring) bool -/
def ty36 : TI := ⟨.func, 1, 8, .nilFunc⟩
theorem ty36_ok : ty36.ok Try.prog 36 := ⟨⟨_, _, _, Try.underlying36⟩, by kernel_rfl⟩
/-- func(laws.Ring) bool -/
def ty37 : TI := ⟨.func, 1, 8, .nilFunc⟩
theorem ty37_ok : ty37.ok Try.prog 37 := ⟨⟨_, _, _, Try.underlying37⟩, by kernel_rfl⟩
/-- []uint8 -/
def ty38 : TI := ⟨.slice 5, 1, 24, .slice none 0 0⟩
theorem ty38_ok : ty38.ok Try.prog 38 := ⟨Try.underlying38, by kernel_rfl⟩
/-- func([]uint8) bool -/
def ty39 : TI := ⟨.func, 1, 8, .nilFunc⟩
theorem ty39_ok : ty39.ok Try.prog 39 := ⟨⟨_, _, _, Try.underlying39⟩, by kernel_rfl⟩
/-- func([]uint8) []int -/
def ty40 : TI := ⟨.func, 1, 8, .nilFunc⟩
theorem ty40_ok : ty40.ok Try.prog 40 := ⟨⟨_, _, _, Try.underlying40⟩, by kernel_rfl⟩
/-- []impl.Turn -/
def ty41 : TI := ⟨.slice 43, 1, 24, .slice none 0 0⟩
theorem ty41_ok : ty41.ok Try.prog 41 := ⟨Try.underlying41, by kernel_rfl⟩
/-- struct   Kind int  At int  To int   -/
def ty42 : TI := ⟨.struct [(0, 3), (1, 3), (2, 3)], 3, 24, .agg #[.int .i64 0, .int .i64 0, .int .i64 0]⟩
theorem ty42_ok : ty42.ok Try.prog 42 := ⟨⟨_, Try.underlying42, by kernel_rfl⟩, by kernel_rfl⟩
/-- impl.Turn -/
def ty43 : TI := ⟨.struct [(0, 3), (1, 3), (2, 3)], 3, 24, .agg #[.int .i64 0, .int .i64 0, .int .i64 0]⟩
theorem ty43_ok : ty43.ok Try.prog 43 := ⟨⟨_, Try.underlying43, by kernel_rfl⟩, by kernel_rfl⟩
/-- func(int  []impl.Turn) (impl.Ring  []int  bool) -/
def ty45 : TI := ⟨.func, 1, 8, .nilFunc⟩
theorem ty45_ok : ty45.ok Try.prog 45 := ⟨⟨_, _, _, Try.underlying45⟩, by kernel_rfl⟩
/-- func(impl.Ring) impl.Ring -/
def ty46 : TI := ⟨.func, 1, 8, .nilFunc⟩
theorem ty46_ok : ty46.ok Try.prog 46 := ⟨⟨_, _, _, Try.underlying46⟩, by kernel_rfl⟩
/-- func([]uint8) (int  []impl.Turn) -/
def ty48 : TI := ⟨.func, 1, 8, .nilFunc⟩
theorem ty48_ok : ty48.ok Try.prog 48 := ⟨⟨_, _, _, Try.underlying48⟩, by kernel_rfl⟩
/-- func([]int  []int) bool -/
def ty49 : TI := ⟨.func, 1, 8, .nilFunc⟩
theorem ty49_ok : ty49.ok Try.prog 49 := ⟨⟨_, _, _, Try.underlying49⟩, by kernel_rfl⟩
/-- laws.Turn -/
def ty50 : TI := ⟨.struct [(0, 3), (1, 3), (2, 3)], 3, 24, .agg #[.int .i64 0, .int .i64 0, .int .i64 0]⟩
theorem ty50_ok : ty50.ok Try.prog 50 := ⟨⟨_, Try.underlying50, by kernel_rfl⟩, by kernel_rfl⟩
/-- func(impl.Ring  impl.Turn) (impl.Ring  bool) -/
def ty52 : TI := ⟨.func, 1, 8, .nilFunc⟩
theorem ty52_ok : ty52.ok Try.prog 52 := ⟨⟨_, _, _, Try.underlying52⟩, by kernel_rfl⟩
/-- func(laws.Turn) impl.Turn -/
def ty53 : TI := ⟨.func, 1, 8, .nilFunc⟩
theorem ty53_ok : ty53.ok Try.prog 53 := ⟨⟨_, _, _, Try.underlying53⟩, by kernel_rfl⟩
/-- func(impl.Ring  int) int -/
def ty54 : TI := ⟨.func, 1, 8, .nilFunc⟩
theorem ty54_ok : ty54.ok Try.prog 54 := ⟨⟨_, _, _, Try.underlying54⟩, by kernel_rfl⟩
/-- func(laws.Ring  laws.Turn) bool -/
def ty55 : TI := ⟨.func, 1, 8, .nilFunc⟩
theorem ty55_ok : ty55.ok Try.prog 55 := ⟨⟨_, _, _, Try.underlying55⟩, by kernel_rfl⟩
/-- func([]uint8) (impl.Ring  impl.Turn) -/
def ty57 : TI := ⟨.func, 1, 8, .nilFunc⟩
theorem ty57_ok : ty57.ok Try.prog 57 := ⟨⟨_, _, _, Try.underlying57⟩, by kernel_rfl⟩
/-- func([]uint8) impl.Ring -/
def ty58 : TI := ⟨.func, 1, 8, .nilFunc⟩
theorem ty58_ok : ty58.ok Try.prog 58 := ⟨⟨_, _, _, Try.underlying58⟩, by kernel_rfl⟩
/-- func(int) (impl.Ring  bool) -/
def ty59 : TI := ⟨.func, 1, 8, .nilFunc⟩
theorem ty59_ok : ty59.ok Try.prog 59 := ⟨⟨_, _, _, Try.underlying59⟩, by kernel_rfl⟩
/-- []laws.Turn -/
def ty60 : TI := ⟨.slice 50, 1, 24, .slice none 0 0⟩
theorem ty60_ok : ty60.ok Try.prog 60 := ⟨Try.underlying60, by kernel_rfl⟩
/-- func([]laws.Turn  int) int -/
def ty61 : TI := ⟨.func, 1, 8, .nilFunc⟩
theorem ty61_ok : ty61.ok Try.prog 61 := ⟨⟨_, _, _, Try.underlying61⟩, by kernel_rfl⟩
/-- func([]laws.Turn) []impl.Turn -/
def ty62 : TI := ⟨.func, 1, 8, .nilFunc⟩
theorem ty62_ok : ty62.ok Try.prog 62 := ⟨⟨_, _, _, Try.underlying62⟩, by kernel_rfl⟩
/-- func([]impl.Turn  []impl.Turn) bool -/
def ty63 : TI := ⟨.func, 1, 8, .nilFunc⟩
theorem ty63_ok : ty63.ok Try.prog 63 := ⟨⟨_, _, _, Try.underlying63⟩, by kernel_rfl⟩
/-- func([]impl.Turn  int) int -/
def ty64 : TI := ⟨.func, 1, 8, .nilFunc⟩
theorem ty64_ok : ty64.ok Try.prog 64 := ⟨⟨_, _, _, Try.underlying64⟩, by kernel_rfl⟩
/-- func([]int  int) int -/
def ty65 : TI := ⟨.func, 1, 8, .nilFunc⟩
theorem ty65_ok : ty65.ok Try.prog 65 := ⟨⟨_, _, _, Try.underlying65⟩, by kernel_rfl⟩
/-- func(int  []laws.Turn) bool -/
def ty66 : TI := ⟨.func, 1, 8, .nilFunc⟩
theorem ty66_ok : ty66.ok Try.prog 66 := ⟨⟨_, _, _, Try.underlying66⟩, by kernel_rfl⟩
/-- func(int  int  int) bool -/
def ty67 : TI := ⟨.func, 1, 8, .nilFunc⟩
theorem ty67_ok : ty67.ok Try.prog 67 := ⟨⟨_, _, _, Try.underlying67⟩, by kernel_rfl⟩
/-- func(int) bool -/
def ty68 : TI := ⟨.func, 1, 8, .nilFunc⟩
theorem ty68_ok : ty68.ok Try.prog 68 := ⟨⟨_, _, _, Try.underlying68⟩, by kernel_rfl⟩
/-- func([]bool  int) int -/
def ty69 : TI := ⟨.func, 1, 8, .nilFunc⟩
theorem ty69_ok : ty69.ok Try.prog 69 := ⟨⟨_, _, _, Try.underlying69⟩, by kernel_rfl⟩
/-- func([]bool) []bool -/
def ty70 : TI := ⟨.func, 1, 8, .nilFunc⟩
theorem ty70_ok : ty70.ok Try.prog 70 := ⟨⟨_, _, _, Try.underlying70⟩, by kernel_rfl⟩
/-- func([]int) []int -/
def ty71 : TI := ⟨.func, 1, 8, .nilFunc⟩
theorem ty71_ok : ty71.ok Try.prog 71 := ⟨⟨_, _, _, Try.underlying71⟩, by kernel_rfl⟩
/-- func([]bool  []bool) bool -/
def ty72 : TI := ⟨.func, 1, 8, .nilFunc⟩
theorem ty72_ok : ty72.ok Try.prog 72 := ⟨⟨_, _, _, Try.underlying72⟩, by kernel_rfl⟩
/-- *spec.l01Cur -/
def ty73 : TI := ⟨.pointer 86, 1, 8, .pointer none⟩
theorem ty73_ok : ty73.ok Try.prog 73 := ⟨Try.underlying73, by kernel_rfl⟩
/-- func([]uint8) *spec.l01Cur -/
def ty74 : TI := ⟨.func, 1, 8, .nilFunc⟩
theorem ty74_ok : ty74.ok Try.prog 74 := ⟨⟨_, _, _, Try.underlying74⟩, by kernel_rfl⟩
/-- func(*spec.l01Cur) int -/
def ty75 : TI := ⟨.func, 1, 8, .nilFunc⟩
theorem ty75_ok : ty75.ok Try.prog 75 := ⟨⟨_, _, _, Try.underlying75⟩, by kernel_rfl⟩
/-- func(*spec.l01Cur  int) int -/
def ty76 : TI := ⟨.func, 1, 8, .nilFunc⟩
theorem ty76_ok : ty76.ok Try.prog 76 := ⟨⟨_, _, _, Try.underlying76⟩, by kernel_rfl⟩
/-- func(*spec.l01Cur  int) []impl.Turn -/
def ty77 : TI := ⟨.func, 1, 8, .nilFunc⟩
theorem ty77_ok : ty77.ok Try.prog 77 := ⟨⟨_, _, _, Try.underlying77⟩, by kernel_rfl⟩
/-- func([]bool  bool) bool -/
def ty78 : TI := ⟨.func, 1, 8, .nilFunc⟩
theorem ty78_ok : ty78.ok Try.prog 78 := ⟨⟨_, _, _, Try.underlying78⟩, by kernel_rfl⟩
/-- func(*impl.Ring) -/
def ty79 : TI := ⟨.func, 1, 8, .nilFunc⟩
theorem ty79_ok : ty79.ok Try.prog 79 := ⟨⟨_, _, _, Try.underlying79⟩, by kernel_rfl⟩
/-- *impl.Ring -/
def ty80 : TI := ⟨.pointer 34, 1, 8, .pointer none⟩
theorem ty80_ok : ty80.ok Try.prog 80 := ⟨Try.underlying80, by kernel_rfl⟩
/-- func(impl.Turn) bool -/
def ty81 : TI := ⟨.func, 1, 8, .nilFunc⟩
theorem ty81_ok : ty81.ok Try.prog 81 := ⟨⟨_, _, _, Try.underlying81⟩, by kernel_rfl⟩
/-- func(*spec.l01Cur) impl.Ring -/
def ty82 : TI := ⟨.func, 1, 8, .nilFunc⟩
theorem ty82_ok : ty82.ok Try.prog 82 := ⟨⟨_, _, _, Try.underlying82⟩, by kernel_rfl⟩
/-- func(*spec.l01Cur  int) bool -/
def ty83 : TI := ⟨.func, 1, 8, .nilFunc⟩
theorem ty83_ok : ty83.ok Try.prog 83 := ⟨⟨_, _, _, Try.underlying83⟩, by kernel_rfl⟩
/-- func(impl.Turn  impl.Turn) bool -/
def ty84 : TI := ⟨.func, 1, 8, .nilFunc⟩
theorem ty84_ok : ty84.ok Try.prog 84 := ⟨⟨_, _, _, Try.underlying84⟩, by kernel_rfl⟩
/-- struct   b []uint8  i int  h int   -/
def ty85 : TI := ⟨.struct [(0, 38), (1, 3), (2, 3)], 3, 40, .agg #[.slice none 0 0, .int .i64 0, .int .i64 0]⟩
theorem ty85_ok : ty85.ok Try.prog 85 := ⟨⟨_, Try.underlying85, by kernel_rfl⟩, by kernel_rfl⟩
/-- spec.l01Cur -/
def ty86 : TI := ⟨.struct [(0, 38), (1, 3), (2, 3)], 3, 40, .agg #[.slice none 0 0, .int .i64 0, .int .i64 0]⟩
theorem ty86_ok : ty86.ok Try.prog 86 := ⟨⟨_, Try.underlying86, by kernel_rfl⟩, by kernel_rfl⟩
/-- uint -/
def ty87 : TI := ⟨.int .u64, 1, 8, .int .u64 0⟩
theorem ty87_ok : ty87.ok Try.prog 87 := ⟨Try.underlying87, by kernel_rfl⟩
/-- func(*spec.l01Cur  []int) int -/
def ty88 : TI := ⟨.func, 1, 8, .nilFunc⟩
theorem ty88_ok : ty88.ok Try.prog 88 := ⟨⟨_, _, _, Try.underlying88⟩, by kernel_rfl⟩
/-- func([]bool  bool) int -/
def ty89 : TI := ⟨.func, 1, 8, .nilFunc⟩
theorem ty89_ok : ty89.ok Try.prog 89 := ⟨⟨_, _, _, Try.underlying89⟩, by kernel_rfl⟩
/-- func([]int  int  int) []int -/
def ty90 : TI := ⟨.func, 1, 8, .nilFunc⟩
theorem ty90_ok : ty90.ok Try.prog 90 := ⟨⟨_, _, _, Try.underlying90⟩, by kernel_rfl⟩
/-- func() bool -/
def ty91 : TI := ⟨.func, 1, 8, .nilFunc⟩
theorem ty91_ok : ty91.ok Try.prog 91 := ⟨⟨_, _, _, Try.underlying91⟩, by kernel_rfl⟩
/-- func() string -/
def ty92 : TI := ⟨.func, 1, 8, .nilFunc⟩
theorem ty92_ok : ty92.ok Try.prog 92 := ⟨⟨_, _, _, Try.underlying92⟩, by kernel_rfl⟩
/-- func() int -/
def ty98 : TI := ⟨.func, 1, 8, .nilFunc⟩
theorem ty98_ok : ty98.ok Try.prog 98 := ⟨⟨_, _, _, Try.underlying98⟩, by kernel_rfl⟩
/-- uint32 -/
def ty99 : TI := ⟨.int .u32, 1, 4, .int .u32 0⟩
theorem ty99_ok : ty99.ok Try.prog 99 := ⟨Try.underlying99, by kernel_rfl⟩
/-- func(unsafe.Pointer  unsafe.Pointer) bool -/
def ty102 : TI := ⟨.func, 1, 8, .nilFunc⟩
theorem ty102_ok : ty102.ok Try.prog 102 := ⟨⟨_, _, _, Try.underlying102⟩, by kernel_rfl⟩
/-- *uint8 -/
def ty103 : TI := ⟨.pointer 5, 1, 8, .pointer none⟩
theorem ty103_ok : ty103.ok Try.prog 103 := ⟨Try.underlying103, by kernel_rfl⟩
def G : Ty := [(3, ty3), (4, ty4), (9, ty9), (5, ty5), (29, ty29), (1, ty1), (2, ty2), (12, ty12), (13, ty13), (21, ty21), (22, ty22), (23, ty23), (24, ty24), (25, ty25), (26, ty26), (27, ty27), (28, ty28), (30, ty30), (31, ty31), (32, ty32), (33, ty33), (34, ty34), (35, ty35), (36, ty36), (37, ty37), (38, ty38), (39, ty39), (40, ty40), (41, ty41), (42, ty42), (43, ty43), (45, ty45), (46, ty46), (48, ty48), (49, ty49), (50, ty50), (52, ty52), (53, ty53), (54, ty54), (55, ty55), (57, ty57), (58, ty58), (59, ty59), (60, ty60), (61, ty61), (62, ty62), (63, ty63), (64, ty64), (65, ty65), (66, ty66), (67, ty67), (68, ty68), (69, ty69), (70, ty70), (71, ty71), (72, ty72), (73, ty73), (74, ty74), (75, ty75), (76, ty76), (77, ty77), (78, ty78), (79, ty79), (80, ty80), (81, ty81), (82, ty82), (83, ty83), (84, ty84), (85, ty85), (86, ty86), (87, ty87), (88, ty88), (89, ty89), (90, ty90), (91, ty91), (92, ty92), (98, ty98), (99, ty99), (102, ty102), (103, ty103)]
theorem G_ok : TyOk Try.prog G :=
  .cons ty3_ok (.cons ty4_ok (.cons ty9_ok (.cons ty5_ok (.cons ty29_ok (.cons ty1_ok (.cons ty2_ok (.cons ty12_ok (.cons ty13_ok (.cons ty21_ok (.cons ty22_ok (.cons ty23_ok (.cons ty24_ok (.cons ty25_ok (.cons ty26_ok (.cons ty27_ok (.cons ty28_ok (.cons ty30_ok (.cons ty31_ok (.cons ty32_ok (.cons ty33_ok (.cons ty34_ok (.cons ty35_ok (.cons ty36_ok (.cons ty37_ok (.cons ty38_ok (.cons ty39_ok (.cons ty40_ok (.cons ty41_ok (.cons ty42_ok (.cons ty43_ok (.cons ty45_ok (.cons ty46_ok (.cons ty48_ok (.cons ty49_ok (.cons ty50_ok (.cons ty52_ok (.cons ty53_ok (.cons ty54_ok (.cons ty55_ok (.cons ty57_ok (.cons ty58_ok (.cons ty59_ok (.cons ty60_ok (.cons ty61_ok (.cons ty62_ok (.cons ty63_ok (.cons ty64_ok (.cons ty65_ok (.cons ty66_ok (.cons ty67_ok (.cons ty68_ok (.cons ty69_ok (.cons ty70_ok (.cons ty71_ok (.cons ty72_ok (.cons ty73_ok (.cons ty74_ok (.cons ty75_ok (.cons ty76_ok (.cons ty77_ok (.cons ty78_ok (.cons ty79_ok (.cons ty80_ok (.cons ty81_ok (.cons ty82_ok (.cons ty83_ok (.cons ty84_ok (.cons ty85_ok (.cons ty86_ok (.cons ty87_ok (.cons ty88_ok (.cons ty89_ok (.cons ty90_ok (.cons ty91_ok (.cons ty92_ok (.cons ty98_ok (.cons ty99_ok (.cons ty102_ok (.cons ty103_ok (.nil))))))))))))))))))))))))))))))))))))))))))))))))))))))))))))))))))))))))))))))))
end Go.Proofs.Ythihffgmmkhlhaa
