/- Texts of the own layer and contracts, part 5: Tab Srt. -/
import Derived.Test.YtphccfabekdmnaaGreatProg
import Derived.KernelRfl
import Derived.Shelf.SlSortCmp.NoneTotal
import Derived.Test.YtphccfabekdmnaaGreatM4
set_option linter.unusedSectionVars false
set_option linter.unusedVariables false
set_option linter.unusedSimpArgs false
set_option maxHeartbeats 4000000
set_option maxRecDepth 100000
/- What the loaded program says of its types. Written by a program (gentab.py). -/
namespace Go.Proofs
open Go.Abs
instance Tryz.drawK : DrawK := ⟨0⟩
theorem Tryz.mixed : Tryz.prog.follows .mixedOrders = true := by kernel_rfl
@[go_sem] theorem Tryz.g0 : kindT Tryz.prog 1 = some none ∧ Tryz.prog.cellsOf 1 = 1 ∧ kindT Tryz.prog 2 = some none := by and_intros <;> kernel_rfl
@[go_sem] theorem Tryz.info2 : infoT Tryz.prog 2 = some (1, 8, [.val (.int .i64 0)]) := by kernel_rfl
@[go_sem] theorem Tryz.g1 : Tryz.prog.cellsOf 2 = 1 ∧ Tryz.prog.underlying 2 = some (.int .i64) ∧ kindT Tryz.prog 3 = some none ∧ infoT Tryz.prog 3 = some (1, 8, [.val (.int .i64 0)]) ∧ Tryz.prog.cellsOf 3 = 1 ∧ Tryz.prog.underlying 3 = some (.int .i64) ∧ kindT Tryz.prog 4 = some none ∧ boolT Tryz.prog 4 = true ∧ infoT Tryz.prog 4 = some (1, 1, [.val (.bool false)]) ∧ Tryz.prog.cellsOf 4 = 1 ∧ kindT Tryz.prog 5 = some none ∧ infoT Tryz.prog 5 = some (1, 1, [.val (.int .u8 0)]) ∧ Tryz.prog.cellsOf 5 = 1 ∧ Tryz.prog.underlying 5 = some (.int .u8) ∧ kindT Tryz.prog 6 = some none ∧ infoT Tryz.prog 6 = some (1, 1, [.val (.int .u8 0)]) ∧ Tryz.prog.cellsOf 6 = 1 ∧ Tryz.prog.underlying 6 = some (.int .u8) ∧ kindT Tryz.prog 7 = some (some 4) ∧ fldT Tryz.prog 7 0 = some 0 ∧ fld1T Tryz.prog 7 0 = some 0 ∧ plT Tryz.prog 7 0 = some 0 ∧ fldT Tryz.prog 7 1 = some 1 ∧ fld1T Tryz.prog 7 1 = some 1 ∧ plT Tryz.prog 7 1 = some 1 ∧ fldT Tryz.prog 7 2 = some 2 ∧ fld1T Tryz.prog 7 2 = some 2 ∧ plT Tryz.prog 7 2 = some 2 ∧ fldT Tryz.prog 7 3 = some 3 ∧ fld1T Tryz.prog 7 3 = some 3 ∧ plT Tryz.prog 7 3 = some 3 ∧ plOk Tryz.prog 7 = true := by and_intros <;> kernel_rfl
@[go_sem] theorem Tryz.g2 : infoT Tryz.prog 7 = some (4, 24, [.val (.int .i64 0), .val (.int .i64 0), .val (.bool false), .val (.int .u8 0)]) ∧ Tryz.prog.cellsOf 7 = 4 ∧ kindT Tryz.prog 8 = some (some 4) ∧ fldT Tryz.prog 8 0 = some 0 ∧ fld1T Tryz.prog 8 0 = some 0 ∧ plT Tryz.prog 8 0 = some 0 ∧ fldT Tryz.prog 8 1 = some 1 ∧ fld1T Tryz.prog 8 1 = some 1 ∧ plT Tryz.prog 8 1 = some 1 ∧ fldT Tryz.prog 8 2 = some 2 ∧ fld1T Tryz.prog 8 2 = some 2 ∧ plT Tryz.prog 8 2 = some 2 ∧ fldT Tryz.prog 8 3 = some 3 ∧ fld1T Tryz.prog 8 3 = some 3 ∧ plT Tryz.prog 8 3 = some 3 ∧ plOk Tryz.prog 8 = true ∧ infoT Tryz.prog 8 = some (4, 24, [.val (.int .i64 0), .val (.int .i64 0), .val (.bool false), .val (.int .u8 0)]) ∧ Tryz.prog.cellsOf 8 = 4 ∧ kindT Tryz.prog 9 = some none ∧ elemT Tryz.prog 9 = none ∧ infoT Tryz.prog 9 = some (1, 16, [.val (.string ⟨#[]⟩)]) ∧ Tryz.prog.cellsOf 9 = 1 := by and_intros <;> kernel_rfl
theorem Tryz.und9 : Tryz.prog.underlying 9 = some (.string) := by kernel_rfl
@[go_sem] theorem Tryz.g3 : kindT Tryz.prog 10 = some none ∧ elemT Tryz.prog 10 = none ∧ infoT Tryz.prog 10 = some (1, 16, [.val (.string ⟨#[]⟩)]) ∧ Tryz.prog.cellsOf 10 = 1 := by and_intros <;> kernel_rfl
theorem Tryz.und10 : Tryz.prog.underlying 10 = some (.string) := by kernel_rfl
@[go_sem] theorem Tryz.g4 : kindT Tryz.prog 11 = some none ∧ elemT Tryz.prog 11 = none ∧ infoT Tryz.prog 11 = some (1, 16, [.val (.string ⟨#[]⟩)]) ∧ Tryz.prog.cellsOf 11 = 1 := by and_intros <;> kernel_rfl
theorem Tryz.und11 : Tryz.prog.underlying 11 = some (.string) := by kernel_rfl
@[go_sem] theorem Tryz.g5 : kindT Tryz.prog 12 = some none ∧ infoT Tryz.prog 12 = some (1, 8, [.val (.int .u64 0)]) ∧ Tryz.prog.cellsOf 12 = 1 ∧ Tryz.prog.underlying 12 = some (.int .u64) ∧ kindT Tryz.prog 13 = some (some 2) ∧ fldT Tryz.prog 13 0 = some 0 ∧ fld1T Tryz.prog 13 0 = some 0 ∧ plT Tryz.prog 13 0 = some 0 ∧ fldT Tryz.prog 13 1 = some 1 ∧ fld1T Tryz.prog 13 1 = some 1 ∧ plT Tryz.prog 13 1 = some 1 ∧ plOk Tryz.prog 13 = true ∧ infoT Tryz.prog 13 = some (2, 24, [.val (.string ⟨#[]⟩), .val (.int .u64 0)]) ∧ Tryz.prog.cellsOf 13 = 2 ∧ kindT Tryz.prog 14 = some (some 2) ∧ fldT Tryz.prog 14 0 = some 0 ∧ fld1T Tryz.prog 14 0 = some 0 ∧ plT Tryz.prog 14 0 = some 0 ∧ fldT Tryz.prog 14 1 = some 1 ∧ fld1T Tryz.prog 14 1 = some 1 ∧ plT Tryz.prog 14 1 = some 1 ∧ plOk Tryz.prog 14 = true ∧ infoT Tryz.prog 14 = some (2, 24, [.val (.string ⟨#[]⟩), .val (.int .u64 0)]) ∧ Tryz.prog.cellsOf 14 = 2 ∧ kindT Tryz.prog 15 = some none ∧ elemT Tryz.prog 15 = none ∧ Tryz.prog.cellsOf 15 = 1 ∧ kindT Tryz.prog 16 = some none ∧ elemT Tryz.prog 16 = none ∧ Tryz.prog.cellsOf 16 = 1 ∧ kindT Tryz.prog 17 = some none ∧ elemT Tryz.prog 17 = none := by and_intros <;> kernel_rfl
@[go_sem] theorem Tryz.g6 : Tryz.prog.cellsOf 17 = 1 ∧ kindT Tryz.prog 18 = some (some 1) ∧ fldT Tryz.prog 18 0 = some 0 ∧ fld1T Tryz.prog 18 0 = some 0 ∧ plT Tryz.prog 18 0 = some 0 ∧ plOk Tryz.prog 18 = true ∧ Tryz.prog.cellsOf 18 = 1 ∧ kindT Tryz.prog 19 = some (some 1) ∧ fldT Tryz.prog 19 0 = some 0 ∧ fld1T Tryz.prog 19 0 = some 0 ∧ plT Tryz.prog 19 0 = some 0 ∧ plOk Tryz.prog 19 = true ∧ Tryz.prog.cellsOf 19 = 1 ∧ kindT Tryz.prog 21 = some none ∧ infoT Tryz.prog 21 = some (1, 4, [.val (.int .i32 0)]) ∧ Tryz.prog.cellsOf 21 = 1 ∧ Tryz.prog.underlying 21 = some (.int .i32) ∧ kindT Tryz.prog 22 = some none ∧ elemT Tryz.prog 22 = some 5 ∧ infoT Tryz.prog 22 = some (1, 24, [.val (.slice none 0 0)]) ∧ Tryz.prog.cellsOf 22 = 1 := by and_intros <;> kernel_rfl
theorem Tryz.und22 : Tryz.prog.underlying 22 = some (.slice 5) := by kernel_rfl
@[go_sem] theorem Tryz.g7 : kindT Tryz.prog 23 = some none ∧ Tryz.prog.cellsOf 23 = 1 ∧ kindT Tryz.prog 24 = some none ∧ elemT Tryz.prog 24 = some 25 ∧ infoT Tryz.prog 24 = some (1, 24, [.val (.slice none 0 0)]) ∧ Tryz.prog.cellsOf 24 = 1 := by and_intros <;> kernel_rfl
theorem Tryz.und24 : Tryz.prog.underlying 24 = some (.slice 25) := by kernel_rfl
@[go_sem] theorem Tryz.g8 : kindT Tryz.prog 25 = some none ∧ elemT Tryz.prog 25 = some 2 := by and_intros <;> kernel_rfl
@[go_sem] theorem Tryz.info25 : infoT Tryz.prog 25 = some (1, 24, [.val (.slice none 0 0)]) := by kernel_rfl
@[go_sem] theorem Tryz.g9 : Tryz.prog.cellsOf 25 = 1 := by kernel_rfl
theorem Tryz.und25 : Tryz.prog.underlying 25 = some (.slice 2) := by kernel_rfl
@[go_sem] theorem Tryz.g10 : kindT Tryz.prog 26 = some (some 2) ∧ fldT Tryz.prog 26 0 = some 0 ∧ fld1T Tryz.prog 26 0 = some 0 ∧ plT Tryz.prog 26 0 = some 0 ∧ fldT Tryz.prog 26 1 = some 1 ∧ fld1T Tryz.prog 26 1 = some 1 ∧ plT Tryz.prog 26 1 = some 1 ∧ plOk Tryz.prog 26 = true ∧ infoT Tryz.prog 26 = some (2, 48, [.val (.slice none 0 0), .val (.slice none 0 0)]) ∧ Tryz.prog.cellsOf 26 = 2 ∧ kindT Tryz.prog 27 = some (some 2) ∧ fldT Tryz.prog 27 0 = some 0 ∧ fld1T Tryz.prog 27 0 = some 0 ∧ plT Tryz.prog 27 0 = some 0 ∧ fldT Tryz.prog 27 1 = some 1 ∧ fld1T Tryz.prog 27 1 = some 1 ∧ plT Tryz.prog 27 1 = some 1 ∧ plOk Tryz.prog 27 = true ∧ infoT Tryz.prog 27 = some (2, 48, [.val (.slice none 0 0), .val (.slice none 0 0)]) ∧ Tryz.prog.cellsOf 27 = 2 ∧ kindT Tryz.prog 28 = some none ∧ elemT Tryz.prog 28 = some 63 ∧ infoT Tryz.prog 28 = some (1, 24, [.val (.slice none 0 0)]) ∧ Tryz.prog.cellsOf 28 = 1 := by and_intros <;> kernel_rfl
theorem Tryz.und28 : Tryz.prog.underlying 28 = some (.slice 63) := by kernel_rfl
@[go_sem] theorem Tryz.g11 : kindT Tryz.prog 29 = some (some 2) ∧ fldT Tryz.prog 29 0 = some 0 ∧ fld1T Tryz.prog 29 0 = some 0 ∧ plT Tryz.prog 29 0 = some 0 ∧ fldT Tryz.prog 29 1 = some 1 ∧ fld1T Tryz.prog 29 1 = some 1 ∧ plT Tryz.prog 29 1 = some 1 ∧ plOk Tryz.prog 29 = true ∧ infoT Tryz.prog 29 = some (2, 32, [.val (.int .i64 0), .val (.slice none 0 0)]) ∧ Tryz.prog.cellsOf 29 = 2 ∧ kindT Tryz.prog 30 = some (some 2) ∧ fldT Tryz.prog 30 0 = some 0 ∧ fld1T Tryz.prog 30 0 = some 0 ∧ plT Tryz.prog 30 0 = some 0 ∧ fldT Tryz.prog 30 1 = some 1 ∧ fld1T Tryz.prog 30 1 = some 1 ∧ plT Tryz.prog 30 1 = some 1 ∧ plOk Tryz.prog 30 = true ∧ infoT Tryz.prog 30 = some (2, 32, [.val (.int .i64 0), .val (.slice none 0 0)]) ∧ Tryz.prog.cellsOf 30 = 2 ∧ kindT Tryz.prog 32 = some none ∧ Tryz.prog.cellsOf 32 = 1 ∧ kindT Tryz.prog 34 = some none ∧ Tryz.prog.cellsOf 34 = 1 ∧ kindT Tryz.prog 36 = some none ∧ Tryz.prog.cellsOf 36 = 1 ∧ kindT Tryz.prog 38 = some none ∧ Tryz.prog.cellsOf 38 = 1 ∧ kindT Tryz.prog 39 = some none ∧ Tryz.prog.cellsOf 39 = 1 ∧ kindT Tryz.prog 40 = some none ∧ Tryz.prog.cellsOf 40 = 1 := by and_intros <;> kernel_rfl
@[go_sem] theorem Tryz.g12 : kindT Tryz.prog 41 = some none ∧ Tryz.prog.cellsOf 41 = 1 ∧ kindT Tryz.prog 42 = some none ∧ Tryz.prog.cellsOf 42 = 1 ∧ kindT Tryz.prog 43 = some none ∧ Tryz.prog.cellsOf 43 = 1 ∧ kindT Tryz.prog 44 = some none ∧ Tryz.prog.cellsOf 44 = 1 ∧ kindT Tryz.prog 45 = some none ∧ Tryz.prog.cellsOf 45 = 1 ∧ kindT Tryz.prog 46 = some none ∧ Tryz.prog.cellsOf 46 = 1 ∧ kindT Tryz.prog 48 = some none ∧ Tryz.prog.cellsOf 48 = 1 ∧ kindT Tryz.prog 49 = some none ∧ Tryz.prog.cellsOf 49 = 1 ∧ kindT Tryz.prog 50 = some none ∧ Tryz.prog.cellsOf 50 = 1 ∧ kindT Tryz.prog 52 = some none ∧ Tryz.prog.cellsOf 52 = 1 ∧ kindT Tryz.prog 53 = some none ∧ Tryz.prog.cellsOf 53 = 1 ∧ kindT Tryz.prog 54 = some none ∧ Tryz.prog.cellsOf 54 = 1 ∧ kindT Tryz.prog 55 = some none ∧ Tryz.prog.cellsOf 55 = 1 ∧ kindT Tryz.prog 56 = some none ∧ elemT Tryz.prog 56 = none ∧ Tryz.prog.cellsOf 56 = 1 ∧ kindT Tryz.prog 57 = some none ∧ Tryz.prog.cellsOf 57 = 1 ∧ kindT Tryz.prog 58 = some none := by and_intros <;> kernel_rfl
@[go_sem] theorem Tryz.g13 : infoT Tryz.prog 58 = some (1, 8, [.val (.int .u64 0)]) ∧ Tryz.prog.cellsOf 58 = 1 ∧ Tryz.prog.underlying 58 = some (.int .u64) ∧ kindT Tryz.prog 60 = some none ∧ Tryz.prog.cellsOf 60 = 1 ∧ kindT Tryz.prog 61 = some (some 2) ∧ fldT Tryz.prog 61 0 = some 0 ∧ fld1T Tryz.prog 61 0 = some 0 ∧ plT Tryz.prog 61 0 = some 0 ∧ fldT Tryz.prog 61 1 = some 1 ∧ fld1T Tryz.prog 61 1 = some 1 ∧ plT Tryz.prog 61 1 = some 1 ∧ plOk Tryz.prog 61 = true ∧ infoT Tryz.prog 61 = some (2, 32, [.val (.int .i64 0), .val (.slice none 0 0)]) ∧ Tryz.prog.cellsOf 61 = 2 ∧ kindT Tryz.prog 62 = some (some 2) ∧ fldT Tryz.prog 62 0 = some 0 ∧ fld1T Tryz.prog 62 0 = some 0 ∧ plT Tryz.prog 62 0 = some 0 ∧ fldT Tryz.prog 62 1 = some 1 ∧ fld1T Tryz.prog 62 1 = some 1 ∧ plT Tryz.prog 62 1 = some 1 ∧ plOk Tryz.prog 62 = true ∧ infoT Tryz.prog 62 = some (2, 32, [.val (.int .i64 0), .val (.slice none 0 0)]) ∧ Tryz.prog.cellsOf 62 = 2 ∧ kindT Tryz.prog 63 = some none ∧ elemT Tryz.prog 63 = some 62 ∧ infoT Tryz.prog 63 = some (1, 24, [.val (.slice none 0 0)]) ∧ Tryz.prog.cellsOf 63 = 1 := by and_intros <;> kernel_rfl
theorem Tryz.und63 : Tryz.prog.underlying 63 = some (.slice 62) := by kernel_rfl
@[go_sem] theorem Tryz.g14 : kindT Tryz.prog 64 = some none ∧ Tryz.prog.cellsOf 64 = 1 ∧ kindT Tryz.prog 65 = some none ∧ Tryz.prog.cellsOf 65 = 1 ∧ kindT Tryz.prog 66 = some none ∧ Tryz.prog.cellsOf 66 = 1 ∧ kindT Tryz.prog 67 = some none ∧ Tryz.prog.cellsOf 67 = 1 ∧ kindT Tryz.prog 68 = some none ∧ Tryz.prog.cellsOf 68 = 1 ∧ kindT Tryz.prog 70 = some none ∧ Tryz.prog.cellsOf 70 = 1 ∧ kindT Tryz.prog 71 = some none ∧ Tryz.prog.cellsOf 71 = 1 ∧ kindT Tryz.prog 72 = some none ∧ Tryz.prog.cellsOf 72 = 1 ∧ kindT Tryz.prog 73 = some none ∧ Tryz.prog.cellsOf 73 = 1 ∧ kindT Tryz.prog 74 = some none ∧ elemT Tryz.prog 74 = none ∧ Tryz.prog.cellsOf 74 = 1 ∧ kindT Tryz.prog 76 = some none ∧ Tryz.prog.cellsOf 76 = 1 ∧ kindT Tryz.prog 77 = some none ∧ Tryz.prog.cellsOf 77 = 1 ∧ kindT Tryz.prog 78 = some none ∧ Tryz.prog.cellsOf 78 = 1 ∧ kindT Tryz.prog 79 = some none ∧ Tryz.prog.cellsOf 79 = 1 ∧ kindT Tryz.prog 80 = some none ∧ elemT Tryz.prog 80 = some 121 ∧ infoT Tryz.prog 80 = some (1, 24, [.val (.slice none 0 0)]) := by and_intros <;> kernel_rfl
@[go_sem] theorem Tryz.g15 : Tryz.prog.cellsOf 80 = 1 := by kernel_rfl
theorem Tryz.und80 : Tryz.prog.underlying 80 = some (.slice 121) := by kernel_rfl
@[go_sem] theorem Tryz.g16 : kindT Tryz.prog 81 = some none ∧ Tryz.prog.cellsOf 81 = 1 ∧ kindT Tryz.prog 82 = some none ∧ Tryz.prog.cellsOf 82 = 1 ∧ kindT Tryz.prog 83 = some none ∧ Tryz.prog.cellsOf 83 = 1 ∧ kindT Tryz.prog 84 = some none ∧ Tryz.prog.cellsOf 84 = 1 ∧ kindT Tryz.prog 85 = some none ∧ Tryz.prog.cellsOf 85 = 1 ∧ kindT Tryz.prog 86 = some none ∧ Tryz.prog.cellsOf 86 = 1 ∧ kindT Tryz.prog 87 = some none ∧ elemT Tryz.prog 87 = some 153 ∧ infoT Tryz.prog 87 = some (1, 24, [.val (.slice none 0 0)]) ∧ Tryz.prog.cellsOf 87 = 1 := by and_intros <;> kernel_rfl
theorem Tryz.und87 : Tryz.prog.underlying 87 = some (.slice 153) := by kernel_rfl
@[go_sem] theorem Tryz.g17 : kindT Tryz.prog 88 = some (some 2) ∧ fldT Tryz.prog 88 0 = some 0 ∧ fld1T Tryz.prog 88 0 = some 0 ∧ plT Tryz.prog 88 0 = some 0 ∧ fldT Tryz.prog 88 1 = some 1 ∧ fld1T Tryz.prog 88 1 = some 1 ∧ plT Tryz.prog 88 1 = some 1 ∧ plOk Tryz.prog 88 = true ∧ infoT Tryz.prog 88 = some (2, 48, [.val (.slice none 0 0), .val (.slice none 0 0)]) ∧ Tryz.prog.cellsOf 88 = 2 ∧ kindT Tryz.prog 89 = some (some 2) ∧ fldT Tryz.prog 89 0 = some 0 ∧ fld1T Tryz.prog 89 0 = some 0 ∧ plT Tryz.prog 89 0 = some 0 ∧ fldT Tryz.prog 89 1 = some 1 ∧ fld1T Tryz.prog 89 1 = some 1 ∧ plT Tryz.prog 89 1 = some 1 ∧ plOk Tryz.prog 89 = true ∧ infoT Tryz.prog 89 = some (2, 48, [.val (.slice none 0 0), .val (.slice none 0 0)]) ∧ Tryz.prog.cellsOf 89 = 2 ∧ kindT Tryz.prog 90 = some none ∧ Tryz.prog.cellsOf 90 = 1 ∧ kindT Tryz.prog 91 = some none ∧ Tryz.prog.cellsOf 91 = 1 ∧ kindT Tryz.prog 92 = some none ∧ Tryz.prog.cellsOf 92 = 1 ∧ kindT Tryz.prog 93 = some none ∧ Tryz.prog.cellsOf 93 = 1 ∧ kindT Tryz.prog 94 = some none ∧ Tryz.prog.cellsOf 94 = 1 ∧ kindT Tryz.prog 95 = some none ∧ Tryz.prog.cellsOf 95 = 1 := by and_intros <;> kernel_rfl
@[go_sem] theorem Tryz.g18 : kindT Tryz.prog 96 = some none ∧ Tryz.prog.cellsOf 96 = 1 ∧ kindT Tryz.prog 97 = some none ∧ Tryz.prog.cellsOf 97 = 1 ∧ kindT Tryz.prog 98 = some none ∧ Tryz.prog.cellsOf 98 = 1 ∧ kindT Tryz.prog 99 = some none ∧ Tryz.prog.cellsOf 99 = 1 ∧ kindT Tryz.prog 100 = some none ∧ Tryz.prog.cellsOf 100 = 1 ∧ kindT Tryz.prog 101 = some none ∧ Tryz.prog.cellsOf 101 = 1 ∧ kindT Tryz.prog 102 = some none ∧ Tryz.prog.cellsOf 102 = 1 ∧ kindT Tryz.prog 103 = some none ∧ Tryz.prog.cellsOf 103 = 1 ∧ kindT Tryz.prog 104 = some none ∧ Tryz.prog.cellsOf 104 = 1 ∧ kindT Tryz.prog 105 = some none ∧ Tryz.prog.cellsOf 105 = 1 ∧ kindT Tryz.prog 106 = some none ∧ Tryz.prog.cellsOf 106 = 1 ∧ kindT Tryz.prog 107 = some none ∧ Tryz.prog.cellsOf 107 = 1 ∧ kindT Tryz.prog 108 = some none ∧ Tryz.prog.cellsOf 108 = 1 ∧ kindT Tryz.prog 109 = some none ∧ Tryz.prog.cellsOf 109 = 1 ∧ kindT Tryz.prog 110 = some none ∧ elemT Tryz.prog 110 = some 173 ∧ infoT Tryz.prog 110 = some (1, 24, [.val (.slice none 0 0)]) ∧ Tryz.prog.cellsOf 110 = 1 := by and_intros <;> kernel_rfl
theorem Tryz.und110 : Tryz.prog.underlying 110 = some (.slice 173) := by kernel_rfl
@[go_sem] theorem Tryz.g19 : kindT Tryz.prog 111 = some none ∧ Tryz.prog.cellsOf 111 = 1 ∧ kindT Tryz.prog 112 = some none ∧ Tryz.prog.cellsOf 112 = 1 ∧ kindT Tryz.prog 113 = some none ∧ Tryz.prog.cellsOf 113 = 1 ∧ kindT Tryz.prog 114 = some none ∧ Tryz.prog.cellsOf 114 = 1 ∧ kindT Tryz.prog 115 = some none ∧ Tryz.prog.cellsOf 115 = 1 ∧ kindT Tryz.prog 116 = some none ∧ Tryz.prog.cellsOf 116 = 1 ∧ kindT Tryz.prog 117 = some (some 3) ∧ fldT Tryz.prog 117 0 = some 0 ∧ fld1T Tryz.prog 117 0 = some 0 ∧ plT Tryz.prog 117 0 = some 0 ∧ fldT Tryz.prog 117 1 = some 1 ∧ fld1T Tryz.prog 117 1 = some 1 ∧ plT Tryz.prog 117 1 = some 1 ∧ fldT Tryz.prog 117 2 = some 2 ∧ fld1T Tryz.prog 117 2 = some 2 ∧ plT Tryz.prog 117 2 = some 2 ∧ plOk Tryz.prog 117 = true ∧ infoT Tryz.prog 117 = some (3, 40, [.val (.slice none 0 0), .val (.int .i64 0), .val (.int .u64 0)]) ∧ Tryz.prog.cellsOf 117 = 3 ∧ kindT Tryz.prog 118 = some (some 3) ∧ fldT Tryz.prog 118 0 = some 0 ∧ fld1T Tryz.prog 118 0 = some 0 ∧ plT Tryz.prog 118 0 = some 0 ∧ fldT Tryz.prog 118 1 = some 1 ∧ fld1T Tryz.prog 118 1 = some 1 ∧ plT Tryz.prog 118 1 = some 1 := by and_intros <;> kernel_rfl
@[go_sem] theorem Tryz.g20 : fldT Tryz.prog 118 2 = some 2 ∧ fld1T Tryz.prog 118 2 = some 2 ∧ plT Tryz.prog 118 2 = some 2 ∧ plOk Tryz.prog 118 = true ∧ infoT Tryz.prog 118 = some (3, 40, [.val (.slice none 0 0), .val (.int .i64 0), .val (.int .u64 0)]) ∧ Tryz.prog.cellsOf 118 = 3 ∧ kindT Tryz.prog 119 = some none ∧ Tryz.prog.cellsOf 119 = 1 ∧ kindT Tryz.prog 120 = some none ∧ elemT Tryz.prog 120 = none ∧ mapT Tryz.prog 120 = true ∧ isMapT Tryz.prog 120 = true ∧ infoT Tryz.prog 120 = some (1, 8, [.val (.map none)]) ∧ Tryz.prog.cellsOf 120 = 1 ∧ kindT Tryz.prog 121 = some none ∧ elemT Tryz.prog 121 = none ∧ mapT Tryz.prog 121 = true ∧ isMapT Tryz.prog 121 = true ∧ infoT Tryz.prog 121 = some (1, 8, [.val (.map none)]) ∧ Tryz.prog.cellsOf 121 = 1 ∧ kindT Tryz.prog 122 = some none ∧ Tryz.prog.cellsOf 122 = 1 ∧ kindT Tryz.prog 123 = some none ∧ Tryz.prog.cellsOf 123 = 1 ∧ kindT Tryz.prog 124 = some none ∧ Tryz.prog.cellsOf 124 = 1 ∧ kindT Tryz.prog 125 = some none ∧ Tryz.prog.cellsOf 125 = 1 ∧ kindT Tryz.prog 126 = some none ∧ Tryz.prog.cellsOf 126 = 1 ∧ kindT Tryz.prog 127 = some none ∧ Tryz.prog.cellsOf 127 = 1 := by and_intros <;> kernel_rfl
@[go_sem] theorem Tryz.g21 : kindT Tryz.prog 128 = some none ∧ elemT Tryz.prog 128 = some 193 ∧ infoT Tryz.prog 128 = some (1, 24, [.val (.slice none 0 0)]) ∧ Tryz.prog.cellsOf 128 = 1 := by and_intros <;> kernel_rfl
theorem Tryz.und128 : Tryz.prog.underlying 128 = some (.slice 193) := by kernel_rfl
@[go_sem] theorem Tryz.g22 : kindT Tryz.prog 129 = some none ∧ Tryz.prog.cellsOf 129 = 1 ∧ kindT Tryz.prog 130 = some none ∧ Tryz.prog.cellsOf 130 = 1 ∧ kindT Tryz.prog 131 = some none ∧ infoT Tryz.prog 131 = some (1, 8, [.val (.int .u64 0)]) ∧ Tryz.prog.cellsOf 131 = 1 ∧ Tryz.prog.underlying 131 = some (.int .u64) ∧ kindT Tryz.prog 132 = some none ∧ Tryz.prog.cellsOf 132 = 1 ∧ kindT Tryz.prog 133 = some none ∧ Tryz.prog.cellsOf 133 = 1 ∧ kindT Tryz.prog 134 = some none ∧ Tryz.prog.cellsOf 134 = 1 ∧ kindT Tryz.prog 135 = some none ∧ Tryz.prog.cellsOf 135 = 1 ∧ kindT Tryz.prog 136 = some none ∧ Tryz.prog.cellsOf 136 = 1 ∧ kindT Tryz.prog 137 = some none ∧ Tryz.prog.cellsOf 137 = 1 ∧ kindT Tryz.prog 138 = some none ∧ Tryz.prog.cellsOf 138 = 1 ∧ kindT Tryz.prog 139 = some none ∧ Tryz.prog.cellsOf 139 = 1 ∧ kindT Tryz.prog 140 = some none ∧ Tryz.prog.cellsOf 140 = 1 ∧ kindT Tryz.prog 141 = some none ∧ Tryz.prog.cellsOf 141 = 1 ∧ kindT Tryz.prog 142 = some none ∧ Tryz.prog.cellsOf 142 = 1 ∧ kindT Tryz.prog 143 = some none ∧ Tryz.prog.cellsOf 143 = 1 := by and_intros <;> kernel_rfl
@[go_sem] theorem Tryz.g23 : kindT Tryz.prog 144 = some none ∧ Tryz.prog.cellsOf 144 = 1 ∧ kindT Tryz.prog 145 = some none ∧ elemT Tryz.prog 145 = some 24 ∧ infoT Tryz.prog 145 = some (1, 24, [.val (.slice none 0 0)]) ∧ Tryz.prog.cellsOf 145 = 1 := by and_intros <;> kernel_rfl
theorem Tryz.und145 : Tryz.prog.underlying 145 = some (.slice 24) := by kernel_rfl
@[go_sem] theorem Tryz.g24 : kindT Tryz.prog 146 = some none ∧ Tryz.prog.cellsOf 146 = 1 ∧ kindT Tryz.prog 147 = some none ∧ Tryz.prog.cellsOf 147 = 1 ∧ kindT Tryz.prog 148 = some none ∧ Tryz.prog.cellsOf 148 = 1 ∧ kindT Tryz.prog 149 = some none ∧ Tryz.prog.cellsOf 149 = 1 ∧ kindT Tryz.prog 150 = some none ∧ Tryz.prog.cellsOf 150 = 1 ∧ kindT Tryz.prog 151 = some none ∧ Tryz.prog.cellsOf 151 = 1 ∧ kindT Tryz.prog 152 = some none ∧ Tryz.prog.cellsOf 152 = 1 ∧ kindT Tryz.prog 153 = some none ∧ elemT Tryz.prog 153 = some 160 ∧ infoT Tryz.prog 153 = some (1, 24, [.val (.slice none 0 0)]) ∧ Tryz.prog.cellsOf 153 = 1 := by and_intros <;> kernel_rfl
theorem Tryz.und153 : Tryz.prog.underlying 153 = some (.slice 160) := by kernel_rfl
@[go_sem] theorem Tryz.g25 : kindT Tryz.prog 154 = some none ∧ elemT Tryz.prog 154 = some 157 ∧ infoT Tryz.prog 154 = some (1, 24, [.val (.slice none 0 0)]) ∧ Tryz.prog.cellsOf 154 = 1 := by and_intros <;> kernel_rfl
theorem Tryz.und154 : Tryz.prog.underlying 154 = some (.slice 157) := by kernel_rfl
@[go_sem] theorem Tryz.g26 : kindT Tryz.prog 155 = some none ∧ Tryz.prog.cellsOf 155 = 1 ∧ kindT Tryz.prog 156 = some (some 3) ∧ fldT Tryz.prog 156 0 = some 0 ∧ fld1T Tryz.prog 156 0 = some 0 ∧ plT Tryz.prog 156 0 = some 0 ∧ fldT Tryz.prog 156 1 = some 1 ∧ fld1T Tryz.prog 156 1 = some 1 ∧ plT Tryz.prog 156 1 = some 1 ∧ fldT Tryz.prog 156 2 = some 2 ∧ fld1T Tryz.prog 156 2 = some 2 ∧ plT Tryz.prog 156 2 = some 2 ∧ plOk Tryz.prog 156 = true ∧ infoT Tryz.prog 156 = some (3, 56, [.val (.slice none 0 0), .val (.slice none 0 0), .val (.int .i64 0)]) ∧ Tryz.prog.cellsOf 156 = 3 ∧ kindT Tryz.prog 157 = some (some 3) ∧ fldT Tryz.prog 157 0 = some 0 ∧ fld1T Tryz.prog 157 0 = some 0 ∧ plT Tryz.prog 157 0 = some 0 ∧ fldT Tryz.prog 157 1 = some 1 ∧ fld1T Tryz.prog 157 1 = some 1 ∧ plT Tryz.prog 157 1 = some 1 ∧ fldT Tryz.prog 157 2 = some 2 ∧ fld1T Tryz.prog 157 2 = some 2 ∧ plT Tryz.prog 157 2 = some 2 ∧ plOk Tryz.prog 157 = true ∧ infoT Tryz.prog 157 = some (3, 56, [.val (.slice none 0 0), .val (.slice none 0 0), .val (.int .i64 0)]) ∧ Tryz.prog.cellsOf 157 = 3 ∧ kindT Tryz.prog 158 = some none ∧ elemT Tryz.prog 158 = some 3 ∧ infoT Tryz.prog 158 = some (1, 24, [.val (.slice none 0 0)]) ∧ Tryz.prog.cellsOf 158 = 1 := by and_intros <;> kernel_rfl
theorem Tryz.und158 : Tryz.prog.underlying 158 = some (.slice 3) := by kernel_rfl
@[go_sem] theorem Tryz.g27 : kindT Tryz.prog 159 = some (some 3) ∧ fldT Tryz.prog 159 0 = some 0 ∧ fld1T Tryz.prog 159 0 = some 0 ∧ plT Tryz.prog 159 0 = some 0 ∧ fldT Tryz.prog 159 1 = some 1 ∧ fld1T Tryz.prog 159 1 = some 1 ∧ plT Tryz.prog 159 1 = some 1 ∧ fldT Tryz.prog 159 2 = some 2 ∧ fld1T Tryz.prog 159 2 = some 2 ∧ plT Tryz.prog 159 2 = some 2 ∧ plOk Tryz.prog 159 = true ∧ infoT Tryz.prog 159 = some (3, 40, [.val (.int .i64 0), .val (.slice none 0 0), .val (.int .i64 0)]) ∧ Tryz.prog.cellsOf 159 = 3 ∧ kindT Tryz.prog 160 = some (some 3) ∧ fldT Tryz.prog 160 0 = some 0 ∧ fld1T Tryz.prog 160 0 = some 0 ∧ plT Tryz.prog 160 0 = some 0 ∧ fldT Tryz.prog 160 1 = some 1 ∧ fld1T Tryz.prog 160 1 = some 1 ∧ plT Tryz.prog 160 1 = some 1 ∧ fldT Tryz.prog 160 2 = some 2 ∧ fld1T Tryz.prog 160 2 = some 2 ∧ plT Tryz.prog 160 2 = some 2 ∧ plOk Tryz.prog 160 = true ∧ infoT Tryz.prog 160 = some (3, 40, [.val (.int .i64 0), .val (.slice none 0 0), .val (.int .i64 0)]) ∧ Tryz.prog.cellsOf 160 = 3 ∧ kindT Tryz.prog 161 = some none ∧ Tryz.prog.cellsOf 161 = 1 ∧ kindT Tryz.prog 162 = some none ∧ Tryz.prog.cellsOf 162 = 1 ∧ kindT Tryz.prog 163 = some none ∧ Tryz.prog.cellsOf 163 = 1 := by and_intros <;> kernel_rfl
@[go_sem] theorem Tryz.g28 : kindT Tryz.prog 164 = some none ∧ Tryz.prog.cellsOf 164 = 1 ∧ kindT Tryz.prog 165 = some none ∧ Tryz.prog.cellsOf 165 = 1 ∧ kindT Tryz.prog 166 = some none ∧ Tryz.prog.cellsOf 166 = 1 ∧ kindT Tryz.prog 167 = some none ∧ Tryz.prog.cellsOf 167 = 1 ∧ kindT Tryz.prog 168 = some none ∧ Tryz.prog.cellsOf 168 = 1 ∧ kindT Tryz.prog 169 = some none ∧ Tryz.prog.cellsOf 169 = 1 ∧ kindT Tryz.prog 170 = some (some 3) ∧ fldT Tryz.prog 170 0 = some 0 ∧ fld1T Tryz.prog 170 0 = some 0 ∧ plT Tryz.prog 170 0 = some 0 ∧ fldT Tryz.prog 170 1 = some 1 ∧ fld1T Tryz.prog 170 1 = some 1 ∧ plT Tryz.prog 170 1 = some 1 ∧ fldT Tryz.prog 170 2 = some 2 ∧ fld1T Tryz.prog 170 2 = some 2 ∧ plT Tryz.prog 170 2 = some 2 ∧ plOk Tryz.prog 170 = true ∧ infoT Tryz.prog 170 = some (3, 40, [.val (.slice none 0 0), .val (.int .i64 0), .val (.int .u64 0)]) ∧ Tryz.prog.cellsOf 170 = 3 ∧ kindT Tryz.prog 171 = some (some 3) ∧ fldT Tryz.prog 171 0 = some 0 ∧ fld1T Tryz.prog 171 0 = some 0 ∧ plT Tryz.prog 171 0 = some 0 ∧ fldT Tryz.prog 171 1 = some 1 ∧ fld1T Tryz.prog 171 1 = some 1 ∧ plT Tryz.prog 171 1 = some 1 := by and_intros <;> kernel_rfl
@[go_sem] theorem Tryz.g29 : fldT Tryz.prog 171 2 = some 2 ∧ fld1T Tryz.prog 171 2 = some 2 ∧ plT Tryz.prog 171 2 = some 2 ∧ plOk Tryz.prog 171 = true ∧ infoT Tryz.prog 171 = some (3, 40, [.val (.slice none 0 0), .val (.int .i64 0), .val (.int .u64 0)]) ∧ Tryz.prog.cellsOf 171 = 3 ∧ kindT Tryz.prog 172 = some none ∧ Tryz.prog.cellsOf 172 = 1 ∧ kindT Tryz.prog 173 = some none ∧ elemT Tryz.prog 173 = some 175 ∧ infoT Tryz.prog 173 = some (1, 24, [.val (.slice none 0 0)]) ∧ Tryz.prog.cellsOf 173 = 1 := by and_intros <;> kernel_rfl
theorem Tryz.und173 : Tryz.prog.underlying 173 = some (.slice 175) := by kernel_rfl
@[go_sem] theorem Tryz.g30 : kindT Tryz.prog 174 = some (some 3) ∧ fldT Tryz.prog 174 0 = some 0 ∧ fld1T Tryz.prog 174 0 = some 0 ∧ plT Tryz.prog 174 0 = some 0 ∧ fldT Tryz.prog 174 1 = some 1 ∧ fld1T Tryz.prog 174 1 = some 1 ∧ plT Tryz.prog 174 1 = some 1 ∧ fldT Tryz.prog 174 2 = some 2 ∧ fld1T Tryz.prog 174 2 = some 2 ∧ plT Tryz.prog 174 2 = some 2 ∧ plOk Tryz.prog 174 = true ∧ infoT Tryz.prog 174 = some (3, 40, [.val (.int .i64 0), .val (.slice none 0 0), .val (.int .i64 0)]) ∧ Tryz.prog.cellsOf 174 = 3 ∧ kindT Tryz.prog 175 = some (some 3) ∧ fldT Tryz.prog 175 0 = some 0 ∧ fld1T Tryz.prog 175 0 = some 0 ∧ plT Tryz.prog 175 0 = some 0 ∧ fldT Tryz.prog 175 1 = some 1 ∧ fld1T Tryz.prog 175 1 = some 1 ∧ plT Tryz.prog 175 1 = some 1 ∧ fldT Tryz.prog 175 2 = some 2 ∧ fld1T Tryz.prog 175 2 = some 2 ∧ plT Tryz.prog 175 2 = some 2 ∧ plOk Tryz.prog 175 = true ∧ infoT Tryz.prog 175 = some (3, 40, [.val (.int .i64 0), .val (.slice none 0 0), .val (.int .i64 0)]) ∧ Tryz.prog.cellsOf 175 = 3 ∧ kindT Tryz.prog 176 = some none ∧ Tryz.prog.cellsOf 176 = 1 ∧ kindT Tryz.prog 177 = some none ∧ elemT Tryz.prog 177 = some 180 ∧ infoT Tryz.prog 177 = some (1, 24, [.val (.slice none 0 0)]) ∧ Tryz.prog.cellsOf 177 = 1 := by and_intros <;> kernel_rfl
theorem Tryz.und177 : Tryz.prog.underlying 177 = some (.slice 180) := by kernel_rfl
@[go_sem] theorem Tryz.g31 : kindT Tryz.prog 178 = some none ∧ Tryz.prog.cellsOf 178 = 1 ∧ kindT Tryz.prog 179 = some (some 3) ∧ fldT Tryz.prog 179 0 = some 0 ∧ fld1T Tryz.prog 179 0 = some 0 ∧ plT Tryz.prog 179 0 = some 0 ∧ fldT Tryz.prog 179 1 = some 1 ∧ fld1T Tryz.prog 179 1 = some 1 ∧ plT Tryz.prog 179 1 = some 1 ∧ fldT Tryz.prog 179 2 = some 2 ∧ fld1T Tryz.prog 179 2 = some 2 ∧ plT Tryz.prog 179 2 = some 2 ∧ plOk Tryz.prog 179 = true ∧ infoT Tryz.prog 179 = some (3, 56, [.val (.slice none 0 0), .val (.slice none 0 0), .val (.int .i64 0)]) ∧ Tryz.prog.cellsOf 179 = 3 ∧ kindT Tryz.prog 180 = some (some 3) ∧ fldT Tryz.prog 180 0 = some 0 ∧ fld1T Tryz.prog 180 0 = some 0 ∧ plT Tryz.prog 180 0 = some 0 ∧ fldT Tryz.prog 180 1 = some 1 ∧ fld1T Tryz.prog 180 1 = some 1 ∧ plT Tryz.prog 180 1 = some 1 ∧ fldT Tryz.prog 180 2 = some 2 ∧ fld1T Tryz.prog 180 2 = some 2 ∧ plT Tryz.prog 180 2 = some 2 ∧ plOk Tryz.prog 180 = true ∧ infoT Tryz.prog 180 = some (3, 56, [.val (.slice none 0 0), .val (.slice none 0 0), .val (.int .i64 0)]) ∧ Tryz.prog.cellsOf 180 = 3 ∧ kindT Tryz.prog 181 = some none ∧ Tryz.prog.cellsOf 181 = 1 ∧ kindT Tryz.prog 182 = some none ∧ Tryz.prog.cellsOf 182 = 1 := by and_intros <;> kernel_rfl
@[go_sem] theorem Tryz.g32 : kindT Tryz.prog 184 = some none ∧ Tryz.prog.cellsOf 184 = 1 ∧ kindT Tryz.prog 185 = some none ∧ Tryz.prog.cellsOf 185 = 1 ∧ kindT Tryz.prog 186 = some none ∧ Tryz.prog.cellsOf 186 = 1 ∧ kindT Tryz.prog 187 = some none ∧ Tryz.prog.cellsOf 187 = 1 ∧ kindT Tryz.prog 188 = some none ∧ Tryz.prog.cellsOf 188 = 1 ∧ kindT Tryz.prog 189 = some none ∧ Tryz.prog.cellsOf 189 = 1 ∧ kindT Tryz.prog 190 = some (some 3) ∧ elemT Tryz.prog 190 = none ∧ arrT Tryz.prog 190 = some (3, 1, true) ∧ plT Tryz.prog 190 0 = some 0 ∧ plT Tryz.prog 190 1 = some 1 ∧ plT Tryz.prog 190 2 = some 2 ∧ plOk Tryz.prog 190 = true ∧ infoT Tryz.prog 190 = some (3, 24, [.val (.int .i64 0), .val (.int .i64 0), .val (.int .i64 0)]) ∧ Tryz.prog.cellsOf 190 = 3 ∧ kindT Tryz.prog 191 = some (some 3) ∧ elemT Tryz.prog 191 = none ∧ arrT Tryz.prog 191 = some (3, 1, true) ∧ plT Tryz.prog 191 0 = some 0 ∧ plT Tryz.prog 191 1 = some 1 ∧ plT Tryz.prog 191 2 = some 2 ∧ plOk Tryz.prog 191 = true ∧ infoT Tryz.prog 191 = some (3, 24, [.val (.int .i64 0), .val (.int .i64 0), .val (.int .i64 0)]) ∧ Tryz.prog.cellsOf 191 = 3 ∧ kindT Tryz.prog 192 = some none ∧ Tryz.prog.cellsOf 192 = 1 := by and_intros <;> kernel_rfl
@[go_sem] theorem Tryz.g33 : kindT Tryz.prog 193 = some none ∧ elemT Tryz.prog 193 = some 195 ∧ infoT Tryz.prog 193 = some (1, 24, [.val (.slice none 0 0)]) ∧ Tryz.prog.cellsOf 193 = 1 := by and_intros <;> kernel_rfl
theorem Tryz.und193 : Tryz.prog.underlying 193 = some (.slice 195) := by kernel_rfl
@[go_sem] theorem Tryz.g34 : kindT Tryz.prog 194 = some (some 3) ∧ fldT Tryz.prog 194 0 = some 0 ∧ fld1T Tryz.prog 194 0 = some 0 ∧ plT Tryz.prog 194 0 = some 0 ∧ fldT Tryz.prog 194 1 = some 1 ∧ fld1T Tryz.prog 194 1 = some 1 ∧ plT Tryz.prog 194 1 = some 1 ∧ fldT Tryz.prog 194 2 = some 2 ∧ fld1T Tryz.prog 194 2 = some 2 ∧ plT Tryz.prog 194 2 = some 2 ∧ plOk Tryz.prog 194 = true ∧ infoT Tryz.prog 194 = some (3, 40, [.val (.int .i64 0), .val (.slice none 0 0), .val (.int .i64 0)]) ∧ Tryz.prog.cellsOf 194 = 3 ∧ kindT Tryz.prog 195 = some (some 3) ∧ fldT Tryz.prog 195 0 = some 0 ∧ fld1T Tryz.prog 195 0 = some 0 ∧ plT Tryz.prog 195 0 = some 0 ∧ fldT Tryz.prog 195 1 = some 1 ∧ fld1T Tryz.prog 195 1 = some 1 ∧ plT Tryz.prog 195 1 = some 1 ∧ fldT Tryz.prog 195 2 = some 2 ∧ fld1T Tryz.prog 195 2 = some 2 ∧ plT Tryz.prog 195 2 = some 2 ∧ plOk Tryz.prog 195 = true ∧ infoT Tryz.prog 195 = some (3, 40, [.val (.int .i64 0), .val (.slice none 0 0), .val (.int .i64 0)]) ∧ Tryz.prog.cellsOf 195 = 3 ∧ kindT Tryz.prog 196 = some none ∧ Tryz.prog.cellsOf 196 = 1 ∧ kindT Tryz.prog 197 = some none ∧ Tryz.prog.cellsOf 197 = 1 ∧ kindT Tryz.prog 198 = some none ∧ Tryz.prog.cellsOf 198 = 1 := by and_intros <;> kernel_rfl
@[go_sem] theorem Tryz.g35 : kindT Tryz.prog 199 = some none ∧ Tryz.prog.cellsOf 199 = 1 ∧ kindT Tryz.prog 200 = some none ∧ Tryz.prog.cellsOf 200 = 1 ∧ kindT Tryz.prog 201 = some none ∧ Tryz.prog.cellsOf 201 = 1 ∧ kindT Tryz.prog 202 = some none ∧ Tryz.prog.cellsOf 202 = 1 ∧ kindT Tryz.prog 203 = some none ∧ Tryz.prog.cellsOf 203 = 1 ∧ kindT Tryz.prog 204 = some none ∧ elemT Tryz.prog 204 = some 208 ∧ infoT Tryz.prog 204 = some (1, 24, [.val (.slice none 0 0)]) ∧ Tryz.prog.cellsOf 204 = 1 := by and_intros <;> kernel_rfl
theorem Tryz.und204 : Tryz.prog.underlying 204 = some (.slice 208) := by kernel_rfl
@[go_sem] theorem Tryz.g36 : kindT Tryz.prog 205 = some none ∧ Tryz.prog.cellsOf 205 = 1 ∧ kindT Tryz.prog 206 = some none ∧ Tryz.prog.cellsOf 206 = 1 ∧ kindT Tryz.prog 207 = some (some 3) ∧ fldT Tryz.prog 207 0 = some 0 ∧ fld1T Tryz.prog 207 0 = some 0 ∧ plT Tryz.prog 207 0 = some 0 ∧ fldT Tryz.prog 207 1 = some 1 ∧ fld1T Tryz.prog 207 1 = some 1 ∧ plT Tryz.prog 207 1 = some 1 ∧ fldT Tryz.prog 207 2 = some 2 ∧ fld1T Tryz.prog 207 2 = some 2 ∧ plT Tryz.prog 207 2 = some 2 ∧ plOk Tryz.prog 207 = true ∧ infoT Tryz.prog 207 = some (3, 56, [.val (.slice none 0 0), .val (.slice none 0 0), .val (.int .i64 0)]) ∧ Tryz.prog.cellsOf 207 = 3 ∧ kindT Tryz.prog 208 = some (some 3) ∧ fldT Tryz.prog 208 0 = some 0 ∧ fld1T Tryz.prog 208 0 = some 0 ∧ plT Tryz.prog 208 0 = some 0 ∧ fldT Tryz.prog 208 1 = some 1 ∧ fld1T Tryz.prog 208 1 = some 1 ∧ plT Tryz.prog 208 1 = some 1 ∧ fldT Tryz.prog 208 2 = some 2 ∧ fld1T Tryz.prog 208 2 = some 2 ∧ plT Tryz.prog 208 2 = some 2 ∧ plOk Tryz.prog 208 = true ∧ infoT Tryz.prog 208 = some (3, 56, [.val (.slice none 0 0), .val (.slice none 0 0), .val (.int .i64 0)]) ∧ Tryz.prog.cellsOf 208 = 3 ∧ kindT Tryz.prog 209 = some none ∧ Tryz.prog.cellsOf 209 = 1 := by and_intros <;> kernel_rfl
@[go_sem] theorem Tryz.g37 : kindT Tryz.prog 211 = some none ∧ Tryz.prog.cellsOf 211 = 1 ∧ kindT Tryz.prog 212 = some none ∧ Tryz.prog.cellsOf 212 = 1 ∧ kindT Tryz.prog 213 = some none ∧ Tryz.prog.cellsOf 213 = 1 ∧ kindT Tryz.prog 214 = some none ∧ Tryz.prog.cellsOf 214 = 1 ∧ kindT Tryz.prog 215 = some none ∧ Tryz.prog.cellsOf 215 = 1 ∧ kindT Tryz.prog 216 = some none ∧ Tryz.prog.cellsOf 216 = 1 ∧ kindT Tryz.prog 217 = some none ∧ Tryz.prog.cellsOf 217 = 1 ∧ kindT Tryz.prog 218 = some none ∧ Tryz.prog.cellsOf 218 = 1 ∧ kindT Tryz.prog 219 = some none ∧ Tryz.prog.cellsOf 219 = 1 ∧ kindT Tryz.prog 220 = some none ∧ Tryz.prog.cellsOf 220 = 1 ∧ kindT Tryz.prog 221 = some none ∧ Tryz.prog.cellsOf 221 = 1 ∧ kindT Tryz.prog 223 = some none ∧ Tryz.prog.cellsOf 223 = 1 ∧ kindT Tryz.prog 224 = some none ∧ Tryz.prog.cellsOf 224 = 1 ∧ kindT Tryz.prog 225 = some none ∧ elemT Tryz.prog 225 = some 9 ∧ infoT Tryz.prog 225 = some (1, 24, [.val (.slice none 0 0)]) ∧ Tryz.prog.cellsOf 225 = 1 := by and_intros <;> kernel_rfl
theorem Tryz.und225 : Tryz.prog.underlying 225 = some (.slice 9) := by kernel_rfl
@[go_sem] theorem Tryz.g38 : kindT Tryz.prog 226 = some none ∧ Tryz.prog.cellsOf 226 = 1 ∧ kindT Tryz.prog 227 = some none ∧ Tryz.prog.cellsOf 227 = 1 ∧ kindT Tryz.prog 228 = some none ∧ Tryz.prog.cellsOf 228 = 1 ∧ kindT Tryz.prog 229 = some none ∧ Tryz.prog.cellsOf 229 = 1 ∧ kindT Tryz.prog 230 = some none ∧ Tryz.prog.cellsOf 230 = 1 ∧ kindT Tryz.prog 231 = some none ∧ Tryz.prog.cellsOf 231 = 1 ∧ kindT Tryz.prog 232 = some none ∧ Tryz.prog.cellsOf 232 = 1 ∧ kindT Tryz.prog 233 = some none ∧ Tryz.prog.cellsOf 233 = 1 ∧ kindT Tryz.prog 234 = some none ∧ Tryz.prog.cellsOf 234 = 1 ∧ kindT Tryz.prog 235 = some none ∧ Tryz.prog.cellsOf 235 = 1 ∧ kindT Tryz.prog 236 = some none ∧ Tryz.prog.cellsOf 236 = 1 ∧ kindT Tryz.prog 237 = some none ∧ Tryz.prog.cellsOf 237 = 1 ∧ kindT Tryz.prog 238 = some none ∧ Tryz.prog.cellsOf 238 = 1 ∧ kindT Tryz.prog 239 = some none ∧ Tryz.prog.cellsOf 239 = 1 ∧ kindT Tryz.prog 240 = some none ∧ Tryz.prog.cellsOf 240 = 1 ∧ kindT Tryz.prog 241 = some none ∧ Tryz.prog.cellsOf 241 = 1 := by and_intros <;> kernel_rfl
@[go_sem] theorem Tryz.g39 : kindT Tryz.prog 242 = some none ∧ elemT Tryz.prog 242 = some 158 ∧ infoT Tryz.prog 242 = some (1, 24, [.val (.slice none 0 0)]) ∧ Tryz.prog.cellsOf 242 = 1 := by and_intros <;> kernel_rfl
theorem Tryz.und242 : Tryz.prog.underlying 242 = some (.slice 158) := by kernel_rfl
@[go_sem] theorem Tryz.g40 : kindT Tryz.prog 243 = some none ∧ elemT Tryz.prog 243 = some 244 ∧ infoT Tryz.prog 243 = some (1, 24, [.val (.slice none 0 0)]) ∧ Tryz.prog.cellsOf 243 = 1 := by and_intros <;> kernel_rfl
theorem Tryz.und243 : Tryz.prog.underlying 243 = some (.slice 244) := by kernel_rfl
@[go_sem] theorem Tryz.g41 : kindT Tryz.prog 244 = some (some 2) ∧ elemT Tryz.prog 244 = none ∧ arrT Tryz.prog 244 = some (2, 1, true) ∧ plT Tryz.prog 244 0 = some 0 ∧ plT Tryz.prog 244 1 = some 1 ∧ plOk Tryz.prog 244 = true ∧ infoT Tryz.prog 244 = some (2, 16, [.val (.int .i64 0), .val (.int .i64 0)]) ∧ Tryz.prog.cellsOf 244 = 2 ∧ kindT Tryz.prog 245 = some none ∧ Tryz.prog.cellsOf 245 = 1 ∧ kindT Tryz.prog 246 = some none ∧ Tryz.prog.cellsOf 246 = 1 ∧ kindT Tryz.prog 247 = some none ∧ elemT Tryz.prog 247 = some 4 ∧ infoT Tryz.prog 247 = some (1, 24, [.val (.slice none 0 0)]) ∧ Tryz.prog.cellsOf 247 = 1 := by and_intros <;> kernel_rfl
theorem Tryz.und247 : Tryz.prog.underlying 247 = some (.slice 4) := by kernel_rfl
@[go_sem] theorem Tryz.g42 : kindT Tryz.prog 248 = some none ∧ Tryz.prog.cellsOf 248 = 1 ∧ kindT Tryz.prog 249 = some none ∧ infoT Tryz.prog 249 = some (1, 8, [.val (.int .i64 0)]) ∧ Tryz.prog.cellsOf 249 = 1 ∧ Tryz.prog.underlying 249 = some (.int .i64) ∧ kindT Tryz.prog 251 = some none ∧ Tryz.prog.cellsOf 251 = 1 ∧ kindT Tryz.prog 252 = some none ∧ Tryz.prog.cellsOf 252 = 1 ∧ kindT Tryz.prog 253 = some none ∧ Tryz.prog.cellsOf 253 = 1 ∧ kindT Tryz.prog 254 = some none ∧ Tryz.prog.cellsOf 254 = 1 ∧ kindT Tryz.prog 255 = some none ∧ Tryz.prog.cellsOf 255 = 1 ∧ kindT Tryz.prog 256 = some none ∧ infoT Tryz.prog 256 = some (1, 4, [.val (.int .u32 0)]) ∧ Tryz.prog.cellsOf 256 = 1 ∧ Tryz.prog.underlying 256 = some (.int .u32) ∧ kindT Tryz.prog 257 = some none ∧ Tryz.prog.cellsOf 257 = 1 ∧ kindT Tryz.prog 258 = some none ∧ Tryz.prog.cellsOf 258 = 1 ∧ kindT Tryz.prog 259 = some none ∧ Tryz.prog.cellsOf 259 = 1 ∧ kindT Tryz.prog 260 = some none ∧ Tryz.prog.cellsOf 260 = 1 ∧ kindT Tryz.prog 262 = some none ∧ Tryz.prog.cellsOf 262 = 1 ∧ kindT Tryz.prog 264 = some none ∧ Tryz.prog.cellsOf 264 = 1 := by and_intros <;> kernel_rfl
@[go_sem] theorem Tryz.g43 : kindT Tryz.prog 265 = some none ∧ Tryz.prog.cellsOf 265 = 1 ∧ kindT Tryz.prog 266 = some none ∧ Tryz.prog.cellsOf 266 = 1 ∧ kindT Tryz.prog 267 = some none ∧ Tryz.prog.cellsOf 267 = 1 ∧ kindT Tryz.prog 268 = some none ∧ Tryz.prog.cellsOf 268 = 1 ∧ kindT Tryz.prog 269 = some (some 2) ∧ fldT Tryz.prog 269 0 = some 0 ∧ fld1T Tryz.prog 269 0 = some 0 ∧ plT Tryz.prog 269 0 = some 0 ∧ fldT Tryz.prog 269 1 = some 1 ∧ fld1T Tryz.prog 269 1 = some 1 ∧ plT Tryz.prog 269 1 = some 1 ∧ plOk Tryz.prog 269 = true ∧ infoT Tryz.prog 269 = some (2, 32, [.val (.slice none 0 0), .val (.int .i64 0)]) ∧ Tryz.prog.cellsOf 269 = 2 ∧ kindT Tryz.prog 270 = some (some 2) ∧ fldT Tryz.prog 270 0 = some 0 ∧ fld1T Tryz.prog 270 0 = some 0 ∧ plT Tryz.prog 270 0 = some 0 ∧ fldT Tryz.prog 270 1 = some 1 ∧ fld1T Tryz.prog 270 1 = some 1 ∧ plT Tryz.prog 270 1 = some 1 ∧ plOk Tryz.prog 270 = true ∧ infoT Tryz.prog 270 = some (2, 32, [.val (.slice none 0 0), .val (.int .i64 0)]) ∧ Tryz.prog.cellsOf 270 = 2 ∧ kindT Tryz.prog 271 = some none ∧ elemT Tryz.prog 271 = some 270 ∧ infoT Tryz.prog 271 = some (1, 24, [.val (.slice none 0 0)]) ∧ Tryz.prog.cellsOf 271 = 1 := by and_intros <;> kernel_rfl
theorem Tryz.und271 : Tryz.prog.underlying 271 = some (.slice 270) := by kernel_rfl
@[go_sem] theorem Tryz.g44 : kindT Tryz.prog 272 = some none ∧ Tryz.prog.cellsOf 272 = 1 ∧ kindT Tryz.prog 273 = some none ∧ Tryz.prog.cellsOf 273 = 1 ∧ kindT Tryz.prog 274 = some none ∧ Tryz.prog.cellsOf 274 = 1 ∧ kindT Tryz.prog 275 = some none ∧ Tryz.prog.cellsOf 275 = 1 ∧ kindT Tryz.prog 276 = some none ∧ Tryz.prog.cellsOf 276 = 1 ∧ kindT Tryz.prog 277 = some none ∧ Tryz.prog.cellsOf 277 = 1 ∧ kindT Tryz.prog 278 = some none ∧ Tryz.prog.cellsOf 278 = 1 ∧ kindT Tryz.prog 279 = some none ∧ Tryz.prog.cellsOf 279 = 1 ∧ kindT Tryz.prog 280 = some none ∧ Tryz.prog.cellsOf 280 = 1 ∧ kindT Tryz.prog 281 = some none ∧ Tryz.prog.cellsOf 281 = 1 ∧ kindT Tryz.prog 282 = some none ∧ Tryz.prog.cellsOf 282 = 1 ∧ kindT Tryz.prog 283 = some none ∧ Tryz.prog.cellsOf 283 = 1 ∧ kindT Tryz.prog 284 = some none ∧ Tryz.prog.cellsOf 284 = 1 ∧ kindT Tryz.prog 285 = some none ∧ infoT Tryz.prog 285 = some (1, 8, [.val (.int .u64 0)]) ∧ Tryz.prog.cellsOf 285 = 1 ∧ Tryz.prog.underlying 285 = some (.int .u64) ∧ kindT Tryz.prog 286 = some none ∧ Tryz.prog.cellsOf 286 = 1 := by and_intros <;> kernel_rfl
@[go_sem] theorem Tryz.g45 : kindT Tryz.prog 287 = some none ∧ Tryz.prog.cellsOf 287 = 1 ∧ kindT Tryz.prog 288 = some none ∧ Tryz.prog.cellsOf 288 = 1 ∧ kindT Tryz.prog 289 = some none ∧ elemT Tryz.prog 289 = none ∧ Tryz.prog.cellsOf 289 = 1 ∧ kindT Tryz.prog 290 = some none ∧ Tryz.prog.cellsOf 290 = 1 ∧ kindT Tryz.prog 291 = some none ∧ Tryz.prog.cellsOf 291 = 1 ∧ kindT Tryz.prog 292 = some none ∧ Tryz.prog.cellsOf 292 = 1 ∧ kindT Tryz.prog 293 = some none ∧ Tryz.prog.cellsOf 293 = 1 ∧ kindT Tryz.prog 294 = some none ∧ Tryz.prog.cellsOf 294 = 1 ∧ kindT Tryz.prog 295 = some none ∧ Tryz.prog.cellsOf 295 = 1 ∧ kindT Tryz.prog 296 = some none ∧ Tryz.prog.cellsOf 296 = 1 ∧ kindT Tryz.prog 297 = some none ∧ Tryz.prog.cellsOf 297 = 1 ∧ kindT Tryz.prog 298 = some none ∧ Tryz.prog.cellsOf 298 = 1 ∧ kindT Tryz.prog 299 = some none ∧ Tryz.prog.cellsOf 299 = 1 ∧ kindT Tryz.prog 300 = some none ∧ Tryz.prog.cellsOf 300 = 1 ∧ kindT Tryz.prog 301 = some none ∧ Tryz.prog.cellsOf 301 = 1 ∧ kindT Tryz.prog 302 = some none := by and_intros <;> kernel_rfl
@[go_sem] theorem Tryz.g46 : Tryz.prog.cellsOf 302 = 1 ∧ kindT Tryz.prog 303 = some none ∧ Tryz.prog.cellsOf 303 = 1 ∧ kindT Tryz.prog 304 = some none ∧ Tryz.prog.cellsOf 304 = 1 ∧ kindT Tryz.prog 305 = some none ∧ Tryz.prog.cellsOf 305 = 1 ∧ kindT Tryz.prog 306 = some none ∧ Tryz.prog.cellsOf 306 = 1 ∧ kindT Tryz.prog 307 = some none ∧ Tryz.prog.cellsOf 307 = 1 ∧ kindT Tryz.prog 308 = some none ∧ elemT Tryz.prog 308 = none ∧ Tryz.prog.cellsOf 308 = 1 ∧ kindT Tryz.prog 310 = some none ∧ Tryz.prog.cellsOf 310 = 1 ∧ kindT Tryz.prog 311 = some none ∧ Tryz.prog.cellsOf 311 = 1 ∧ kindT Tryz.prog 312 = some none ∧ Tryz.prog.cellsOf 312 = 1 ∧ kindT Tryz.prog 313 = some none ∧ Tryz.prog.cellsOf 313 = 1 ∧ kindT Tryz.prog 314 = some none ∧ Tryz.prog.cellsOf 314 = 1 ∧ kindT Tryz.prog 315 = some none ∧ Tryz.prog.cellsOf 315 = 1 ∧ kindT Tryz.prog 316 = some none ∧ Tryz.prog.cellsOf 316 = 1 ∧ kindT Tryz.prog 317 = some none ∧ Tryz.prog.cellsOf 317 = 1 ∧ kindT Tryz.prog 318 = some none ∧ Tryz.prog.cellsOf 318 = 1 := by and_intros <;> kernel_rfl
@[go_sem] theorem Tryz.g47 : kindT Tryz.prog 319 = some none ∧ Tryz.prog.cellsOf 319 = 1 ∧ kindT Tryz.prog 320 = some none ∧ Tryz.prog.cellsOf 320 = 1 ∧ kindT Tryz.prog 321 = some none ∧ Tryz.prog.cellsOf 321 = 1 ∧ kindT Tryz.prog 322 = some none ∧ Tryz.prog.cellsOf 322 = 1 ∧ kindT Tryz.prog 323 = some none ∧ Tryz.prog.cellsOf 323 = 1 ∧ kindT Tryz.prog 324 = some (some 4) ∧ fldT Tryz.prog 324 0 = some 0 ∧ fld1T Tryz.prog 324 0 = some 0 ∧ plT Tryz.prog 324 0 = some 0 ∧ fldT Tryz.prog 324 1 = some 1 ∧ fld1T Tryz.prog 324 1 = some 1 ∧ plT Tryz.prog 324 1 = some 1 ∧ fldT Tryz.prog 324 2 = some 2 ∧ fld1T Tryz.prog 324 2 = some 2 ∧ plT Tryz.prog 324 2 = some 2 ∧ fldT Tryz.prog 324 3 = some 3 ∧ fld1T Tryz.prog 324 3 = some 3 ∧ plT Tryz.prog 324 3 = some 3 ∧ plOk Tryz.prog 324 = true ∧ Tryz.prog.cellsOf 324 = 4 ∧ kindT Tryz.prog 325 = some (some 4) ∧ fldT Tryz.prog 325 0 = some 0 ∧ fld1T Tryz.prog 325 0 = some 0 ∧ plT Tryz.prog 325 0 = some 0 ∧ fldT Tryz.prog 325 1 = some 1 ∧ fld1T Tryz.prog 325 1 = some 1 ∧ plT Tryz.prog 325 1 = some 1 := by and_intros <;> kernel_rfl
@[go_sem] theorem Tryz.g48 : fldT Tryz.prog 325 2 = some 2 ∧ fld1T Tryz.prog 325 2 = some 2 ∧ plT Tryz.prog 325 2 = some 2 ∧ fldT Tryz.prog 325 3 = some 3 ∧ fld1T Tryz.prog 325 3 = some 3 ∧ plT Tryz.prog 325 3 = some 3 ∧ plOk Tryz.prog 325 = true ∧ Tryz.prog.cellsOf 325 = 4 ∧ kindT Tryz.prog 326 = some (some 0) ∧ elemT Tryz.prog 326 = none ∧ arrT Tryz.prog 326 = some (0, 1, true) ∧ plOk Tryz.prog 326 = true ∧ infoT Tryz.prog 326 = some (0, 0, []) ∧ Tryz.prog.cellsOf 326 = 0 ∧ kindT Tryz.prog 327 = some (some 0) ∧ plOk Tryz.prog 327 = true ∧ infoT Tryz.prog 327 = some (0, 0, []) ∧ Tryz.prog.cellsOf 327 = 0 ∧ kindT Tryz.prog 328 = some (some 0) ∧ plOk Tryz.prog 328 = true ∧ infoT Tryz.prog 328 = some (0, 0, []) ∧ Tryz.prog.cellsOf 328 = 0 ∧ kindT Tryz.prog 329 = some none ∧ infoT Tryz.prog 329 = some (1, 1, [.val (.int .u8 0)]) ∧ Tryz.prog.cellsOf 329 = 1 ∧ Tryz.prog.underlying 329 = some (.int .u8) ∧ kindT Tryz.prog 330 = some none ∧ infoT Tryz.prog 330 = some (1, 1, [.val (.int .u8 0)]) ∧ Tryz.prog.cellsOf 330 = 1 ∧ Tryz.prog.underlying 330 = some (.int .u8) ∧ kindT Tryz.prog 331 = some none ∧ Tryz.prog.cellsOf 331 = 1 := by and_intros <;> kernel_rfl
@[go_sem] theorem Tryz.g49 : kindT Tryz.prog 332 = some none ∧ elemT Tryz.prog 332 = none ∧ Tryz.prog.cellsOf 332 = 1 ∧ kindT Tryz.prog 333 = some none ∧ infoT Tryz.prog 333 = some (1, 4, [.val (.int .i32 0)]) ∧ Tryz.prog.cellsOf 333 = 1 ∧ Tryz.prog.underlying 333 = some (.int .i32) ∧ kindT Tryz.prog 334 = some none ∧ infoT Tryz.prog 334 = some (1, 4, [.val (.int .i32 0)]) ∧ Tryz.prog.cellsOf 334 = 1 ∧ Tryz.prog.underlying 334 = some (.int .i32) ∧ kindT Tryz.prog 335 = some (some 11) ∧ fldT Tryz.prog 335 0 = some 0 ∧ fld1T Tryz.prog 335 0 = some 0 ∧ plT Tryz.prog 335 0 = some 0 ∧ fldT Tryz.prog 335 1 = some 1 ∧ fld1T Tryz.prog 335 1 = some 1 ∧ plT Tryz.prog 335 1 = some 1 ∧ fldT Tryz.prog 335 2 = some 2 ∧ fld1T Tryz.prog 335 2 = some 2 ∧ plT Tryz.prog 335 2 = some 2 ∧ fldT Tryz.prog 335 3 = some 3 ∧ fld1T Tryz.prog 335 3 = some 3 ∧ plT Tryz.prog 335 3 = some 3 ∧ fldT Tryz.prog 335 4 = some 4 ∧ fld1T Tryz.prog 335 4 = some 4 ∧ plT Tryz.prog 335 4 = some 4 ∧ fldT Tryz.prog 335 5 = some 5 ∧ fld1T Tryz.prog 335 5 = some 5 ∧ plT Tryz.prog 335 5 = some 5 ∧ fldT Tryz.prog 335 6 = some 6 ∧ fld1T Tryz.prog 335 6 = some 6 := by and_intros <;> kernel_rfl
@[go_sem] theorem Tryz.g50 : plT Tryz.prog 335 6 = some 6 ∧ fldT Tryz.prog 335 7 = some 7 ∧ fld1T Tryz.prog 335 7 = some 7 ∧ plT Tryz.prog 335 7 = some 7 ∧ fldT Tryz.prog 335 8 = some 8 ∧ fld1T Tryz.prog 335 8 = some 8 ∧ plT Tryz.prog 335 8 = some 8 ∧ fldT Tryz.prog 335 9 = some 9 ∧ fld1T Tryz.prog 335 9 = some 9 ∧ plT Tryz.prog 335 9 = some 9 ∧ fldT Tryz.prog 335 10 = some 10 ∧ fld1T Tryz.prog 335 10 = some 10 ∧ plT Tryz.prog 335 10 = some 10 ∧ plOk Tryz.prog 335 = true ∧ Tryz.prog.cellsOf 335 = 11 ∧ kindT Tryz.prog 336 = some (some 11) ∧ fldT Tryz.prog 336 0 = some 0 ∧ fld1T Tryz.prog 336 0 = some 0 ∧ plT Tryz.prog 336 0 = some 0 ∧ fldT Tryz.prog 336 1 = some 1 ∧ fld1T Tryz.prog 336 1 = some 1 ∧ plT Tryz.prog 336 1 = some 1 ∧ fldT Tryz.prog 336 2 = some 2 ∧ fld1T Tryz.prog 336 2 = some 2 ∧ plT Tryz.prog 336 2 = some 2 ∧ fldT Tryz.prog 336 3 = some 3 ∧ fld1T Tryz.prog 336 3 = some 3 ∧ plT Tryz.prog 336 3 = some 3 ∧ fldT Tryz.prog 336 4 = some 4 ∧ fld1T Tryz.prog 336 4 = some 4 ∧ plT Tryz.prog 336 4 = some 4 ∧ fldT Tryz.prog 336 5 = some 5 := by and_intros <;> kernel_rfl
@[go_sem] theorem Tryz.g51 : fld1T Tryz.prog 336 5 = some 5 ∧ plT Tryz.prog 336 5 = some 5 ∧ fldT Tryz.prog 336 6 = some 6 ∧ fld1T Tryz.prog 336 6 = some 6 ∧ plT Tryz.prog 336 6 = some 6 ∧ fldT Tryz.prog 336 7 = some 7 ∧ fld1T Tryz.prog 336 7 = some 7 ∧ plT Tryz.prog 336 7 = some 7 ∧ fldT Tryz.prog 336 8 = some 8 ∧ fld1T Tryz.prog 336 8 = some 8 ∧ plT Tryz.prog 336 8 = some 8 ∧ fldT Tryz.prog 336 9 = some 9 ∧ fld1T Tryz.prog 336 9 = some 9 ∧ plT Tryz.prog 336 9 = some 9 ∧ fldT Tryz.prog 336 10 = some 10 ∧ fld1T Tryz.prog 336 10 = some 10 ∧ plT Tryz.prog 336 10 = some 10 ∧ plOk Tryz.prog 336 = true ∧ Tryz.prog.cellsOf 336 = 11 ∧ kindT Tryz.prog 337 = some none ∧ Tryz.prog.cellsOf 337 = 1 := by and_intros <;> kernel_rfl
end Go.Proofs

namespace Go.Proofs.YtphccfabekdmnaaGreat
open Go.Shelf Go.Sort
def Tryz.sortSplits_ren : Go.Shelf.Ren := ⟨fun | 6 => 318 | 15 => 289 | 14 => 359 | 28 => 336 | 29 => 337 | 20 => 390 | 21 => 391 | 22 => 392 | 23 => 393 | 24 => 394 | 25 => 395 | 26 => 396 | 27 => 397 | 46 => 412 | 47 => 371 | 48 => 372 | 49 => 413 | 50 => 414 | 57 => 419 | n => n, fun | 22 => 204 | 24 => 208 | 25 => 235 | 3 => 3 | 39 => 131 | 0 => 0 | 53 => 256 | 55 => 58 | 4 => 4 | 46 => 250 | 45 => 249 | 50 => 183 | 5 => 5 | 9 => 9 | 66 => 285 | 70 => 289 | 76 => 308 | 77 => 309 | n => n, fun | n => n⟩
theorem Tryz.sortSplits : Go.Proofs.SlLaysF0.n6 Tryz.prog Tryz.sortSplits_ren := {
 mixed := by kernel_rfl,
 f6 := ⟨Tryz.f318.name, by decide, Tryz.func318.trans (congrArg some (by kernel_rfl))⟩,
 f14 := ⟨Tryz.f359.name, by decide, Tryz.func359.trans (congrArg some (by kernel_rfl))⟩,
 f15 := Tryz.func289.trans (congrArg some (by kernel_rfl)),
 f20 := ⟨Tryz.f390.name, by decide, Tryz.func390.trans (congrArg some (by kernel_rfl))⟩,
 f21 := ⟨Tryz.f391.name, by decide, Tryz.func391.trans (congrArg some (by kernel_rfl))⟩,
 f22 := ⟨Tryz.f392.name, by decide, Tryz.func392.trans (congrArg some (by kernel_rfl))⟩,
 f23 := ⟨Tryz.f393.name, by decide, Tryz.func393.trans (congrArg some (by kernel_rfl))⟩,
 f24 := ⟨Tryz.f394.name, by decide, Tryz.func394.trans (congrArg some (by kernel_rfl))⟩,
 f25 := ⟨Tryz.f395.name, by decide, Tryz.func395.trans (congrArg some (by kernel_rfl))⟩,
 f26 := ⟨Tryz.f396.name, by decide, Tryz.func396.trans (congrArg some (by kernel_rfl))⟩,
 f27 := ⟨Tryz.f397.name, by decide, Tryz.func397.trans (congrArg some (by kernel_rfl))⟩,
 f28 := Tryz.func336.trans (congrArg some (by kernel_rfl)),
 f29 := Tryz.func337.trans (congrArg some (by kernel_rfl)),
 f46 := ⟨Tryz.f412.name, by decide, Tryz.func412.trans (congrArg some (by kernel_rfl))⟩,
 f47 := Tryz.func371.trans (congrArg some (by kernel_rfl)),
 f48 := Tryz.func372.trans (congrArg some (by kernel_rfl)),
 f49 := ⟨Tryz.f413.name, by decide, Tryz.func413.trans (congrArg some (by kernel_rfl))⟩,
 f50 := ⟨Tryz.f414.name, by decide, Tryz.func414.trans (congrArg some (by kernel_rfl))⟩,
 f57 := ⟨Tryz.f419.name, by decide, Tryz.func419.trans (congrArg some (by kernel_rfl))⟩,
 t0 := Tryz.underlying0,
 a0 := Tryz.isAgg0,
 z0 := Tryz.sizeOf0,
 v0 := Tryz.zeroValue0,
 t3 := Tryz.underlying3,
 a3 := Tryz.isAgg3,
 z3 := Tryz.sizeOf3,
 v3 := Tryz.zeroValue3,
 t4 := Tryz.underlying4,
 a4 := Tryz.isAgg4,
 z4 := Tryz.sizeOf4,
 v4 := Tryz.zeroValue4,
 t5 := Tryz.underlying5,
 a5 := Tryz.isAgg5,
 z5 := Tryz.sizeOf5,
 v5 := Tryz.zeroValue5,
 t9 := Tryz.underlying9,
 a9 := Tryz.isAgg9,
 z9 := Tryz.sizeOf9,
 v9 := Tryz.zeroValue9,
 t22 := Tryz.underlying204,
 a22 := Tryz.isAgg204,
 z22 := Tryz.sizeOf204,
 v22 := Tryz.zeroValue204,
 t25 := Tryz.underlying235,
 a25 := Tryz.isAgg235,
 z25 := Tryz.sizeOf235,
 v25 := Tryz.zeroValue235,
 t39 := Tryz.underlying131,
 a39 := Tryz.isAgg131,
 z39 := Tryz.sizeOf131,
 v39 := Tryz.zeroValue131,
 t45 := Tryz.underlying249,
 a45 := Tryz.isAgg249,
 z45 := Tryz.sizeOf249,
 v45 := Tryz.zeroValue249,
 t46 := Tryz.underlying250,
 a46 := Tryz.isAgg250,
 z46 := Tryz.sizeOf250,
 v46 := Tryz.zeroValue250,
 t50 := Tryz.underlying183,
 a50 := Tryz.isAgg183,
 z50 := Tryz.sizeOf183,
 v50 := Tryz.zeroValue183,
 t53 := Tryz.underlying256,
 a53 := Tryz.isAgg256,
 z53 := Tryz.sizeOf256,
 v53 := Tryz.zeroValue256,
 t55 := Tryz.underlying58,
 a55 := Tryz.isAgg58,
 z55 := Tryz.sizeOf58,
 v55 := Tryz.zeroValue58,
 t66 := Tryz.underlying285,
 a66 := Tryz.isAgg285,
 z66 := Tryz.sizeOf285,
 v66 := Tryz.zeroValue285,
 t70 := Tryz.underlying289,
 a70 := Tryz.isAgg289,
 z70 := Tryz.sizeOf289,
 v70 := Tryz.zeroValue289,
 t76 := Tryz.underlying308,
 a76 := Tryz.isAgg308,
 z76 := Tryz.sizeOf308,
 v76 := Tryz.zeroValue308,
 t77 := Tryz.underlying309,
 a77 := Tryz.isAgg309,
 z77 := Tryz.sizeOf309,
 v77 := Tryz.zeroValue309 }
def Tryz.sortTrees_ren : Go.Shelf.Ren := ⟨fun | 6 => 224 | 15 => 289 | 14 => 288 | 28 => 336 | 29 => 337 | 20 => 328 | 21 => 329 | 22 => 330 | 23 => 331 | 24 => 332 | 25 => 333 | 26 => 334 | 27 => 335 | 46 => 370 | 47 => 371 | 48 => 372 | 49 => 373 | 50 => 374 | 57 => 402 | n => n, fun | 22 => 24 | 24 => 25 | 25 => 164 | 3 => 3 | 39 => 131 | 0 => 0 | 53 => 256 | 55 => 58 | 4 => 4 | 46 => 250 | 45 => 249 | 50 => 183 | 5 => 5 | 9 => 9 | 66 => 285 | 70 => 289 | 76 => 308 | 77 => 309 | n => n, fun | n => n⟩
theorem Tryz.sortTrees : Go.Proofs.SlLaysF.n6 Tryz.prog Tryz.sortTrees_ren := {
 mixed := by kernel_rfl,
 f6 := ⟨Tryz.f224.name, by decide, Tryz.func224.trans (congrArg some (by kernel_rfl))⟩,
 f14 := ⟨Tryz.f288.name, by decide, Tryz.func288.trans (congrArg some (by kernel_rfl))⟩,
 f15 := Tryz.func289.trans (congrArg some (by kernel_rfl)),
 f20 := ⟨Tryz.f328.name, by decide, Tryz.func328.trans (congrArg some (by kernel_rfl))⟩,
 f21 := ⟨Tryz.f329.name, by decide, Tryz.func329.trans (congrArg some (by kernel_rfl))⟩,
 f22 := ⟨Tryz.f330.name, by decide, Tryz.func330.trans (congrArg some (by kernel_rfl))⟩,
 f23 := ⟨Tryz.f331.name, by decide, Tryz.func331.trans (congrArg some (by kernel_rfl))⟩,
 f24 := ⟨Tryz.f332.name, by decide, Tryz.func332.trans (congrArg some (by kernel_rfl))⟩,
 f25 := ⟨Tryz.f333.name, by decide, Tryz.func333.trans (congrArg some (by kernel_rfl))⟩,
 f26 := ⟨Tryz.f334.name, by decide, Tryz.func334.trans (congrArg some (by kernel_rfl))⟩,
 f27 := ⟨Tryz.f335.name, by decide, Tryz.func335.trans (congrArg some (by kernel_rfl))⟩,
 f28 := Tryz.func336.trans (congrArg some (by kernel_rfl)),
 f29 := Tryz.func337.trans (congrArg some (by kernel_rfl)),
 f46 := ⟨Tryz.f370.name, by decide, Tryz.func370.trans (congrArg some (by kernel_rfl))⟩,
 f47 := Tryz.func371.trans (congrArg some (by kernel_rfl)),
 f48 := Tryz.func372.trans (congrArg some (by kernel_rfl)),
 f49 := ⟨Tryz.f373.name, by decide, Tryz.func373.trans (congrArg some (by kernel_rfl))⟩,
 f50 := ⟨Tryz.f374.name, by decide, Tryz.func374.trans (congrArg some (by kernel_rfl))⟩,
 f57 := ⟨Tryz.f402.name, by decide, Tryz.func402.trans (congrArg some (by kernel_rfl))⟩,
 t0 := Tryz.underlying0,
 a0 := Tryz.isAgg0,
 z0 := Tryz.sizeOf0,
 v0 := Tryz.zeroValue0,
 t3 := Tryz.underlying3,
 a3 := Tryz.isAgg3,
 z3 := Tryz.sizeOf3,
 v3 := Tryz.zeroValue3,
 t4 := Tryz.underlying4,
 a4 := Tryz.isAgg4,
 z4 := Tryz.sizeOf4,
 v4 := Tryz.zeroValue4,
 t5 := Tryz.underlying5,
 a5 := Tryz.isAgg5,
 z5 := Tryz.sizeOf5,
 v5 := Tryz.zeroValue5,
 t9 := Tryz.underlying9,
 a9 := Tryz.isAgg9,
 z9 := Tryz.sizeOf9,
 v9 := Tryz.zeroValue9,
 t22 := Tryz.underlying24,
 a22 := Tryz.isAgg24,
 z22 := Tryz.sizeOf24,
 v22 := Tryz.zeroValue24,
 a24 := Tryz.isAgg25,
 z24 := Tryz.sizeOf25,
 t25 := Tryz.underlying164,
 a25 := Tryz.isAgg164,
 z25 := Tryz.sizeOf164,
 v25 := Tryz.zeroValue164,
 t39 := Tryz.underlying131,
 a39 := Tryz.isAgg131,
 z39 := Tryz.sizeOf131,
 v39 := Tryz.zeroValue131,
 t45 := Tryz.underlying249,
 a45 := Tryz.isAgg249,
 z45 := Tryz.sizeOf249,
 v45 := Tryz.zeroValue249,
 t46 := Tryz.underlying250,
 a46 := Tryz.isAgg250,
 z46 := Tryz.sizeOf250,
 v46 := Tryz.zeroValue250,
 t50 := Tryz.underlying183,
 a50 := Tryz.isAgg183,
 z50 := Tryz.sizeOf183,
 v50 := Tryz.zeroValue183,
 t53 := Tryz.underlying256,
 a53 := Tryz.isAgg256,
 z53 := Tryz.sizeOf256,
 v53 := Tryz.zeroValue256,
 t55 := Tryz.underlying58,
 a55 := Tryz.isAgg58,
 z55 := Tryz.sizeOf58,
 v55 := Tryz.zeroValue58,
 t66 := Tryz.underlying285,
 a66 := Tryz.isAgg285,
 z66 := Tryz.sizeOf285,
 v66 := Tryz.zeroValue285,
 t70 := Tryz.underlying289,
 a70 := Tryz.isAgg289,
 z70 := Tryz.sizeOf289,
 v70 := Tryz.zeroValue289,
 t76 := Tryz.underlying308,
 a76 := Tryz.isAgg308,
 z76 := Tryz.sizeOf308,
 v76 := Tryz.zeroValue308,
 t77 := Tryz.underlying309,
 a77 := Tryz.isAgg309,
 z77 := Tryz.sizeOf309,
 v77 := Tryz.zeroValue309 }
def Tryz.insTrees_ren : Go.Shelf.Ren := ⟨fun | 20 => 328 | n => n, fun | 24 => 25 | 22 => 24 | 3 => 3 | 25 => 164 | 4 => 4 | 0 => 0 | n => n, fun | n => n⟩
theorem Tryz.insTrees : Go.Proofs.SlLaysF.n20 Tryz.prog Tryz.insTrees_ren := {
 mixed := by kernel_rfl,
 f20 := ⟨Tryz.f328.name, by decide, Tryz.func328.trans (congrArg some (by kernel_rfl))⟩,
 t0 := Tryz.underlying0,
 a0 := Tryz.isAgg0,
 z0 := Tryz.sizeOf0,
 v0 := Tryz.zeroValue0,
 t3 := Tryz.underlying3,
 a3 := Tryz.isAgg3,
 z3 := Tryz.sizeOf3,
 v3 := Tryz.zeroValue3,
 t4 := Tryz.underlying4,
 a4 := Tryz.isAgg4,
 z4 := Tryz.sizeOf4,
 v4 := Tryz.zeroValue4,
 t22 := Tryz.underlying24,
 a22 := Tryz.isAgg24,
 z22 := Tryz.sizeOf24,
 v22 := Tryz.zeroValue24,
 a24 := Tryz.isAgg25,
 z24 := Tryz.sizeOf25,
 t25 := Tryz.underlying164,
 a25 := Tryz.isAgg164,
 z25 := Tryz.sizeOf164,
 v25 := Tryz.zeroValue164 }
end Go.Proofs.YtphccfabekdmnaaGreat

