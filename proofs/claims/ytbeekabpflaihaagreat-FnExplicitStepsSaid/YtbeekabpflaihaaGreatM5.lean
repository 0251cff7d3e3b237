/- Texts of the own layer and contracts, part 5: Tab Srt. -/
import Derived.Test.YtbeekabpflaihaaGreatProg
import Derived.KernelRfl
import Derived.Shelf.SlSortCmp.NoneTotal
import Derived.Test.YtbeekabpflaihaaGreatM4
/- What the loaded program says of its types. Written by a program (gentab.py). -/
namespace Go.Proofs
open Go.Abs
instance Tryz.drawK : DrawK := ⟨0⟩
theorem Tryz.mixed : Tryz.prog.follows .mixedOrders = true := by kernel_rfl
@[go_sem] theorem Tryz.g0 : kindT Tryz.prog 1 = some none ∧ Tryz.prog.cellsOf 1 = 1 ∧ kindT Tryz.prog 2 = some none := by and_intros <;> kernel_rfl
@[go_sem] theorem Tryz.info2 : infoT Tryz.prog 2 = some (1, 8, [.val (.int .i64 0)]) := by kernel_rfl
@[go_sem] theorem Tryz.g1 : Tryz.prog.cellsOf 2 = 1 ∧ Tryz.prog.underlying 2 = some (.int .i64) ∧ kindT Tryz.prog 3 = some none ∧ infoT Tryz.prog 3 = some (1, 8, [.val (.int .i64 0)]) ∧ Tryz.prog.cellsOf 3 = 1 ∧ Tryz.prog.underlying 3 = some (.int .i64) ∧ kindT Tryz.prog 4 = some none ∧ boolT Tryz.prog 4 = true := by and_intros <;> kernel_rfl
@[go_sem] theorem Tryz.g2 : infoT Tryz.prog 4 = some (1, 1, [.val (.bool false)]) ∧ Tryz.prog.cellsOf 4 = 1 ∧ kindT Tryz.prog 5 = some none ∧ infoT Tryz.prog 5 = some (1, 1, [.val (.int .u8 0)]) ∧ Tryz.prog.cellsOf 5 = 1 ∧ Tryz.prog.underlying 5 = some (.int .u8) ∧ kindT Tryz.prog 6 = some none ∧ infoT Tryz.prog 6 = some (1, 1, [.val (.int .u8 0)]) := by and_intros <;> kernel_rfl
@[go_sem] theorem Tryz.g3 : Tryz.prog.cellsOf 6 = 1 ∧ Tryz.prog.underlying 6 = some (.int .u8) ∧ kindT Tryz.prog 7 = some (some 4) ∧ fldT Tryz.prog 7 0 = some 0 ∧ fld1T Tryz.prog 7 0 = some 0 ∧ plT Tryz.prog 7 0 = some 0 ∧ fldT Tryz.prog 7 1 = some 1 ∧ fld1T Tryz.prog 7 1 = some 1 := by and_intros <;> kernel_rfl
@[go_sem] theorem Tryz.g4 : plT Tryz.prog 7 1 = some 1 ∧ fldT Tryz.prog 7 2 = some 2 ∧ fld1T Tryz.prog 7 2 = some 2 ∧ plT Tryz.prog 7 2 = some 2 ∧ fldT Tryz.prog 7 3 = some 3 ∧ fld1T Tryz.prog 7 3 = some 3 ∧ plT Tryz.prog 7 3 = some 3 ∧ plOk Tryz.prog 7 = true := by and_intros <;> kernel_rfl
@[go_sem] theorem Tryz.g5 : infoT Tryz.prog 7 = some (4, 24, [.val (.int .i64 0), .val (.int .i64 0), .val (.bool false), .val (.int .u8 0)]) ∧ Tryz.prog.cellsOf 7 = 4 ∧ kindT Tryz.prog 8 = some (some 4) ∧ fldT Tryz.prog 8 0 = some 0 ∧ fld1T Tryz.prog 8 0 = some 0 ∧ plT Tryz.prog 8 0 = some 0 ∧ fldT Tryz.prog 8 1 = some 1 ∧ fld1T Tryz.prog 8 1 = some 1 := by and_intros <;> kernel_rfl
@[go_sem] theorem Tryz.g6 : plT Tryz.prog 8 1 = some 1 ∧ fldT Tryz.prog 8 2 = some 2 ∧ fld1T Tryz.prog 8 2 = some 2 ∧ plT Tryz.prog 8 2 = some 2 ∧ fldT Tryz.prog 8 3 = some 3 ∧ fld1T Tryz.prog 8 3 = some 3 ∧ plT Tryz.prog 8 3 = some 3 ∧ plOk Tryz.prog 8 = true := by and_intros <;> kernel_rfl
@[go_sem] theorem Tryz.g7 : infoT Tryz.prog 8 = some (4, 24, [.val (.int .i64 0), .val (.int .i64 0), .val (.bool false), .val (.int .u8 0)]) ∧ Tryz.prog.cellsOf 8 = 4 ∧ kindT Tryz.prog 9 = some none ∧ elemT Tryz.prog 9 = none ∧ infoT Tryz.prog 9 = some (1, 16, [.val (.string ⟨#[]⟩)]) ∧ Tryz.prog.cellsOf 9 = 1 := by and_intros <;> kernel_rfl
theorem Tryz.und9 : Tryz.prog.underlying 9 = some (.string) := by kernel_rfl
@[go_sem] theorem Tryz.g8 : kindT Tryz.prog 10 = some none ∧ elemT Tryz.prog 10 = none ∧ infoT Tryz.prog 10 = some (1, 16, [.val (.string ⟨#[]⟩)]) ∧ Tryz.prog.cellsOf 10 = 1 := by and_intros <;> kernel_rfl
theorem Tryz.und10 : Tryz.prog.underlying 10 = some (.string) := by kernel_rfl
@[go_sem] theorem Tryz.g9 : kindT Tryz.prog 11 = some none ∧ elemT Tryz.prog 11 = none ∧ infoT Tryz.prog 11 = some (1, 16, [.val (.string ⟨#[]⟩)]) ∧ Tryz.prog.cellsOf 11 = 1 := by and_intros <;> kernel_rfl
theorem Tryz.und11 : Tryz.prog.underlying 11 = some (.string) := by kernel_rfl
@[go_sem] theorem Tryz.g10 : kindT Tryz.prog 12 = some none ∧ infoT Tryz.prog 12 = some (1, 8, [.val (.int .u64 0)]) ∧ Tryz.prog.cellsOf 12 = 1 ∧ Tryz.prog.underlying 12 = some (.int .u64) ∧ kindT Tryz.prog 13 = some (some 2) ∧ fldT Tryz.prog 13 0 = some 0 ∧ fld1T Tryz.prog 13 0 = some 0 ∧ plT Tryz.prog 13 0 = some 0 := by and_intros <;> kernel_rfl
@[go_sem] theorem Tryz.g11 : fldT Tryz.prog 13 1 = some 1 ∧ fld1T Tryz.prog 13 1 = some 1 ∧ plT Tryz.prog 13 1 = some 1 ∧ plOk Tryz.prog 13 = true ∧ infoT Tryz.prog 13 = some (2, 24, [.val (.string ⟨#[]⟩), .val (.int .u64 0)]) ∧ Tryz.prog.cellsOf 13 = 2 ∧ kindT Tryz.prog 14 = some (some 2) ∧ fldT Tryz.prog 14 0 = some 0 := by and_intros <;> kernel_rfl
@[go_sem] theorem Tryz.g12 : fld1T Tryz.prog 14 0 = some 0 ∧ plT Tryz.prog 14 0 = some 0 ∧ fldT Tryz.prog 14 1 = some 1 ∧ fld1T Tryz.prog 14 1 = some 1 ∧ plT Tryz.prog 14 1 = some 1 ∧ plOk Tryz.prog 14 = true ∧ infoT Tryz.prog 14 = some (2, 24, [.val (.string ⟨#[]⟩), .val (.int .u64 0)]) ∧ Tryz.prog.cellsOf 14 = 2 := by and_intros <;> kernel_rfl
@[go_sem] theorem Tryz.g13 : kindT Tryz.prog 15 = some none ∧ elemT Tryz.prog 15 = none ∧ Tryz.prog.cellsOf 15 = 1 ∧ kindT Tryz.prog 16 = some none ∧ elemT Tryz.prog 16 = none ∧ Tryz.prog.cellsOf 16 = 1 ∧ kindT Tryz.prog 17 = some none ∧ elemT Tryz.prog 17 = none := by and_intros <;> kernel_rfl
@[go_sem] theorem Tryz.g14 : Tryz.prog.cellsOf 17 = 1 ∧ kindT Tryz.prog 18 = some (some 1) ∧ fldT Tryz.prog 18 0 = some 0 ∧ fld1T Tryz.prog 18 0 = some 0 ∧ plT Tryz.prog 18 0 = some 0 ∧ plOk Tryz.prog 18 = true ∧ Tryz.prog.cellsOf 18 = 1 ∧ kindT Tryz.prog 19 = some (some 1) := by and_intros <;> kernel_rfl
@[go_sem] theorem Tryz.g15 : fldT Tryz.prog 19 0 = some 0 ∧ fld1T Tryz.prog 19 0 = some 0 ∧ plT Tryz.prog 19 0 = some 0 ∧ plOk Tryz.prog 19 = true ∧ Tryz.prog.cellsOf 19 = 1 ∧ kindT Tryz.prog 21 = some none ∧ infoT Tryz.prog 21 = some (1, 4, [.val (.int .i32 0)]) ∧ Tryz.prog.cellsOf 21 = 1 := by and_intros <;> kernel_rfl
@[go_sem] theorem Tryz.g16 : Tryz.prog.underlying 21 = some (.int .i32) ∧ kindT Tryz.prog 22 = some none ∧ elemT Tryz.prog 22 = some 2 ∧ infoT Tryz.prog 22 = some (1, 24, [.val (.slice none 0 0)]) ∧ Tryz.prog.cellsOf 22 = 1 := by and_intros <;> kernel_rfl
theorem Tryz.und22 : Tryz.prog.underlying 22 = some (.slice 2) := by kernel_rfl
@[go_sem] theorem Tryz.g17 : kindT Tryz.prog 23 = some none ∧ elemT Tryz.prog 23 = some 123 ∧ infoT Tryz.prog 23 = some (1, 24, [.val (.slice none 0 0)]) ∧ Tryz.prog.cellsOf 23 = 1 := by and_intros <;> kernel_rfl
theorem Tryz.und23 : Tryz.prog.underlying 23 = some (.slice 123) := by kernel_rfl
@[go_sem] theorem Tryz.g18 : kindT Tryz.prog 24 = some (some 2) ∧ fldT Tryz.prog 24 0 = some 0 ∧ fld1T Tryz.prog 24 0 = some 0 ∧ plT Tryz.prog 24 0 = some 0 ∧ fldT Tryz.prog 24 1 = some 1 ∧ fld1T Tryz.prog 24 1 = some 1 ∧ plT Tryz.prog 24 1 = some 1 ∧ plOk Tryz.prog 24 = true := by and_intros <;> kernel_rfl
@[go_sem] theorem Tryz.g19 : infoT Tryz.prog 24 = some (2, 32, [.val (.int .i64 0), .val (.slice none 0 0)]) ∧ Tryz.prog.cellsOf 24 = 2 ∧ kindT Tryz.prog 25 = some (some 2) ∧ fldT Tryz.prog 25 0 = some 0 ∧ fld1T Tryz.prog 25 0 = some 0 ∧ plT Tryz.prog 25 0 = some 0 ∧ fldT Tryz.prog 25 1 = some 1 ∧ fld1T Tryz.prog 25 1 = some 1 := by and_intros <;> kernel_rfl
@[go_sem] theorem Tryz.g20 : plT Tryz.prog 25 1 = some 1 ∧ plOk Tryz.prog 25 = true ∧ infoT Tryz.prog 25 = some (2, 32, [.val (.int .i64 0), .val (.slice none 0 0)]) ∧ Tryz.prog.cellsOf 25 = 2 ∧ kindT Tryz.prog 26 = some none ∧ Tryz.prog.cellsOf 26 = 1 ∧ kindT Tryz.prog 27 = some none ∧ elemT Tryz.prog 27 = some 22 := by and_intros <;> kernel_rfl
@[go_sem] theorem Tryz.g21 : infoT Tryz.prog 27 = some (1, 24, [.val (.slice none 0 0)]) ∧ Tryz.prog.cellsOf 27 = 1 := by and_intros <;> kernel_rfl
theorem Tryz.und27 : Tryz.prog.underlying 27 = some (.slice 22) := by kernel_rfl
@[go_sem] theorem Tryz.g22 : kindT Tryz.prog 29 = some none ∧ Tryz.prog.cellsOf 29 = 1 ∧ kindT Tryz.prog 30 = some none ∧ Tryz.prog.cellsOf 30 = 1 ∧ kindT Tryz.prog 31 = some none ∧ elemT Tryz.prog 31 = some 125 ∧ infoT Tryz.prog 31 = some (1, 24, [.val (.slice none 0 0)]) ∧ Tryz.prog.cellsOf 31 = 1 := by and_intros <;> kernel_rfl
theorem Tryz.und31 : Tryz.prog.underlying 31 = some (.slice 125) := by kernel_rfl
@[go_sem] theorem Tryz.g23 : kindT Tryz.prog 32 = some (some 2) ∧ fldT Tryz.prog 32 0 = some 0 ∧ fld1T Tryz.prog 32 0 = some 0 ∧ plT Tryz.prog 32 0 = some 0 ∧ fldT Tryz.prog 32 1 = some 1 ∧ fld1T Tryz.prog 32 1 = some 1 ∧ plT Tryz.prog 32 1 = some 1 ∧ plOk Tryz.prog 32 = true := by and_intros <;> kernel_rfl
@[go_sem] theorem Tryz.g24 : infoT Tryz.prog 32 = some (2, 32, [.val (.int .i64 0), .val (.slice none 0 0)]) ∧ Tryz.prog.cellsOf 32 = 2 ∧ kindT Tryz.prog 33 = some (some 2) ∧ fldT Tryz.prog 33 0 = some 0 ∧ fld1T Tryz.prog 33 0 = some 0 ∧ plT Tryz.prog 33 0 = some 0 ∧ fldT Tryz.prog 33 1 = some 1 ∧ fld1T Tryz.prog 33 1 = some 1 := by and_intros <;> kernel_rfl
@[go_sem] theorem Tryz.g25 : plT Tryz.prog 33 1 = some 1 ∧ plOk Tryz.prog 33 = true ∧ infoT Tryz.prog 33 = some (2, 32, [.val (.int .i64 0), .val (.slice none 0 0)]) ∧ Tryz.prog.cellsOf 33 = 2 ∧ kindT Tryz.prog 34 = some none ∧ Tryz.prog.cellsOf 34 = 1 ∧ kindT Tryz.prog 35 = some none ∧ Tryz.prog.cellsOf 35 = 1 := by and_intros <;> kernel_rfl
@[go_sem] theorem Tryz.g26 : kindT Tryz.prog 36 = some none ∧ Tryz.prog.cellsOf 36 = 1 ∧ kindT Tryz.prog 37 = some none ∧ Tryz.prog.cellsOf 37 = 1 ∧ kindT Tryz.prog 38 = some none ∧ Tryz.prog.cellsOf 38 = 1 ∧ kindT Tryz.prog 39 = some none ∧ Tryz.prog.cellsOf 39 = 1 := by and_intros <;> kernel_rfl
@[go_sem] theorem Tryz.g27 : kindT Tryz.prog 40 = some none ∧ Tryz.prog.cellsOf 40 = 1 ∧ kindT Tryz.prog 41 = some none ∧ Tryz.prog.cellsOf 41 = 1 ∧ kindT Tryz.prog 42 = some none ∧ elemT Tryz.prog 42 = some 5 ∧ infoT Tryz.prog 42 = some (1, 24, [.val (.slice none 0 0)]) ∧ Tryz.prog.cellsOf 42 = 1 := by and_intros <;> kernel_rfl
theorem Tryz.und42 : Tryz.prog.underlying 42 = some (.slice 5) := by kernel_rfl
@[go_sem] theorem Tryz.g28 : kindT Tryz.prog 43 = some none ∧ Tryz.prog.cellsOf 43 = 1 ∧ kindT Tryz.prog 44 = some (some 2) ∧ fldT Tryz.prog 44 0 = some 0 ∧ fld1T Tryz.prog 44 0 = some 0 ∧ plT Tryz.prog 44 0 = some 0 ∧ fldT Tryz.prog 44 1 = some 1 ∧ fld1T Tryz.prog 44 1 = some 1 := by and_intros <;> kernel_rfl
@[go_sem] theorem Tryz.g29 : plT Tryz.prog 44 1 = some 1 ∧ plOk Tryz.prog 44 = true ∧ infoT Tryz.prog 44 = some (2, 48, [.val (.slice none 0 0), .val (.slice none 0 0)]) ∧ Tryz.prog.cellsOf 44 = 2 ∧ kindT Tryz.prog 45 = some (some 2) ∧ fldT Tryz.prog 45 0 = some 0 ∧ fld1T Tryz.prog 45 0 = some 0 ∧ plT Tryz.prog 45 0 = some 0 := by and_intros <;> kernel_rfl
@[go_sem] theorem Tryz.g30 : fldT Tryz.prog 45 1 = some 1 ∧ fld1T Tryz.prog 45 1 = some 1 ∧ plT Tryz.prog 45 1 = some 1 ∧ plOk Tryz.prog 45 = true ∧ infoT Tryz.prog 45 = some (2, 48, [.val (.slice none 0 0), .val (.slice none 0 0)]) ∧ Tryz.prog.cellsOf 45 = 2 ∧ kindT Tryz.prog 47 = some none ∧ Tryz.prog.cellsOf 47 = 1 := by and_intros <;> kernel_rfl
@[go_sem] theorem Tryz.g31 : kindT Tryz.prog 49 = some none ∧ Tryz.prog.cellsOf 49 = 1 ∧ kindT Tryz.prog 50 = some none ∧ Tryz.prog.cellsOf 50 = 1 ∧ kindT Tryz.prog 51 = some none ∧ elemT Tryz.prog 51 = none ∧ Tryz.prog.cellsOf 51 = 1 ∧ kindT Tryz.prog 52 = some none := by and_intros <;> kernel_rfl
@[go_sem] theorem Tryz.g32 : Tryz.prog.cellsOf 52 = 1 ∧ kindT Tryz.prog 53 = some none ∧ infoT Tryz.prog 53 = some (1, 8, [.val (.int .u64 0)]) ∧ Tryz.prog.cellsOf 53 = 1 ∧ Tryz.prog.underlying 53 = some (.int .u64) ∧ kindT Tryz.prog 54 = some none ∧ Tryz.prog.cellsOf 54 = 1 ∧ kindT Tryz.prog 56 = some none := by and_intros <;> kernel_rfl
@[go_sem] theorem Tryz.g33 : Tryz.prog.cellsOf 56 = 1 ∧ kindT Tryz.prog 57 = some none ∧ Tryz.prog.cellsOf 57 = 1 ∧ kindT Tryz.prog 58 = some none ∧ Tryz.prog.cellsOf 58 = 1 ∧ kindT Tryz.prog 59 = some none ∧ Tryz.prog.cellsOf 59 = 1 ∧ kindT Tryz.prog 60 = some none := by and_intros <;> kernel_rfl
@[go_sem] theorem Tryz.g34 : Tryz.prog.cellsOf 60 = 1 ∧ kindT Tryz.prog 62 = some none ∧ Tryz.prog.cellsOf 62 = 1 ∧ kindT Tryz.prog 64 = some none ∧ Tryz.prog.cellsOf 64 = 1 ∧ kindT Tryz.prog 65 = some none ∧ Tryz.prog.cellsOf 65 = 1 ∧ kindT Tryz.prog 66 = some none := by and_intros <;> kernel_rfl
@[go_sem] theorem Tryz.g35 : Tryz.prog.cellsOf 66 = 1 ∧ kindT Tryz.prog 67 = some none ∧ Tryz.prog.cellsOf 67 = 1 ∧ kindT Tryz.prog 68 = some none ∧ Tryz.prog.cellsOf 68 = 1 ∧ kindT Tryz.prog 69 = some none ∧ Tryz.prog.cellsOf 69 = 1 ∧ kindT Tryz.prog 70 = some none := by and_intros <;> kernel_rfl
@[go_sem] theorem Tryz.g36 : Tryz.prog.cellsOf 70 = 1 ∧ kindT Tryz.prog 71 = some none ∧ Tryz.prog.cellsOf 71 = 1 ∧ kindT Tryz.prog 72 = some none ∧ Tryz.prog.cellsOf 72 = 1 ∧ kindT Tryz.prog 73 = some none ∧ Tryz.prog.cellsOf 73 = 1 ∧ kindT Tryz.prog 74 = some none := by and_intros <;> kernel_rfl
@[go_sem] theorem Tryz.g37 : elemT Tryz.prog 74 = some 95 ∧ infoT Tryz.prog 74 = some (1, 24, [.val (.slice none 0 0)]) ∧ Tryz.prog.cellsOf 74 = 1 := by and_intros <;> kernel_rfl
theorem Tryz.und74 : Tryz.prog.underlying 74 = some (.slice 95) := by kernel_rfl
@[go_sem] theorem Tryz.g38 : kindT Tryz.prog 75 = some none ∧ Tryz.prog.cellsOf 75 = 1 ∧ kindT Tryz.prog 76 = some none ∧ Tryz.prog.cellsOf 76 = 1 ∧ kindT Tryz.prog 77 = some none ∧ Tryz.prog.cellsOf 77 = 1 ∧ kindT Tryz.prog 78 = some none ∧ Tryz.prog.cellsOf 78 = 1 := by and_intros <;> kernel_rfl
@[go_sem] theorem Tryz.g39 : kindT Tryz.prog 79 = some none ∧ Tryz.prog.cellsOf 79 = 1 ∧ kindT Tryz.prog 80 = some none ∧ Tryz.prog.cellsOf 80 = 1 ∧ kindT Tryz.prog 81 = some none ∧ Tryz.prog.cellsOf 81 = 1 ∧ kindT Tryz.prog 82 = some none ∧ elemT Tryz.prog 82 = none := by and_intros <;> kernel_rfl
@[go_sem] theorem Tryz.g40 : Tryz.prog.cellsOf 82 = 1 ∧ kindT Tryz.prog 84 = some none ∧ Tryz.prog.cellsOf 84 = 1 ∧ kindT Tryz.prog 85 = some none ∧ Tryz.prog.cellsOf 85 = 1 ∧ kindT Tryz.prog 86 = some none ∧ Tryz.prog.cellsOf 86 = 1 ∧ kindT Tryz.prog 87 = some none := by and_intros <;> kernel_rfl
@[go_sem] theorem Tryz.g41 : Tryz.prog.cellsOf 87 = 1 ∧ kindT Tryz.prog 88 = some none ∧ Tryz.prog.cellsOf 88 = 1 ∧ kindT Tryz.prog 89 = some none ∧ Tryz.prog.cellsOf 89 = 1 ∧ kindT Tryz.prog 90 = some (some 3) ∧ fldT Tryz.prog 90 0 = some 0 ∧ fld1T Tryz.prog 90 0 = some 0 := by and_intros <;> kernel_rfl
@[go_sem] theorem Tryz.g42 : plT Tryz.prog 90 0 = some 0 ∧ fldT Tryz.prog 90 1 = some 1 ∧ fld1T Tryz.prog 90 1 = some 1 ∧ plT Tryz.prog 90 1 = some 1 ∧ fldT Tryz.prog 90 2 = some 2 ∧ fld1T Tryz.prog 90 2 = some 2 ∧ plT Tryz.prog 90 2 = some 2 ∧ plOk Tryz.prog 90 = true := by and_intros <;> kernel_rfl
@[go_sem] theorem Tryz.g43 : infoT Tryz.prog 90 = some (3, 40, [.val (.slice none 0 0), .val (.int .i64 0), .val (.int .u64 0)]) ∧ Tryz.prog.cellsOf 90 = 3 ∧ kindT Tryz.prog 91 = some (some 3) ∧ fldT Tryz.prog 91 0 = some 0 ∧ fld1T Tryz.prog 91 0 = some 0 ∧ plT Tryz.prog 91 0 = some 0 ∧ fldT Tryz.prog 91 1 = some 1 ∧ fld1T Tryz.prog 91 1 = some 1 := by and_intros <;> kernel_rfl
@[go_sem] theorem Tryz.g44 : plT Tryz.prog 91 1 = some 1 ∧ fldT Tryz.prog 91 2 = some 2 ∧ fld1T Tryz.prog 91 2 = some 2 ∧ plT Tryz.prog 91 2 = some 2 ∧ plOk Tryz.prog 91 = true ∧ infoT Tryz.prog 91 = some (3, 40, [.val (.slice none 0 0), .val (.int .i64 0), .val (.int .u64 0)]) ∧ Tryz.prog.cellsOf 91 = 3 ∧ kindT Tryz.prog 92 = some none := by and_intros <;> kernel_rfl
@[go_sem] theorem Tryz.g45 : Tryz.prog.cellsOf 92 = 1 ∧ kindT Tryz.prog 93 = some none ∧ Tryz.prog.cellsOf 93 = 1 ∧ kindT Tryz.prog 94 = some none ∧ elemT Tryz.prog 94 = none ∧ mapT Tryz.prog 94 = true ∧ isMapT Tryz.prog 94 = true ∧ infoT Tryz.prog 94 = some (1, 8, [.val (.map none)]) := by and_intros <;> kernel_rfl
@[go_sem] theorem Tryz.g46 : Tryz.prog.cellsOf 94 = 1 ∧ kindT Tryz.prog 95 = some none ∧ elemT Tryz.prog 95 = none ∧ mapT Tryz.prog 95 = true ∧ isMapT Tryz.prog 95 = true ∧ infoT Tryz.prog 95 = some (1, 8, [.val (.map none)]) ∧ Tryz.prog.cellsOf 95 = 1 ∧ kindT Tryz.prog 96 = some none := by and_intros <;> kernel_rfl
@[go_sem] theorem Tryz.g47 : Tryz.prog.cellsOf 96 = 1 ∧ kindT Tryz.prog 97 = some none ∧ Tryz.prog.cellsOf 97 = 1 ∧ kindT Tryz.prog 98 = some none ∧ Tryz.prog.cellsOf 98 = 1 ∧ kindT Tryz.prog 99 = some none ∧ Tryz.prog.cellsOf 99 = 1 ∧ kindT Tryz.prog 100 = some none := by and_intros <;> kernel_rfl
@[go_sem] theorem Tryz.g48 : Tryz.prog.cellsOf 100 = 1 ∧ kindT Tryz.prog 102 = some none ∧ Tryz.prog.cellsOf 102 = 1 ∧ kindT Tryz.prog 104 = some none ∧ Tryz.prog.cellsOf 104 = 1 ∧ kindT Tryz.prog 105 = some none ∧ Tryz.prog.cellsOf 105 = 1 ∧ kindT Tryz.prog 106 = some none := by and_intros <;> kernel_rfl
@[go_sem] theorem Tryz.g49 : Tryz.prog.cellsOf 106 = 1 ∧ kindT Tryz.prog 107 = some none ∧ Tryz.prog.cellsOf 107 = 1 ∧ kindT Tryz.prog 108 = some none ∧ Tryz.prog.cellsOf 108 = 1 ∧ kindT Tryz.prog 109 = some none ∧ Tryz.prog.cellsOf 109 = 1 ∧ kindT Tryz.prog 110 = some none := by and_intros <;> kernel_rfl
@[go_sem] theorem Tryz.g50 : Tryz.prog.cellsOf 110 = 1 ∧ kindT Tryz.prog 111 = some none ∧ Tryz.prog.cellsOf 111 = 1 ∧ kindT Tryz.prog 112 = some none ∧ Tryz.prog.cellsOf 112 = 1 ∧ kindT Tryz.prog 113 = some none ∧ Tryz.prog.cellsOf 113 = 1 ∧ kindT Tryz.prog 114 = some none := by and_intros <;> kernel_rfl
@[go_sem] theorem Tryz.g51 : Tryz.prog.cellsOf 114 = 1 ∧ kindT Tryz.prog 115 = some none ∧ Tryz.prog.cellsOf 115 = 1 ∧ kindT Tryz.prog 116 = some none ∧ Tryz.prog.cellsOf 116 = 1 ∧ kindT Tryz.prog 117 = some none ∧ Tryz.prog.cellsOf 117 = 1 ∧ kindT Tryz.prog 118 = some none := by and_intros <;> kernel_rfl
@[go_sem] theorem Tryz.g52 : Tryz.prog.cellsOf 118 = 1 ∧ kindT Tryz.prog 119 = some none ∧ Tryz.prog.cellsOf 119 = 1 ∧ kindT Tryz.prog 120 = some none ∧ Tryz.prog.cellsOf 120 = 1 ∧ kindT Tryz.prog 121 = some none ∧ infoT Tryz.prog 121 = some (1, 8, [.val (.int .u64 0)]) ∧ Tryz.prog.cellsOf 121 = 1 := by and_intros <;> kernel_rfl
@[go_sem] theorem Tryz.g53 : Tryz.prog.underlying 121 = some (.int .u64) ∧ kindT Tryz.prog 122 = some none ∧ Tryz.prog.cellsOf 122 = 1 ∧ kindT Tryz.prog 123 = some none ∧ elemT Tryz.prog 123 = some 169 ∧ infoT Tryz.prog 123 = some (1, 24, [.val (.slice none 0 0)]) ∧ Tryz.prog.cellsOf 123 = 1 := by and_intros <;> kernel_rfl
theorem Tryz.und123 : Tryz.prog.underlying 123 = some (.slice 169) := by kernel_rfl
@[go_sem] theorem Tryz.g54 : kindT Tryz.prog 124 = some none ∧ Tryz.prog.cellsOf 124 = 1 ∧ kindT Tryz.prog 125 = some none ∧ elemT Tryz.prog 125 = some 127 ∧ infoT Tryz.prog 125 = some (1, 24, [.val (.slice none 0 0)]) ∧ Tryz.prog.cellsOf 125 = 1 := by and_intros <;> kernel_rfl
theorem Tryz.und125 : Tryz.prog.underlying 125 = some (.slice 127) := by kernel_rfl
@[go_sem] theorem Tryz.g55 : kindT Tryz.prog 126 = some (some 2) ∧ fldT Tryz.prog 126 0 = some 0 ∧ fld1T Tryz.prog 126 0 = some 0 ∧ plT Tryz.prog 126 0 = some 0 ∧ fldT Tryz.prog 126 1 = some 1 ∧ fld1T Tryz.prog 126 1 = some 1 ∧ plT Tryz.prog 126 1 = some 1 ∧ plOk Tryz.prog 126 = true := by and_intros <;> kernel_rfl
@[go_sem] theorem Tryz.g56 : infoT Tryz.prog 126 = some (2, 32, [.val (.int .i64 0), .val (.slice none 0 0)]) ∧ Tryz.prog.cellsOf 126 = 2 ∧ kindT Tryz.prog 127 = some (some 2) ∧ fldT Tryz.prog 127 0 = some 0 ∧ fld1T Tryz.prog 127 0 = some 0 ∧ plT Tryz.prog 127 0 = some 0 ∧ fldT Tryz.prog 127 1 = some 1 ∧ fld1T Tryz.prog 127 1 = some 1 := by and_intros <;> kernel_rfl
@[go_sem] theorem Tryz.g57 : plT Tryz.prog 127 1 = some 1 ∧ plOk Tryz.prog 127 = true ∧ infoT Tryz.prog 127 = some (2, 32, [.val (.int .i64 0), .val (.slice none 0 0)]) ∧ Tryz.prog.cellsOf 127 = 2 ∧ kindT Tryz.prog 128 = some none ∧ Tryz.prog.cellsOf 128 = 1 ∧ kindT Tryz.prog 129 = some none ∧ Tryz.prog.cellsOf 129 = 1 := by and_intros <;> kernel_rfl
@[go_sem] theorem Tryz.g58 : kindT Tryz.prog 130 = some none ∧ Tryz.prog.cellsOf 130 = 1 ∧ kindT Tryz.prog 131 = some none ∧ Tryz.prog.cellsOf 131 = 1 ∧ kindT Tryz.prog 132 = some none ∧ Tryz.prog.cellsOf 132 = 1 ∧ kindT Tryz.prog 133 = some none ∧ Tryz.prog.cellsOf 133 = 1 := by and_intros <;> kernel_rfl
@[go_sem] theorem Tryz.g59 : kindT Tryz.prog 134 = some none ∧ Tryz.prog.cellsOf 134 = 1 ∧ kindT Tryz.prog 135 = some none ∧ Tryz.prog.cellsOf 135 = 1 ∧ kindT Tryz.prog 136 = some none ∧ Tryz.prog.cellsOf 136 = 1 ∧ kindT Tryz.prog 137 = some none ∧ Tryz.prog.cellsOf 137 = 1 := by and_intros <;> kernel_rfl
@[go_sem] theorem Tryz.g60 : kindT Tryz.prog 138 = some none ∧ Tryz.prog.cellsOf 138 = 1 ∧ kindT Tryz.prog 139 = some none ∧ Tryz.prog.cellsOf 139 = 1 ∧ kindT Tryz.prog 140 = some (some 3) ∧ fldT Tryz.prog 140 0 = some 0 ∧ fld1T Tryz.prog 140 0 = some 0 ∧ plT Tryz.prog 140 0 = some 0 := by and_intros <;> kernel_rfl
@[go_sem] theorem Tryz.g61 : fldT Tryz.prog 140 1 = some 1 ∧ fld1T Tryz.prog 140 1 = some 1 ∧ plT Tryz.prog 140 1 = some 1 ∧ fldT Tryz.prog 140 2 = some 2 ∧ fld1T Tryz.prog 140 2 = some 2 ∧ plT Tryz.prog 140 2 = some 2 ∧ plOk Tryz.prog 140 = true ∧ infoT Tryz.prog 140 = some (3, 40, [.val (.slice none 0 0), .val (.int .i64 0), .val (.int .u64 0)]) := by and_intros <;> kernel_rfl
@[go_sem] theorem Tryz.g62 : Tryz.prog.cellsOf 140 = 3 ∧ kindT Tryz.prog 141 = some (some 3) ∧ fldT Tryz.prog 141 0 = some 0 ∧ fld1T Tryz.prog 141 0 = some 0 ∧ plT Tryz.prog 141 0 = some 0 ∧ fldT Tryz.prog 141 1 = some 1 ∧ fld1T Tryz.prog 141 1 = some 1 ∧ plT Tryz.prog 141 1 = some 1 := by and_intros <;> kernel_rfl
@[go_sem] theorem Tryz.g63 : fldT Tryz.prog 141 2 = some 2 ∧ fld1T Tryz.prog 141 2 = some 2 ∧ plT Tryz.prog 141 2 = some 2 ∧ plOk Tryz.prog 141 = true ∧ infoT Tryz.prog 141 = some (3, 40, [.val (.slice none 0 0), .val (.int .i64 0), .val (.int .u64 0)]) ∧ Tryz.prog.cellsOf 141 = 3 ∧ kindT Tryz.prog 142 = some none ∧ Tryz.prog.cellsOf 142 = 1 := by and_intros <;> kernel_rfl
@[go_sem] theorem Tryz.g64 : kindT Tryz.prog 143 = some none ∧ Tryz.prog.cellsOf 143 = 1 ∧ kindT Tryz.prog 144 = some none ∧ Tryz.prog.cellsOf 144 = 1 ∧ kindT Tryz.prog 145 = some none ∧ Tryz.prog.cellsOf 145 = 1 ∧ kindT Tryz.prog 146 = some none ∧ Tryz.prog.cellsOf 146 = 1 := by and_intros <;> kernel_rfl
@[go_sem] theorem Tryz.g65 : kindT Tryz.prog 147 = some (some 3) ∧ elemT Tryz.prog 147 = none ∧ arrT Tryz.prog 147 = some (3, 1, true) ∧ plT Tryz.prog 147 0 = some 0 ∧ plT Tryz.prog 147 1 = some 1 ∧ plT Tryz.prog 147 2 = some 2 ∧ plOk Tryz.prog 147 = true ∧ infoT Tryz.prog 147 = some (3, 24, [.val (.int .i64 0), .val (.int .i64 0), .val (.int .i64 0)]) := by and_intros <;> kernel_rfl
@[go_sem] theorem Tryz.g66 : Tryz.prog.cellsOf 147 = 3 ∧ kindT Tryz.prog 148 = some (some 3) ∧ elemT Tryz.prog 148 = none ∧ arrT Tryz.prog 148 = some (3, 1, true) ∧ plT Tryz.prog 148 0 = some 0 ∧ plT Tryz.prog 148 1 = some 1 ∧ plT Tryz.prog 148 2 = some 2 ∧ plOk Tryz.prog 148 = true := by and_intros <;> kernel_rfl
@[go_sem] theorem Tryz.g67 : infoT Tryz.prog 148 = some (3, 24, [.val (.int .i64 0), .val (.int .i64 0), .val (.int .i64 0)]) ∧ Tryz.prog.cellsOf 148 = 3 ∧ kindT Tryz.prog 149 = some none ∧ Tryz.prog.cellsOf 149 = 1 ∧ kindT Tryz.prog 150 = some none ∧ Tryz.prog.cellsOf 150 = 1 ∧ kindT Tryz.prog 151 = some none ∧ Tryz.prog.cellsOf 151 = 1 := by and_intros <;> kernel_rfl
@[go_sem] theorem Tryz.g68 : kindT Tryz.prog 152 = some none ∧ Tryz.prog.cellsOf 152 = 1 ∧ kindT Tryz.prog 153 = some none ∧ Tryz.prog.cellsOf 153 = 1 ∧ kindT Tryz.prog 154 = some none ∧ Tryz.prog.cellsOf 154 = 1 ∧ kindT Tryz.prog 155 = some none ∧ Tryz.prog.cellsOf 155 = 1 := by and_intros <;> kernel_rfl
@[go_sem] theorem Tryz.g69 : kindT Tryz.prog 156 = some none ∧ Tryz.prog.cellsOf 156 = 1 ∧ kindT Tryz.prog 157 = some none ∧ Tryz.prog.cellsOf 157 = 1 ∧ kindT Tryz.prog 158 = some none ∧ Tryz.prog.cellsOf 158 = 1 ∧ kindT Tryz.prog 159 = some none ∧ Tryz.prog.cellsOf 159 = 1 := by and_intros <;> kernel_rfl
@[go_sem] theorem Tryz.g70 : kindT Tryz.prog 160 = some none ∧ Tryz.prog.cellsOf 160 = 1 ∧ kindT Tryz.prog 161 = some none ∧ Tryz.prog.cellsOf 161 = 1 ∧ kindT Tryz.prog 162 = some none ∧ elemT Tryz.prog 162 = some 27 ∧ infoT Tryz.prog 162 = some (1, 24, [.val (.slice none 0 0)]) ∧ Tryz.prog.cellsOf 162 = 1 := by and_intros <;> kernel_rfl
theorem Tryz.und162 : Tryz.prog.underlying 162 = some (.slice 27) := by kernel_rfl
@[go_sem] theorem Tryz.g71 : kindT Tryz.prog 163 = some none ∧ Tryz.prog.cellsOf 163 = 1 ∧ kindT Tryz.prog 164 = some none ∧ Tryz.prog.cellsOf 164 = 1 ∧ kindT Tryz.prog 165 = some none ∧ Tryz.prog.cellsOf 165 = 1 ∧ kindT Tryz.prog 166 = some none ∧ Tryz.prog.cellsOf 166 = 1 := by and_intros <;> kernel_rfl
@[go_sem] theorem Tryz.g72 : kindT Tryz.prog 167 = some none ∧ Tryz.prog.cellsOf 167 = 1 ∧ kindT Tryz.prog 168 = some none ∧ Tryz.prog.cellsOf 168 = 1 ∧ kindT Tryz.prog 169 = some (some 2) ∧ fldT Tryz.prog 169 0 = some 0 ∧ fld1T Tryz.prog 169 0 = some 0 ∧ plT Tryz.prog 169 0 = some 0 := by and_intros <;> kernel_rfl
@[go_sem] theorem Tryz.g73 : fldT Tryz.prog 169 1 = some 1 ∧ fld1T Tryz.prog 169 1 = some 1 ∧ plT Tryz.prog 169 1 = some 1 ∧ plOk Tryz.prog 169 = true ∧ infoT Tryz.prog 169 = some (2, 32, [.val (.int .i64 0), .val (.slice none 0 0)]) ∧ Tryz.prog.cellsOf 169 = 2 ∧ kindT Tryz.prog 170 = some none ∧ Tryz.prog.cellsOf 170 = 1 := by and_intros <;> kernel_rfl
@[go_sem] theorem Tryz.g74 : kindT Tryz.prog 171 = some none ∧ Tryz.prog.cellsOf 171 = 1 ∧ kindT Tryz.prog 172 = some none ∧ Tryz.prog.cellsOf 172 = 1 ∧ kindT Tryz.prog 173 = some none ∧ Tryz.prog.cellsOf 173 = 1 ∧ kindT Tryz.prog 174 = some none ∧ Tryz.prog.cellsOf 174 = 1 := by and_intros <;> kernel_rfl
@[go_sem] theorem Tryz.g75 : kindT Tryz.prog 175 = some none ∧ Tryz.prog.cellsOf 175 = 1 ∧ kindT Tryz.prog 176 = some none ∧ Tryz.prog.cellsOf 176 = 1 ∧ kindT Tryz.prog 177 = some none ∧ Tryz.prog.cellsOf 177 = 1 ∧ kindT Tryz.prog 178 = some none ∧ Tryz.prog.cellsOf 178 = 1 := by and_intros <;> kernel_rfl
@[go_sem] theorem Tryz.g76 : kindT Tryz.prog 179 = some none ∧ Tryz.prog.cellsOf 179 = 1 ∧ kindT Tryz.prog 180 = some none ∧ Tryz.prog.cellsOf 180 = 1 ∧ kindT Tryz.prog 181 = some none ∧ Tryz.prog.cellsOf 181 = 1 ∧ kindT Tryz.prog 182 = some none ∧ Tryz.prog.cellsOf 182 = 1 := by and_intros <;> kernel_rfl
@[go_sem] theorem Tryz.g77 : kindT Tryz.prog 183 = some none ∧ Tryz.prog.cellsOf 183 = 1 ∧ kindT Tryz.prog 184 = some none ∧ elemT Tryz.prog 184 = some 9 ∧ infoT Tryz.prog 184 = some (1, 24, [.val (.slice none 0 0)]) ∧ Tryz.prog.cellsOf 184 = 1 := by and_intros <;> kernel_rfl
theorem Tryz.und184 : Tryz.prog.underlying 184 = some (.slice 9) := by kernel_rfl
@[go_sem] theorem Tryz.g78 : kindT Tryz.prog 185 = some none ∧ Tryz.prog.cellsOf 185 = 1 ∧ kindT Tryz.prog 186 = some none ∧ Tryz.prog.cellsOf 186 = 1 ∧ kindT Tryz.prog 188 = some none ∧ Tryz.prog.cellsOf 188 = 1 ∧ kindT Tryz.prog 189 = some none ∧ elemT Tryz.prog 189 = some 4 := by and_intros <;> kernel_rfl
@[go_sem] theorem Tryz.g79 : infoT Tryz.prog 189 = some (1, 24, [.val (.slice none 0 0)]) ∧ Tryz.prog.cellsOf 189 = 1 := by and_intros <;> kernel_rfl
theorem Tryz.und189 : Tryz.prog.underlying 189 = some (.slice 4) := by kernel_rfl
@[go_sem] theorem Tryz.g80 : kindT Tryz.prog 190 = some none ∧ Tryz.prog.cellsOf 190 = 1 ∧ kindT Tryz.prog 191 = some none ∧ Tryz.prog.cellsOf 191 = 1 ∧ kindT Tryz.prog 192 = some none ∧ Tryz.prog.cellsOf 192 = 1 ∧ kindT Tryz.prog 193 = some none ∧ Tryz.prog.cellsOf 193 = 1 := by and_intros <;> kernel_rfl
@[go_sem] theorem Tryz.g81 : kindT Tryz.prog 194 = some none ∧ Tryz.prog.cellsOf 194 = 1 ∧ kindT Tryz.prog 195 = some none ∧ Tryz.prog.cellsOf 195 = 1 ∧ kindT Tryz.prog 196 = some none ∧ Tryz.prog.cellsOf 196 = 1 ∧ kindT Tryz.prog 197 = some none ∧ Tryz.prog.cellsOf 197 = 1 := by and_intros <;> kernel_rfl
@[go_sem] theorem Tryz.g82 : kindT Tryz.prog 198 = some none ∧ Tryz.prog.cellsOf 198 = 1 ∧ kindT Tryz.prog 199 = some none ∧ Tryz.prog.cellsOf 199 = 1 ∧ kindT Tryz.prog 200 = some none ∧ Tryz.prog.cellsOf 200 = 1 ∧ kindT Tryz.prog 201 = some none ∧ Tryz.prog.cellsOf 201 = 1 := by and_intros <;> kernel_rfl
@[go_sem] theorem Tryz.g83 : kindT Tryz.prog 202 = some none ∧ Tryz.prog.cellsOf 202 = 1 ∧ kindT Tryz.prog 203 = some none ∧ Tryz.prog.cellsOf 203 = 1 ∧ kindT Tryz.prog 204 = some none ∧ Tryz.prog.cellsOf 204 = 1 ∧ kindT Tryz.prog 205 = some none ∧ Tryz.prog.cellsOf 205 = 1 := by and_intros <;> kernel_rfl
@[go_sem] theorem Tryz.g84 : kindT Tryz.prog 206 = some none ∧ Tryz.prog.cellsOf 206 = 1 ∧ kindT Tryz.prog 207 = some none ∧ Tryz.prog.cellsOf 207 = 1 ∧ kindT Tryz.prog 208 = some none ∧ Tryz.prog.cellsOf 208 = 1 ∧ kindT Tryz.prog 209 = some none ∧ Tryz.prog.cellsOf 209 = 1 := by and_intros <;> kernel_rfl
@[go_sem] theorem Tryz.g85 : kindT Tryz.prog 210 = some none ∧ Tryz.prog.cellsOf 210 = 1 ∧ kindT Tryz.prog 211 = some none ∧ Tryz.prog.cellsOf 211 = 1 ∧ kindT Tryz.prog 212 = some none ∧ Tryz.prog.cellsOf 212 = 1 ∧ kindT Tryz.prog 213 = some none ∧ Tryz.prog.cellsOf 213 = 1 := by and_intros <;> kernel_rfl
@[go_sem] theorem Tryz.g86 : kindT Tryz.prog 214 = some none ∧ infoT Tryz.prog 214 = some (1, 8, [.val (.int .i64 0)]) ∧ Tryz.prog.cellsOf 214 = 1 ∧ Tryz.prog.underlying 214 = some (.int .i64) ∧ kindT Tryz.prog 216 = some none ∧ Tryz.prog.cellsOf 216 = 1 ∧ kindT Tryz.prog 217 = some none ∧ Tryz.prog.cellsOf 217 = 1 := by and_intros <;> kernel_rfl
@[go_sem] theorem Tryz.g87 : kindT Tryz.prog 218 = some none ∧ Tryz.prog.cellsOf 218 = 1 ∧ kindT Tryz.prog 220 = some none ∧ Tryz.prog.cellsOf 220 = 1 ∧ kindT Tryz.prog 221 = some none ∧ Tryz.prog.cellsOf 221 = 1 ∧ kindT Tryz.prog 222 = some none ∧ infoT Tryz.prog 222 = some (1, 4, [.val (.int .u32 0)]) := by and_intros <;> kernel_rfl
@[go_sem] theorem Tryz.g88 : Tryz.prog.cellsOf 222 = 1 ∧ Tryz.prog.underlying 222 = some (.int .u32) ∧ kindT Tryz.prog 223 = some none ∧ Tryz.prog.cellsOf 223 = 1 ∧ kindT Tryz.prog 224 = some none ∧ Tryz.prog.cellsOf 224 = 1 ∧ kindT Tryz.prog 225 = some none ∧ Tryz.prog.cellsOf 225 = 1 := by and_intros <;> kernel_rfl
@[go_sem] theorem Tryz.g89 : kindT Tryz.prog 226 = some none ∧ Tryz.prog.cellsOf 226 = 1 ∧ kindT Tryz.prog 227 = some none ∧ Tryz.prog.cellsOf 227 = 1 ∧ kindT Tryz.prog 228 = some none ∧ Tryz.prog.cellsOf 228 = 1 ∧ kindT Tryz.prog 229 = some none ∧ Tryz.prog.cellsOf 229 = 1 := by and_intros <;> kernel_rfl
@[go_sem] theorem Tryz.g90 : kindT Tryz.prog 230 = some none ∧ Tryz.prog.cellsOf 230 = 1 ∧ kindT Tryz.prog 231 = some none ∧ Tryz.prog.cellsOf 231 = 1 ∧ kindT Tryz.prog 232 = some none ∧ infoT Tryz.prog 232 = some (1, 8, [.val (.int .u64 0)]) ∧ Tryz.prog.cellsOf 232 = 1 ∧ Tryz.prog.underlying 232 = some (.int .u64) := by and_intros <;> kernel_rfl
@[go_sem] theorem Tryz.g91 : kindT Tryz.prog 233 = some none ∧ Tryz.prog.cellsOf 233 = 1 ∧ kindT Tryz.prog 234 = some none ∧ Tryz.prog.cellsOf 234 = 1 ∧ kindT Tryz.prog 235 = some none ∧ Tryz.prog.cellsOf 235 = 1 ∧ kindT Tryz.prog 236 = some none ∧ elemT Tryz.prog 236 = none := by and_intros <;> kernel_rfl
@[go_sem] theorem Tryz.g92 : Tryz.prog.cellsOf 236 = 1 ∧ kindT Tryz.prog 237 = some none ∧ Tryz.prog.cellsOf 237 = 1 ∧ kindT Tryz.prog 238 = some none ∧ Tryz.prog.cellsOf 238 = 1 ∧ kindT Tryz.prog 239 = some none ∧ Tryz.prog.cellsOf 239 = 1 ∧ kindT Tryz.prog 240 = some none := by and_intros <;> kernel_rfl
@[go_sem] theorem Tryz.g93 : Tryz.prog.cellsOf 240 = 1 ∧ kindT Tryz.prog 241 = some none ∧ Tryz.prog.cellsOf 241 = 1 ∧ kindT Tryz.prog 242 = some none ∧ Tryz.prog.cellsOf 242 = 1 ∧ kindT Tryz.prog 243 = some none ∧ Tryz.prog.cellsOf 243 = 1 ∧ kindT Tryz.prog 244 = some none := by and_intros <;> kernel_rfl
@[go_sem] theorem Tryz.g94 : Tryz.prog.cellsOf 244 = 1 ∧ kindT Tryz.prog 245 = some none ∧ Tryz.prog.cellsOf 245 = 1 ∧ kindT Tryz.prog 246 = some none ∧ elemT Tryz.prog 246 = none ∧ Tryz.prog.cellsOf 246 = 1 ∧ kindT Tryz.prog 248 = some none ∧ Tryz.prog.cellsOf 248 = 1 := by and_intros <;> kernel_rfl
@[go_sem] theorem Tryz.g95 : kindT Tryz.prog 249 = some none ∧ Tryz.prog.cellsOf 249 = 1 ∧ kindT Tryz.prog 250 = some none ∧ Tryz.prog.cellsOf 250 = 1 ∧ kindT Tryz.prog 251 = some none ∧ Tryz.prog.cellsOf 251 = 1 ∧ kindT Tryz.prog 252 = some none ∧ Tryz.prog.cellsOf 252 = 1 := by and_intros <;> kernel_rfl
@[go_sem] theorem Tryz.g96 : kindT Tryz.prog 253 = some none ∧ Tryz.prog.cellsOf 253 = 1 ∧ kindT Tryz.prog 254 = some (some 4) ∧ fldT Tryz.prog 254 0 = some 0 ∧ fld1T Tryz.prog 254 0 = some 0 ∧ plT Tryz.prog 254 0 = some 0 ∧ fldT Tryz.prog 254 1 = some 1 ∧ fld1T Tryz.prog 254 1 = some 1 := by and_intros <;> kernel_rfl
@[go_sem] theorem Tryz.g97 : plT Tryz.prog 254 1 = some 1 ∧ fldT Tryz.prog 254 2 = some 2 ∧ fld1T Tryz.prog 254 2 = some 2 ∧ plT Tryz.prog 254 2 = some 2 ∧ fldT Tryz.prog 254 3 = some 3 ∧ fld1T Tryz.prog 254 3 = some 3 ∧ plT Tryz.prog 254 3 = some 3 ∧ plOk Tryz.prog 254 = true := by and_intros <;> kernel_rfl
@[go_sem] theorem Tryz.g98 : Tryz.prog.cellsOf 254 = 4 ∧ kindT Tryz.prog 255 = some (some 4) ∧ fldT Tryz.prog 255 0 = some 0 ∧ fld1T Tryz.prog 255 0 = some 0 ∧ plT Tryz.prog 255 0 = some 0 ∧ fldT Tryz.prog 255 1 = some 1 ∧ fld1T Tryz.prog 255 1 = some 1 ∧ plT Tryz.prog 255 1 = some 1 := by and_intros <;> kernel_rfl
@[go_sem] theorem Tryz.g99 : fldT Tryz.prog 255 2 = some 2 ∧ fld1T Tryz.prog 255 2 = some 2 ∧ plT Tryz.prog 255 2 = some 2 ∧ fldT Tryz.prog 255 3 = some 3 ∧ fld1T Tryz.prog 255 3 = some 3 ∧ plT Tryz.prog 255 3 = some 3 ∧ plOk Tryz.prog 255 = true ∧ Tryz.prog.cellsOf 255 = 4 := by and_intros <;> kernel_rfl
@[go_sem] theorem Tryz.g100 : kindT Tryz.prog 256 = some (some 0) ∧ elemT Tryz.prog 256 = none ∧ arrT Tryz.prog 256 = some (0, 1, true) ∧ plOk Tryz.prog 256 = true ∧ infoT Tryz.prog 256 = some (0, 0, []) ∧ Tryz.prog.cellsOf 256 = 0 ∧ kindT Tryz.prog 257 = some (some 0) ∧ plOk Tryz.prog 257 = true := by and_intros <;> kernel_rfl
@[go_sem] theorem Tryz.g101 : infoT Tryz.prog 257 = some (0, 0, []) ∧ Tryz.prog.cellsOf 257 = 0 ∧ kindT Tryz.prog 258 = some (some 0) ∧ plOk Tryz.prog 258 = true ∧ infoT Tryz.prog 258 = some (0, 0, []) ∧ Tryz.prog.cellsOf 258 = 0 ∧ kindT Tryz.prog 259 = some none ∧ infoT Tryz.prog 259 = some (1, 1, [.val (.int .u8 0)]) := by and_intros <;> kernel_rfl
@[go_sem] theorem Tryz.g102 : Tryz.prog.cellsOf 259 = 1 ∧ Tryz.prog.underlying 259 = some (.int .u8) ∧ kindT Tryz.prog 260 = some none ∧ infoT Tryz.prog 260 = some (1, 1, [.val (.int .u8 0)]) ∧ Tryz.prog.cellsOf 260 = 1 ∧ Tryz.prog.underlying 260 = some (.int .u8) ∧ kindT Tryz.prog 261 = some none ∧ Tryz.prog.cellsOf 261 = 1 := by and_intros <;> kernel_rfl
@[go_sem] theorem Tryz.g103 : kindT Tryz.prog 262 = some none ∧ elemT Tryz.prog 262 = none ∧ Tryz.prog.cellsOf 262 = 1 ∧ kindT Tryz.prog 263 = some none ∧ infoT Tryz.prog 263 = some (1, 4, [.val (.int .i32 0)]) ∧ Tryz.prog.cellsOf 263 = 1 ∧ Tryz.prog.underlying 263 = some (.int .i32) ∧ kindT Tryz.prog 264 = some none := by and_intros <;> kernel_rfl
@[go_sem] theorem Tryz.g104 : infoT Tryz.prog 264 = some (1, 4, [.val (.int .i32 0)]) ∧ Tryz.prog.cellsOf 264 = 1 ∧ Tryz.prog.underlying 264 = some (.int .i32) ∧ kindT Tryz.prog 265 = some (some 11) ∧ fldT Tryz.prog 265 0 = some 0 ∧ fld1T Tryz.prog 265 0 = some 0 ∧ plT Tryz.prog 265 0 = some 0 ∧ fldT Tryz.prog 265 1 = some 1 := by and_intros <;> kernel_rfl
@[go_sem] theorem Tryz.g105 : fld1T Tryz.prog 265 1 = some 1 ∧ plT Tryz.prog 265 1 = some 1 ∧ fldT Tryz.prog 265 2 = some 2 ∧ fld1T Tryz.prog 265 2 = some 2 ∧ plT Tryz.prog 265 2 = some 2 ∧ fldT Tryz.prog 265 3 = some 3 ∧ fld1T Tryz.prog 265 3 = some 3 ∧ plT Tryz.prog 265 3 = some 3 := by and_intros <;> kernel_rfl
@[go_sem] theorem Tryz.g106 : fldT Tryz.prog 265 4 = some 4 ∧ fld1T Tryz.prog 265 4 = some 4 ∧ plT Tryz.prog 265 4 = some 4 ∧ fldT Tryz.prog 265 5 = some 5 ∧ fld1T Tryz.prog 265 5 = some 5 ∧ plT Tryz.prog 265 5 = some 5 ∧ fldT Tryz.prog 265 6 = some 6 ∧ fld1T Tryz.prog 265 6 = some 6 := by and_intros <;> kernel_rfl
@[go_sem] theorem Tryz.g107 : plT Tryz.prog 265 6 = some 6 ∧ fldT Tryz.prog 265 7 = some 7 ∧ fld1T Tryz.prog 265 7 = some 7 ∧ plT Tryz.prog 265 7 = some 7 ∧ fldT Tryz.prog 265 8 = some 8 ∧ fld1T Tryz.prog 265 8 = some 8 ∧ plT Tryz.prog 265 8 = some 8 ∧ fldT Tryz.prog 265 9 = some 9 := by and_intros <;> kernel_rfl
@[go_sem] theorem Tryz.g108 : fld1T Tryz.prog 265 9 = some 9 ∧ plT Tryz.prog 265 9 = some 9 ∧ fldT Tryz.prog 265 10 = some 10 ∧ fld1T Tryz.prog 265 10 = some 10 ∧ plT Tryz.prog 265 10 = some 10 ∧ plOk Tryz.prog 265 = true ∧ Tryz.prog.cellsOf 265 = 11 ∧ kindT Tryz.prog 266 = some (some 11) := by and_intros <;> kernel_rfl
@[go_sem] theorem Tryz.g109 : fldT Tryz.prog 266 0 = some 0 ∧ fld1T Tryz.prog 266 0 = some 0 ∧ plT Tryz.prog 266 0 = some 0 ∧ fldT Tryz.prog 266 1 = some 1 ∧ fld1T Tryz.prog 266 1 = some 1 ∧ plT Tryz.prog 266 1 = some 1 ∧ fldT Tryz.prog 266 2 = some 2 ∧ fld1T Tryz.prog 266 2 = some 2 := by and_intros <;> kernel_rfl
@[go_sem] theorem Tryz.g110 : plT Tryz.prog 266 2 = some 2 ∧ fldT Tryz.prog 266 3 = some 3 ∧ fld1T Tryz.prog 266 3 = some 3 ∧ plT Tryz.prog 266 3 = some 3 ∧ fldT Tryz.prog 266 4 = some 4 ∧ fld1T Tryz.prog 266 4 = some 4 ∧ plT Tryz.prog 266 4 = some 4 ∧ fldT Tryz.prog 266 5 = some 5 := by and_intros <;> kernel_rfl
@[go_sem] theorem Tryz.g111 : fld1T Tryz.prog 266 5 = some 5 ∧ plT Tryz.prog 266 5 = some 5 ∧ fldT Tryz.prog 266 6 = some 6 ∧ fld1T Tryz.prog 266 6 = some 6 ∧ plT Tryz.prog 266 6 = some 6 ∧ fldT Tryz.prog 266 7 = some 7 ∧ fld1T Tryz.prog 266 7 = some 7 ∧ plT Tryz.prog 266 7 = some 7 := by and_intros <;> kernel_rfl
@[go_sem] theorem Tryz.g112 : fldT Tryz.prog 266 8 = some 8 ∧ fld1T Tryz.prog 266 8 = some 8 ∧ plT Tryz.prog 266 8 = some 8 ∧ fldT Tryz.prog 266 9 = some 9 ∧ fld1T Tryz.prog 266 9 = some 9 ∧ plT Tryz.prog 266 9 = some 9 ∧ fldT Tryz.prog 266 10 = some 10 ∧ fld1T Tryz.prog 266 10 = some 10 := by and_intros <;> kernel_rfl
@[go_sem] theorem Tryz.g113 : plT Tryz.prog 266 10 = some 10 ∧ plOk Tryz.prog 266 = true ∧ Tryz.prog.cellsOf 266 = 11 ∧ kindT Tryz.prog 267 = some none ∧ Tryz.prog.cellsOf 267 = 1 ∧ kindT Tryz.prog 268 = some none ∧ Tryz.prog.cellsOf 268 = 1 := by and_intros <;> kernel_rfl
end Go.Proofs

namespace Go.Proofs.YtbeekabpflaihaaGreat
open Go.Shelf Go.Sort
set_option maxRecDepth 100000
def Tryz.sortMon_ren : Go.Shelf.Ren := ⟨fun | 6 => 184 | 15 => 217 | 14 => 223 | 28 => 244 | 29 => 245 | 20 => 247 | 21 => 248 | 22 => 249 | 23 => 250 | 24 => 251 | 25 => 252 | 26 => 253 | 27 => 254 | 46 => 264 | 47 => 260 | 48 => 261 | 49 => 265 | 50 => 266 | 57 => 278 | n => n, fun | 22 => 125 | 24 => 127 | 25 => 178 | 3 => 3 | 39 => 121 | 0 => 0 | 53 => 222 | 55 => 53 | 4 => 4 | 46 => 215 | 45 => 214 | 50 => 219 | 5 => 5 | 9 => 9 | 66 => 232 | 70 => 236 | 76 => 246 | 77 => 247 | n => n, fun | n => n⟩
theorem Tryz.sortMon : Go.Proofs.SlLaysF0.n6 Tryz.prog Tryz.sortMon_ren := {
  mixed := by kernel_rfl,
  f6 := ⟨Tryz.f184.name, by decide, Tryz.func184.trans (congrArg some (by kernel_rfl))⟩,
  f14 := ⟨Tryz.f223.name, by decide, Tryz.func223.trans (congrArg some (by kernel_rfl))⟩,
  f15 := Tryz.func217.trans (congrArg some (by kernel_rfl)),
  f20 := ⟨Tryz.f247.name, by decide, Tryz.func247.trans (congrArg some (by kernel_rfl))⟩,
  f21 := ⟨Tryz.f248.name, by decide, Tryz.func248.trans (congrArg some (by kernel_rfl))⟩,
  f22 := ⟨Tryz.f249.name, by decide, Tryz.func249.trans (congrArg some (by kernel_rfl))⟩,
  f23 := ⟨Tryz.f250.name, by decide, Tryz.func250.trans (congrArg some (by kernel_rfl))⟩,
  f24 := ⟨Tryz.f251.name, by decide, Tryz.func251.trans (congrArg some (by kernel_rfl))⟩,
  f25 := ⟨Tryz.f252.name, by decide, Tryz.func252.trans (congrArg some (by kernel_rfl))⟩,
  f26 := ⟨Tryz.f253.name, by decide, Tryz.func253.trans (congrArg some (by kernel_rfl))⟩,
  f27 := ⟨Tryz.f254.name, by decide, Tryz.func254.trans (congrArg some (by kernel_rfl))⟩,
  f28 := Tryz.func244.trans (congrArg some (by kernel_rfl)),
  f29 := Tryz.func245.trans (congrArg some (by kernel_rfl)),
  f46 := ⟨Tryz.f264.name, by decide, Tryz.func264.trans (congrArg some (by kernel_rfl))⟩,
  f47 := Tryz.func260.trans (congrArg some (by kernel_rfl)),
  f48 := Tryz.func261.trans (congrArg some (by kernel_rfl)),
  f49 := ⟨Tryz.f265.name, by decide, Tryz.func265.trans (congrArg some (by kernel_rfl))⟩,
  f50 := ⟨Tryz.f266.name, by decide, Tryz.func266.trans (congrArg some (by kernel_rfl))⟩,
  f57 := ⟨Tryz.f278.name, by decide, Tryz.func278.trans (congrArg some (by kernel_rfl))⟩,
  t0 := Tryz.underlying0,
  a0 := Tryz.isAgg0,
  z0 := Tryz.sizeOf0,
  v0 := Tryz.zeroValue0,
  t3 := Tryz.underlying3,
  a3 := Tryz.isAgg3,
  z3 := Tryz.sizeOf3,
  v3 := Tryz.zeroValue3,
  t4 := Tryz.underlying4,
  a4 := Tryz.isAgg4,
  z4 := Tryz.sizeOf4,
  v4 := Tryz.zeroValue4,
  t5 := Tryz.underlying5,
  a5 := Tryz.isAgg5,
  z5 := Tryz.sizeOf5,
  v5 := Tryz.zeroValue5,
  t9 := Tryz.underlying9,
  a9 := Tryz.isAgg9,
  z9 := Tryz.sizeOf9,
  v9 := Tryz.zeroValue9,
  t22 := Tryz.underlying125,
  a22 := Tryz.isAgg125,
  z22 := Tryz.sizeOf125,
  v22 := Tryz.zeroValue125,
  t25 := Tryz.underlying178,
  a25 := Tryz.isAgg178,
  z25 := Tryz.sizeOf178,
  v25 := Tryz.zeroValue178,
  t39 := Tryz.underlying121,
  a39 := Tryz.isAgg121,
  z39 := Tryz.sizeOf121,
  v39 := Tryz.zeroValue121,
  t45 := Tryz.underlying214,
  a45 := Tryz.isAgg214,
  z45 := Tryz.sizeOf214,
  v45 := Tryz.zeroValue214,
  t46 := Tryz.underlying215,
  a46 := Tryz.isAgg215,
  z46 := Tryz.sizeOf215,
  v46 := Tryz.zeroValue215,
  t50 := Tryz.underlying219,
  a50 := Tryz.isAgg219,
  z50 := Tryz.sizeOf219,
  v50 := Tryz.zeroValue219,
  t53 := Tryz.underlying222,
  a53 := Tryz.isAgg222,
  z53 := Tryz.sizeOf222,
  v53 := Tryz.zeroValue222,
  t55 := Tryz.underlying53,
  a55 := Tryz.isAgg53,
  z55 := Tryz.sizeOf53,
  v55 := Tryz.zeroValue53,
  t66 := Tryz.underlying232,
  a66 := Tryz.isAgg232,
  z66 := Tryz.sizeOf232,
  v66 := Tryz.zeroValue232,
  t70 := Tryz.underlying236,
  a70 := Tryz.isAgg236,
  z70 := Tryz.sizeOf236,
  v70 := Tryz.zeroValue236,
  t76 := Tryz.underlying246,
  a76 := Tryz.isAgg246,
  z76 := Tryz.sizeOf246,
  v76 := Tryz.zeroValue246,
  t77 := Tryz.underlying247,
  a77 := Tryz.isAgg247,
  z77 := Tryz.sizeOf247,
  v77 := Tryz.zeroValue247 }
end Go.Proofs.YtbeekabpflaihaaGreat

