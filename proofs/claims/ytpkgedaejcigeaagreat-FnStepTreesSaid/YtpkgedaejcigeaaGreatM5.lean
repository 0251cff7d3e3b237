/- Texts of the own layer and contracts, part 5: Tab Srt. -/
import Derived.Test.YtpkgedaejcigeaaGreatProg
import Derived.KernelRfl
import Derived.Shelf.SlSortCmp.NoneTotal
import Derived.Test.YtpkgedaejcigeaaGreatM4
/- What the loaded program says of its types. Written by a program (gentab.py). -/
namespace Go.Proofs
open Go.Abs
instance Tryz.drawK : DrawK := ⟨0⟩
theorem Tryz.mixed : Tryz.prog.follows .mixedOrders = true := by kernel_rfl
@[go_sem] theorem Tryz.g0 : kindT Tryz.prog 1 = some none ∧ Tryz.prog.cellsOf 1 = 1 ∧ kindT Tryz.prog 2 = some none ∧ infoT Tryz.prog 2 = some (1, 8, [.val (.int .i64 0)]) ∧ Tryz.prog.cellsOf 2 = 1 ∧ Tryz.prog.underlying 2 = some (.int .i64) ∧ kindT Tryz.prog 3 = some none ∧ infoT Tryz.prog 3 = some (1, 8, [.val (.int .i64 0)]) := by and_intros <;> kernel_rfl
@[go_sem] theorem Tryz.g1 : Tryz.prog.cellsOf 3 = 1 ∧ Tryz.prog.underlying 3 = some (.int .i64) ∧ kindT Tryz.prog 4 = some none ∧ boolT Tryz.prog 4 = true ∧ infoT Tryz.prog 4 = some (1, 1, [.val (.bool false)]) ∧ Tryz.prog.cellsOf 4 = 1 ∧ kindT Tryz.prog 5 = some none ∧ infoT Tryz.prog 5 = some (1, 1, [.val (.int .u8 0)]) := by and_intros <;> kernel_rfl
@[go_sem] theorem Tryz.g2 : Tryz.prog.cellsOf 5 = 1 ∧ Tryz.prog.underlying 5 = some (.int .u8) ∧ kindT Tryz.prog 6 = some none ∧ infoT Tryz.prog 6 = some (1, 1, [.val (.int .u8 0)]) ∧ Tryz.prog.cellsOf 6 = 1 ∧ Tryz.prog.underlying 6 = some (.int .u8) ∧ kindT Tryz.prog 7 = some (some 4) ∧ fldT Tryz.prog 7 0 = some 0 := by and_intros <;> kernel_rfl
@[go_sem] theorem Tryz.g3 : fld1T Tryz.prog 7 0 = some 0 ∧ plT Tryz.prog 7 0 = some 0 ∧ fldT Tryz.prog 7 1 = some 1 ∧ fld1T Tryz.prog 7 1 = some 1 ∧ plT Tryz.prog 7 1 = some 1 ∧ fldT Tryz.prog 7 2 = some 2 ∧ fld1T Tryz.prog 7 2 = some 2 ∧ plT Tryz.prog 7 2 = some 2 := by and_intros <;> kernel_rfl
@[go_sem] theorem Tryz.g4 : fldT Tryz.prog 7 3 = some 3 ∧ fld1T Tryz.prog 7 3 = some 3 ∧ plT Tryz.prog 7 3 = some 3 ∧ plOk Tryz.prog 7 = true ∧ infoT Tryz.prog 7 = some (4, 24, [.val (.int .i64 0), .val (.int .i64 0), .val (.bool false), .val (.int .u8 0)]) ∧ Tryz.prog.cellsOf 7 = 4 ∧ kindT Tryz.prog 8 = some (some 4) ∧ fldT Tryz.prog 8 0 = some 0 := by and_intros <;> kernel_rfl
@[go_sem] theorem Tryz.g5 : fld1T Tryz.prog 8 0 = some 0 ∧ plT Tryz.prog 8 0 = some 0 ∧ fldT Tryz.prog 8 1 = some 1 ∧ fld1T Tryz.prog 8 1 = some 1 ∧ plT Tryz.prog 8 1 = some 1 ∧ fldT Tryz.prog 8 2 = some 2 ∧ fld1T Tryz.prog 8 2 = some 2 ∧ plT Tryz.prog 8 2 = some 2 := by and_intros <;> kernel_rfl
@[go_sem] theorem Tryz.g6 : fldT Tryz.prog 8 3 = some 3 ∧ fld1T Tryz.prog 8 3 = some 3 ∧ plT Tryz.prog 8 3 = some 3 ∧ plOk Tryz.prog 8 = true ∧ infoT Tryz.prog 8 = some (4, 24, [.val (.int .i64 0), .val (.int .i64 0), .val (.bool false), .val (.int .u8 0)]) ∧ Tryz.prog.cellsOf 8 = 4 ∧ kindT Tryz.prog 9 = some none ∧ elemT Tryz.prog 9 = none := by and_intros <;> kernel_rfl
@[go_sem] theorem Tryz.g7 : infoT Tryz.prog 9 = some (1, 16, [.val (.string ⟨#[]⟩)]) ∧ Tryz.prog.cellsOf 9 = 1 := by and_intros <;> kernel_rfl
theorem Tryz.und9 : Tryz.prog.underlying 9 = some (.string) := by kernel_rfl
@[go_sem] theorem Tryz.g8 : kindT Tryz.prog 10 = some none ∧ elemT Tryz.prog 10 = none ∧ infoT Tryz.prog 10 = some (1, 16, [.val (.string ⟨#[]⟩)]) ∧ Tryz.prog.cellsOf 10 = 1 := by and_intros <;> kernel_rfl
theorem Tryz.und10 : Tryz.prog.underlying 10 = some (.string) := by kernel_rfl
@[go_sem] theorem Tryz.g9 : kindT Tryz.prog 11 = some none ∧ elemT Tryz.prog 11 = none ∧ infoT Tryz.prog 11 = some (1, 16, [.val (.string ⟨#[]⟩)]) ∧ Tryz.prog.cellsOf 11 = 1 := by and_intros <;> kernel_rfl
theorem Tryz.und11 : Tryz.prog.underlying 11 = some (.string) := by kernel_rfl
@[go_sem] theorem Tryz.g10 : kindT Tryz.prog 12 = some none ∧ infoT Tryz.prog 12 = some (1, 8, [.val (.int .u64 0)]) ∧ Tryz.prog.cellsOf 12 = 1 ∧ Tryz.prog.underlying 12 = some (.int .u64) ∧ kindT Tryz.prog 13 = some (some 2) ∧ fldT Tryz.prog 13 0 = some 0 ∧ fld1T Tryz.prog 13 0 = some 0 ∧ plT Tryz.prog 13 0 = some 0 := by and_intros <;> kernel_rfl
@[go_sem] theorem Tryz.g11 : fldT Tryz.prog 13 1 = some 1 ∧ fld1T Tryz.prog 13 1 = some 1 ∧ plT Tryz.prog 13 1 = some 1 ∧ plOk Tryz.prog 13 = true ∧ infoT Tryz.prog 13 = some (2, 24, [.val (.string ⟨#[]⟩), .val (.int .u64 0)]) ∧ Tryz.prog.cellsOf 13 = 2 ∧ kindT Tryz.prog 14 = some (some 2) ∧ fldT Tryz.prog 14 0 = some 0 := by and_intros <;> kernel_rfl
@[go_sem] theorem Tryz.g12 : fld1T Tryz.prog 14 0 = some 0 ∧ plT Tryz.prog 14 0 = some 0 ∧ fldT Tryz.prog 14 1 = some 1 ∧ fld1T Tryz.prog 14 1 = some 1 ∧ plT Tryz.prog 14 1 = some 1 ∧ plOk Tryz.prog 14 = true ∧ infoT Tryz.prog 14 = some (2, 24, [.val (.string ⟨#[]⟩), .val (.int .u64 0)]) ∧ Tryz.prog.cellsOf 14 = 2 := by and_intros <;> kernel_rfl
@[go_sem] theorem Tryz.g13 : kindT Tryz.prog 15 = some none ∧ elemT Tryz.prog 15 = none ∧ Tryz.prog.cellsOf 15 = 1 ∧ kindT Tryz.prog 16 = some none ∧ elemT Tryz.prog 16 = none ∧ Tryz.prog.cellsOf 16 = 1 ∧ kindT Tryz.prog 17 = some none ∧ elemT Tryz.prog 17 = none := by and_intros <;> kernel_rfl
@[go_sem] theorem Tryz.g14 : Tryz.prog.cellsOf 17 = 1 ∧ kindT Tryz.prog 18 = some (some 1) ∧ fldT Tryz.prog 18 0 = some 0 ∧ fld1T Tryz.prog 18 0 = some 0 ∧ plT Tryz.prog 18 0 = some 0 ∧ plOk Tryz.prog 18 = true ∧ Tryz.prog.cellsOf 18 = 1 ∧ kindT Tryz.prog 19 = some (some 1) := by and_intros <;> kernel_rfl
@[go_sem] theorem Tryz.g15 : fldT Tryz.prog 19 0 = some 0 ∧ fld1T Tryz.prog 19 0 = some 0 ∧ plT Tryz.prog 19 0 = some 0 ∧ plOk Tryz.prog 19 = true ∧ Tryz.prog.cellsOf 19 = 1 ∧ kindT Tryz.prog 21 = some none ∧ infoT Tryz.prog 21 = some (1, 4, [.val (.int .i32 0)]) ∧ Tryz.prog.cellsOf 21 = 1 := by and_intros <;> kernel_rfl
@[go_sem] theorem Tryz.g16 : Tryz.prog.underlying 21 = some (.int .i32) ∧ kindT Tryz.prog 22 = some none ∧ elemT Tryz.prog 22 = some 5 ∧ infoT Tryz.prog 22 = some (1, 24, [.val (.slice none 0 0)]) ∧ Tryz.prog.cellsOf 22 = 1 := by and_intros <;> kernel_rfl
theorem Tryz.und22 : Tryz.prog.underlying 22 = some (.slice 5) := by kernel_rfl
@[go_sem] theorem Tryz.g17 : kindT Tryz.prog 23 = some none ∧ Tryz.prog.cellsOf 23 = 1 ∧ kindT Tryz.prog 24 = some none ∧ elemT Tryz.prog 24 = some 25 ∧ infoT Tryz.prog 24 = some (1, 24, [.val (.slice none 0 0)]) ∧ Tryz.prog.cellsOf 24 = 1 := by and_intros <;> kernel_rfl
theorem Tryz.und24 : Tryz.prog.underlying 24 = some (.slice 25) := by kernel_rfl
@[go_sem] theorem Tryz.g18 : kindT Tryz.prog 25 = some none ∧ elemT Tryz.prog 25 = some 2 ∧ infoT Tryz.prog 25 = some (1, 24, [.val (.slice none 0 0)]) ∧ Tryz.prog.cellsOf 25 = 1 := by and_intros <;> kernel_rfl
theorem Tryz.und25 : Tryz.prog.underlying 25 = some (.slice 2) := by kernel_rfl
@[go_sem] theorem Tryz.g19 : kindT Tryz.prog 26 = some (some 2) ∧ fldT Tryz.prog 26 0 = some 0 ∧ fld1T Tryz.prog 26 0 = some 0 ∧ plT Tryz.prog 26 0 = some 0 ∧ fldT Tryz.prog 26 1 = some 1 ∧ fld1T Tryz.prog 26 1 = some 1 ∧ plT Tryz.prog 26 1 = some 1 ∧ plOk Tryz.prog 26 = true := by and_intros <;> kernel_rfl
@[go_sem] theorem Tryz.g20 : infoT Tryz.prog 26 = some (2, 48, [.val (.slice none 0 0), .val (.slice none 0 0)]) ∧ Tryz.prog.cellsOf 26 = 2 ∧ kindT Tryz.prog 27 = some (some 2) ∧ fldT Tryz.prog 27 0 = some 0 ∧ fld1T Tryz.prog 27 0 = some 0 ∧ plT Tryz.prog 27 0 = some 0 ∧ fldT Tryz.prog 27 1 = some 1 ∧ fld1T Tryz.prog 27 1 = some 1 := by and_intros <;> kernel_rfl
@[go_sem] theorem Tryz.g21 : plT Tryz.prog 27 1 = some 1 ∧ plOk Tryz.prog 27 = true ∧ infoT Tryz.prog 27 = some (2, 48, [.val (.slice none 0 0), .val (.slice none 0 0)]) ∧ Tryz.prog.cellsOf 27 = 2 ∧ kindT Tryz.prog 28 = some none ∧ elemT Tryz.prog 28 = some 91 ∧ infoT Tryz.prog 28 = some (1, 24, [.val (.slice none 0 0)]) ∧ Tryz.prog.cellsOf 28 = 1 := by and_intros <;> kernel_rfl
theorem Tryz.und28 : Tryz.prog.underlying 28 = some (.slice 91) := by kernel_rfl
@[go_sem] theorem Tryz.g22 : kindT Tryz.prog 29 = some (some 2) ∧ fldT Tryz.prog 29 0 = some 0 ∧ fld1T Tryz.prog 29 0 = some 0 ∧ plT Tryz.prog 29 0 = some 0 ∧ fldT Tryz.prog 29 1 = some 1 ∧ fld1T Tryz.prog 29 1 = some 1 ∧ plT Tryz.prog 29 1 = some 1 ∧ plOk Tryz.prog 29 = true := by and_intros <;> kernel_rfl
@[go_sem] theorem Tryz.g23 : infoT Tryz.prog 29 = some (2, 32, [.val (.int .i64 0), .val (.slice none 0 0)]) ∧ Tryz.prog.cellsOf 29 = 2 ∧ kindT Tryz.prog 30 = some (some 2) ∧ fldT Tryz.prog 30 0 = some 0 ∧ fld1T Tryz.prog 30 0 = some 0 ∧ plT Tryz.prog 30 0 = some 0 ∧ fldT Tryz.prog 30 1 = some 1 ∧ fld1T Tryz.prog 30 1 = some 1 := by and_intros <;> kernel_rfl
@[go_sem] theorem Tryz.g24 : plT Tryz.prog 30 1 = some 1 ∧ plOk Tryz.prog 30 = true ∧ infoT Tryz.prog 30 = some (2, 32, [.val (.int .i64 0), .val (.slice none 0 0)]) ∧ Tryz.prog.cellsOf 30 = 2 ∧ kindT Tryz.prog 32 = some none ∧ Tryz.prog.cellsOf 32 = 1 ∧ kindT Tryz.prog 34 = some none ∧ Tryz.prog.cellsOf 34 = 1 := by and_intros <;> kernel_rfl
@[go_sem] theorem Tryz.g25 : kindT Tryz.prog 35 = some none ∧ Tryz.prog.cellsOf 35 = 1 ∧ kindT Tryz.prog 37 = some none ∧ Tryz.prog.cellsOf 37 = 1 ∧ kindT Tryz.prog 38 = some none ∧ Tryz.prog.cellsOf 38 = 1 ∧ kindT Tryz.prog 40 = some none ∧ Tryz.prog.cellsOf 40 = 1 := by and_intros <;> kernel_rfl
@[go_sem] theorem Tryz.g26 : kindT Tryz.prog 41 = some none ∧ Tryz.prog.cellsOf 41 = 1 ∧ kindT Tryz.prog 42 = some none ∧ Tryz.prog.cellsOf 42 = 1 ∧ kindT Tryz.prog 43 = some none ∧ Tryz.prog.cellsOf 43 = 1 ∧ kindT Tryz.prog 44 = some none ∧ Tryz.prog.cellsOf 44 = 1 := by and_intros <;> kernel_rfl
@[go_sem] theorem Tryz.g27 : kindT Tryz.prog 46 = some none ∧ Tryz.prog.cellsOf 46 = 1 ∧ kindT Tryz.prog 47 = some none ∧ Tryz.prog.cellsOf 47 = 1 ∧ kindT Tryz.prog 48 = some none ∧ Tryz.prog.cellsOf 48 = 1 ∧ kindT Tryz.prog 49 = some none ∧ Tryz.prog.cellsOf 49 = 1 := by and_intros <;> kernel_rfl
@[go_sem] theorem Tryz.g28 : kindT Tryz.prog 50 = some none ∧ Tryz.prog.cellsOf 50 = 1 ∧ kindT Tryz.prog 51 = some none ∧ Tryz.prog.cellsOf 51 = 1 ∧ kindT Tryz.prog 52 = some none ∧ Tryz.prog.cellsOf 52 = 1 ∧ kindT Tryz.prog 53 = some none ∧ elemT Tryz.prog 53 = none := by and_intros <;> kernel_rfl
@[go_sem] theorem Tryz.g29 : Tryz.prog.cellsOf 53 = 1 ∧ kindT Tryz.prog 55 = some none ∧ Tryz.prog.cellsOf 55 = 1 ∧ kindT Tryz.prog 56 = some none ∧ Tryz.prog.cellsOf 56 = 1 ∧ kindT Tryz.prog 57 = some none ∧ Tryz.prog.cellsOf 57 = 1 ∧ kindT Tryz.prog 58 = some none := by and_intros <;> kernel_rfl
@[go_sem] theorem Tryz.g30 : Tryz.prog.cellsOf 58 = 1 ∧ kindT Tryz.prog 59 = some none ∧ elemT Tryz.prog 59 = some 93 ∧ infoT Tryz.prog 59 = some (1, 24, [.val (.slice none 0 0)]) ∧ Tryz.prog.cellsOf 59 = 1 := by and_intros <;> kernel_rfl
theorem Tryz.und59 : Tryz.prog.underlying 59 = some (.slice 93) := by kernel_rfl
@[go_sem] theorem Tryz.g31 : kindT Tryz.prog 60 = some none ∧ Tryz.prog.cellsOf 60 = 1 ∧ kindT Tryz.prog 61 = some none ∧ Tryz.prog.cellsOf 61 = 1 ∧ kindT Tryz.prog 62 = some none ∧ Tryz.prog.cellsOf 62 = 1 ∧ kindT Tryz.prog 63 = some none ∧ Tryz.prog.cellsOf 63 = 1 := by and_intros <;> kernel_rfl
@[go_sem] theorem Tryz.g32 : kindT Tryz.prog 64 = some none ∧ Tryz.prog.cellsOf 64 = 1 ∧ kindT Tryz.prog 65 = some none ∧ Tryz.prog.cellsOf 65 = 1 ∧ kindT Tryz.prog 66 = some none ∧ Tryz.prog.cellsOf 66 = 1 ∧ kindT Tryz.prog 67 = some none ∧ Tryz.prog.cellsOf 67 = 1 := by and_intros <;> kernel_rfl
@[go_sem] theorem Tryz.g33 : kindT Tryz.prog 68 = some none ∧ Tryz.prog.cellsOf 68 = 1 ∧ kindT Tryz.prog 69 = some none ∧ Tryz.prog.cellsOf 69 = 1 ∧ kindT Tryz.prog 70 = some none ∧ Tryz.prog.cellsOf 70 = 1 ∧ kindT Tryz.prog 71 = some none ∧ Tryz.prog.cellsOf 71 = 1 := by and_intros <;> kernel_rfl
@[go_sem] theorem Tryz.g34 : kindT Tryz.prog 72 = some none ∧ Tryz.prog.cellsOf 72 = 1 ∧ kindT Tryz.prog 73 = some none ∧ Tryz.prog.cellsOf 73 = 1 ∧ kindT Tryz.prog 74 = some none ∧ Tryz.prog.cellsOf 74 = 1 ∧ kindT Tryz.prog 75 = some none ∧ Tryz.prog.cellsOf 75 = 1 := by and_intros <;> kernel_rfl
@[go_sem] theorem Tryz.g35 : kindT Tryz.prog 76 = some none ∧ Tryz.prog.cellsOf 76 = 1 ∧ kindT Tryz.prog 77 = some none ∧ Tryz.prog.cellsOf 77 = 1 ∧ kindT Tryz.prog 78 = some none ∧ Tryz.prog.cellsOf 78 = 1 ∧ kindT Tryz.prog 79 = some none ∧ Tryz.prog.cellsOf 79 = 1 := by and_intros <;> kernel_rfl
@[go_sem] theorem Tryz.g36 : kindT Tryz.prog 80 = some none ∧ Tryz.prog.cellsOf 80 = 1 ∧ kindT Tryz.prog 81 = some none ∧ elemT Tryz.prog 81 = some 117 ∧ infoT Tryz.prog 81 = some (1, 24, [.val (.slice none 0 0)]) ∧ Tryz.prog.cellsOf 81 = 1 := by and_intros <;> kernel_rfl
theorem Tryz.und81 : Tryz.prog.underlying 81 = some (.slice 117) := by kernel_rfl
@[go_sem] theorem Tryz.g37 : kindT Tryz.prog 82 = some (some 2) ∧ fldT Tryz.prog 82 0 = some 0 ∧ fld1T Tryz.prog 82 0 = some 0 ∧ plT Tryz.prog 82 0 = some 0 ∧ fldT Tryz.prog 82 1 = some 1 ∧ fld1T Tryz.prog 82 1 = some 1 ∧ plT Tryz.prog 82 1 = some 1 ∧ plOk Tryz.prog 82 = true := by and_intros <;> kernel_rfl
@[go_sem] theorem Tryz.g38 : infoT Tryz.prog 82 = some (2, 48, [.val (.slice none 0 0), .val (.slice none 0 0)]) ∧ Tryz.prog.cellsOf 82 = 2 ∧ kindT Tryz.prog 83 = some (some 2) ∧ fldT Tryz.prog 83 0 = some 0 ∧ fld1T Tryz.prog 83 0 = some 0 ∧ plT Tryz.prog 83 0 = some 0 ∧ fldT Tryz.prog 83 1 = some 1 ∧ fld1T Tryz.prog 83 1 = some 1 := by and_intros <;> kernel_rfl
@[go_sem] theorem Tryz.g39 : plT Tryz.prog 83 1 = some 1 ∧ plOk Tryz.prog 83 = true ∧ infoT Tryz.prog 83 = some (2, 48, [.val (.slice none 0 0), .val (.slice none 0 0)]) ∧ Tryz.prog.cellsOf 83 = 2 ∧ kindT Tryz.prog 84 = some none ∧ Tryz.prog.cellsOf 84 = 1 ∧ kindT Tryz.prog 85 = some none ∧ Tryz.prog.cellsOf 85 = 1 := by and_intros <;> kernel_rfl
@[go_sem] theorem Tryz.g40 : kindT Tryz.prog 86 = some none ∧ Tryz.prog.cellsOf 86 = 1 ∧ kindT Tryz.prog 87 = some none ∧ Tryz.prog.cellsOf 87 = 1 ∧ kindT Tryz.prog 88 = some none ∧ Tryz.prog.cellsOf 88 = 1 ∧ kindT Tryz.prog 89 = some none ∧ elemT Tryz.prog 89 = some 24 := by and_intros <;> kernel_rfl
@[go_sem] theorem Tryz.g41 : infoT Tryz.prog 89 = some (1, 24, [.val (.slice none 0 0)]) ∧ Tryz.prog.cellsOf 89 = 1 := by and_intros <;> kernel_rfl
theorem Tryz.und89 : Tryz.prog.underlying 89 = some (.slice 24) := by kernel_rfl
@[go_sem] theorem Tryz.g42 : kindT Tryz.prog 90 = some none ∧ Tryz.prog.cellsOf 90 = 1 ∧ kindT Tryz.prog 91 = some none ∧ elemT Tryz.prog 91 = some 102 ∧ infoT Tryz.prog 91 = some (1, 24, [.val (.slice none 0 0)]) ∧ Tryz.prog.cellsOf 91 = 1 := by and_intros <;> kernel_rfl
theorem Tryz.und91 : Tryz.prog.underlying 91 = some (.slice 102) := by kernel_rfl
@[go_sem] theorem Tryz.g43 : kindT Tryz.prog 92 = some none ∧ elemT Tryz.prog 92 = none ∧ mapT Tryz.prog 92 = true ∧ isMapT Tryz.prog 92 = true ∧ infoT Tryz.prog 92 = some (1, 8, [.val (.map none)]) ∧ Tryz.prog.cellsOf 92 = 1 ∧ kindT Tryz.prog 93 = some none ∧ elemT Tryz.prog 93 = none := by and_intros <;> kernel_rfl
@[go_sem] theorem Tryz.g44 : mapT Tryz.prog 93 = true ∧ isMapT Tryz.prog 93 = true ∧ infoT Tryz.prog 93 = some (1, 8, [.val (.map none)]) ∧ Tryz.prog.cellsOf 93 = 1 ∧ kindT Tryz.prog 94 = some none ∧ Tryz.prog.cellsOf 94 = 1 ∧ kindT Tryz.prog 95 = some none ∧ Tryz.prog.cellsOf 95 = 1 := by and_intros <;> kernel_rfl
@[go_sem] theorem Tryz.g45 : kindT Tryz.prog 96 = some none ∧ Tryz.prog.cellsOf 96 = 1 ∧ kindT Tryz.prog 97 = some none ∧ Tryz.prog.cellsOf 97 = 1 ∧ kindT Tryz.prog 98 = some none ∧ Tryz.prog.cellsOf 98 = 1 ∧ kindT Tryz.prog 99 = some none ∧ Tryz.prog.cellsOf 99 = 1 := by and_intros <;> kernel_rfl
@[go_sem] theorem Tryz.g46 : kindT Tryz.prog 100 = some none ∧ Tryz.prog.cellsOf 100 = 1 ∧ kindT Tryz.prog 101 = some (some 2) ∧ fldT Tryz.prog 101 0 = some 0 ∧ fld1T Tryz.prog 101 0 = some 0 ∧ plT Tryz.prog 101 0 = some 0 ∧ fldT Tryz.prog 101 1 = some 1 ∧ fld1T Tryz.prog 101 1 = some 1 := by and_intros <;> kernel_rfl
@[go_sem] theorem Tryz.g47 : plT Tryz.prog 101 1 = some 1 ∧ plOk Tryz.prog 101 = true ∧ infoT Tryz.prog 101 = some (2, 32, [.val (.int .i64 0), .val (.slice none 0 0)]) ∧ Tryz.prog.cellsOf 101 = 2 ∧ kindT Tryz.prog 102 = some (some 2) ∧ fldT Tryz.prog 102 0 = some 0 ∧ fld1T Tryz.prog 102 0 = some 0 ∧ plT Tryz.prog 102 0 = some 0 := by and_intros <;> kernel_rfl
@[go_sem] theorem Tryz.g48 : fldT Tryz.prog 102 1 = some 1 ∧ fld1T Tryz.prog 102 1 = some 1 ∧ plT Tryz.prog 102 1 = some 1 ∧ plOk Tryz.prog 102 = true ∧ infoT Tryz.prog 102 = some (2, 32, [.val (.int .i64 0), .val (.slice none 0 0)]) ∧ Tryz.prog.cellsOf 102 = 2 ∧ kindT Tryz.prog 103 = some none ∧ Tryz.prog.cellsOf 103 = 1 := by and_intros <;> kernel_rfl
@[go_sem] theorem Tryz.g49 : kindT Tryz.prog 104 = some none ∧ Tryz.prog.cellsOf 104 = 1 ∧ kindT Tryz.prog 105 = some none ∧ Tryz.prog.cellsOf 105 = 1 ∧ kindT Tryz.prog 106 = some none ∧ Tryz.prog.cellsOf 106 = 1 ∧ kindT Tryz.prog 107 = some none ∧ Tryz.prog.cellsOf 107 = 1 := by and_intros <;> kernel_rfl
@[go_sem] theorem Tryz.g50 : kindT Tryz.prog 108 = some none ∧ infoT Tryz.prog 108 = some (1, 8, [.val (.int .u64 0)]) ∧ Tryz.prog.cellsOf 108 = 1 ∧ Tryz.prog.underlying 108 = some (.int .u64) ∧ kindT Tryz.prog 109 = some (some 3) ∧ fldT Tryz.prog 109 0 = some 0 ∧ fld1T Tryz.prog 109 0 = some 0 ∧ plT Tryz.prog 109 0 = some 0 := by and_intros <;> kernel_rfl
@[go_sem] theorem Tryz.g51 : fldT Tryz.prog 109 1 = some 1 ∧ fld1T Tryz.prog 109 1 = some 1 ∧ plT Tryz.prog 109 1 = some 1 ∧ fldT Tryz.prog 109 2 = some 2 ∧ fld1T Tryz.prog 109 2 = some 2 ∧ plT Tryz.prog 109 2 = some 2 ∧ plOk Tryz.prog 109 = true ∧ infoT Tryz.prog 109 = some (3, 40, [.val (.slice none 0 0), .val (.int .i64 0), .val (.int .u64 0)]) := by and_intros <;> kernel_rfl
@[go_sem] theorem Tryz.g52 : Tryz.prog.cellsOf 109 = 3 ∧ kindT Tryz.prog 110 = some (some 3) ∧ fldT Tryz.prog 110 0 = some 0 ∧ fld1T Tryz.prog 110 0 = some 0 ∧ plT Tryz.prog 110 0 = some 0 ∧ fldT Tryz.prog 110 1 = some 1 ∧ fld1T Tryz.prog 110 1 = some 1 ∧ plT Tryz.prog 110 1 = some 1 := by and_intros <;> kernel_rfl
@[go_sem] theorem Tryz.g53 : fldT Tryz.prog 110 2 = some 2 ∧ fld1T Tryz.prog 110 2 = some 2 ∧ plT Tryz.prog 110 2 = some 2 ∧ plOk Tryz.prog 110 = true ∧ infoT Tryz.prog 110 = some (3, 40, [.val (.slice none 0 0), .val (.int .i64 0), .val (.int .u64 0)]) ∧ Tryz.prog.cellsOf 110 = 3 ∧ kindT Tryz.prog 111 = some none ∧ Tryz.prog.cellsOf 111 = 1 := by and_intros <;> kernel_rfl
@[go_sem] theorem Tryz.g54 : kindT Tryz.prog 112 = some none ∧ Tryz.prog.cellsOf 112 = 1 ∧ kindT Tryz.prog 113 = some none ∧ Tryz.prog.cellsOf 113 = 1 ∧ kindT Tryz.prog 114 = some none ∧ Tryz.prog.cellsOf 114 = 1 ∧ kindT Tryz.prog 115 = some none ∧ Tryz.prog.cellsOf 115 = 1 := by and_intros <;> kernel_rfl
@[go_sem] theorem Tryz.g55 : kindT Tryz.prog 116 = some none ∧ Tryz.prog.cellsOf 116 = 1 ∧ kindT Tryz.prog 117 = some none ∧ elemT Tryz.prog 117 = some 124 ∧ infoT Tryz.prog 117 = some (1, 24, [.val (.slice none 0 0)]) ∧ Tryz.prog.cellsOf 117 = 1 := by and_intros <;> kernel_rfl
theorem Tryz.und117 : Tryz.prog.underlying 117 = some (.slice 124) := by kernel_rfl
@[go_sem] theorem Tryz.g56 : kindT Tryz.prog 118 = some none ∧ elemT Tryz.prog 118 = some 121 ∧ infoT Tryz.prog 118 = some (1, 24, [.val (.slice none 0 0)]) ∧ Tryz.prog.cellsOf 118 = 1 := by and_intros <;> kernel_rfl
theorem Tryz.und118 : Tryz.prog.underlying 118 = some (.slice 121) := by kernel_rfl
@[go_sem] theorem Tryz.g57 : kindT Tryz.prog 119 = some none ∧ Tryz.prog.cellsOf 119 = 1 ∧ kindT Tryz.prog 120 = some (some 3) ∧ fldT Tryz.prog 120 0 = some 0 ∧ fld1T Tryz.prog 120 0 = some 0 ∧ plT Tryz.prog 120 0 = some 0 ∧ fldT Tryz.prog 120 1 = some 1 ∧ fld1T Tryz.prog 120 1 = some 1 := by and_intros <;> kernel_rfl
@[go_sem] theorem Tryz.g58 : plT Tryz.prog 120 1 = some 1 ∧ fldT Tryz.prog 120 2 = some 2 ∧ fld1T Tryz.prog 120 2 = some 2 ∧ plT Tryz.prog 120 2 = some 2 ∧ plOk Tryz.prog 120 = true ∧ infoT Tryz.prog 120 = some (3, 56, [.val (.slice none 0 0), .val (.slice none 0 0), .val (.int .i64 0)]) ∧ Tryz.prog.cellsOf 120 = 3 ∧ kindT Tryz.prog 121 = some (some 3) := by and_intros <;> kernel_rfl
@[go_sem] theorem Tryz.g59 : fldT Tryz.prog 121 0 = some 0 ∧ fld1T Tryz.prog 121 0 = some 0 ∧ plT Tryz.prog 121 0 = some 0 ∧ fldT Tryz.prog 121 1 = some 1 ∧ fld1T Tryz.prog 121 1 = some 1 ∧ plT Tryz.prog 121 1 = some 1 ∧ fldT Tryz.prog 121 2 = some 2 ∧ fld1T Tryz.prog 121 2 = some 2 := by and_intros <;> kernel_rfl
@[go_sem] theorem Tryz.g60 : plT Tryz.prog 121 2 = some 2 ∧ plOk Tryz.prog 121 = true ∧ infoT Tryz.prog 121 = some (3, 56, [.val (.slice none 0 0), .val (.slice none 0 0), .val (.int .i64 0)]) ∧ Tryz.prog.cellsOf 121 = 3 ∧ kindT Tryz.prog 122 = some none ∧ elemT Tryz.prog 122 = some 3 ∧ infoT Tryz.prog 122 = some (1, 24, [.val (.slice none 0 0)]) ∧ Tryz.prog.cellsOf 122 = 1 := by and_intros <;> kernel_rfl
theorem Tryz.und122 : Tryz.prog.underlying 122 = some (.slice 3) := by kernel_rfl
@[go_sem] theorem Tryz.g61 : kindT Tryz.prog 123 = some (some 3) ∧ fldT Tryz.prog 123 0 = some 0 ∧ fld1T Tryz.prog 123 0 = some 0 ∧ plT Tryz.prog 123 0 = some 0 ∧ fldT Tryz.prog 123 1 = some 1 ∧ fld1T Tryz.prog 123 1 = some 1 ∧ plT Tryz.prog 123 1 = some 1 ∧ fldT Tryz.prog 123 2 = some 2 := by and_intros <;> kernel_rfl
@[go_sem] theorem Tryz.g62 : fld1T Tryz.prog 123 2 = some 2 ∧ plT Tryz.prog 123 2 = some 2 ∧ plOk Tryz.prog 123 = true ∧ infoT Tryz.prog 123 = some (3, 40, [.val (.int .i64 0), .val (.slice none 0 0), .val (.int .i64 0)]) ∧ Tryz.prog.cellsOf 123 = 3 ∧ kindT Tryz.prog 124 = some (some 3) ∧ fldT Tryz.prog 124 0 = some 0 ∧ fld1T Tryz.prog 124 0 = some 0 := by and_intros <;> kernel_rfl
@[go_sem] theorem Tryz.g63 : plT Tryz.prog 124 0 = some 0 ∧ fldT Tryz.prog 124 1 = some 1 ∧ fld1T Tryz.prog 124 1 = some 1 ∧ plT Tryz.prog 124 1 = some 1 ∧ fldT Tryz.prog 124 2 = some 2 ∧ fld1T Tryz.prog 124 2 = some 2 ∧ plT Tryz.prog 124 2 = some 2 ∧ plOk Tryz.prog 124 = true := by and_intros <;> kernel_rfl
@[go_sem] theorem Tryz.g64 : infoT Tryz.prog 124 = some (3, 40, [.val (.int .i64 0), .val (.slice none 0 0), .val (.int .i64 0)]) ∧ Tryz.prog.cellsOf 124 = 3 ∧ kindT Tryz.prog 125 = some (some 3) ∧ elemT Tryz.prog 125 = none ∧ arrT Tryz.prog 125 = some (3, 1, true) ∧ plT Tryz.prog 125 0 = some 0 ∧ plT Tryz.prog 125 1 = some 1 ∧ plT Tryz.prog 125 2 = some 2 := by and_intros <;> kernel_rfl
@[go_sem] theorem Tryz.g65 : plOk Tryz.prog 125 = true ∧ infoT Tryz.prog 125 = some (3, 24, [.val (.int .i64 0), .val (.int .i64 0), .val (.int .i64 0)]) ∧ Tryz.prog.cellsOf 125 = 3 ∧ kindT Tryz.prog 126 = some (some 3) ∧ elemT Tryz.prog 126 = none ∧ arrT Tryz.prog 126 = some (3, 1, true) ∧ plT Tryz.prog 126 0 = some 0 ∧ plT Tryz.prog 126 1 = some 1 := by and_intros <;> kernel_rfl
@[go_sem] theorem Tryz.g66 : plT Tryz.prog 126 2 = some 2 ∧ plOk Tryz.prog 126 = true ∧ infoT Tryz.prog 126 = some (3, 24, [.val (.int .i64 0), .val (.int .i64 0), .val (.int .i64 0)]) ∧ Tryz.prog.cellsOf 126 = 3 ∧ kindT Tryz.prog 127 = some none ∧ Tryz.prog.cellsOf 127 = 1 ∧ kindT Tryz.prog 128 = some none ∧ Tryz.prog.cellsOf 128 = 1 := by and_intros <;> kernel_rfl
@[go_sem] theorem Tryz.g67 : kindT Tryz.prog 129 = some none ∧ Tryz.prog.cellsOf 129 = 1 ∧ kindT Tryz.prog 130 = some none ∧ Tryz.prog.cellsOf 130 = 1 ∧ kindT Tryz.prog 131 = some none ∧ Tryz.prog.cellsOf 131 = 1 ∧ kindT Tryz.prog 132 = some none ∧ Tryz.prog.cellsOf 132 = 1 := by and_intros <;> kernel_rfl
@[go_sem] theorem Tryz.g68 : kindT Tryz.prog 133 = some none ∧ Tryz.prog.cellsOf 133 = 1 ∧ kindT Tryz.prog 134 = some none ∧ Tryz.prog.cellsOf 134 = 1 ∧ kindT Tryz.prog 135 = some none ∧ Tryz.prog.cellsOf 135 = 1 ∧ kindT Tryz.prog 136 = some none ∧ infoT Tryz.prog 136 = some (1, 8, [.val (.int .u64 0)]) := by and_intros <;> kernel_rfl
@[go_sem] theorem Tryz.g69 : Tryz.prog.cellsOf 136 = 1 ∧ Tryz.prog.underlying 136 = some (.int .u64) ∧ kindT Tryz.prog 137 = some none ∧ Tryz.prog.cellsOf 137 = 1 ∧ kindT Tryz.prog 138 = some none ∧ Tryz.prog.cellsOf 138 = 1 ∧ kindT Tryz.prog 139 = some none ∧ Tryz.prog.cellsOf 139 = 1 := by and_intros <;> kernel_rfl
@[go_sem] theorem Tryz.g70 : kindT Tryz.prog 140 = some none ∧ Tryz.prog.cellsOf 140 = 1 ∧ kindT Tryz.prog 141 = some none ∧ elemT Tryz.prog 141 = some 145 ∧ infoT Tryz.prog 141 = some (1, 24, [.val (.slice none 0 0)]) ∧ Tryz.prog.cellsOf 141 = 1 := by and_intros <;> kernel_rfl
theorem Tryz.und141 : Tryz.prog.underlying 141 = some (.slice 145) := by kernel_rfl
@[go_sem] theorem Tryz.g71 : kindT Tryz.prog 142 = some none ∧ Tryz.prog.cellsOf 142 = 1 ∧ kindT Tryz.prog 143 = some none ∧ Tryz.prog.cellsOf 143 = 1 ∧ kindT Tryz.prog 144 = some (some 3) ∧ fldT Tryz.prog 144 0 = some 0 ∧ fld1T Tryz.prog 144 0 = some 0 ∧ plT Tryz.prog 144 0 = some 0 := by and_intros <;> kernel_rfl
@[go_sem] theorem Tryz.g72 : fldT Tryz.prog 144 1 = some 1 ∧ fld1T Tryz.prog 144 1 = some 1 ∧ plT Tryz.prog 144 1 = some 1 ∧ fldT Tryz.prog 144 2 = some 2 ∧ fld1T Tryz.prog 144 2 = some 2 ∧ plT Tryz.prog 144 2 = some 2 ∧ plOk Tryz.prog 144 = true ∧ infoT Tryz.prog 144 = some (3, 56, [.val (.slice none 0 0), .val (.slice none 0 0), .val (.int .i64 0)]) := by and_intros <;> kernel_rfl
@[go_sem] theorem Tryz.g73 : Tryz.prog.cellsOf 144 = 3 ∧ kindT Tryz.prog 145 = some (some 3) ∧ fldT Tryz.prog 145 0 = some 0 ∧ fld1T Tryz.prog 145 0 = some 0 ∧ plT Tryz.prog 145 0 = some 0 ∧ fldT Tryz.prog 145 1 = some 1 ∧ fld1T Tryz.prog 145 1 = some 1 ∧ plT Tryz.prog 145 1 = some 1 := by and_intros <;> kernel_rfl
@[go_sem] theorem Tryz.g74 : fldT Tryz.prog 145 2 = some 2 ∧ fld1T Tryz.prog 145 2 = some 2 ∧ plT Tryz.prog 145 2 = some 2 ∧ plOk Tryz.prog 145 = true ∧ infoT Tryz.prog 145 = some (3, 56, [.val (.slice none 0 0), .val (.slice none 0 0), .val (.int .i64 0)]) ∧ Tryz.prog.cellsOf 145 = 3 ∧ kindT Tryz.prog 146 = some none ∧ Tryz.prog.cellsOf 146 = 1 := by and_intros <;> kernel_rfl
@[go_sem] theorem Tryz.g75 : kindT Tryz.prog 147 = some none ∧ elemT Tryz.prog 147 = some 9 ∧ infoT Tryz.prog 147 = some (1, 24, [.val (.slice none 0 0)]) ∧ Tryz.prog.cellsOf 147 = 1 := by and_intros <;> kernel_rfl
theorem Tryz.und147 : Tryz.prog.underlying 147 = some (.slice 9) := by kernel_rfl
@[go_sem] theorem Tryz.g76 : kindT Tryz.prog 148 = some none ∧ Tryz.prog.cellsOf 148 = 1 ∧ kindT Tryz.prog 149 = some none ∧ Tryz.prog.cellsOf 149 = 1 ∧ kindT Tryz.prog 150 = some none ∧ Tryz.prog.cellsOf 150 = 1 ∧ kindT Tryz.prog 151 = some none ∧ Tryz.prog.cellsOf 151 = 1 := by and_intros <;> kernel_rfl
@[go_sem] theorem Tryz.g77 : kindT Tryz.prog 152 = some none ∧ Tryz.prog.cellsOf 152 = 1 ∧ kindT Tryz.prog 153 = some none ∧ Tryz.prog.cellsOf 153 = 1 ∧ kindT Tryz.prog 154 = some none ∧ Tryz.prog.cellsOf 154 = 1 ∧ kindT Tryz.prog 155 = some none ∧ Tryz.prog.cellsOf 155 = 1 := by and_intros <;> kernel_rfl
@[go_sem] theorem Tryz.g78 : kindT Tryz.prog 156 = some none ∧ Tryz.prog.cellsOf 156 = 1 ∧ kindT Tryz.prog 157 = some none ∧ Tryz.prog.cellsOf 157 = 1 ∧ kindT Tryz.prog 158 = some none ∧ Tryz.prog.cellsOf 158 = 1 ∧ kindT Tryz.prog 159 = some none ∧ Tryz.prog.cellsOf 159 = 1 := by and_intros <;> kernel_rfl
@[go_sem] theorem Tryz.g79 : kindT Tryz.prog 160 = some none ∧ Tryz.prog.cellsOf 160 = 1 ∧ kindT Tryz.prog 161 = some none ∧ Tryz.prog.cellsOf 161 = 1 ∧ kindT Tryz.prog 162 = some none ∧ Tryz.prog.cellsOf 162 = 1 ∧ kindT Tryz.prog 163 = some none ∧ Tryz.prog.cellsOf 163 = 1 := by and_intros <;> kernel_rfl
@[go_sem] theorem Tryz.g80 : kindT Tryz.prog 165 = some none ∧ Tryz.prog.cellsOf 165 = 1 ∧ kindT Tryz.prog 166 = some none ∧ Tryz.prog.cellsOf 166 = 1 ∧ kindT Tryz.prog 167 = some none ∧ Tryz.prog.cellsOf 167 = 1 ∧ kindT Tryz.prog 169 = some none ∧ Tryz.prog.cellsOf 169 = 1 := by and_intros <;> kernel_rfl
@[go_sem] theorem Tryz.g81 : kindT Tryz.prog 170 = some none ∧ Tryz.prog.cellsOf 170 = 1 ∧ kindT Tryz.prog 171 = some none ∧ infoT Tryz.prog 171 = some (1, 8, [.val (.int .i64 0)]) ∧ Tryz.prog.cellsOf 171 = 1 ∧ Tryz.prog.underlying 171 = some (.int .i64) ∧ kindT Tryz.prog 173 = some none ∧ Tryz.prog.cellsOf 173 = 1 := by and_intros <;> kernel_rfl
@[go_sem] theorem Tryz.g82 : kindT Tryz.prog 174 = some none ∧ Tryz.prog.cellsOf 174 = 1 ∧ kindT Tryz.prog 175 = some none ∧ Tryz.prog.cellsOf 175 = 1 ∧ kindT Tryz.prog 176 = some none ∧ Tryz.prog.cellsOf 176 = 1 ∧ kindT Tryz.prog 177 = some none ∧ Tryz.prog.cellsOf 177 = 1 := by and_intros <;> kernel_rfl
@[go_sem] theorem Tryz.g83 : kindT Tryz.prog 178 = some none ∧ infoT Tryz.prog 178 = some (1, 4, [.val (.int .u32 0)]) ∧ Tryz.prog.cellsOf 178 = 1 ∧ Tryz.prog.underlying 178 = some (.int .u32) ∧ kindT Tryz.prog 179 = some none ∧ Tryz.prog.cellsOf 179 = 1 ∧ kindT Tryz.prog 180 = some none ∧ Tryz.prog.cellsOf 180 = 1 := by and_intros <;> kernel_rfl
@[go_sem] theorem Tryz.g84 : kindT Tryz.prog 181 = some none ∧ Tryz.prog.cellsOf 181 = 1 ∧ kindT Tryz.prog 182 = some none ∧ Tryz.prog.cellsOf 182 = 1 ∧ kindT Tryz.prog 183 = some none ∧ Tryz.prog.cellsOf 183 = 1 ∧ kindT Tryz.prog 185 = some none ∧ Tryz.prog.cellsOf 185 = 1 := by and_intros <;> kernel_rfl
@[go_sem] theorem Tryz.g85 : kindT Tryz.prog 187 = some none ∧ Tryz.prog.cellsOf 187 = 1 ∧ kindT Tryz.prog 188 = some none ∧ infoT Tryz.prog 188 = some (1, 8, [.val (.int .u64 0)]) ∧ Tryz.prog.cellsOf 188 = 1 ∧ Tryz.prog.underlying 188 = some (.int .u64) ∧ kindT Tryz.prog 189 = some none ∧ Tryz.prog.cellsOf 189 = 1 := by and_intros <;> kernel_rfl
@[go_sem] theorem Tryz.g86 : kindT Tryz.prog 190 = some none ∧ Tryz.prog.cellsOf 190 = 1 ∧ kindT Tryz.prog 191 = some none ∧ Tryz.prog.cellsOf 191 = 1 ∧ kindT Tryz.prog 192 = some none ∧ elemT Tryz.prog 192 = none ∧ Tryz.prog.cellsOf 192 = 1 ∧ kindT Tryz.prog 193 = some none := by and_intros <;> kernel_rfl
@[go_sem] theorem Tryz.g87 : Tryz.prog.cellsOf 193 = 1 ∧ kindT Tryz.prog 194 = some none ∧ Tryz.prog.cellsOf 194 = 1 ∧ kindT Tryz.prog 195 = some none ∧ Tryz.prog.cellsOf 195 = 1 ∧ kindT Tryz.prog 196 = some none ∧ Tryz.prog.cellsOf 196 = 1 ∧ kindT Tryz.prog 197 = some none := by and_intros <;> kernel_rfl
@[go_sem] theorem Tryz.g88 : Tryz.prog.cellsOf 197 = 1 ∧ kindT Tryz.prog 198 = some none ∧ Tryz.prog.cellsOf 198 = 1 ∧ kindT Tryz.prog 199 = some none ∧ elemT Tryz.prog 199 = none ∧ Tryz.prog.cellsOf 199 = 1 ∧ kindT Tryz.prog 201 = some none ∧ Tryz.prog.cellsOf 201 = 1 := by and_intros <;> kernel_rfl
@[go_sem] theorem Tryz.g89 : kindT Tryz.prog 202 = some none ∧ Tryz.prog.cellsOf 202 = 1 ∧ kindT Tryz.prog 203 = some none ∧ Tryz.prog.cellsOf 203 = 1 ∧ kindT Tryz.prog 204 = some none ∧ Tryz.prog.cellsOf 204 = 1 ∧ kindT Tryz.prog 205 = some none ∧ Tryz.prog.cellsOf 205 = 1 := by and_intros <;> kernel_rfl
@[go_sem] theorem Tryz.g90 : kindT Tryz.prog 206 = some (some 4) ∧ fldT Tryz.prog 206 0 = some 0 ∧ fld1T Tryz.prog 206 0 = some 0 ∧ plT Tryz.prog 206 0 = some 0 ∧ fldT Tryz.prog 206 1 = some 1 ∧ fld1T Tryz.prog 206 1 = some 1 ∧ plT Tryz.prog 206 1 = some 1 ∧ fldT Tryz.prog 206 2 = some 2 := by and_intros <;> kernel_rfl
@[go_sem] theorem Tryz.g91 : fld1T Tryz.prog 206 2 = some 2 ∧ plT Tryz.prog 206 2 = some 2 ∧ fldT Tryz.prog 206 3 = some 3 ∧ fld1T Tryz.prog 206 3 = some 3 ∧ plT Tryz.prog 206 3 = some 3 ∧ plOk Tryz.prog 206 = true ∧ Tryz.prog.cellsOf 206 = 4 ∧ kindT Tryz.prog 207 = some (some 4) := by and_intros <;> kernel_rfl
@[go_sem] theorem Tryz.g92 : fldT Tryz.prog 207 0 = some 0 ∧ fld1T Tryz.prog 207 0 = some 0 ∧ plT Tryz.prog 207 0 = some 0 ∧ fldT Tryz.prog 207 1 = some 1 ∧ fld1T Tryz.prog 207 1 = some 1 ∧ plT Tryz.prog 207 1 = some 1 ∧ fldT Tryz.prog 207 2 = some 2 ∧ fld1T Tryz.prog 207 2 = some 2 := by and_intros <;> kernel_rfl
@[go_sem] theorem Tryz.g93 : plT Tryz.prog 207 2 = some 2 ∧ fldT Tryz.prog 207 3 = some 3 ∧ fld1T Tryz.prog 207 3 = some 3 ∧ plT Tryz.prog 207 3 = some 3 ∧ plOk Tryz.prog 207 = true ∧ Tryz.prog.cellsOf 207 = 4 ∧ kindT Tryz.prog 208 = some (some 0) ∧ elemT Tryz.prog 208 = none := by and_intros <;> kernel_rfl
@[go_sem] theorem Tryz.g94 : arrT Tryz.prog 208 = some (0, 1, true) ∧ plOk Tryz.prog 208 = true ∧ infoT Tryz.prog 208 = some (0, 0, []) ∧ Tryz.prog.cellsOf 208 = 0 ∧ kindT Tryz.prog 209 = some (some 0) ∧ plOk Tryz.prog 209 = true ∧ infoT Tryz.prog 209 = some (0, 0, []) ∧ Tryz.prog.cellsOf 209 = 0 := by and_intros <;> kernel_rfl
@[go_sem] theorem Tryz.g95 : kindT Tryz.prog 210 = some (some 0) ∧ plOk Tryz.prog 210 = true ∧ infoT Tryz.prog 210 = some (0, 0, []) ∧ Tryz.prog.cellsOf 210 = 0 ∧ kindT Tryz.prog 211 = some none ∧ infoT Tryz.prog 211 = some (1, 1, [.val (.int .u8 0)]) ∧ Tryz.prog.cellsOf 211 = 1 ∧ Tryz.prog.underlying 211 = some (.int .u8) := by and_intros <;> kernel_rfl
@[go_sem] theorem Tryz.g96 : kindT Tryz.prog 212 = some none ∧ infoT Tryz.prog 212 = some (1, 1, [.val (.int .u8 0)]) ∧ Tryz.prog.cellsOf 212 = 1 ∧ Tryz.prog.underlying 212 = some (.int .u8) ∧ kindT Tryz.prog 213 = some none ∧ Tryz.prog.cellsOf 213 = 1 ∧ kindT Tryz.prog 214 = some none ∧ elemT Tryz.prog 214 = none := by and_intros <;> kernel_rfl
@[go_sem] theorem Tryz.g97 : Tryz.prog.cellsOf 214 = 1 ∧ kindT Tryz.prog 215 = some none ∧ infoT Tryz.prog 215 = some (1, 4, [.val (.int .i32 0)]) ∧ Tryz.prog.cellsOf 215 = 1 ∧ Tryz.prog.underlying 215 = some (.int .i32) ∧ kindT Tryz.prog 216 = some none ∧ infoT Tryz.prog 216 = some (1, 4, [.val (.int .i32 0)]) ∧ Tryz.prog.cellsOf 216 = 1 := by and_intros <;> kernel_rfl
@[go_sem] theorem Tryz.g98 : Tryz.prog.underlying 216 = some (.int .i32) ∧ kindT Tryz.prog 217 = some (some 11) ∧ fldT Tryz.prog 217 0 = some 0 ∧ fld1T Tryz.prog 217 0 = some 0 ∧ plT Tryz.prog 217 0 = some 0 ∧ fldT Tryz.prog 217 1 = some 1 ∧ fld1T Tryz.prog 217 1 = some 1 ∧ plT Tryz.prog 217 1 = some 1 := by and_intros <;> kernel_rfl
@[go_sem] theorem Tryz.g99 : fldT Tryz.prog 217 2 = some 2 ∧ fld1T Tryz.prog 217 2 = some 2 ∧ plT Tryz.prog 217 2 = some 2 ∧ fldT Tryz.prog 217 3 = some 3 ∧ fld1T Tryz.prog 217 3 = some 3 ∧ plT Tryz.prog 217 3 = some 3 ∧ fldT Tryz.prog 217 4 = some 4 ∧ fld1T Tryz.prog 217 4 = some 4 := by and_intros <;> kernel_rfl
@[go_sem] theorem Tryz.g100 : plT Tryz.prog 217 4 = some 4 ∧ fldT Tryz.prog 217 5 = some 5 ∧ fld1T Tryz.prog 217 5 = some 5 ∧ plT Tryz.prog 217 5 = some 5 ∧ fldT Tryz.prog 217 6 = some 6 ∧ fld1T Tryz.prog 217 6 = some 6 ∧ plT Tryz.prog 217 6 = some 6 ∧ fldT Tryz.prog 217 7 = some 7 := by and_intros <;> kernel_rfl
@[go_sem] theorem Tryz.g101 : fld1T Tryz.prog 217 7 = some 7 ∧ plT Tryz.prog 217 7 = some 7 ∧ fldT Tryz.prog 217 8 = some 8 ∧ fld1T Tryz.prog 217 8 = some 8 ∧ plT Tryz.prog 217 8 = some 8 ∧ fldT Tryz.prog 217 9 = some 9 ∧ fld1T Tryz.prog 217 9 = some 9 ∧ plT Tryz.prog 217 9 = some 9 := by and_intros <;> kernel_rfl
@[go_sem] theorem Tryz.g102 : fldT Tryz.prog 217 10 = some 10 ∧ fld1T Tryz.prog 217 10 = some 10 ∧ plT Tryz.prog 217 10 = some 10 ∧ plOk Tryz.prog 217 = true ∧ Tryz.prog.cellsOf 217 = 11 ∧ kindT Tryz.prog 218 = some (some 11) ∧ fldT Tryz.prog 218 0 = some 0 ∧ fld1T Tryz.prog 218 0 = some 0 := by and_intros <;> kernel_rfl
@[go_sem] theorem Tryz.g103 : plT Tryz.prog 218 0 = some 0 ∧ fldT Tryz.prog 218 1 = some 1 ∧ fld1T Tryz.prog 218 1 = some 1 ∧ plT Tryz.prog 218 1 = some 1 ∧ fldT Tryz.prog 218 2 = some 2 ∧ fld1T Tryz.prog 218 2 = some 2 ∧ plT Tryz.prog 218 2 = some 2 ∧ fldT Tryz.prog 218 3 = some 3 := by and_intros <;> kernel_rfl
@[go_sem] theorem Tryz.g104 : fld1T Tryz.prog 218 3 = some 3 ∧ plT Tryz.prog 218 3 = some 3 ∧ fldT Tryz.prog 218 4 = some 4 ∧ fld1T Tryz.prog 218 4 = some 4 ∧ plT Tryz.prog 218 4 = some 4 ∧ fldT Tryz.prog 218 5 = some 5 ∧ fld1T Tryz.prog 218 5 = some 5 ∧ plT Tryz.prog 218 5 = some 5 := by and_intros <;> kernel_rfl
@[go_sem] theorem Tryz.g105 : fldT Tryz.prog 218 6 = some 6 ∧ fld1T Tryz.prog 218 6 = some 6 ∧ plT Tryz.prog 218 6 = some 6 ∧ fldT Tryz.prog 218 7 = some 7 ∧ fld1T Tryz.prog 218 7 = some 7 ∧ plT Tryz.prog 218 7 = some 7 ∧ fldT Tryz.prog 218 8 = some 8 ∧ fld1T Tryz.prog 218 8 = some 8 := by and_intros <;> kernel_rfl
@[go_sem] theorem Tryz.g106 : plT Tryz.prog 218 8 = some 8 ∧ fldT Tryz.prog 218 9 = some 9 ∧ fld1T Tryz.prog 218 9 = some 9 ∧ plT Tryz.prog 218 9 = some 9 ∧ fldT Tryz.prog 218 10 = some 10 ∧ fld1T Tryz.prog 218 10 = some 10 ∧ plT Tryz.prog 218 10 = some 10 ∧ plOk Tryz.prog 218 = true := by and_intros <;> kernel_rfl
@[go_sem] theorem Tryz.g107 : Tryz.prog.cellsOf 218 = 11 ∧ kindT Tryz.prog 219 = some none ∧ Tryz.prog.cellsOf 219 = 1 ∧ kindT Tryz.prog 220 = some none ∧ Tryz.prog.cellsOf 220 = 1 := by and_intros <;> kernel_rfl
end Go.Proofs

namespace Go.Proofs.YtpkgedaejcigeaaGreat
open Go.Shelf Go.Sort
set_option maxRecDepth 100000
def Tryz.sortTrees_ren : Go.Shelf.Ren := ⟨fun | 6 => 127 | 15 => 158 | 14 => 157 | 28 => 185 | 29 => 186 | 20 => 176 | 21 => 178 | 22 => 179 | 23 => 180 | 24 => 181 | 25 => 182 | 26 => 183 | 27 => 184 | 46 => 195 | 47 => 196 | 48 => 197 | 49 => 198 | 50 => 199 | 57 => 209 | n => n, fun | 22 => 24 | 24 => 25 | 25 => 104 | 3 => 3 | 39 => 136 | 0 => 0 | 53 => 178 | 55 => 108 | 4 => 4 | 46 => 172 | 45 => 171 | 50 => 164 | 5 => 5 | 9 => 9 | 66 => 188 | 70 => 192 | 76 => 199 | 77 => 200 | n => n, fun | n => n⟩
theorem Tryz.sortTrees : Go.Proofs.SlLaysF.n6 Tryz.prog Tryz.sortTrees_ren := {
  mixed := by kernel_rfl,
  f6 := ⟨Tryz.f127.name, by decide, Tryz.func127.trans (congrArg some (by kernel_rfl))⟩,
  f14 := ⟨Tryz.f157.name, by decide, Tryz.func157.trans (congrArg some (by kernel_rfl))⟩,
  f15 := Tryz.func158.trans (congrArg some (by kernel_rfl)),
  f20 := ⟨Tryz.f176.name, by decide, Tryz.func176.trans (congrArg some (by kernel_rfl))⟩,
  f21 := ⟨Tryz.f178.name, by decide, Tryz.func178.trans (congrArg some (by kernel_rfl))⟩,
  f22 := ⟨Tryz.f179.name, by decide, Tryz.func179.trans (congrArg some (by kernel_rfl))⟩,
  f23 := ⟨Tryz.f180.name, by decide, Tryz.func180.trans (congrArg some (by kernel_rfl))⟩,
  f24 := ⟨Tryz.f181.name, by decide, Tryz.func181.trans (congrArg some (by kernel_rfl))⟩,
  f25 := ⟨Tryz.f182.name, by decide, Tryz.func182.trans (congrArg some (by kernel_rfl))⟩,
  f26 := ⟨Tryz.f183.name, by decide, Tryz.func183.trans (congrArg some (by kernel_rfl))⟩,
  f27 := ⟨Tryz.f184.name, by decide, Tryz.func184.trans (congrArg some (by kernel_rfl))⟩,
  f28 := Tryz.func185.trans (congrArg some (by kernel_rfl)),
  f29 := Tryz.func186.trans (congrArg some (by kernel_rfl)),
  f46 := ⟨Tryz.f195.name, by decide, Tryz.func195.trans (congrArg some (by kernel_rfl))⟩,
  f47 := Tryz.func196.trans (congrArg some (by kernel_rfl)),
  f48 := Tryz.func197.trans (congrArg some (by kernel_rfl)),
  f49 := ⟨Tryz.f198.name, by decide, Tryz.func198.trans (congrArg some (by kernel_rfl))⟩,
  f50 := ⟨Tryz.f199.name, by decide, Tryz.func199.trans (congrArg some (by kernel_rfl))⟩,
  f57 := ⟨Tryz.f209.name, by decide, Tryz.func209.trans (congrArg some (by kernel_rfl))⟩,
  t0 := Tryz.underlying0,
  a0 := Tryz.isAgg0,
  z0 := Tryz.sizeOf0,
  v0 := Tryz.zeroValue0,
  t3 := Tryz.underlying3,
  a3 := Tryz.isAgg3,
  z3 := Tryz.sizeOf3,
  v3 := Tryz.zeroValue3,
  t4 := Tryz.underlying4,
  a4 := Tryz.isAgg4,
  z4 := Tryz.sizeOf4,
  v4 := Tryz.zeroValue4,
  t5 := Tryz.underlying5,
  a5 := Tryz.isAgg5,
  z5 := Tryz.sizeOf5,
  v5 := Tryz.zeroValue5,
  t9 := Tryz.underlying9,
  a9 := Tryz.isAgg9,
  z9 := Tryz.sizeOf9,
  v9 := Tryz.zeroValue9,
  t22 := Tryz.underlying24,
  a22 := Tryz.isAgg24,
  z22 := Tryz.sizeOf24,
  v22 := Tryz.zeroValue24,
  a24 := Tryz.isAgg25,
  z24 := Tryz.sizeOf25,
  t25 := Tryz.underlying104,
  a25 := Tryz.isAgg104,
  z25 := Tryz.sizeOf104,
  v25 := Tryz.zeroValue104,
  t39 := Tryz.underlying136,
  a39 := Tryz.isAgg136,
  z39 := Tryz.sizeOf136,
  v39 := Tryz.zeroValue136,
  t45 := Tryz.underlying171,
  a45 := Tryz.isAgg171,
  z45 := Tryz.sizeOf171,
  v45 := Tryz.zeroValue171,
  t46 := Tryz.underlying172,
  a46 := Tryz.isAgg172,
  z46 := Tryz.sizeOf172,
  v46 := Tryz.zeroValue172,
  t50 := Tryz.underlying164,
  a50 := Tryz.isAgg164,
  z50 := Tryz.sizeOf164,
  v50 := Tryz.zeroValue164,
  t53 := Tryz.underlying178,
  a53 := Tryz.isAgg178,
  z53 := Tryz.sizeOf178,
  v53 := Tryz.zeroValue178,
  t55 := Tryz.underlying108,
  a55 := Tryz.isAgg108,
  z55 := Tryz.sizeOf108,
  v55 := Tryz.zeroValue108,
  t66 := Tryz.underlying188,
  a66 := Tryz.isAgg188,
  z66 := Tryz.sizeOf188,
  v66 := Tryz.zeroValue188,
  t70 := Tryz.underlying192,
  a70 := Tryz.isAgg192,
  z70 := Tryz.sizeOf192,
  v70 := Tryz.zeroValue192,
  t76 := Tryz.underlying199,
  a76 := Tryz.isAgg199,
  z76 := Tryz.sizeOf199,
  v76 := Tryz.zeroValue199,
  t77 := Tryz.underlying200,
  a77 := Tryz.isAgg200,
  z77 := Tryz.sizeOf200,
  v77 := Tryz.zeroValue200 }
def Tryz.insTrees_ren : Go.Shelf.Ren := ⟨fun | 20 => 176 | n => n, fun | 24 => 25 | 22 => 24 | 3 => 3 | 25 => 104 | 4 => 4 | 0 => 0 | n => n, fun | n => n⟩
theorem Tryz.insTrees : Go.Proofs.SlLaysF.n20 Tryz.prog Tryz.insTrees_ren := {
  mixed := by kernel_rfl,
  f20 := ⟨Tryz.f176.name, by decide, Tryz.func176.trans (congrArg some (by kernel_rfl))⟩,
  t0 := Tryz.underlying0,
  a0 := Tryz.isAgg0,
  z0 := Tryz.sizeOf0,
  v0 := Tryz.zeroValue0,
  t3 := Tryz.underlying3,
  a3 := Tryz.isAgg3,
  z3 := Tryz.sizeOf3,
  v3 := Tryz.zeroValue3,
  t4 := Tryz.underlying4,
  a4 := Tryz.isAgg4,
  z4 := Tryz.sizeOf4,
  v4 := Tryz.zeroValue4,
  t22 := Tryz.underlying24,
  a22 := Tryz.isAgg24,
  z22 := Tryz.sizeOf24,
  v22 := Tryz.zeroValue24,
  a24 := Tryz.isAgg25,
  z24 := Tryz.sizeOf25,
  t25 := Tryz.underlying104,
  a25 := Tryz.isAgg104,
  z25 := Tryz.sizeOf104,
  v25 := Tryz.zeroValue104 }
end Go.Proofs.YtpkgedaejcigeaaGreat

