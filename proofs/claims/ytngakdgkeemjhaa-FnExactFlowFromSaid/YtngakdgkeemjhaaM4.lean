/- Texts of the own layer and contracts, part 4: Tab. -/
import Derived.Test.YtngakdgkeemjhaaProg
import Derived.KernelRfl
import Derived.Test.YtngakdgkeemjhaaM3
/- What the loaded program says of its types. Written by a program (gentab.py). -/
namespace Go.Proofs
open Go.Abs
theorem Try.mixed : Try.prog.follows .mixedOrders = true := by kernel_rfl
@[go_sem] theorem Try.kind1 : kindT Try.prog 1 = some none := by kernel_rfl
@[go_sem] theorem Try.cof1 : Try.prog.cellsOf 1 = 1 := by kernel_rfl
@[go_sem] theorem Try.kind2 : kindT Try.prog 2 = some none := by kernel_rfl
@[go_sem] theorem Try.info2 : infoT Try.prog 2 = some (1, 8, [.val (.int .i64 0)]) := by kernel_rfl
@[go_sem] theorem Try.cof2 : Try.prog.cellsOf 2 = 1 := by kernel_rfl
@[go_sem] theorem Try.und2 : Try.prog.underlying 2 = some (.int .i64) := by kernel_rfl
@[go_sem] theorem Try.kind3 : kindT Try.prog 3 = some none := by kernel_rfl
@[go_sem] theorem Try.info3 : infoT Try.prog 3 = some (1, 8, [.val (.int .i64 0)]) := by kernel_rfl
@[go_sem] theorem Try.cof3 : Try.prog.cellsOf 3 = 1 := by kernel_rfl
@[go_sem] theorem Try.und3 : Try.prog.underlying 3 = some (.int .i64) := by kernel_rfl
@[go_sem] theorem Try.kind4 : kindT Try.prog 4 = some none := by kernel_rfl
@[go_sem] theorem Try.isbool4 : boolT Try.prog 4 = true := by kernel_rfl
@[go_sem] theorem Try.info4 : infoT Try.prog 4 = some (1, 1, [.val (.bool false)]) := by kernel_rfl
@[go_sem] theorem Try.cof4 : Try.prog.cellsOf 4 = 1 := by kernel_rfl
@[go_sem] theorem Try.kind5 : kindT Try.prog 5 = some none := by kernel_rfl
@[go_sem] theorem Try.info5 : infoT Try.prog 5 = some (1, 1, [.val (.int .u8 0)]) := by kernel_rfl
@[go_sem] theorem Try.cof5 : Try.prog.cellsOf 5 = 1 := by kernel_rfl
@[go_sem] theorem Try.und5 : Try.prog.underlying 5 = some (.int .u8) := by kernel_rfl
@[go_sem] theorem Try.kind6 : kindT Try.prog 6 = some none := by kernel_rfl
@[go_sem] theorem Try.info6 : infoT Try.prog 6 = some (1, 1, [.val (.int .u8 0)]) := by kernel_rfl
@[go_sem] theorem Try.cof6 : Try.prog.cellsOf 6 = 1 := by kernel_rfl
@[go_sem] theorem Try.und6 : Try.prog.underlying 6 = some (.int .u8) := by kernel_rfl
@[go_sem] theorem Try.kind7 : kindT Try.prog 7 = some (some 4) := by kernel_rfl
@[go_sem] theorem Try.fld7_0 : fldT Try.prog 7 0 = some 0 := by kernel_rfl
@[go_sem] theorem Try.fl17_0 : fld1T Try.prog 7 0 = some 0 := by kernel_rfl
@[go_sem] theorem Try.pl7_0 : plT Try.prog 7 0 = some 0 := by kernel_rfl
@[go_sem] theorem Try.fld7_1 : fldT Try.prog 7 1 = some 1 := by kernel_rfl
@[go_sem] theorem Try.fl17_1 : fld1T Try.prog 7 1 = some 1 := by kernel_rfl
@[go_sem] theorem Try.pl7_1 : plT Try.prog 7 1 = some 1 := by kernel_rfl
@[go_sem] theorem Try.fld7_2 : fldT Try.prog 7 2 = some 2 := by kernel_rfl
@[go_sem] theorem Try.fl17_2 : fld1T Try.prog 7 2 = some 2 := by kernel_rfl
@[go_sem] theorem Try.pl7_2 : plT Try.prog 7 2 = some 2 := by kernel_rfl
@[go_sem] theorem Try.fld7_3 : fldT Try.prog 7 3 = some 3 := by kernel_rfl
@[go_sem] theorem Try.fl17_3 : fld1T Try.prog 7 3 = some 3 := by kernel_rfl
@[go_sem] theorem Try.pl7_3 : plT Try.prog 7 3 = some 3 := by kernel_rfl
@[go_sem] theorem Try.plk7 : plOk Try.prog 7 = true := by kernel_rfl
@[go_sem] theorem Try.info7 : infoT Try.prog 7 = some (4, 24, [.val (.int .i64 0), .val (.int .i64 0), .val (.bool false), .val (.int .u8 0)]) := by kernel_rfl
@[go_sem] theorem Try.cof7 : Try.prog.cellsOf 7 = 4 := by kernel_rfl
@[go_sem] theorem Try.kind8 : kindT Try.prog 8 = some (some 4) := by kernel_rfl
@[go_sem] theorem Try.fld8_0 : fldT Try.prog 8 0 = some 0 := by kernel_rfl
@[go_sem] theorem Try.fl18_0 : fld1T Try.prog 8 0 = some 0 := by kernel_rfl
@[go_sem] theorem Try.pl8_0 : plT Try.prog 8 0 = some 0 := by kernel_rfl
@[go_sem] theorem Try.fld8_1 : fldT Try.prog 8 1 = some 1 := by kernel_rfl
@[go_sem] theorem Try.fl18_1 : fld1T Try.prog 8 1 = some 1 := by kernel_rfl
@[go_sem] theorem Try.pl8_1 : plT Try.prog 8 1 = some 1 := by kernel_rfl
@[go_sem] theorem Try.fld8_2 : fldT Try.prog 8 2 = some 2 := by kernel_rfl
@[go_sem] theorem Try.fl18_2 : fld1T Try.prog 8 2 = some 2 := by kernel_rfl
@[go_sem] theorem Try.pl8_2 : plT Try.prog 8 2 = some 2 := by kernel_rfl
@[go_sem] theorem Try.fld8_3 : fldT Try.prog 8 3 = some 3 := by kernel_rfl
@[go_sem] theorem Try.fl18_3 : fld1T Try.prog 8 3 = some 3 := by kernel_rfl
@[go_sem] theorem Try.pl8_3 : plT Try.prog 8 3 = some 3 := by kernel_rfl
@[go_sem] theorem Try.plk8 : plOk Try.prog 8 = true := by kernel_rfl
@[go_sem] theorem Try.info8 : infoT Try.prog 8 = some (4, 24, [.val (.int .i64 0), .val (.int .i64 0), .val (.bool false), .val (.int .u8 0)]) := by kernel_rfl
@[go_sem] theorem Try.cof8 : Try.prog.cellsOf 8 = 4 := by kernel_rfl
@[go_sem] theorem Try.kind9 : kindT Try.prog 9 = some none := by kernel_rfl
@[go_sem] theorem Try.elem9 : elemT Try.prog 9 = none := by kernel_rfl
@[go_sem] theorem Try.info9 : infoT Try.prog 9 = some (1, 16, [.val (.string ⟨#[]⟩)]) := by kernel_rfl
@[go_sem] theorem Try.cof9 : Try.prog.cellsOf 9 = 1 := by kernel_rfl
theorem Try.und9 : Try.prog.underlying 9 = some (.string) := by kernel_rfl
@[go_sem] theorem Try.kind10 : kindT Try.prog 10 = some none := by kernel_rfl
@[go_sem] theorem Try.elem10 : elemT Try.prog 10 = none := by kernel_rfl
@[go_sem] theorem Try.info10 : infoT Try.prog 10 = some (1, 16, [.val (.string ⟨#[]⟩)]) := by kernel_rfl
@[go_sem] theorem Try.cof10 : Try.prog.cellsOf 10 = 1 := by kernel_rfl
theorem Try.und10 : Try.prog.underlying 10 = some (.string) := by kernel_rfl
@[go_sem] theorem Try.kind11 : kindT Try.prog 11 = some none := by kernel_rfl
@[go_sem] theorem Try.elem11 : elemT Try.prog 11 = none := by kernel_rfl
@[go_sem] theorem Try.info11 : infoT Try.prog 11 = some (1, 16, [.val (.string ⟨#[]⟩)]) := by kernel_rfl
@[go_sem] theorem Try.cof11 : Try.prog.cellsOf 11 = 1 := by kernel_rfl
theorem Try.und11 : Try.prog.underlying 11 = some (.string) := by kernel_rfl
@[go_sem] theorem Try.kind12 : kindT Try.prog 12 = some none := by kernel_rfl
@[go_sem] theorem Try.info12 : infoT Try.prog 12 = some (1, 8, [.val (.int .u64 0)]) := by kernel_rfl
@[go_sem] theorem Try.cof12 : Try.prog.cellsOf 12 = 1 := by kernel_rfl
@[go_sem] theorem Try.und12 : Try.prog.underlying 12 = some (.int .u64) := by kernel_rfl
@[go_sem] theorem Try.kind13 : kindT Try.prog 13 = some (some 2) := by kernel_rfl
@[go_sem] theorem Try.fld13_0 : fldT Try.prog 13 0 = some 0 := by kernel_rfl
@[go_sem] theorem Try.fl113_0 : fld1T Try.prog 13 0 = some 0 := by kernel_rfl
@[go_sem] theorem Try.pl13_0 : plT Try.prog 13 0 = some 0 := by kernel_rfl
@[go_sem] theorem Try.fld13_1 : fldT Try.prog 13 1 = some 1 := by kernel_rfl
@[go_sem] theorem Try.fl113_1 : fld1T Try.prog 13 1 = some 1 := by kernel_rfl
@[go_sem] theorem Try.pl13_1 : plT Try.prog 13 1 = some 1 := by kernel_rfl
@[go_sem] theorem Try.plk13 : plOk Try.prog 13 = true := by kernel_rfl
@[go_sem] theorem Try.info13 : infoT Try.prog 13 = some (2, 24, [.val (.string ⟨#[]⟩), .val (.int .u64 0)]) := by kernel_rfl
@[go_sem] theorem Try.cof13 : Try.prog.cellsOf 13 = 2 := by kernel_rfl
@[go_sem] theorem Try.kind14 : kindT Try.prog 14 = some (some 2) := by kernel_rfl
@[go_sem] theorem Try.fld14_0 : fldT Try.prog 14 0 = some 0 := by kernel_rfl
@[go_sem] theorem Try.fl114_0 : fld1T Try.prog 14 0 = some 0 := by kernel_rfl
@[go_sem] theorem Try.pl14_0 : plT Try.prog 14 0 = some 0 := by kernel_rfl
@[go_sem] theorem Try.fld14_1 : fldT Try.prog 14 1 = some 1 := by kernel_rfl
@[go_sem] theorem Try.fl114_1 : fld1T Try.prog 14 1 = some 1 := by kernel_rfl
@[go_sem] theorem Try.pl14_1 : plT Try.prog 14 1 = some 1 := by kernel_rfl
@[go_sem] theorem Try.plk14 : plOk Try.prog 14 = true := by kernel_rfl
@[go_sem] theorem Try.info14 : infoT Try.prog 14 = some (2, 24, [.val (.string ⟨#[]⟩), .val (.int .u64 0)]) := by kernel_rfl
@[go_sem] theorem Try.cof14 : Try.prog.cellsOf 14 = 2 := by kernel_rfl
@[go_sem] theorem Try.kind15 : kindT Try.prog 15 = some none := by kernel_rfl
@[go_sem] theorem Try.elem15 : elemT Try.prog 15 = none := by kernel_rfl
@[go_sem] theorem Try.cof15 : Try.prog.cellsOf 15 = 1 := by kernel_rfl
@[go_sem] theorem Try.kind16 : kindT Try.prog 16 = some none := by kernel_rfl
@[go_sem] theorem Try.elem16 : elemT Try.prog 16 = none := by kernel_rfl
@[go_sem] theorem Try.cof16 : Try.prog.cellsOf 16 = 1 := by kernel_rfl
@[go_sem] theorem Try.kind17 : kindT Try.prog 17 = some none := by kernel_rfl
@[go_sem] theorem Try.elem17 : elemT Try.prog 17 = none := by kernel_rfl
@[go_sem] theorem Try.cof17 : Try.prog.cellsOf 17 = 1 := by kernel_rfl
@[go_sem] theorem Try.kind18 : kindT Try.prog 18 = some (some 1) := by kernel_rfl
@[go_sem] theorem Try.fld18_0 : fldT Try.prog 18 0 = some 0 := by kernel_rfl
@[go_sem] theorem Try.fl118_0 : fld1T Try.prog 18 0 = some 0 := by kernel_rfl
@[go_sem] theorem Try.pl18_0 : plT Try.prog 18 0 = some 0 := by kernel_rfl
@[go_sem] theorem Try.plk18 : plOk Try.prog 18 = true := by kernel_rfl
@[go_sem] theorem Try.cof18 : Try.prog.cellsOf 18 = 1 := by kernel_rfl
@[go_sem] theorem Try.kind19 : kindT Try.prog 19 = some (some 1) := by kernel_rfl
@[go_sem] theorem Try.fld19_0 : fldT Try.prog 19 0 = some 0 := by kernel_rfl
@[go_sem] theorem Try.fl119_0 : fld1T Try.prog 19 0 = some 0 := by kernel_rfl
@[go_sem] theorem Try.pl19_0 : plT Try.prog 19 0 = some 0 := by kernel_rfl
@[go_sem] theorem Try.plk19 : plOk Try.prog 19 = true := by kernel_rfl
@[go_sem] theorem Try.cof19 : Try.prog.cellsOf 19 = 1 := by kernel_rfl
@[go_sem] theorem Try.kind21 : kindT Try.prog 21 = some none := by kernel_rfl
@[go_sem] theorem Try.info21 : infoT Try.prog 21 = some (1, 4, [.val (.int .i32 0)]) := by kernel_rfl
@[go_sem] theorem Try.cof21 : Try.prog.cellsOf 21 = 1 := by kernel_rfl
@[go_sem] theorem Try.und21 : Try.prog.underlying 21 = some (.int .i32) := by kernel_rfl
@[go_sem] theorem Try.kind22 : kindT Try.prog 22 = some none := by kernel_rfl
@[go_sem] theorem Try.elem22 : elemT Try.prog 22 = some 23 := by kernel_rfl
@[go_sem] theorem Try.info22 : infoT Try.prog 22 = some (1, 24, [.val (.slice none 0 0)]) := by kernel_rfl
@[go_sem] theorem Try.cof22 : Try.prog.cellsOf 22 = 1 := by kernel_rfl
theorem Try.und22 : Try.prog.underlying 22 = some (.slice 23) := by kernel_rfl
@[go_sem] theorem Try.kind23 : kindT Try.prog 23 = some none := by kernel_rfl
@[go_sem] theorem Try.elem23 : elemT Try.prog 23 = some 2 := by kernel_rfl
@[go_sem] theorem Try.info23 : infoT Try.prog 23 = some (1, 24, [.val (.slice none 0 0)]) := by kernel_rfl
@[go_sem] theorem Try.cof23 : Try.prog.cellsOf 23 = 1 := by kernel_rfl
theorem Try.und23 : Try.prog.underlying 23 = some (.slice 2) := by kernel_rfl
@[go_sem] theorem Try.kind24 : kindT Try.prog 24 = some (some 2) := by kernel_rfl
@[go_sem] theorem Try.fld24_0 : fldT Try.prog 24 0 = some 0 := by kernel_rfl
@[go_sem] theorem Try.fl124_0 : fld1T Try.prog 24 0 = some 0 := by kernel_rfl
@[go_sem] theorem Try.pl24_0 : plT Try.prog 24 0 = some 0 := by kernel_rfl
@[go_sem] theorem Try.fld24_1 : fldT Try.prog 24 1 = some 1 := by kernel_rfl
@[go_sem] theorem Try.fl124_1 : fld1T Try.prog 24 1 = some 1 := by kernel_rfl
@[go_sem] theorem Try.pl24_1 : plT Try.prog 24 1 = some 1 := by kernel_rfl
@[go_sem] theorem Try.plk24 : plOk Try.prog 24 = true := by kernel_rfl
@[go_sem] theorem Try.info24 : infoT Try.prog 24 = some (2, 48, [.val (.slice none 0 0), .val (.slice none 0 0)]) := by kernel_rfl
@[go_sem] theorem Try.cof24 : Try.prog.cellsOf 24 = 2 := by kernel_rfl
@[go_sem] theorem Try.kind25 : kindT Try.prog 25 = some (some 2) := by kernel_rfl
@[go_sem] theorem Try.fld25_0 : fldT Try.prog 25 0 = some 0 := by kernel_rfl
@[go_sem] theorem Try.fl125_0 : fld1T Try.prog 25 0 = some 0 := by kernel_rfl
@[go_sem] theorem Try.pl25_0 : plT Try.prog 25 0 = some 0 := by kernel_rfl
@[go_sem] theorem Try.fld25_1 : fldT Try.prog 25 1 = some 1 := by kernel_rfl
@[go_sem] theorem Try.fl125_1 : fld1T Try.prog 25 1 = some 1 := by kernel_rfl
@[go_sem] theorem Try.pl25_1 : plT Try.prog 25 1 = some 1 := by kernel_rfl
@[go_sem] theorem Try.plk25 : plOk Try.prog 25 = true := by kernel_rfl
@[go_sem] theorem Try.info25 : infoT Try.prog 25 = some (2, 48, [.val (.slice none 0 0), .val (.slice none 0 0)]) := by kernel_rfl
@[go_sem] theorem Try.cof25 : Try.prog.cellsOf 25 = 2 := by kernel_rfl
@[go_sem] theorem Try.kind26 : kindT Try.prog 26 = some none := by kernel_rfl
@[go_sem] theorem Try.elem26 : elemT Try.prog 26 = some 140 := by kernel_rfl
@[go_sem] theorem Try.info26 : infoT Try.prog 26 = some (1, 24, [.val (.slice none 0 0)]) := by kernel_rfl
@[go_sem] theorem Try.cof26 : Try.prog.cellsOf 26 = 1 := by kernel_rfl
theorem Try.und26 : Try.prog.underlying 26 = some (.slice 140) := by kernel_rfl
@[go_sem] theorem Try.kind27 : kindT Try.prog 27 = some (some 2) := by kernel_rfl
@[go_sem] theorem Try.fld27_0 : fldT Try.prog 27 0 = some 0 := by kernel_rfl
@[go_sem] theorem Try.fl127_0 : fld1T Try.prog 27 0 = some 0 := by kernel_rfl
@[go_sem] theorem Try.pl27_0 : plT Try.prog 27 0 = some 0 := by kernel_rfl
@[go_sem] theorem Try.fld27_1 : fldT Try.prog 27 1 = some 1 := by kernel_rfl
@[go_sem] theorem Try.fl127_1 : fld1T Try.prog 27 1 = some 1 := by kernel_rfl
@[go_sem] theorem Try.pl27_1 : plT Try.prog 27 1 = some 1 := by kernel_rfl
@[go_sem] theorem Try.plk27 : plOk Try.prog 27 = true := by kernel_rfl
@[go_sem] theorem Try.info27 : infoT Try.prog 27 = some (2, 32, [.val (.int .i64 0), .val (.slice none 0 0)]) := by kernel_rfl
@[go_sem] theorem Try.cof27 : Try.prog.cellsOf 27 = 2 := by kernel_rfl
@[go_sem] theorem Try.kind28 : kindT Try.prog 28 = some (some 2) := by kernel_rfl
@[go_sem] theorem Try.fld28_0 : fldT Try.prog 28 0 = some 0 := by kernel_rfl
@[go_sem] theorem Try.fl128_0 : fld1T Try.prog 28 0 = some 0 := by kernel_rfl
@[go_sem] theorem Try.pl28_0 : plT Try.prog 28 0 = some 0 := by kernel_rfl
@[go_sem] theorem Try.fld28_1 : fldT Try.prog 28 1 = some 1 := by kernel_rfl
@[go_sem] theorem Try.fl128_1 : fld1T Try.prog 28 1 = some 1 := by kernel_rfl
@[go_sem] theorem Try.pl28_1 : plT Try.prog 28 1 = some 1 := by kernel_rfl
@[go_sem] theorem Try.plk28 : plOk Try.prog 28 = true := by kernel_rfl
@[go_sem] theorem Try.info28 : infoT Try.prog 28 = some (2, 32, [.val (.int .i64 0), .val (.slice none 0 0)]) := by kernel_rfl
@[go_sem] theorem Try.cof28 : Try.prog.cellsOf 28 = 2 := by kernel_rfl
@[go_sem] theorem Try.kind29 : kindT Try.prog 29 = some none := by kernel_rfl
@[go_sem] theorem Try.cof29 : Try.prog.cellsOf 29 = 1 := by kernel_rfl
@[go_sem] theorem Try.kind30 : kindT Try.prog 30 = some none := by kernel_rfl
@[go_sem] theorem Try.cof30 : Try.prog.cellsOf 30 = 1 := by kernel_rfl
@[go_sem] theorem Try.kind31 : kindT Try.prog 31 = some none := by kernel_rfl
@[go_sem] theorem Try.cof31 : Try.prog.cellsOf 31 = 1 := by kernel_rfl
@[go_sem] theorem Try.kind33 : kindT Try.prog 33 = some none := by kernel_rfl
@[go_sem] theorem Try.cof33 : Try.prog.cellsOf 33 = 1 := by kernel_rfl
@[go_sem] theorem Try.kind34 : kindT Try.prog 34 = some (some 2) := by kernel_rfl
@[go_sem] theorem Try.fld34_0 : fldT Try.prog 34 0 = some 0 := by kernel_rfl
@[go_sem] theorem Try.fl134_0 : fld1T Try.prog 34 0 = some 0 := by kernel_rfl
@[go_sem] theorem Try.pl34_0 : plT Try.prog 34 0 = some 0 := by kernel_rfl
@[go_sem] theorem Try.fld34_1 : fldT Try.prog 34 1 = some 1 := by kernel_rfl
@[go_sem] theorem Try.fl134_1 : fld1T Try.prog 34 1 = some 1 := by kernel_rfl
@[go_sem] theorem Try.pl34_1 : plT Try.prog 34 1 = some 1 := by kernel_rfl
@[go_sem] theorem Try.plk34 : plOk Try.prog 34 = true := by kernel_rfl
@[go_sem] theorem Try.info34 : infoT Try.prog 34 = some (2, 48, [.val (.slice none 0 0), .val (.slice none 0 0)]) := by kernel_rfl
@[go_sem] theorem Try.cof34 : Try.prog.cellsOf 34 = 2 := by kernel_rfl
@[go_sem] theorem Try.kind35 : kindT Try.prog 35 = some none := by kernel_rfl
@[go_sem] theorem Try.cof35 : Try.prog.cellsOf 35 = 1 := by kernel_rfl
@[go_sem] theorem Try.kind36 : kindT Try.prog 36 = some none := by kernel_rfl
@[go_sem] theorem Try.elem36 : elemT Try.prog 36 = some 109 := by kernel_rfl
@[go_sem] theorem Try.info36 : infoT Try.prog 36 = some (1, 24, [.val (.slice none 0 0)]) := by kernel_rfl
@[go_sem] theorem Try.cof36 : Try.prog.cellsOf 36 = 1 := by kernel_rfl
theorem Try.und36 : Try.prog.underlying 36 = some (.slice 109) := by kernel_rfl
@[go_sem] theorem Try.kind37 : kindT Try.prog 37 = some (some 2) := by kernel_rfl
@[go_sem] theorem Try.fld37_0 : fldT Try.prog 37 0 = some 0 := by kernel_rfl
@[go_sem] theorem Try.fl137_0 : fld1T Try.prog 37 0 = some 0 := by kernel_rfl
@[go_sem] theorem Try.pl37_0 : plT Try.prog 37 0 = some 0 := by kernel_rfl
@[go_sem] theorem Try.fld37_1 : fldT Try.prog 37 1 = some 1 := by kernel_rfl
@[go_sem] theorem Try.fl137_1 : fld1T Try.prog 37 1 = some 1 := by kernel_rfl
@[go_sem] theorem Try.pl37_1 : plT Try.prog 37 1 = some 1 := by kernel_rfl
@[go_sem] theorem Try.plk37 : plOk Try.prog 37 = true := by kernel_rfl
@[go_sem] theorem Try.info37 : infoT Try.prog 37 = some (2, 32, [.val (.int .i64 0), .val (.slice none 0 0)]) := by kernel_rfl
@[go_sem] theorem Try.cof37 : Try.prog.cellsOf 37 = 2 := by kernel_rfl
@[go_sem] theorem Try.kind38 : kindT Try.prog 38 = some (some 2) := by kernel_rfl
@[go_sem] theorem Try.fld38_0 : fldT Try.prog 38 0 = some 0 := by kernel_rfl
@[go_sem] theorem Try.fl138_0 : fld1T Try.prog 38 0 = some 0 := by kernel_rfl
@[go_sem] theorem Try.pl38_0 : plT Try.prog 38 0 = some 0 := by kernel_rfl
@[go_sem] theorem Try.fld38_1 : fldT Try.prog 38 1 = some 1 := by kernel_rfl
@[go_sem] theorem Try.fl138_1 : fld1T Try.prog 38 1 = some 1 := by kernel_rfl
@[go_sem] theorem Try.pl38_1 : plT Try.prog 38 1 = some 1 := by kernel_rfl
@[go_sem] theorem Try.plk38 : plOk Try.prog 38 = true := by kernel_rfl
@[go_sem] theorem Try.info38 : infoT Try.prog 38 = some (2, 32, [.val (.int .i64 0), .val (.slice none 0 0)]) := by kernel_rfl
@[go_sem] theorem Try.cof38 : Try.prog.cellsOf 38 = 2 := by kernel_rfl
@[go_sem] theorem Try.kind39 : kindT Try.prog 39 = some none := by kernel_rfl
@[go_sem] theorem Try.cof39 : Try.prog.cellsOf 39 = 1 := by kernel_rfl
@[go_sem] theorem Try.kind40 : kindT Try.prog 40 = some none := by kernel_rfl
@[go_sem] theorem Try.cof40 : Try.prog.cellsOf 40 = 1 := by kernel_rfl
@[go_sem] theorem Try.kind41 : kindT Try.prog 41 = some none := by kernel_rfl
@[go_sem] theorem Try.cof41 : Try.prog.cellsOf 41 = 1 := by kernel_rfl
@[go_sem] theorem Try.kind42 : kindT Try.prog 42 = some none := by kernel_rfl
@[go_sem] theorem Try.cof42 : Try.prog.cellsOf 42 = 1 := by kernel_rfl
@[go_sem] theorem Try.kind43 : kindT Try.prog 43 = some none := by kernel_rfl
@[go_sem] theorem Try.cof43 : Try.prog.cellsOf 43 = 1 := by kernel_rfl
@[go_sem] theorem Try.kind44 : kindT Try.prog 44 = some none := by kernel_rfl
@[go_sem] theorem Try.cof44 : Try.prog.cellsOf 44 = 1 := by kernel_rfl
@[go_sem] theorem Try.kind45 : kindT Try.prog 45 = some none := by kernel_rfl
@[go_sem] theorem Try.cof45 : Try.prog.cellsOf 45 = 1 := by kernel_rfl
@[go_sem] theorem Try.kind46 : kindT Try.prog 46 = some none := by kernel_rfl
@[go_sem] theorem Try.cof46 : Try.prog.cellsOf 46 = 1 := by kernel_rfl
@[go_sem] theorem Try.kind47 : kindT Try.prog 47 = some none := by kernel_rfl
@[go_sem] theorem Try.cof47 : Try.prog.cellsOf 47 = 1 := by kernel_rfl
@[go_sem] theorem Try.kind48 : kindT Try.prog 48 = some none := by kernel_rfl
@[go_sem] theorem Try.cof48 : Try.prog.cellsOf 48 = 1 := by kernel_rfl
@[go_sem] theorem Try.kind49 : kindT Try.prog 49 = some none := by kernel_rfl
@[go_sem] theorem Try.cof49 : Try.prog.cellsOf 49 = 1 := by kernel_rfl
@[go_sem] theorem Try.kind50 : kindT Try.prog 50 = some none := by kernel_rfl
@[go_sem] theorem Try.cof50 : Try.prog.cellsOf 50 = 1 := by kernel_rfl
@[go_sem] theorem Try.kind51 : kindT Try.prog 51 = some none := by kernel_rfl
@[go_sem] theorem Try.cof51 : Try.prog.cellsOf 51 = 1 := by kernel_rfl
@[go_sem] theorem Try.kind52 : kindT Try.prog 52 = some none := by kernel_rfl
@[go_sem] theorem Try.elem52 : elemT Try.prog 52 = some 22 := by kernel_rfl
@[go_sem] theorem Try.info52 : infoT Try.prog 52 = some (1, 24, [.val (.slice none 0 0)]) := by kernel_rfl
@[go_sem] theorem Try.cof52 : Try.prog.cellsOf 52 = 1 := by kernel_rfl
theorem Try.und52 : Try.prog.underlying 52 = some (.slice 22) := by kernel_rfl
@[go_sem] theorem Try.kind54 : kindT Try.prog 54 = some none := by kernel_rfl
@[go_sem] theorem Try.cof54 : Try.prog.cellsOf 54 = 1 := by kernel_rfl
@[go_sem] theorem Try.kind55 : kindT Try.prog 55 = some none := by kernel_rfl
@[go_sem] theorem Try.cof55 : Try.prog.cellsOf 55 = 1 := by kernel_rfl
@[go_sem] theorem Try.kind56 : kindT Try.prog 56 = some none := by kernel_rfl
@[go_sem] theorem Try.cof56 : Try.prog.cellsOf 56 = 1 := by kernel_rfl
@[go_sem] theorem Try.kind57 : kindT Try.prog 57 = some none := by kernel_rfl
@[go_sem] theorem Try.cof57 : Try.prog.cellsOf 57 = 1 := by kernel_rfl
@[go_sem] theorem Try.kind58 : kindT Try.prog 58 = some none := by kernel_rfl
@[go_sem] theorem Try.cof58 : Try.prog.cellsOf 58 = 1 := by kernel_rfl
@[go_sem] theorem Try.kind59 : kindT Try.prog 59 = some none := by kernel_rfl
@[go_sem] theorem Try.cof59 : Try.prog.cellsOf 59 = 1 := by kernel_rfl
@[go_sem] theorem Try.kind60 : kindT Try.prog 60 = some none := by kernel_rfl
@[go_sem] theorem Try.cof60 : Try.prog.cellsOf 60 = 1 := by kernel_rfl
@[go_sem] theorem Try.kind62 : kindT Try.prog 62 = some none := by kernel_rfl
@[go_sem] theorem Try.cof62 : Try.prog.cellsOf 62 = 1 := by kernel_rfl
@[go_sem] theorem Try.kind63 : kindT Try.prog 63 = some none := by kernel_rfl
@[go_sem] theorem Try.cof63 : Try.prog.cellsOf 63 = 1 := by kernel_rfl
@[go_sem] theorem Try.kind64 : kindT Try.prog 64 = some none := by kernel_rfl
@[go_sem] theorem Try.cof64 : Try.prog.cellsOf 64 = 1 := by kernel_rfl
@[go_sem] theorem Try.kind65 : kindT Try.prog 65 = some none := by kernel_rfl
@[go_sem] theorem Try.elem65 : elemT Try.prog 65 = some 5 := by kernel_rfl
@[go_sem] theorem Try.info65 : infoT Try.prog 65 = some (1, 24, [.val (.slice none 0 0)]) := by kernel_rfl
@[go_sem] theorem Try.cof65 : Try.prog.cellsOf 65 = 1 := by kernel_rfl
theorem Try.und65 : Try.prog.underlying 65 = some (.slice 5) := by kernel_rfl
@[go_sem] theorem Try.kind66 : kindT Try.prog 66 = some none := by kernel_rfl
@[go_sem] theorem Try.cof66 : Try.prog.cellsOf 66 = 1 := by kernel_rfl
@[go_sem] theorem Try.kind68 : kindT Try.prog 68 = some none := by kernel_rfl
@[go_sem] theorem Try.cof68 : Try.prog.cellsOf 68 = 1 := by kernel_rfl
@[go_sem] theorem Try.kind70 : kindT Try.prog 70 = some none := by kernel_rfl
@[go_sem] theorem Try.cof70 : Try.prog.cellsOf 70 = 1 := by kernel_rfl
@[go_sem] theorem Try.kind71 : kindT Try.prog 71 = some none := by kernel_rfl
@[go_sem] theorem Try.cof71 : Try.prog.cellsOf 71 = 1 := by kernel_rfl
@[go_sem] theorem Try.kind72 : kindT Try.prog 72 = some none := by kernel_rfl
@[go_sem] theorem Try.elem72 : elemT Try.prog 72 = none := by kernel_rfl
@[go_sem] theorem Try.cof72 : Try.prog.cellsOf 72 = 1 := by kernel_rfl
@[go_sem] theorem Try.kind73 : kindT Try.prog 73 = some none := by kernel_rfl
@[go_sem] theorem Try.cof73 : Try.prog.cellsOf 73 = 1 := by kernel_rfl
@[go_sem] theorem Try.kind74 : kindT Try.prog 74 = some none := by kernel_rfl
@[go_sem] theorem Try.info74 : infoT Try.prog 74 = some (1, 8, [.val (.int .u64 0)]) := by kernel_rfl
@[go_sem] theorem Try.cof74 : Try.prog.cellsOf 74 = 1 := by kernel_rfl
@[go_sem] theorem Try.und74 : Try.prog.underlying 74 = some (.int .u64) := by kernel_rfl
@[go_sem] theorem Try.kind75 : kindT Try.prog 75 = some none := by kernel_rfl
@[go_sem] theorem Try.cof75 : Try.prog.cellsOf 75 = 1 := by kernel_rfl
@[go_sem] theorem Try.kind76 : kindT Try.prog 76 = some none := by kernel_rfl
@[go_sem] theorem Try.cof76 : Try.prog.cellsOf 76 = 1 := by kernel_rfl
@[go_sem] theorem Try.kind77 : kindT Try.prog 77 = some none := by kernel_rfl
@[go_sem] theorem Try.cof77 : Try.prog.cellsOf 77 = 1 := by kernel_rfl
@[go_sem] theorem Try.kind78 : kindT Try.prog 78 = some none := by kernel_rfl
@[go_sem] theorem Try.cof78 : Try.prog.cellsOf 78 = 1 := by kernel_rfl
@[go_sem] theorem Try.kind80 : kindT Try.prog 80 = some none := by kernel_rfl
@[go_sem] theorem Try.cof80 : Try.prog.cellsOf 80 = 1 := by kernel_rfl
@[go_sem] theorem Try.kind81 : kindT Try.prog 81 = some none := by kernel_rfl
@[go_sem] theorem Try.cof81 : Try.prog.cellsOf 81 = 1 := by kernel_rfl
@[go_sem] theorem Try.kind82 : kindT Try.prog 82 = some none := by kernel_rfl
@[go_sem] theorem Try.cof82 : Try.prog.cellsOf 82 = 1 := by kernel_rfl
@[go_sem] theorem Try.kind83 : kindT Try.prog 83 = some none := by kernel_rfl
@[go_sem] theorem Try.cof83 : Try.prog.cellsOf 83 = 1 := by kernel_rfl
@[go_sem] theorem Try.kind84 : kindT Try.prog 84 = some none := by kernel_rfl
@[go_sem] theorem Try.cof84 : Try.prog.cellsOf 84 = 1 := by kernel_rfl
@[go_sem] theorem Try.kind85 : kindT Try.prog 85 = some none := by kernel_rfl
@[go_sem] theorem Try.cof85 : Try.prog.cellsOf 85 = 1 := by kernel_rfl
@[go_sem] theorem Try.kind86 : kindT Try.prog 86 = some none := by kernel_rfl
@[go_sem] theorem Try.cof86 : Try.prog.cellsOf 86 = 1 := by kernel_rfl
@[go_sem] theorem Try.kind87 : kindT Try.prog 87 = some none := by kernel_rfl
@[go_sem] theorem Try.cof87 : Try.prog.cellsOf 87 = 1 := by kernel_rfl
@[go_sem] theorem Try.kind88 : kindT Try.prog 88 = some none := by kernel_rfl
@[go_sem] theorem Try.cof88 : Try.prog.cellsOf 88 = 1 := by kernel_rfl
@[go_sem] theorem Try.kind89 : kindT Try.prog 89 = some none := by kernel_rfl
@[go_sem] theorem Try.elem89 : elemT Try.prog 89 = some 106 := by kernel_rfl
@[go_sem] theorem Try.info89 : infoT Try.prog 89 = some (1, 24, [.val (.slice none 0 0)]) := by kernel_rfl
@[go_sem] theorem Try.cof89 : Try.prog.cellsOf 89 = 1 := by kernel_rfl
theorem Try.und89 : Try.prog.underlying 89 = some (.slice 106) := by kernel_rfl
@[go_sem] theorem Try.kind90 : kindT Try.prog 90 = some none := by kernel_rfl
@[go_sem] theorem Try.cof90 : Try.prog.cellsOf 90 = 1 := by kernel_rfl
@[go_sem] theorem Try.kind91 : kindT Try.prog 91 = some none := by kernel_rfl
@[go_sem] theorem Try.cof91 : Try.prog.cellsOf 91 = 1 := by kernel_rfl
@[go_sem] theorem Try.kind92 : kindT Try.prog 92 = some none := by kernel_rfl
@[go_sem] theorem Try.cof92 : Try.prog.cellsOf 92 = 1 := by kernel_rfl
@[go_sem] theorem Try.kind93 : kindT Try.prog 93 = some none := by kernel_rfl
@[go_sem] theorem Try.cof93 : Try.prog.cellsOf 93 = 1 := by kernel_rfl
@[go_sem] theorem Try.kind94 : kindT Try.prog 94 = some none := by kernel_rfl
@[go_sem] theorem Try.cof94 : Try.prog.cellsOf 94 = 1 := by kernel_rfl
@[go_sem] theorem Try.kind95 : kindT Try.prog 95 = some none := by kernel_rfl
@[go_sem] theorem Try.cof95 : Try.prog.cellsOf 95 = 1 := by kernel_rfl
@[go_sem] theorem Try.kind96 : kindT Try.prog 96 = some none := by kernel_rfl
@[go_sem] theorem Try.cof96 : Try.prog.cellsOf 96 = 1 := by kernel_rfl
@[go_sem] theorem Try.kind97 : kindT Try.prog 97 = some none := by kernel_rfl
@[go_sem] theorem Try.cof97 : Try.prog.cellsOf 97 = 1 := by kernel_rfl
@[go_sem] theorem Try.kind98 : kindT Try.prog 98 = some none := by kernel_rfl
@[go_sem] theorem Try.cof98 : Try.prog.cellsOf 98 = 1 := by kernel_rfl
@[go_sem] theorem Try.kind99 : kindT Try.prog 99 = some none := by kernel_rfl
@[go_sem] theorem Try.cof99 : Try.prog.cellsOf 99 = 1 := by kernel_rfl
@[go_sem] theorem Try.kind100 : kindT Try.prog 100 = some none := by kernel_rfl
@[go_sem] theorem Try.cof100 : Try.prog.cellsOf 100 = 1 := by kernel_rfl
@[go_sem] theorem Try.kind101 : kindT Try.prog 101 = some none := by kernel_rfl
@[go_sem] theorem Try.elem101 : elemT Try.prog 101 = some 103 := by kernel_rfl
@[go_sem] theorem Try.info101 : infoT Try.prog 101 = some (1, 24, [.val (.slice none 0 0)]) := by kernel_rfl
@[go_sem] theorem Try.cof101 : Try.prog.cellsOf 101 = 1 := by kernel_rfl
theorem Try.und101 : Try.prog.underlying 101 = some (.slice 103) := by kernel_rfl
@[go_sem] theorem Try.kind102 : kindT Try.prog 102 = some (some 7) := by kernel_rfl
@[go_sem] theorem Try.elem102 : elemT Try.prog 102 = none := by kernel_rfl
@[go_sem] theorem Try.arr102 : arrT Try.prog 102 = some (7, 1, true) := by kernel_rfl
@[go_sem] theorem Try.pl102_0 : plT Try.prog 102 0 = some 0 := by kernel_rfl
@[go_sem] theorem Try.pl102_1 : plT Try.prog 102 1 = some 1 := by kernel_rfl
@[go_sem] theorem Try.pl102_2 : plT Try.prog 102 2 = some 2 := by kernel_rfl
@[go_sem] theorem Try.pl102_3 : plT Try.prog 102 3 = some 3 := by kernel_rfl
@[go_sem] theorem Try.pl102_4 : plT Try.prog 102 4 = some 4 := by kernel_rfl
@[go_sem] theorem Try.pl102_5 : plT Try.prog 102 5 = some 5 := by kernel_rfl
@[go_sem] theorem Try.pl102_6 : plT Try.prog 102 6 = some 6 := by kernel_rfl
@[go_sem] theorem Try.plk102 : plOk Try.prog 102 = true := by kernel_rfl
@[go_sem] theorem Try.info102 : infoT Try.prog 102 = some (7, 168, [.val (.slice none 0 0), .val (.slice none 0 0), .val (.slice none 0 0), .val (.slice none 0 0), .val (.slice none 0 0), .val (.slice none 0 0), .val (.slice none 0 0)]) := by kernel_rfl
@[go_sem] theorem Try.cof102 : Try.prog.cellsOf 102 = 7 := by kernel_rfl
@[go_sem] theorem Try.kind103 : kindT Try.prog 103 = some (some 7) := by kernel_rfl
@[go_sem] theorem Try.elem103 : elemT Try.prog 103 = none := by kernel_rfl
@[go_sem] theorem Try.arr103 : arrT Try.prog 103 = some (7, 1, true) := by kernel_rfl
@[go_sem] theorem Try.pl103_0 : plT Try.prog 103 0 = some 0 := by kernel_rfl
@[go_sem] theorem Try.pl103_1 : plT Try.prog 103 1 = some 1 := by kernel_rfl
@[go_sem] theorem Try.pl103_2 : plT Try.prog 103 2 = some 2 := by kernel_rfl
@[go_sem] theorem Try.pl103_3 : plT Try.prog 103 3 = some 3 := by kernel_rfl
@[go_sem] theorem Try.pl103_4 : plT Try.prog 103 4 = some 4 := by kernel_rfl
@[go_sem] theorem Try.pl103_5 : plT Try.prog 103 5 = some 5 := by kernel_rfl
@[go_sem] theorem Try.pl103_6 : plT Try.prog 103 6 = some 6 := by kernel_rfl
@[go_sem] theorem Try.plk103 : plOk Try.prog 103 = true := by kernel_rfl
@[go_sem] theorem Try.info103 : infoT Try.prog 103 = some (7, 168, [.val (.slice none 0 0), .val (.slice none 0 0), .val (.slice none 0 0), .val (.slice none 0 0), .val (.slice none 0 0), .val (.slice none 0 0), .val (.slice none 0 0)]) := by kernel_rfl
@[go_sem] theorem Try.cof103 : Try.prog.cellsOf 103 = 7 := by kernel_rfl
@[go_sem] theorem Try.kind104 : kindT Try.prog 104 = some none := by kernel_rfl
@[go_sem] theorem Try.cof104 : Try.prog.cellsOf 104 = 1 := by kernel_rfl
@[go_sem] theorem Try.kind105 : kindT Try.prog 105 = some none := by kernel_rfl
@[go_sem] theorem Try.elem105 : elemT Try.prog 105 = none := by kernel_rfl
@[go_sem] theorem Try.map105 : mapT Try.prog 105 = true := by kernel_rfl
@[go_sem] theorem Try.ismap105 : isMapT Try.prog 105 = true := by kernel_rfl
@[go_sem] theorem Try.info105 : infoT Try.prog 105 = some (1, 8, [.val (.map none)]) := by kernel_rfl
@[go_sem] theorem Try.cof105 : Try.prog.cellsOf 105 = 1 := by kernel_rfl
@[go_sem] theorem Try.kind106 : kindT Try.prog 106 = some none := by kernel_rfl
@[go_sem] theorem Try.elem106 : elemT Try.prog 106 = none := by kernel_rfl
@[go_sem] theorem Try.map106 : mapT Try.prog 106 = true := by kernel_rfl
@[go_sem] theorem Try.ismap106 : isMapT Try.prog 106 = true := by kernel_rfl
@[go_sem] theorem Try.info106 : infoT Try.prog 106 = some (1, 8, [.val (.map none)]) := by kernel_rfl
@[go_sem] theorem Try.cof106 : Try.prog.cellsOf 106 = 1 := by kernel_rfl
@[go_sem] theorem Try.kind107 : kindT Try.prog 107 = some none := by kernel_rfl
@[go_sem] theorem Try.cof107 : Try.prog.cellsOf 107 = 1 := by kernel_rfl
@[go_sem] theorem Try.kind108 : kindT Try.prog 108 = some none := by kernel_rfl
@[go_sem] theorem Try.cof108 : Try.prog.cellsOf 108 = 1 := by kernel_rfl
@[go_sem] theorem Try.kind109 : kindT Try.prog 109 = some none := by kernel_rfl
@[go_sem] theorem Try.elem109 : elemT Try.prog 109 = some 112 := by kernel_rfl
@[go_sem] theorem Try.info109 : infoT Try.prog 109 = some (1, 24, [.val (.slice none 0 0)]) := by kernel_rfl
@[go_sem] theorem Try.cof109 : Try.prog.cellsOf 109 = 1 := by kernel_rfl
theorem Try.und109 : Try.prog.underlying 109 = some (.slice 112) := by kernel_rfl
@[go_sem] theorem Try.kind110 : kindT Try.prog 110 = some none := by kernel_rfl
@[go_sem] theorem Try.cof110 : Try.prog.cellsOf 110 = 1 := by kernel_rfl
@[go_sem] theorem Try.kind111 : kindT Try.prog 111 = some (some 2) := by kernel_rfl
@[go_sem] theorem Try.fld111_0 : fldT Try.prog 111 0 = some 0 := by kernel_rfl
@[go_sem] theorem Try.fl1111_0 : fld1T Try.prog 111 0 = some 0 := by kernel_rfl
@[go_sem] theorem Try.pl111_0 : plT Try.prog 111 0 = some 0 := by kernel_rfl
@[go_sem] theorem Try.fld111_1 : fldT Try.prog 111 1 = some 1 := by kernel_rfl
@[go_sem] theorem Try.fl1111_1 : fld1T Try.prog 111 1 = some 1 := by kernel_rfl
@[go_sem] theorem Try.pl111_1 : plT Try.prog 111 1 = some 1 := by kernel_rfl
@[go_sem] theorem Try.plk111 : plOk Try.prog 111 = true := by kernel_rfl
@[go_sem] theorem Try.info111 : infoT Try.prog 111 = some (2, 32, [.val (.int .i64 0), .val (.slice none 0 0)]) := by kernel_rfl
@[go_sem] theorem Try.cof111 : Try.prog.cellsOf 111 = 2 := by kernel_rfl
@[go_sem] theorem Try.kind112 : kindT Try.prog 112 = some (some 2) := by kernel_rfl
@[go_sem] theorem Try.fld112_0 : fldT Try.prog 112 0 = some 0 := by kernel_rfl
@[go_sem] theorem Try.fl1112_0 : fld1T Try.prog 112 0 = some 0 := by kernel_rfl
@[go_sem] theorem Try.pl112_0 : plT Try.prog 112 0 = some 0 := by kernel_rfl
@[go_sem] theorem Try.fld112_1 : fldT Try.prog 112 1 = some 1 := by kernel_rfl
@[go_sem] theorem Try.fl1112_1 : fld1T Try.prog 112 1 = some 1 := by kernel_rfl
@[go_sem] theorem Try.pl112_1 : plT Try.prog 112 1 = some 1 := by kernel_rfl
@[go_sem] theorem Try.plk112 : plOk Try.prog 112 = true := by kernel_rfl
@[go_sem] theorem Try.info112 : infoT Try.prog 112 = some (2, 32, [.val (.int .i64 0), .val (.slice none 0 0)]) := by kernel_rfl
@[go_sem] theorem Try.cof112 : Try.prog.cellsOf 112 = 2 := by kernel_rfl
@[go_sem] theorem Try.kind113 : kindT Try.prog 113 = some none := by kernel_rfl
@[go_sem] theorem Try.cof113 : Try.prog.cellsOf 113 = 1 := by kernel_rfl
@[go_sem] theorem Try.kind114 : kindT Try.prog 114 = some none := by kernel_rfl
@[go_sem] theorem Try.cof114 : Try.prog.cellsOf 114 = 1 := by kernel_rfl
@[go_sem] theorem Try.kind115 : kindT Try.prog 115 = some none := by kernel_rfl
@[go_sem] theorem Try.cof115 : Try.prog.cellsOf 115 = 1 := by kernel_rfl
@[go_sem] theorem Try.kind116 : kindT Try.prog 116 = some none := by kernel_rfl
@[go_sem] theorem Try.cof116 : Try.prog.cellsOf 116 = 1 := by kernel_rfl
@[go_sem] theorem Try.kind117 : kindT Try.prog 117 = some none := by kernel_rfl
@[go_sem] theorem Try.cof117 : Try.prog.cellsOf 117 = 1 := by kernel_rfl
@[go_sem] theorem Try.kind118 : kindT Try.prog 118 = some none := by kernel_rfl
@[go_sem] theorem Try.cof118 : Try.prog.cellsOf 118 = 1 := by kernel_rfl
@[go_sem] theorem Try.kind119 : kindT Try.prog 119 = some none := by kernel_rfl
@[go_sem] theorem Try.cof119 : Try.prog.cellsOf 119 = 1 := by kernel_rfl
@[go_sem] theorem Try.kind120 : kindT Try.prog 120 = some none := by kernel_rfl
@[go_sem] theorem Try.cof120 : Try.prog.cellsOf 120 = 1 := by kernel_rfl
@[go_sem] theorem Try.kind121 : kindT Try.prog 121 = some none := by kernel_rfl
@[go_sem] theorem Try.cof121 : Try.prog.cellsOf 121 = 1 := by kernel_rfl
@[go_sem] theorem Try.kind122 : kindT Try.prog 122 = some none := by kernel_rfl
@[go_sem] theorem Try.cof122 : Try.prog.cellsOf 122 = 1 := by kernel_rfl
@[go_sem] theorem Try.kind123 : kindT Try.prog 123 = some none := by kernel_rfl
@[go_sem] theorem Try.cof123 : Try.prog.cellsOf 123 = 1 := by kernel_rfl
@[go_sem] theorem Try.kind124 : kindT Try.prog 124 = some none := by kernel_rfl
@[go_sem] theorem Try.cof124 : Try.prog.cellsOf 124 = 1 := by kernel_rfl
@[go_sem] theorem Try.kind125 : kindT Try.prog 125 = some none := by kernel_rfl
@[go_sem] theorem Try.elem125 : elemT Try.prog 125 = none := by kernel_rfl
@[go_sem] theorem Try.cof125 : Try.prog.cellsOf 125 = 1 := by kernel_rfl
@[go_sem] theorem Try.kind126 : kindT Try.prog 126 = some none := by kernel_rfl
@[go_sem] theorem Try.cof126 : Try.prog.cellsOf 126 = 1 := by kernel_rfl
@[go_sem] theorem Try.kind127 : kindT Try.prog 127 = some none := by kernel_rfl
@[go_sem] theorem Try.cof127 : Try.prog.cellsOf 127 = 1 := by kernel_rfl
@[go_sem] theorem Try.kind128 : kindT Try.prog 128 = some none := by kernel_rfl
@[go_sem] theorem Try.cof128 : Try.prog.cellsOf 128 = 1 := by kernel_rfl
@[go_sem] theorem Try.kind129 : kindT Try.prog 129 = some none := by kernel_rfl
@[go_sem] theorem Try.cof129 : Try.prog.cellsOf 129 = 1 := by kernel_rfl
@[go_sem] theorem Try.kind130 : kindT Try.prog 130 = some none := by kernel_rfl
@[go_sem] theorem Try.cof130 : Try.prog.cellsOf 130 = 1 := by kernel_rfl
@[go_sem] theorem Try.kind131 : kindT Try.prog 131 = some none := by kernel_rfl
@[go_sem] theorem Try.cof131 : Try.prog.cellsOf 131 = 1 := by kernel_rfl
@[go_sem] theorem Try.kind132 : kindT Try.prog 132 = some none := by kernel_rfl
@[go_sem] theorem Try.cof132 : Try.prog.cellsOf 132 = 1 := by kernel_rfl
@[go_sem] theorem Try.kind133 : kindT Try.prog 133 = some none := by kernel_rfl
@[go_sem] theorem Try.cof133 : Try.prog.cellsOf 133 = 1 := by kernel_rfl
@[go_sem] theorem Try.kind134 : kindT Try.prog 134 = some none := by kernel_rfl
@[go_sem] theorem Try.cof134 : Try.prog.cellsOf 134 = 1 := by kernel_rfl
@[go_sem] theorem Try.kind135 : kindT Try.prog 135 = some (some 3) := by kernel_rfl
@[go_sem] theorem Try.fld135_0 : fldT Try.prog 135 0 = some 0 := by kernel_rfl
@[go_sem] theorem Try.fl1135_0 : fld1T Try.prog 135 0 = some 0 := by kernel_rfl
@[go_sem] theorem Try.pl135_0 : plT Try.prog 135 0 = some 0 := by kernel_rfl
@[go_sem] theorem Try.fld135_1 : fldT Try.prog 135 1 = some 1 := by kernel_rfl
@[go_sem] theorem Try.fl1135_1 : fld1T Try.prog 135 1 = some 1 := by kernel_rfl
@[go_sem] theorem Try.pl135_1 : plT Try.prog 135 1 = some 1 := by kernel_rfl
@[go_sem] theorem Try.fld135_2 : fldT Try.prog 135 2 = some 2 := by kernel_rfl
@[go_sem] theorem Try.fl1135_2 : fld1T Try.prog 135 2 = some 2 := by kernel_rfl
@[go_sem] theorem Try.pl135_2 : plT Try.prog 135 2 = some 2 := by kernel_rfl
@[go_sem] theorem Try.plk135 : plOk Try.prog 135 = true := by kernel_rfl
@[go_sem] theorem Try.info135 : infoT Try.prog 135 = some (3, 40, [.val (.slice none 0 0), .val (.int .i64 0), .val (.int .u64 0)]) := by kernel_rfl
@[go_sem] theorem Try.cof135 : Try.prog.cellsOf 135 = 3 := by kernel_rfl
@[go_sem] theorem Try.kind136 : kindT Try.prog 136 = some (some 3) := by kernel_rfl
@[go_sem] theorem Try.fld136_0 : fldT Try.prog 136 0 = some 0 := by kernel_rfl
@[go_sem] theorem Try.fl1136_0 : fld1T Try.prog 136 0 = some 0 := by kernel_rfl
@[go_sem] theorem Try.pl136_0 : plT Try.prog 136 0 = some 0 := by kernel_rfl
@[go_sem] theorem Try.fld136_1 : fldT Try.prog 136 1 = some 1 := by kernel_rfl
@[go_sem] theorem Try.fl1136_1 : fld1T Try.prog 136 1 = some 1 := by kernel_rfl
@[go_sem] theorem Try.pl136_1 : plT Try.prog 136 1 = some 1 := by kernel_rfl
@[go_sem] theorem Try.fld136_2 : fldT Try.prog 136 2 = some 2 := by kernel_rfl
@[go_sem] theorem Try.fl1136_2 : fld1T Try.prog 136 2 = some 2 := by kernel_rfl
@[go_sem] theorem Try.pl136_2 : plT Try.prog 136 2 = some 2 := by kernel_rfl
@[go_sem] theorem Try.plk136 : plOk Try.prog 136 = true := by kernel_rfl
@[go_sem] theorem Try.info136 : infoT Try.prog 136 = some (3, 40, [.val (.slice none 0 0), .val (.int .i64 0), .val (.int .u64 0)]) := by kernel_rfl
@[go_sem] theorem Try.cof136 : Try.prog.cellsOf 136 = 3 := by kernel_rfl
@[go_sem] theorem Try.kind137 : kindT Try.prog 137 = some none := by kernel_rfl
@[go_sem] theorem Try.cof137 : Try.prog.cellsOf 137 = 1 := by kernel_rfl
@[go_sem] theorem Try.kind138 : kindT Try.prog 138 = some none := by kernel_rfl
@[go_sem] theorem Try.cof138 : Try.prog.cellsOf 138 = 1 := by kernel_rfl
@[go_sem] theorem Try.kind139 : kindT Try.prog 139 = some none := by kernel_rfl
@[go_sem] theorem Try.cof139 : Try.prog.cellsOf 139 = 1 := by kernel_rfl
@[go_sem] theorem Try.kind140 : kindT Try.prog 140 = some none := by kernel_rfl
@[go_sem] theorem Try.elem140 : elemT Try.prog 140 = some 172 := by kernel_rfl
@[go_sem] theorem Try.info140 : infoT Try.prog 140 = some (1, 24, [.val (.slice none 0 0)]) := by kernel_rfl
@[go_sem] theorem Try.cof140 : Try.prog.cellsOf 140 = 1 := by kernel_rfl
theorem Try.und140 : Try.prog.underlying 140 = some (.slice 172) := by kernel_rfl
@[go_sem] theorem Try.kind141 : kindT Try.prog 141 = some none := by kernel_rfl
@[go_sem] theorem Try.cof141 : Try.prog.cellsOf 141 = 1 := by kernel_rfl
@[go_sem] theorem Try.kind142 : kindT Try.prog 142 = some none := by kernel_rfl
@[go_sem] theorem Try.cof142 : Try.prog.cellsOf 142 = 1 := by kernel_rfl
@[go_sem] theorem Try.kind143 : kindT Try.prog 143 = some none := by kernel_rfl
@[go_sem] theorem Try.cof143 : Try.prog.cellsOf 143 = 1 := by kernel_rfl
@[go_sem] theorem Try.kind144 : kindT Try.prog 144 = some none := by kernel_rfl
@[go_sem] theorem Try.cof144 : Try.prog.cellsOf 144 = 1 := by kernel_rfl
@[go_sem] theorem Try.kind145 : kindT Try.prog 145 = some none := by kernel_rfl
@[go_sem] theorem Try.cof145 : Try.prog.cellsOf 145 = 1 := by kernel_rfl
@[go_sem] theorem Try.kind146 : kindT Try.prog 146 = some none := by kernel_rfl
@[go_sem] theorem Try.cof146 : Try.prog.cellsOf 146 = 1 := by kernel_rfl
@[go_sem] theorem Try.kind147 : kindT Try.prog 147 = some none := by kernel_rfl
@[go_sem] theorem Try.cof147 : Try.prog.cellsOf 147 = 1 := by kernel_rfl
@[go_sem] theorem Try.kind148 : kindT Try.prog 148 = some none := by kernel_rfl
@[go_sem] theorem Try.cof148 : Try.prog.cellsOf 148 = 1 := by kernel_rfl
@[go_sem] theorem Try.kind149 : kindT Try.prog 149 = some none := by kernel_rfl
@[go_sem] theorem Try.cof149 : Try.prog.cellsOf 149 = 1 := by kernel_rfl
@[go_sem] theorem Try.kind150 : kindT Try.prog 150 = some none := by kernel_rfl
@[go_sem] theorem Try.cof150 : Try.prog.cellsOf 150 = 1 := by kernel_rfl
@[go_sem] theorem Try.kind151 : kindT Try.prog 151 = some none := by kernel_rfl
@[go_sem] theorem Try.cof151 : Try.prog.cellsOf 151 = 1 := by kernel_rfl
@[go_sem] theorem Try.kind152 : kindT Try.prog 152 = some none := by kernel_rfl
@[go_sem] theorem Try.cof152 : Try.prog.cellsOf 152 = 1 := by kernel_rfl
@[go_sem] theorem Try.kind153 : kindT Try.prog 153 = some none := by kernel_rfl
@[go_sem] theorem Try.cof153 : Try.prog.cellsOf 153 = 1 := by kernel_rfl
@[go_sem] theorem Try.kind154 : kindT Try.prog 154 = some none := by kernel_rfl
@[go_sem] theorem Try.cof154 : Try.prog.cellsOf 154 = 1 := by kernel_rfl
@[go_sem] theorem Try.kind155 : kindT Try.prog 155 = some (some 3) := by kernel_rfl
@[go_sem] theorem Try.elem155 : elemT Try.prog 155 = none := by kernel_rfl
@[go_sem] theorem Try.arr155 : arrT Try.prog 155 = some (3, 1, true) := by kernel_rfl
@[go_sem] theorem Try.pl155_0 : plT Try.prog 155 0 = some 0 := by kernel_rfl
@[go_sem] theorem Try.pl155_1 : plT Try.prog 155 1 = some 1 := by kernel_rfl
@[go_sem] theorem Try.pl155_2 : plT Try.prog 155 2 = some 2 := by kernel_rfl
@[go_sem] theorem Try.plk155 : plOk Try.prog 155 = true := by kernel_rfl
@[go_sem] theorem Try.info155 : infoT Try.prog 155 = some (3, 24, [.val (.int .i64 0), .val (.int .i64 0), .val (.int .i64 0)]) := by kernel_rfl
@[go_sem] theorem Try.cof155 : Try.prog.cellsOf 155 = 3 := by kernel_rfl
@[go_sem] theorem Try.kind156 : kindT Try.prog 156 = some (some 3) := by kernel_rfl
@[go_sem] theorem Try.elem156 : elemT Try.prog 156 = none := by kernel_rfl
@[go_sem] theorem Try.arr156 : arrT Try.prog 156 = some (3, 1, true) := by kernel_rfl
@[go_sem] theorem Try.pl156_0 : plT Try.prog 156 0 = some 0 := by kernel_rfl
@[go_sem] theorem Try.pl156_1 : plT Try.prog 156 1 = some 1 := by kernel_rfl
@[go_sem] theorem Try.pl156_2 : plT Try.prog 156 2 = some 2 := by kernel_rfl
@[go_sem] theorem Try.plk156 : plOk Try.prog 156 = true := by kernel_rfl
@[go_sem] theorem Try.info156 : infoT Try.prog 156 = some (3, 24, [.val (.int .i64 0), .val (.int .i64 0), .val (.int .i64 0)]) := by kernel_rfl
@[go_sem] theorem Try.cof156 : Try.prog.cellsOf 156 = 3 := by kernel_rfl
@[go_sem] theorem Try.kind157 : kindT Try.prog 157 = some none := by kernel_rfl
@[go_sem] theorem Try.cof157 : Try.prog.cellsOf 157 = 1 := by kernel_rfl
@[go_sem] theorem Try.kind158 : kindT Try.prog 158 = some none := by kernel_rfl
@[go_sem] theorem Try.cof158 : Try.prog.cellsOf 158 = 1 := by kernel_rfl
@[go_sem] theorem Try.kind159 : kindT Try.prog 159 = some none := by kernel_rfl
@[go_sem] theorem Try.cof159 : Try.prog.cellsOf 159 = 1 := by kernel_rfl
@[go_sem] theorem Try.kind160 : kindT Try.prog 160 = some none := by kernel_rfl
@[go_sem] theorem Try.cof160 : Try.prog.cellsOf 160 = 1 := by kernel_rfl
@[go_sem] theorem Try.kind161 : kindT Try.prog 161 = some none := by kernel_rfl
@[go_sem] theorem Try.cof161 : Try.prog.cellsOf 161 = 1 := by kernel_rfl
@[go_sem] theorem Try.kind162 : kindT Try.prog 162 = some none := by kernel_rfl
@[go_sem] theorem Try.cof162 : Try.prog.cellsOf 162 = 1 := by kernel_rfl
@[go_sem] theorem Try.kind163 : kindT Try.prog 163 = some (some 3) := by kernel_rfl
@[go_sem] theorem Try.fld163_0 : fldT Try.prog 163 0 = some 0 := by kernel_rfl
@[go_sem] theorem Try.fl1163_0 : fld1T Try.prog 163 0 = some 0 := by kernel_rfl
@[go_sem] theorem Try.pl163_0 : plT Try.prog 163 0 = some 0 := by kernel_rfl
@[go_sem] theorem Try.fld163_1 : fldT Try.prog 163 1 = some 1 := by kernel_rfl
@[go_sem] theorem Try.fl1163_1 : fld1T Try.prog 163 1 = some 1 := by kernel_rfl
@[go_sem] theorem Try.pl163_1 : plT Try.prog 163 1 = some 1 := by kernel_rfl
@[go_sem] theorem Try.fld163_2 : fldT Try.prog 163 2 = some 2 := by kernel_rfl
@[go_sem] theorem Try.fl1163_2 : fld1T Try.prog 163 2 = some 2 := by kernel_rfl
@[go_sem] theorem Try.pl163_2 : plT Try.prog 163 2 = some 2 := by kernel_rfl
@[go_sem] theorem Try.plk163 : plOk Try.prog 163 = true := by kernel_rfl
@[go_sem] theorem Try.info163 : infoT Try.prog 163 = some (3, 40, [.val (.slice none 0 0), .val (.int .i64 0), .val (.int .u64 0)]) := by kernel_rfl
@[go_sem] theorem Try.cof163 : Try.prog.cellsOf 163 = 3 := by kernel_rfl
@[go_sem] theorem Try.kind164 : kindT Try.prog 164 = some (some 3) := by kernel_rfl
@[go_sem] theorem Try.fld164_0 : fldT Try.prog 164 0 = some 0 := by kernel_rfl
@[go_sem] theorem Try.fl1164_0 : fld1T Try.prog 164 0 = some 0 := by kernel_rfl
@[go_sem] theorem Try.pl164_0 : plT Try.prog 164 0 = some 0 := by kernel_rfl
@[go_sem] theorem Try.fld164_1 : fldT Try.prog 164 1 = some 1 := by kernel_rfl
@[go_sem] theorem Try.fl1164_1 : fld1T Try.prog 164 1 = some 1 := by kernel_rfl
@[go_sem] theorem Try.pl164_1 : plT Try.prog 164 1 = some 1 := by kernel_rfl
@[go_sem] theorem Try.fld164_2 : fldT Try.prog 164 2 = some 2 := by kernel_rfl
@[go_sem] theorem Try.fl1164_2 : fld1T Try.prog 164 2 = some 2 := by kernel_rfl
@[go_sem] theorem Try.pl164_2 : plT Try.prog 164 2 = some 2 := by kernel_rfl
@[go_sem] theorem Try.plk164 : plOk Try.prog 164 = true := by kernel_rfl
@[go_sem] theorem Try.info164 : infoT Try.prog 164 = some (3, 40, [.val (.slice none 0 0), .val (.int .i64 0), .val (.int .u64 0)]) := by kernel_rfl
@[go_sem] theorem Try.cof164 : Try.prog.cellsOf 164 = 3 := by kernel_rfl
@[go_sem] theorem Try.kind165 : kindT Try.prog 165 = some none := by kernel_rfl
@[go_sem] theorem Try.cof165 : Try.prog.cellsOf 165 = 1 := by kernel_rfl
@[go_sem] theorem Try.kind166 : kindT Try.prog 166 = some none := by kernel_rfl
@[go_sem] theorem Try.cof166 : Try.prog.cellsOf 166 = 1 := by kernel_rfl
@[go_sem] theorem Try.kind167 : kindT Try.prog 167 = some none := by kernel_rfl
@[go_sem] theorem Try.cof167 : Try.prog.cellsOf 167 = 1 := by kernel_rfl
@[go_sem] theorem Try.kind168 : kindT Try.prog 168 = some none := by kernel_rfl
@[go_sem] theorem Try.info168 : infoT Try.prog 168 = some (1, 8, [.val (.int .u64 0)]) := by kernel_rfl
@[go_sem] theorem Try.cof168 : Try.prog.cellsOf 168 = 1 := by kernel_rfl
@[go_sem] theorem Try.und168 : Try.prog.underlying 168 = some (.int .u64) := by kernel_rfl
@[go_sem] theorem Try.kind169 : kindT Try.prog 169 = some none := by kernel_rfl
@[go_sem] theorem Try.cof169 : Try.prog.cellsOf 169 = 1 := by kernel_rfl
@[go_sem] theorem Try.kind170 : kindT Try.prog 170 = some none := by kernel_rfl
@[go_sem] theorem Try.cof170 : Try.prog.cellsOf 170 = 1 := by kernel_rfl
@[go_sem] theorem Try.kind171 : kindT Try.prog 171 = some none := by kernel_rfl
@[go_sem] theorem Try.cof171 : Try.prog.cellsOf 171 = 1 := by kernel_rfl
@[go_sem] theorem Try.kind172 : kindT Try.prog 172 = some (some 2) := by kernel_rfl
@[go_sem] theorem Try.fld172_0 : fldT Try.prog 172 0 = some 0 := by kernel_rfl
@[go_sem] theorem Try.fl1172_0 : fld1T Try.prog 172 0 = some 0 := by kernel_rfl
@[go_sem] theorem Try.pl172_0 : plT Try.prog 172 0 = some 0 := by kernel_rfl
@[go_sem] theorem Try.fld172_1 : fldT Try.prog 172 1 = some 1 := by kernel_rfl
@[go_sem] theorem Try.fl1172_1 : fld1T Try.prog 172 1 = some 1 := by kernel_rfl
@[go_sem] theorem Try.pl172_1 : plT Try.prog 172 1 = some 1 := by kernel_rfl
@[go_sem] theorem Try.plk172 : plOk Try.prog 172 = true := by kernel_rfl
@[go_sem] theorem Try.info172 : infoT Try.prog 172 = some (2, 32, [.val (.int .i64 0), .val (.slice none 0 0)]) := by kernel_rfl
@[go_sem] theorem Try.cof172 : Try.prog.cellsOf 172 = 2 := by kernel_rfl
@[go_sem] theorem Try.kind173 : kindT Try.prog 173 = some none := by kernel_rfl
@[go_sem] theorem Try.cof173 : Try.prog.cellsOf 173 = 1 := by kernel_rfl
@[go_sem] theorem Try.kind174 : kindT Try.prog 174 = some none := by kernel_rfl
@[go_sem] theorem Try.cof174 : Try.prog.cellsOf 174 = 1 := by kernel_rfl
@[go_sem] theorem Try.kind175 : kindT Try.prog 175 = some none := by kernel_rfl
@[go_sem] theorem Try.cof175 : Try.prog.cellsOf 175 = 1 := by kernel_rfl
@[go_sem] theorem Try.kind176 : kindT Try.prog 176 = some none := by kernel_rfl
@[go_sem] theorem Try.cof176 : Try.prog.cellsOf 176 = 1 := by kernel_rfl
@[go_sem] theorem Try.kind177 : kindT Try.prog 177 = some none := by kernel_rfl
@[go_sem] theorem Try.cof177 : Try.prog.cellsOf 177 = 1 := by kernel_rfl
@[go_sem] theorem Try.kind178 : kindT Try.prog 178 = some none := by kernel_rfl
@[go_sem] theorem Try.cof178 : Try.prog.cellsOf 178 = 1 := by kernel_rfl
@[go_sem] theorem Try.kind179 : kindT Try.prog 179 = some none := by kernel_rfl
@[go_sem] theorem Try.cof179 : Try.prog.cellsOf 179 = 1 := by kernel_rfl
@[go_sem] theorem Try.kind180 : kindT Try.prog 180 = some none := by kernel_rfl
@[go_sem] theorem Try.cof180 : Try.prog.cellsOf 180 = 1 := by kernel_rfl
@[go_sem] theorem Try.kind181 : kindT Try.prog 181 = some none := by kernel_rfl
@[go_sem] theorem Try.cof181 : Try.prog.cellsOf 181 = 1 := by kernel_rfl
@[go_sem] theorem Try.kind182 : kindT Try.prog 182 = some none := by kernel_rfl
@[go_sem] theorem Try.cof182 : Try.prog.cellsOf 182 = 1 := by kernel_rfl
@[go_sem] theorem Try.kind183 : kindT Try.prog 183 = some none := by kernel_rfl
@[go_sem] theorem Try.cof183 : Try.prog.cellsOf 183 = 1 := by kernel_rfl
@[go_sem] theorem Try.kind184 : kindT Try.prog 184 = some none := by kernel_rfl
@[go_sem] theorem Try.cof184 : Try.prog.cellsOf 184 = 1 := by kernel_rfl
@[go_sem] theorem Try.kind185 : kindT Try.prog 185 = some (some 4) := by kernel_rfl
@[go_sem] theorem Try.fld185_0 : fldT Try.prog 185 0 = some 0 := by kernel_rfl
@[go_sem] theorem Try.fl1185_0 : fld1T Try.prog 185 0 = some 0 := by kernel_rfl
@[go_sem] theorem Try.pl185_0 : plT Try.prog 185 0 = some 0 := by kernel_rfl
@[go_sem] theorem Try.fld185_1 : fldT Try.prog 185 1 = some 1 := by kernel_rfl
@[go_sem] theorem Try.fl1185_1 : fld1T Try.prog 185 1 = some 1 := by kernel_rfl
@[go_sem] theorem Try.pl185_1 : plT Try.prog 185 1 = some 1 := by kernel_rfl
@[go_sem] theorem Try.fld185_2 : fldT Try.prog 185 2 = some 2 := by kernel_rfl
@[go_sem] theorem Try.fl1185_2 : fld1T Try.prog 185 2 = some 2 := by kernel_rfl
@[go_sem] theorem Try.pl185_2 : plT Try.prog 185 2 = some 2 := by kernel_rfl
@[go_sem] theorem Try.fld185_3 : fldT Try.prog 185 3 = some 3 := by kernel_rfl
@[go_sem] theorem Try.fl1185_3 : fld1T Try.prog 185 3 = some 3 := by kernel_rfl
@[go_sem] theorem Try.pl185_3 : plT Try.prog 185 3 = some 3 := by kernel_rfl
@[go_sem] theorem Try.plk185 : plOk Try.prog 185 = true := by kernel_rfl
@[go_sem] theorem Try.cof185 : Try.prog.cellsOf 185 = 4 := by kernel_rfl
@[go_sem] theorem Try.kind186 : kindT Try.prog 186 = some (some 4) := by kernel_rfl
@[go_sem] theorem Try.fld186_0 : fldT Try.prog 186 0 = some 0 := by kernel_rfl
@[go_sem] theorem Try.fl1186_0 : fld1T Try.prog 186 0 = some 0 := by kernel_rfl
@[go_sem] theorem Try.pl186_0 : plT Try.prog 186 0 = some 0 := by kernel_rfl
@[go_sem] theorem Try.fld186_1 : fldT Try.prog 186 1 = some 1 := by kernel_rfl
@[go_sem] theorem Try.fl1186_1 : fld1T Try.prog 186 1 = some 1 := by kernel_rfl
@[go_sem] theorem Try.pl186_1 : plT Try.prog 186 1 = some 1 := by kernel_rfl
@[go_sem] theorem Try.fld186_2 : fldT Try.prog 186 2 = some 2 := by kernel_rfl
@[go_sem] theorem Try.fl1186_2 : fld1T Try.prog 186 2 = some 2 := by kernel_rfl
@[go_sem] theorem Try.pl186_2 : plT Try.prog 186 2 = some 2 := by kernel_rfl
@[go_sem] theorem Try.fld186_3 : fldT Try.prog 186 3 = some 3 := by kernel_rfl
@[go_sem] theorem Try.fl1186_3 : fld1T Try.prog 186 3 = some 3 := by kernel_rfl
@[go_sem] theorem Try.pl186_3 : plT Try.prog 186 3 = some 3 := by kernel_rfl
@[go_sem] theorem Try.plk186 : plOk Try.prog 186 = true := by kernel_rfl
@[go_sem] theorem Try.cof186 : Try.prog.cellsOf 186 = 4 := by kernel_rfl
@[go_sem] theorem Try.kind187 : kindT Try.prog 187 = some (some 0) := by kernel_rfl
@[go_sem] theorem Try.elem187 : elemT Try.prog 187 = none := by kernel_rfl
@[go_sem] theorem Try.arr187 : arrT Try.prog 187 = some (0, 1, true) := by kernel_rfl
@[go_sem] theorem Try.plk187 : plOk Try.prog 187 = true := by kernel_rfl
@[go_sem] theorem Try.info187 : infoT Try.prog 187 = some (0, 0, []) := by kernel_rfl
@[go_sem] theorem Try.cof187 : Try.prog.cellsOf 187 = 0 := by kernel_rfl
@[go_sem] theorem Try.kind188 : kindT Try.prog 188 = some (some 0) := by kernel_rfl
@[go_sem] theorem Try.plk188 : plOk Try.prog 188 = true := by kernel_rfl
@[go_sem] theorem Try.info188 : infoT Try.prog 188 = some (0, 0, []) := by kernel_rfl
@[go_sem] theorem Try.cof188 : Try.prog.cellsOf 188 = 0 := by kernel_rfl
@[go_sem] theorem Try.kind189 : kindT Try.prog 189 = some (some 0) := by kernel_rfl
@[go_sem] theorem Try.plk189 : plOk Try.prog 189 = true := by kernel_rfl
@[go_sem] theorem Try.info189 : infoT Try.prog 189 = some (0, 0, []) := by kernel_rfl
@[go_sem] theorem Try.cof189 : Try.prog.cellsOf 189 = 0 := by kernel_rfl
@[go_sem] theorem Try.kind190 : kindT Try.prog 190 = some none := by kernel_rfl
@[go_sem] theorem Try.cof190 : Try.prog.cellsOf 190 = 1 := by kernel_rfl
@[go_sem] theorem Try.kind191 : kindT Try.prog 191 = some none := by kernel_rfl
@[go_sem] theorem Try.info191 : infoT Try.prog 191 = some (1, 4, [.val (.int .u32 0)]) := by kernel_rfl
@[go_sem] theorem Try.cof191 : Try.prog.cellsOf 191 = 1 := by kernel_rfl
@[go_sem] theorem Try.und191 : Try.prog.underlying 191 = some (.int .u32) := by kernel_rfl
@[go_sem] theorem Try.kind192 : kindT Try.prog 192 = some none := by kernel_rfl
@[go_sem] theorem Try.info192 : infoT Try.prog 192 = some (1, 1, [.val (.int .u8 0)]) := by kernel_rfl
@[go_sem] theorem Try.cof192 : Try.prog.cellsOf 192 = 1 := by kernel_rfl
@[go_sem] theorem Try.und192 : Try.prog.underlying 192 = some (.int .u8) := by kernel_rfl
@[go_sem] theorem Try.kind193 : kindT Try.prog 193 = some none := by kernel_rfl
@[go_sem] theorem Try.info193 : infoT Try.prog 193 = some (1, 1, [.val (.int .u8 0)]) := by kernel_rfl
@[go_sem] theorem Try.cof193 : Try.prog.cellsOf 193 = 1 := by kernel_rfl
@[go_sem] theorem Try.und193 : Try.prog.underlying 193 = some (.int .u8) := by kernel_rfl
@[go_sem] theorem Try.kind194 : kindT Try.prog 194 = some none := by kernel_rfl
@[go_sem] theorem Try.cof194 : Try.prog.cellsOf 194 = 1 := by kernel_rfl
@[go_sem] theorem Try.kind195 : kindT Try.prog 195 = some none := by kernel_rfl
@[go_sem] theorem Try.elem195 : elemT Try.prog 195 = none := by kernel_rfl
@[go_sem] theorem Try.cof195 : Try.prog.cellsOf 195 = 1 := by kernel_rfl
@[go_sem] theorem Try.kind196 : kindT Try.prog 196 = some none := by kernel_rfl
@[go_sem] theorem Try.info196 : infoT Try.prog 196 = some (1, 4, [.val (.int .i32 0)]) := by kernel_rfl
@[go_sem] theorem Try.cof196 : Try.prog.cellsOf 196 = 1 := by kernel_rfl
@[go_sem] theorem Try.und196 : Try.prog.underlying 196 = some (.int .i32) := by kernel_rfl
@[go_sem] theorem Try.kind197 : kindT Try.prog 197 = some none := by kernel_rfl
@[go_sem] theorem Try.info197 : infoT Try.prog 197 = some (1, 4, [.val (.int .i32 0)]) := by kernel_rfl
@[go_sem] theorem Try.cof197 : Try.prog.cellsOf 197 = 1 := by kernel_rfl
@[go_sem] theorem Try.und197 : Try.prog.underlying 197 = some (.int .i32) := by kernel_rfl
@[go_sem] theorem Try.kind198 : kindT Try.prog 198 = some (some 11) := by kernel_rfl
@[go_sem] theorem Try.fld198_0 : fldT Try.prog 198 0 = some 0 := by kernel_rfl
@[go_sem] theorem Try.fl1198_0 : fld1T Try.prog 198 0 = some 0 := by kernel_rfl
@[go_sem] theorem Try.pl198_0 : plT Try.prog 198 0 = some 0 := by kernel_rfl
@[go_sem] theorem Try.fld198_1 : fldT Try.prog 198 1 = some 1 := by kernel_rfl
@[go_sem] theorem Try.fl1198_1 : fld1T Try.prog 198 1 = some 1 := by kernel_rfl
@[go_sem] theorem Try.pl198_1 : plT Try.prog 198 1 = some 1 := by kernel_rfl
@[go_sem] theorem Try.fld198_2 : fldT Try.prog 198 2 = some 2 := by kernel_rfl
@[go_sem] theorem Try.fl1198_2 : fld1T Try.prog 198 2 = some 2 := by kernel_rfl
@[go_sem] theorem Try.pl198_2 : plT Try.prog 198 2 = some 2 := by kernel_rfl
@[go_sem] theorem Try.fld198_3 : fldT Try.prog 198 3 = some 3 := by kernel_rfl
@[go_sem] theorem Try.fl1198_3 : fld1T Try.prog 198 3 = some 3 := by kernel_rfl
@[go_sem] theorem Try.pl198_3 : plT Try.prog 198 3 = some 3 := by kernel_rfl
@[go_sem] theorem Try.fld198_4 : fldT Try.prog 198 4 = some 4 := by kernel_rfl
@[go_sem] theorem Try.fl1198_4 : fld1T Try.prog 198 4 = some 4 := by kernel_rfl
@[go_sem] theorem Try.pl198_4 : plT Try.prog 198 4 = some 4 := by kernel_rfl
@[go_sem] theorem Try.fld198_5 : fldT Try.prog 198 5 = some 5 := by kernel_rfl
@[go_sem] theorem Try.fl1198_5 : fld1T Try.prog 198 5 = some 5 := by kernel_rfl
@[go_sem] theorem Try.pl198_5 : plT Try.prog 198 5 = some 5 := by kernel_rfl
@[go_sem] theorem Try.fld198_6 : fldT Try.prog 198 6 = some 6 := by kernel_rfl
@[go_sem] theorem Try.fl1198_6 : fld1T Try.prog 198 6 = some 6 := by kernel_rfl
@[go_sem] theorem Try.pl198_6 : plT Try.prog 198 6 = some 6 := by kernel_rfl
@[go_sem] theorem Try.fld198_7 : fldT Try.prog 198 7 = some 7 := by kernel_rfl
@[go_sem] theorem Try.fl1198_7 : fld1T Try.prog 198 7 = some 7 := by kernel_rfl
@[go_sem] theorem Try.pl198_7 : plT Try.prog 198 7 = some 7 := by kernel_rfl
@[go_sem] theorem Try.fld198_8 : fldT Try.prog 198 8 = some 8 := by kernel_rfl
@[go_sem] theorem Try.fl1198_8 : fld1T Try.prog 198 8 = some 8 := by kernel_rfl
@[go_sem] theorem Try.pl198_8 : plT Try.prog 198 8 = some 8 := by kernel_rfl
@[go_sem] theorem Try.fld198_9 : fldT Try.prog 198 9 = some 9 := by kernel_rfl
@[go_sem] theorem Try.fl1198_9 : fld1T Try.prog 198 9 = some 9 := by kernel_rfl
@[go_sem] theorem Try.pl198_9 : plT Try.prog 198 9 = some 9 := by kernel_rfl
@[go_sem] theorem Try.fld198_10 : fldT Try.prog 198 10 = some 10 := by kernel_rfl
@[go_sem] theorem Try.fl1198_10 : fld1T Try.prog 198 10 = some 10 := by kernel_rfl
@[go_sem] theorem Try.pl198_10 : plT Try.prog 198 10 = some 10 := by kernel_rfl
@[go_sem] theorem Try.plk198 : plOk Try.prog 198 = true := by kernel_rfl
@[go_sem] theorem Try.cof198 : Try.prog.cellsOf 198 = 11 := by kernel_rfl
@[go_sem] theorem Try.kind199 : kindT Try.prog 199 = some (some 11) := by kernel_rfl
@[go_sem] theorem Try.fld199_0 : fldT Try.prog 199 0 = some 0 := by kernel_rfl
@[go_sem] theorem Try.fl1199_0 : fld1T Try.prog 199 0 = some 0 := by kernel_rfl
@[go_sem] theorem Try.pl199_0 : plT Try.prog 199 0 = some 0 := by kernel_rfl
@[go_sem] theorem Try.fld199_1 : fldT Try.prog 199 1 = some 1 := by kernel_rfl
@[go_sem] theorem Try.fl1199_1 : fld1T Try.prog 199 1 = some 1 := by kernel_rfl
@[go_sem] theorem Try.pl199_1 : plT Try.prog 199 1 = some 1 := by kernel_rfl
@[go_sem] theorem Try.fld199_2 : fldT Try.prog 199 2 = some 2 := by kernel_rfl
@[go_sem] theorem Try.fl1199_2 : fld1T Try.prog 199 2 = some 2 := by kernel_rfl
@[go_sem] theorem Try.pl199_2 : plT Try.prog 199 2 = some 2 := by kernel_rfl
@[go_sem] theorem Try.fld199_3 : fldT Try.prog 199 3 = some 3 := by kernel_rfl
@[go_sem] theorem Try.fl1199_3 : fld1T Try.prog 199 3 = some 3 := by kernel_rfl
@[go_sem] theorem Try.pl199_3 : plT Try.prog 199 3 = some 3 := by kernel_rfl
@[go_sem] theorem Try.fld199_4 : fldT Try.prog 199 4 = some 4 := by kernel_rfl
@[go_sem] theorem Try.fl1199_4 : fld1T Try.prog 199 4 = some 4 := by kernel_rfl
@[go_sem] theorem Try.pl199_4 : plT Try.prog 199 4 = some 4 := by kernel_rfl
@[go_sem] theorem Try.fld199_5 : fldT Try.prog 199 5 = some 5 := by kernel_rfl
@[go_sem] theorem Try.fl1199_5 : fld1T Try.prog 199 5 = some 5 := by kernel_rfl
@[go_sem] theorem Try.pl199_5 : plT Try.prog 199 5 = some 5 := by kernel_rfl
@[go_sem] theorem Try.fld199_6 : fldT Try.prog 199 6 = some 6 := by kernel_rfl
@[go_sem] theorem Try.fl1199_6 : fld1T Try.prog 199 6 = some 6 := by kernel_rfl
@[go_sem] theorem Try.pl199_6 : plT Try.prog 199 6 = some 6 := by kernel_rfl
@[go_sem] theorem Try.fld199_7 : fldT Try.prog 199 7 = some 7 := by kernel_rfl
@[go_sem] theorem Try.fl1199_7 : fld1T Try.prog 199 7 = some 7 := by kernel_rfl
@[go_sem] theorem Try.pl199_7 : plT Try.prog 199 7 = some 7 := by kernel_rfl
@[go_sem] theorem Try.fld199_8 : fldT Try.prog 199 8 = some 8 := by kernel_rfl
@[go_sem] theorem Try.fl1199_8 : fld1T Try.prog 199 8 = some 8 := by kernel_rfl
@[go_sem] theorem Try.pl199_8 : plT Try.prog 199 8 = some 8 := by kernel_rfl
@[go_sem] theorem Try.fld199_9 : fldT Try.prog 199 9 = some 9 := by kernel_rfl
@[go_sem] theorem Try.fl1199_9 : fld1T Try.prog 199 9 = some 9 := by kernel_rfl
@[go_sem] theorem Try.pl199_9 : plT Try.prog 199 9 = some 9 := by kernel_rfl
@[go_sem] theorem Try.fld199_10 : fldT Try.prog 199 10 = some 10 := by kernel_rfl
@[go_sem] theorem Try.fl1199_10 : fld1T Try.prog 199 10 = some 10 := by kernel_rfl
@[go_sem] theorem Try.pl199_10 : plT Try.prog 199 10 = some 10 := by kernel_rfl
@[go_sem] theorem Try.plk199 : plOk Try.prog 199 = true := by kernel_rfl
@[go_sem] theorem Try.cof199 : Try.prog.cellsOf 199 = 11 := by kernel_rfl
@[go_sem] theorem Try.kind200 : kindT Try.prog 200 = some none := by kernel_rfl
@[go_sem] theorem Try.cof200 : Try.prog.cellsOf 200 = 1 := by kernel_rfl
end Go.Proofs
