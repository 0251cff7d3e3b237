/- Texts of the own layer and contracts, part 4: Tab Srt. -/
import Derived.Test.YtjpeakcapddimaaProg
import Derived.KernelRfl
import Derived.Shelf.SlSortCmp.NoneTotal
import Derived.Test.YtjpeakcapddimaaM3
/- What the loaded program says of its types. Written by a program (gentab.py). -/
namespace Go.Proofs
open Go.Abs
theorem Try.mixed : Try.prog.follows .mixedOrders = true := by kernel_rfl
@[go_sem] theorem Try.kind1 : kindT Try.prog 1 = some none := by kernel_rfl
@[go_sem] theorem Try.cof1 : Try.prog.cellsOf 1 = 1 := by kernel_rfl
@[go_sem] theorem Try.kind2 : kindT Try.prog 2 = some none := by kernel_rfl
@[go_sem] theorem Try.info2 : infoT Try.prog 2 = some (1, 8, [.val (.int .i64 0)]) := by kernel_rfl
@[go_sem] theorem Try.cof2 : Try.prog.cellsOf 2 = 1 := by kernel_rfl
@[go_sem] theorem Try.und2 : Try.prog.underlying 2 = some (.int .i64) := by kernel_rfl
@[go_sem] theorem Try.kind3 : kindT Try.prog 3 = some none := by kernel_rfl
@[go_sem] theorem Try.info3 : infoT Try.prog 3 = some (1, 8, [.val (.int .i64 0)]) := by kernel_rfl
@[go_sem] theorem Try.cof3 : Try.prog.cellsOf 3 = 1 := by kernel_rfl
@[go_sem] theorem Try.und3 : Try.prog.underlying 3 = some (.int .i64) := by kernel_rfl
@[go_sem] theorem Try.kind4 : kindT Try.prog 4 = some none := by kernel_rfl
@[go_sem] theorem Try.isbool4 : boolT Try.prog 4 = true := by kernel_rfl
@[go_sem] theorem Try.info4 : infoT Try.prog 4 = some (1, 1, [.val (.bool false)]) := by kernel_rfl
@[go_sem] theorem Try.cof4 : Try.prog.cellsOf 4 = 1 := by kernel_rfl
@[go_sem] theorem Try.kind5 : kindT Try.prog 5 = some none := by kernel_rfl
@[go_sem] theorem Try.info5 : infoT Try.prog 5 = some (1, 1, [.val (.int .u8 0)]) := by kernel_rfl
@[go_sem] theorem Try.cof5 : Try.prog.cellsOf 5 = 1 := by kernel_rfl
@[go_sem] theorem Try.und5 : Try.prog.underlying 5 = some (.int .u8) := by kernel_rfl
@[go_sem] theorem Try.kind6 : kindT Try.prog 6 = some none := by kernel_rfl
@[go_sem] theorem Try.info6 : infoT Try.prog 6 = some (1, 1, [.val (.int .u8 0)]) := by kernel_rfl
@[go_sem] theorem Try.cof6 : Try.prog.cellsOf 6 = 1 := by kernel_rfl
@[go_sem] theorem Try.und6 : Try.prog.underlying 6 = some (.int .u8) := by kernel_rfl
@[go_sem] theorem Try.kind7 : kindT Try.prog 7 = some (some 4) := by kernel_rfl
@[go_sem] theorem Try.fld7_0 : fldT Try.prog 7 0 = some 0 := by kernel_rfl
@[go_sem] theorem Try.fl17_0 : fld1T Try.prog 7 0 = some 0 := by kernel_rfl
@[go_sem] theorem Try.pl7_0 : plT Try.prog 7 0 = some 0 := by kernel_rfl
@[go_sem] theorem Try.fld7_1 : fldT Try.prog 7 1 = some 1 := by kernel_rfl
@[go_sem] theorem Try.fl17_1 : fld1T Try.prog 7 1 = some 1 := by kernel_rfl
@[go_sem] theorem Try.pl7_1 : plT Try.prog 7 1 = some 1 := by kernel_rfl
@[go_sem] theorem Try.fld7_2 : fldT Try.prog 7 2 = some 2 := by kernel_rfl
@[go_sem] theorem Try.fl17_2 : fld1T Try.prog 7 2 = some 2 := by kernel_rfl
@[go_sem] theorem Try.pl7_2 : plT Try.prog 7 2 = some 2 := by kernel_rfl
@[go_sem] theorem Try.fld7_3 : fldT Try.prog 7 3 = some 3 := by kernel_rfl
@[go_sem] theorem Try.fl17_3 : fld1T Try.prog 7 3 = some 3 := by kernel_rfl
@[go_sem] theorem Try.pl7_3 : plT Try.prog 7 3 = some 3 := by kernel_rfl
@[go_sem] theorem Try.plk7 : plOk Try.prog 7 = true := by kernel_rfl
@[go_sem] theorem Try.info7 : infoT Try.prog 7 = some (4, 24, [.val (.int .i64 0), .val (.int .i64 0), .val (.bool false), .val (.int .u8 0)]) := by kernel_rfl
@[go_sem] theorem Try.cof7 : Try.prog.cellsOf 7 = 4 := by kernel_rfl
@[go_sem] theorem Try.kind8 : kindT Try.prog 8 = some (some 4) := by kernel_rfl
@[go_sem] theorem Try.fld8_0 : fldT Try.prog 8 0 = some 0 := by kernel_rfl
@[go_sem] theorem Try.fl18_0 : fld1T Try.prog 8 0 = some 0 := by kernel_rfl
@[go_sem] theorem Try.pl8_0 : plT Try.prog 8 0 = some 0 := by kernel_rfl
@[go_sem] theorem Try.fld8_1 : fldT Try.prog 8 1 = some 1 := by kernel_rfl
@[go_sem] theorem Try.fl18_1 : fld1T Try.prog 8 1 = some 1 := by kernel_rfl
@[go_sem] theorem Try.pl8_1 : plT Try.prog 8 1 = some 1 := by kernel_rfl
@[go_sem] theorem Try.fld8_2 : fldT Try.prog 8 2 = some 2 := by kernel_rfl
@[go_sem] theorem Try.fl18_2 : fld1T Try.prog 8 2 = some 2 := by kernel_rfl
@[go_sem] theorem Try.pl8_2 : plT Try.prog 8 2 = some 2 := by kernel_rfl
@[go_sem] theorem Try.fld8_3 : fldT Try.prog 8 3 = some 3 := by kernel_rfl
@[go_sem] theorem Try.fl18_3 : fld1T Try.prog 8 3 = some 3 := by kernel_rfl
@[go_sem] theorem Try.pl8_3 : plT Try.prog 8 3 = some 3 := by kernel_rfl
@[go_sem] theorem Try.plk8 : plOk Try.prog 8 = true := by kernel_rfl
@[go_sem] theorem Try.info8 : infoT Try.prog 8 = some (4, 24, [.val (.int .i64 0), .val (.int .i64 0), .val (.bool false), .val (.int .u8 0)]) := by kernel_rfl
@[go_sem] theorem Try.cof8 : Try.prog.cellsOf 8 = 4 := by kernel_rfl
@[go_sem] theorem Try.kind9 : kindT Try.prog 9 = some none := by kernel_rfl
@[go_sem] theorem Try.elem9 : elemT Try.prog 9 = none := by kernel_rfl
@[go_sem] theorem Try.info9 : infoT Try.prog 9 = some (1, 16, [.val (.string ⟨#[]⟩)]) := by kernel_rfl
@[go_sem] theorem Try.cof9 : Try.prog.cellsOf 9 = 1 := by kernel_rfl
theorem Try.und9 : Try.prog.underlying 9 = some (.string) := by kernel_rfl
@[go_sem] theorem Try.kind10 : kindT Try.prog 10 = some none := by kernel_rfl
@[go_sem] theorem Try.elem10 : elemT Try.prog 10 = none := by kernel_rfl
@[go_sem] theorem Try.info10 : infoT Try.prog 10 = some (1, 16, [.val (.string ⟨#[]⟩)]) := by kernel_rfl
@[go_sem] theorem Try.cof10 : Try.prog.cellsOf 10 = 1 := by kernel_rfl
theorem Try.und10 : Try.prog.underlying 10 = some (.string) := by kernel_rfl
@[go_sem] theorem Try.kind11 : kindT Try.prog 11 = some none := by kernel_rfl
@[go_sem] theorem Try.elem11 : elemT Try.prog 11 = none := by kernel_rfl
@[go_sem] theorem Try.info11 : infoT Try.prog 11 = some (1, 16, [.val (.string ⟨#[]⟩)]) := by kernel_rfl
@[go_sem] theorem Try.cof11 : Try.prog.cellsOf 11 = 1 := by kernel_rfl
theorem Try.und11 : Try.prog.underlying 11 = some (.string) := by kernel_rfl
@[go_sem] theorem Try.kind12 : kindT Try.prog 12 = some none := by kernel_rfl
@[go_sem] theorem Try.info12 : infoT Try.prog 12 = some (1, 8, [.val (.int .u64 0)]) := by kernel_rfl
@[go_sem] theorem Try.cof12 : Try.prog.cellsOf 12 = 1 := by kernel_rfl
@[go_sem] theorem Try.und12 : Try.prog.underlying 12 = some (.int .u64) := by kernel_rfl
@[go_sem] theorem Try.kind13 : kindT Try.prog 13 = some (some 2) := by kernel_rfl
@[go_sem] theorem Try.fld13_0 : fldT Try.prog 13 0 = some 0 := by kernel_rfl
@[go_sem] theorem Try.fl113_0 : fld1T Try.prog 13 0 = some 0 := by kernel_rfl
@[go_sem] theorem Try.pl13_0 : plT Try.prog 13 0 = some 0 := by kernel_rfl
@[go_sem] theorem Try.fld13_1 : fldT Try.prog 13 1 = some 1 := by kernel_rfl
@[go_sem] theorem Try.fl113_1 : fld1T Try.prog 13 1 = some 1 := by kernel_rfl
@[go_sem] theorem Try.pl13_1 : plT Try.prog 13 1 = some 1 := by kernel_rfl
@[go_sem] theorem Try.plk13 : plOk Try.prog 13 = true := by kernel_rfl
@[go_sem] theorem Try.info13 : infoT Try.prog 13 = some (2, 24, [.val (.string ⟨#[]⟩), .val (.int .u64 0)]) := by kernel_rfl
@[go_sem] theorem Try.cof13 : Try.prog.cellsOf 13 = 2 := by kernel_rfl
@[go_sem] theorem Try.kind14 : kindT Try.prog 14 = some (some 2) := by kernel_rfl
@[go_sem] theorem Try.fld14_0 : fldT Try.prog 14 0 = some 0 := by kernel_rfl
@[go_sem] theorem Try.fl114_0 : fld1T Try.prog 14 0 = some 0 := by kernel_rfl
@[go_sem] theorem Try.pl14_0 : plT Try.prog 14 0 = some 0 := by kernel_rfl
@[go_sem] theorem Try.fld14_1 : fldT Try.prog 14 1 = some 1 := by kernel_rfl
@[go_sem] theorem Try.fl114_1 : fld1T Try.prog 14 1 = some 1 := by kernel_rfl
@[go_sem] theorem Try.pl14_1 : plT Try.prog 14 1 = some 1 := by kernel_rfl
@[go_sem] theorem Try.plk14 : plOk Try.prog 14 = true := by kernel_rfl
@[go_sem] theorem Try.info14 : infoT Try.prog 14 = some (2, 24, [.val (.string ⟨#[]⟩), .val (.int .u64 0)]) := by kernel_rfl
@[go_sem] theorem Try.cof14 : Try.prog.cellsOf 14 = 2 := by kernel_rfl
@[go_sem] theorem Try.kind15 : kindT Try.prog 15 = some none := by kernel_rfl
@[go_sem] theorem Try.elem15 : elemT Try.prog 15 = none := by kernel_rfl
@[go_sem] theorem Try.cof15 : Try.prog.cellsOf 15 = 1 := by kernel_rfl
@[go_sem] theorem Try.kind16 : kindT Try.prog 16 = some none := by kernel_rfl
@[go_sem] theorem Try.elem16 : elemT Try.prog 16 = none := by kernel_rfl
@[go_sem] theorem Try.cof16 : Try.prog.cellsOf 16 = 1 := by kernel_rfl
@[go_sem] theorem Try.kind17 : kindT Try.prog 17 = some none := by kernel_rfl
@[go_sem] theorem Try.elem17 : elemT Try.prog 17 = none := by kernel_rfl
@[go_sem] theorem Try.cof17 : Try.prog.cellsOf 17 = 1 := by kernel_rfl
@[go_sem] theorem Try.kind18 : kindT Try.prog 18 = some (some 1) := by kernel_rfl
@[go_sem] theorem Try.fld18_0 : fldT Try.prog 18 0 = some 0 := by kernel_rfl
@[go_sem] theorem Try.fl118_0 : fld1T Try.prog 18 0 = some 0 := by kernel_rfl
@[go_sem] theorem Try.pl18_0 : plT Try.prog 18 0 = some 0 := by kernel_rfl
@[go_sem] theorem Try.plk18 : plOk Try.prog 18 = true := by kernel_rfl
@[go_sem] theorem Try.cof18 : Try.prog.cellsOf 18 = 1 := by kernel_rfl
@[go_sem] theorem Try.kind19 : kindT Try.prog 19 = some (some 1) := by kernel_rfl
@[go_sem] theorem Try.fld19_0 : fldT Try.prog 19 0 = some 0 := by kernel_rfl
@[go_sem] theorem Try.fl119_0 : fld1T Try.prog 19 0 = some 0 := by kernel_rfl
@[go_sem] theorem Try.pl19_0 : plT Try.prog 19 0 = some 0 := by kernel_rfl
@[go_sem] theorem Try.plk19 : plOk Try.prog 19 = true := by kernel_rfl
@[go_sem] theorem Try.cof19 : Try.prog.cellsOf 19 = 1 := by kernel_rfl
@[go_sem] theorem Try.kind21 : kindT Try.prog 21 = some none := by kernel_rfl
@[go_sem] theorem Try.info21 : infoT Try.prog 21 = some (1, 4, [.val (.int .i32 0)]) := by kernel_rfl
@[go_sem] theorem Try.cof21 : Try.prog.cellsOf 21 = 1 := by kernel_rfl
@[go_sem] theorem Try.und21 : Try.prog.underlying 21 = some (.int .i32) := by kernel_rfl
@[go_sem] theorem Try.kind22 : kindT Try.prog 22 = some none := by kernel_rfl
@[go_sem] theorem Try.elem22 : elemT Try.prog 22 = some 168 := by kernel_rfl
@[go_sem] theorem Try.info22 : infoT Try.prog 22 = some (1, 24, [.val (.slice none 0 0)]) := by kernel_rfl
@[go_sem] theorem Try.cof22 : Try.prog.cellsOf 22 = 1 := by kernel_rfl
theorem Try.und22 : Try.prog.underlying 22 = some (.slice 168) := by kernel_rfl
@[go_sem] theorem Try.kind23 : kindT Try.prog 23 = some (some 2) := by kernel_rfl
@[go_sem] theorem Try.fld23_0 : fldT Try.prog 23 0 = some 0 := by kernel_rfl
@[go_sem] theorem Try.fl123_0 : fld1T Try.prog 23 0 = some 0 := by kernel_rfl
@[go_sem] theorem Try.pl23_0 : plT Try.prog 23 0 = some 0 := by kernel_rfl
@[go_sem] theorem Try.fld23_1 : fldT Try.prog 23 1 = some 1 := by kernel_rfl
@[go_sem] theorem Try.fl123_1 : fld1T Try.prog 23 1 = some 1 := by kernel_rfl
@[go_sem] theorem Try.pl23_1 : plT Try.prog 23 1 = some 1 := by kernel_rfl
@[go_sem] theorem Try.plk23 : plOk Try.prog 23 = true := by kernel_rfl
@[go_sem] theorem Try.info23 : infoT Try.prog 23 = some (2, 32, [.val (.int .i64 0), .val (.slice none 0 0)]) := by kernel_rfl
@[go_sem] theorem Try.cof23 : Try.prog.cellsOf 23 = 2 := by kernel_rfl
@[go_sem] theorem Try.kind24 : kindT Try.prog 24 = some (some 2) := by kernel_rfl
@[go_sem] theorem Try.fld24_0 : fldT Try.prog 24 0 = some 0 := by kernel_rfl
@[go_sem] theorem Try.fl124_0 : fld1T Try.prog 24 0 = some 0 := by kernel_rfl
@[go_sem] theorem Try.pl24_0 : plT Try.prog 24 0 = some 0 := by kernel_rfl
@[go_sem] theorem Try.fld24_1 : fldT Try.prog 24 1 = some 1 := by kernel_rfl
@[go_sem] theorem Try.fl124_1 : fld1T Try.prog 24 1 = some 1 := by kernel_rfl
@[go_sem] theorem Try.pl24_1 : plT Try.prog 24 1 = some 1 := by kernel_rfl
@[go_sem] theorem Try.plk24 : plOk Try.prog 24 = true := by kernel_rfl
@[go_sem] theorem Try.info24 : infoT Try.prog 24 = some (2, 32, [.val (.int .i64 0), .val (.slice none 0 0)]) := by kernel_rfl
@[go_sem] theorem Try.cof24 : Try.prog.cellsOf 24 = 2 := by kernel_rfl
@[go_sem] theorem Try.kind25 : kindT Try.prog 25 = some none := by kernel_rfl
@[go_sem] theorem Try.cof25 : Try.prog.cellsOf 25 = 1 := by kernel_rfl
@[go_sem] theorem Try.kind26 : kindT Try.prog 26 = some none := by kernel_rfl
@[go_sem] theorem Try.elem26 : elemT Try.prog 26 = some 95 := by kernel_rfl
@[go_sem] theorem Try.info26 : infoT Try.prog 26 = some (1, 24, [.val (.slice none 0 0)]) := by kernel_rfl
@[go_sem] theorem Try.cof26 : Try.prog.cellsOf 26 = 1 := by kernel_rfl
theorem Try.und26 : Try.prog.underlying 26 = some (.slice 95) := by kernel_rfl
@[go_sem] theorem Try.kind27 : kindT Try.prog 27 = some (some 2) := by kernel_rfl
@[go_sem] theorem Try.fld27_0 : fldT Try.prog 27 0 = some 0 := by kernel_rfl
@[go_sem] theorem Try.fl127_0 : fld1T Try.prog 27 0 = some 0 := by kernel_rfl
@[go_sem] theorem Try.pl27_0 : plT Try.prog 27 0 = some 0 := by kernel_rfl
@[go_sem] theorem Try.fld27_1 : fldT Try.prog 27 1 = some 1 := by kernel_rfl
@[go_sem] theorem Try.fl127_1 : fld1T Try.prog 27 1 = some 1 := by kernel_rfl
@[go_sem] theorem Try.pl27_1 : plT Try.prog 27 1 = some 1 := by kernel_rfl
@[go_sem] theorem Try.plk27 : plOk Try.prog 27 = true := by kernel_rfl
@[go_sem] theorem Try.info27 : infoT Try.prog 27 = some (2, 32, [.val (.int .i64 0), .val (.slice none 0 0)]) := by kernel_rfl
@[go_sem] theorem Try.cof27 : Try.prog.cellsOf 27 = 2 := by kernel_rfl
@[go_sem] theorem Try.kind28 : kindT Try.prog 28 = some (some 2) := by kernel_rfl
@[go_sem] theorem Try.fld28_0 : fldT Try.prog 28 0 = some 0 := by kernel_rfl
@[go_sem] theorem Try.fl128_0 : fld1T Try.prog 28 0 = some 0 := by kernel_rfl
@[go_sem] theorem Try.pl28_0 : plT Try.prog 28 0 = some 0 := by kernel_rfl
@[go_sem] theorem Try.fld28_1 : fldT Try.prog 28 1 = some 1 := by kernel_rfl
@[go_sem] theorem Try.fl128_1 : fld1T Try.prog 28 1 = some 1 := by kernel_rfl
@[go_sem] theorem Try.pl28_1 : plT Try.prog 28 1 = some 1 := by kernel_rfl
@[go_sem] theorem Try.plk28 : plOk Try.prog 28 = true := by kernel_rfl
@[go_sem] theorem Try.info28 : infoT Try.prog 28 = some (2, 32, [.val (.int .i64 0), .val (.slice none 0 0)]) := by kernel_rfl
@[go_sem] theorem Try.cof28 : Try.prog.cellsOf 28 = 2 := by kernel_rfl
@[go_sem] theorem Try.kind30 : kindT Try.prog 30 = some none := by kernel_rfl
@[go_sem] theorem Try.cof30 : Try.prog.cellsOf 30 = 1 := by kernel_rfl
@[go_sem] theorem Try.kind31 : kindT Try.prog 31 = some none := by kernel_rfl
@[go_sem] theorem Try.cof31 : Try.prog.cellsOf 31 = 1 := by kernel_rfl
@[go_sem] theorem Try.kind32 : kindT Try.prog 32 = some none := by kernel_rfl
@[go_sem] theorem Try.cof32 : Try.prog.cellsOf 32 = 1 := by kernel_rfl
@[go_sem] theorem Try.kind33 : kindT Try.prog 33 = some none := by kernel_rfl
@[go_sem] theorem Try.cof33 : Try.prog.cellsOf 33 = 1 := by kernel_rfl
@[go_sem] theorem Try.kind34 : kindT Try.prog 34 = some none := by kernel_rfl
@[go_sem] theorem Try.cof34 : Try.prog.cellsOf 34 = 1 := by kernel_rfl
@[go_sem] theorem Try.kind35 : kindT Try.prog 35 = some none := by kernel_rfl
@[go_sem] theorem Try.cof35 : Try.prog.cellsOf 35 = 1 := by kernel_rfl
@[go_sem] theorem Try.kind36 : kindT Try.prog 36 = some none := by kernel_rfl
@[go_sem] theorem Try.cof36 : Try.prog.cellsOf 36 = 1 := by kernel_rfl
@[go_sem] theorem Try.kind37 : kindT Try.prog 37 = some none := by kernel_rfl
@[go_sem] theorem Try.elem37 : elemT Try.prog 37 = some 38 := by kernel_rfl
@[go_sem] theorem Try.info37 : infoT Try.prog 37 = some (1, 24, [.val (.slice none 0 0)]) := by kernel_rfl
@[go_sem] theorem Try.cof37 : Try.prog.cellsOf 37 = 1 := by kernel_rfl
theorem Try.und37 : Try.prog.underlying 37 = some (.slice 38) := by kernel_rfl
@[go_sem] theorem Try.kind38 : kindT Try.prog 38 = some none := by kernel_rfl
@[go_sem] theorem Try.elem38 : elemT Try.prog 38 = some 2 := by kernel_rfl
@[go_sem] theorem Try.info38 : infoT Try.prog 38 = some (1, 24, [.val (.slice none 0 0)]) := by kernel_rfl
@[go_sem] theorem Try.cof38 : Try.prog.cellsOf 38 = 1 := by kernel_rfl
theorem Try.und38 : Try.prog.underlying 38 = some (.slice 2) := by kernel_rfl
@[go_sem] theorem Try.kind39 : kindT Try.prog 39 = some (some 2) := by kernel_rfl
@[go_sem] theorem Try.fld39_0 : fldT Try.prog 39 0 = some 0 := by kernel_rfl
@[go_sem] theorem Try.fl139_0 : fld1T Try.prog 39 0 = some 0 := by kernel_rfl
@[go_sem] theorem Try.pl39_0 : plT Try.prog 39 0 = some 0 := by kernel_rfl
@[go_sem] theorem Try.fld39_1 : fldT Try.prog 39 1 = some 1 := by kernel_rfl
@[go_sem] theorem Try.fl139_1 : fld1T Try.prog 39 1 = some 1 := by kernel_rfl
@[go_sem] theorem Try.pl39_1 : plT Try.prog 39 1 = some 1 := by kernel_rfl
@[go_sem] theorem Try.plk39 : plOk Try.prog 39 = true := by kernel_rfl
@[go_sem] theorem Try.info39 : infoT Try.prog 39 = some (2, 48, [.val (.slice none 0 0), .val (.slice none 0 0)]) := by kernel_rfl
@[go_sem] theorem Try.cof39 : Try.prog.cellsOf 39 = 2 := by kernel_rfl
@[go_sem] theorem Try.kind40 : kindT Try.prog 40 = some (some 2) := by kernel_rfl
@[go_sem] theorem Try.fld40_0 : fldT Try.prog 40 0 = some 0 := by kernel_rfl
@[go_sem] theorem Try.fl140_0 : fld1T Try.prog 40 0 = some 0 := by kernel_rfl
@[go_sem] theorem Try.pl40_0 : plT Try.prog 40 0 = some 0 := by kernel_rfl
@[go_sem] theorem Try.fld40_1 : fldT Try.prog 40 1 = some 1 := by kernel_rfl
@[go_sem] theorem Try.fl140_1 : fld1T Try.prog 40 1 = some 1 := by kernel_rfl
@[go_sem] theorem Try.pl40_1 : plT Try.prog 40 1 = some 1 := by kernel_rfl
@[go_sem] theorem Try.plk40 : plOk Try.prog 40 = true := by kernel_rfl
@[go_sem] theorem Try.info40 : infoT Try.prog 40 = some (2, 48, [.val (.slice none 0 0), .val (.slice none 0 0)]) := by kernel_rfl
@[go_sem] theorem Try.cof40 : Try.prog.cellsOf 40 = 2 := by kernel_rfl
@[go_sem] theorem Try.kind41 : kindT Try.prog 41 = some none := by kernel_rfl
@[go_sem] theorem Try.cof41 : Try.prog.cellsOf 41 = 1 := by kernel_rfl
@[go_sem] theorem Try.kind43 : kindT Try.prog 43 = some none := by kernel_rfl
@[go_sem] theorem Try.cof43 : Try.prog.cellsOf 43 = 1 := by kernel_rfl
@[go_sem] theorem Try.kind44 : kindT Try.prog 44 = some (some 2) := by kernel_rfl
@[go_sem] theorem Try.fld44_0 : fldT Try.prog 44 0 = some 0 := by kernel_rfl
@[go_sem] theorem Try.fl144_0 : fld1T Try.prog 44 0 = some 0 := by kernel_rfl
@[go_sem] theorem Try.pl44_0 : plT Try.prog 44 0 = some 0 := by kernel_rfl
@[go_sem] theorem Try.fld44_1 : fldT Try.prog 44 1 = some 1 := by kernel_rfl
@[go_sem] theorem Try.fl144_1 : fld1T Try.prog 44 1 = some 1 := by kernel_rfl
@[go_sem] theorem Try.pl44_1 : plT Try.prog 44 1 = some 1 := by kernel_rfl
@[go_sem] theorem Try.plk44 : plOk Try.prog 44 = true := by kernel_rfl
@[go_sem] theorem Try.info44 : infoT Try.prog 44 = some (2, 48, [.val (.slice none 0 0), .val (.slice none 0 0)]) := by kernel_rfl
@[go_sem] theorem Try.cof44 : Try.prog.cellsOf 44 = 2 := by kernel_rfl
@[go_sem] theorem Try.kind45 : kindT Try.prog 45 = some none := by kernel_rfl
@[go_sem] theorem Try.cof45 : Try.prog.cellsOf 45 = 1 := by kernel_rfl
@[go_sem] theorem Try.kind46 : kindT Try.prog 46 = some none := by kernel_rfl
@[go_sem] theorem Try.cof46 : Try.prog.cellsOf 46 = 1 := by kernel_rfl
@[go_sem] theorem Try.kind47 : kindT Try.prog 47 = some none := by kernel_rfl
@[go_sem] theorem Try.cof47 : Try.prog.cellsOf 47 = 1 := by kernel_rfl
@[go_sem] theorem Try.kind48 : kindT Try.prog 48 = some none := by kernel_rfl
@[go_sem] theorem Try.cof48 : Try.prog.cellsOf 48 = 1 := by kernel_rfl
@[go_sem] theorem Try.kind50 : kindT Try.prog 50 = some none := by kernel_rfl
@[go_sem] theorem Try.cof50 : Try.prog.cellsOf 50 = 1 := by kernel_rfl
@[go_sem] theorem Try.kind51 : kindT Try.prog 51 = some none := by kernel_rfl
@[go_sem] theorem Try.cof51 : Try.prog.cellsOf 51 = 1 := by kernel_rfl
@[go_sem] theorem Try.kind52 : kindT Try.prog 52 = some none := by kernel_rfl
@[go_sem] theorem Try.cof52 : Try.prog.cellsOf 52 = 1 := by kernel_rfl
@[go_sem] theorem Try.kind53 : kindT Try.prog 53 = some none := by kernel_rfl
@[go_sem] theorem Try.cof53 : Try.prog.cellsOf 53 = 1 := by kernel_rfl
@[go_sem] theorem Try.kind54 : kindT Try.prog 54 = some none := by kernel_rfl
@[go_sem] theorem Try.cof54 : Try.prog.cellsOf 54 = 1 := by kernel_rfl
@[go_sem] theorem Try.kind55 : kindT Try.prog 55 = some none := by kernel_rfl
@[go_sem] theorem Try.cof55 : Try.prog.cellsOf 55 = 1 := by kernel_rfl
@[go_sem] theorem Try.kind56 : kindT Try.prog 56 = some none := by kernel_rfl
@[go_sem] theorem Try.cof56 : Try.prog.cellsOf 56 = 1 := by kernel_rfl
@[go_sem] theorem Try.kind57 : kindT Try.prog 57 = some none := by kernel_rfl
@[go_sem] theorem Try.cof57 : Try.prog.cellsOf 57 = 1 := by kernel_rfl
@[go_sem] theorem Try.kind58 : kindT Try.prog 58 = some none := by kernel_rfl
@[go_sem] theorem Try.elem58 : elemT Try.prog 58 = some 5 := by kernel_rfl
@[go_sem] theorem Try.info58 : infoT Try.prog 58 = some (1, 24, [.val (.slice none 0 0)]) := by kernel_rfl
@[go_sem] theorem Try.cof58 : Try.prog.cellsOf 58 = 1 := by kernel_rfl
theorem Try.und58 : Try.prog.underlying 58 = some (.slice 5) := by kernel_rfl
@[go_sem] theorem Try.kind59 : kindT Try.prog 59 = some none := by kernel_rfl
@[go_sem] theorem Try.cof59 : Try.prog.cellsOf 59 = 1 := by kernel_rfl
@[go_sem] theorem Try.kind61 : kindT Try.prog 61 = some none := by kernel_rfl
@[go_sem] theorem Try.cof61 : Try.prog.cellsOf 61 = 1 := by kernel_rfl
@[go_sem] theorem Try.kind63 : kindT Try.prog 63 = some none := by kernel_rfl
@[go_sem] theorem Try.cof63 : Try.prog.cellsOf 63 = 1 := by kernel_rfl
@[go_sem] theorem Try.kind64 : kindT Try.prog 64 = some none := by kernel_rfl
@[go_sem] theorem Try.cof64 : Try.prog.cellsOf 64 = 1 := by kernel_rfl
@[go_sem] theorem Try.kind65 : kindT Try.prog 65 = some none := by kernel_rfl
@[go_sem] theorem Try.cof65 : Try.prog.cellsOf 65 = 1 := by kernel_rfl
@[go_sem] theorem Try.kind66 : kindT Try.prog 66 = some none := by kernel_rfl
@[go_sem] theorem Try.cof66 : Try.prog.cellsOf 66 = 1 := by kernel_rfl
@[go_sem] theorem Try.kind67 : kindT Try.prog 67 = some none := by kernel_rfl
@[go_sem] theorem Try.cof67 : Try.prog.cellsOf 67 = 1 := by kernel_rfl
@[go_sem] theorem Try.kind69 : kindT Try.prog 69 = some none := by kernel_rfl
@[go_sem] theorem Try.cof69 : Try.prog.cellsOf 69 = 1 := by kernel_rfl
@[go_sem] theorem Try.kind70 : kindT Try.prog 70 = some none := by kernel_rfl
@[go_sem] theorem Try.cof70 : Try.prog.cellsOf 70 = 1 := by kernel_rfl
@[go_sem] theorem Try.kind71 : kindT Try.prog 71 = some none := by kernel_rfl
@[go_sem] theorem Try.cof71 : Try.prog.cellsOf 71 = 1 := by kernel_rfl
@[go_sem] theorem Try.kind73 : kindT Try.prog 73 = some none := by kernel_rfl
@[go_sem] theorem Try.cof73 : Try.prog.cellsOf 73 = 1 := by kernel_rfl
@[go_sem] theorem Try.kind74 : kindT Try.prog 74 = some none := by kernel_rfl
@[go_sem] theorem Try.elem74 : elemT Try.prog 74 = none := by kernel_rfl
@[go_sem] theorem Try.cof74 : Try.prog.cellsOf 74 = 1 := by kernel_rfl
@[go_sem] theorem Try.kind75 : kindT Try.prog 75 = some none := by kernel_rfl
@[go_sem] theorem Try.cof75 : Try.prog.cellsOf 75 = 1 := by kernel_rfl
@[go_sem] theorem Try.kind76 : kindT Try.prog 76 = some none := by kernel_rfl
@[go_sem] theorem Try.info76 : infoT Try.prog 76 = some (1, 8, [.val (.int .u64 0)]) := by kernel_rfl
@[go_sem] theorem Try.cof76 : Try.prog.cellsOf 76 = 1 := by kernel_rfl
@[go_sem] theorem Try.und76 : Try.prog.underlying 76 = some (.int .u64) := by kernel_rfl
@[go_sem] theorem Try.kind77 : kindT Try.prog 77 = some none := by kernel_rfl
@[go_sem] theorem Try.cof77 : Try.prog.cellsOf 77 = 1 := by kernel_rfl
@[go_sem] theorem Try.kind78 : kindT Try.prog 78 = some none := by kernel_rfl
@[go_sem] theorem Try.cof78 : Try.prog.cellsOf 78 = 1 := by kernel_rfl
@[go_sem] theorem Try.kind79 : kindT Try.prog 79 = some none := by kernel_rfl
@[go_sem] theorem Try.cof79 : Try.prog.cellsOf 79 = 1 := by kernel_rfl
@[go_sem] theorem Try.kind80 : kindT Try.prog 80 = some none := by kernel_rfl
@[go_sem] theorem Try.cof80 : Try.prog.cellsOf 80 = 1 := by kernel_rfl
@[go_sem] theorem Try.kind81 : kindT Try.prog 81 = some none := by kernel_rfl
@[go_sem] theorem Try.cof81 : Try.prog.cellsOf 81 = 1 := by kernel_rfl
@[go_sem] theorem Try.kind83 : kindT Try.prog 83 = some none := by kernel_rfl
@[go_sem] theorem Try.cof83 : Try.prog.cellsOf 83 = 1 := by kernel_rfl
@[go_sem] theorem Try.kind84 : kindT Try.prog 84 = some none := by kernel_rfl
@[go_sem] theorem Try.cof84 : Try.prog.cellsOf 84 = 1 := by kernel_rfl
@[go_sem] theorem Try.kind85 : kindT Try.prog 85 = some none := by kernel_rfl
@[go_sem] theorem Try.cof85 : Try.prog.cellsOf 85 = 1 := by kernel_rfl
@[go_sem] theorem Try.kind86 : kindT Try.prog 86 = some none := by kernel_rfl
@[go_sem] theorem Try.cof86 : Try.prog.cellsOf 86 = 1 := by kernel_rfl
@[go_sem] theorem Try.kind87 : kindT Try.prog 87 = some none := by kernel_rfl
@[go_sem] theorem Try.cof87 : Try.prog.cellsOf 87 = 1 := by kernel_rfl
@[go_sem] theorem Try.kind89 : kindT Try.prog 89 = some none := by kernel_rfl
@[go_sem] theorem Try.cof89 : Try.prog.cellsOf 89 = 1 := by kernel_rfl
@[go_sem] theorem Try.kind90 : kindT Try.prog 90 = some none := by kernel_rfl
@[go_sem] theorem Try.cof90 : Try.prog.cellsOf 90 = 1 := by kernel_rfl
@[go_sem] theorem Try.kind91 : kindT Try.prog 91 = some none := by kernel_rfl
@[go_sem] theorem Try.cof91 : Try.prog.cellsOf 91 = 1 := by kernel_rfl
@[go_sem] theorem Try.kind92 : kindT Try.prog 92 = some none := by kernel_rfl
@[go_sem] theorem Try.cof92 : Try.prog.cellsOf 92 = 1 := by kernel_rfl
@[go_sem] theorem Try.kind93 : kindT Try.prog 93 = some none := by kernel_rfl
@[go_sem] theorem Try.cof93 : Try.prog.cellsOf 93 = 1 := by kernel_rfl
@[go_sem] theorem Try.kind94 : kindT Try.prog 94 = some none := by kernel_rfl
@[go_sem] theorem Try.cof94 : Try.prog.cellsOf 94 = 1 := by kernel_rfl
@[go_sem] theorem Try.kind95 : kindT Try.prog 95 = some none := by kernel_rfl
@[go_sem] theorem Try.elem95 : elemT Try.prog 95 = some 111 := by kernel_rfl
@[go_sem] theorem Try.info95 : infoT Try.prog 95 = some (1, 24, [.val (.slice none 0 0)]) := by kernel_rfl
@[go_sem] theorem Try.cof95 : Try.prog.cellsOf 95 = 1 := by kernel_rfl
theorem Try.und95 : Try.prog.underlying 95 = some (.slice 111) := by kernel_rfl
@[go_sem] theorem Try.kind96 : kindT Try.prog 96 = some none := by kernel_rfl
@[go_sem] theorem Try.cof96 : Try.prog.cellsOf 96 = 1 := by kernel_rfl
@[go_sem] theorem Try.kind97 : kindT Try.prog 97 = some none := by kernel_rfl
@[go_sem] theorem Try.cof97 : Try.prog.cellsOf 97 = 1 := by kernel_rfl
@[go_sem] theorem Try.kind98 : kindT Try.prog 98 = some none := by kernel_rfl
@[go_sem] theorem Try.cof98 : Try.prog.cellsOf 98 = 1 := by kernel_rfl
@[go_sem] theorem Try.kind99 : kindT Try.prog 99 = some none := by kernel_rfl
@[go_sem] theorem Try.elem99 : elemT Try.prog 99 = some 102 := by kernel_rfl
@[go_sem] theorem Try.info99 : infoT Try.prog 99 = some (1, 24, [.val (.slice none 0 0)]) := by kernel_rfl
@[go_sem] theorem Try.cof99 : Try.prog.cellsOf 99 = 1 := by kernel_rfl
theorem Try.und99 : Try.prog.underlying 99 = some (.slice 102) := by kernel_rfl
@[go_sem] theorem Try.kind100 : kindT Try.prog 100 = some none := by kernel_rfl
@[go_sem] theorem Try.cof100 : Try.prog.cellsOf 100 = 1 := by kernel_rfl
@[go_sem] theorem Try.kind101 : kindT Try.prog 101 = some none := by kernel_rfl
@[go_sem] theorem Try.elem101 : elemT Try.prog 101 = none := by kernel_rfl
@[go_sem] theorem Try.map101 : mapT Try.prog 101 = true := by kernel_rfl
@[go_sem] theorem Try.ismap101 : isMapT Try.prog 101 = true := by kernel_rfl
@[go_sem] theorem Try.info101 : infoT Try.prog 101 = some (1, 8, [.val (.map none)]) := by kernel_rfl
@[go_sem] theorem Try.cof101 : Try.prog.cellsOf 101 = 1 := by kernel_rfl
@[go_sem] theorem Try.kind102 : kindT Try.prog 102 = some none := by kernel_rfl
@[go_sem] theorem Try.elem102 : elemT Try.prog 102 = none := by kernel_rfl
@[go_sem] theorem Try.map102 : mapT Try.prog 102 = true := by kernel_rfl
@[go_sem] theorem Try.ismap102 : isMapT Try.prog 102 = true := by kernel_rfl
@[go_sem] theorem Try.info102 : infoT Try.prog 102 = some (1, 8, [.val (.map none)]) := by kernel_rfl
@[go_sem] theorem Try.cof102 : Try.prog.cellsOf 102 = 1 := by kernel_rfl
@[go_sem] theorem Try.kind103 : kindT Try.prog 103 = some none := by kernel_rfl
@[go_sem] theorem Try.cof103 : Try.prog.cellsOf 103 = 1 := by kernel_rfl
@[go_sem] theorem Try.kind104 : kindT Try.prog 104 = some none := by kernel_rfl
@[go_sem] theorem Try.cof104 : Try.prog.cellsOf 104 = 1 := by kernel_rfl
@[go_sem] theorem Try.kind105 : kindT Try.prog 105 = some none := by kernel_rfl
@[go_sem] theorem Try.cof105 : Try.prog.cellsOf 105 = 1 := by kernel_rfl
@[go_sem] theorem Try.kind106 : kindT Try.prog 106 = some none := by kernel_rfl
@[go_sem] theorem Try.cof106 : Try.prog.cellsOf 106 = 1 := by kernel_rfl
@[go_sem] theorem Try.kind107 : kindT Try.prog 107 = some none := by kernel_rfl
@[go_sem] theorem Try.cof107 : Try.prog.cellsOf 107 = 1 := by kernel_rfl
@[go_sem] theorem Try.kind108 : kindT Try.prog 108 = some none := by kernel_rfl
@[go_sem] theorem Try.cof108 : Try.prog.cellsOf 108 = 1 := by kernel_rfl
@[go_sem] theorem Try.kind109 : kindT Try.prog 109 = some none := by kernel_rfl
@[go_sem] theorem Try.cof109 : Try.prog.cellsOf 109 = 1 := by kernel_rfl
@[go_sem] theorem Try.kind110 : kindT Try.prog 110 = some (some 2) := by kernel_rfl
@[go_sem] theorem Try.fld110_0 : fldT Try.prog 110 0 = some 0 := by kernel_rfl
@[go_sem] theorem Try.fl1110_0 : fld1T Try.prog 110 0 = some 0 := by kernel_rfl
@[go_sem] theorem Try.pl110_0 : plT Try.prog 110 0 = some 0 := by kernel_rfl
@[go_sem] theorem Try.fld110_1 : fldT Try.prog 110 1 = some 1 := by kernel_rfl
@[go_sem] theorem Try.fl1110_1 : fld1T Try.prog 110 1 = some 1 := by kernel_rfl
@[go_sem] theorem Try.pl110_1 : plT Try.prog 110 1 = some 1 := by kernel_rfl
@[go_sem] theorem Try.plk110 : plOk Try.prog 110 = true := by kernel_rfl
@[go_sem] theorem Try.info110 : infoT Try.prog 110 = some (2, 32, [.val (.int .i64 0), .val (.slice none 0 0)]) := by kernel_rfl
@[go_sem] theorem Try.cof110 : Try.prog.cellsOf 110 = 2 := by kernel_rfl
@[go_sem] theorem Try.kind111 : kindT Try.prog 111 = some (some 2) := by kernel_rfl
@[go_sem] theorem Try.fld111_0 : fldT Try.prog 111 0 = some 0 := by kernel_rfl
@[go_sem] theorem Try.fl1111_0 : fld1T Try.prog 111 0 = some 0 := by kernel_rfl
@[go_sem] theorem Try.pl111_0 : plT Try.prog 111 0 = some 0 := by kernel_rfl
@[go_sem] theorem Try.fld111_1 : fldT Try.prog 111 1 = some 1 := by kernel_rfl
@[go_sem] theorem Try.fl1111_1 : fld1T Try.prog 111 1 = some 1 := by kernel_rfl
@[go_sem] theorem Try.pl111_1 : plT Try.prog 111 1 = some 1 := by kernel_rfl
@[go_sem] theorem Try.plk111 : plOk Try.prog 111 = true := by kernel_rfl
@[go_sem] theorem Try.info111 : infoT Try.prog 111 = some (2, 32, [.val (.int .i64 0), .val (.slice none 0 0)]) := by kernel_rfl
@[go_sem] theorem Try.cof111 : Try.prog.cellsOf 111 = 2 := by kernel_rfl
@[go_sem] theorem Try.kind112 : kindT Try.prog 112 = some none := by kernel_rfl
@[go_sem] theorem Try.cof112 : Try.prog.cellsOf 112 = 1 := by kernel_rfl
@[go_sem] theorem Try.kind113 : kindT Try.prog 113 = some none := by kernel_rfl
@[go_sem] theorem Try.cof113 : Try.prog.cellsOf 113 = 1 := by kernel_rfl
@[go_sem] theorem Try.kind114 : kindT Try.prog 114 = some none := by kernel_rfl
@[go_sem] theorem Try.cof114 : Try.prog.cellsOf 114 = 1 := by kernel_rfl
@[go_sem] theorem Try.kind116 : kindT Try.prog 116 = some none := by kernel_rfl
@[go_sem] theorem Try.cof116 : Try.prog.cellsOf 116 = 1 := by kernel_rfl
@[go_sem] theorem Try.kind117 : kindT Try.prog 117 = some none := by kernel_rfl
@[go_sem] theorem Try.cof117 : Try.prog.cellsOf 117 = 1 := by kernel_rfl
@[go_sem] theorem Try.kind118 : kindT Try.prog 118 = some none := by kernel_rfl
@[go_sem] theorem Try.cof118 : Try.prog.cellsOf 118 = 1 := by kernel_rfl
@[go_sem] theorem Try.kind119 : kindT Try.prog 119 = some none := by kernel_rfl
@[go_sem] theorem Try.cof119 : Try.prog.cellsOf 119 = 1 := by kernel_rfl
@[go_sem] theorem Try.kind120 : kindT Try.prog 120 = some none := by kernel_rfl
@[go_sem] theorem Try.cof120 : Try.prog.cellsOf 120 = 1 := by kernel_rfl
@[go_sem] theorem Try.kind121 : kindT Try.prog 121 = some none := by kernel_rfl
@[go_sem] theorem Try.cof121 : Try.prog.cellsOf 121 = 1 := by kernel_rfl
@[go_sem] theorem Try.kind122 : kindT Try.prog 122 = some none := by kernel_rfl
@[go_sem] theorem Try.cof122 : Try.prog.cellsOf 122 = 1 := by kernel_rfl
@[go_sem] theorem Try.kind123 : kindT Try.prog 123 = some none := by kernel_rfl
@[go_sem] theorem Try.cof123 : Try.prog.cellsOf 123 = 1 := by kernel_rfl
@[go_sem] theorem Try.kind125 : kindT Try.prog 125 = some none := by kernel_rfl
@[go_sem] theorem Try.cof125 : Try.prog.cellsOf 125 = 1 := by kernel_rfl
@[go_sem] theorem Try.kind126 : kindT Try.prog 126 = some none := by kernel_rfl
@[go_sem] theorem Try.cof126 : Try.prog.cellsOf 126 = 1 := by kernel_rfl
@[go_sem] theorem Try.kind127 : kindT Try.prog 127 = some none := by kernel_rfl
@[go_sem] theorem Try.cof127 : Try.prog.cellsOf 127 = 1 := by kernel_rfl
@[go_sem] theorem Try.kind129 : kindT Try.prog 129 = some none := by kernel_rfl
@[go_sem] theorem Try.cof129 : Try.prog.cellsOf 129 = 1 := by kernel_rfl
@[go_sem] theorem Try.kind130 : kindT Try.prog 130 = some none := by kernel_rfl
@[go_sem] theorem Try.cof130 : Try.prog.cellsOf 130 = 1 := by kernel_rfl
@[go_sem] theorem Try.kind131 : kindT Try.prog 131 = some none := by kernel_rfl
@[go_sem] theorem Try.cof131 : Try.prog.cellsOf 131 = 1 := by kernel_rfl
@[go_sem] theorem Try.kind132 : kindT Try.prog 132 = some none := by kernel_rfl
@[go_sem] theorem Try.cof132 : Try.prog.cellsOf 132 = 1 := by kernel_rfl
@[go_sem] theorem Try.kind133 : kindT Try.prog 133 = some none := by kernel_rfl
@[go_sem] theorem Try.elem133 : elemT Try.prog 133 = none := by kernel_rfl
@[go_sem] theorem Try.cof133 : Try.prog.cellsOf 133 = 1 := by kernel_rfl
@[go_sem] theorem Try.kind134 : kindT Try.prog 134 = some none := by kernel_rfl
@[go_sem] theorem Try.cof134 : Try.prog.cellsOf 134 = 1 := by kernel_rfl
@[go_sem] theorem Try.kind135 : kindT Try.prog 135 = some none := by kernel_rfl
@[go_sem] theorem Try.cof135 : Try.prog.cellsOf 135 = 1 := by kernel_rfl
@[go_sem] theorem Try.kind136 : kindT Try.prog 136 = some none := by kernel_rfl
@[go_sem] theorem Try.cof136 : Try.prog.cellsOf 136 = 1 := by kernel_rfl
@[go_sem] theorem Try.kind137 : kindT Try.prog 137 = some none := by kernel_rfl
@[go_sem] theorem Try.cof137 : Try.prog.cellsOf 137 = 1 := by kernel_rfl
@[go_sem] theorem Try.kind138 : kindT Try.prog 138 = some none := by kernel_rfl
@[go_sem] theorem Try.cof138 : Try.prog.cellsOf 138 = 1 := by kernel_rfl
@[go_sem] theorem Try.kind139 : kindT Try.prog 139 = some none := by kernel_rfl
@[go_sem] theorem Try.cof139 : Try.prog.cellsOf 139 = 1 := by kernel_rfl
@[go_sem] theorem Try.kind140 : kindT Try.prog 140 = some none := by kernel_rfl
@[go_sem] theorem Try.cof140 : Try.prog.cellsOf 140 = 1 := by kernel_rfl
@[go_sem] theorem Try.kind141 : kindT Try.prog 141 = some none := by kernel_rfl
@[go_sem] theorem Try.cof141 : Try.prog.cellsOf 141 = 1 := by kernel_rfl
@[go_sem] theorem Try.kind142 : kindT Try.prog 142 = some none := by kernel_rfl
@[go_sem] theorem Try.cof142 : Try.prog.cellsOf 142 = 1 := by kernel_rfl
@[go_sem] theorem Try.kind143 : kindT Try.prog 143 = some none := by kernel_rfl
@[go_sem] theorem Try.cof143 : Try.prog.cellsOf 143 = 1 := by kernel_rfl
@[go_sem] theorem Try.kind144 : kindT Try.prog 144 = some none := by kernel_rfl
@[go_sem] theorem Try.cof144 : Try.prog.cellsOf 144 = 1 := by kernel_rfl
@[go_sem] theorem Try.kind145 : kindT Try.prog 145 = some none := by kernel_rfl
@[go_sem] theorem Try.cof145 : Try.prog.cellsOf 145 = 1 := by kernel_rfl
@[go_sem] theorem Try.kind146 : kindT Try.prog 146 = some none := by kernel_rfl
@[go_sem] theorem Try.cof146 : Try.prog.cellsOf 146 = 1 := by kernel_rfl
@[go_sem] theorem Try.kind147 : kindT Try.prog 147 = some none := by kernel_rfl
@[go_sem] theorem Try.cof147 : Try.prog.cellsOf 147 = 1 := by kernel_rfl
@[go_sem] theorem Try.kind148 : kindT Try.prog 148 = some none := by kernel_rfl
@[go_sem] theorem Try.cof148 : Try.prog.cellsOf 148 = 1 := by kernel_rfl
@[go_sem] theorem Try.kind149 : kindT Try.prog 149 = some none := by kernel_rfl
@[go_sem] theorem Try.cof149 : Try.prog.cellsOf 149 = 1 := by kernel_rfl
@[go_sem] theorem Try.kind150 : kindT Try.prog 150 = some (some 3) := by kernel_rfl
@[go_sem] theorem Try.fld150_0 : fldT Try.prog 150 0 = some 0 := by kernel_rfl
@[go_sem] theorem Try.fl1150_0 : fld1T Try.prog 150 0 = some 0 := by kernel_rfl
@[go_sem] theorem Try.pl150_0 : plT Try.prog 150 0 = some 0 := by kernel_rfl
@[go_sem] theorem Try.fld150_1 : fldT Try.prog 150 1 = some 1 := by kernel_rfl
@[go_sem] theorem Try.fl1150_1 : fld1T Try.prog 150 1 = some 1 := by kernel_rfl
@[go_sem] theorem Try.pl150_1 : plT Try.prog 150 1 = some 1 := by kernel_rfl
@[go_sem] theorem Try.fld150_2 : fldT Try.prog 150 2 = some 2 := by kernel_rfl
@[go_sem] theorem Try.fl1150_2 : fld1T Try.prog 150 2 = some 2 := by kernel_rfl
@[go_sem] theorem Try.pl150_2 : plT Try.prog 150 2 = some 2 := by kernel_rfl
@[go_sem] theorem Try.plk150 : plOk Try.prog 150 = true := by kernel_rfl
@[go_sem] theorem Try.info150 : infoT Try.prog 150 = some (3, 40, [.val (.slice none 0 0), .val (.int .i64 0), .val (.int .u64 0)]) := by kernel_rfl
@[go_sem] theorem Try.cof150 : Try.prog.cellsOf 150 = 3 := by kernel_rfl
@[go_sem] theorem Try.kind151 : kindT Try.prog 151 = some (some 3) := by kernel_rfl
@[go_sem] theorem Try.fld151_0 : fldT Try.prog 151 0 = some 0 := by kernel_rfl
@[go_sem] theorem Try.fl1151_0 : fld1T Try.prog 151 0 = some 0 := by kernel_rfl
@[go_sem] theorem Try.pl151_0 : plT Try.prog 151 0 = some 0 := by kernel_rfl
@[go_sem] theorem Try.fld151_1 : fldT Try.prog 151 1 = some 1 := by kernel_rfl
@[go_sem] theorem Try.fl1151_1 : fld1T Try.prog 151 1 = some 1 := by kernel_rfl
@[go_sem] theorem Try.pl151_1 : plT Try.prog 151 1 = some 1 := by kernel_rfl
@[go_sem] theorem Try.fld151_2 : fldT Try.prog 151 2 = some 2 := by kernel_rfl
@[go_sem] theorem Try.fl1151_2 : fld1T Try.prog 151 2 = some 2 := by kernel_rfl
@[go_sem] theorem Try.pl151_2 : plT Try.prog 151 2 = some 2 := by kernel_rfl
@[go_sem] theorem Try.plk151 : plOk Try.prog 151 = true := by kernel_rfl
@[go_sem] theorem Try.info151 : infoT Try.prog 151 = some (3, 40, [.val (.slice none 0 0), .val (.int .i64 0), .val (.int .u64 0)]) := by kernel_rfl
@[go_sem] theorem Try.cof151 : Try.prog.cellsOf 151 = 3 := by kernel_rfl
@[go_sem] theorem Try.kind152 : kindT Try.prog 152 = some none := by kernel_rfl
@[go_sem] theorem Try.cof152 : Try.prog.cellsOf 152 = 1 := by kernel_rfl
@[go_sem] theorem Try.kind153 : kindT Try.prog 153 = some none := by kernel_rfl
@[go_sem] theorem Try.cof153 : Try.prog.cellsOf 153 = 1 := by kernel_rfl
@[go_sem] theorem Try.kind154 : kindT Try.prog 154 = some none := by kernel_rfl
@[go_sem] theorem Try.cof154 : Try.prog.cellsOf 154 = 1 := by kernel_rfl
@[go_sem] theorem Try.kind155 : kindT Try.prog 155 = some none := by kernel_rfl
@[go_sem] theorem Try.cof155 : Try.prog.cellsOf 155 = 1 := by kernel_rfl
@[go_sem] theorem Try.kind156 : kindT Try.prog 156 = some none := by kernel_rfl
@[go_sem] theorem Try.cof156 : Try.prog.cellsOf 156 = 1 := by kernel_rfl
@[go_sem] theorem Try.kind157 : kindT Try.prog 157 = some none := by kernel_rfl
@[go_sem] theorem Try.cof157 : Try.prog.cellsOf 157 = 1 := by kernel_rfl
@[go_sem] theorem Try.kind158 : kindT Try.prog 158 = some none := by kernel_rfl
@[go_sem] theorem Try.cof158 : Try.prog.cellsOf 158 = 1 := by kernel_rfl
@[go_sem] theorem Try.kind159 : kindT Try.prog 159 = some none := by kernel_rfl
@[go_sem] theorem Try.cof159 : Try.prog.cellsOf 159 = 1 := by kernel_rfl
@[go_sem] theorem Try.kind160 : kindT Try.prog 160 = some none := by kernel_rfl
@[go_sem] theorem Try.elem160 : elemT Try.prog 160 = some 162 := by kernel_rfl
@[go_sem] theorem Try.info160 : infoT Try.prog 160 = some (1, 24, [.val (.slice none 0 0)]) := by kernel_rfl
@[go_sem] theorem Try.cof160 : Try.prog.cellsOf 160 = 1 := by kernel_rfl
theorem Try.und160 : Try.prog.underlying 160 = some (.slice 162) := by kernel_rfl
@[go_sem] theorem Try.kind161 : kindT Try.prog 161 = some (some 7) := by kernel_rfl
@[go_sem] theorem Try.elem161 : elemT Try.prog 161 = none := by kernel_rfl
@[go_sem] theorem Try.arr161 : arrT Try.prog 161 = some (7, 1, true) := by kernel_rfl
@[go_sem] theorem Try.pl161_0 : plT Try.prog 161 0 = some 0 := by kernel_rfl
@[go_sem] theorem Try.pl161_1 : plT Try.prog 161 1 = some 1 := by kernel_rfl
@[go_sem] theorem Try.pl161_2 : plT Try.prog 161 2 = some 2 := by kernel_rfl
@[go_sem] theorem Try.pl161_3 : plT Try.prog 161 3 = some 3 := by kernel_rfl
@[go_sem] theorem Try.pl161_4 : plT Try.prog 161 4 = some 4 := by kernel_rfl
@[go_sem] theorem Try.pl161_5 : plT Try.prog 161 5 = some 5 := by kernel_rfl
@[go_sem] theorem Try.pl161_6 : plT Try.prog 161 6 = some 6 := by kernel_rfl
@[go_sem] theorem Try.plk161 : plOk Try.prog 161 = true := by kernel_rfl
@[go_sem] theorem Try.info161 : infoT Try.prog 161 = some (7, 168, [.val (.slice none 0 0), .val (.slice none 0 0), .val (.slice none 0 0), .val (.slice none 0 0), .val (.slice none 0 0), .val (.slice none 0 0), .val (.slice none 0 0)]) := by kernel_rfl
@[go_sem] theorem Try.cof161 : Try.prog.cellsOf 161 = 7 := by kernel_rfl
@[go_sem] theorem Try.kind162 : kindT Try.prog 162 = some (some 7) := by kernel_rfl
@[go_sem] theorem Try.elem162 : elemT Try.prog 162 = none := by kernel_rfl
@[go_sem] theorem Try.arr162 : arrT Try.prog 162 = some (7, 1, true) := by kernel_rfl
@[go_sem] theorem Try.pl162_0 : plT Try.prog 162 0 = some 0 := by kernel_rfl
@[go_sem] theorem Try.pl162_1 : plT Try.prog 162 1 = some 1 := by kernel_rfl
@[go_sem] theorem Try.pl162_2 : plT Try.prog 162 2 = some 2 := by kernel_rfl
@[go_sem] theorem Try.pl162_3 : plT Try.prog 162 3 = some 3 := by kernel_rfl
@[go_sem] theorem Try.pl162_4 : plT Try.prog 162 4 = some 4 := by kernel_rfl
@[go_sem] theorem Try.pl162_5 : plT Try.prog 162 5 = some 5 := by kernel_rfl
@[go_sem] theorem Try.pl162_6 : plT Try.prog 162 6 = some 6 := by kernel_rfl
@[go_sem] theorem Try.plk162 : plOk Try.prog 162 = true := by kernel_rfl
@[go_sem] theorem Try.info162 : infoT Try.prog 162 = some (7, 168, [.val (.slice none 0 0), .val (.slice none 0 0), .val (.slice none 0 0), .val (.slice none 0 0), .val (.slice none 0 0), .val (.slice none 0 0), .val (.slice none 0 0)]) := by kernel_rfl
@[go_sem] theorem Try.cof162 : Try.prog.cellsOf 162 = 7 := by kernel_rfl
@[go_sem] theorem Try.kind163 : kindT Try.prog 163 = some none := by kernel_rfl
@[go_sem] theorem Try.cof163 : Try.prog.cellsOf 163 = 1 := by kernel_rfl
@[go_sem] theorem Try.kind164 : kindT Try.prog 164 = some none := by kernel_rfl
@[go_sem] theorem Try.cof164 : Try.prog.cellsOf 164 = 1 := by kernel_rfl
@[go_sem] theorem Try.kind165 : kindT Try.prog 165 = some none := by kernel_rfl
@[go_sem] theorem Try.cof165 : Try.prog.cellsOf 165 = 1 := by kernel_rfl
@[go_sem] theorem Try.kind166 : kindT Try.prog 166 = some none := by kernel_rfl
@[go_sem] theorem Try.cof166 : Try.prog.cellsOf 166 = 1 := by kernel_rfl
@[go_sem] theorem Try.kind167 : kindT Try.prog 167 = some none := by kernel_rfl
@[go_sem] theorem Try.cof167 : Try.prog.cellsOf 167 = 1 := by kernel_rfl
@[go_sem] theorem Try.kind168 : kindT Try.prog 168 = some none := by kernel_rfl
@[go_sem] theorem Try.elem168 : elemT Try.prog 168 = some 209 := by kernel_rfl
@[go_sem] theorem Try.info168 : infoT Try.prog 168 = some (1, 24, [.val (.slice none 0 0)]) := by kernel_rfl
@[go_sem] theorem Try.cof168 : Try.prog.cellsOf 168 = 1 := by kernel_rfl
theorem Try.und168 : Try.prog.underlying 168 = some (.slice 209) := by kernel_rfl
@[go_sem] theorem Try.kind169 : kindT Try.prog 169 = some none := by kernel_rfl
@[go_sem] theorem Try.cof169 : Try.prog.cellsOf 169 = 1 := by kernel_rfl
@[go_sem] theorem Try.kind170 : kindT Try.prog 170 = some none := by kernel_rfl
@[go_sem] theorem Try.cof170 : Try.prog.cellsOf 170 = 1 := by kernel_rfl
@[go_sem] theorem Try.kind171 : kindT Try.prog 171 = some none := by kernel_rfl
@[go_sem] theorem Try.cof171 : Try.prog.cellsOf 171 = 1 := by kernel_rfl
@[go_sem] theorem Try.kind172 : kindT Try.prog 172 = some none := by kernel_rfl
@[go_sem] theorem Try.cof172 : Try.prog.cellsOf 172 = 1 := by kernel_rfl
@[go_sem] theorem Try.kind173 : kindT Try.prog 173 = some (some 3) := by kernel_rfl
@[go_sem] theorem Try.elem173 : elemT Try.prog 173 = none := by kernel_rfl
@[go_sem] theorem Try.arr173 : arrT Try.prog 173 = some (3, 1, true) := by kernel_rfl
@[go_sem] theorem Try.pl173_0 : plT Try.prog 173 0 = some 0 := by kernel_rfl
@[go_sem] theorem Try.pl173_1 : plT Try.prog 173 1 = some 1 := by kernel_rfl
@[go_sem] theorem Try.pl173_2 : plT Try.prog 173 2 = some 2 := by kernel_rfl
@[go_sem] theorem Try.plk173 : plOk Try.prog 173 = true := by kernel_rfl
@[go_sem] theorem Try.info173 : infoT Try.prog 173 = some (3, 24, [.val (.int .i64 0), .val (.int .i64 0), .val (.int .i64 0)]) := by kernel_rfl
@[go_sem] theorem Try.cof173 : Try.prog.cellsOf 173 = 3 := by kernel_rfl
@[go_sem] theorem Try.kind174 : kindT Try.prog 174 = some (some 3) := by kernel_rfl
@[go_sem] theorem Try.elem174 : elemT Try.prog 174 = none := by kernel_rfl
@[go_sem] theorem Try.arr174 : arrT Try.prog 174 = some (3, 1, true) := by kernel_rfl
@[go_sem] theorem Try.pl174_0 : plT Try.prog 174 0 = some 0 := by kernel_rfl
@[go_sem] theorem Try.pl174_1 : plT Try.prog 174 1 = some 1 := by kernel_rfl
@[go_sem] theorem Try.pl174_2 : plT Try.prog 174 2 = some 2 := by kernel_rfl
@[go_sem] theorem Try.plk174 : plOk Try.prog 174 = true := by kernel_rfl
@[go_sem] theorem Try.info174 : infoT Try.prog 174 = some (3, 24, [.val (.int .i64 0), .val (.int .i64 0), .val (.int .i64 0)]) := by kernel_rfl
@[go_sem] theorem Try.cof174 : Try.prog.cellsOf 174 = 3 := by kernel_rfl
@[go_sem] theorem Try.kind175 : kindT Try.prog 175 = some none := by kernel_rfl
@[go_sem] theorem Try.cof175 : Try.prog.cellsOf 175 = 1 := by kernel_rfl
@[go_sem] theorem Try.kind176 : kindT Try.prog 176 = some none := by kernel_rfl
@[go_sem] theorem Try.cof176 : Try.prog.cellsOf 176 = 1 := by kernel_rfl
@[go_sem] theorem Try.kind177 : kindT Try.prog 177 = some none := by kernel_rfl
@[go_sem] theorem Try.cof177 : Try.prog.cellsOf 177 = 1 := by kernel_rfl
@[go_sem] theorem Try.kind178 : kindT Try.prog 178 = some none := by kernel_rfl
@[go_sem] theorem Try.cof178 : Try.prog.cellsOf 178 = 1 := by kernel_rfl
@[go_sem] theorem Try.kind179 : kindT Try.prog 179 = some none := by kernel_rfl
@[go_sem] theorem Try.cof179 : Try.prog.cellsOf 179 = 1 := by kernel_rfl
@[go_sem] theorem Try.kind180 : kindT Try.prog 180 = some none := by kernel_rfl
@[go_sem] theorem Try.cof180 : Try.prog.cellsOf 180 = 1 := by kernel_rfl
@[go_sem] theorem Try.kind181 : kindT Try.prog 181 = some none := by kernel_rfl
@[go_sem] theorem Try.cof181 : Try.prog.cellsOf 181 = 1 := by kernel_rfl
@[go_sem] theorem Try.kind182 : kindT Try.prog 182 = some none := by kernel_rfl
@[go_sem] theorem Try.cof182 : Try.prog.cellsOf 182 = 1 := by kernel_rfl
@[go_sem] theorem Try.kind183 : kindT Try.prog 183 = some none := by kernel_rfl
@[go_sem] theorem Try.cof183 : Try.prog.cellsOf 183 = 1 := by kernel_rfl
@[go_sem] theorem Try.kind184 : kindT Try.prog 184 = some none := by kernel_rfl
@[go_sem] theorem Try.cof184 : Try.prog.cellsOf 184 = 1 := by kernel_rfl
@[go_sem] theorem Try.kind185 : kindT Try.prog 185 = some none := by kernel_rfl
@[go_sem] theorem Try.cof185 : Try.prog.cellsOf 185 = 1 := by kernel_rfl
@[go_sem] theorem Try.kind186 : kindT Try.prog 186 = some none := by kernel_rfl
@[go_sem] theorem Try.cof186 : Try.prog.cellsOf 186 = 1 := by kernel_rfl
@[go_sem] theorem Try.kind187 : kindT Try.prog 187 = some none := by kernel_rfl
@[go_sem] theorem Try.cof187 : Try.prog.cellsOf 187 = 1 := by kernel_rfl
@[go_sem] theorem Try.kind188 : kindT Try.prog 188 = some none := by kernel_rfl
@[go_sem] theorem Try.cof188 : Try.prog.cellsOf 188 = 1 := by kernel_rfl
@[go_sem] theorem Try.kind189 : kindT Try.prog 189 = some none := by kernel_rfl
@[go_sem] theorem Try.cof189 : Try.prog.cellsOf 189 = 1 := by kernel_rfl
@[go_sem] theorem Try.kind190 : kindT Try.prog 190 = some none := by kernel_rfl
@[go_sem] theorem Try.cof190 : Try.prog.cellsOf 190 = 1 := by kernel_rfl
@[go_sem] theorem Try.kind191 : kindT Try.prog 191 = some none := by kernel_rfl
@[go_sem] theorem Try.cof191 : Try.prog.cellsOf 191 = 1 := by kernel_rfl
@[go_sem] theorem Try.kind192 : kindT Try.prog 192 = some none := by kernel_rfl
@[go_sem] theorem Try.cof192 : Try.prog.cellsOf 192 = 1 := by kernel_rfl
@[go_sem] theorem Try.kind193 : kindT Try.prog 193 = some none := by kernel_rfl
@[go_sem] theorem Try.cof193 : Try.prog.cellsOf 193 = 1 := by kernel_rfl
@[go_sem] theorem Try.kind194 : kindT Try.prog 194 = some none := by kernel_rfl
@[go_sem] theorem Try.cof194 : Try.prog.cellsOf 194 = 1 := by kernel_rfl
@[go_sem] theorem Try.kind195 : kindT Try.prog 195 = some none := by kernel_rfl
@[go_sem] theorem Try.cof195 : Try.prog.cellsOf 195 = 1 := by kernel_rfl
@[go_sem] theorem Try.kind196 : kindT Try.prog 196 = some (some 3) := by kernel_rfl
@[go_sem] theorem Try.fld196_0 : fldT Try.prog 196 0 = some 0 := by kernel_rfl
@[go_sem] theorem Try.fl1196_0 : fld1T Try.prog 196 0 = some 0 := by kernel_rfl
@[go_sem] theorem Try.pl196_0 : plT Try.prog 196 0 = some 0 := by kernel_rfl
@[go_sem] theorem Try.fld196_1 : fldT Try.prog 196 1 = some 1 := by kernel_rfl
@[go_sem] theorem Try.fl1196_1 : fld1T Try.prog 196 1 = some 1 := by kernel_rfl
@[go_sem] theorem Try.pl196_1 : plT Try.prog 196 1 = some 1 := by kernel_rfl
@[go_sem] theorem Try.fld196_2 : fldT Try.prog 196 2 = some 2 := by kernel_rfl
@[go_sem] theorem Try.fl1196_2 : fld1T Try.prog 196 2 = some 2 := by kernel_rfl
@[go_sem] theorem Try.pl196_2 : plT Try.prog 196 2 = some 2 := by kernel_rfl
@[go_sem] theorem Try.plk196 : plOk Try.prog 196 = true := by kernel_rfl
@[go_sem] theorem Try.info196 : infoT Try.prog 196 = some (3, 40, [.val (.slice none 0 0), .val (.int .i64 0), .val (.int .u64 0)]) := by kernel_rfl
@[go_sem] theorem Try.cof196 : Try.prog.cellsOf 196 = 3 := by kernel_rfl
@[go_sem] theorem Try.kind197 : kindT Try.prog 197 = some (some 3) := by kernel_rfl
@[go_sem] theorem Try.fld197_0 : fldT Try.prog 197 0 = some 0 := by kernel_rfl
@[go_sem] theorem Try.fl1197_0 : fld1T Try.prog 197 0 = some 0 := by kernel_rfl
@[go_sem] theorem Try.pl197_0 : plT Try.prog 197 0 = some 0 := by kernel_rfl
@[go_sem] theorem Try.fld197_1 : fldT Try.prog 197 1 = some 1 := by kernel_rfl
@[go_sem] theorem Try.fl1197_1 : fld1T Try.prog 197 1 = some 1 := by kernel_rfl
@[go_sem] theorem Try.pl197_1 : plT Try.prog 197 1 = some 1 := by kernel_rfl
@[go_sem] theorem Try.fld197_2 : fldT Try.prog 197 2 = some 2 := by kernel_rfl
@[go_sem] theorem Try.fl1197_2 : fld1T Try.prog 197 2 = some 2 := by kernel_rfl
@[go_sem] theorem Try.pl197_2 : plT Try.prog 197 2 = some 2 := by kernel_rfl
@[go_sem] theorem Try.plk197 : plOk Try.prog 197 = true := by kernel_rfl
@[go_sem] theorem Try.info197 : infoT Try.prog 197 = some (3, 40, [.val (.slice none 0 0), .val (.int .i64 0), .val (.int .u64 0)]) := by kernel_rfl
@[go_sem] theorem Try.cof197 : Try.prog.cellsOf 197 = 3 := by kernel_rfl
@[go_sem] theorem Try.kind198 : kindT Try.prog 198 = some none := by kernel_rfl
@[go_sem] theorem Try.info198 : infoT Try.prog 198 = some (1, 8, [.val (.int .u64 0)]) := by kernel_rfl
@[go_sem] theorem Try.cof198 : Try.prog.cellsOf 198 = 1 := by kernel_rfl
@[go_sem] theorem Try.und198 : Try.prog.underlying 198 = some (.int .u64) := by kernel_rfl
@[go_sem] theorem Try.kind199 : kindT Try.prog 199 = some none := by kernel_rfl
@[go_sem] theorem Try.cof199 : Try.prog.cellsOf 199 = 1 := by kernel_rfl
@[go_sem] theorem Try.kind200 : kindT Try.prog 200 = some none := by kernel_rfl
@[go_sem] theorem Try.cof200 : Try.prog.cellsOf 200 = 1 := by kernel_rfl
@[go_sem] theorem Try.kind201 : kindT Try.prog 201 = some none := by kernel_rfl
@[go_sem] theorem Try.cof201 : Try.prog.cellsOf 201 = 1 := by kernel_rfl
@[go_sem] theorem Try.kind202 : kindT Try.prog 202 = some none := by kernel_rfl
@[go_sem] theorem Try.cof202 : Try.prog.cellsOf 202 = 1 := by kernel_rfl
@[go_sem] theorem Try.kind203 : kindT Try.prog 203 = some none := by kernel_rfl
@[go_sem] theorem Try.cof203 : Try.prog.cellsOf 203 = 1 := by kernel_rfl
@[go_sem] theorem Try.kind204 : kindT Try.prog 204 = some none := by kernel_rfl
@[go_sem] theorem Try.cof204 : Try.prog.cellsOf 204 = 1 := by kernel_rfl
@[go_sem] theorem Try.kind205 : kindT Try.prog 205 = some none := by kernel_rfl
@[go_sem] theorem Try.cof205 : Try.prog.cellsOf 205 = 1 := by kernel_rfl
@[go_sem] theorem Try.kind206 : kindT Try.prog 206 = some none := by kernel_rfl
@[go_sem] theorem Try.cof206 : Try.prog.cellsOf 206 = 1 := by kernel_rfl
@[go_sem] theorem Try.kind207 : kindT Try.prog 207 = some none := by kernel_rfl
@[go_sem] theorem Try.cof207 : Try.prog.cellsOf 207 = 1 := by kernel_rfl
@[go_sem] theorem Try.kind208 : kindT Try.prog 208 = some none := by kernel_rfl
@[go_sem] theorem Try.cof208 : Try.prog.cellsOf 208 = 1 := by kernel_rfl
@[go_sem] theorem Try.kind209 : kindT Try.prog 209 = some (some 2) := by kernel_rfl
@[go_sem] theorem Try.fld209_0 : fldT Try.prog 209 0 = some 0 := by kernel_rfl
@[go_sem] theorem Try.fl1209_0 : fld1T Try.prog 209 0 = some 0 := by kernel_rfl
@[go_sem] theorem Try.pl209_0 : plT Try.prog 209 0 = some 0 := by kernel_rfl
@[go_sem] theorem Try.fld209_1 : fldT Try.prog 209 1 = some 1 := by kernel_rfl
@[go_sem] theorem Try.fl1209_1 : fld1T Try.prog 209 1 = some 1 := by kernel_rfl
@[go_sem] theorem Try.pl209_1 : plT Try.prog 209 1 = some 1 := by kernel_rfl
@[go_sem] theorem Try.plk209 : plOk Try.prog 209 = true := by kernel_rfl
@[go_sem] theorem Try.info209 : infoT Try.prog 209 = some (2, 32, [.val (.int .i64 0), .val (.slice none 0 0)]) := by kernel_rfl
@[go_sem] theorem Try.cof209 : Try.prog.cellsOf 209 = 2 := by kernel_rfl
@[go_sem] theorem Try.kind210 : kindT Try.prog 210 = some none := by kernel_rfl
@[go_sem] theorem Try.cof210 : Try.prog.cellsOf 210 = 1 := by kernel_rfl
@[go_sem] theorem Try.kind211 : kindT Try.prog 211 = some none := by kernel_rfl
@[go_sem] theorem Try.cof211 : Try.prog.cellsOf 211 = 1 := by kernel_rfl
@[go_sem] theorem Try.kind212 : kindT Try.prog 212 = some none := by kernel_rfl
@[go_sem] theorem Try.cof212 : Try.prog.cellsOf 212 = 1 := by kernel_rfl
@[go_sem] theorem Try.kind213 : kindT Try.prog 213 = some none := by kernel_rfl
@[go_sem] theorem Try.cof213 : Try.prog.cellsOf 213 = 1 := by kernel_rfl
@[go_sem] theorem Try.kind214 : kindT Try.prog 214 = some none := by kernel_rfl
@[go_sem] theorem Try.cof214 : Try.prog.cellsOf 214 = 1 := by kernel_rfl
@[go_sem] theorem Try.kind215 : kindT Try.prog 215 = some none := by kernel_rfl
@[go_sem] theorem Try.cof215 : Try.prog.cellsOf 215 = 1 := by kernel_rfl
@[go_sem] theorem Try.kind216 : kindT Try.prog 216 = some none := by kernel_rfl
@[go_sem] theorem Try.cof216 : Try.prog.cellsOf 216 = 1 := by kernel_rfl
@[go_sem] theorem Try.kind217 : kindT Try.prog 217 = some none := by kernel_rfl
@[go_sem] theorem Try.cof217 : Try.prog.cellsOf 217 = 1 := by kernel_rfl
@[go_sem] theorem Try.kind218 : kindT Try.prog 218 = some none := by kernel_rfl
@[go_sem] theorem Try.cof218 : Try.prog.cellsOf 218 = 1 := by kernel_rfl
@[go_sem] theorem Try.kind219 : kindT Try.prog 219 = some none := by kernel_rfl
@[go_sem] theorem Try.cof219 : Try.prog.cellsOf 219 = 1 := by kernel_rfl
@[go_sem] theorem Try.kind220 : kindT Try.prog 220 = some none := by kernel_rfl
@[go_sem] theorem Try.cof220 : Try.prog.cellsOf 220 = 1 := by kernel_rfl
@[go_sem] theorem Try.kind221 : kindT Try.prog 221 = some none := by kernel_rfl
@[go_sem] theorem Try.elem221 : elemT Try.prog 221 = some 9 := by kernel_rfl
@[go_sem] theorem Try.info221 : infoT Try.prog 221 = some (1, 24, [.val (.slice none 0 0)]) := by kernel_rfl
@[go_sem] theorem Try.cof221 : Try.prog.cellsOf 221 = 1 := by kernel_rfl
theorem Try.und221 : Try.prog.underlying 221 = some (.slice 9) := by kernel_rfl
@[go_sem] theorem Try.kind222 : kindT Try.prog 222 = some none := by kernel_rfl
@[go_sem] theorem Try.cof222 : Try.prog.cellsOf 222 = 1 := by kernel_rfl
@[go_sem] theorem Try.kind223 : kindT Try.prog 223 = some none := by kernel_rfl
@[go_sem] theorem Try.cof223 : Try.prog.cellsOf 223 = 1 := by kernel_rfl
@[go_sem] theorem Try.kind225 : kindT Try.prog 225 = some none := by kernel_rfl
@[go_sem] theorem Try.cof225 : Try.prog.cellsOf 225 = 1 := by kernel_rfl
@[go_sem] theorem Try.kind226 : kindT Try.prog 226 = some none := by kernel_rfl
@[go_sem] theorem Try.cof226 : Try.prog.cellsOf 226 = 1 := by kernel_rfl
@[go_sem] theorem Try.kind227 : kindT Try.prog 227 = some none := by kernel_rfl
@[go_sem] theorem Try.cof227 : Try.prog.cellsOf 227 = 1 := by kernel_rfl
@[go_sem] theorem Try.kind228 : kindT Try.prog 228 = some none := by kernel_rfl
@[go_sem] theorem Try.cof228 : Try.prog.cellsOf 228 = 1 := by kernel_rfl
@[go_sem] theorem Try.kind229 : kindT Try.prog 229 = some none := by kernel_rfl
@[go_sem] theorem Try.cof229 : Try.prog.cellsOf 229 = 1 := by kernel_rfl
@[go_sem] theorem Try.kind230 : kindT Try.prog 230 = some none := by kernel_rfl
@[go_sem] theorem Try.info230 : infoT Try.prog 230 = some (1, 4, [.val (.int .u32 0)]) := by kernel_rfl
@[go_sem] theorem Try.cof230 : Try.prog.cellsOf 230 = 1 := by kernel_rfl
@[go_sem] theorem Try.und230 : Try.prog.underlying 230 = some (.int .u32) := by kernel_rfl
@[go_sem] theorem Try.kind232 : kindT Try.prog 232 = some none := by kernel_rfl
@[go_sem] theorem Try.cof232 : Try.prog.cellsOf 232 = 1 := by kernel_rfl
@[go_sem] theorem Try.kind234 : kindT Try.prog 234 = some none := by kernel_rfl
@[go_sem] theorem Try.cof234 : Try.prog.cellsOf 234 = 1 := by kernel_rfl
@[go_sem] theorem Try.kind235 : kindT Try.prog 235 = some none := by kernel_rfl
@[go_sem] theorem Try.cof235 : Try.prog.cellsOf 235 = 1 := by kernel_rfl
@[go_sem] theorem Try.kind236 : kindT Try.prog 236 = some none := by kernel_rfl
@[go_sem] theorem Try.info236 : infoT Try.prog 236 = some (1, 8, [.val (.int .i64 0)]) := by kernel_rfl
@[go_sem] theorem Try.cof236 : Try.prog.cellsOf 236 = 1 := by kernel_rfl
@[go_sem] theorem Try.und236 : Try.prog.underlying 236 = some (.int .i64) := by kernel_rfl
@[go_sem] theorem Try.kind238 : kindT Try.prog 238 = some none := by kernel_rfl
@[go_sem] theorem Try.cof238 : Try.prog.cellsOf 238 = 1 := by kernel_rfl
@[go_sem] theorem Try.kind239 : kindT Try.prog 239 = some none := by kernel_rfl
@[go_sem] theorem Try.cof239 : Try.prog.cellsOf 239 = 1 := by kernel_rfl
@[go_sem] theorem Try.kind240 : kindT Try.prog 240 = some none := by kernel_rfl
@[go_sem] theorem Try.cof240 : Try.prog.cellsOf 240 = 1 := by kernel_rfl
@[go_sem] theorem Try.kind242 : kindT Try.prog 242 = some none := by kernel_rfl
@[go_sem] theorem Try.cof242 : Try.prog.cellsOf 242 = 1 := by kernel_rfl
@[go_sem] theorem Try.kind243 : kindT Try.prog 243 = some none := by kernel_rfl
@[go_sem] theorem Try.cof243 : Try.prog.cellsOf 243 = 1 := by kernel_rfl
@[go_sem] theorem Try.kind244 : kindT Try.prog 244 = some none := by kernel_rfl
@[go_sem] theorem Try.cof244 : Try.prog.cellsOf 244 = 1 := by kernel_rfl
@[go_sem] theorem Try.kind245 : kindT Try.prog 245 = some none := by kernel_rfl
@[go_sem] theorem Try.info245 : infoT Try.prog 245 = some (1, 8, [.val (.int .u64 0)]) := by kernel_rfl
@[go_sem] theorem Try.cof245 : Try.prog.cellsOf 245 = 1 := by kernel_rfl
@[go_sem] theorem Try.und245 : Try.prog.underlying 245 = some (.int .u64) := by kernel_rfl
@[go_sem] theorem Try.kind246 : kindT Try.prog 246 = some none := by kernel_rfl
@[go_sem] theorem Try.cof246 : Try.prog.cellsOf 246 = 1 := by kernel_rfl
@[go_sem] theorem Try.kind247 : kindT Try.prog 247 = some none := by kernel_rfl
@[go_sem] theorem Try.cof247 : Try.prog.cellsOf 247 = 1 := by kernel_rfl
@[go_sem] theorem Try.kind248 : kindT Try.prog 248 = some none := by kernel_rfl
@[go_sem] theorem Try.cof248 : Try.prog.cellsOf 248 = 1 := by kernel_rfl
@[go_sem] theorem Try.kind249 : kindT Try.prog 249 = some none := by kernel_rfl
@[go_sem] theorem Try.elem249 : elemT Try.prog 249 = none := by kernel_rfl
@[go_sem] theorem Try.cof249 : Try.prog.cellsOf 249 = 1 := by kernel_rfl
@[go_sem] theorem Try.kind250 : kindT Try.prog 250 = some none := by kernel_rfl
@[go_sem] theorem Try.cof250 : Try.prog.cellsOf 250 = 1 := by kernel_rfl
@[go_sem] theorem Try.kind251 : kindT Try.prog 251 = some none := by kernel_rfl
@[go_sem] theorem Try.elem251 : elemT Try.prog 251 = none := by kernel_rfl
@[go_sem] theorem Try.cof251 : Try.prog.cellsOf 251 = 1 := by kernel_rfl
@[go_sem] theorem Try.kind253 : kindT Try.prog 253 = some none := by kernel_rfl
@[go_sem] theorem Try.cof253 : Try.prog.cellsOf 253 = 1 := by kernel_rfl
@[go_sem] theorem Try.kind254 : kindT Try.prog 254 = some none := by kernel_rfl
@[go_sem] theorem Try.cof254 : Try.prog.cellsOf 254 = 1 := by kernel_rfl
@[go_sem] theorem Try.kind255 : kindT Try.prog 255 = some (some 4) := by kernel_rfl
@[go_sem] theorem Try.fld255_0 : fldT Try.prog 255 0 = some 0 := by kernel_rfl
@[go_sem] theorem Try.fl1255_0 : fld1T Try.prog 255 0 = some 0 := by kernel_rfl
@[go_sem] theorem Try.pl255_0 : plT Try.prog 255 0 = some 0 := by kernel_rfl
@[go_sem] theorem Try.fld255_1 : fldT Try.prog 255 1 = some 1 := by kernel_rfl
@[go_sem] theorem Try.fl1255_1 : fld1T Try.prog 255 1 = some 1 := by kernel_rfl
@[go_sem] theorem Try.pl255_1 : plT Try.prog 255 1 = some 1 := by kernel_rfl
@[go_sem] theorem Try.fld255_2 : fldT Try.prog 255 2 = some 2 := by kernel_rfl
@[go_sem] theorem Try.fl1255_2 : fld1T Try.prog 255 2 = some 2 := by kernel_rfl
@[go_sem] theorem Try.pl255_2 : plT Try.prog 255 2 = some 2 := by kernel_rfl
@[go_sem] theorem Try.fld255_3 : fldT Try.prog 255 3 = some 3 := by kernel_rfl
@[go_sem] theorem Try.fl1255_3 : fld1T Try.prog 255 3 = some 3 := by kernel_rfl
@[go_sem] theorem Try.pl255_3 : plT Try.prog 255 3 = some 3 := by kernel_rfl
@[go_sem] theorem Try.plk255 : plOk Try.prog 255 = true := by kernel_rfl
@[go_sem] theorem Try.cof255 : Try.prog.cellsOf 255 = 4 := by kernel_rfl
@[go_sem] theorem Try.kind256 : kindT Try.prog 256 = some (some 4) := by kernel_rfl
@[go_sem] theorem Try.fld256_0 : fldT Try.prog 256 0 = some 0 := by kernel_rfl
@[go_sem] theorem Try.fl1256_0 : fld1T Try.prog 256 0 = some 0 := by kernel_rfl
@[go_sem] theorem Try.pl256_0 : plT Try.prog 256 0 = some 0 := by kernel_rfl
@[go_sem] theorem Try.fld256_1 : fldT Try.prog 256 1 = some 1 := by kernel_rfl
@[go_sem] theorem Try.fl1256_1 : fld1T Try.prog 256 1 = some 1 := by kernel_rfl
@[go_sem] theorem Try.pl256_1 : plT Try.prog 256 1 = some 1 := by kernel_rfl
@[go_sem] theorem Try.fld256_2 : fldT Try.prog 256 2 = some 2 := by kernel_rfl
@[go_sem] theorem Try.fl1256_2 : fld1T Try.prog 256 2 = some 2 := by kernel_rfl
@[go_sem] theorem Try.pl256_2 : plT Try.prog 256 2 = some 2 := by kernel_rfl
@[go_sem] theorem Try.fld256_3 : fldT Try.prog 256 3 = some 3 := by kernel_rfl
@[go_sem] theorem Try.fl1256_3 : fld1T Try.prog 256 3 = some 3 := by kernel_rfl
@[go_sem] theorem Try.pl256_3 : plT Try.prog 256 3 = some 3 := by kernel_rfl
@[go_sem] theorem Try.plk256 : plOk Try.prog 256 = true := by kernel_rfl
@[go_sem] theorem Try.cof256 : Try.prog.cellsOf 256 = 4 := by kernel_rfl
@[go_sem] theorem Try.kind257 : kindT Try.prog 257 = some (some 0) := by kernel_rfl
@[go_sem] theorem Try.elem257 : elemT Try.prog 257 = none := by kernel_rfl
@[go_sem] theorem Try.arr257 : arrT Try.prog 257 = some (0, 1, true) := by kernel_rfl
@[go_sem] theorem Try.plk257 : plOk Try.prog 257 = true := by kernel_rfl
@[go_sem] theorem Try.info257 : infoT Try.prog 257 = some (0, 0, []) := by kernel_rfl
@[go_sem] theorem Try.cof257 : Try.prog.cellsOf 257 = 0 := by kernel_rfl
@[go_sem] theorem Try.kind258 : kindT Try.prog 258 = some (some 0) := by kernel_rfl
@[go_sem] theorem Try.plk258 : plOk Try.prog 258 = true := by kernel_rfl
@[go_sem] theorem Try.info258 : infoT Try.prog 258 = some (0, 0, []) := by kernel_rfl
@[go_sem] theorem Try.cof258 : Try.prog.cellsOf 258 = 0 := by kernel_rfl
@[go_sem] theorem Try.kind259 : kindT Try.prog 259 = some (some 0) := by kernel_rfl
@[go_sem] theorem Try.plk259 : plOk Try.prog 259 = true := by kernel_rfl
@[go_sem] theorem Try.info259 : infoT Try.prog 259 = some (0, 0, []) := by kernel_rfl
@[go_sem] theorem Try.cof259 : Try.prog.cellsOf 259 = 0 := by kernel_rfl
@[go_sem] theorem Try.kind260 : kindT Try.prog 260 = some none := by kernel_rfl
@[go_sem] theorem Try.info260 : infoT Try.prog 260 = some (1, 1, [.val (.int .u8 0)]) := by kernel_rfl
@[go_sem] theorem Try.cof260 : Try.prog.cellsOf 260 = 1 := by kernel_rfl
@[go_sem] theorem Try.und260 : Try.prog.underlying 260 = some (.int .u8) := by kernel_rfl
@[go_sem] theorem Try.kind261 : kindT Try.prog 261 = some none := by kernel_rfl
@[go_sem] theorem Try.info261 : infoT Try.prog 261 = some (1, 1, [.val (.int .u8 0)]) := by kernel_rfl
@[go_sem] theorem Try.cof261 : Try.prog.cellsOf 261 = 1 := by kernel_rfl
@[go_sem] theorem Try.und261 : Try.prog.underlying 261 = some (.int .u8) := by kernel_rfl
@[go_sem] theorem Try.kind262 : kindT Try.prog 262 = some none := by kernel_rfl
@[go_sem] theorem Try.cof262 : Try.prog.cellsOf 262 = 1 := by kernel_rfl
@[go_sem] theorem Try.kind263 : kindT Try.prog 263 = some none := by kernel_rfl
@[go_sem] theorem Try.elem263 : elemT Try.prog 263 = none := by kernel_rfl
@[go_sem] theorem Try.cof263 : Try.prog.cellsOf 263 = 1 := by kernel_rfl
@[go_sem] theorem Try.kind264 : kindT Try.prog 264 = some none := by kernel_rfl
@[go_sem] theorem Try.info264 : infoT Try.prog 264 = some (1, 4, [.val (.int .i32 0)]) := by kernel_rfl
@[go_sem] theorem Try.cof264 : Try.prog.cellsOf 264 = 1 := by kernel_rfl
@[go_sem] theorem Try.und264 : Try.prog.underlying 264 = some (.int .i32) := by kernel_rfl
@[go_sem] theorem Try.kind265 : kindT Try.prog 265 = some none := by kernel_rfl
@[go_sem] theorem Try.info265 : infoT Try.prog 265 = some (1, 4, [.val (.int .i32 0)]) := by kernel_rfl
@[go_sem] theorem Try.cof265 : Try.prog.cellsOf 265 = 1 := by kernel_rfl
@[go_sem] theorem Try.und265 : Try.prog.underlying 265 = some (.int .i32) := by kernel_rfl
@[go_sem] theorem Try.kind266 : kindT Try.prog 266 = some (some 11) := by kernel_rfl
@[go_sem] theorem Try.fld266_0 : fldT Try.prog 266 0 = some 0 := by kernel_rfl
@[go_sem] theorem Try.fl1266_0 : fld1T Try.prog 266 0 = some 0 := by kernel_rfl
@[go_sem] theorem Try.pl266_0 : plT Try.prog 266 0 = some 0 := by kernel_rfl
@[go_sem] theorem Try.fld266_1 : fldT Try.prog 266 1 = some 1 := by kernel_rfl
@[go_sem] theorem Try.fl1266_1 : fld1T Try.prog 266 1 = some 1 := by kernel_rfl
@[go_sem] theorem Try.pl266_1 : plT Try.prog 266 1 = some 1 := by kernel_rfl
@[go_sem] theorem Try.fld266_2 : fldT Try.prog 266 2 = some 2 := by kernel_rfl
@[go_sem] theorem Try.fl1266_2 : fld1T Try.prog 266 2 = some 2 := by kernel_rfl
@[go_sem] theorem Try.pl266_2 : plT Try.prog 266 2 = some 2 := by kernel_rfl
@[go_sem] theorem Try.fld266_3 : fldT Try.prog 266 3 = some 3 := by kernel_rfl
@[go_sem] theorem Try.fl1266_3 : fld1T Try.prog 266 3 = some 3 := by kernel_rfl
@[go_sem] theorem Try.pl266_3 : plT Try.prog 266 3 = some 3 := by kernel_rfl
@[go_sem] theorem Try.fld266_4 : fldT Try.prog 266 4 = some 4 := by kernel_rfl
@[go_sem] theorem Try.fl1266_4 : fld1T Try.prog 266 4 = some 4 := by kernel_rfl
@[go_sem] theorem Try.pl266_4 : plT Try.prog 266 4 = some 4 := by kernel_rfl
@[go_sem] theorem Try.fld266_5 : fldT Try.prog 266 5 = some 5 := by kernel_rfl
@[go_sem] theorem Try.fl1266_5 : fld1T Try.prog 266 5 = some 5 := by kernel_rfl
@[go_sem] theorem Try.pl266_5 : plT Try.prog 266 5 = some 5 := by kernel_rfl
@[go_sem] theorem Try.fld266_6 : fldT Try.prog 266 6 = some 6 := by kernel_rfl
@[go_sem] theorem Try.fl1266_6 : fld1T Try.prog 266 6 = some 6 := by kernel_rfl
@[go_sem] theorem Try.pl266_6 : plT Try.prog 266 6 = some 6 := by kernel_rfl
@[go_sem] theorem Try.fld266_7 : fldT Try.prog 266 7 = some 7 := by kernel_rfl
@[go_sem] theorem Try.fl1266_7 : fld1T Try.prog 266 7 = some 7 := by kernel_rfl
@[go_sem] theorem Try.pl266_7 : plT Try.prog 266 7 = some 7 := by kernel_rfl
@[go_sem] theorem Try.fld266_8 : fldT Try.prog 266 8 = some 8 := by kernel_rfl
@[go_sem] theorem Try.fl1266_8 : fld1T Try.prog 266 8 = some 8 := by kernel_rfl
@[go_sem] theorem Try.pl266_8 : plT Try.prog 266 8 = some 8 := by kernel_rfl
@[go_sem] theorem Try.fld266_9 : fldT Try.prog 266 9 = some 9 := by kernel_rfl
@[go_sem] theorem Try.fl1266_9 : fld1T Try.prog 266 9 = some 9 := by kernel_rfl
@[go_sem] theorem Try.pl266_9 : plT Try.prog 266 9 = some 9 := by kernel_rfl
@[go_sem] theorem Try.fld266_10 : fldT Try.prog 266 10 = some 10 := by kernel_rfl
@[go_sem] theorem Try.fl1266_10 : fld1T Try.prog 266 10 = some 10 := by kernel_rfl
@[go_sem] theorem Try.pl266_10 : plT Try.prog 266 10 = some 10 := by kernel_rfl
@[go_sem] theorem Try.plk266 : plOk Try.prog 266 = true := by kernel_rfl
@[go_sem] theorem Try.cof266 : Try.prog.cellsOf 266 = 11 := by kernel_rfl
@[go_sem] theorem Try.kind267 : kindT Try.prog 267 = some (some 11) := by kernel_rfl
@[go_sem] theorem Try.fld267_0 : fldT Try.prog 267 0 = some 0 := by kernel_rfl
@[go_sem] theorem Try.fl1267_0 : fld1T Try.prog 267 0 = some 0 := by kernel_rfl
@[go_sem] theorem Try.pl267_0 : plT Try.prog 267 0 = some 0 := by kernel_rfl
@[go_sem] theorem Try.fld267_1 : fldT Try.prog 267 1 = some 1 := by kernel_rfl
@[go_sem] theorem Try.fl1267_1 : fld1T Try.prog 267 1 = some 1 := by kernel_rfl
@[go_sem] theorem Try.pl267_1 : plT Try.prog 267 1 = some 1 := by kernel_rfl
@[go_sem] theorem Try.fld267_2 : fldT Try.prog 267 2 = some 2 := by kernel_rfl
@[go_sem] theorem Try.fl1267_2 : fld1T Try.prog 267 2 = some 2 := by kernel_rfl
@[go_sem] theorem Try.pl267_2 : plT Try.prog 267 2 = some 2 := by kernel_rfl
@[go_sem] theorem Try.fld267_3 : fldT Try.prog 267 3 = some 3 := by kernel_rfl
@[go_sem] theorem Try.fl1267_3 : fld1T Try.prog 267 3 = some 3 := by kernel_rfl
@[go_sem] theorem Try.pl267_3 : plT Try.prog 267 3 = some 3 := by kernel_rfl
@[go_sem] theorem Try.fld267_4 : fldT Try.prog 267 4 = some 4 := by kernel_rfl
@[go_sem] theorem Try.fl1267_4 : fld1T Try.prog 267 4 = some 4 := by kernel_rfl
@[go_sem] theorem Try.pl267_4 : plT Try.prog 267 4 = some 4 := by kernel_rfl
@[go_sem] theorem Try.fld267_5 : fldT Try.prog 267 5 = some 5 := by kernel_rfl
@[go_sem] theorem Try.fl1267_5 : fld1T Try.prog 267 5 = some 5 := by kernel_rfl
@[go_sem] theorem Try.pl267_5 : plT Try.prog 267 5 = some 5 := by kernel_rfl
@[go_sem] theorem Try.fld267_6 : fldT Try.prog 267 6 = some 6 := by kernel_rfl
@[go_sem] theorem Try.fl1267_6 : fld1T Try.prog 267 6 = some 6 := by kernel_rfl
@[go_sem] theorem Try.pl267_6 : plT Try.prog 267 6 = some 6 := by kernel_rfl
@[go_sem] theorem Try.fld267_7 : fldT Try.prog 267 7 = some 7 := by kernel_rfl
@[go_sem] theorem Try.fl1267_7 : fld1T Try.prog 267 7 = some 7 := by kernel_rfl
@[go_sem] theorem Try.pl267_7 : plT Try.prog 267 7 = some 7 := by kernel_rfl
@[go_sem] theorem Try.fld267_8 : fldT Try.prog 267 8 = some 8 := by kernel_rfl
@[go_sem] theorem Try.fl1267_8 : fld1T Try.prog 267 8 = some 8 := by kernel_rfl
@[go_sem] theorem Try.pl267_8 : plT Try.prog 267 8 = some 8 := by kernel_rfl
@[go_sem] theorem Try.fld267_9 : fldT Try.prog 267 9 = some 9 := by kernel_rfl
@[go_sem] theorem Try.fl1267_9 : fld1T Try.prog 267 9 = some 9 := by kernel_rfl
@[go_sem] theorem Try.pl267_9 : plT Try.prog 267 9 = some 9 := by kernel_rfl
@[go_sem] theorem Try.fld267_10 : fldT Try.prog 267 10 = some 10 := by kernel_rfl
@[go_sem] theorem Try.fl1267_10 : fld1T Try.prog 267 10 = some 10 := by kernel_rfl
@[go_sem] theorem Try.pl267_10 : plT Try.prog 267 10 = some 10 := by kernel_rfl
@[go_sem] theorem Try.plk267 : plOk Try.prog 267 = true := by kernel_rfl
@[go_sem] theorem Try.cof267 : Try.prog.cellsOf 267 = 11 := by kernel_rfl
@[go_sem] theorem Try.kind268 : kindT Try.prog 268 = some none := by kernel_rfl
@[go_sem] theorem Try.cof268 : Try.prog.cellsOf 268 = 1 := by kernel_rfl
@[go_sem] theorem Try.kind269 : kindT Try.prog 269 = some none := by kernel_rfl
@[go_sem] theorem Try.cof269 : Try.prog.cellsOf 269 = 1 := by kernel_rfl
end Go.Proofs

/- Layings of the library's sort at the program's own types. -/
namespace Go.Proofs.Ytjpeakcapddimaa
open Go.Shelf Go.Sort
set_option maxRecDepth 100000
def Try.sortMon_ren : Go.Shelf.Ren := ⟨fun | 6 => 229 | 15 => 249 | 14 => 248 | 28 => 265 | 29 => 266 | 20 => 257 | 21 => 258 | 22 => 259 | 23 => 260 | 24 => 261 | 25 => 262 | 26 => 263 | 27 => 264 | 46 => 267 | 47 => 268 | 48 => 269 | 49 => 270 | 50 => 271 | 57 => 272 | n => n, fun | 22 => 95 | 24 => 111 | 25 => 212 | 3 => 3 | 39 => 198 | 0 => 0 | 53 => 230 | 55 => 76 | 4 => 4 | 46 => 237 | 45 => 236 | 50 => 241 | 5 => 5 | 9 => 9 | 66 => 245 | 70 => 249 | 76 => 251 | 77 => 252 | n => n, fun | n => n⟩
theorem Try.sortMon : Go.Proofs.SlLaysF0.n6 Try.prog Try.sortMon_ren := {
  mixed := by kernel_rfl,
  f6 := ⟨Try.f229.name, by decide, Try.func229.trans (congrArg some (by kernel_rfl))⟩,
  f14 := ⟨Try.f248.name, by decide, Try.func248.trans (congrArg some (by kernel_rfl))⟩,
  f15 := Try.func249.trans (congrArg some (by kernel_rfl)),
  f20 := ⟨Try.f257.name, by decide, Try.func257.trans (congrArg some (by kernel_rfl))⟩,
  f21 := ⟨Try.f258.name, by decide, Try.func258.trans (congrArg some (by kernel_rfl))⟩,
  f22 := ⟨Try.f259.name, by decide, Try.func259.trans (congrArg some (by kernel_rfl))⟩,
  f23 := ⟨Try.f260.name, by decide, Try.func260.trans (congrArg some (by kernel_rfl))⟩,
  f24 := ⟨Try.f261.name, by decide, Try.func261.trans (congrArg some (by kernel_rfl))⟩,
  f25 := ⟨Try.f262.name, by decide, Try.func262.trans (congrArg some (by kernel_rfl))⟩,
  f26 := ⟨Try.f263.name, by decide, Try.func263.trans (congrArg some (by kernel_rfl))⟩,
  f27 := ⟨Try.f264.name, by decide, Try.func264.trans (congrArg some (by kernel_rfl))⟩,
  f28 := Try.func265.trans (congrArg some (by kernel_rfl)),
  f29 := Try.func266.trans (congrArg some (by kernel_rfl)),
  f46 := ⟨Try.f267.name, by decide, Try.func267.trans (congrArg some (by kernel_rfl))⟩,
  f47 := Try.func268.trans (congrArg some (by kernel_rfl)),
  f48 := Try.func269.trans (congrArg some (by kernel_rfl)),
  f49 := ⟨Try.f270.name, by decide, Try.func270.trans (congrArg some (by kernel_rfl))⟩,
  f50 := ⟨Try.f271.name, by decide, Try.func271.trans (congrArg some (by kernel_rfl))⟩,
  f57 := ⟨Try.f272.name, by decide, Try.func272.trans (congrArg some (by kernel_rfl))⟩,
  t0 := Try.underlying0,
  a0 := Try.isAgg0,
  z0 := Try.sizeOf0,
  v0 := Try.zeroValue0,
  t3 := Try.underlying3,
  a3 := Try.isAgg3,
  z3 := Try.sizeOf3,
  v3 := Try.zeroValue3,
  t4 := Try.underlying4,
  a4 := Try.isAgg4,
  z4 := Try.sizeOf4,
  v4 := Try.zeroValue4,
  t5 := Try.underlying5,
  a5 := Try.isAgg5,
  z5 := Try.sizeOf5,
  v5 := Try.zeroValue5,
  t9 := Try.underlying9,
  a9 := Try.isAgg9,
  z9 := Try.sizeOf9,
  v9 := Try.zeroValue9,
  t22 := Try.underlying95,
  a22 := Try.isAgg95,
  z22 := Try.sizeOf95,
  v22 := Try.zeroValue95,
  t25 := Try.underlying212,
  a25 := Try.isAgg212,
  z25 := Try.sizeOf212,
  v25 := Try.zeroValue212,
  t39 := Try.underlying198,
  a39 := Try.isAgg198,
  z39 := Try.sizeOf198,
  v39 := Try.zeroValue198,
  t45 := Try.underlying236,
  a45 := Try.isAgg236,
  z45 := Try.sizeOf236,
  v45 := Try.zeroValue236,
  t46 := Try.underlying237,
  a46 := Try.isAgg237,
  z46 := Try.sizeOf237,
  v46 := Try.zeroValue237,
  t50 := Try.underlying241,
  a50 := Try.isAgg241,
  z50 := Try.sizeOf241,
  v50 := Try.zeroValue241,
  t53 := Try.underlying230,
  a53 := Try.isAgg230,
  z53 := Try.sizeOf230,
  v53 := Try.zeroValue230,
  t55 := Try.underlying76,
  a55 := Try.isAgg76,
  z55 := Try.sizeOf76,
  v55 := Try.zeroValue76,
  t66 := Try.underlying245,
  a66 := Try.isAgg245,
  z66 := Try.sizeOf245,
  v66 := Try.zeroValue245,
  t70 := Try.underlying249,
  a70 := Try.isAgg249,
  z70 := Try.sizeOf249,
  v70 := Try.zeroValue249,
  t76 := Try.underlying251,
  a76 := Try.isAgg251,
  z76 := Try.sizeOf251,
  v76 := Try.zeroValue251,
  t77 := Try.underlying252,
  a77 := Try.isAgg252,
  z77 := Try.sizeOf252,
  v77 := Try.zeroValue252 }
end Go.Proofs.Ytjpeakcapddimaa
