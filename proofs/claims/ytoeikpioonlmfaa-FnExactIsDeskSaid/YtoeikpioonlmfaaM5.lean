/- Texts of the own layer and contracts, part 5: Tab Srt. -/
import Derived.Test.YtoeikpioonlmfaaProg
import Derived.KernelRfl
import Derived.Shelf.SlSortCmp.NoneTotal
import Derived.Test.YtoeikpioonlmfaaM4
/- What the loaded program says of its types. Written by a program (gentab.py). -/
namespace Go.Proofs
open Go.Abs
instance Try.drawK : DrawK := ⟨0⟩
theorem Try.mixed : Try.prog.follows .mixedOrders = true := by kernel_rfl
@[go_sem] theorem Try.kind1 : kindT Try.prog 1 = some none := by kernel_rfl
@[go_sem] theorem Try.cof1 : Try.prog.cellsOf 1 = 1 := by kernel_rfl
@[go_sem] theorem Try.kind2 : kindT Try.prog 2 = some none := by kernel_rfl
@[go_sem] theorem Try.info2 : infoT Try.prog 2 = some (1, 8, [.val (.int .i64 0)]) := by kernel_rfl
@[go_sem] theorem Try.cof2 : Try.prog.cellsOf 2 = 1 := by kernel_rfl
@[go_sem] theorem Try.und2 : Try.prog.underlying 2 = some (.int .i64) := by kernel_rfl
@[go_sem] theorem Try.kind3 : kindT Try.prog 3 = some none := by kernel_rfl
@[go_sem] theorem Try.info3 : infoT Try.prog 3 = some (1, 8, [.val (.int .i64 0)]) := by kernel_rfl
@[go_sem] theorem Try.cof3 : Try.prog.cellsOf 3 = 1 := by kernel_rfl
@[go_sem] theorem Try.und3 : Try.prog.underlying 3 = some (.int .i64) := by kernel_rfl
@[go_sem] theorem Try.kind4 : kindT Try.prog 4 = some none := by kernel_rfl
@[go_sem] theorem Try.isbool4 : boolT Try.prog 4 = true := by kernel_rfl
@[go_sem] theorem Try.info4 : infoT Try.prog 4 = some (1, 1, [.val (.bool false)]) := by kernel_rfl
@[go_sem] theorem Try.cof4 : Try.prog.cellsOf 4 = 1 := by kernel_rfl
@[go_sem] theorem Try.kind5 : kindT Try.prog 5 = some none := by kernel_rfl
@[go_sem] theorem Try.info5 : infoT Try.prog 5 = some (1, 1, [.val (.int .u8 0)]) := by kernel_rfl
@[go_sem] theorem Try.cof5 : Try.prog.cellsOf 5 = 1 := by kernel_rfl
@[go_sem] theorem Try.und5 : Try.prog.underlying 5 = some (.int .u8) := by kernel_rfl
@[go_sem] theorem Try.kind6 : kindT Try.prog 6 = some none := by kernel_rfl
@[go_sem] theorem Try.info6 : infoT Try.prog 6 = some (1, 1, [.val (.int .u8 0)]) := by kernel_rfl
@[go_sem] theorem Try.cof6 : Try.prog.cellsOf 6 = 1 := by kernel_rfl
@[go_sem] theorem Try.und6 : Try.prog.underlying 6 = some (.int .u8) := by kernel_rfl
@[go_sem] theorem Try.kind7 : kindT Try.prog 7 = some (some 4) := by kernel_rfl
@[go_sem] theorem Try.fld7_0 : fldT Try.prog 7 0 = some 0 := by kernel_rfl
@[go_sem] theorem Try.fl17_0 : fld1T Try.prog 7 0 = some 0 := by kernel_rfl
@[go_sem] theorem Try.pl7_0 : plT Try.prog 7 0 = some 0 := by kernel_rfl
@[go_sem] theorem Try.fld7_1 : fldT Try.prog 7 1 = some 1 := by kernel_rfl
@[go_sem] theorem Try.fl17_1 : fld1T Try.prog 7 1 = some 1 := by kernel_rfl
@[go_sem] theorem Try.pl7_1 : plT Try.prog 7 1 = some 1 := by kernel_rfl
@[go_sem] theorem Try.fld7_2 : fldT Try.prog 7 2 = some 2 := by kernel_rfl
@[go_sem] theorem Try.fl17_2 : fld1T Try.prog 7 2 = some 2 := by kernel_rfl
@[go_sem] theorem Try.pl7_2 : plT Try.prog 7 2 = some 2 := by kernel_rfl
@[go_sem] theorem Try.fld7_3 : fldT Try.prog 7 3 = some 3 := by kernel_rfl
@[go_sem] theorem Try.fl17_3 : fld1T Try.prog 7 3 = some 3 := by kernel_rfl
@[go_sem] theorem Try.pl7_3 : plT Try.prog 7 3 = some 3 := by kernel_rfl
@[go_sem] theorem Try.plk7 : plOk Try.prog 7 = true := by kernel_rfl
@[go_sem] theorem Try.info7 : infoT Try.prog 7 = some (4, 24, [.val (.int .i64 0), .val (.int .i64 0), .val (.bool false), .val (.int .u8 0)]) := by kernel_rfl
@[go_sem] theorem Try.cof7 : Try.prog.cellsOf 7 = 4 := by kernel_rfl
@[go_sem] theorem Try.kind8 : kindT Try.prog 8 = some (some 4) := by kernel_rfl
@[go_sem] theorem Try.fld8_0 : fldT Try.prog 8 0 = some 0 := by kernel_rfl
@[go_sem] theorem Try.fl18_0 : fld1T Try.prog 8 0 = some 0 := by kernel_rfl
@[go_sem] theorem Try.pl8_0 : plT Try.prog 8 0 = some 0 := by kernel_rfl
@[go_sem] theorem Try.fld8_1 : fldT Try.prog 8 1 = some 1 := by kernel_rfl
@[go_sem] theorem Try.fl18_1 : fld1T Try.prog 8 1 = some 1 := by kernel_rfl
@[go_sem] theorem Try.pl8_1 : plT Try.prog 8 1 = some 1 := by kernel_rfl
@[go_sem] theorem Try.fld8_2 : fldT Try.prog 8 2 = some 2 := by kernel_rfl
@[go_sem] theorem Try.fl18_2 : fld1T Try.prog 8 2 = some 2 := by kernel_rfl
@[go_sem] theorem Try.pl8_2 : plT Try.prog 8 2 = some 2 := by kernel_rfl
@[go_sem] theorem Try.fld8_3 : fldT Try.prog 8 3 = some 3 := by kernel_rfl
@[go_sem] theorem Try.fl18_3 : fld1T Try.prog 8 3 = some 3 := by kernel_rfl
@[go_sem] theorem Try.pl8_3 : plT Try.prog 8 3 = some 3 := by kernel_rfl
@[go_sem] theorem Try.plk8 : plOk Try.prog 8 = true := by kernel_rfl
@[go_sem] theorem Try.info8 : infoT Try.prog 8 = some (4, 24, [.val (.int .i64 0), .val (.int .i64 0), .val (.bool false), .val (.int .u8 0)]) := by kernel_rfl
@[go_sem] theorem Try.cof8 : Try.prog.cellsOf 8 = 4 := by kernel_rfl
@[go_sem] theorem Try.kind9 : kindT Try.prog 9 = some none := by kernel_rfl
@[go_sem] theorem Try.elem9 : elemT Try.prog 9 = none := by kernel_rfl
@[go_sem] theorem Try.info9 : infoT Try.prog 9 = some (1, 16, [.val (.string ⟨#[]⟩)]) := by kernel_rfl
@[go_sem] theorem Try.cof9 : Try.prog.cellsOf 9 = 1 := by kernel_rfl
theorem Try.und9 : Try.prog.underlying 9 = some (.string) := by kernel_rfl
@[go_sem] theorem Try.kind10 : kindT Try.prog 10 = some none := by kernel_rfl
@[go_sem] theorem Try.elem10 : elemT Try.prog 10 = none := by kernel_rfl
@[go_sem] theorem Try.info10 : infoT Try.prog 10 = some (1, 16, [.val (.string ⟨#[]⟩)]) := by kernel_rfl
@[go_sem] theorem Try.cof10 : Try.prog.cellsOf 10 = 1 := by kernel_rfl
theorem Try.und10 : Try.prog.underlying 10 = some (.string) := by kernel_rfl
@[go_sem] theorem Try.kind11 : kindT Try.prog 11 = some none := by kernel_rfl
@[go_sem] theorem Try.elem11 : elemT Try.prog 11 = none := by kernel_rfl
@[go_sem] theorem Try.info11 : infoT Try.prog 11 = some (1, 16, [.val (.string ⟨#[]⟩)]) := by kernel_rfl
@[go_sem] theorem Try.cof11 : Try.prog.cellsOf 11 = 1 := by kernel_rfl
theorem Try.und11 : Try.prog.underlying 11 = some (.string) := by kernel_rfl
@[go_sem] theorem Try.kind12 : kindT Try.prog 12 = some none := by kernel_rfl
@[go_sem] theorem Try.info12 : infoT Try.prog 12 = some (1, 8, [.val (.int .u64 0)]) := by kernel_rfl
@[go_sem] theorem Try.cof12 : Try.prog.cellsOf 12 = 1 := by kernel_rfl
@[go_sem] theorem Try.und12 : Try.prog.underlying 12 = some (.int .u64) := by kernel_rfl
@[go_sem] theorem Try.kind13 : kindT Try.prog 13 = some (some 2) := by kernel_rfl
@[go_sem] theorem Try.fld13_0 : fldT Try.prog 13 0 = some 0 := by kernel_rfl
@[go_sem] theorem Try.fl113_0 : fld1T Try.prog 13 0 = some 0 := by kernel_rfl
@[go_sem] theorem Try.pl13_0 : plT Try.prog 13 0 = some 0 := by kernel_rfl
@[go_sem] theorem Try.fld13_1 : fldT Try.prog 13 1 = some 1 := by kernel_rfl
@[go_sem] theorem Try.fl113_1 : fld1T Try.prog 13 1 = some 1 := by kernel_rfl
@[go_sem] theorem Try.pl13_1 : plT Try.prog 13 1 = some 1 := by kernel_rfl
@[go_sem] theorem Try.plk13 : plOk Try.prog 13 = true := by kernel_rfl
@[go_sem] theorem Try.info13 : infoT Try.prog 13 = some (2, 24, [.val (.string ⟨#[]⟩), .val (.int .u64 0)]) := by kernel_rfl
@[go_sem] theorem Try.cof13 : Try.prog.cellsOf 13 = 2 := by kernel_rfl
@[go_sem] theorem Try.kind14 : kindT Try.prog 14 = some (some 2) := by kernel_rfl
@[go_sem] theorem Try.fld14_0 : fldT Try.prog 14 0 = some 0 := by kernel_rfl
@[go_sem] theorem Try.fl114_0 : fld1T Try.prog 14 0 = some 0 := by kernel_rfl
@[go_sem] theorem Try.pl14_0 : plT Try.prog 14 0 = some 0 := by kernel_rfl
@[go_sem] theorem Try.fld14_1 : fldT Try.prog 14 1 = some 1 := by kernel_rfl
@[go_sem] theorem Try.fl114_1 : fld1T Try.prog 14 1 = some 1 := by kernel_rfl
@[go_sem] theorem Try.pl14_1 : plT Try.prog 14 1 = some 1 := by kernel_rfl
@[go_sem] theorem Try.plk14 : plOk Try.prog 14 = true := by kernel_rfl
@[go_sem] theorem Try.info14 : infoT Try.prog 14 = some (2, 24, [.val (.string ⟨#[]⟩), .val (.int .u64 0)]) := by kernel_rfl
@[go_sem] theorem Try.cof14 : Try.prog.cellsOf 14 = 2 := by kernel_rfl
@[go_sem] theorem Try.kind15 : kindT Try.prog 15 = some none := by kernel_rfl
@[go_sem] theorem Try.elem15 : elemT Try.prog 15 = none := by kernel_rfl
@[go_sem] theorem Try.cof15 : Try.prog.cellsOf 15 = 1 := by kernel_rfl
@[go_sem] theorem Try.kind16 : kindT Try.prog 16 = some none := by kernel_rfl
@[go_sem] theorem Try.elem16 : elemT Try.prog 16 = none := by kernel_rfl
@[go_sem] theorem Try.cof16 : Try.prog.cellsOf 16 = 1 := by kernel_rfl
@[go_sem] theorem Try.kind17 : kindT Try.prog 17 = some none := by kernel_rfl
@[go_sem] theorem Try.elem17 : elemT Try.prog 17 = none := by kernel_rfl
@[go_sem] theorem Try.cof17 : Try.prog.cellsOf 17 = 1 := by kernel_rfl
@[go_sem] theorem Try.kind18 : kindT Try.prog 18 = some (some 1) := by kernel_rfl
@[go_sem] theorem Try.fld18_0 : fldT Try.prog 18 0 = some 0 := by kernel_rfl
@[go_sem] theorem Try.fl118_0 : fld1T Try.prog 18 0 = some 0 := by kernel_rfl
@[go_sem] theorem Try.pl18_0 : plT Try.prog 18 0 = some 0 := by kernel_rfl
@[go_sem] theorem Try.plk18 : plOk Try.prog 18 = true := by kernel_rfl
@[go_sem] theorem Try.cof18 : Try.prog.cellsOf 18 = 1 := by kernel_rfl
@[go_sem] theorem Try.kind19 : kindT Try.prog 19 = some (some 1) := by kernel_rfl
@[go_sem] theorem Try.fld19_0 : fldT Try.prog 19 0 = some 0 := by kernel_rfl
@[go_sem] theorem Try.fl119_0 : fld1T Try.prog 19 0 = some 0 := by kernel_rfl
@[go_sem] theorem Try.pl19_0 : plT Try.prog 19 0 = some 0 := by kernel_rfl
@[go_sem] theorem Try.plk19 : plOk Try.prog 19 = true := by kernel_rfl
@[go_sem] theorem Try.cof19 : Try.prog.cellsOf 19 = 1 := by kernel_rfl
@[go_sem] theorem Try.kind21 : kindT Try.prog 21 = some none := by kernel_rfl
@[go_sem] theorem Try.info21 : infoT Try.prog 21 = some (1, 4, [.val (.int .i32 0)]) := by kernel_rfl
@[go_sem] theorem Try.cof21 : Try.prog.cellsOf 21 = 1 := by kernel_rfl
@[go_sem] theorem Try.und21 : Try.prog.underlying 21 = some (.int .i32) := by kernel_rfl
@[go_sem] theorem Try.kind22 : kindT Try.prog 22 = some none := by kernel_rfl
@[go_sem] theorem Try.elem22 : elemT Try.prog 22 = some 2 := by kernel_rfl
@[go_sem] theorem Try.info22 : infoT Try.prog 22 = some (1, 24, [.val (.slice none 0 0)]) := by kernel_rfl
@[go_sem] theorem Try.cof22 : Try.prog.cellsOf 22 = 1 := by kernel_rfl
theorem Try.und22 : Try.prog.underlying 22 = some (.slice 2) := by kernel_rfl
@[go_sem] theorem Try.kind23 : kindT Try.prog 23 = some none := by kernel_rfl
@[go_sem] theorem Try.elem23 : elemT Try.prog 23 = some 22 := by kernel_rfl
@[go_sem] theorem Try.info23 : infoT Try.prog 23 = some (1, 24, [.val (.slice none 0 0)]) := by kernel_rfl
@[go_sem] theorem Try.cof23 : Try.prog.cellsOf 23 = 1 := by kernel_rfl
theorem Try.und23 : Try.prog.underlying 23 = some (.slice 22) := by kernel_rfl
@[go_sem] theorem Try.kind24 : kindT Try.prog 24 = some (some 2) := by kernel_rfl
@[go_sem] theorem Try.fld24_0 : fldT Try.prog 24 0 = some 0 := by kernel_rfl
@[go_sem] theorem Try.fl124_0 : fld1T Try.prog 24 0 = some 0 := by kernel_rfl
@[go_sem] theorem Try.pl24_0 : plT Try.prog 24 0 = some 0 := by kernel_rfl
@[go_sem] theorem Try.fld24_1 : fldT Try.prog 24 1 = some 1 := by kernel_rfl
@[go_sem] theorem Try.fl124_1 : fld1T Try.prog 24 1 = some 1 := by kernel_rfl
@[go_sem] theorem Try.pl24_1 : plT Try.prog 24 1 = some 1 := by kernel_rfl
@[go_sem] theorem Try.plk24 : plOk Try.prog 24 = true := by kernel_rfl
@[go_sem] theorem Try.info24 : infoT Try.prog 24 = some (2, 48, [.val (.slice none 0 0), .val (.slice none 0 0)]) := by kernel_rfl
@[go_sem] theorem Try.cof24 : Try.prog.cellsOf 24 = 2 := by kernel_rfl
@[go_sem] theorem Try.kind25 : kindT Try.prog 25 = some (some 2) := by kernel_rfl
@[go_sem] theorem Try.fld25_0 : fldT Try.prog 25 0 = some 0 := by kernel_rfl
@[go_sem] theorem Try.fl125_0 : fld1T Try.prog 25 0 = some 0 := by kernel_rfl
@[go_sem] theorem Try.pl25_0 : plT Try.prog 25 0 = some 0 := by kernel_rfl
@[go_sem] theorem Try.fld25_1 : fldT Try.prog 25 1 = some 1 := by kernel_rfl
@[go_sem] theorem Try.fl125_1 : fld1T Try.prog 25 1 = some 1 := by kernel_rfl
@[go_sem] theorem Try.pl25_1 : plT Try.prog 25 1 = some 1 := by kernel_rfl
@[go_sem] theorem Try.plk25 : plOk Try.prog 25 = true := by kernel_rfl
@[go_sem] theorem Try.info25 : infoT Try.prog 25 = some (2, 48, [.val (.slice none 0 0), .val (.slice none 0 0)]) := by kernel_rfl
@[go_sem] theorem Try.cof25 : Try.prog.cellsOf 25 = 2 := by kernel_rfl
@[go_sem] theorem Try.kind26 : kindT Try.prog 26 = some none := by kernel_rfl
@[go_sem] theorem Try.elem26 : elemT Try.prog 26 = some 68 := by kernel_rfl
@[go_sem] theorem Try.info26 : infoT Try.prog 26 = some (1, 24, [.val (.slice none 0 0)]) := by kernel_rfl
@[go_sem] theorem Try.cof26 : Try.prog.cellsOf 26 = 1 := by kernel_rfl
theorem Try.und26 : Try.prog.underlying 26 = some (.slice 68) := by kernel_rfl
@[go_sem] theorem Try.kind27 : kindT Try.prog 27 = some (some 2) := by kernel_rfl
@[go_sem] theorem Try.fld27_0 : fldT Try.prog 27 0 = some 0 := by kernel_rfl
@[go_sem] theorem Try.fl127_0 : fld1T Try.prog 27 0 = some 0 := by kernel_rfl
@[go_sem] theorem Try.pl27_0 : plT Try.prog 27 0 = some 0 := by kernel_rfl
@[go_sem] theorem Try.fld27_1 : fldT Try.prog 27 1 = some 1 := by kernel_rfl
@[go_sem] theorem Try.fl127_1 : fld1T Try.prog 27 1 = some 1 := by kernel_rfl
@[go_sem] theorem Try.pl27_1 : plT Try.prog 27 1 = some 1 := by kernel_rfl
@[go_sem] theorem Try.plk27 : plOk Try.prog 27 = true := by kernel_rfl
@[go_sem] theorem Try.info27 : infoT Try.prog 27 = some (2, 32, [.val (.int .i64 0), .val (.slice none 0 0)]) := by kernel_rfl
@[go_sem] theorem Try.cof27 : Try.prog.cellsOf 27 = 2 := by kernel_rfl
@[go_sem] theorem Try.kind28 : kindT Try.prog 28 = some (some 2) := by kernel_rfl
@[go_sem] theorem Try.fld28_0 : fldT Try.prog 28 0 = some 0 := by kernel_rfl
@[go_sem] theorem Try.fl128_0 : fld1T Try.prog 28 0 = some 0 := by kernel_rfl
@[go_sem] theorem Try.pl28_0 : plT Try.prog 28 0 = some 0 := by kernel_rfl
@[go_sem] theorem Try.fld28_1 : fldT Try.prog 28 1 = some 1 := by kernel_rfl
@[go_sem] theorem Try.fl128_1 : fld1T Try.prog 28 1 = some 1 := by kernel_rfl
@[go_sem] theorem Try.pl28_1 : plT Try.prog 28 1 = some 1 := by kernel_rfl
@[go_sem] theorem Try.plk28 : plOk Try.prog 28 = true := by kernel_rfl
@[go_sem] theorem Try.info28 : infoT Try.prog 28 = some (2, 32, [.val (.int .i64 0), .val (.slice none 0 0)]) := by kernel_rfl
@[go_sem] theorem Try.cof28 : Try.prog.cellsOf 28 = 2 := by kernel_rfl
@[go_sem] theorem Try.kind29 : kindT Try.prog 29 = some (some 7) := by kernel_rfl
@[go_sem] theorem Try.fld29_0 : fldT Try.prog 29 0 = some 0 := by kernel_rfl
@[go_sem] theorem Try.fl129_0 : fld1T Try.prog 29 0 = some 0 := by kernel_rfl
@[go_sem] theorem Try.pl29_0 : plT Try.prog 29 0 = some 0 := by kernel_rfl
@[go_sem] theorem Try.fld29_1 : fldT Try.prog 29 1 = some 1 := by kernel_rfl
@[go_sem] theorem Try.fl129_1 : fld1T Try.prog 29 1 = some 1 := by kernel_rfl
@[go_sem] theorem Try.pl29_1 : plT Try.prog 29 1 = some 1 := by kernel_rfl
@[go_sem] theorem Try.fld29_2 : fldT Try.prog 29 2 = some 2 := by kernel_rfl
@[go_sem] theorem Try.fld29_3 : fldT Try.prog 29 3 = some 4 := by kernel_rfl
@[go_sem] theorem Try.fld29_4 : fldT Try.prog 29 4 = some 6 := by kernel_rfl
@[go_sem] theorem Try.fl129_4 : fld1T Try.prog 29 4 = some 6 := by kernel_rfl
@[go_sem] theorem Try.pl29_4 : plT Try.prog 29 4 = some 6 := by kernel_rfl
@[go_sem] theorem Try.plk29 : plOk Try.prog 29 = true := by kernel_rfl
@[go_sem] theorem Try.info29 : infoT Try.prog 29 = some (7, 152, [.val (.slice none 0 0), .val (.slice none 0 0), .val (.slice none 0 0), .val (.slice none 0 0), .val (.int .i64 0), .val (.slice none 0 0), .val (.slice none 0 0)]) := by kernel_rfl
@[go_sem] theorem Try.cof29 : Try.prog.cellsOf 29 = 7 := by kernel_rfl
@[go_sem] theorem Try.kind30 : kindT Try.prog 30 = some (some 7) := by kernel_rfl
@[go_sem] theorem Try.fld30_0 : fldT Try.prog 30 0 = some 0 := by kernel_rfl
@[go_sem] theorem Try.fl130_0 : fld1T Try.prog 30 0 = some 0 := by kernel_rfl
@[go_sem] theorem Try.pl30_0 : plT Try.prog 30 0 = some 0 := by kernel_rfl
@[go_sem] theorem Try.fld30_1 : fldT Try.prog 30 1 = some 1 := by kernel_rfl
@[go_sem] theorem Try.fl130_1 : fld1T Try.prog 30 1 = some 1 := by kernel_rfl
@[go_sem] theorem Try.pl30_1 : plT Try.prog 30 1 = some 1 := by kernel_rfl
@[go_sem] theorem Try.fld30_2 : fldT Try.prog 30 2 = some 2 := by kernel_rfl
@[go_sem] theorem Try.fld30_3 : fldT Try.prog 30 3 = some 4 := by kernel_rfl
@[go_sem] theorem Try.fld30_4 : fldT Try.prog 30 4 = some 6 := by kernel_rfl
@[go_sem] theorem Try.fl130_4 : fld1T Try.prog 30 4 = some 6 := by kernel_rfl
@[go_sem] theorem Try.pl30_4 : plT Try.prog 30 4 = some 6 := by kernel_rfl
@[go_sem] theorem Try.plk30 : plOk Try.prog 30 = true := by kernel_rfl
@[go_sem] theorem Try.info30 : infoT Try.prog 30 = some (7, 152, [.val (.slice none 0 0), .val (.slice none 0 0), .val (.slice none 0 0), .val (.slice none 0 0), .val (.int .i64 0), .val (.slice none 0 0), .val (.slice none 0 0)]) := by kernel_rfl
@[go_sem] theorem Try.cof30 : Try.prog.cellsOf 30 = 7 := by kernel_rfl
@[go_sem] theorem Try.kind31 : kindT Try.prog 31 = some none := by kernel_rfl
@[go_sem] theorem Try.cof31 : Try.prog.cellsOf 31 = 1 := by kernel_rfl
@[go_sem] theorem Try.kind32 : kindT Try.prog 32 = some none := by kernel_rfl
@[go_sem] theorem Try.cof32 : Try.prog.cellsOf 32 = 1 := by kernel_rfl
@[go_sem] theorem Try.kind33 : kindT Try.prog 33 = some (some 2) := by kernel_rfl
@[go_sem] theorem Try.fld33_0 : fldT Try.prog 33 0 = some 0 := by kernel_rfl
@[go_sem] theorem Try.fl133_0 : fld1T Try.prog 33 0 = some 0 := by kernel_rfl
@[go_sem] theorem Try.pl33_0 : plT Try.prog 33 0 = some 0 := by kernel_rfl
@[go_sem] theorem Try.fld33_1 : fldT Try.prog 33 1 = some 1 := by kernel_rfl
@[go_sem] theorem Try.fl133_1 : fld1T Try.prog 33 1 = some 1 := by kernel_rfl
@[go_sem] theorem Try.pl33_1 : plT Try.prog 33 1 = some 1 := by kernel_rfl
@[go_sem] theorem Try.plk33 : plOk Try.prog 33 = true := by kernel_rfl
@[go_sem] theorem Try.info33 : infoT Try.prog 33 = some (2, 48, [.val (.slice none 0 0), .val (.slice none 0 0)]) := by kernel_rfl
@[go_sem] theorem Try.cof33 : Try.prog.cellsOf 33 = 2 := by kernel_rfl
@[go_sem] theorem Try.kind34 : kindT Try.prog 34 = some none := by kernel_rfl
@[go_sem] theorem Try.elem34 : elemT Try.prog 34 = some 59 := by kernel_rfl
@[go_sem] theorem Try.info34 : infoT Try.prog 34 = some (1, 24, [.val (.slice none 0 0)]) := by kernel_rfl
@[go_sem] theorem Try.cof34 : Try.prog.cellsOf 34 = 1 := by kernel_rfl
theorem Try.und34 : Try.prog.underlying 34 = some (.slice 59) := by kernel_rfl
@[go_sem] theorem Try.kind35 : kindT Try.prog 35 = some (some 2) := by kernel_rfl
@[go_sem] theorem Try.fld35_0 : fldT Try.prog 35 0 = some 0 := by kernel_rfl
@[go_sem] theorem Try.fl135_0 : fld1T Try.prog 35 0 = some 0 := by kernel_rfl
@[go_sem] theorem Try.pl35_0 : plT Try.prog 35 0 = some 0 := by kernel_rfl
@[go_sem] theorem Try.fld35_1 : fldT Try.prog 35 1 = some 1 := by kernel_rfl
@[go_sem] theorem Try.fl135_1 : fld1T Try.prog 35 1 = some 1 := by kernel_rfl
@[go_sem] theorem Try.pl35_1 : plT Try.prog 35 1 = some 1 := by kernel_rfl
@[go_sem] theorem Try.plk35 : plOk Try.prog 35 = true := by kernel_rfl
@[go_sem] theorem Try.info35 : infoT Try.prog 35 = some (2, 32, [.val (.int .i64 0), .val (.slice none 0 0)]) := by kernel_rfl
@[go_sem] theorem Try.cof35 : Try.prog.cellsOf 35 = 2 := by kernel_rfl
@[go_sem] theorem Try.kind36 : kindT Try.prog 36 = some (some 2) := by kernel_rfl
@[go_sem] theorem Try.fld36_0 : fldT Try.prog 36 0 = some 0 := by kernel_rfl
@[go_sem] theorem Try.fl136_0 : fld1T Try.prog 36 0 = some 0 := by kernel_rfl
@[go_sem] theorem Try.pl36_0 : plT Try.prog 36 0 = some 0 := by kernel_rfl
@[go_sem] theorem Try.fld36_1 : fldT Try.prog 36 1 = some 1 := by kernel_rfl
@[go_sem] theorem Try.fl136_1 : fld1T Try.prog 36 1 = some 1 := by kernel_rfl
@[go_sem] theorem Try.pl36_1 : plT Try.prog 36 1 = some 1 := by kernel_rfl
@[go_sem] theorem Try.plk36 : plOk Try.prog 36 = true := by kernel_rfl
@[go_sem] theorem Try.info36 : infoT Try.prog 36 = some (2, 32, [.val (.int .i64 0), .val (.slice none 0 0)]) := by kernel_rfl
@[go_sem] theorem Try.cof36 : Try.prog.cellsOf 36 = 2 := by kernel_rfl
@[go_sem] theorem Try.kind37 : kindT Try.prog 37 = some (some 7) := by kernel_rfl
@[go_sem] theorem Try.fld37_0 : fldT Try.prog 37 0 = some 0 := by kernel_rfl
@[go_sem] theorem Try.fl137_0 : fld1T Try.prog 37 0 = some 0 := by kernel_rfl
@[go_sem] theorem Try.pl37_0 : plT Try.prog 37 0 = some 0 := by kernel_rfl
@[go_sem] theorem Try.fld37_1 : fldT Try.prog 37 1 = some 1 := by kernel_rfl
@[go_sem] theorem Try.fl137_1 : fld1T Try.prog 37 1 = some 1 := by kernel_rfl
@[go_sem] theorem Try.pl37_1 : plT Try.prog 37 1 = some 1 := by kernel_rfl
@[go_sem] theorem Try.fld37_2 : fldT Try.prog 37 2 = some 2 := by kernel_rfl
@[go_sem] theorem Try.fld37_3 : fldT Try.prog 37 3 = some 4 := by kernel_rfl
@[go_sem] theorem Try.fld37_4 : fldT Try.prog 37 4 = some 6 := by kernel_rfl
@[go_sem] theorem Try.fl137_4 : fld1T Try.prog 37 4 = some 6 := by kernel_rfl
@[go_sem] theorem Try.pl37_4 : plT Try.prog 37 4 = some 6 := by kernel_rfl
@[go_sem] theorem Try.plk37 : plOk Try.prog 37 = true := by kernel_rfl
@[go_sem] theorem Try.info37 : infoT Try.prog 37 = some (7, 152, [.val (.slice none 0 0), .val (.slice none 0 0), .val (.slice none 0 0), .val (.slice none 0 0), .val (.int .i64 0), .val (.slice none 0 0), .val (.slice none 0 0)]) := by kernel_rfl
@[go_sem] theorem Try.cof37 : Try.prog.cellsOf 37 = 7 := by kernel_rfl
@[go_sem] theorem Try.kind38 : kindT Try.prog 38 = some (some 7) := by kernel_rfl
@[go_sem] theorem Try.fld38_0 : fldT Try.prog 38 0 = some 0 := by kernel_rfl
@[go_sem] theorem Try.fl138_0 : fld1T Try.prog 38 0 = some 0 := by kernel_rfl
@[go_sem] theorem Try.pl38_0 : plT Try.prog 38 0 = some 0 := by kernel_rfl
@[go_sem] theorem Try.fld38_1 : fldT Try.prog 38 1 = some 1 := by kernel_rfl
@[go_sem] theorem Try.fl138_1 : fld1T Try.prog 38 1 = some 1 := by kernel_rfl
@[go_sem] theorem Try.pl38_1 : plT Try.prog 38 1 = some 1 := by kernel_rfl
@[go_sem] theorem Try.fld38_2 : fldT Try.prog 38 2 = some 2 := by kernel_rfl
@[go_sem] theorem Try.fld38_3 : fldT Try.prog 38 3 = some 4 := by kernel_rfl
@[go_sem] theorem Try.fld38_4 : fldT Try.prog 38 4 = some 6 := by kernel_rfl
@[go_sem] theorem Try.fl138_4 : fld1T Try.prog 38 4 = some 6 := by kernel_rfl
@[go_sem] theorem Try.pl38_4 : plT Try.prog 38 4 = some 6 := by kernel_rfl
@[go_sem] theorem Try.plk38 : plOk Try.prog 38 = true := by kernel_rfl
@[go_sem] theorem Try.info38 : infoT Try.prog 38 = some (7, 152, [.val (.slice none 0 0), .val (.slice none 0 0), .val (.slice none 0 0), .val (.slice none 0 0), .val (.int .i64 0), .val (.slice none 0 0), .val (.slice none 0 0)]) := by kernel_rfl
@[go_sem] theorem Try.cof38 : Try.prog.cellsOf 38 = 7 := by kernel_rfl
@[go_sem] theorem Try.kind39 : kindT Try.prog 39 = some none := by kernel_rfl
@[go_sem] theorem Try.cof39 : Try.prog.cellsOf 39 = 1 := by kernel_rfl
@[go_sem] theorem Try.kind40 : kindT Try.prog 40 = some none := by kernel_rfl
@[go_sem] theorem Try.cof40 : Try.prog.cellsOf 40 = 1 := by kernel_rfl
@[go_sem] theorem Try.kind41 : kindT Try.prog 41 = some none := by kernel_rfl
@[go_sem] theorem Try.cof41 : Try.prog.cellsOf 41 = 1 := by kernel_rfl
@[go_sem] theorem Try.kind42 : kindT Try.prog 42 = some none := by kernel_rfl
@[go_sem] theorem Try.cof42 : Try.prog.cellsOf 42 = 1 := by kernel_rfl
@[go_sem] theorem Try.kind43 : kindT Try.prog 43 = some none := by kernel_rfl
@[go_sem] theorem Try.cof43 : Try.prog.cellsOf 43 = 1 := by kernel_rfl
@[go_sem] theorem Try.kind44 : kindT Try.prog 44 = some none := by kernel_rfl
@[go_sem] theorem Try.cof44 : Try.prog.cellsOf 44 = 1 := by kernel_rfl
@[go_sem] theorem Try.kind45 : kindT Try.prog 45 = some none := by kernel_rfl
@[go_sem] theorem Try.cof45 : Try.prog.cellsOf 45 = 1 := by kernel_rfl
@[go_sem] theorem Try.kind46 : kindT Try.prog 46 = some none := by kernel_rfl
@[go_sem] theorem Try.cof46 : Try.prog.cellsOf 46 = 1 := by kernel_rfl
@[go_sem] theorem Try.kind47 : kindT Try.prog 47 = some none := by kernel_rfl
@[go_sem] theorem Try.cof47 : Try.prog.cellsOf 47 = 1 := by kernel_rfl
@[go_sem] theorem Try.kind48 : kindT Try.prog 48 = some none := by kernel_rfl
@[go_sem] theorem Try.cof48 : Try.prog.cellsOf 48 = 1 := by kernel_rfl
@[go_sem] theorem Try.kind49 : kindT Try.prog 49 = some none := by kernel_rfl
@[go_sem] theorem Try.cof49 : Try.prog.cellsOf 49 = 1 := by kernel_rfl
@[go_sem] theorem Try.kind50 : kindT Try.prog 50 = some none := by kernel_rfl
@[go_sem] theorem Try.cof50 : Try.prog.cellsOf 50 = 1 := by kernel_rfl
@[go_sem] theorem Try.kind51 : kindT Try.prog 51 = some none := by kernel_rfl
@[go_sem] theorem Try.cof51 : Try.prog.cellsOf 51 = 1 := by kernel_rfl
@[go_sem] theorem Try.kind52 : kindT Try.prog 52 = some none := by kernel_rfl
@[go_sem] theorem Try.cof52 : Try.prog.cellsOf 52 = 1 := by kernel_rfl
@[go_sem] theorem Try.kind53 : kindT Try.prog 53 = some none := by kernel_rfl
@[go_sem] theorem Try.cof53 : Try.prog.cellsOf 53 = 1 := by kernel_rfl
@[go_sem] theorem Try.kind54 : kindT Try.prog 54 = some none := by kernel_rfl
@[go_sem] theorem Try.cof54 : Try.prog.cellsOf 54 = 1 := by kernel_rfl
@[go_sem] theorem Try.kind55 : kindT Try.prog 55 = some none := by kernel_rfl
@[go_sem] theorem Try.cof55 : Try.prog.cellsOf 55 = 1 := by kernel_rfl
@[go_sem] theorem Try.kind56 : kindT Try.prog 56 = some none := by kernel_rfl
@[go_sem] theorem Try.cof56 : Try.prog.cellsOf 56 = 1 := by kernel_rfl
@[go_sem] theorem Try.kind57 : kindT Try.prog 57 = some none := by kernel_rfl
@[go_sem] theorem Try.cof57 : Try.prog.cellsOf 57 = 1 := by kernel_rfl
@[go_sem] theorem Try.kind58 : kindT Try.prog 58 = some none := by kernel_rfl
@[go_sem] theorem Try.cof58 : Try.prog.cellsOf 58 = 1 := by kernel_rfl
@[go_sem] theorem Try.kind59 : kindT Try.prog 59 = some none := by kernel_rfl
@[go_sem] theorem Try.elem59 : elemT Try.prog 59 = some 61 := by kernel_rfl
@[go_sem] theorem Try.info59 : infoT Try.prog 59 = some (1, 24, [.val (.slice none 0 0)]) := by kernel_rfl
@[go_sem] theorem Try.cof59 : Try.prog.cellsOf 59 = 1 := by kernel_rfl
theorem Try.und59 : Try.prog.underlying 59 = some (.slice 61) := by kernel_rfl
@[go_sem] theorem Try.kind60 : kindT Try.prog 60 = some (some 2) := by kernel_rfl
@[go_sem] theorem Try.fld60_0 : fldT Try.prog 60 0 = some 0 := by kernel_rfl
@[go_sem] theorem Try.fl160_0 : fld1T Try.prog 60 0 = some 0 := by kernel_rfl
@[go_sem] theorem Try.pl60_0 : plT Try.prog 60 0 = some 0 := by kernel_rfl
@[go_sem] theorem Try.fld60_1 : fldT Try.prog 60 1 = some 1 := by kernel_rfl
@[go_sem] theorem Try.fl160_1 : fld1T Try.prog 60 1 = some 1 := by kernel_rfl
@[go_sem] theorem Try.pl60_1 : plT Try.prog 60 1 = some 1 := by kernel_rfl
@[go_sem] theorem Try.plk60 : plOk Try.prog 60 = true := by kernel_rfl
@[go_sem] theorem Try.info60 : infoT Try.prog 60 = some (2, 32, [.val (.int .i64 0), .val (.slice none 0 0)]) := by kernel_rfl
@[go_sem] theorem Try.cof60 : Try.prog.cellsOf 60 = 2 := by kernel_rfl
@[go_sem] theorem Try.kind61 : kindT Try.prog 61 = some (some 2) := by kernel_rfl
@[go_sem] theorem Try.fld61_0 : fldT Try.prog 61 0 = some 0 := by kernel_rfl
@[go_sem] theorem Try.fl161_0 : fld1T Try.prog 61 0 = some 0 := by kernel_rfl
@[go_sem] theorem Try.pl61_0 : plT Try.prog 61 0 = some 0 := by kernel_rfl
@[go_sem] theorem Try.fld61_1 : fldT Try.prog 61 1 = some 1 := by kernel_rfl
@[go_sem] theorem Try.fl161_1 : fld1T Try.prog 61 1 = some 1 := by kernel_rfl
@[go_sem] theorem Try.pl61_1 : plT Try.prog 61 1 = some 1 := by kernel_rfl
@[go_sem] theorem Try.plk61 : plOk Try.prog 61 = true := by kernel_rfl
@[go_sem] theorem Try.info61 : infoT Try.prog 61 = some (2, 32, [.val (.int .i64 0), .val (.slice none 0 0)]) := by kernel_rfl
@[go_sem] theorem Try.cof61 : Try.prog.cellsOf 61 = 2 := by kernel_rfl
@[go_sem] theorem Try.kind62 : kindT Try.prog 62 = some none := by kernel_rfl
@[go_sem] theorem Try.cof62 : Try.prog.cellsOf 62 = 1 := by kernel_rfl
@[go_sem] theorem Try.kind63 : kindT Try.prog 63 = some none := by kernel_rfl
@[go_sem] theorem Try.cof63 : Try.prog.cellsOf 63 = 1 := by kernel_rfl
@[go_sem] theorem Try.kind64 : kindT Try.prog 64 = some none := by kernel_rfl
@[go_sem] theorem Try.cof64 : Try.prog.cellsOf 64 = 1 := by kernel_rfl
@[go_sem] theorem Try.kind65 : kindT Try.prog 65 = some none := by kernel_rfl
@[go_sem] theorem Try.cof65 : Try.prog.cellsOf 65 = 1 := by kernel_rfl
@[go_sem] theorem Try.kind66 : kindT Try.prog 66 = some none := by kernel_rfl
@[go_sem] theorem Try.cof66 : Try.prog.cellsOf 66 = 1 := by kernel_rfl
@[go_sem] theorem Try.kind67 : kindT Try.prog 67 = some none := by kernel_rfl
@[go_sem] theorem Try.cof67 : Try.prog.cellsOf 67 = 1 := by kernel_rfl
@[go_sem] theorem Try.kind68 : kindT Try.prog 68 = some none := by kernel_rfl
@[go_sem] theorem Try.elem68 : elemT Try.prog 68 = some 81 := by kernel_rfl
@[go_sem] theorem Try.info68 : infoT Try.prog 68 = some (1, 24, [.val (.slice none 0 0)]) := by kernel_rfl
@[go_sem] theorem Try.cof68 : Try.prog.cellsOf 68 = 1 := by kernel_rfl
theorem Try.und68 : Try.prog.underlying 68 = some (.slice 81) := by kernel_rfl
@[go_sem] theorem Try.kind69 : kindT Try.prog 69 = some none := by kernel_rfl
@[go_sem] theorem Try.cof69 : Try.prog.cellsOf 69 = 1 := by kernel_rfl
@[go_sem] theorem Try.kind70 : kindT Try.prog 70 = some none := by kernel_rfl
@[go_sem] theorem Try.cof70 : Try.prog.cellsOf 70 = 1 := by kernel_rfl
@[go_sem] theorem Try.kind71 : kindT Try.prog 71 = some none := by kernel_rfl
@[go_sem] theorem Try.cof71 : Try.prog.cellsOf 71 = 1 := by kernel_rfl
@[go_sem] theorem Try.kind72 : kindT Try.prog 72 = some none := by kernel_rfl
@[go_sem] theorem Try.cof72 : Try.prog.cellsOf 72 = 1 := by kernel_rfl
@[go_sem] theorem Try.kind73 : kindT Try.prog 73 = some none := by kernel_rfl
@[go_sem] theorem Try.cof73 : Try.prog.cellsOf 73 = 1 := by kernel_rfl
@[go_sem] theorem Try.kind74 : kindT Try.prog 74 = some none := by kernel_rfl
@[go_sem] theorem Try.cof74 : Try.prog.cellsOf 74 = 1 := by kernel_rfl
@[go_sem] theorem Try.kind75 : kindT Try.prog 75 = some none := by kernel_rfl
@[go_sem] theorem Try.cof75 : Try.prog.cellsOf 75 = 1 := by kernel_rfl
@[go_sem] theorem Try.kind76 : kindT Try.prog 76 = some none := by kernel_rfl
@[go_sem] theorem Try.cof76 : Try.prog.cellsOf 76 = 1 := by kernel_rfl
@[go_sem] theorem Try.kind77 : kindT Try.prog 77 = some none := by kernel_rfl
@[go_sem] theorem Try.cof77 : Try.prog.cellsOf 77 = 1 := by kernel_rfl
@[go_sem] theorem Try.kind78 : kindT Try.prog 78 = some none := by kernel_rfl
@[go_sem] theorem Try.cof78 : Try.prog.cellsOf 78 = 1 := by kernel_rfl
@[go_sem] theorem Try.kind79 : kindT Try.prog 79 = some none := by kernel_rfl
@[go_sem] theorem Try.cof79 : Try.prog.cellsOf 79 = 1 := by kernel_rfl
@[go_sem] theorem Try.kind80 : kindT Try.prog 80 = some none := by kernel_rfl
@[go_sem] theorem Try.cof80 : Try.prog.cellsOf 80 = 1 := by kernel_rfl
@[go_sem] theorem Try.kind81 : kindT Try.prog 81 = some (some 2) := by kernel_rfl
@[go_sem] theorem Try.fld81_0 : fldT Try.prog 81 0 = some 0 := by kernel_rfl
@[go_sem] theorem Try.fl181_0 : fld1T Try.prog 81 0 = some 0 := by kernel_rfl
@[go_sem] theorem Try.pl81_0 : plT Try.prog 81 0 = some 0 := by kernel_rfl
@[go_sem] theorem Try.fld81_1 : fldT Try.prog 81 1 = some 1 := by kernel_rfl
@[go_sem] theorem Try.fl181_1 : fld1T Try.prog 81 1 = some 1 := by kernel_rfl
@[go_sem] theorem Try.pl81_1 : plT Try.prog 81 1 = some 1 := by kernel_rfl
@[go_sem] theorem Try.plk81 : plOk Try.prog 81 = true := by kernel_rfl
@[go_sem] theorem Try.info81 : infoT Try.prog 81 = some (2, 32, [.val (.int .i64 0), .val (.slice none 0 0)]) := by kernel_rfl
@[go_sem] theorem Try.cof81 : Try.prog.cellsOf 81 = 2 := by kernel_rfl
@[go_sem] theorem Try.kind82 : kindT Try.prog 82 = some none := by kernel_rfl
@[go_sem] theorem Try.cof82 : Try.prog.cellsOf 82 = 1 := by kernel_rfl
@[go_sem] theorem Try.kind83 : kindT Try.prog 83 = some none := by kernel_rfl
@[go_sem] theorem Try.cof83 : Try.prog.cellsOf 83 = 1 := by kernel_rfl
@[go_sem] theorem Try.kind84 : kindT Try.prog 84 = some none := by kernel_rfl
@[go_sem] theorem Try.cof84 : Try.prog.cellsOf 84 = 1 := by kernel_rfl
@[go_sem] theorem Try.kind85 : kindT Try.prog 85 = some none := by kernel_rfl
@[go_sem] theorem Try.info85 : infoT Try.prog 85 = some (1, 8, [.val (.int .u64 0)]) := by kernel_rfl
@[go_sem] theorem Try.cof85 : Try.prog.cellsOf 85 = 1 := by kernel_rfl
@[go_sem] theorem Try.und85 : Try.prog.underlying 85 = some (.int .u64) := by kernel_rfl
@[go_sem] theorem Try.kind86 : kindT Try.prog 86 = some none := by kernel_rfl
@[go_sem] theorem Try.cof86 : Try.prog.cellsOf 86 = 1 := by kernel_rfl
@[go_sem] theorem Try.kind87 : kindT Try.prog 87 = some none := by kernel_rfl
@[go_sem] theorem Try.cof87 : Try.prog.cellsOf 87 = 1 := by kernel_rfl
@[go_sem] theorem Try.kind88 : kindT Try.prog 88 = some none := by kernel_rfl
@[go_sem] theorem Try.cof88 : Try.prog.cellsOf 88 = 1 := by kernel_rfl
@[go_sem] theorem Try.kind89 : kindT Try.prog 89 = some none := by kernel_rfl
@[go_sem] theorem Try.cof89 : Try.prog.cellsOf 89 = 1 := by kernel_rfl
@[go_sem] theorem Try.kind90 : kindT Try.prog 90 = some none := by kernel_rfl
@[go_sem] theorem Try.cof90 : Try.prog.cellsOf 90 = 1 := by kernel_rfl
@[go_sem] theorem Try.kind91 : kindT Try.prog 91 = some none := by kernel_rfl
@[go_sem] theorem Try.info91 : infoT Try.prog 91 = some (1, 8, [.val (.int .i64 0)]) := by kernel_rfl
@[go_sem] theorem Try.cof91 : Try.prog.cellsOf 91 = 1 := by kernel_rfl
@[go_sem] theorem Try.und91 : Try.prog.underlying 91 = some (.int .i64) := by kernel_rfl
@[go_sem] theorem Try.kind93 : kindT Try.prog 93 = some none := by kernel_rfl
@[go_sem] theorem Try.cof93 : Try.prog.cellsOf 93 = 1 := by kernel_rfl
@[go_sem] theorem Try.kind94 : kindT Try.prog 94 = some none := by kernel_rfl
@[go_sem] theorem Try.cof94 : Try.prog.cellsOf 94 = 1 := by kernel_rfl
@[go_sem] theorem Try.kind95 : kindT Try.prog 95 = some none := by kernel_rfl
@[go_sem] theorem Try.cof95 : Try.prog.cellsOf 95 = 1 := by kernel_rfl
@[go_sem] theorem Try.kind97 : kindT Try.prog 97 = some none := by kernel_rfl
@[go_sem] theorem Try.cof97 : Try.prog.cellsOf 97 = 1 := by kernel_rfl
@[go_sem] theorem Try.kind98 : kindT Try.prog 98 = some none := by kernel_rfl
@[go_sem] theorem Try.cof98 : Try.prog.cellsOf 98 = 1 := by kernel_rfl
@[go_sem] theorem Try.kind99 : kindT Try.prog 99 = some none := by kernel_rfl
@[go_sem] theorem Try.info99 : infoT Try.prog 99 = some (1, 4, [.val (.int .u32 0)]) := by kernel_rfl
@[go_sem] theorem Try.cof99 : Try.prog.cellsOf 99 = 1 := by kernel_rfl
@[go_sem] theorem Try.und99 : Try.prog.underlying 99 = some (.int .u32) := by kernel_rfl
@[go_sem] theorem Try.kind100 : kindT Try.prog 100 = some none := by kernel_rfl
@[go_sem] theorem Try.cof100 : Try.prog.cellsOf 100 = 1 := by kernel_rfl
@[go_sem] theorem Try.kind101 : kindT Try.prog 101 = some none := by kernel_rfl
@[go_sem] theorem Try.info101 : infoT Try.prog 101 = some (1, 8, [.val (.int .u64 0)]) := by kernel_rfl
@[go_sem] theorem Try.cof101 : Try.prog.cellsOf 101 = 1 := by kernel_rfl
@[go_sem] theorem Try.und101 : Try.prog.underlying 101 = some (.int .u64) := by kernel_rfl
@[go_sem] theorem Try.kind102 : kindT Try.prog 102 = some none := by kernel_rfl
@[go_sem] theorem Try.cof102 : Try.prog.cellsOf 102 = 1 := by kernel_rfl
@[go_sem] theorem Try.kind103 : kindT Try.prog 103 = some none := by kernel_rfl
@[go_sem] theorem Try.info103 : infoT Try.prog 103 = some (1, 8, [.val (.int .u64 0)]) := by kernel_rfl
@[go_sem] theorem Try.cof103 : Try.prog.cellsOf 103 = 1 := by kernel_rfl
@[go_sem] theorem Try.und103 : Try.prog.underlying 103 = some (.int .u64) := by kernel_rfl
@[go_sem] theorem Try.kind104 : kindT Try.prog 104 = some none := by kernel_rfl
@[go_sem] theorem Try.cof104 : Try.prog.cellsOf 104 = 1 := by kernel_rfl
@[go_sem] theorem Try.kind105 : kindT Try.prog 105 = some none := by kernel_rfl
@[go_sem] theorem Try.cof105 : Try.prog.cellsOf 105 = 1 := by kernel_rfl
@[go_sem] theorem Try.kind106 : kindT Try.prog 106 = some none := by kernel_rfl
@[go_sem] theorem Try.cof106 : Try.prog.cellsOf 106 = 1 := by kernel_rfl
@[go_sem] theorem Try.kind107 : kindT Try.prog 107 = some none := by kernel_rfl
@[go_sem] theorem Try.elem107 : elemT Try.prog 107 = none := by kernel_rfl
@[go_sem] theorem Try.cof107 : Try.prog.cellsOf 107 = 1 := by kernel_rfl
@[go_sem] theorem Try.kind108 : kindT Try.prog 108 = some none := by kernel_rfl
@[go_sem] theorem Try.cof108 : Try.prog.cellsOf 108 = 1 := by kernel_rfl
@[go_sem] theorem Try.kind109 : kindT Try.prog 109 = some none := by kernel_rfl
@[go_sem] theorem Try.elem109 : elemT Try.prog 109 = none := by kernel_rfl
@[go_sem] theorem Try.cof109 : Try.prog.cellsOf 109 = 1 := by kernel_rfl
@[go_sem] theorem Try.kind111 : kindT Try.prog 111 = some none := by kernel_rfl
@[go_sem] theorem Try.cof111 : Try.prog.cellsOf 111 = 1 := by kernel_rfl
@[go_sem] theorem Try.kind112 : kindT Try.prog 112 = some none := by kernel_rfl
@[go_sem] theorem Try.cof112 : Try.prog.cellsOf 112 = 1 := by kernel_rfl
@[go_sem] theorem Try.kind113 : kindT Try.prog 113 = some (some 4) := by kernel_rfl
@[go_sem] theorem Try.fld113_0 : fldT Try.prog 113 0 = some 0 := by kernel_rfl
@[go_sem] theorem Try.fl1113_0 : fld1T Try.prog 113 0 = some 0 := by kernel_rfl
@[go_sem] theorem Try.pl113_0 : plT Try.prog 113 0 = some 0 := by kernel_rfl
@[go_sem] theorem Try.fld113_1 : fldT Try.prog 113 1 = some 1 := by kernel_rfl
@[go_sem] theorem Try.fl1113_1 : fld1T Try.prog 113 1 = some 1 := by kernel_rfl
@[go_sem] theorem Try.pl113_1 : plT Try.prog 113 1 = some 1 := by kernel_rfl
@[go_sem] theorem Try.fld113_2 : fldT Try.prog 113 2 = some 2 := by kernel_rfl
@[go_sem] theorem Try.fl1113_2 : fld1T Try.prog 113 2 = some 2 := by kernel_rfl
@[go_sem] theorem Try.pl113_2 : plT Try.prog 113 2 = some 2 := by kernel_rfl
@[go_sem] theorem Try.fld113_3 : fldT Try.prog 113 3 = some 3 := by kernel_rfl
@[go_sem] theorem Try.fl1113_3 : fld1T Try.prog 113 3 = some 3 := by kernel_rfl
@[go_sem] theorem Try.pl113_3 : plT Try.prog 113 3 = some 3 := by kernel_rfl
@[go_sem] theorem Try.plk113 : plOk Try.prog 113 = true := by kernel_rfl
@[go_sem] theorem Try.cof113 : Try.prog.cellsOf 113 = 4 := by kernel_rfl
@[go_sem] theorem Try.kind114 : kindT Try.prog 114 = some (some 4) := by kernel_rfl
@[go_sem] theorem Try.fld114_0 : fldT Try.prog 114 0 = some 0 := by kernel_rfl
@[go_sem] theorem Try.fl1114_0 : fld1T Try.prog 114 0 = some 0 := by kernel_rfl
@[go_sem] theorem Try.pl114_0 : plT Try.prog 114 0 = some 0 := by kernel_rfl
@[go_sem] theorem Try.fld114_1 : fldT Try.prog 114 1 = some 1 := by kernel_rfl
@[go_sem] theorem Try.fl1114_1 : fld1T Try.prog 114 1 = some 1 := by kernel_rfl
@[go_sem] theorem Try.pl114_1 : plT Try.prog 114 1 = some 1 := by kernel_rfl
@[go_sem] theorem Try.fld114_2 : fldT Try.prog 114 2 = some 2 := by kernel_rfl
@[go_sem] theorem Try.fl1114_2 : fld1T Try.prog 114 2 = some 2 := by kernel_rfl
@[go_sem] theorem Try.pl114_2 : plT Try.prog 114 2 = some 2 := by kernel_rfl
@[go_sem] theorem Try.fld114_3 : fldT Try.prog 114 3 = some 3 := by kernel_rfl
@[go_sem] theorem Try.fl1114_3 : fld1T Try.prog 114 3 = some 3 := by kernel_rfl
@[go_sem] theorem Try.pl114_3 : plT Try.prog 114 3 = some 3 := by kernel_rfl
@[go_sem] theorem Try.plk114 : plOk Try.prog 114 = true := by kernel_rfl
@[go_sem] theorem Try.cof114 : Try.prog.cellsOf 114 = 4 := by kernel_rfl
@[go_sem] theorem Try.kind115 : kindT Try.prog 115 = some (some 0) := by kernel_rfl
@[go_sem] theorem Try.elem115 : elemT Try.prog 115 = none := by kernel_rfl
@[go_sem] theorem Try.arr115 : arrT Try.prog 115 = some (0, 1, true) := by kernel_rfl
@[go_sem] theorem Try.plk115 : plOk Try.prog 115 = true := by kernel_rfl
@[go_sem] theorem Try.info115 : infoT Try.prog 115 = some (0, 0, []) := by kernel_rfl
@[go_sem] theorem Try.cof115 : Try.prog.cellsOf 115 = 0 := by kernel_rfl
@[go_sem] theorem Try.kind116 : kindT Try.prog 116 = some (some 0) := by kernel_rfl
@[go_sem] theorem Try.plk116 : plOk Try.prog 116 = true := by kernel_rfl
@[go_sem] theorem Try.info116 : infoT Try.prog 116 = some (0, 0, []) := by kernel_rfl
@[go_sem] theorem Try.cof116 : Try.prog.cellsOf 116 = 0 := by kernel_rfl
@[go_sem] theorem Try.kind117 : kindT Try.prog 117 = some (some 0) := by kernel_rfl
@[go_sem] theorem Try.plk117 : plOk Try.prog 117 = true := by kernel_rfl
@[go_sem] theorem Try.info117 : infoT Try.prog 117 = some (0, 0, []) := by kernel_rfl
@[go_sem] theorem Try.cof117 : Try.prog.cellsOf 117 = 0 := by kernel_rfl
@[go_sem] theorem Try.kind118 : kindT Try.prog 118 = some none := by kernel_rfl
@[go_sem] theorem Try.cof118 : Try.prog.cellsOf 118 = 1 := by kernel_rfl
@[go_sem] theorem Try.kind119 : kindT Try.prog 119 = some none := by kernel_rfl
@[go_sem] theorem Try.info119 : infoT Try.prog 119 = some (1, 1, [.val (.int .u8 0)]) := by kernel_rfl
@[go_sem] theorem Try.cof119 : Try.prog.cellsOf 119 = 1 := by kernel_rfl
@[go_sem] theorem Try.und119 : Try.prog.underlying 119 = some (.int .u8) := by kernel_rfl
@[go_sem] theorem Try.kind120 : kindT Try.prog 120 = some none := by kernel_rfl
@[go_sem] theorem Try.info120 : infoT Try.prog 120 = some (1, 1, [.val (.int .u8 0)]) := by kernel_rfl
@[go_sem] theorem Try.cof120 : Try.prog.cellsOf 120 = 1 := by kernel_rfl
@[go_sem] theorem Try.und120 : Try.prog.underlying 120 = some (.int .u8) := by kernel_rfl
@[go_sem] theorem Try.kind121 : kindT Try.prog 121 = some none := by kernel_rfl
@[go_sem] theorem Try.cof121 : Try.prog.cellsOf 121 = 1 := by kernel_rfl
@[go_sem] theorem Try.kind122 : kindT Try.prog 122 = some none := by kernel_rfl
@[go_sem] theorem Try.elem122 : elemT Try.prog 122 = none := by kernel_rfl
@[go_sem] theorem Try.cof122 : Try.prog.cellsOf 122 = 1 := by kernel_rfl
@[go_sem] theorem Try.kind123 : kindT Try.prog 123 = some none := by kernel_rfl
@[go_sem] theorem Try.info123 : infoT Try.prog 123 = some (1, 4, [.val (.int .i32 0)]) := by kernel_rfl
@[go_sem] theorem Try.cof123 : Try.prog.cellsOf 123 = 1 := by kernel_rfl
@[go_sem] theorem Try.und123 : Try.prog.underlying 123 = some (.int .i32) := by kernel_rfl
@[go_sem] theorem Try.kind124 : kindT Try.prog 124 = some none := by kernel_rfl
@[go_sem] theorem Try.info124 : infoT Try.prog 124 = some (1, 4, [.val (.int .i32 0)]) := by kernel_rfl
@[go_sem] theorem Try.cof124 : Try.prog.cellsOf 124 = 1 := by kernel_rfl
@[go_sem] theorem Try.und124 : Try.prog.underlying 124 = some (.int .i32) := by kernel_rfl
@[go_sem] theorem Try.kind125 : kindT Try.prog 125 = some (some 11) := by kernel_rfl
@[go_sem] theorem Try.fld125_0 : fldT Try.prog 125 0 = some 0 := by kernel_rfl
@[go_sem] theorem Try.fl1125_0 : fld1T Try.prog 125 0 = some 0 := by kernel_rfl
@[go_sem] theorem Try.pl125_0 : plT Try.prog 125 0 = some 0 := by kernel_rfl
@[go_sem] theorem Try.fld125_1 : fldT Try.prog 125 1 = some 1 := by kernel_rfl
@[go_sem] theorem Try.fl1125_1 : fld1T Try.prog 125 1 = some 1 := by kernel_rfl
@[go_sem] theorem Try.pl125_1 : plT Try.prog 125 1 = some 1 := by kernel_rfl
@[go_sem] theorem Try.fld125_2 : fldT Try.prog 125 2 = some 2 := by kernel_rfl
@[go_sem] theorem Try.fl1125_2 : fld1T Try.prog 125 2 = some 2 := by kernel_rfl
@[go_sem] theorem Try.pl125_2 : plT Try.prog 125 2 = some 2 := by kernel_rfl
@[go_sem] theorem Try.fld125_3 : fldT Try.prog 125 3 = some 3 := by kernel_rfl
@[go_sem] theorem Try.fl1125_3 : fld1T Try.prog 125 3 = some 3 := by kernel_rfl
@[go_sem] theorem Try.pl125_3 : plT Try.prog 125 3 = some 3 := by kernel_rfl
@[go_sem] theorem Try.fld125_4 : fldT Try.prog 125 4 = some 4 := by kernel_rfl
@[go_sem] theorem Try.fl1125_4 : fld1T Try.prog 125 4 = some 4 := by kernel_rfl
@[go_sem] theorem Try.pl125_4 : plT Try.prog 125 4 = some 4 := by kernel_rfl
@[go_sem] theorem Try.fld125_5 : fldT Try.prog 125 5 = some 5 := by kernel_rfl
@[go_sem] theorem Try.fl1125_5 : fld1T Try.prog 125 5 = some 5 := by kernel_rfl
@[go_sem] theorem Try.pl125_5 : plT Try.prog 125 5 = some 5 := by kernel_rfl
@[go_sem] theorem Try.fld125_6 : fldT Try.prog 125 6 = some 6 := by kernel_rfl
@[go_sem] theorem Try.fl1125_6 : fld1T Try.prog 125 6 = some 6 := by kernel_rfl
@[go_sem] theorem Try.pl125_6 : plT Try.prog 125 6 = some 6 := by kernel_rfl
@[go_sem] theorem Try.fld125_7 : fldT Try.prog 125 7 = some 7 := by kernel_rfl
@[go_sem] theorem Try.fl1125_7 : fld1T Try.prog 125 7 = some 7 := by kernel_rfl
@[go_sem] theorem Try.pl125_7 : plT Try.prog 125 7 = some 7 := by kernel_rfl
@[go_sem] theorem Try.fld125_8 : fldT Try.prog 125 8 = some 8 := by kernel_rfl
@[go_sem] theorem Try.fl1125_8 : fld1T Try.prog 125 8 = some 8 := by kernel_rfl
@[go_sem] theorem Try.pl125_8 : plT Try.prog 125 8 = some 8 := by kernel_rfl
@[go_sem] theorem Try.fld125_9 : fldT Try.prog 125 9 = some 9 := by kernel_rfl
@[go_sem] theorem Try.fl1125_9 : fld1T Try.prog 125 9 = some 9 := by kernel_rfl
@[go_sem] theorem Try.pl125_9 : plT Try.prog 125 9 = some 9 := by kernel_rfl
@[go_sem] theorem Try.fld125_10 : fldT Try.prog 125 10 = some 10 := by kernel_rfl
@[go_sem] theorem Try.fl1125_10 : fld1T Try.prog 125 10 = some 10 := by kernel_rfl
@[go_sem] theorem Try.pl125_10 : plT Try.prog 125 10 = some 10 := by kernel_rfl
@[go_sem] theorem Try.plk125 : plOk Try.prog 125 = true := by kernel_rfl
@[go_sem] theorem Try.cof125 : Try.prog.cellsOf 125 = 11 := by kernel_rfl
@[go_sem] theorem Try.kind126 : kindT Try.prog 126 = some (some 11) := by kernel_rfl
@[go_sem] theorem Try.fld126_0 : fldT Try.prog 126 0 = some 0 := by kernel_rfl
@[go_sem] theorem Try.fl1126_0 : fld1T Try.prog 126 0 = some 0 := by kernel_rfl
@[go_sem] theorem Try.pl126_0 : plT Try.prog 126 0 = some 0 := by kernel_rfl
@[go_sem] theorem Try.fld126_1 : fldT Try.prog 126 1 = some 1 := by kernel_rfl
@[go_sem] theorem Try.fl1126_1 : fld1T Try.prog 126 1 = some 1 := by kernel_rfl
@[go_sem] theorem Try.pl126_1 : plT Try.prog 126 1 = some 1 := by kernel_rfl
@[go_sem] theorem Try.fld126_2 : fldT Try.prog 126 2 = some 2 := by kernel_rfl
@[go_sem] theorem Try.fl1126_2 : fld1T Try.prog 126 2 = some 2 := by kernel_rfl
@[go_sem] theorem Try.pl126_2 : plT Try.prog 126 2 = some 2 := by kernel_rfl
@[go_sem] theorem Try.fld126_3 : fldT Try.prog 126 3 = some 3 := by kernel_rfl
@[go_sem] theorem Try.fl1126_3 : fld1T Try.prog 126 3 = some 3 := by kernel_rfl
@[go_sem] theorem Try.pl126_3 : plT Try.prog 126 3 = some 3 := by kernel_rfl
@[go_sem] theorem Try.fld126_4 : fldT Try.prog 126 4 = some 4 := by kernel_rfl
@[go_sem] theorem Try.fl1126_4 : fld1T Try.prog 126 4 = some 4 := by kernel_rfl
@[go_sem] theorem Try.pl126_4 : plT Try.prog 126 4 = some 4 := by kernel_rfl
@[go_sem] theorem Try.fld126_5 : fldT Try.prog 126 5 = some 5 := by kernel_rfl
@[go_sem] theorem Try.fl1126_5 : fld1T Try.prog 126 5 = some 5 := by kernel_rfl
@[go_sem] theorem Try.pl126_5 : plT Try.prog 126 5 = some 5 := by kernel_rfl
@[go_sem] theorem Try.fld126_6 : fldT Try.prog 126 6 = some 6 := by kernel_rfl
@[go_sem] theorem Try.fl1126_6 : fld1T Try.prog 126 6 = some 6 := by kernel_rfl
@[go_sem] theorem Try.pl126_6 : plT Try.prog 126 6 = some 6 := by kernel_rfl
@[go_sem] theorem Try.fld126_7 : fldT Try.prog 126 7 = some 7 := by kernel_rfl
@[go_sem] theorem Try.fl1126_7 : fld1T Try.prog 126 7 = some 7 := by kernel_rfl
@[go_sem] theorem Try.pl126_7 : plT Try.prog 126 7 = some 7 := by kernel_rfl
@[go_sem] theorem Try.fld126_8 : fldT Try.prog 126 8 = some 8 := by kernel_rfl
@[go_sem] theorem Try.fl1126_8 : fld1T Try.prog 126 8 = some 8 := by kernel_rfl
@[go_sem] theorem Try.pl126_8 : plT Try.prog 126 8 = some 8 := by kernel_rfl
@[go_sem] theorem Try.fld126_9 : fldT Try.prog 126 9 = some 9 := by kernel_rfl
@[go_sem] theorem Try.fl1126_9 : fld1T Try.prog 126 9 = some 9 := by kernel_rfl
@[go_sem] theorem Try.pl126_9 : plT Try.prog 126 9 = some 9 := by kernel_rfl
@[go_sem] theorem Try.fld126_10 : fldT Try.prog 126 10 = some 10 := by kernel_rfl
@[go_sem] theorem Try.fl1126_10 : fld1T Try.prog 126 10 = some 10 := by kernel_rfl
@[go_sem] theorem Try.pl126_10 : plT Try.prog 126 10 = some 10 := by kernel_rfl
@[go_sem] theorem Try.plk126 : plOk Try.prog 126 = true := by kernel_rfl
@[go_sem] theorem Try.cof126 : Try.prog.cellsOf 126 = 11 := by kernel_rfl
@[go_sem] theorem Try.kind127 : kindT Try.prog 127 = some none := by kernel_rfl
@[go_sem] theorem Try.cof127 : Try.prog.cellsOf 127 = 1 := by kernel_rfl
@[go_sem] theorem Try.kind128 : kindT Try.prog 128 = some none := by kernel_rfl
@[go_sem] theorem Try.cof128 : Try.prog.cellsOf 128 = 1 := by kernel_rfl
@[go_sem] theorem Try.kind130 : kindT Try.prog 130 = some none := by kernel_rfl
@[go_sem] theorem Try.elem130 : elemT Try.prog 130 = some 132 := by kernel_rfl
@[go_sem] theorem Try.info130 : infoT Try.prog 130 = some (1, 24, [.val (.slice none 0 0)]) := by kernel_rfl
@[go_sem] theorem Try.cof130 : Try.prog.cellsOf 130 = 1 := by kernel_rfl
theorem Try.und130 : Try.prog.underlying 130 = some (.slice 132) := by kernel_rfl
@[go_sem] theorem Try.kind131 : kindT Try.prog 131 = some none := by kernel_rfl
@[go_sem] theorem Try.elem131 : elemT Try.prog 131 = none := by kernel_rfl
@[go_sem] theorem Try.map131 : mapT Try.prog 131 = true := by kernel_rfl
@[go_sem] theorem Try.ismap131 : isMapT Try.prog 131 = true := by kernel_rfl
@[go_sem] theorem Try.info131 : infoT Try.prog 131 = some (1, 8, [.val (.map none)]) := by kernel_rfl
@[go_sem] theorem Try.cof131 : Try.prog.cellsOf 131 = 1 := by kernel_rfl
@[go_sem] theorem Try.kind132 : kindT Try.prog 132 = some none := by kernel_rfl
@[go_sem] theorem Try.elem132 : elemT Try.prog 132 = none := by kernel_rfl
@[go_sem] theorem Try.map132 : mapT Try.prog 132 = true := by kernel_rfl
@[go_sem] theorem Try.ismap132 : isMapT Try.prog 132 = true := by kernel_rfl
@[go_sem] theorem Try.info132 : infoT Try.prog 132 = some (1, 8, [.val (.map none)]) := by kernel_rfl
@[go_sem] theorem Try.cof132 : Try.prog.cellsOf 132 = 1 := by kernel_rfl
@[go_sem] theorem Try.kind133 : kindT Try.prog 133 = some (some 3) := by kernel_rfl
@[go_sem] theorem Try.elem133 : elemT Try.prog 133 = none := by kernel_rfl
@[go_sem] theorem Try.arr133 : arrT Try.prog 133 = some (3, 1, true) := by kernel_rfl
@[go_sem] theorem Try.pl133_0 : plT Try.prog 133 0 = some 0 := by kernel_rfl
@[go_sem] theorem Try.pl133_1 : plT Try.prog 133 1 = some 1 := by kernel_rfl
@[go_sem] theorem Try.pl133_2 : plT Try.prog 133 2 = some 2 := by kernel_rfl
@[go_sem] theorem Try.plk133 : plOk Try.prog 133 = true := by kernel_rfl
@[go_sem] theorem Try.info133 : infoT Try.prog 133 = some (3, 24, [.val (.int .i64 0), .val (.int .i64 0), .val (.int .i64 0)]) := by kernel_rfl
@[go_sem] theorem Try.cof133 : Try.prog.cellsOf 133 = 3 := by kernel_rfl
@[go_sem] theorem Try.kind134 : kindT Try.prog 134 = some (some 3) := by kernel_rfl
@[go_sem] theorem Try.elem134 : elemT Try.prog 134 = none := by kernel_rfl
@[go_sem] theorem Try.arr134 : arrT Try.prog 134 = some (3, 1, true) := by kernel_rfl
@[go_sem] theorem Try.pl134_0 : plT Try.prog 134 0 = some 0 := by kernel_rfl
@[go_sem] theorem Try.pl134_1 : plT Try.prog 134 1 = some 1 := by kernel_rfl
@[go_sem] theorem Try.pl134_2 : plT Try.prog 134 2 = some 2 := by kernel_rfl
@[go_sem] theorem Try.plk134 : plOk Try.prog 134 = true := by kernel_rfl
@[go_sem] theorem Try.info134 : infoT Try.prog 134 = some (3, 24, [.val (.int .i64 0), .val (.int .i64 0), .val (.int .i64 0)]) := by kernel_rfl
@[go_sem] theorem Try.cof134 : Try.prog.cellsOf 134 = 3 := by kernel_rfl
@[go_sem] theorem Try.kind135 : kindT Try.prog 135 = some none := by kernel_rfl
@[go_sem] theorem Try.cof135 : Try.prog.cellsOf 135 = 1 := by kernel_rfl
end Go.Proofs

/- Layings of the library's sort at the program's own types. -/
namespace Go.Proofs.Ytoeikpioonlmfaa
open Go.Shelf Go.Sort
set_option maxRecDepth 100000
def Try.sortTrees_ren : Go.Shelf.Ren := ⟨fun | 6 => 53 | 15 => 68 | 14 => 67 | 28 => 83 | 29 => 84 | 20 => 75 | 21 => 76 | 22 => 77 | 23 => 78 | 24 => 79 | 25 => 80 | 26 => 81 | 27 => 82 | 46 => 87 | 47 => 88 | 48 => 89 | 49 => 90 | 50 => 91 | 57 => 92 | n => n, fun | 22 => 23 | 24 => 22 | 25 => 73 | 3 => 3 | 39 => 85 | 0 => 0 | 53 => 99 | 55 => 101 | 4 => 4 | 46 => 92 | 45 => 91 | 50 => 96 | 5 => 5 | 9 => 9 | 66 => 103 | 70 => 107 | 76 => 109 | 77 => 110 | n => n, fun | n => n⟩
theorem Try.sortTrees : Go.Proofs.SlLaysF.n6 Try.prog Try.sortTrees_ren := {
  mixed := by kernel_rfl,
  f6 := ⟨Try.f53.name, by decide, Try.func53.trans (congrArg some (by kernel_rfl))⟩,
  f14 := ⟨Try.f67.name, by decide, Try.func67.trans (congrArg some (by kernel_rfl))⟩,
  f15 := Try.func68.trans (congrArg some (by kernel_rfl)),
  f20 := ⟨Try.f75.name, by decide, Try.func75.trans (congrArg some (by kernel_rfl))⟩,
  f21 := ⟨Try.f76.name, by decide, Try.func76.trans (congrArg some (by kernel_rfl))⟩,
  f22 := ⟨Try.f77.name, by decide, Try.func77.trans (congrArg some (by kernel_rfl))⟩,
  f23 := ⟨Try.f78.name, by decide, Try.func78.trans (congrArg some (by kernel_rfl))⟩,
  f24 := ⟨Try.f79.name, by decide, Try.func79.trans (congrArg some (by kernel_rfl))⟩,
  f25 := ⟨Try.f80.name, by decide, Try.func80.trans (congrArg some (by kernel_rfl))⟩,
  f26 := ⟨Try.f81.name, by decide, Try.func81.trans (congrArg some (by kernel_rfl))⟩,
  f27 := ⟨Try.f82.name, by decide, Try.func82.trans (congrArg some (by kernel_rfl))⟩,
  f28 := Try.func83.trans (congrArg some (by kernel_rfl)),
  f29 := Try.func84.trans (congrArg some (by kernel_rfl)),
  f46 := ⟨Try.f87.name, by decide, Try.func87.trans (congrArg some (by kernel_rfl))⟩,
  f47 := Try.func88.trans (congrArg some (by kernel_rfl)),
  f48 := Try.func89.trans (congrArg some (by kernel_rfl)),
  f49 := ⟨Try.f90.name, by decide, Try.func90.trans (congrArg some (by kernel_rfl))⟩,
  f50 := ⟨Try.f91.name, by decide, Try.func91.trans (congrArg some (by kernel_rfl))⟩,
  f57 := ⟨Try.f92.name, by decide, Try.func92.trans (congrArg some (by kernel_rfl))⟩,
  t0 := Try.underlying0,
  a0 := Try.isAgg0,
  z0 := Try.sizeOf0,
  v0 := Try.zeroValue0,
  t3 := Try.underlying3,
  a3 := Try.isAgg3,
  z3 := Try.sizeOf3,
  v3 := Try.zeroValue3,
  t4 := Try.underlying4,
  a4 := Try.isAgg4,
  z4 := Try.sizeOf4,
  v4 := Try.zeroValue4,
  t5 := Try.underlying5,
  a5 := Try.isAgg5,
  z5 := Try.sizeOf5,
  v5 := Try.zeroValue5,
  t9 := Try.underlying9,
  a9 := Try.isAgg9,
  z9 := Try.sizeOf9,
  v9 := Try.zeroValue9,
  t22 := Try.underlying23,
  a22 := Try.isAgg23,
  z22 := Try.sizeOf23,
  v22 := Try.zeroValue23,
  a24 := Try.isAgg22,
  z24 := Try.sizeOf22,
  t25 := Try.underlying73,
  a25 := Try.isAgg73,
  z25 := Try.sizeOf73,
  v25 := Try.zeroValue73,
  t39 := Try.underlying85,
  a39 := Try.isAgg85,
  z39 := Try.sizeOf85,
  v39 := Try.zeroValue85,
  t45 := Try.underlying91,
  a45 := Try.isAgg91,
  z45 := Try.sizeOf91,
  v45 := Try.zeroValue91,
  t46 := Try.underlying92,
  a46 := Try.isAgg92,
  z46 := Try.sizeOf92,
  v46 := Try.zeroValue92,
  t50 := Try.underlying96,
  a50 := Try.isAgg96,
  z50 := Try.sizeOf96,
  v50 := Try.zeroValue96,
  t53 := Try.underlying99,
  a53 := Try.isAgg99,
  z53 := Try.sizeOf99,
  v53 := Try.zeroValue99,
  t55 := Try.underlying101,
  a55 := Try.isAgg101,
  z55 := Try.sizeOf101,
  v55 := Try.zeroValue101,
  t66 := Try.underlying103,
  a66 := Try.isAgg103,
  z66 := Try.sizeOf103,
  v66 := Try.zeroValue103,
  t70 := Try.underlying107,
  a70 := Try.isAgg107,
  z70 := Try.sizeOf107,
  v70 := Try.zeroValue107,
  t76 := Try.underlying109,
  a76 := Try.isAgg109,
  z76 := Try.sizeOf109,
  v76 := Try.zeroValue109,
  t77 := Try.underlying110,
  a77 := Try.isAgg110,
  z77 := Try.sizeOf110,
  v77 := Try.zeroValue110 }
end Go.Proofs.Ytoeikpioonlmfaa
